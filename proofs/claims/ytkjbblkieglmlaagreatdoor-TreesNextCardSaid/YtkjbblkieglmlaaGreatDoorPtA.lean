/- Part 1 of 7 of what the proofs of these laws stand on. -/
import Derived.WalkKit
import Derived.WalkSpells
import Derived.WalkLawsBesides
import Derived.Lib.Hide
import Derived.OrdersHeld
import Derived.Deep.RegionHeld
import Derived.BigQuiet
import Derived.OrdersIn
import Derived.TacticsIn
import Derived.RangeFuncOwn
import Derived.RangeFuncNested
import Derived.RangeFuncCalls
import Derived.Laws.IdiomRangeMap
import Derived.Laws.Cells
import Derived.Laws.Cover3
import Derived.Laws.StructEq
import Derived.ChangeKeysEq
import Derived.RowKit
import Derived.Deep.AppendSrc
import Derived.Laws.MakeOwn
import Derived.Great.BuildSlice
import Derived.Sort.LoopGhostIn
set_option linter.all false
namespace Go.Proofs.YtkjbblkieglmlaaGreatDoor
abbrev zAp:=@Nat.le_refl
abbrev zEH:=@Go.World.block_lt_of_cell?
end Go.Proofs.YtkjbblkieglmlaaGreatDoor
namespace Go.Proofs.YtkjbblkieglmlaaGreatDoor
open Go.RowKit
def Aq (w w':World):Prop:=Below w.heap.size w w'
theorem Aq.refl (w:World):Aq w w:=Below.refl _ _
theorem Aq.trans {a b c:World} (h:Aq a b) (k:Aq b c):Aq a c:=Below.trans h (Below.mono k h.size)
theorem Aq.alloc (w:World) (o:Obj):Aq w (w.alloc o):=(Below.refl _ _).alloc (zAp _) o
theorem Aq.allocR {w w':World} (h:Aq w w') (o:Obj):Aq w (w'.alloc o):=h.trans (Aq.alloc w' o)
theorem Aq.drewR {w w':World} (h:Aq w w'):Aq w w'.drew:=Below.drew h
theorem Aq.size {w w':World} (h:Aq w w'):w.heap.size<=w'.heap.size:=Below.size h
theorem Aq.cells {w w':World} (h:Aq w w'): ∀ b o,b<w.heap.size -> w'.cell? ⟨b,o,none⟩=w.cell? ⟨b,o,none⟩:=
 fun b o hb=>Below.cell h (p:=⟨b,o,none⟩) hb
theorem Aq.cell {w w':World} (h:Aq w w') {b o:Nat} {u:Value} (hc:w.cell? ⟨b,o,none⟩=some u):w'.cell? ⟨b,o,none⟩=some u:=by
 rw [h.cells b o (zEH w ⟨b,o,none⟩ hc)];exact hc
def FL (b:Bool) (e:Int):Int:=if b then 0 else e
theorem zBm (e:Int):FL true e=0:=rfl
structure AC where
 kind:Int
 cells:List Int
 set:Int
 other:Int
 lo:Int
 hi:Int
 runs:List Int
 rule:Int
 spot:Int
 deriving DecidableEq,Inhabited
structure AA where
 cells:Int
 symbols:Int
 values:List Int
 nbrs:List (List Int)
 cons:List AC
 deriving DecidableEq,Inhabited
end Go.Proofs.YtkjbblkieglmlaaGreatDoor
namespace Go.Proofs.YtkjbblkieglmlaaGreatDoor
abbrev zAE:=@if_pos
abbrev zAN:=@Bool.and_eq_true
abbrev zAR:=@Option.some.inj
abbrev zAU:=@if_neg
abbrev zAr:=@Go.Sem.run_bind
abbrev zAz:=@Bool.or_eq_true
abbrev zBG:=@Nat.lt_or_ge
abbrev zDJ:=@Bool.false_eq_true
abbrev zDu:=@beq_iff_eq
abbrev zFR:=@Go.mem_ready
abbrev zFm:=@Array.getElem?_eq_none
end Go.Proofs.YtkjbblkieglmlaaGreatDoor
namespace Go.Proofs.YtkjbblkieglmlaaGreatDoor
open Go.RowKit
def O7:Op -> Bool
 | .move _ | .assign _ | .pick .. | .load .. | .binOp .. | .unOp .. | .convert .. | .makeFunc .. | .slice .. | .fieldAddr .. | .field .. | .indexAddr .. | .index .. | .extract .. | .build .. | .lookup .. | .makeInterface .. | .nilCheck _ | .typeAssert .. =>true
 | .call c=>match c.callee with
  | .builtin .len | .builtin .cap | .builtin .min | .builtin .max=>true
  | _=>false
 | _=>false
theorem YD {P:Program} {w w':World} {α:Type} {s:Sem α} {f:α -> Value} {n:Next} (h:(s>>=fun x=>(pure (.value (f x)):Sem Next)).run P w= .ok n w'): ∃ v,n= .value v:=by
 rw [zAr] at h;cases hs:s.run P w with
 | ok v w1=>rw [hs] at h;simp only [Result.andThen] at h;cases h;exact ⟨_,rfl⟩
 | halt x w1=>rw [hs] at h;simp only [Result.andThen] at h;cases h
theorem uO {P:Program} {ρ:Operand -> Value} {o:Oper} {w w':World} {n:Next} (hp:O7 o.op=true) (h:(execOp ρ o).run P w= .ok n w'): ∃ v,n= .value v:=by
 unfold execOp at h;cases ho:o.op <;> rw [ho] at hp h <;> simp only [O7,zDJ] at hp
 all_goals first | exact YD (f:=fun x=>x) h | (cases h;exact ⟨_,rfl⟩) | skip
 ·rename_i c x y;exact YD (s:=asBool (ρ c)) (f:=fun b=>if b then ρ x else ρ y) h
 ·rename_i x
  have hb: ∀ {α:Type} (s:Sem α) (f:α -> Sem Next) (w0:World),(∀ a w1,(f a).run P w1= .ok n w' -> ∃ v,n= .value v) -> (s>>=f).run P w0= .ok n w' -> ∃ v,n= .value v:=by
   intro α s f w0 hf hr;rw [zAr] at hr;cases hs:s.run P w0 with
   | ok v w1=>rw [hs] at hr;exact hf _ _ hr
   | halt x w1=>rw [hs] at hr;simp only [Result.andThen] at hr;cases hr
  have WW:(runtimePanic .nilDeref:Sem Next).run P w= .ok n w' -> ∃ v,n= .value v:=by
   intro he;unfold runtimePanic at he;refine hb _ _ _ ?_ he;intro a w1 h1;cases h1
  simp only at h;split at h
  ·exact WW h
  ·exact WW h
  ·exact WW h
  ·split at h
   ·exact WW h
   ·refine hb _ _ _ ?_ h;intro p w1 h1;refine hb _ _ _ ?_ h1;intro q w2 h2;split at h2
    ·refine hb _ _ _ ?_ h2;intro r w3 h3;cases h3;exact ⟨_,rfl⟩
    ·cases h2;exact ⟨_,rfl⟩
   ·cases h;exact ⟨_,rfl⟩
  ·cases h;exact ⟨_,rfl⟩
 ·rename_i c;replace h:((resolve ρ c o.type)>>=fun d=>invoke d.target d.args).run P w= .ok n w':=h;rw [zAr] at h;unfold resolve at h;cases hc:c.callee with
  | value f=>rw [hc] at hp;simp at hp
  | invoke r m=>rw [hc] at hp;simp at hp
  | builtin b=>
   rw [hc] at hp h;have e: ∀ d:Deferred,(pure d:Sem Deferred).run P w= .ok d w:=fun _=>rfl
   simp only [e,Result.andThen] at h;unfold invoke at h;cases b <;> simp at hp <;> exact YD (f:=fun x=>x) h
structure UJ (w:World) where
 W:World
 le:Aq w W
def QZ (w:World):World -> Prop:=fun w'=>∃ x:UJ w,w'=x.W
theorem QZ.iff {w w':World}:QZ w w'↔Aq w w':=⟨fun ⟨x,e⟩=>e▸x.le,fun h=>⟨⟨w',h⟩,rfl⟩⟩
theorem Aq.toDrew (w:World):Aq w w.drew:=Aq.drewR (Aq.refl w)
section
variable {P:Program} {ops:Array Oper} {Q:Exit -> Act -> World -> Prop}
theorem oR {w:World} {o:Oper} {a:Act} {v:Value} (hp:O7 o.op=true) (hw:Region.wanted o (yielded ops a.tmps)=true)
 (h: ∀ w',QZ w w' -> o.quietAt P a (QZ w) w' v):YieldsIf P ops (Aq w) o v a:=by
 refine .inl ⟨hw,fun w' hE=>?_⟩;have:=h w' (QZ.iff.2 hE);unfold Oper.quietAt at this;cases hr:(execOp a.eval o).run P w' with
 | halt x w1=>rw [hr] at this;simp [Oper.quietUpon] at this
 | ok n w1=>
  obtain ⟨u,rfl⟩:=uO hp hr;rw [hr] at this;obtain ⟨rfl,rfl⟩:=this;rfl
def NP (Q:Exit -> Act -> World -> Prop):Exit -> Act -> World -> Prop
 | .panic _,_,_=>False
 | e,a,w=>Q e a w
theorem NP.put (c:List PanicEntry) (a:Act) (d:Option Tmp) (v:Value) (w:World) (h:NP Q (.panic c) (a.put d v) w):NP Q (.panic c) a w:=h.elim
def FT (ops:Array Oper) (AU:Array Bool):Prop:=∀ (j:Nat) (oj:Oper),ops[j]? =some oj -> AU.getD j false=true -> ∀ e∈oj.after,Region.binds .any e=true -> AU.getD e.on false=true
theorem FT.set {AU:Array Bool} {i:Nat} (h:FT ops AU) (hi:i∈Region.ready .any ops AU):FT ops (AU.setIfInBounds i true):=by
 obtain ⟨_,oi,zt,HQ⟩:=zFR.1 hi;intro j oj hj hl e he hb
 by_cases Pg:i=j
 ·subst Pg;have:oj=oi:=zAR (hj.symm.trans zt);subst this;exact getD_set_true (HQ e he hb)
 ·rw [getD_set_ne false Pg] at hl;exact getD_set_true (h j oj hj hl e he hb)
def El (ops:Array Oper):Nat -> Nat -> Nat -> Bool
 | 0,_,_=>false
 | n+1,t,i=>match ops[t]? with
  | none=>false
  | some o=>o.after.any fun e=>Region.binds .any e&&(e.on==i||El ops n e.on i)
theorem US {AU:Array Bool} (hc:FT ops AU): ∀ (n t i:Nat) (o:Oper),ops[t]? =some o -> (∀ e∈o.after,Region.binds .any e=true -> AU.getD e.on false=true) -> El ops n t i=true -> AU.getD i false=true
 | 0,_,_,_,_,_,h=>by simp [El] at h
 | n+1,t,i,o,ho,HQ,h=>by
  simp only [El,ho] at h;obtain ⟨e,he,hb⟩:=Array.any_eq_true'.1 h;simp only [zAN,zAz,zDu] at hb;obtain ⟨hb,h1 | h1⟩:=hb
  ·rw [←h1];exact HQ e he hb
  ·cases bL:ops[e.on]? with
   | none=>cases n <;> simp [El,bL] at h1
   | some o2=>exact US hc n e.on i o2 bL (hc e.on o2 bL (HQ e he hb)) h1
theorem TN {AU:Array Bool} {i:Nat} (h:AU.getD i true=false):AU.getD i false=false:=by
 rcases zBG i AU.size with h' | h'
 ·simp [h'] at h ⊢;exact h
 ·simp [zFm h'] at h
def CE (ops:Array Oper):List Nat -> List Oper
 | []=>[]
 | i::l=>match ops[i]? with | some o=>o::CE ops l | none=>CE ops l
def Q4 (ops:Array Oper) (Bw:Nat -> Bool):List Nat -> Array Bool -> Bool
 | [],_=>true
 | i::l,AU=>(Region.ready .any ops AU).contains i&&Region.free .any ops AU i&&(match ops[i]? with | some o=>O7 o.op | none=>false)&&
  ((List.range ops.size).all fun j=>!Bw j||El ops ops.size j i)&&Q4 ops Bw l (AU.setIfInBounds i true)
def J1 (l:List Nat) (AU:Array Bool):Array Bool:=l.foldl (fun s i=>s.setIfInBounds i true) AU
def Om (ops:Array Oper):List Nat -> Array Bool -> Bool
 | [],AU=>(Region.ready .any ops AU).isEmpty
 | t::ts,AU=>Region.ready .any ops AU== [t]&&Om ops ts (AU.setIfInBounds t true)
def Q5 (ops:Array Oper) (Bw:Nat -> Bool):List (List Nat×Nat) -> List Nat -> List Nat -> Array Bool -> Bool
 | [],BL,tail,AU=>Q4 ops Bw BL AU&&((List.range ops.size).all fun j=>Bw j||(J1 BL AU).getD j true)&&Om ops tail (J1 BL AU)
 | (Bh,i)::Ep,BL,tail,AU=>Q4 ops Bw Bh AU&&(Region.ready .any ops (J1 Bh AU)== [i])&&Q5 ops Bw Ep BL tail ((J1 Bh AU).setIfInBounds i true)
def Pi:List (List Nat×Nat) -> List Nat -> Nat
 | [],BL=>BL.length
 | (Bh,_)::Ep,BL=>Bh.length+(1+Pi Ep BL)
def Ym (ops:Array Oper) (CS:List (List Nat×Nat)) (BL tail:List Nat):Bool:=
 Region.noSelect ops&&Pi CS BL+tail.length==ops.size&&Q5 ops (fun j=>tail.contains j) CS BL tail (Array.replicate ops.size false)
theorem X5 {C:World -> Prop}: ∀ (l:List Oper) (a:Act) (K K':Act -> Prop),(∀ a,K a -> K' a) -> wpQuiet P ops C K l a -> wpQuiet P ops C K' l a
 | [],a,K,K',hk,h=>hk a h
 | o::l,a,K,K',hk,h=>by
  unfold wpQuiet at*
  by_cases hw:Region.wanted o (yielded ops a.tmps)=true
  ·rw [zAE hw] at h ⊢;exact Oper.quiet_mono (fun a h=>X5 l a K K' hk h) h
  ·rw [zAU hw] at h ⊢;exact X5 l _ K K' hk h
end
end Go.Proofs.YtkjbblkieglmlaaGreatDoor
namespace Go.Proofs.YtkjbblkieglmlaaGreatDoor
abbrev zAK:=@Array.getElem?_eq_some_iff
abbrev zAT:=@List.all_eq_true
abbrev zAi:=@List.mem_range
abbrev zAs:=@Nat.zero_add
abbrev zAu:=@List.mem_singleton
abbrev zA0:=@Array.getElem?_eq_getElem
abbrev zEE:=@List.length_nil
abbrev zEL:=@if_true
abbrev zEe:=@Go.Oper.semAt_eq
abbrev zEl:=@Array.mem_of_getElem?
abbrev zEr:=@if_false
abbrev zFN:=@Go.wpOpIn_mono
abbrev zFS:=@Go.Act.put_comm
abbrev zFT:=@Ne.symm
end Go.Proofs.YtkjbblkieglmlaaGreatDoor
namespace Go.Proofs.YtkjbblkieglmlaaGreatDoor
open Go.RowKit
def CP (ops:Array Oper):Bool:=ops.all fun o=>match o.op with
 | .defer _=>false
 | _=>true
theorem Gg {ops:Array Oper} (h:CP ops=true) {j:Nat} {o:Oper} (hj:ops[j]? =some o): ∀ c,o.op≠.defer c:=by
 intro c hc;have hm:o∈ops:=zEl hj;have:=Array.all_eq_true'.1 h o hm;rw [hc] at this;cases this
section
variable {F:Fence} {n:Nat} {P:Program} {ops:Array Oper} {Q:Exit -> Act -> World -> Prop}
theorem UN {S:World -> Prop} {i:Nat} {o:Oper} {v:Value} {a:Act} (hF: ∀ f,F.fn f) (hd: ∀ c,o.op≠.defer c) (hi:ops[i]? =some o) (hy:YieldsIf P ops S o v a)
 {K:Act -> World -> Prop} {w:World} (hS:S w) (h:K (a.put o.dst v) w):wpOpIn F n P ops Q i K a w:=by
 unfold Go.wpOpIn;simp only [hi];rcases hy with ⟨hw,hv⟩ | ⟨hw,rfl⟩
 ·simp only [hw,zEL,Oper.wpIn,zEe _ _ _ hd,hv w hS,Oper.uponIn];exact ⟨fun f _=>hF f,h⟩
 ·simp only [hw,zDJ,zEr];exact ⟨fun f _=>hF f,h⟩
theorem di {S:World -> Prop} {j:Nat} {oi oj:Oper} {v:Value} (hF: ∀ f,F.fn f) (lZ: ∀ c,oj.op≠.defer c) (hj:ops[j]? =some oj) (bW:oi.apart ops oj=true)
 (yG: ∀ cs b,oi.op≠.select cs b) (yB: ∀ cs b,oj.op≠.select cs b)
 (hQ: ∀ c a w,Q (.panic c) (a.put oi.dst v) w -> Q (.panic c) a w) {K:Act -> World -> Prop} {a:Act} {w:World}
 (hy:YieldsIf P ops S oi v a) (h:wpOpIn F n P ops Q j K (a.put oi.dst v) w):
 wpOpIn F n P ops Q j (fun a' w'=>YieldsIf P ops S oi v a'/\ K (a'.put oi.dst v) w') a w:=by
 obtain ⟨h1,h2,h3⟩:=Oper.apart_spec bW
 have D5: ∀ (a:Act),YieldsIf P ops S oi v a -> ∀ u,YieldsIf P ops S oi v (a.put oj.dst u):=fun a hy u=>
  hy.of_same (execOp_put oi yG a oj.dst u h3) (wanted_put oi a oj.dst u h3)
 have wm: ∀ d,YieldsIf P ops S oi v { a with defers:=d::a.defers }:=fun d=>hy.of_same rfl rfl
 unfold wpOpIn at*;simp only [hj] at*;rw [wanted_put oj a oi.dst v h1] at h;split
 ·rename_i hw;simp only [hw,zEL] at h;unfold Oper.wpIn at*;refine ⟨fun f _=>hF f,?_⟩;have h:=h.2;rw [zEe _ _ _ lZ,execOp_put oj yB a oi.dst v h1] at h;rw [zEe _ _ _ lZ]
  generalize (execOp a.eval oj).run P w=r at*
  cases r with
  | ok x w'=>
   cases x <;> simp only [Oper.uponIn] at h ⊢
   case value u=>exact ⟨D5 a hy u,by rw [←zFS a v u h2];exact h⟩
   case skip=>exact ⟨D5 a hy _,by rw [←zFS a v undef h2];exact h⟩
   case defer d=>
    refine ⟨D5 _ (wm d) _,?_⟩;rw [←zFS _ v undef h2,←Act.put_defers];exact h
   case enter f args=>
    refine ⟨h.1,CallsIn.mono h.2 fun e CI he=>?_⟩;cases e with
    | returned u=>exact ⟨D5 a hy u,by rw [←zFS a v u h2];exact he⟩
    | panicked c=>exact hQ _ _ _ he
    | outgrown=>exact he
   case row row args=>exact ⟨h.1,RowsIn.mono h.2 fun u CI he=>⟨D5 a hy u,by rw [←zFS a v u h2];exact he⟩⟩
   case round l f tmps assign body=>
    refine ⟨h.1,RoundIn.mono h.2 fun e CI he=>?_⟩;cases e with
    | returned u=>exact ⟨D5 a hy u,by rw [←zFS a v u h2];exact he⟩
    | panicked c=>exact hQ _ _ _ he
    | outgrown=>exact he
  | halt x w'=>
   cases x <;> simp only [Oper.uponIn] at h ⊢
   case panic u=>exact hQ _ _ _ h
 ·rename_i hw;simp only [hw] at h;exact ⟨fun f _=>hF f,D5 a hy _,by rw [←zFS a v undef h2];exact h.2⟩
theorem oX {i:Nat} {K:Act -> World -> Prop} {a:Act} {w:World} (h:wpOpIn F n P ops (NP Q) i K a w):wpOpIn F n P ops Q i K a w:=by
 unfold wpOpIn at*;split
 ·rename_i ho;simp only [ho] at h;exact h
 ·rename_i o ho;simp only [ho] at h;have hl:LetsOut (NP Q) -> LetsOut Q:=fun ⟨a,w,h⟩=>⟨a,w,h⟩
  by_cases hw:Region.wanted o (yielded ops a.tmps)=true
  ·rw [zAE hw] at h ⊢;unfold Oper.wpIn at*;refine ⟨h.1,?_⟩;have h:=h.2
   generalize (o.semAt F.round a.eval).run P w=r at*
   cases r with
   | ok x w'=>
    cases x <;> simp only [Oper.uponIn] at h ⊢ <;> first | exact h | skip
    ·refine ⟨h.1,CallsIn.mono h.2 fun e CI he=>?_⟩;cases e with
     | returned v=>exact he
     | panicked c=>exact he.elim
     | outgrown=>exact hl he
    ·refine ⟨h.1,RoundIn.mono h.2 fun e CI he=>?_⟩;cases e with
     | returned v=>exact he
     | panicked c=>exact he.elim
     | outgrown=>exact hl he
   | halt x w'=>cases x <;> simp only [Oper.uponIn] at h ⊢;exact h.elim
  ·rw [zAU hw] at h ⊢;exact h
def It (F:Fence) (n:Nat) (P:Program) (ops:Array Oper) (Q:Exit -> Act -> World -> Prop) (Bw:Nat -> Bool) (g:Nat) (S:World -> Prop):Nat -> Array Bool -> Act -> World -> Prop
 | 0,AU,a,w=>(∀ j,j<ops.size -> Bw j=false -> AU.getD j true=true)/\ wpAnyIn F n P .any ops Q g AU a w
 | m+1,AU,a,w=>Region.ready .any ops AU≠[]/\ ∀ i∈Region.ready .any ops AU,wpOpIn F n P ops (NP Q) i (fun a' w'=>S w'/\ It F n P ops Q Bw g S m (AU.setIfInBounds i true) a' w') a w
theorem X7 {Bw:Nat -> Bool} {g:Nat} {S S':World -> Prop} (hS: ∀ w,S' w -> S w): ∀ (m:Nat) (AU:Array Bool) (a:Act) (w:World),
 It F n P ops Q Bw g S' m AU a w -> It F n P ops Q Bw g S m AU a w
 | 0,_,_,_,h=>h
 | m+1,_,_,_,h=>⟨h.1,fun i hi=>zFN (fun _ _ h'=>⟨hS _ h'.1,X7 hS m _ _ _ h'.2⟩) (h.2 i hi)⟩
theorem dq {Bw:Nat -> Bool} {g:Nat} {S:World -> Prop}: ∀ (m:Nat) (AU:Array Bool) (a:Act) (w:World),It F n P ops Q Bw g S m AU a w -> wpAnyIn F n P .any ops Q (m+g) AU a w
 | 0,_,_,_,h=>by rw [zAs];exact h.2
 | m+1,_,_,_,h=>by
  rw [show m+1+g=(m+g)+1 by omega];exact ⟨fun h0=>absurd h0 h.1,fun i hi=>zFN (fun a' w' h'=>dq m _ a' w' h'.2) (oX (h.2 i hi))⟩
theorem dp (hF: ∀ f,F.fn f) (Au:CP ops=true) {Bw:Nat -> Bool} {g:Nat} {S:World -> Prop} {i k:Nat} {oi:Oper} {v:Value} (hi:ops[i]? =some oi) (Sw: ∀ (j:Nat) (o:Oper) cs b,ops[j]? =some o -> o.op≠.select cs b)
 (hT: ∀ j,j<ops.size -> Bw j=true -> El ops k j i=true):
 ∀ (m:Nat) (AU:Array Bool) (a:Act) (w:World),FT ops AU ->
  (∀ j oj,ops[j]? =some oj -> j≠i -> AU.getD j true=false -> (∀ e∈oj.after,Region.binds .any e=true -> e.on≠i) -> oi.apart ops oj=true) ->
  i∈Region.ready .any ops AU -> YieldsIf P ops S oi v a -> S w ->
  It F n P ops Q Bw g S m (AU.setIfInBounds i true) (a.put oi.dst v) w -> It F n P ops Q Bw g S (m+1) AU a w:=by
 intro m
 induction m with
 | zero=>
  intro AU a w A2 _ hr hy hS H;have Ly:=(zFR.1 hr).1;refine ⟨fun h=>(by rw [h] at hr;cases hr),fun j hj=>?_⟩
  by_cases Ee:j=i
  ·subst Ee;exact UN hF (Gg Au hi) hi hy hS ⟨hS,H⟩
  ·exfalso
   obtain ⟨JP,oj,Fc,HQ⟩:=zFR.1 hj;have Nu:=(zAK.1 Fc).1;cases ht:Bw j with
   | true=>
    have:=US A2 k j i oj Fc HQ (hT j Nu ht);rw [TN Ly] at this;cases this
   | false=>
    have:=H.1 j Nu ht;rw [getD_set_ne true (zFT Ee),JP] at this;cases this
 | succ m ih=>
  intro AU a w A2 S9 hr hy hS H;have Ly:=(zFR.1 hr).1;refine ⟨fun h=>(by rw [h] at hr;cases hr),fun j hj=>?_⟩
  by_cases Ee:j=i
  ·subst Ee;exact UN hF (Gg Au hi) hi hy hS ⟨hS,H⟩
  ·have h1:=H.2 j (ready_mono hj Ee);obtain ⟨JP,oj,Fc,HQ⟩:=zFR.1 hj
   have a7: ∀ e∈oj.after,Region.binds .any e=true -> e.on≠i:=fun e he hb bK=>by
    have h1:=HQ e he hb;rw [bK,TN Ly] at h1;cases h1
   have h2:=di hF (Gg Au Fc) Fc (S9 j oj Fc Ee JP a7) (fun cs b=>Sw i oi cs b hi) (fun cs b=>Sw j oj cs b Fc) (fun c a w h=>NP.put c a _ _ w h) hy h1
   have zAO: ∀ k ok,ops[k]? =some ok -> k≠i -> (AU.setIfInBounds j true).getD k true=false ->
    (∀ e∈ok.after,Region.binds .any e=true -> e.on≠i) -> oi.apart ops ok=true:=fun k ok hk S6 EG GN=>by
    refine S9 k ok hk S6 ?_ GN
    by_cases S7:j=k
    ·subst S7;exact JP
    ·rw [getD_set_ne true S7] at EG;exact EG
   refine zFN (fun a' w' h3=>⟨h3.2.1,ih (AU.setIfInBounds j true) a' w' (A2.set hj) zAO (ready_mono hr (zFT Ee)) h3.1 h3.2.1 ?_⟩) h2;rw [Array.setIfInBounds_comm _ _ Ee];exact h3.2.2
def Ol (F:Fence) (n:Nat) (P:Program) (ops:Array Oper) (Q:Exit -> Act -> World -> Prop):List Nat -> Act -> World -> Prop
 | [],a,w=>Q .normal a w
 | t::ts,a,w=>wpOpIn F n P ops Q t (Ol F n P ops Q ts) a w
def bw (Bh:List Nat) (b w:World):World:=match Bh with
 | []=>b
 | _=>w
def Nx (F:Fence) (n:Nat) (P:Program) (ops:Array Oper) (Q:Exit -> Act -> World -> Prop):World -> List (List Nat×Nat) -> List Nat -> List Nat -> Act -> World -> Prop
 | _,[],BL,tail,a,w=>wpQuiet P ops (fun w'=>∃ x:UJ w,w'=x.W) (fun a'=>Ol F n P ops Q tail a' w) (CE ops BL) a
 | b,(Bh,i)::Ep,BL,tail,a,w=>wpQuiet P ops (fun w'=>∃ x:UJ w,w'=x.W) (fun a'=>wpOpIn F n P ops (NP Q) i (fun GX CI=>Aq (bw Bh b w) CI/\ Nx F n P ops Q (bw Bh b w) Ep BL tail GX CI) a' w) (CE ops Bh) a
theorem YO: ∀ (tail:List Nat) (AU:Array Bool) (a:Act) (w:World),Om ops tail AU=true -> Ol F n P ops Q tail a w -> wpAnyIn F n P .any ops Q tail.length AU a w
 | [],AU,a,w,hk,h=>⟨by simpa [Om] using hk,h⟩
 | t::ts,AU,a,w,hk,h=>by
  simp only [Om,zAN,zDu] at hk;refine ⟨fun h0=>(by rw [hk.1] at h0;cases h0),fun i hi=>?_⟩;rw [hk.1,zAu] at hi;subst hi;exact zFN (fun a' w' h'=>YO ts _ a' w' hk.2 h') h
theorem Uy (hF: ∀ f,F.fn f) (Au:CP ops=true) {w:World} {Bw:Nat -> Bool} {g:Nat} (hs:Region.noSelect ops=true) {next:Act -> Prop} {m:Nat}:
 ∀ (l:List Nat) (AU:Array Bool) (a:Act),FT ops AU -> Q4 ops Bw l AU=true -> wpQuiet P ops (QZ w) next (CE ops l) a ->
  (∀ a',FT ops (J1 l AU) -> next a' -> It F n P ops Q Bw g (Aq w) m (J1 l AU) a' w) -> It F n P ops Q Bw g (Aq w) (l.length+m) AU a w
 | [],AU,a,A2,_,h,hn=>by
  simp only [zEE,zAs];exact hn a A2 h
 | i::l,AU,a,A2,hk,h,hn=>by
  simp only [Q4,zAN] at hk;obtain ⟨⟨⟨⟨hr,hf⟩,hp⟩,hT⟩,CZ⟩:=hk;have Cs:i∈Region.ready .any ops AU:=by simpa using hr
  have lr: ∀ j,j<ops.size -> Bw j=true -> El ops ops.size j i=true:=fun j hj ht=>by
   have:=zAT.1 hT j (zAi.2 hj);simpa [ht] using this
  have lR:(i::l).length+m=(l.length+m)+1:=by simp;omega
  rw [lR];cases hi:ops[i]? with
  | none=>rw [hi] at hp;simp at hp
  | some o=>
   rw [hi] at hp;simp only [CE,hi] at h;unfold wpQuiet at h
   by_cases hw:Region.wanted o (yielded ops a.tmps)=true
   ·rw [zAE hw] at h;obtain ⟨v,h1,h2⟩:=h;exact dp hF Au hi (Region.noSelect_spec hs) lr _ AU a w A2 (Region.free_spec hi hf) Cs (oR hp hw h1) (Aq.refl _) (Uy hF Au hs l _ _ (A2.set Cs) CZ h2 hn)
   ·rw [zAU hw] at h;exact dp hF Au hi (Region.noSelect_spec hs) lr _ AU a w A2 (Region.free_spec hi hf) Cs (.inr ⟨by simpa using hw,rfl⟩) (Aq.refl _) (Uy hF Au hs l _ _ (A2.set Cs) CZ h hn)
theorem lW (hF: ∀ f,F.fn f) (Au:CP ops=true) {Bw:Nat -> Bool} (hs:Region.noSelect ops=true):
 ∀ (CS:List (List Nat×Nat)) (BL tail:List Nat) (AU:Array Bool) (a:Act) (b w:World),Aq b w -> FT ops AU -> Q5 ops Bw CS BL tail AU=true -> Nx F n P ops Q b CS BL tail a w ->
  It F n P ops Q Bw tail.length (Aq b) (Pi CS BL) AU a w
 | [],BL,tail,AU,a,b,w,hb,A2,hk,h=>by
  simp only [Q5,zAN] at hk;obtain ⟨⟨h1,h2⟩,h3⟩:=hk
  have:=Uy (m:=0) hF Au hs BL AU a A2 h1 h (fun a' _ hq=>⟨fun j hj ht=>by
   have:=zAT.1 h2 j (zAi.2 hj);simpa [ht] using this,YO tail _ a' w h3 hq⟩)
  refine X7 (fun W hW=>hb.trans hW) _ _ _ _ ?_;simpa [Pi] using this
 | (Bh,i)::Ep,BL,tail,AU,a,b,w,hb,A2,hk,h=>by
  simp only [Q5,zAN,zDu] at hk;obtain ⟨⟨h1,h2⟩,h3⟩:=hk
  have one: ∀ (a':Act) (b':World),Aq b' w -> FT ops (J1 Bh AU) -> wpOpIn F n P ops (NP Q) i (fun GX CI=>Aq b' CI/\ Nx F n P ops Q b' Ep BL tail GX CI) a' w ->
   It F n P ops Q Bw tail.length (Aq b') (Pi Ep BL+1) (J1 Bh AU) a' w:=fun a' b' DA bR hq=>by
   refine ⟨fun h0=>(by rw [h2] at h0;cases h0),fun j hj=>?_⟩;have BT:=hj;rw [h2,zAu] at hj;subst hj;refine zFN (fun GX CI h'=>⟨h'.1,?_⟩) hq;exact lW hF Au hs Ep BL tail _ GX b' CI h'.1 (bR.set BT) h3 h'.2
  cases Bh with
  | nil=>
   have:=one a b hb A2 h;simpa [Pi,Nat.add_comm,J1] using this
  | cons s0 ss=>
   refine X7 (fun W hW=>hb.trans hW) _ _ _ _ ?_;refine Uy hF Au hs (s0::ss) AU a A2 h1 h fun a' bR hq=>?_
   rw [Nat.add_comm 1];exact one a' w (Aq.refl w) bR hq
theorem dj {id:Nat} {a:Act} {w:World} (hF: ∀ f,F.fn f) (CS:List (List Nat×Nat)) (BL tail:List Nat) (hm:P.follows .mixedOrders=true) (hB:(Ym ops CS BL tail&&CP ops)=true)
 (h:Nx F n P ops Q w.drew CS BL tail a w.drew):(Code.region id ops true).wpIn F n P Q a w:=by
 simp only [Ym,zAN,zDu] at hB;obtain ⟨⟨⟨h1,h2⟩,h3⟩,h4⟩:=hB
 have A2:FT ops (Array.replicate ops.size false):=fun j oj _ hl=>by
  exfalso
  rcases zBG j ops.size with h | h
  ·simp [h] at hl
  ·simp [h] at hl
 have:=dq _ _ _ _ (lW hF h4 h1 CS BL tail _ a w.drew w.drew (Aq.refl _) A2 h3 h);rw [h2] at this;exact wpIn_region_any hm this
theorem YP: ∀ (tail:List Nat) (a:Act) (w:World),(∀ t∈tail,t<ops.size) -> wpListIn F n P ops Q (CE ops tail) a w -> Ol F n P ops Q tail a w
 | [],_,_,_,h=>h
 | t::ts,a,w,hl,h=>by
  have ht:ops[t]? =some (ops[t]'(hl t (by simp))):=zA0 _;simp only [CE,ht] at h;unfold Ol wpOpIn;simp only [ht];unfold wpListIn at h;have hm: ∀ a w,wpListIn F n P ops Q (CE ops ts) a w -> Ol F n P ops Q ts a w:=fun a w h=>YP ts a w (fun t ht=>hl t (by simp [ht])) h
  by_cases hw:Region.wanted (ops[t]'(hl t (by simp))) (yielded ops a.tmps)=true
  ·rw [zAE hw] at h ⊢;exact Oper.wpIn_mono hm h
  ·rw [zAU hw] at h ⊢;exact ⟨h.1,hm _ _ h.2⟩
theorem zAV {BL tail:List Nat} {a:Act} {b w:World} (ht:(tail.all fun t=>decide (t<ops.size))=true)
 (h:wpQuiet P ops (fun w'=>∃ x:UJ w,w'=x.W) (fun a'=>wpListIn F n P ops Q (CE ops tail) a' w) (CE ops BL) a):
 Nx F n P ops Q b [] BL tail a w:=by
 refine X5 _ _ _ _ (fun a' h=>?_) h;exact YP tail a' w (fun t h=>by simpa using zAT.1 ht t h) h
end
end Go.Proofs.YtkjbblkieglmlaaGreatDoor
namespace Go.Proofs.YtkjbblkieglmlaaGreatDoor
abbrev zAW:=@Nat.lt_of_lt_of_le
abbrev zAt:=@Nat.le_trans
abbrev zA3:=@List.mem_cons
abbrev zDy:=@List.mem_of_getElem?
abbrev zEM:=@Go.World.putObj_heap_other
abbrev zEm:=@Go.wpIn_mono
abbrev zFl:=@Go.RowKit.Below.block
abbrev zGB:=@Go.callsIn_wide
end Go.Proofs.YtkjbblkieglmlaaGreatDoor
namespace Go.Proofs.YtkjbblkieglmlaaGreatDoor
open Go.RowKit
structure AP (S:Nat -> Prop) (w w':World):Prop where
 os:w'.os=w.os
 tape:w'.tape=w.tape
 output:w'.output=w.output
 size:w.heap.size<=w'.heap.size
 block: ∀ k,k<w.heap.size -> ¬ S k -> w'.heap[k]? =w.heap[k]?
theorem AP.refl (S:Nat -> Prop) (w:World):AP S w w:=⟨rfl,rfl,rfl,zAp _,fun _ _ _=>rfl⟩
theorem AP.comp {S S':Nat -> Prop} {a b c:World} (h:AP S a b) (k:AP S' b c) (hs: ∀ i,i<a.heap.size -> S' i -> S i):AP S a c:=
 ⟨k.os.trans h.os,k.tape.trans h.tape,k.output.trans h.output,zAt h.size k.size,
  fun i hi hn=>(k.block i (zAW hi h.size) (fun hx=>hn (hs i hi hx))).trans (h.block i hi hn)⟩
theorem AP.trans {S:Nat -> Prop} {a b c:World} (h:AP S a b) (k:AP S b c):AP S a c:=h.comp k fun _ _ h=>h
theorem AP.mono {S S':Nat -> Prop} {a b:World} (h:AP S a b) (hs: ∀ i,i<a.heap.size -> S i -> S' i):AP S' a b:=
 ⟨h.os,h.tape,h.output,h.size,fun i hi hn=>h.block i hi fun hx=>hn (hs i hi hx)⟩
theorem AP.ofExt {S:Nat -> Prop} {a b:World} (h:Aq a b):AP S a b:=⟨Below.os h,Below.tape h,Below.output h,Below.size h,fun i hi _=>zFl h i hi⟩
theorem AP.toExt {S:Nat -> Prop} {a b:World} (h:AP S a b) (hs: ∀ i,i<a.heap.size -> ¬ S i):Aq a b:=⟨h.os,h.tape,h.output,h.size,fun i hi=>h.block i hi (hs i hi)⟩
theorem AP.alloc {S:Nat -> Prop} {a b:World} (h:AP S a b) (o:Obj):AP S a (b.alloc o):=h.trans (AP.ofExt (Aq.alloc b o))
theorem AP.setCell {S:Nat -> Prop} {a b:World} (h:AP S a b) {p:Addr} (hp:p.block<a.heap.size -> S p.block) (u:Value):AP S a (b.setCell p u):=by
 refine h.comp (S':=fun k=>k=p.block) ⟨rfl,rfl,rfl,?_,fun k _ hk=>?_⟩ (fun i hi e=>by cases e;exact hp hi)
 ·show b.heap.size<=(b.heap.modify _ _).size
  rw [Array.size_modify];exact zAp _
 ·exact Below.heap_setCell b p u k hk
theorem AP.putObj {S:Nat -> Prop} {a b:World} (h:AP S a b) {l:Nat} (hl:l<a.heap.size -> S l) (o:Obj):AP S a (b.putObj l o):=by
 refine h.comp (S':=fun k=>k=l) ⟨rfl,rfl,rfl,by simp,fun k _ hk=>zEM hk⟩ (fun i hi e=>by cases e;exact hl hi)
theorem AP.cell {S:Nat -> Prop} {a b:World} (h:AP S a b) {p:Addr} {u:Value} (hs: ¬ S p.block) (hc:a.cell? p=some u):b.cell? p=some u:=by
 rw [World.cell?_of_block (h.block p.block (zEH a p hc) hs)];exact hc
def EL (I:(Nat -> Prop) -> (Nat -> Prop) -> World -> Prop):Prop:=
 ∀ (G R G' R':Nat -> Prop) (A B:World),I G R A -> AP G A B -> (∀ k,G' k -> G k∨A.heap.size<=k) -> (∀ k,R' k -> R k∨G k∨A.heap.size<=k) -> (∀ k,G k∨R k -> G' k∨R' k) -> (∀ k,G' k -> ¬ R' k) -> (∀ k,G' k∨R' k -> k<B.heap.size) -> I G' R' B
structure EW (G R:Nat -> Prop) (W:World):Prop where
 dis: ∀ k,G k -> ¬ R k
 lt: ∀ k,G k∨R k -> k<W.heap.size
theorem EW.upd {G R S:Nat -> Prop} {A B:World} (h:EW G R A) (hu:AP S A B):EW G R B:=⟨h.dis,fun k hk=>zAW (h.lt k hk) hu.size⟩
theorem EL.same {I:(Nat -> Prop) -> (Nat -> Prop) -> World -> Prop} (h:EL I) {G R:Nat -> Prop} {A B:World} (hs:EW G R A) (hi:I G R A) (hu:AP G A B):I G R B:=
 h G R G R A B hi hu (fun _ h=>.inl h) (fun _ h=>.inl h) (fun _ h=>h) hs.dis (hs.upd hu).lt
def sq (Keep:Nat -> Prop) (I:World -> Prop) (Ix:Code -> World -> Prop) (W:World):Exit -> Act -> World -> Prop
 | .normal,_,W'=>AP (fun k=>¬ Keep k) W W'/\ I W'
 | .ret,_,W'=>AP (fun k=>¬ Keep k) W W'/\ Ix .ret W'
 | .exit id,_,W'=>AP (fun k=>¬ Keep k) W W'/\ Ix (.exit id) W'
 | .goto t,_,W'=>AP (fun k=>¬ Keep k) W W'/\ Ix (.goto t) W'
 | .panic _,_,_=>False
 | .outgrown,_,_=>False
def UK (nv:Prop) (P:Program) (g:Nat) (lb:Array Value) {X:Type} (E:X -> (Nat -> Prop) -> World -> Array Value -> Prop) (encs:List X) (Iq:Ending -> (Nat -> Prop) -> (Nat -> Prop) -> World -> Prop) (G0 Rd:Nat -> Prop) (w:World):Prop:=
 ∀ (l:Nat) (J:Nat -> (Nat -> Prop) -> (Nat -> Prop) -> World -> Prop) (Jx:(Nat -> Prop) -> (Nat -> Prop) -> World -> Prop) (W:World),
  (∀ i,EL (J i)) -> EL Jx -> AP (fun k=>¬ (G0 k∨Rd k)) w W ->
  (∀ i x args G R W1,encs[i]? =some x -> E x R W1 args -> J i G R W1 -> EW G R W1 -> YieldAt Fence.wide 0 P l args W1 fun e W'=>
   AP (fun k=>¬ (G k∨R k)) W1 W'/\ ((e= .returned (.bool true)/\ J (i+1) G R W')∨(e= .returned (.bool false)/\ Jx G R W'))) ->
  J 0 G0 Rd W -> (nv -> ∀ G R W,¬ Jx G R W) ->
  CallsIn Fence.wide 0 P g (#[.func (.yield l) #[] #[]]++lb) W fun e W'=>∃ G R,EW G R W'/\ ((J encs.length G R W'/\ Iq e G R W')∨((∃ v,e= .returned v)/\ Jx G R W'))
abbrev MZ:=@UK False
section
variable {P:Program} {X:Type} {E:X -> (Nat -> Prop) -> World -> Array Value -> Prop} {Iq:Ending -> (Nat -> Prop) -> (Nat -> Prop) -> World -> Prop} {encs:List X} {G0 Rd:Nat -> Prop} {ps:Array Tmp} {assign body:Code} {a:Act} {gf:Nat} {lb:Array Value}
def Xu (P:Program) (E:X -> (Nat -> Prop) -> World -> Array Value -> Prop) (encs:List X) (ps:Array Tmp) (assign body:Code) (a:Act) (l:Nat) (I:Nat -> (Nat -> Prop) -> (Nat -> Prop) -> World -> Prop) (Ix:Code -> (Nat -> Prop) -> (Nat -> Prop) -> World -> Prop):Prop:=
 ∀ (G R:Nat -> Prop) (i:Nat) (x:X) (args:Array Value) (W:World),encs[i]? =some x -> E x R W args -> I i G R W -> EW G R W -> (∃ r,W.heap[l]? =some (.loop r)) -> G l ->
  assign.wpIn (Fence.wide.inRound l) 0 P (Exit.then (fun a₁ W₁=>∃ K:(Nat -> Prop) -> (Nat -> Prop) -> World -> Prop,EL K/\ AP (fun k=>¬ (G k∨R k)) W W₁/\ K G R W₁/\ ∀ W₂,K G R W₂ -> (∃ r,W₂.heap[l]? =some (.loop r)) ->
   body.wpIn (Fence.wide.inRound l) 0 P (sq (fun k=>G k∨R k) (I (i+1) G R) (fun c=>Ix c G R) W₂) a₁ W₂) (fun _ _ _=>False)) { tmps:=(ps.zip args).foldl (fun t (p,v)=>t.setIfInBounds p v) a.tmps,defers:=[] } W
theorem iR {nv:Prop} {w0 W1:World} {l D dd:Nat} {fn:FuncId} {loose:Bool}
 (hseq:UK nv P gf lb E encs Iq G0 Rd w0) (bV:AP (fun k=>¬ (G0 k∨Rd k)) w0 W1) (Fu: ∀ k,G0 k∨Rd k -> k<l/\ k≠D) (Pj: ∀ k,G0 k -> ¬ Rd k) (D6: ∀ x∈encs,∀ R W args,E x R W args -> args.size=ps.size)
 (Aj:LoopState -> Option Code -> Loop) (CD: ∀ st pe,Aj st pe= { state:=st,pending:=pe,fn,tmps:=a.tmps,params:=ps,assign,body,defers:=dd })
 (Fd:W1.heap[l]? =some (.loop (Aj .ready none))) (hD1:loose=false -> W1.heap[D]? =some (.deferred (some []))) (lB:D≠l)
 (I:Nat -> (Nat -> Prop) -> (Nat -> Prop) -> World -> Prop) (Ix:Code -> (Nat -> Prop) -> (Nat -> Prop) -> World -> Prop) (hI: ∀ i,EL (I i)) (JW: ∀ c,EL (Ix c)) (Kb:nv -> ∀ c G R W,¬ Ix c G R W) (own:Nat -> Prop) (Pc: ∀ k,own k -> k=l∨(loose=false/\ k=D)) (Ka:own l) (WZ:loose=false -> own D)
 (h0:I 0 (fun k=>G0 k∨own k) Rd W1) (C7:Xu P E encs ps assign body a l I Ix):
 CallsIn Fence.wide 0 P gf (#[.func (.yield l) #[] #[]]++lb) W1 fun e W2=>∃ G R,EW (fun k=>G k∨own k) R W2/\ (∀ k,own k -> ¬ G k)/\ (loose=false -> W2.heap[D]? =some (.deferred (some [])))/\
  ((I encs.length (fun k=>G k∨own k) R W2/\ Iq e G R W2/\ W2.heap[l]? =some (.loop (Aj .ready none)))∨((∃ v,e= .returned v)/\ ∃ c,Ix c (fun k=>G k∨own k) R W2/\ W2.heap[l]? =some (.loop (Aj .done (some c))))):=by
 have Rq: ∀ {W:World} {r:Loop} {k:Nat},W.heap[l]? =some (.loop r) -> (loose=false -> W.heap[D]? =some (.deferred (some []))) -> own k -> k<W.heap.size:=fun h4 h5 ho=>
  (Pc _ ho).elim (fun e=>e▸(zAK.1 h4).1) (fun e=>e.2▸(zAK.1 (h5 e.1)).1)
 have shr: ∀ {G R:Nat -> Prop} {W:World} {r:Loop},EW G R W -> (∀ k,own k -> ¬ G k/\ ¬ R k) -> W.heap[l]? =some (.loop r) -> (loose=false -> W.heap[D]? =some (.deferred (some []))) -> EW (fun k=>G k∨own k) R W:=fun hs hn h4 h5=>
  ⟨fun k hk=>hk.elim (hs.dis k) fun h=>(hn k h).2,fun k hk=>hk.elim (fun h=>h.elim (fun h=>hs.lt k (.inl h)) (Rq h4 h5)) fun h=>hs.lt k (.inr h)⟩
 have DC: ∀ (Φ:(Nat -> Prop) -> (Nat -> Prop) -> World -> Prop) (r:Loop),EL Φ -> EL (fun G R W=>Φ (fun k=>G k∨own k) R W/\ (∀ k,own k -> ¬ G k/\ ¬ R k)/\ W.heap[l]? =some (.loop r)/\ (loose=false -> W.heap[D]? =some (.deferred (some [])))):=by
  rintro Φ r hΦ G R G' R' A B ⟨h1,h2,h4,h5⟩ hu hg hr EG hd AO
  have hn: ∀ k,own k -> ¬ G' k/\ ¬ R' k:=fun k ho=>by
   have:=Rq h4 h5 ho;exact ⟨fun hx=>(hg k hx).elim (h2 k ho).1 (by omega),fun hx=>(hr k hx).elim (h2 k ho).2 fun hx=>hx.elim (h2 k ho).1 (by omega)⟩
  have Wr:=(hu.block l (Rq h4 h5 Ka) (h2 l Ka).1).trans h4;have mF:loose=false -> B.heap[D]? =some (.deferred (some [])):=fun hl=>(hu.block D (Rq h4 h5 (WZ hl)) (h2 D (WZ hl)).1).trans (h5 hl)
  refine ⟨hΦ _ R _ R' A B h1 (hu.mono fun i _ h=>.inl h) (fun k hk=>hk.elim (fun h=>(hg k h).imp .inl id) fun h=>.inl (.inr h)) (fun k hk=>(hr k hk).imp id fun h=>h.imp .inl id) (fun k hk=>?_) (fun k hk=>hk.elim (hd k) fun h=>(hn k h).2) (fun k hk=>hk.elim (fun h=>h.elim (fun h=>AO k (.inl h)) (Rq Wr mF)) fun h=>AO k (.inr h)),hn,Wr,mF⟩;rcases hk with (hk | hk) | hk
  ·exact (EG k (.inl hk)).imp .inl id
  ·exact .inl (.inr hk)
  ·exact (EG k (.inr hk)).imp .inl id
 have hGl: ∀ k,G0 k∨Rd k -> k<W1.heap.size:=fun k h=>Nat.lt_trans (Fu k h).1 (zAK.1 Fd).1
 have Gl: ∀ k,own k -> ¬ G0 k/\ ¬ Rd k:=fun k ho=>by
  have hx: ¬ (G0 k∨Rd k):=fun hx=>by
   have:=Fu k hx;rcases Pc k ho with e | ⟨_,e⟩ <;> omega
  exact ⟨fun h=>hx (.inl h),fun h=>hx (.inr h)⟩
 refine (hseq l
  (fun i G R W=>I i (fun k=>G k∨own k) R W/\ (∀ k,own k -> ¬ G k/\ ¬ R k)/\ W.heap[l]? =some (.loop (Aj .ready none))/\ (loose=false -> W.heap[D]? =some (.deferred (some []))))
  (fun G R W=>∃ c,Ix c (fun k=>G k∨own k) R W/\ (∀ k,own k -> ¬ G k/\ ¬ R k)/\ W.heap[l]? =some (.loop (Aj .done (some c)))/\ (loose=false -> W.heap[D]? =some (.deferred (some []))))
  W1 (fun i=>DC (I i) _ (hI i)) (fun G R G' R' A B ⟨c,h⟩ hu hg hr EG hd AO=>⟨c,DC (Ix c) _ (JW c) G R G' R' A B h hu hg hr EG hd AO⟩) bV ?_ ⟨h0,Gl,Fd,hD1⟩ (fun hn G R W ⟨c,h,_⟩=>Kb hn c _ _ _ h)).mono ?_
 ·rintro i x args G R W hx hE ⟨hi,hn,hl,hd⟩ hs;have WP:x∈encs:=zDy hx;have AO:l<W.heap.size:=(zAK.1 hl).1;have Hz:=shr hs hn hl hd;have hy:=run_yield (P:=P) (args:=args) hl (by rw [CD];exact D6 x WP R W args hE);rw [CD] at hy;refine ⟨fn,_,assign,body,hy,roundIn_of_wpIn trivial (zEm (C7 _ R i x args W hx hE hi Hz ⟨_,hl⟩ (.inr Ka)) ?_)⟩;rintro e a1 Kx hq;cases e <;> first | exact hq.elim | skip
  obtain ⟨K,hK,Hx,Wf,hb⟩:=hq;have xn:AP (fun k=>¬ (G k∨R k)) W Kx:=Hx.mono fun k _ h hx=>h (hx.imp .inl id)
  have hl:=(Hx.block l AO (fun h=>h (.inl (.inr Ka)))).trans hl;have hd:loose=false -> Kx.heap[D]? =some (.deferred (some [])):=fun h=>(Hx.block D (zAK.1 (hd h)).1 (fun hx=>hx (.inl (.inr (WZ h))))).trans (hd h)
  have AO:l<Kx.heap.size:=zAW AO Hx.size;have ke:=Hz.upd Hx;refine ⟨_,run_beginRound hl (by rw [CD]),?_⟩;have Cg:(Kx.putObj l (.loop { Aj .ready none with state:=.busy })).heap[l]? =some (.loop { Aj .ready none with state:=.busy }):=World.putObj_heap_same AO;have TE:loose=false -> (Kx.putObj l (.loop { Aj .ready none with state:=.busy })).heap[D]? =some (.deferred (some [])):=fun h=>(zEM lB).trans (hd h)
  have WQ:AP (fun k=>G k∨own k) Kx (Kx.putObj l (.loop { Aj .ready none with state:=.busy })):=(AP.refl _ Kx).putObj (fun _=>.inr Ka) _;refine zEm (hb _ (hK.same ke Wf WQ) ⟨_,Cg⟩) ?_
  have fin: ∀ (Es:Option Code) (W3:World),AP (fun k=>¬ ((G k∨own k)∨R k)) (Kx.putObj l (.loop { Aj .ready none with state:=.busy })) W3 ->
   (Instr.endRound l Es).run P W3= .ok (.bool Es.isNone) (W3.putObj l (.loop (Aj (if Es.isNone then .ready else .done) Es)))/\
   (W3.putObj l (.loop (Aj (if Es.isNone then .ready else .done) Es))).heap[l]? =some (.loop (Aj (if Es.isNone then .ready else .done) Es))/\
   (loose=false -> (W3.putObj l (.loop (Aj (if Es.isNone then .ready else .done) Es))).heap[D]? =some (.deferred (some [])))/\
   AP (fun k=>¬ (G k∨R k)) W (W3.putObj l (.loop (Aj (if Es.isNone then .ready else .done) Es)))/\
   EW (fun k=>G k∨own k) R W3/\ AP (fun k=>G k∨own k) W3 (W3.putObj l (.loop (Aj (if Es.isNone then .ready else .done) Es))):=fun Es W3 JO=>by
   have lC:W3.heap[l]? =some (.loop { Aj .ready none with state:=.busy }):=(JO.block l (by simpa using AO) (fun h=>h (.inl (.inr Ka)))).trans Cg;have:=run_endRound (P:=P) Es lC;refine ⟨by rw [CD] at this ⊢;exact this,World.putObj_heap_same (zAK.1 lC).1,fun h=>(zEM lB).trans ((JO.block D ?_ (fun hx=>hx (.inl (.inr (WZ h))))).trans (TE h)),xn.comp (S':=fun k=>¬ (G k∨R k)) ?_ (fun _ _ h=>h),(ke.upd WQ).upd JO,(AP.refl _ W3).putObj (fun _=>.inr Ka) _⟩
   ·simpa using (zAK.1 (hd h)).1
   ·refine ⟨JO.os,JO.tape,JO.output,by simpa using JO.size,fun k hk Pd=>?_⟩;have lz:G k∨R k:=Classical.not_not.1 Pd
    by_cases D7:k=l
    ·subst D7;exact (lz.elim (hn k Ka).1 (hn k Ka).2).elim
    ·rw [zEM D7,JO.block k (by simpa using hk) (fun hx=>hx (lz.imp .inl id)),zEM D7]
  rintro e a3 W3 hp;cases e with
  | normal=>
   obtain ⟨JO,hi3⟩:=hp;obtain ⟨hr,Nt,Ke,Nl,Nm,Nk⟩:=fin none W3 JO;exact ⟨_,_,hr,Nl,.inl ⟨rfl,(hI _).same Nm hi3 Nk,hn,Nt,Ke⟩⟩
  | ret=>
   obtain ⟨hr,Nt,Ke,Nl,Nm,Nk⟩:=fin (some .ret) W3 hp.1;exact ⟨_,_,hr,Nl,.inr ⟨rfl,.ret,(JW _).same Nm hp.2 Nk,hn,Nt,Ke⟩⟩
  | exit id=>
   obtain ⟨hr,Nt,Ke,Nl,Nm,Nk⟩:=fin (some (.exit id)) W3 hp.1;exact ⟨_,_,hr,Nl,.inr ⟨rfl,(.exit id),(JW _).same Nm hp.2 Nk,hn,Nt,Ke⟩⟩
  | goto t=>
   obtain ⟨hr,Nt,Ke,Nl,Nm,Nk⟩:=fin (some (.goto t)) W3 hp.1;exact ⟨_,_,hr,Nl,.inr ⟨rfl,(.goto t),(JW _).same Nm hp.2 Nk,hn,Nt,Ke⟩⟩
  | panic ch=>exact hp.elim
  | outgrown=>exact hp.elim
 ·rintro e W2 ⟨G,R,hs,(⟨⟨h1,h2,h4,h5⟩,ho⟩ | ⟨hv,c,h1,h2,h4,h5⟩)⟩
  ·exact ⟨G,R,shr hs h2 h4 h5,fun k h=>(h2 k h).1,h5,.inl ⟨h1,ho,h4⟩⟩
  ·exact ⟨G,R,shr hs h2 h4 h5,fun k h=>(h2 k h).1,h5,.inr ⟨hv,c,h1,h4⟩⟩
theorem dk {nv:Prop} {g:Operand} {Q:Exit -> Act -> World -> Prop} {w:World} (hg:a.eval g= .func (.func gf) #[] lb) (eg: ∀ args w,(callFunc gf args).run P w= .ok (.enter gf args) w)
 (hseq:UK nv P gf lb E encs Iq G0 Rd w) (Fu:EW G0 Rd w) (D6: ∀ x∈encs,∀ R W args,E x R W args -> args.size=ps.size)
 (I:Nat -> (Nat -> Prop) -> (Nat -> Prop) -> World -> Prop) (Ix:Code -> (Nat -> Prop) -> (Nat -> Prop) -> World -> Prop) (hI: ∀ i,EL (I i)) (JW: ∀ c,EL (Ix c)) (Kb:nv -> ∀ c G R W,¬ Ix c G R W) (h0:I 0 G0 Rd w) (C7: ∀ l,Xu P E encs ps assign body a l I Ix)
 (Dh: ∀ (D:Nat) (e:Ending) (G R own:Nat -> Prop) (W W':World),Iq e G R W -> I encs.length (fun k=>G k∨own k) R W' -> EW (fun k=>G k∨own k) R W' -> (∀ k,own k -> ¬ G k) -> AP own W W' -> W'.heap[D]? =some (.deferred (some [])) -> w.heap.size<=D ->
  match e with
  | .returned _=>Q .normal { a with defers:={ target:=.collected D,args:=#[] }::a.defers } W'
  | .panicked c=>Q (.panic c) { a with defers:={ target:=.collected D,args:=#[] }::a.defers } W'
  | .outgrown=>False)
 (PZ: ∀ (D:Nat) (c:Code) (G R:Nat -> Prop) (W:World),Ix c G R W -> W.heap[D]? =some (.deferred (some [])) -> w.heap.size<=D ->
  c.wpIn Fence.wide 0 P Q { a with defers:={ target:=.collected D,args:=#[] }::a.defers } W):
 (Code.rangeFunc g ps assign body).wpIn Fence.wide 0 P Q a w:=by
 refine wpIn_rangeFunc ?_;intro fn _;have Hz:(w.alloc (.deferred (some []))).heap.size=w.heap.size+1:=World.size_alloc _ _;obtain ⟨Aj,CD⟩: ∃ Aj:LoopState -> Option Code -> Loop,∀ st pe,Aj st pe= { state:=st,pending:=pe,fn,tmps:=a.tmps,params:=ps,assign,body,defers:=w.heap.size }:=⟨_,fun _ _=>rfl⟩;obtain ⟨W1,L3⟩: ∃ W1,(w.alloc (.deferred (some []))).alloc (.loop (Aj .ready none))=W1:=⟨_,rfl⟩
 have Kh:W1.heap[w.heap.size+1]? =some (.loop (Aj .ready none)):=by
  rw [←L3];have:=World.alloc_heap_new (w.alloc (.deferred (some []))) (.loop (Aj .ready none));rwa [World.size_alloc] at this
 have hK1:W1.heap[w.heap.size]? =some (.deferred (some [])):=by
  rw [←L3];exact (Below.heap_alloc _ _ _ (by simp)).trans (World.alloc_heap_new w _)
 have hu: ∀ S,AP S w W1:=fun S=>by rw [←L3];exact ((AP.refl S w).alloc _).alloc _
 have AO:=(zAK.1 Kh).1
 refine ⟨w.heap.size+1,[{ target:=.collected w.heap.size,args:=#[] }],W1,{ target:=.fn (.func gf) lb,args:=#[.func (.yield (w.heap.size+1)) #[] #[]] },W1,gf,
  #[.func (.yield (w.heap.size+1)) #[] #[]]++lb,W1,?_,?_,fun _ _=>trivial,?_,(fun h=>by cases h),?_⟩
 ·rw [←L3,CD];exact run_enterLoop_outer _ _ _ _ _
 ·simp only [resolve,hg];simp [go_sem]
 ·simp [invoke,go_sem,eg]
 ·refine (iR (loose:=false) (D:=w.heap.size) hseq (hu _) (fun k h=>by have:=Fu.lt k h;omega) Fu.dis D6 Aj CD Kh (fun _=>hK1) (by omega)
   I Ix hI JW Kb (fun k=>k=w.heap.size+1∨k=w.heap.size) (fun k h=>h.imp id fun h=>⟨rfl,h⟩) (.inl rfl) (fun _=>.inr rfl)
   (hI 0 G0 Rd _ Rd _ _ h0 (hu _) (fun k h=>h.imp id (by omega)) (fun k h=>.inl h) (fun k h=>h.imp .inl id) (fun k h hr=>?_) (fun k h=>?_)) (C7 _)).mono ?_
  ·rcases h with h | h
   ·exact Fu.dis k h hr
   ·have:=Fu.lt k (.inr hr);omega
  ·rcases h with (h | h) | h
   ·have:=Fu.lt k (.inl h);omega
   ·omega
   ·have:=Fu.lt k (.inr h);omega
  rintro e W2 ⟨G,R,hs,hn,hk,(⟨hi,ho,hl⟩ | ⟨⟨v,rfl⟩,c,hi,hl⟩)⟩
  ·have hp: ∀ o,AP (fun k=>k=w.heap.size+1∨k=w.heap.size) W2 (W2.putObj (w.heap.size+1) o):=fun o=>(AP.refl _ W2).putObj (fun _=>.inl rfl) _
   have BF: ∀ o,AP (fun k=>G k∨k=w.heap.size+1∨k=w.heap.size) W2 (W2.putObj (w.heap.size+1) o):=fun o=>(hp o).mono fun _ _ h=>.inr h
   cases e with
   | returned v=>exact ⟨none,_,by have:=run_endLoop (P:=P) hl (by rw [CD];simp);rw [CD] at this;exact this,
    Dh _ (.returned v) G R _ W2 _ ho ((hI _).same hs hi (BF _)) (hs.upd (hp _)) hn (hp _) ((zEM (by omega)).trans (hk rfl)) (zAp _)⟩
   | panicked c=>exact Dh _ (.panicked c) G R _ W2 W2 ho hi hs hn (AP.refl _ _) (hk rfl) (zAp _)
   | outgrown=>exact (Dh _ .outgrown G R _ W2 W2 ho hi hs hn (AP.refl _ _) (hk rfl) (zAp _)).elim
  ·exact ⟨some c,_,by have:=run_endLoop (P:=P) hl (by rw [CD];simp);rw [CD] at this;exact this,
    PZ _ c _ _ _ ((JW _).same hs hi ((AP.refl _ W2).putObj (fun _=>.inr (.inl rfl)) _)) ((zEM (by omega)).trans (hk rfl)) (zAp _)⟩
theorem oZ {nv:Prop} {l0:Nat} {g:Operand} {Q:Exit -> Act -> World -> Prop} {w:World} (hg:a.eval g= .func (.func gf) #[] lb) (eg: ∀ args w,(callFunc gf args).run P w= .ok (.enter gf args) w) (bE: ∃ r,w.heap[l0]? =some (.loop r))
 (hseq:UK nv P gf lb E encs Iq G0 Rd w) (Fu:EW G0 Rd w) (D6: ∀ x∈encs,∀ R W args,E x R W args -> args.size=ps.size)
 (I:Nat -> (Nat -> Prop) -> (Nat -> Prop) -> World -> Prop) (Ix:Code -> (Nat -> Prop) -> (Nat -> Prop) -> World -> Prop) (hI: ∀ i,EL (I i)) (JW: ∀ c,EL (Ix c)) (Kb:nv -> ∀ c G R W,¬ Ix c G R W) (h0:I 0 G0 Rd w) (C7: ∀ l,Xu P E encs ps assign body a l I Ix)
 (Dh: ∀ (e:Ending) (G R own:Nat -> Prop) (W W':World),Iq e G R W -> I encs.length (fun k=>G k∨own k) R W' -> EW (fun k=>G k∨own k) R W' -> (∀ k,own k -> ¬ G k) -> AP own W W' ->
  match e with
  | .returned _=>Q .normal a W'
  | .panicked c=>Q (.panic c) a W'
  | .outgrown=>False)
 (PZ: ∀ (c:Code) (G R:Nat -> Prop) (W:World),Ix c G R W -> c.wpIn (Fence.wide.inRound l0) 0 P Q a W):
 (Code.rangeFunc g ps assign body).wpIn (Fence.wide.inRound l0) 0 P Q a w:=by
 refine wpIn_rangeFunc ?_;intro fn _;obtain ⟨r0,Et⟩:=bE;obtain ⟨Aj,CD⟩: ∃ Aj:LoopState -> Option Code -> Loop,∀ st pe,Aj st pe= { state:=st,pending:=pe,fn,tmps:=a.tmps,params:=ps,assign,body,defers:=r0.defers }:=⟨_,fun _ _=>rfl⟩;obtain ⟨W1,L3⟩: ∃ W1,w.alloc (.loop (Aj .ready none))=W1:=⟨_,rfl⟩
 have Kh:W1.heap[w.heap.size]? =some (.loop (Aj .ready none)):=by
  rw [←L3];exact World.alloc_heap_new w _
 have hu: ∀ S,AP S w W1:=fun S=>by rw [←L3];exact (AP.refl S w).alloc _
 have AO:=(zAK.1 Kh).1
 refine ⟨w.heap.size,[],W1,{ target:=.fn (.func gf) lb,args:=#[.func (.yield w.heap.size) #[] #[]] },W1,gf,
  #[.func (.yield w.heap.size) #[] #[]]++lb,W1,?_,?_,fun _ _=>trivial,?_,(fun h=>by cases h),?_⟩
 ·rw [←L3,CD];exact run_enterLoop_inner Et _ _ _ _ _
 ·simp only [resolve,hg];simp [go_sem]
 ·simp [invoke,go_sem,eg]
 ·refine CallsIn.inRound _ ((iR (loose:=true) (D:=w.heap.size+1) (G0:=G0) hseq (hu _) (fun k h=>by have:=Fu.lt k h;omega) Fu.dis D6 Aj CD Kh (fun h=>by cases h) (by omega)
   I Ix hI JW Kb (fun k=>k=w.heap.size) (fun k h=>.inl h) rfl (fun h=>by cases h)
   (hI 0 G0 Rd _ Rd _ _ h0 (hu _) (fun k h=>h.imp id (by omega)) (fun k h=>.inl h) (fun k h=>h.imp .inl id) (fun k h hr=>?_) (fun k h=>?_)) (C7 _)).mono ?_)
  ·rcases h with h | h
   ·exact Fu.dis k h hr
   ·have:=Fu.lt k (.inr hr);omega
  ·rcases h with (h | h) | h
   ·have:=Fu.lt k (.inl h);omega
   ·omega
   ·have:=Fu.lt k (.inr h);omega
  rintro e W2 ⟨G,R,hs,hn,_,(⟨hi,ho,hl⟩ | ⟨⟨v,rfl⟩,c,hi,hl⟩)⟩
  ·have hp: ∀ o,AP (fun k=>k=w.heap.size) W2 (W2.putObj w.heap.size o):=fun o=>(AP.refl (fun k=>k=w.heap.size) W2).putObj (fun _=>rfl) _
   cases e with
   | returned v=>exact ⟨none,_,by have:=run_endLoop (P:=P) hl (by rw [CD];simp);rw [CD] at this;exact this,
    Dh (.returned v) G R _ W2 _ ho ((hI _).same hs hi ((hp _).mono fun _ _ h=>.inr h)) (hs.upd (hp _)) hn (hp _)⟩
   | panicked c=>exact Dh (.panicked c) G R _ W2 W2 ho hi hs hn (AP.refl _ _)
   | outgrown=>exact (Dh .outgrown G R _ W2 W2 ho hi hs hn (AP.refl _ _)).elim
  ·exact ⟨some c,_,by have:=run_endLoop (P:=P) hl (by rw [CD];simp);rw [CD] at this;exact this,
    PZ c _ _ _ ((JW _).same hs hi ((AP.refl _ W2).putObj (fun _=>.inr rfl) _))⟩
end
def EZ (B:Nat):List Deferred -> World -> Prop
 | [],_=>True
 | d::ds,w=>∃ D,d= { target:=.collected D,args:=#[] }/\ B<=D/\ w.heap[D]? =some (.deferred (some []))/\ (∀ d'∈ds,d'.target≠.collected D)/\ EZ B ds w
theorem EZ.upd {B:Nat} {S:Nat -> Prop} {w w':World} (hu:AP S w w'): ∀ {ds:List Deferred},EZ B ds w -> (∀ k,B<=k -> S k -> w.heap[k]? ≠some (.deferred (some []))) -> EZ B ds w'
 | [],_,_=>trivial
 | _::_,⟨D,h1,h2,h3,h4,h5⟩,hs=>⟨D,h1,h2,(hu.block D (zAK.1 h3).1 (fun hx=>hs D h2 hx h3)).trans h3,h4,EZ.upd hu h5 hs⟩
theorem EZ.lt {B:Nat} {w:World}: ∀ {ds:List Deferred} (_:EZ B ds w) {d:Deferred} {D:Nat},d∈ds -> d.target= .collected D -> D<w.heap.size
 | _::_,⟨D,h1,h2,h3,h4,h5⟩,d,D',hm,ht=>by
  rcases zA3.1 hm with rfl | hm
  ·subst h1;cases ht;exact (zAK.1 h3).1
  ·exact EZ.lt h5 hm ht
def OX (B:Nat) (w W:World):Prop:=AP (fun k=>B<=k/\ w.heap[k]? =some (.deferred (some []))) w W
def uL (B:Nat) (P:Program) (fn:Func) (R:Ending -> World -> Prop):Exit -> Act -> World -> Prop
 | .normal,a,w | .ret,a,w=>EZ B a.defers w/\ ∀ W,OX B w W -> ∃ v,(results fn a.tmps).run P W= .ok v W/\ R (.returned v) W
 | _,_,_=>False
theorem jn {B:Nat} {P:Program} {fn:Func} {tmps:Array Value} {R:Ending -> World -> Prop}: ∀ (ds:List Deferred) (w:World),EZ B ds w ->
 (∀ W,OX B w W -> ∃ v,(results fn tmps).run P W= .ok v W/\ R (.returned v) W) -> LeavesInM Fence.wide 0 P fn tmps R ds .returning w
 | [],w,_,h=>h w (AP.refl _ w)
 | _::ds,w,⟨D,h1,h2,h3,h4,h5⟩,h=>by
  refine ⟨by simp,.inl ⟨D,_,by rw [h1],run_takeDeferred h3,?_⟩⟩;have hu:AP (fun k=>k=D) w (w.putObj D (.deferred none)):=(AP.refl (fun k=>k=D) w).putObj (fun _=>rfl) _
  have Am: ∀ {ds:List Deferred},(∀ d'∈ds,d'.target≠.collected D) -> EZ B ds w -> EZ B ds (w.putObj D (.deferred none)):=by
   intro ds
   induction ds with
   | nil=>intro _ _;trivial
   | cons d ds ih=>
    intro hd ⟨D',g1,g2,g3,g4,g5⟩;refine ⟨D',g1,g2,?_,g4,ih (fun d' hm=>hd d' (by simp [hm])) g5⟩;rw [zEM (fun e=>hd d (by simp) (by rw [g1,e]))];exact g3
  refine jn ds _ (Am h4 h5) fun W hW=>h W ?_
  refine hu.mono (S':=fun k=>B<=k/\ w.heap[k]? =some (.deferred (some []))) (fun i _ e=>by cases e;exact ⟨h2,h3⟩) |>.comp hW fun i hi hx=>⟨hx.1,?_⟩
  by_cases e:i=D
  ·rw [e];exact h3
  ·rw [←zEM (o:=.deferred none) e];exact hx.2
theorem zC6 (B:Nat) {P:Program} {f:FuncId} {fn:Func} {c:Code} {args:Array Value} {w:World} {R:Ending -> World -> Prop}
 (hf:P.funcs[f]? =some fn) (hb:fn.body=some c)
 (h:c.wp P (uL B P fn R) { tmps:=args++Array.replicate (fn.ntmps-args.size) undef,defers:=[] } w):Calls P f args w R:=by
 refine (zGB (n:=0)).1 (callsIn_of_wp_marks hf hb trivial ?_);refine zEm (wpIn_wide.2 h) fun e a' w' hq=>?_
 cases e <;> first | exact jn _ _ hq.1 hq.2 | exact hq.elim
end Go.Proofs.YtkjbblkieglmlaaGreatDoor
namespace Go.Proofs.YtkjbblkieglmlaaGreatDoor
abbrev u8:=@List.getD_eq_getElem?_getD
abbrev zAS:=@List.getElem?_eq_some_iff
abbrev zAb:=@List.getElem?_append_left
abbrev zAd:=@List.getElem?_append_right
abbrev zAg:=@Array.getD_eq_getD_getElem?
abbrev zAn:=@List.length_set
abbrev zAy:=@List.getElem?_set
abbrev zD4:=@Array.getElem?_setIfInBounds
abbrev zEV:=@List.getElem?_eq_none
end Go.Proofs.YtkjbblkieglmlaaGreatDoor
namespace Go.Proofs.YtkjbblkieglmlaaGreatDoor
open Go.RowKit
inductive DV where
 | any
 | nils
 | int (k:IntKind) (n:Int)
 | bool (b:Bool)
 | str (s:ByteArray)
 | ints (l:List Int)
 | bools (l:List Bool)
 | sl (m n:Nat) (f:Nat -> Nat -> DV)
 | fp (m:Nat) (f:Nat -> DV)
 | agg (m:Nat) (f:Nat -> DV)
 | tup (m:Nat) (f:Nat -> DV)
 | ref (k j:Nat)
 | msl (k m off n:Nat)
 | mp (k m i j:Nat)
 | fn (g:Nat) (m:Nat) (c:Nat -> DV)
 | it (k:Nat)
 | yl (l:Nat)
 | mse (k m off n:Nat)
 | mri (k i:Nat)
 | cst (u:Value)
structure AI where
 blk:Nat
 off:Nat
 room:Nat
 val:Value
 foot:Nat -> Prop
def F8 (m:Nat) (f:Nat -> DV):Nat -> DV:=fun j=>((List.range m).map f).getD j .any
theorem Uj {m:Nat} {f:Nat -> DV} {j:Nat} (h:j<m):F8 m f j=f j:=by simp [F8,h]
def LB:Nat:=140737488355328
def AM (M:Nat -> Prop) (w:World):DV -> List AI -> Value -> Prop
 | .any,_,_=>True
 | .nils,_,v=>v= .slice none 0 0
 | .int k n,_,v=>v= .int k n
 | .bool b,_,v=>v= .bool b
 | .str s,_,v=>v= .string s
 | .ints l,_,v=>∃ (a:Option Addr) (cap:Nat),v= .slice a l.length cap/\ l.length<=cap/\ l.length<=LB/\
  ∀ j,j<l.length -> ∃ b o,a=some ⟨b,o,none⟩/\ ¬ M b/\ w.cell? ⟨b,o+j,none⟩=some (.int .i64 (l.getD j 0))
 | .bools l,_,v=>∃ (a:Option Addr) (cap:Nat),v= .slice a l.length cap/\ l.length<=cap/\ l.length<=LB/\
  ∀ j,j<l.length -> ∃ b o,a=some ⟨b,o,none⟩/\ ¬ M b/\ w.cell? ⟨b,o+j,none⟩=some (.bool (l.getD j false))
 | .sl m n f,_,v=>∃ (a:Option Addr) (cap:Nat),v= .slice a n cap/\ n<=cap/\ n<=LB/\
  ∀ i j,i<n -> j<m -> ∃ b o u,a=some ⟨b,o,none⟩/\ ¬ M b/\ w.cell? ⟨b,o+(i*m+j),none⟩=some u/\ AM M w (f i j) [] u
 | .fp m f,_,v=>∃ b o,v= .pointer (some ⟨b,o,none⟩)/\ ∀ j,j<m -> ¬ M b/\ ∃ u,w.cell? ⟨b,o+j,none⟩=some u/\ AM M w (f j) [] u
 | .agg m f,ρ,v=>∃ cs,v= .agg cs/\ cs.size=m/\ ∀ j,j<m -> ∃ u,cs[j]? =some u/\ AM M w (f j) ρ u
 | .tup m f,ρ,v=>∃ cs,v= .tuple cs/\ cs.size=m/\ ∀ j,j<m -> ∃ u,cs[j]? =some u/\ AM M w (f j) ρ u
 | .ref k j,ρ,v=>∃ p:AI,ρ[k]? =some p/\ v= .pointer (some ⟨p.blk,p.off+j,none⟩)
 | .msl k m off n,ρ,v=>∃ (p:AI) (cap:Nat),ρ[k]? =some p/\ v= .slice (some ⟨p.blk,p.off+off*m,none⟩) n cap/\ n<=cap/\ n<=LB/\ p.off+off*m+cap*m<=p.room
 | .mp k m i j,ρ,v=>∃ p:AI,ρ[k]? =some p/\ v= .pointer (some ⟨p.blk,p.off+(i*m+j),none⟩)
 | .fn g m c,ρ,v=>∃ lb,v= .func (.func g) #[] lb/\ lb.size=m/\ ∀ j,j<m -> ∃ u,lb[j]? =some u/\ AM M w (c j) ρ u
 | .it k,ρ,v=>∃ p:AI,ρ[k]? =some p/\ v=p.val
 | .yl l,_,v=>v= .func (.yield l) #[] #[]
 | .cst u,_,v=>v=u/\ u.oneCell'=true
 | .mri k i,ρ,v=>∃ (p:AI) (vs:Array Value),ρ[k]? =some p/\ p.val= .tuple vs/\ vs[i]? =some v
 | .mse k m off n,ρ,v=>∃ (p:AI) (a:Option Addr) (cap:Nat),ρ[k]? =some p/\ v= .slice a n cap/\ n<=cap/\ n<=LB/\ (0<cap -> a=some ⟨p.blk,p.off+off*m,none⟩/\ p.off+off*m+cap*m<=p.room)
theorem Ju {M:Nat -> Prop} {w:World} {ρ:List AI} {m:Nat} {f:Nat -> DV} {j:Nat} {v:Value} (h:j<m) (hr:AM M w (f j) ρ v):AM M w (F8 m f j) ρ v:=by rw [Uj h];exact hr
def AX (w:World) (p:AI) (n:Nat) (R:Nat -> Value -> Prop):Prop:=
 p.foot=(fun b=>b=p.blk)/\ ∃ cs t,w.heap[p.blk]? =some (.cells cs t (0,0))/\ p.off+n<=cs.size/\ p.room<=cs.size/\ ∀ j,j<n -> ∃ u,cs[p.off+j]? =some u/\ R j u
/-! ### Rows that an object owns-/
def Ha (w:World) (F:Nat -> Prop) (u:Value) (L:List Int):Prop:=
 (L= []/\ u= .slice none 0 0)∨∃ (q:AI) (cap:Nat),u= .slice (some ⟨q.blk,q.off,none⟩) L.length cap/\ L.length<=cap/\ q.off+cap<=q.room/\ L.length<=LB/\ F q.blk/\ AX w q L.length fun j x=>x= .int .i64 (L.getD j 0)
def DI:Value -> Option Nat
 | .slice (some a) _ _=>some a.block
 | _=>none
theorem Ha.blk {w:World} {F:Nat -> Prop} {u:Value} {L:List Int} {b:Nat} (h:Ha w F u L) (hb:DI u=some b):F b/\ b<w.heap.size:=by
 rcases h with ⟨_,rfl⟩ | ⟨q,cap,rfl,_,_,_,h5,_,cs,t,h6,_⟩
 ·cases hb
 ·cases hb;exact ⟨h5,(zAK.1 h6).1⟩
theorem Ha.out {w w':World} {F F':Nat -> Prop} {u:Value} {L:List Int} (h:Ha w F u L) (hb: ∀ b,F b -> DI u=some b -> b<w.heap.size -> w'.heap[b]? =w.heap[b]?) (hF: ∀ b,F b -> DI u=some b -> F' b):Ha w' F' u L:=by
 rcases h with h | ⟨q,cap,h1,h2,h3,h4,h5,h6⟩
 ·exact .inl h
 ·refine .inr ⟨q,cap,h1,h2,h3,h4,hF _ h5 (by rw [h1];rfl),?_⟩;obtain ⟨g1,cs,t,g2,g3⟩:=h6;exact ⟨g1,cs,t,(hb _ h5 (by rw [h1];rfl) (zAK.1 g2).1).trans g2,g3⟩
structure EY (w:World) (p:AI) (f:Int -> List Int) (Bt:Option (Int×List Int×Bool)) (u:Value) (es:Array MapEntry) (Ab:Nat):Prop where
 val:p.val= .tuple #[Value.map (some p.blk),u]
 blk:w.heap[p.blk]? =some (.map es Ab)
 own:p.foot p.blk
 key: ∀ e∈es.toList,∃ k,e.key= .int .i64 k/\ ((∀ L,Bt≠some (k,L,true)) -> Ha w (fun b=>p.foot b/\ b≠p.blk) e.val (f k))
 no: ∀ k,(∀ e∈es.toList,e.key≠.int .i64 k) -> f k= []
 nd:(es.toList.map (·.key)).Nodup
 apart: ∀ e∈es.toList,∀ e'∈es.toList,∀ b,DI e.val=some b -> DI e'.val=some b -> e.key=e'.key
 born: ∀ e∈es.toList,e.born<Ab
 stamps:(es.toList.map (·.born)).Nodup
 inHand: ∀ k L g,Bt=some (k,L,g) -> Ha w (fun b=>p.foot b/\ b≠p.blk) u L/\ ∀ e∈es.toList,∀ b,DI u=some b -> DI e.val=some b -> e.key= .int .i64 k
theorem EY.out {w w':World} {p:AI} {f:Int -> List Int} {Bt:Option (Int×List Int×Bool)} {u:Value} {es:Array MapEntry} {Ab:Nat} (h:EY w p f Bt u es Ab) (hb: ∀ b,p.foot b -> b<w.heap.size -> w'.heap[b]? =w.heap[b]?):EY w' p f Bt u es Ab:=
 { h with
  blk:=(hb _ h.own (zAK.1 h.blk).1).trans h.blk
  key:=fun e he=>let ⟨k,h1,h2⟩:=h.key e he;⟨k,h1,fun hh=>(h2 hh).out (fun b hf _ hl=>hb b hf.1 hl) fun _ h _=>h⟩
  inHand:=fun k L g e=>let ⟨h1,h2⟩:=h.inHand k L g e;⟨h1.out (fun b hf _ hl=>hb b hf.1 hl) fun _ h _=>h,h2⟩ }
/-! ### Maps:sets of keys-/
abbrev KS:=List (List Int)
def BR:List Int -> Value
 | [a]=>.int .i64 a
 | l=>.agg (l.map fun a=>.int .i64 a).toArray
theorem kE: ∀ {a b:List Int},BR a=BR b -> a=b:=by
 have ai: ∀ {l m:List Int},(l.map fun a=>Value.int .i64 a).toArray=(m.map fun a=>Value.int .i64 a).toArray -> l=m:=fun {l m} h=>by
  have h:=Array.toList_inj.2 h;simp only at h;exact List.map_inj_right (fun x y e=>by cases e;rfl) |>.1 h
 intro a b h
 match a,b with
 | [x],[y]=>cases h;rfl
 | [],[]=>rfl
 | [x],[]=>cases h
 | [],[y]=>cases h
 | [x],y::y'::m=>cases h
 | x::x'::l,[y]=>cases h
 | x::x'::l,[]=>exact ai (Value.agg.inj h)
 | [],y::y'::m=>exact ai (Value.agg.inj h)
 | x::x'::l,y::y'::m=>exact ai (Value.agg.inj h)
structure Ej (w:World) (b n:Nat) (l:KS) (es:Array MapEntry) (Ab:Nat):Prop where
 blk:w.heap[b]? =some (.map es Ab)
 keys:(es.toList.map (·.key)).Perm (l.map BR)
 nd:l.Nodup
 len: ∀ y∈l,y.length=n
 tru: ∀ e∈es.toList,e.val= .bool true
 born: ∀ e∈es.toList,e.born<Ab
 stamps:(es.toList.map (·.born)).Nodup
theorem Ej.out {w w':World} {b n:Nat} {l:KS} {es:Array MapEntry} {Ab:Nat} (h:Ej w b n l es Ab) (hb:w'.heap[b]? =w.heap[b]?):Ej w' b n l es Ab:={ h with blk:=hb.trans h.blk }
inductive MX where
 | set (n:Nat) (l:KS)
 | sets (n:Nat) (ls:List (Option KS)) (lk:Option (Nat×Nat×Array MapEntry×Nat))
 | mit (n mb:Nat) (es:Array MapEntry) (Ab:Nat) (rem:KS) (Eh:Option (List Int))
 | rows (f:Int -> List Int) (Bt:Option (Int×List Int×Bool))
 | rws (ls:List (List Int)) (Bt:Option (Nat×List Int))
structure Jk (w:World) (p:AI) (ls:List (List Int)) (Bt:Option (Nat×List Int)) (vs:Array Value):Prop where
 val:p.val= .tuple vs
 size:vs.size=ls.length+1
 row: ∃ cs t,w.heap[p.blk]? =some (.cells cs t (0,0))/\ p.off+ls.length<=cs.size/\ p.room<=cs.size/\ ∀ j,j<ls.length -> cs[p.off+j]? =vs[j+1]?
 blk:p.foot p.blk
 has: ∀ j,j<ls.length -> (∀ L,Bt≠some (j,L)) -> Ha w (fun b=>p.foot b/\ b≠p.blk) (vs.getD (j+1) undef) (ls.getD j default)
 apart: ∀ (i j b:Nat),i<ls.length -> j<ls.length -> (∀ L,Bt≠some (i,L)) -> (∀ L,Bt≠some (j,L)) -> DI (vs.getD (i+1) undef)=some b -> DI (vs.getD (j+1) undef)=some b -> i=j
 inHand: ∀ k L,Bt=some (k,L) -> Ha w (fun b=>p.foot b/\ b≠p.blk) (vs.getD 0 undef) L/\ ∀ (j b:Nat),j<ls.length -> DI (vs.getD 0 undef)=some b -> DI (vs.getD (j+1) undef)=some b -> j=k
theorem Jk.out {w w':World} {p:AI} {ls:List (List Int)} {Bt:Option (Nat×List Int)} {vs:Array Value} (h:Jk w p ls Bt vs) (hb: ∀ b,p.foot b -> b<w.heap.size -> w'.heap[b]? =w.heap[b]?):Jk w' p ls Bt vs:=
 { h with
  row:=let ⟨cs,t,h1,h2⟩:=h.row;⟨cs,t,(hb _ h.blk (zAK.1 h1).1).trans h1,h2⟩
  has:=fun j hj hh=>(h.has j hj hh).out (fun b hf _ hl=>hb b hf.1 hl) fun _ h _=>h
  inHand:=fun k L e=>let ⟨h1,h2⟩:=h.inHand k L e;⟨h1.out (fun b hf _ hl=>hb b hf.1 hl) fun _ h _=>h,h2⟩ }
structure E3 (w:World) (p:AI) (n:Nat) (ls:List (Option KS)) (lk:Option (Nat×Nat×Array MapEntry×Nat)) (vs:Array Value):Prop where
 val:p.val= .tuple vs
 size:vs.size=ls.length
 row: ∃ cs t,w.heap[p.blk]? =some (.cells cs t (0,0))/\ p.off+ls.length<=cs.size/\ p.room<=cs.size/\ ∀ j,j<ls.length -> cs[p.off+j]? =vs[j]?
 blk:p.foot p.blk
 has: ∀ (j:Nat) (l:KS),ls[j]? =some (some l) -> ∃ b:Nat,vs[j]? =some (Value.map (some b))/\ b≠p.blk/\ p.foot b/\ ∃ es Ab,Ej w b n l es Ab/\ ∀ x,lk=some x -> x.1=j -> x.2=(b,es,Ab)
 nil: ∀ (j:Nat),ls[j]? =some none -> vs[j]? =some (Value.map none)
 foot: ∀ b,p.foot b -> b=p.blk∨∃ (j:Nat) (l:KS),ls[j]? =some (some l)/\ vs[j]? =some (Value.map (some b))
 inj: ∀ (i j b:Nat),vs[i]? =some (Value.map (some b)) -> vs[j]? =some (Value.map (some b)) -> i=j
theorem E3.out {w w':World} {p:AI} {n:Nat} {ls:List (Option KS)} {lk:Option (Nat×Nat×Array MapEntry×Nat)} {vs:Array Value} (h:E3 w p n ls lk vs) (hb: ∀ b,p.foot b -> b<w.heap.size -> w'.heap[b]? =w.heap[b]?):E3 w' p n ls lk vs:=by
 have AF: ∀ {b o},p.foot b -> w.heap[b]? =some o -> w'.heap[b]? =some o:=fun {b o} hf ho=>(hb b hf (zAK.1 ho).1).trans ho
 refine { h with row:=?_,has:=fun j l hl=>?_ }
 ·obtain ⟨cs,t,h1,h2⟩:=h.row;exact ⟨cs,t,AF h.blk h1,h2⟩
 ·obtain ⟨b,h1,h2,h3,es,Ab,h4,h5⟩:=h.has j l hl;exact ⟨b,h1,h2,h3,es,Ab,{ h4 with blk:=AF h3 h4.blk },h5⟩
def MV (w:World) (p:AI):MX -> Prop
 | .set n l=>p.val=Value.map (some p.blk)/\ p.foot=(fun b=>b=p.blk)/\ ∃ es Ab,Ej w p.blk n l es Ab
 | .sets n ls lk=>∃ vs,E3 w p n ls lk vs
 | .mit n mb es Ab rem Eh=>(∀ x,(x∈rem∨Eh=some x) -> x.length=n)/\ p.val= .pointer (some ⟨p.blk,0,none⟩)/\ p.foot=(fun b=>b=p.blk)/\ ∃ seen,w.heap[p.blk]? =some (.mapIter (some mb) Ab seen Ab)/\ ((leftOf es seen).toList.map (·.key)).Perm (rem.map BR)/\
  ∀ x,Eh=some x -> ∃ e∈es.toList,e.key=BR x/\ seen.back? =some e.born
 | .rows f Bt=>∃ u es Ab,EY w p f Bt u es Ab
 | .rws ls Bt=>∃ vs,Jk w p ls Bt vs
theorem MV.out {w w':World} {p:AI}: ∀ {x:MX},MV w p x -> (∀ b,p.foot b -> b<w.heap.size -> w'.heap[b]? =w.heap[b]?) -> MV w' p x
 | .set n l,⟨h1,h2,es,Ab,h3⟩,hb=>⟨h1,h2,es,Ab,h3.out (hb _ (by rw [h2]) (zAK.1 h3.blk).1)⟩
 | .sets n ls lk,⟨vs,h⟩,hb=>⟨vs,h.out hb⟩
 | .rows f Bt,⟨u,es,Ab,h⟩,hb=>⟨u,es,Ab,h.out hb⟩
 | .rws ls Bt,⟨vs,h⟩,hb=>⟨vs,h.out hb⟩
 | .mit n mb es Ab rem Eh,⟨h0,h1,h2,seen,h3,h4⟩,hb=>⟨h0,h1,h2,seen,(hb _ (by rw [h2]) (zAK.1 h3).1).trans h3,h4⟩
inductive DO where
 | cells (l:List DV)
 | ints (l:List Int)
 | bools (l:List Bool)
 | arr (m n:Nat) (f:Nat -> Nat -> DV)
 | iter (encs:List (List DV))
 | ro (l:List DV)
 | mo (x:MX)
abbrev DH:=List (Option DO)
def MO (h:DH) (ρ:List AI) (b:Nat):Prop:=∃ (k:Nat) (o:DO) (p:AI),h[k]? =some (some o)/\ ρ[k]? =some p/\ p.foot b
def MS (N:Nat -> Prop) (h:DH) (ρ:List AI) (b:Nat):Prop:=N b∨MO h ρ b
def YV (ds:List DV) (R:Nat -> Prop) (W:World) (args:Array Value):Prop:=ds.length=args.size/\ ∀ j,j<ds.length -> AM (fun b=>b<W.heap.size/\ ¬ R b) W (ds.getD j .any) [] (args.getD j undef)
def QV:Ending -> (Nat -> Prop) -> (Nat -> Prop) -> World -> Prop:=fun e _ _ _=>∃ v,e= .returned v
def Dy (P:Program) (M:Nat -> Prop) (w:World) (ρ:List AI) (p:AI):DO -> Prop
 | .cells l=>AX w p l.length fun j u=>AM M w (l.getD j .any) ρ u
 | .ints l=>AX w p l.length fun j u=>u= .int .i64 (l.getD j 0)
 | .bools l=>AX w p l.length fun j u=>u= .bool (l.getD j false)
 | .arr m n f=>AX w p (n*m) fun j u=>AM M w (f (j/m) (j % m)) [] u
 | .iter encs=>∃ gf lb Rd,(p.val= .func (.func gf) #[] lb/\ ∀ args W,(callFunc gf args).run P W= .ok (.enter gf args) W)/\ MZ P gf lb YV encs QV p.foot Rd w/\ (∀ b,Rd b -> ¬ M b/\ b<w.heap.size)/\ ∀ b,p.foot b -> b<w.heap.size
 | .ro l=>p.foot=(fun _=>False)/\ ¬ M p.blk/\ AX w { p with foot:=fun b=>b=p.blk } l.length fun j u=>AM M w (l.getD j .any) ρ u
 | .mo x=>MV w p x
def lX:Obj -> Bool
 | .cells .. =>true
 | .map .. =>true
 | .mapIter .. =>true
 | _=>false
abbrev Db (w:World) (b:Nat):Prop:=∃ (c:Obj) (_:lX c=true) (_:Unit),w.heap[b]? =some c
theorem Db.cells {w:World} {b:Nat} {c:Array Value} {t:TypeId} {z:Nat×Nat} (h:w.heap[b]? =some (.cells c t z)):Db w b:=⟨_,rfl,(),h⟩
structure Ar where
 ng:Nat
 gi:World -> Prop
 st: ∀ w w',gi w -> AP (fun b=>ng<=b) w w' -> gi w'
 lo: ∀ w,gi w -> ng<=w.heap.size
structure A0 (P:Program) (Γ:Ar) (N:Nat -> Prop) (h:DH) (ρ:List AI) (w:World):Prop where
 len:ρ.length=h.length
 obj: ∀ (k:Nat) (o:DO),h[k]? =some (some o) -> ∃ p:AI,ρ[k]? =some p/\ Dy P (MS N h ρ) w ρ p o
 cel: ∀ (k:Nat) (o:DO) (p:AI) (b:Nat),h[k]? =some (some o) -> ρ[k]? =some p -> p.foot b -> Γ.ng<=b/\ ¬ N b/\ Db w b
 dis: ∀ (k k':Nat) (o o':DO) (p p':AI) (b:Nat),k≠k' -> h[k]? =some (some o) -> h[k']? =some (some o') -> ρ[k]? =some p -> ρ[k']? =some p' -> p.foot b -> p'.foot b -> False
 nlt: ∀ b,N b -> b<w.heap.size/\ Γ.ng<=b
 gi:Γ.gi w
structure St where
 fr:List DV
 h:DH
def BC (M:Nat -> Prop) (w:World) (ρ:List AI) (fr:List DV) (t:Array Value):Prop:=
 fr.length=t.size/\ ∀ i,i<fr.length -> AM M w (fr.getD i .any) ρ (t.getD i undef)
structure AS (P:Program) (Γ:Ar) (N:Nat -> Prop) (S:St) (ρ:List AI) (a:Act) (w:World):Prop where
 hr:A0 P Γ N S.h ρ w
 fr:BC (MS N S.h ρ) w ρ S.fr a.tmps
structure A6 (h:DH) (ρ:List AI) (w:World) (h':DH) (ρ':List AI) (w':World):Prop where
 upd:AP (MO h ρ) w w'
 grow: ∀ b,MO h' ρ' b -> MO h ρ b∨w.heap.size<=b
theorem A6.refl (h:DH) (ρ:List AI) (w:World):A6 h ρ w h ρ w:=⟨AP.refl _ _,fun _ h=>.inl h⟩
theorem A6.trans {h h' TJ:DH} {ρ ρ' ρ'':List AI} {w w' CI:World} (x:A6 h ρ w h' ρ' w') (y:A6 h' ρ' w' TJ ρ'' CI):A6 h ρ w TJ ρ'' CI:=
 ⟨x.upd.comp y.upd fun i hi hm=>(x.grow i hm).resolve_right (by omega),fun b hb=>(y.grow b hb).elim (fun h=>x.grow b h) (fun h=>.inr (zAt x.upd.size h))⟩
structure Ci (h:DH) (ρ:List AI) (w:World) (h':DH) (ρ':List AI) (w':World):Prop where
 st:A6 h ρ w h' ρ' w'
 pl: ∀ (k:Nat) (p:AI),ρ[k]? =some p -> ρ'[k]? =some p
theorem Ci.refl (h:DH) (ρ:List AI) (w:World):Ci h ρ w h ρ w:=⟨A6.refl _ _ _,fun _ _ h=>h⟩
theorem Ci.trans {h h' TJ:DH} {ρ ρ' ρ'':List AI} {w w' CI:World} (x:Ci h ρ w h' ρ' w') (y:Ci h' ρ' w' TJ ρ'' CI):Ci h ρ w TJ ρ'' CI:=
 ⟨x.st.trans y.st,fun k p hk=>y.pl k p (x.pl k p hk)⟩
structure BU (M:Nat -> Prop) (w:World) (ρ:List AI) (M':Nat -> Prop) (w':World) (ρ':List AI):Prop where
 blk: ∀ b,b<w.heap.size -> ¬ M b -> (∃ c t z,w.heap[b]? =some (.cells c t z)) -> w'.heap[b]? =w.heap[b]?
 m: ∀ b,M' b -> M b∨w.heap.size<=b
 pl: ∀ (k:Nat) (p:AI),ρ[k]? =some p -> ρ'[k]? =some p
theorem zC2 {w:World} {b o:Nat} {u:Value} (h:w.cell? ⟨b,o,none⟩=some u): ∃ c t z,w.heap[b]? =some (.cells c t z):=by
 unfold World.cell? at h;split at h
 ·exact ⟨_,_,_,by assumption⟩
 ·cases h
theorem BU.nil {M M':Nat -> Prop} {w w':World} {ρ ρ':List AI} (h:BU M w ρ M' w' ρ'):BU M w [] M' w' []:=⟨h.blk,h.m,fun k p hk=>by simp at hk⟩
theorem cm {w w':World} {b o:Nat} (h:w'.heap[b]? =w.heap[b]?):w'.cell? ⟨b,o,none⟩=w.cell? ⟨b,o,none⟩:=by
 unfold World.cell?;rw [h]
theorem BU.cell {M M':Nat -> Prop} {w w':World} {ρ ρ':List AI} (h:BU M w ρ M' w' ρ') {b o:Nat} {u:Value} (hM: ¬ M b) (hc:w.cell? ⟨b,o,none⟩=some u):w'.cell? ⟨b,o,none⟩=some u/\ ¬ M' b:=by
 have AO:b<w.heap.size:=zEH w ⟨b,o,none⟩ hc;exact ⟨(cm (h.blk b AO hM (zC2 hc))).trans hc,fun hm=>(h.m b hm).elim hM (by omega)⟩
theorem AM.out {M M':Nat -> Prop} {w w':World}: ∀ (d:DV) {ρ ρ':List AI} {v:Value},BU M w ρ M' w' ρ' -> AM M w d ρ v -> AM M' w' d ρ' v:=by
 intro d
 induction d with
 | any=>intros;trivial
 | nils=>intro ρ ρ' v _ h;exact h
 | int k n=>intro ρ ρ' v _ h;exact h
 | bool b=>intro ρ ρ' v _ h;exact h
 | str s=>intro ρ ρ' v _ h;exact h
 | ints l=>
  rintro ρ ρ' v H ⟨a,cap,e,h1,h2,h3⟩;refine ⟨a,cap,e,h1,h2,fun j hj=>?_⟩;obtain ⟨b,o,ha,hM,hc⟩:=h3 j hj;obtain ⟨g1,g2⟩:=H.cell hM hc;exact ⟨b,o,ha,g2,g1⟩
 | bools l=>
  rintro ρ ρ' v H ⟨a,cap,e,h1,h2,h3⟩;refine ⟨a,cap,e,h1,h2,fun j hj=>?_⟩;obtain ⟨b,o,ha,hM,hc⟩:=h3 j hj;obtain ⟨g1,g2⟩:=H.cell hM hc;exact ⟨b,o,ha,g2,g1⟩
 | sl m n f ih=>
  rintro ρ ρ' v H ⟨a,cap,e,h1,h2,h3⟩;refine ⟨a,cap,e,h1,h2,fun i j hi hj=>?_⟩;obtain ⟨b,o,u,ha,hM,hc,hr⟩:=h3 i j hi hj;obtain ⟨g1,g2⟩:=H.cell hM hc;exact ⟨b,o,u,ha,g2,g1,ih i j H.nil hr⟩
 | fp m f ih=>
  rintro ρ ρ' v H ⟨b,o,e,h⟩;refine ⟨b,o,e,fun j hj=>?_⟩;obtain ⟨hM,u,hc,hr⟩:=h j hj;obtain ⟨g1,g2⟩:=H.cell hM hc;exact ⟨g2,u,g1,ih j H.nil hr⟩
 | agg m f ih=>
  rintro ρ ρ' v H ⟨cs,e,hs,h⟩;exact ⟨cs,e,hs,fun j hj=>let ⟨u,h1,h2⟩:=h j hj;⟨u,h1,ih j H h2⟩⟩
 | tup m f ih=>
  rintro ρ ρ' v H ⟨cs,e,hs,h⟩;exact ⟨cs,e,hs,fun j hj=>let ⟨u,h1,h2⟩:=h j hj;⟨u,h1,ih j H h2⟩⟩
 | ref k j=>rintro ρ ρ' v H ⟨p,h,e⟩;exact ⟨p,H.pl _ _ h,e⟩
 | msl k m off n=>rintro ρ ρ' v H ⟨p,cap,h,r⟩;exact ⟨p,cap,H.pl _ _ h,r⟩
 | mp k m i j=>rintro ρ ρ' v H ⟨p,h,e⟩;exact ⟨p,H.pl _ _ h,e⟩
 | fn g m c ih=>
  rintro ρ ρ' v H ⟨cs,e,hs,h⟩;exact ⟨cs,e,hs,fun j hj=>let ⟨u,h1,h2⟩:=h j hj;⟨u,h1,ih j H h2⟩⟩
 | it k=>rintro ρ ρ' v H ⟨p,h,e⟩;exact ⟨p,H.pl _ _ h,e⟩
 | yl l=>intro ρ ρ' v _ h;exact h
 | mse k m off n=>rintro ρ ρ' v H ⟨p,a,cap,h,r⟩;exact ⟨p,a,cap,H.pl _ _ h,r⟩
 | mri k i=>rintro ρ ρ' v H ⟨p,vs,h,r⟩;exact ⟨p,vs,H.pl _ _ h,r⟩
 | cst u=>intro ρ ρ' v _ h;exact h
theorem BC.out {M M':Nat -> Prop} {w w':World} {ρ ρ':List AI} {fr:List DV} {t:Array Value} (h:BC M w ρ fr t) (H:BU M w ρ M' w' ρ'):BC M' w' ρ' fr t:=
 ⟨h.1,fun i hi=>(h.2 i hi).out _ H⟩
theorem BC.at {M:Nat -> Prop} {w:World} {ρ:List AI} {fr:List DV} {t:Array Value} (h:BC M w ρ fr t) (i:Nat):AM M w (fr.getD i .any) ρ (t.getD i undef):=by
 rcases zBG i fr.length with hi | hi
 ·exact h.2 i hi
 ·have:fr.getD i .any= .any:=by rw [u8,zEV hi];rfl
  rw [this];trivial
theorem BC.set {M:Nat -> Prop} {w:World} {ρ:List AI} {fr:List DV} {t:Array Value} (h:BC M w ρ fr t) (i:Nat) {d:DV} {v:Value} (hv:AM M w d ρ v):BC M w ρ (fr.set i d) (t.setIfInBounds i v):=by
 refine ⟨by simp [h.1],fun j hj=>?_⟩;rw [zAn] at hj;have BT:j<t.size:=by rw [←h.1];exact hj
 have h0:=h.2 j hj;simp only [u8,zAg,zAy,zD4] at h0 ⊢
 by_cases e:i=j
 ·subst e;simp [hj,BT,hv]
 ·rw [zAU e,zAU e];exact h0
theorem MZ.later {P:Program} {g:Nat} {lb:Array Value} {X:Type} {E:X -> (Nat -> Prop) -> World -> Array Value -> Prop} {encs:List X} {Iq:Ending -> (Nat -> Prop) -> (Nat -> Prop) -> World -> Prop} {G0 Rd:Nat -> Prop} {w w':World} (h:MZ P g lb E encs Iq G0 Rd w) {S:Nat -> Prop} (hu:AP S w w') (hs: ∀ b,b<w.heap.size -> S b -> ¬ (G0 b∨Rd b)):MZ P g lb E encs Iq G0 Rd w':=
 fun l J Jx W h1 h2 h3=>h l J Jx W h1 h2 (hu.mono (fun i hi hx=>hs i hi hx) |>.trans h3)
theorem AX.out {w w':World} {p:AI} {n:Nat} {R R':Nat -> Value -> Prop} (h:AX w p n R) (hb:w'.heap[p.blk]? =w.heap[p.blk]?) (hR: ∀ j u,j<n -> R j u -> R' j u):AX w' p n R':=by
 obtain ⟨h1,cs,t,h2,h3,h4,h5⟩:=h;exact ⟨h1,cs,t,hb.trans h2,h3,h4,fun j hj=>let ⟨u,g1,g2⟩:=h5 j hj;⟨u,g1,hR j u hj g2⟩⟩
theorem AX.cell {w:World} {p:AI} {n:Nat} {R:Nat -> Value -> Prop} (h:AX w p n R) {j:Nat} (hj:j<n): ∃ u,w.cell? ⟨p.blk,p.off+j,none⟩=some u/\ R j u:=by
 obtain ⟨h1,cs,t,h2,h3,h4,h5⟩:=h;obtain ⟨u,g1,g2⟩:=h5 j hj;exact ⟨u,by unfold World.cell?;simp [h2,g1],g2⟩
theorem AX.frozen {w:World} {p:AI} {n:Nat} {R:Nat -> Value -> Prop} (h:AX w p n R) (o:Nat):w.frozen? ⟨p.blk,o,none⟩=false:=by
 obtain ⟨h1,cs,t,h2,_⟩:=h;unfold World.frozen?;simp [h2]
theorem Dy.out {P:Program} {M M':Nat -> Prop} {w w':World} {ρ ρ':List AI} {p:AI} {o:DO} (h:Dy P M w ρ p o) (H:BU M w ρ M' w' ρ') {S:Nat -> Prop} (hu:AP S w w') (hS: ∀ b,S b -> M b) (hf: ∀ b,b<w.heap.size -> p.foot b -> ¬ S b):Dy P M' w' ρ' p o:=by
 have hb: ∀ {n R},AX w p n R -> w'.heap[p.blk]? =w.heap[p.blk]? :=fun {n R} hr=>by
  obtain ⟨h1,cs,t,h2,_⟩:=hr;have AO:=(zAK.1 h2).1;exact hu.block _ AO (hf _ AO (by rw [h1]))
 cases o with
 | cells l=>exact AX.out h (hb h) fun j u _ hr=>AM.out _ H hr
 | ints l=>exact AX.out h (hb h) fun j u _ hr=>hr
 | bools l=>exact AX.out h (hb h) fun j u _ hr=>hr
 | arr m n f=>exact AX.out h (hb h) fun j u _ hr=>AM.out _ H.nil hr
 | iter encs=>
  obtain ⟨gf,lb,Rd,h1,h2,h3,h4⟩:=h;refine ⟨gf,lb,Rd,h1,h2.later hu (fun b hb hs hx=>?_),fun b hb=>⟨fun hm=>(H.m b hm).elim (h3 b hb).1 (by have:=(h3 b hb).2;omega),zAW (h3 b hb).2 hu.size⟩,fun b hb=>zAW (h4 b hb) hu.size⟩;rcases hx with hx | hx
  ·exact hf b hb hx hs
  ·exact (h3 b hx).1 (hS b hs)
 | ro l=>
  obtain ⟨r1,r2,r3⟩:=h
  have AO:p.blk<w.heap.size:=by
   obtain ⟨_,cs,t,h2,_⟩:=r3;exact (zAK.1 h2).1
  exact ⟨r1,fun hm=>(H.m _ hm).elim r2 (by omega),AX.out r3 (hu.block _ AO fun hs=>r2 (hS _ hs)) fun j u _ hr=>AM.out _ H hr⟩
 | mo x=>exact MV.out h fun b hb AO=>hu.block b AO (hf b AO hb)
section
variable {P:Program} {Γ:Ar} {N:Nat -> Prop} {h:DH} {ρ:List AI} {w:World}
theorem MO.unset {k:Nat} {b:Nat} (hm:MO (h.set k none) ρ b):MO h ρ b:=by
 obtain ⟨i,o,p,h1,h2,h3⟩:=hm;rw [zAy] at h1
 by_cases e:k=i
 ·rw [zAE e] at h1;split at h1 <;> cases h1
 ·rw [zAU e] at h1;exact ⟨i,o,p,h1,h2,h3⟩
theorem A0.lt (H:A0 P Γ N h ρ w) {b:Nat} (hb:MS N h ρ b):b<w.heap.size:=by
 rcases hb with hb | ⟨k,o,p,h1,h2,h3⟩
 ·exact (H.nlt b hb).1
 ·obtain ⟨_,_,c,t,z,h4⟩:=H.cel k o p b h1 h2 h3;exact (zAK.1 h4).1
theorem A0.low (H:A0 P Γ N h ρ w) {b:Nat} (hb:MO h ρ b):Γ.ng<=b:=by
 obtain ⟨k,o,p,h1,h2,h3⟩:=hb;exact (H.cel k o p b h1 h2 h3).1
theorem A0.lt2 (H:A0 P Γ N h ρ w) {b:Nat} (hb:MS N h ρ b):b<w.heap.size/\ Γ.ng<=b:=⟨H.lt hb,hb.elim (fun h=>(H.nlt b h).2) H.low⟩
theorem A0.ext (H:A0 P Γ N h ρ w) {w':World} (hE:Aq w w'):A0 P Γ N h ρ w':=by
 have O:BU (MS N h ρ) w ρ (MS N h ρ) w' ρ:=⟨fun b hb _ _=>zFl hE b hb,fun b h=>.inl h,fun _ _ h=>h⟩;refine ⟨H.len,fun k o hk=>?_,fun k o p b h1 h2 h3=>?_,H.dis,fun b hb=>⟨zAW (H.nlt b hb).1 hE.size,(H.nlt b hb).2⟩,Γ.st _ _ H.gi (AP.ofExt hE)⟩
 ·obtain ⟨p,hp,ho⟩:=H.obj k o hk;exact ⟨p,hp,ho.out O (S:=fun _=>False) (AP.ofExt hE) (fun _ h=>h.elim) (fun _ _ _ h=>h)⟩
 ·obtain ⟨g1,g2,c,t,z,g3⟩:=H.cel k o p b h1 h2 h3;exact ⟨g1,g2,c,t,z,(zFl hE b (zAK.1 g3).1).trans g3⟩
theorem BU.ext {M:Nat -> Prop} {w w':World} (ρ:List AI) (hE:Aq w w'):BU M w ρ M w' ρ:=⟨fun b hb _ _=>zFl hE b hb,fun b h=>.inl h,fun _ _ h=>h⟩
theorem A6.ext {w w':World} (hE:Aq w w'):A6 h ρ w h ρ w':=⟨AP.ofExt hE,fun _ h=>.inl h⟩
theorem Dj {α:Type} {l:List α} {x y:α} {k:Nat} (hk:(l++[x])[k]? =some y):(k<l.length/\ l[k]? =some y)∨(k=l.length/\ x=y):=by
 rcases Nat.lt_trichotomy k l.length with hl | hl | hl
 ·rw [zAb hl] at hk;exact .inl ⟨hl,hk⟩
 ·subst hl;simp at hk;exact .inr ⟨rfl,hk⟩
 ·rw [zAd (by omega)] at hk;have:k-l.length≠0:=by omega
  cases e:k-l.length with
  | zero=>omega
  | succ m=>rw [e] at hk;simp at hk
theorem ET {α:Type} {l:List α} {x y:α} {k:Nat} (hk:l[k]? =some y):(l++[x])[k]? =some y:=by
 rw [zAb (zAS.1 hk).1];exact hk
theorem MO.snoc (H:A0 P Γ N h ρ w) {o:DO} {p:AI} {b:Nat} (hb:MO (h++[some o]) (ρ++[p]) b):MO h ρ b∨p.foot b:=by
 obtain ⟨k,o',p',h1,h2,h3⟩:=hb;rcases Dj h1 with ⟨hl,h1⟩ | ⟨hl,h1⟩
 ·rcases Dj h2 with ⟨_,h2⟩ | ⟨Cg,_⟩
  ·exact .inl ⟨k,o',p',h1,h2,h3⟩
  ·rw [Cg,H.len] at hl;omega
 ·rcases Dj h2 with ⟨Cg,_⟩ | ⟨_,h2⟩
  ·rw [H.len,←hl] at Cg;omega
  ·subst h2;exact .inr h3
theorem A0.snoc (H:A0 P Γ N h ρ w) {w':World} (hE:Aq w w') {o:DO} {p:AI} (hf: ∀ b,p.foot b -> w.heap.size<=b/\ Db w' b)
 (ho:Dy P (MS N (h++[some o]) (ρ++[p])) w' (ρ++[p]) p o):A0 P Γ N (h++[some o]) (ρ++[p]) w':=by
 have O:BU (MS N h ρ) w ρ (MS N (h++[some o]) (ρ++[p])) w' (ρ++[p]):=by
  refine ⟨fun b hb _ _=>zFl hE b hb,fun b hb=>?_,fun k q hk=>ET hk⟩;rcases hb with hb | hb
  ·exact .inl (.inl hb)
  ·rcases MO.snoc H hb with hb | hb
   ·exact .inl (.inr hb)
   ·exact .inr (hf b hb).1
 refine ⟨by simp [H.len],fun k o' hk=>?_,fun k o' p' b h1 h2 h3=>?_,fun k k' o1 o2 p1 p2 b Am h1 h2 h3 h4 h5 h6=>?_,fun b hb=>⟨zAW (H.nlt b hb).1 hE.size,(H.nlt b hb).2⟩,Γ.st _ _ H.gi (AP.ofExt hE)⟩
 ·rcases Dj hk with ⟨hl,hk⟩ | ⟨hl,hk⟩
  ·obtain ⟨p',hp,hr⟩:=H.obj k o' hk;exact ⟨p',ET hp,hr.out O (S:=fun _=>False) (AP.ofExt hE) (fun _ h=>h.elim) (fun _ _ _ h=>h)⟩
  ·cases hk;exact ⟨p,by rw [hl,←H.len];simp,ho⟩
 ·rcases Dj h1 with ⟨hl,h1⟩ | ⟨hl,h1⟩
  ·rcases Dj h2 with ⟨_,h2⟩ | ⟨Cg,_⟩
   ·obtain ⟨g1,g2,c,t,z,g3⟩:=H.cel k o' p' b h1 h2 h3;exact ⟨g1,g2,c,t,z,(zFl hE b (zAK.1 g3).1).trans g3⟩
   ·rw [Cg,H.len] at hl;omega
  ·rcases Dj h2 with ⟨Cg,_⟩ | ⟨_,h2⟩
   ·rw [H.len,←hl] at Cg;omega
   ·subst h2;obtain ⟨g1,g2⟩:=hf b h3;exact ⟨zAt (Γ.lo _ H.gi) g1,fun hn=>by have:=H.nlt b hn;omega,g2⟩
 ·have Gf: ∀ {k:Nat} {o':DO} {p':AI},(h++[some o])[k]? =some (some o') -> (ρ++[p])[k]? =some p' -> p'.foot b -> k≠h.length -> b<w.heap.size:=by
   intro k o' p' h1 h2 h3 Am;rcases Dj h1 with ⟨hl,h1⟩ | ⟨hl,h1⟩
   ·rcases Dj h2 with ⟨_,h2⟩ | ⟨Cg,_⟩
    ·exact H.lt (.inr ⟨k,o',p',h1,h2,h3⟩)
    ·rw [Cg,H.len] at hl;omega
   ·exact absurd hl Am
  have jQ: ∀ {k:Nat} {o':DO} {p':AI},(h++[some o])[k]? =some (some o') -> (ρ++[p])[k]? =some p' -> p'.foot b -> k=h.length -> w.heap.size<=b:=by
   intro k o' p' h1 h2 h3 he;rcases Dj h2 with ⟨Cg,_⟩ | ⟨_,h2⟩
   ·rw [H.len,←he] at Cg;omega
   ·subst h2;exact (hf b h3).1
  by_cases e1:k=h.length
  ·by_cases e2:k'=h.length
   ·exact Am (e1.trans e2.symm)
   ·have:=jQ h1 h3 h5 e1;have:=Gf h2 h4 h6 e2;omega
  ·by_cases e2:k'=h.length
   ·have:=Gf h1 h3 h5 e1;have:=jQ h2 h4 h6 e2;omega
   ·rcases Dj h1 with ⟨_,h1⟩ | ⟨hl,_⟩
    ·rcases Dj h2 with ⟨_,h2⟩ | ⟨hl,_⟩
     ·rcases Dj h3 with ⟨_,h3⟩ | ⟨hl,_⟩
      ·rcases Dj h4 with ⟨_,h4⟩ | ⟨hl,_⟩
       ·exact H.dis k k' o1 o2 p1 p2 b Am h1 h2 h3 h4 h5 h6
       ·rw [H.len] at hl;exact e2 hl
      ·rw [H.len] at hl;exact e1 hl
     ·exact e2 hl
    ·exact e1 hl
theorem BU.snoc (H:A0 P Γ N h ρ w) {w':World} (hE:Aq w w') {o:DO} {p:AI} (hf: ∀ b,p.foot b -> w.heap.size<=b):BU (MS N h ρ) w ρ (MS N (h++[some o]) (ρ++[p])) w' (ρ++[p]):=by
 refine ⟨fun b hb _ _=>zFl hE b hb,fun b hb=>?_,fun k q hk=>ET hk⟩;rcases hb with hb | hb
 ·exact .inl (.inl hb)
 ·rcases MO.snoc H hb with hb | hb
  ·exact .inl (.inr hb)
  ·exact .inr (hf b hb)
theorem A6.snoc (H:A0 P Γ N h ρ w) {w':World} (hE:Aq w w') {o:DO} {p:AI} (hf: ∀ b,p.foot b -> w.heap.size<=b):A6 h ρ w (h++[some o]) (ρ++[p]) w':=
 ⟨AP.ofExt hE,fun b hb=>(MO.snoc H hb).imp id (hf b)⟩
theorem MO.set {k:Nat} {o o':DO} (hk:h[k]? =some (some o)) {b:Nat}:MO (h.set k (some o')) ρ b↔MO h ρ b:=by
 have hl:=(zAS.1 hk).1;constructor
 ·rintro ⟨i,o1,p,h1,h2,h3⟩;rw [zAy] at h1
  by_cases e:k=i
  ·subst e;exact ⟨k,o,p,hk,h2,h3⟩
  ·rw [zAU e] at h1;exact ⟨i,o1,p,h1,h2,h3⟩
 ·rintro ⟨i,o1,p,h1,h2,h3⟩
  by_cases e:k=i
  ·subst e;exact ⟨k,o',p,by simp [hl],h2,h3⟩
  ·exact ⟨i,o1,p,by rw [zAy,zAU e];exact h1,h2,h3⟩
theorem MS.set {k:Nat} {o o':DO} (hk:h[k]? =some (some o)) {b:Nat}:MS N (h.set k (some o')) ρ b↔MS N h ρ b:=by unfold MS;rw [MO.set hk]
theorem A0.write (H:A0 P Γ N h ρ w) {w':World} {k:Nat} {o o':DO} {p:AI} (hk:h[k]? =some (some o)) (hp:ρ[k]? =some p) (hu:AP p.foot w w')
 (hc: ∀ b,p.foot b -> Db w' b) (ho:Dy P (MS N (h.set k (some o')) ρ) w' ρ p o'):A0 P Γ N (h.set k (some o')) ρ w':=by
 have hl:=(zAS.1 hk).1;have hM: ∀ b,p.foot b -> MS N h ρ b:=fun b hb=>.inr ⟨k,o,p,hk,hp,hb⟩
 have O:BU (MS N h ρ) w ρ (MS N (h.set k (some o')) ρ) w' ρ:=⟨fun b hb hm _=>hu.block b hb fun hx=>hm (hM b hx),fun b hb=>.inl ((MS.set hk).1 hb),fun _ _ h=>h⟩;have GS: ∀ {i:Nat} {o1:DO},i≠k -> (h.set k (some o'))[i]? =some (some o1) -> h[i]? =some (some o1):=fun {i} {o1} Am h1=>by rw [zAy,zAU (zFT Am)] at h1;exact h1
 refine ⟨by simp [H.len],fun i o1 hi=>?_,fun i o1 p1 b h1 h2 h3=>?_,fun i i' o1 o2 p1 p2 b Am h1 h2 h3 h4 h5 h6=>?_,fun b hb=>⟨zAW (H.nlt b hb).1 hu.size,(H.nlt b hb).2⟩,Γ.st _ _ H.gi (hu.mono fun b _ hb=>(H.cel k o p b hk hp hb).1)⟩
 ·by_cases e:i=k
  ·subst e;have:o'=o1:=by simp [hl] at hi;exact hi
   subst this;exact ⟨p,hp,ho⟩
  ·obtain ⟨p1,Lr,hr⟩:=H.obj i o1 (GS e hi);exact ⟨p1,Lr,hr.out O hu hM fun b _ h1 h2=>H.dis i k o1 o p1 p b e (GS e hi) hk Lr hp h1 h2⟩
 ·by_cases e:i=k
  ·subst e;have:p=p1:=zAR (hp.symm.trans h2);subst this;obtain ⟨g1,g2,_⟩:=H.cel i o p b hk hp h3;exact ⟨g1,g2,hc b h3⟩
  ·obtain ⟨g1,g2,c,t,z,g3⟩:=H.cel i o1 p1 b (GS e h1) h2 h3;refine ⟨g1,g2,c,t,z,(hu.block b (zAK.1 g3).1 fun hx=>H.dis i k o1 o p1 p b e (GS e h1) hk h2 hp h3 hx).trans g3⟩
 ·have Gf: ∀ {i:Nat} {o1:DO},(h.set k (some o'))[i]? =some (some o1) -> ∃ o2,h[i]? =some (some o2):=fun {i} {o1} h1=>by
   by_cases e:i=k
   ·subst e;exact ⟨o,hk⟩
   ·exact ⟨o1,GS e h1⟩
  obtain ⟨q1,g1⟩:=Gf h1;obtain ⟨q2,g2⟩:=Gf h2;exact H.dis i i' q1 q2 p1 p2 b Am g1 g2 h3 h4 h5 h6
theorem BU.write (hN:True) {w':World} {k:Nat} {o o':DO} {p:AI} (hk:h[k]? =some (some o)) (hp:ρ[k]? =some p) (hu:AP p.foot w w'):BU (MS N h ρ) w ρ (MS N (h.set k (some o')) ρ) w' ρ:=
 ⟨fun b hb hm _=>hu.block b hb fun hx=>hm (.inr ⟨k,o,p,hk,hp,hx⟩),fun b hb=>.inl ((MS.set hk).1 hb),fun _ _ h=>h⟩
theorem A6.write {w':World} {k:Nat} {o o':DO} {p:AI} (hk:h[k]? =some (some o)) (hp:ρ[k]? =some p) (hu:AP p.foot w w'):A6 h ρ w (h.set k (some o')) ρ w':=
 ⟨hu.mono fun b _ hb=>⟨k,o,p,hk,hp,hb⟩,fun b hb=>.inl ((MO.set hk).1 hb)⟩
end
end Go.Proofs.YtkjbblkieglmlaaGreatDoor
namespace Go.Proofs.YtkjbblkieglmlaaGreatDoor
abbrev zAo:=@Nat.not_lt_zero
abbrev zAx:=@decide_eq_true_eq
abbrev zA4:=@Option.some.injEq
abbrev zBu:=@Go.run_underlying
abbrev zDw:=@Nat.add_assoc
abbrev zD6:=@Prod.mk.injEq
abbrev zEO:=@Bool.not_eq_true'
abbrev zEW:=@Nat.mul_le_mul_right
abbrev zEf:=@Nat.mul_comm
abbrev zEh:=@Nat.add_mul
abbrev zEu:=@Nat.add_zero
abbrev zEy:=@bne_iff_ne
abbrev zFA:=@Array.eq_empty_of_size_eq_zero
abbrev zFU:=@Nat.mod_eq_of_lt
abbrev zFV:=@Go.Sem.run_pure
abbrev zFc:=@Option.isSome_iff_exists
abbrev zFn:=@Nat.succ_mul
end Go.Proofs.YtkjbblkieglmlaaGreatDoor
namespace Go.Proofs.YtkjbblkieglmlaaGreatDoor
open Go.RowKit
def GJ:Value -> DV
 | .int k n=>.int k n
 | .bool b=>.bool b
 | .string s=>.str s
 | .slice none 0 0=>.nils
 | v=>if v.oneCell' then .cst v else .any
def AY (fr:List DV):Operand -> DV
 | .tmp t=>fr.getD t .any
 | .const v=>GJ v
 | .global _=>.any
 | .func f=>.fn f 0 fun _=>.any
def Hs (P:Program) (t:TypeId):Bool:=match P.underlying t with
 | some (.struct _)=>true
 | some (.array _ _)=>true
 | _=>false
def OG (P:Program) (t:TypeId) (m:Nat):Bool:=match P.underlying t with
 | some (.slice e)=>match P.info? e with
  | some i=>i.size==m&&m != 0
  | none=>false
 | _=>false
def Fp (P:Program) (t:TypeId):Bool:=(P.underlying t).isSome&&!Hs P t
def UH (P:Program) (t:TypeId) (m:Nat):Bool:=Hs P t&&(match P.info? t with | some i=>i.size==m | none=>false)
def XD (P:Program) (s:TypeId) (f:Nat):Option (Nat×Nat):=match P.underlying s with
 | some (.struct fs)=>match fs[f]? with
  | some fd=>match P.info? fd.type with
   | some i=>if i.size=0 then none else some (fd.offset,i.size)
   | none=>none
  | none=>none
 | _=>none
def UB (P:Program) (t:TypeId):Option (Nat×Nat):=match P.underlying t with
 | some (.array n e)=>match P.info? e with
  | some i=>if n<=1 then none else some (n,i.size)
  | none=>none
 | _=>none
def aM (P:Program) (t:TypeId):Option IntKind:=match P.underlying t with
 | some (.int k)=>some k
 | _=>none
def Xn (op:BinOp) (k:IntKind) (a b:Int):Option (DV×Prop):=match op with
 | .add=>some (.int k (k.wrap (a+b)),True)
 | .sub=>some (.int k (k.wrap (a-b)),True)
 | .mul=>some (.int k (k.wrap (a*b)),True)
 | .and=>some (.int k (bits .and k a b),True)
 | .or=>some (.int k (bits .or k a b),True)
 | .xor=>some (.int k (bits .xor k a b),True)
 | .andNot=>some (.int k (bits .andNot k a b),True)
 | .eql=>some (.bool (a==b),True)
 | .neq=>some (.bool (a != b),True)
 | .lss=>some (.bool (decide (a<b)),True)
 | .leq=>some (.bool (decide (a<=b)),True)
 | .gtr=>some (.bool (decide (a>b)),True)
 | .geq=>some (.bool (decide (a>=b)),True)
 | _=>none
def QP (P:Program) (t:TypeId):Nat:=match P.underlying t with
 | some .bool=>1
 | some (.slice _)=>2
 | _=>0
def Xo (bt:Nat) (op:BinOp) (x y:DV):Option (DV×Prop):=match op,x,y with
 | .eql,.bool a,.bool b=>if bt=1 then some (.bool (a==b),True) else none
 | .neq,.bool a,.bool b=>if bt=1 then some (.bool (!(a==b)),True) else none
 | .eql,.ints l,.nils=>if bt=2 then some (.bool false,0<l.length) else none
 | .eql,.bools l,.nils=>if bt=2 then some (.bool false,0<l.length) else none
 | .neq,.ints l,.nils=>if bt=2 then some (.bool true,0<l.length) else none
 | .shl,.int k a,.int _ b=>some (.int k (k.wrap (a*2 ^ b.toNat)),0<=b/\ b<=k.bits)
 | .shr,.int k a,.int _ b=>some (.int k (a/2 ^ b.toNat),0<=b/\ b<=k.bits)
 | .quo,.int k a,.int k' b=>if k=k' then some (.int k (k.wrap (a.tdiv b)),b≠0) else none
 | .rem,.int k a,.int k' b=>if k=k' then some (.int k (a.tmod b),b≠0) else none
 | op,.int k a,.int k' b=>if k=k' then Xn op k a b else none
 | _,_,_=>none
def NV (P:Program) (S:St) (t:TypeId):DV -> Option (DV×Prop)
 | .fp m f=>if Fp P t then (if m=0 then none else some (f 0,True)) else if UH P t m then some (.agg m f,True) else none
 | .ref k j=>match S.h[k]? with
  | some (some (.cells l))=>if Fp P t then (if j<l.length then some (l.getD j .any,True) else none)
   else match P.info? t with
    | some i=>if Hs P t&&decide (j+i.size<=l.length) then some (.agg i.size (F8 i.size fun c=>l.getD (j+c) .any),True) else none
    | none=>none
  | some (some (.ro l))=>if Fp P t then (if j<l.length then some (l.getD j .any,True) else none)
   else match P.info? t with
    | some i=>if Hs P t&&decide (j+i.size<=l.length) then some (.agg i.size (F8 i.size fun c=>l.getD (j+c) .any),True) else none
    | none=>none
  | _=>none
 | .mp k m i j=>match S.h[k]? with
  | some (some (.ints l))=>if Fp P t&&(m==1)&&(j==0) then some (.int .i64 (l.getD i 0),i<l.length) else none
  | some (some (.bools l))=>if Fp P t&&(m==1)&&(j==0) then some (.bool (l.getD i false),i<l.length) else none
  | some (some (.arr m' n f))=>if Fp P t&&(m==m')&&decide (j<m) then some (f i j,i<n)
   else if UH P t m&&(m==m')&&(j==0) then some (.agg m (f i),i<n) else none
  | some (some (.mo (.sets _ ls _)))=>if Fp P t&&(m==1)&&(j==0) then some (.mri k i,i<ls.length) else none
  | some (some (.mo (.rws ls none)))=>if Fp P t&&(m==1)&&(j==0) then some (.mri k (i+1),i<ls.length) else none
  | _=>none
 | _=>none
def aS (P:Program) (t:TypeId) (x:DV) (n:Int):Option (DV×Prop):=match x with
 | .ints l=>if OG P t 1 then some (.fp 1 (fun _=>.int .i64 (l.getD n.toNat 0)),0<=n/\ n<l.length) else none
 | .bools l=>if OG P t 1 then some (.fp 1 (fun _=>.bool (l.getD n.toNat false)),0<=n/\ n<l.length) else none
 | .sl m c f=>if OG P t m then some (.fp m (f n.toNat),0<=n/\ n<c) else none
 | .msl k m off c=>if OG P t m then some (.mp k m (off+n.toNat) 0,0<=n/\ n<c) else none
 | .ref k j=>match UB P t with
  | some (len,sz)=>some (.ref k (j+n.toNat*sz),0<=n/\ n<len)
  | none=>none
 | .mp k m i 0=>match UB P t with
  | some (len,sz)=>if sz=m then some (.mp k m (i+n.toNat) 0,0<=n/\ n<len) else none
  | none=>none
 | .fp m f=>match UB P t with
  | some (len,sz)=>if n.toNat*sz+sz<=m then some (.fp sz (F8 sz fun j=>f (n.toNat*sz+j)),0<=n/\ n<len) else none
  | none=>none
 | _=>none
def V0 (P:Program) (t:TypeId) (d:DV):Option (DV×Prop):=match P.underlying t,d with
 | some (.slice _),.nils=>some (.int .i64 0,True)
 | some (.slice _),.ints l=>some (.int .i64 l.length,True)
 | some (.slice _),.bools l=>some (.int .i64 l.length,True)
 | some (.slice _),.sl _ n _=>some (.int .i64 n,True)
 | some (.slice _),.msl _ _ _ n=>some (.int .i64 n,True)
 | some .string,.str s=>some (.int .i64 s.size,True)
 | _,_=>none
def Zy (x y:DV):Option (DV×Prop):=match x,y with
 | .int k a,.int _ b=>some (.int k (if b>a then b else a),True)
 | _,_=>none
def Zx (x y:DV):Option (DV×Prop):=match x,y with
 | .int k a,.int _ b=>some (.int k (if b<a then b else a),True)
 | _,_=>none
def Xl (P:Program) (S:St) (b:Builtin) (args:List Operand) (pF:List TypeId):Option (DV×Prop):=match b with
 | .len=>match args with
  | [x]=>match pF with
   | [t]=>V0 P t (AY S.fr x)
   | _=>none
  | _=>none
 | .max=>match args with
  | [x,y]=>Zy (AY S.fr x) (AY S.fr y)
  | _=>none
 | .min=>match args with
  | [x,y]=>Zx (AY S.fr x) (AY S.fr y)
  | _=>none
 | _=>none
def O6 (P:Program) (S:St):Op -> Option (DV×Prop)
 | .move x=>some (AY S.fr x,True)
 | .assign x=>some (AY S.fr x,True)
 | .pick c a b=>match AY S.fr c with
  | .bool true=>some (AY S.fr a,True)
  | .bool false=>some (AY S.fr b,True)
  | _=>none
 | .load t x=>NV P S t (AY S.fr x)
 | .binOp op t x y _=>Xo (QP P t) op (AY S.fr x) (AY S.fr y)
 | .unOp op _ x=>match op,AY S.fr x with
  | .not,.bool b=>some (.bool !b,True)
  | .neg,.int k n=>some (.int k (k.wrap (0-n)),True)
  | .xor,.int k n=>some (.int k (bits .xor k (if k.signed then-1 else k.max) n),True)
  | _,_=>none
 | .convert s d x=>match P.underlying s,aM P d,AY S.fr x with
  | some _,some k,.int _ n=>some (.int k (k.wrap n),True)
  | _,_,_=>none
 | .nilCheck x=>match AY S.fr x with
  | .fp m f=>some (.fp m f,True)
  | .ref k j=>some (.ref k j,True)
  | .mp k m i j=>some (.mp k m i j,True)
  | .fn g m c=>some (.fn g m c,True)
  | _=>none
 | .fieldAddr s x f=>match XD P s f with
  | some (off,sz)=>match AY S.fr x with
   | .fp m g=>if off+sz<=m then some (.fp sz (F8 sz fun j=>g (off+j)),True) else none
   | .ref k j=>some (.ref k (j+off),True)
   | .mp k m i j=>some (.mp k m i (j+off),True)
   | _=>none
  | none=>none
 | .indexAddr t x i=>match AY S.fr i with
  | .int _ n=>aS P t (AY S.fr x) n
  | _=>none
 | .extract x i=>match AY S.fr x with
  | .tup m f=>if i<m then some (f i,True) else none
  | _=>none
 | .makeFunc (.func g) first c=>if first.size=0 then some (.fn g c.size (F8 c.size fun j=>AY S.fr (c.getD j (.const undef))),True) else none
 | .call c=>match c.callee with
  | .builtin b=>Xl P S b c.args.toList c.argTypes.toList
  | _=>none
 | _=>none
section
variable {P:Program} {Γ:Ar} {N:Nat -> Prop} {S:St} {ρ:List AI} {a:Act} {w:World}
theorem Vn {M:Nat -> Prop} (v:Value):AM M w (GJ v) ρ v:=by
 unfold GJ;split
 ·rfl
 ·rfl
 ·rfl
 ·rfl
 ·split
  ·exact ⟨rfl,by assumption⟩
  ·trivial
theorem Bg (R:AS P Γ N S ρ a w) (x:Operand):AM (MS N S.h ρ) w (AY S.fr x) ρ (a.eval x):=by
 cases x with
 | tmp t=>exact R.fr.at t
 | const v=>exact Vn v
 | global g=>trivial
 | func f=>exact ⟨#[],rfl,rfl,fun j hj=>absurd hj (zAo j)⟩
theorem RG {t:TypeId} {d:TypeDesc} (h:P.underlying t=some d):(isAgg t).run P w= .ok (Hs P t) w:=by
 unfold isAgg Hs;rw [zAr,zBu h];simp only [Result.andThen,h];cases d <;> rfl
theorem I0 {t:TypeId} {i:TypeInfo} (h:P.info? t=some i):(sizeOf t).run P w= .ok i.size w:=by
 rw [run_sizeOf w h];unfold Program.cellsOf;rw [h];rfl
theorem sW {t:TypeId} {b:Addr} {u:Value} (h:Fp P t=true) (hc:w.cell? b=some u):(loadVar t b).run P w= .ok u w:=by
 unfold Fp at h;simp only [zAN,zFc,zEO] at h;obtain ⟨⟨d,hd⟩,hn⟩:=h;unfold loadVar;rw [zAr,RG hd];simp only [Result.andThen,hn,zDJ,zEr];simp [load,Sem.run,hc]
theorem kL {t:TypeId} (h:Hs P t=true): ∃ d,P.underlying t=some d:=by
 unfold Hs at h;split at h
 ·exact ⟨_,by assumption⟩
 ·exact ⟨_,by assumption⟩
 ·cases h
theorem sX {t:TypeId} {b o:Nat} {i:TypeInfo} (h:Hs P t=true) (hi:P.info? t=some i) (g:Nat -> Value) (hc: ∀ j,j<i.size -> w.cell? ⟨b,o+j,none⟩=some (g j)):
 (loadVar t ⟨b,o,none⟩).run P w= .ok (.agg ((List.range i.size).map g).toArray) w:=by
 obtain ⟨d,hd⟩:=kL h;unfold loadVar;rw [zAr,RG hd];simp only [Result.andThen,h,zEL];rw [zAr,I0 hi];simp only [Result.andThen]
 rw [zAr,run_loadCells w ⟨b,o,none⟩ i.size g (fun j hj=>by
  have:=hc j hj;unfold Addr.add
  by_cases e:j=0
  ·subst e;simpa using this
  ·simpa [e] using this)]
 simp [Result.andThen]
def Keep (N:Nat -> Prop) (w W:World):Prop:=∀ b o u,¬ N b -> w.cell? ⟨b,o,none⟩=some u -> W.cell? ⟨b,o,none⟩=some u
theorem Keep.ofExt {N:Nat -> Prop} {w W:World} (h:Aq w W):Keep N w W:=fun _ _ _ _ hc=>h.cell hc
def Yl (P:Program) (N:Nat -> Prop) (w:World) (M:Nat -> Prop) (ρ:List AI) (s:Sem Value) (d:DV):Prop:=∃ v,(∀ W,Keep N w W -> s.run P W= .ok v W)/\ AM M w d ρ v
theorem Oz {k:Nat} {o:DO} {p:AI} {n:Nat} {Rw:Nat -> Value -> Prop} (R:AS P Γ N S ρ a w) (hk:S.h[k]? =some (some o)) (hp:ρ[k]? =some p) (hr:AX w p n Rw): ¬ N p.blk:=(R.hr.cel k o p p.blk hk hp (by rw [hr.1])).2.1
theorem W4 {M:Nat -> Prop} {m:Nat} {f:Nat -> DV} {v:Value} (h:AM M w (.fp m f) ρ v): ∃ b o,v= .pointer (some ⟨b,o,none⟩)/\ ∀ j,j<m -> ¬ M b/\ ∃ u,w.cell? ⟨b,o+j,none⟩=some u/\ AM M w (f j) [] u:=h
theorem Ra {M:Nat -> Prop} {d:DV} {v:Value} (h:AM M w d [] v):AM M w d ρ v:=h.out d ⟨fun _ _ _ _=>rfl,fun _ h=>.inl h,fun k p hk=>by simp at hk⟩
theorem Y0 {t:TypeId} {b:Addr} {W:World}:(Instr.loadAt t (.pointer (some b))).run P W=(loadVar t b).run P W:=rfl
theorem Lh {M:Nat -> Prop} {t:TypeId} {b o:Nat} {u:Value} {d:DV} (hN: ¬ N b) (h1:Fp P t=true) (hc:w.cell? ⟨b,o,none⟩=some u) (hr:AM M w d ρ u):Yl P N w M ρ (Instr.loadAt t (.pointer (some ⟨b,o,none⟩))) d:=
 ⟨u,fun W hE=>by rw [Y0];exact sW h1 (hE _ _ _ hN hc),hr⟩
theorem Vx {M:Nat -> Prop} {t:TypeId} {i:TypeInfo} {b o:Nat} {f:Nat -> DV} (hN:0<i.size -> ¬ N b) (h1:Hs P t=true) (hi:P.info? t=some i) (h: ∀ j,j<i.size -> ∃ u,w.cell? ⟨b,o+j,none⟩=some u/\ AM M w (f j) ρ u):
 Yl P N w M ρ (Instr.loadAt t (.pointer (some ⟨b,o,none⟩))) (.agg i.size f):=by
 obtain ⟨g,hg⟩: ∃ g:Nat -> Value,∀ j,j<i.size -> w.cell? ⟨b,o+j,none⟩=some (g j)/\ AM M w (f j) ρ (g j):=by
  refine ⟨fun j=>(w.cell? ⟨b,o+j,none⟩).getD undef,fun j hj=>?_⟩;obtain ⟨u,h1,h2⟩:=h j hj;simp [h1,h2]
 refine ⟨_,fun W hE=>by rw [Y0];exact sX h1 hi g fun j hj=>hE _ _ _ (hN (by omega)) (hg j hj).1,_,rfl,by simp,fun j hj=>?_⟩;exact ⟨g j,by simp [hj],(hg j hj).2⟩
theorem dU {t:TypeId} {m:Nat} (h:UH P t m=true):Hs P t=true/\ ∃ i,P.info? t=some i/\ i.size=m:=by
 unfold UH at h;simp only [zAN] at h;refine ⟨h.1,?_⟩;have h2:=h.2;split at h2
 ·exact ⟨_,by assumption,by simpa using h2⟩
 ·cases h2
theorem ji (R:AS P Γ N S ρ a w) {t:TypeId} {x d:DV} {vc:Prop} {v:Value} (hx:AM (MS N S.h ρ) w x ρ v) (h:NV P S t x=some (d,vc)) (hv:vc):
 Yl P N w (MS N S.h ρ) ρ (Instr.loadAt t v) d:=by
 unfold NV at h;split at h
 ·rename_i m f;obtain ⟨b,o,rfl,hc⟩:=W4 hx;split at h
  ·rename_i h1;split at h
   ·cases h
   ·cases h;obtain ⟨hM,u,g1,g2⟩:=hc 0 (by omega);exact Lh (fun h=>hM (.inl h)) h1 g1 (Ra g2)
  ·split at h
   ·rename_i h2;cases h;obtain ⟨h3,i,hi,rfl⟩:=dU h2;exact Vx (fun hp h=>(hc 0 hp).1 (.inl h)) h3 hi fun j hj=>let ⟨_,u,g1,g2⟩:=hc j hj;⟨u,g1,Ra g2⟩
   ·cases h
 ·rename_i k j;obtain ⟨p,hp,rfl⟩:=hx;split at h
  ·rename_i l hk;obtain ⟨p',BF,hr⟩:=R.hr.obj k _ hk;have e:p'=p:=zAR (BF.symm.trans hp);subst e;split at h
   ·rename_i h1;split at h
    ·rename_i hj;cases h;obtain ⟨u,g1,g2⟩:=AX.cell hr hj;exact Lh (Oz R hk hp hr) h1 g1 g2
    ·cases h
   ·split at h
    ·rename_i i hi;split at h
     ·rename_i h2;cases h;simp only [zAN,zAx] at h2;refine Vx (fun _=>Oz R hk hp hr) h2.1 hi fun c hc=>?_
      obtain ⟨u,g1,g2⟩:=AX.cell hr (j:=j+c) (by omega);exact ⟨u,by rw [zDw];exact g1,Ju hc g2⟩
     ·cases h
    ·cases h
  ·rename_i l hk;obtain ⟨p',BF,_,r2,hr⟩:=R.hr.obj k _ hk;have e:p'=p:=zAR (BF.symm.trans hp);subst e;split at h
   ·rename_i h1;split at h
    ·rename_i hj;cases h;obtain ⟨u,g1,g2⟩:=AX.cell hr hj;exact Lh (fun h=>r2 (.inl h)) h1 g1 g2
    ·cases h
   ·split at h
    ·rename_i i hi;split at h
     ·rename_i h2;cases h;simp only [zAN,zAx] at h2;refine Vx (fun _ h=>r2 (.inl h)) h2.1 hi fun c hc=>?_
      obtain ⟨u,g1,g2⟩:=AX.cell hr (j:=j+c) (by omega);exact ⟨u,by rw [zDw];exact g1,Ju hc g2⟩
     ·cases h
    ·cases h
  ·cases h
 ·rename_i k m i j;obtain ⟨p,hp,rfl⟩:=hx;split at h
  ·rename_i l hk;obtain ⟨p',BF,hr⟩:=R.hr.obj k _ hk;have e:p'=p:=zAR (BF.symm.trans hp);subst e;split at h
   ·rename_i h1;cases h;simp only [zAN,zDu] at h1;obtain ⟨⟨h1,rfl⟩,rfl⟩:=h1;obtain ⟨u,g1,g2⟩:=AX.cell hr hv;exact Lh (Oz R hk hp hr) h1 (by simpa using g1) g2
   ·cases h
  ·rename_i l hk;obtain ⟨p',BF,hr⟩:=R.hr.obj k _ hk;have e:p'=p:=zAR (BF.symm.trans hp);subst e;split at h
   ·rename_i h1;cases h;simp only [zAN,zDu] at h1;obtain ⟨⟨h1,rfl⟩,rfl⟩:=h1;obtain ⟨u,g1,g2⟩:=AX.cell hr hv;exact Lh (Oz R hk hp hr) h1 (by simpa using g1) g2
   ·cases h
  ·rename_i m' n f hk;obtain ⟨p',BF,hr⟩:=R.hr.obj k _ hk;have e:p'=p:=zAR (BF.symm.trans hp);subst e
   have aR: ∀ {i j:Nat},i<n -> j<m' -> i*m'+j<n*m':=fun {i j} hi hj=>by
    have:(i+1)*m'<=n*m':=zEW _ hi;rw [zFn] at this;omega
   have dv: ∀ {i j:Nat},j<m' -> (i*m'+j)/m'=i/\ (i*m'+j) % m'=j:=fun {i j} hj=>by
    have hm:0<m':=by omega
    constructor
    ·rw [zEf,Nat.mul_add_div hm,Nat.div_eq_of_lt hj,zEu]
    ·rw [zEf,Nat.mul_add_mod,zFU hj]
   split at h
   ·rename_i h1;cases h;simp only [zAN,zDu,zAx] at h1;obtain ⟨⟨h1,rfl⟩,hj⟩:=h1;obtain ⟨u,g1,g2⟩:=AX.cell hr (aR hv hj);rw [(dv hj).1,(dv hj).2] at g2;exact Lh (Oz R hk hp hr) h1 g1 (Ra g2)
   ·split at h
    ·rename_i h2;cases h;simp only [zAN,zDu] at h2;obtain ⟨⟨h2,rfl⟩,rfl⟩:=h2;obtain ⟨h3,ti,hi,rfl⟩:=dU h2;refine Vx (fun _=>Oz R hk hp hr) h3 hi fun c hc=>?_
     obtain ⟨u,g1,g2⟩:=AX.cell hr (aR hv hc);rw [(dv hc).1,(dv hc).2] at g2;exact ⟨u,by simpa [zDw] using g1,Ra g2⟩
    ·cases h
  ·rename_i n ls lk hk;obtain ⟨p',BF,vs,hS⟩:=R.hr.obj k _ hk;have e:p'=p:=zAR (BF.symm.trans hp);subst e;split at h
   ·rename_i h1;cases h;simp only [zAN,zDu] at h1;obtain ⟨⟨h1,rfl⟩,rfl⟩:=h1;obtain ⟨cs,tt,q1,q2,q3,q4⟩:=hS.row;have hi:i<vs.size:=by rw [hS.size];exact hv
    have q5:=q4 i hv;rw [zA0 hi] at q5;refine Lh (u:=vs[i]) (R.hr.cel k _ p' p'.blk hk hp hS.blk).2.1 h1 ?_ ⟨p',vs,hp,hS.val,zA0 hi⟩;unfold World.cell?;simp [q1,q5]
   ·cases h
  ·rename_i ls hk;obtain ⟨p',BF,vs,hS⟩:=R.hr.obj k _ hk;have e:p'=p:=zAR (BF.symm.trans hp);subst e;split at h
   ·rename_i h1;cases h;simp only [zAN,zDu] at h1;obtain ⟨⟨h1,rfl⟩,rfl⟩:=h1;obtain ⟨cs,tt,q1,q2,q3,q4⟩:=hS.row;have hi:i+1<vs.size:=by rw [hS.size];omega
    have q5:=q4 i hv;rw [zA0 hi] at q5;refine Lh (u:=vs[i+1]) (R.hr.cel k _ p' p'.blk hk hp hS.blk).2.1 h1 ?_ ⟨p',vs,hp,hS.val,zA0 hi⟩;unfold World.cell?;simp [q1,q5]
   ·cases h
  ·cases h
 ·cases h
theorem Yl.pure {M:Nat -> Prop} {s:Sem Value} {d:DV} {v:Value} (h: ∀ W,s.run P W= .ok v W) (hr:AM M w d ρ v):Yl P N w M ρ s d:=⟨v,fun W _=>h W,hr⟩
theorem m5 {t:TypeId} {m:Nat} (h:OG P t m=true):P.underlying t=some (.slice (P.elem t))/\ (∃ i,P.info? (P.elem t)=some i/\ i.size=m)/\ m≠0:=by
 unfold OG at h;split at h
 ·rename_i e he;have:P.elem t=e:=by unfold Program.elem;rw [he]
  rw [this];refine ⟨he,?_⟩;split at h
  ·simp only [zAN,zDu,zEy] at h;exact ⟨⟨_,by assumption,h.1⟩,h.2⟩
  ·cases h
 ·cases h
theorem dD {t:TypeId} {n m:Nat} (h:UB P t=some (n,m)):P.underlying t=some (.array (P.arrayLen t) (P.elem t))/\ P.arrayLen t=n/\ ∃ i,P.info? (P.elem t)=some i/\ i.size=m:=by
 unfold UB at h;split at h
 ·rename_i n' e he;have h1:P.elem t=e:=by unfold Program.elem;rw [he]
  have h2:P.arrayLen t=n':=by unfold Program.arrayLen;rw [he]
  rw [h1,h2];split at h
  ·split at h
   ·cases h
   ·cases h;exact ⟨he,rfl,_,by assumption,rfl⟩
  ·cases h
 ·cases h
theorem Io (b o n:Nat):Addr.add ⟨b,o,none⟩ n=⟨b,o+n,none⟩:=by
 unfold Addr.add
 by_cases h:n=0
 ·subst h;rfl
 ·simp [h]
theorem U5 {t:TypeId} {m b o len cap:Nat} {k:IntKind} {n:Int} (h:OG P t m=true) (h1:0<=n) (h2:n<len) (W:World):
 (Instr.indexAt t (.slice (some ⟨b,o,none⟩) len cap) (.int k n)).run P W= .ok (.pointer (some ⟨b,o+n.toNat*m,none⟩)) W:=by
 obtain ⟨hu,⟨i,hi,rfl⟩,_⟩:=m5 h;rw [run_indexAt_slice W t _ len cap k n hu,zAE ⟨h1,h2⟩,I0 hi];simp only [Result.andThen,Io]
theorem xT (R:AS P Γ N S ρ a w) {t:TypeId} {x d:DV} {vc:Prop} {v:Value} {k:IntKind} {n:Int} (hx:AM (MS N S.h ρ) w x ρ v) (h:aS P t x n=some (d,vc)) (hv:vc):
 Yl P N w (MS N S.h ρ) ρ (Instr.indexAt t v (.int k n)) d:=by
 unfold aS at h;split at h
 ·rename_i l;obtain ⟨ad,cap,rfl,h1,h2,h3⟩:=hx;split at h
  ·rename_i he;cases h;obtain ⟨b,o,rfl,hM,hc⟩:=h3 n.toNat (by omega);refine Yl.pure (fun W=>U5 he hv.1 hv.2 W) ⟨b,o+n.toNat*1,rfl,fun j hj=>⟨hM,_,?_,rfl⟩⟩;have:j=0:=by omega
   subst this;simpa using hc
  ·cases h
 ·rename_i l;obtain ⟨ad,cap,rfl,h1,h2,h3⟩:=hx;split at h
  ·rename_i he;cases h;obtain ⟨b,o,rfl,hM,hc⟩:=h3 n.toNat (by omega);refine Yl.pure (fun W=>U5 he hv.1 hv.2 W) ⟨b,o+n.toNat*1,rfl,fun j hj=>⟨hM,_,?_,rfl⟩⟩;have:j=0:=by omega
   subst this;simpa using hc
  ·cases h
 ·rename_i m c f;obtain ⟨ad,cap,rfl,h1,h2,h3⟩:=hx;split at h
  ·rename_i he;cases h;have hm:=(m5 he).2;obtain ⟨b,o,u,rfl,hM,hc,hr⟩:=h3 n.toNat 0 (by omega) (by omega);refine Yl.pure (fun W=>U5 he hv.1 hv.2 W) ⟨b,o+n.toNat*m,rfl,fun j hj=>?_⟩;obtain ⟨b',o',u',e,hM',C1,Cs⟩:=h3 n.toNat j (by omega) hj;cases e;exact ⟨hM',u',by rw [zDw];exact C1,Cs⟩
  ·cases h
 ·rename_i k' m off c;obtain ⟨p,cap,hp,rfl,h1,h2,h3⟩:=hx;split at h
  ·rename_i he;cases h;exact Yl.pure (fun W=>U5 he hv.1 hv.2 W) ⟨p,hp,by rw [zDw,←zEh];rfl⟩
  ·cases h
 ·rename_i k' j;obtain ⟨p,hp,rfl⟩:=hx;split at h
  ·rename_i len sz ha;cases h;obtain ⟨hu,hl,i,hi,rfl⟩:=dD ha;refine Yl.pure (fun W=>?_) ⟨p,hp,rfl⟩;rw [run_indexAt_array W t _ k n hu,zAE ⟨hv.1,by rw [hl];exact hv.2⟩,I0 hi];simp only [Result.andThen,Io,zDw]
  ·cases h
 ·rename_i k' m i0;obtain ⟨p,hp,rfl⟩:=hx;split at h
  ·rename_i len sz ha;split at h
   ·rename_i Ay;subst Ay;cases h;obtain ⟨hu,hl,i,hi,rfl⟩:=dD ha;refine Yl.pure (fun W=>?_) ⟨p,hp,rfl⟩;rw [run_indexAt_array W t _ k n hu,zAE ⟨hv.1,by rw [hl];exact hv.2⟩,I0 hi];simp only [Result.andThen,Io,zDw,zEh,zAs,zEu]
   ·cases h
  ·cases h
 ·rename_i m f;obtain ⟨b,o,rfl,hc⟩:=W4 hx;split at h
  ·rename_i len sz ha;split at h
   ·rename_i Ay;cases h;obtain ⟨hu,hl,i,hi,rfl⟩:=dD ha;refine Yl.pure (fun W=>?_) ⟨b,o+n.toNat*i.size,rfl,fun j hj=>?_⟩
    ·rw [run_indexAt_array W t _ k n hu,zAE ⟨hv.1,by rw [hl];exact hv.2⟩,I0 hi];simp only [Result.andThen,Io]
    ·obtain ⟨hM,u,h1,h2⟩:=hc (n.toNat*i.size+j) (by omega);exact ⟨hM,u,by rw [zDw];exact h1,Ju hj h2⟩
   ·cases h
  ·cases h
 ·cases h
theorem se {op:BinOp} {k:IntKind} {x y:Int} {d:DV} {vc:Prop} (t:TypeId) (h:Xn op k x y=some (d,vc)) (M:Nat -> Prop):Yl P N w M ρ (binOp op t (.int k x) (.int k y)) d:=by
 cases op <;> simp only [Xn,zA4,zD6,reduceCtorEq] at h <;> obtain ⟨rfl,-⟩:=h
 ·exact Yl.pure (fun W=>by rw [binOp_add];rfl) rfl
 ·exact Yl.pure (fun W=>by rw [binOp_sub];rfl) rfl
 ·exact Yl.pure (fun W=>by rw [binOp_mul];rfl) rfl
 ·exact Yl.pure (fun W=>by rw [binOp_and];rfl) rfl
 ·exact Yl.pure (fun W=>by rw [binOp_or];rfl) rfl
 ·exact Yl.pure (fun W=>by rw [binOp_xor];rfl) rfl
 ·exact Yl.pure (fun W=>by rw [binOp_andNot];rfl) rfl
 ·exact Yl.pure (fun W=>by rw [binOp_eql];rfl) rfl
 ·exact Yl.pure (fun W=>by rw [binOp_neq];rfl) rfl
 ·exact Yl.pure (fun W=>by rw [binOp_lss];rfl) rfl
 ·exact Yl.pure (fun W=>by rw [binOp_leq];rfl) rfl
 ·exact Yl.pure (fun W=>by rw [binOp_gtr];rfl) rfl
 ·exact Yl.pure (fun W=>by rw [binOp_geq];rfl) rfl
theorem zBt {op:BinOp} {t:TypeId} {x y:Operand} {k:IntKind} {n:Int} {v:Value}:eqGuard op t x y (.int k n) v=pure ():=by
 cases op <;> rfl
theorem zDH {M:Nat -> Prop} {op:BinOp} {t:TypeId} {x y:DV} {vx vy:Value} {d:DV} {vc:Prop} (ox oy:Operand) (hx:AM M w x ρ vx) (hy:AM M w y ρ vy) (h:Xo (QP P t) op x y=some (d,vc)) (hv:vc):
 Yl P N w M ρ (do eqGuard op t ox oy vx vy;binOp op t vx vy) d:=by
 have key: ∀ {k k':IntKind} {n n':Int},vx= .int k n -> vy= .int k' n' -> Yl P N w M ρ (binOp op t (.int k n) (.int k' n')) d -> Yl P N w M ρ (do eqGuard op t ox oy vx vy;binOp op t vx vy) d:=by
  intro k k' n n' e1 e2 hY;subst e1;subst e2;rw [zBt];exact hY
 have hb:QP P t=1 -> P.underlying t=some .bool:=fun h=>by
  unfold QP at h;split at h
  ·assumption
  ·cases h
  ·cases h
 have af:QP P t=2 -> ∃ e,P.underlying t=some (.slice e):=fun h=>by
  unfold QP at h;split at h
  ·cases h
  ·exact ⟨_,by assumption⟩
  ·cases h
 have mm: ∀ {e:TypeId} {a:Addr} {l c:Nat} (W:World),P.underlying t=some (.slice e) -> (do eqGuard .eql t ox oy (.slice (some a) l c) (.slice none 0 0);binOp .eql t (.slice (some a) l c) (.slice none 0 0):Sem Value).run P W= .ok (.bool false) W:=by
  intro e a l c W hu;have h1:eqGuard .eql t ox oy (.slice (some a) l c) (.slice none 0 0)=pure ():=rfl;rw [h1]
  show (binOp .eql t (.slice (some a) l c) (.slice none 0 0)).run P W=_
  simp only [binOp];simp [run_equal_slice_nil W t e (some a) l c hu]
 have vO: ∀ {e:TypeId} {a:Addr} {l c:Nat} (W:World),P.underlying t=some (.slice e) -> (do eqGuard .neq t ox oy (.slice (some a) l c) (.slice none 0 0);binOp .neq t (.slice (some a) l c) (.slice none 0 0):Sem Value).run P W= .ok (.bool true) W:=by
  intro e a l c W hu;have h1:eqGuard .neq t ox oy (.slice (some a) l c) (.slice none 0 0)=pure ():=rfl;rw [h1]
  show (binOp .neq t (.slice (some a) l c) (.slice none 0 0)).run P W=_
  simp only [binOp];simp [run_equal_slice_nil W t e (some a) l c hu]
 unfold Xo at h;split at h
 ·split at h
  ·rename_i e;cases h;have e1:vx= .bool _:=hx;have e2:vy= .bool _:=hy;subst e1;subst e2;exact Yl.pure (fun W=>run_eql_bool W t _ _ (hb e)) rfl
  ·cases h
 ·split at h
  ·rename_i e;cases h;have e1:vx= .bool _:=hx;have e2:vy= .bool _:=hy;subst e1;subst e2;exact Yl.pure (fun W=>run_neq_bool W t _ _ (hb e)) rfl
  ·cases h
 ·split at h
  ·rename_i e;cases h;obtain ⟨e0,he⟩:=af e;obtain ⟨ad,cap,rfl,h1,h2,h3⟩:=hx;obtain ⟨b,o,rfl,_⟩:=h3 0 hv;have e2:vy= .slice none 0 0:=hy;subst e2;exact Yl.pure (fun W=>mm W he) rfl
  ·cases h
 ·split at h
  ·rename_i e;cases h;obtain ⟨e0,he⟩:=af e;obtain ⟨ad,cap,rfl,h1,h2,h3⟩:=hx;obtain ⟨b,o,rfl,_⟩:=h3 0 hv;have e2:vy= .slice none 0 0:=hy;subst e2;exact Yl.pure (fun W=>mm W he) rfl
  ·cases h
 ·split at h
  ·rename_i e;cases h;obtain ⟨e0,he⟩:=af e;obtain ⟨ad,cap,rfl,h1,h2,h3⟩:=hx;obtain ⟨b,o,rfl,_⟩:=h3 0 hv;have e2:vy= .slice none 0 0:=hy;subst e2;exact Yl.pure (fun W=>vO W he) rfl
  ·cases h
 ·cases h;refine key hx hy ?_;exact Yl.pure (fun W=>by rw [binOp_shl,shift_shl _ _ _ _ hv.1 hv.2];rfl) rfl
 ·cases h;refine key hx hy ?_;exact Yl.pure (fun W=>by rw [binOp_shr,shift_shr _ _ _ _ hv.1 hv.2];rfl) rfl
 ·split at h
  ·rename_i e;subst e;cases h;exact key hx hy (Yl.pure (fun W=>by rw [binOp_quo,Op.intDiv,zAU hv];rfl) rfl)
  ·cases h
 ·split at h
  ·rename_i e;subst e;cases h;exact key hx hy (Yl.pure (fun W=>by rw [binOp_rem,Op.intDiv,zAU hv];rfl) rfl)
  ·cases h
 ·split at h
  ·rename_i e;subst e;exact key hx hy (se t h M)
  ·cases h
 ·cases h
theorem Gq {ρ':Operand -> Value} {o:Oper} {s:Sem Value} {M:Nat -> Prop} {d:DV} (he:execOp ρ' o=(do pure (.value (←s)))) (h:Yl P N w M ρ s d): ∃ v,(∀ W,Keep N w W -> (execOp ρ' o).run P W= .ok (.value v) W)/\ AM M w d ρ v:=by
 obtain ⟨v,h1,h2⟩:=h;refine ⟨v,fun W hE=>?_,h2⟩;rw [he,zAr,h1 W hE];rfl
theorem zBf {s:TypeId} {f off sz:Nat} (h:XD P s f=some (off,sz)): ∃ fs fd i,P.underlying s=some (.struct fs)/\ fs[f]? =some fd/\ fd.offset=off/\ P.info? fd.type=some i/\ i.size=sz/\ sz≠0:=by
 unfold XD at h;split at h
 ·rename_i fs hs;split at h
  ·rename_i fd hf;split at h
   ·rename_i i hi;split at h
    ·cases h
    ·cases h;exact ⟨fs,fd,i,hs,hf,rfl,hi,rfl,by assumption⟩
   ·cases h
  ·cases h
 ·cases h
theorem Y1 {s:TypeId} {f off sz b o:Nat} (h:XD P s f=some (off,sz)) (W:World):(Instr.fieldAt s (.pointer (some ⟨b,o,none⟩)) f).run P W= .ok (.pointer (some ⟨b,o+off,none⟩)) W:=by
 obtain ⟨fs,fd,i,h1,h2,rfl,h4,rfl,h6⟩:=zBf h;unfold Instr.fieldAt;rw [zAr,zBu h1];simp only [Result.andThen,h2,Instr.sureAddr];simp only [zAr,zFV,Result.andThen,fieldPlace,I0 h4,zAU h6,Io]
theorem wx {t:TypeId} {k:IntKind} (h:aM P t=some k):P.underlying t=some (.int k):=by
 unfold aM at h;split at h
 ·cases h;assumption
 ·cases h
theorem RF {t ty:TypeId} {e:TypeId} {ad:Option Addr} {n c:Nat} (h:P.underlying t=some (.slice e)) (W:World):(Builtin.len_ #[t] ty #[.slice ad n c]).run P W= .ok (.int .i64 n) W:=by
 simp [Builtin.len_,zBu h,goInt]
theorem sY {t ty:TypeId} {s:ByteArray} (h:P.underlying t=some .string) (W:World):(Builtin.len_ #[t] ty #[.string s]).run P W= .ok (.int .i64 s.size) W:=by
 simp [Builtin.len_,zBu h,goInt]
theorem cJ {M:Nat -> Prop} {ρ':Operand -> Value} {o:Oper} {c:Call} {b:Builtin} {d:DV} {s:Sem Value} (ho:o.op= .call c) (hc:c.callee= .builtin b)
 (hb:builtin b c.argTypes o.type (c.args.map fun | .const _=>true | _=>false) (c.args.map ρ')=(do pure (.value (←s)))) (h:Yl P N w M ρ s d):
 ∃ v,(∀ W,Keep N w W -> (execOp ρ' o).run P W= .ok (.value v) W)/\ AM M w d ρ v:=by
 refine Gq (s:=s) ?_ h;rw [←hb];unfold execOp;rw [ho]
 show (resolve ρ' c o.type>>=fun d=>invoke d.target d.args)=_
 unfold resolve;rw [hc];rfl
theorem vw {M:Nat -> Prop} {t ty:TypeId} {x d:DV} {vc:Prop} {v:Value} (hx:AM M w x ρ v) (h:V0 P t x=some (d,vc)):Yl P N w M ρ (Builtin.len_ #[t] ty #[v]) d:=by
 unfold V0 at h;split at h
 ·rename_i e' hu;cases h;rw [show v=_ from hx];exact Yl.pure (fun W=>RF hu W) rfl
 ·rename_i e' l hu;cases h;obtain ⟨ad,cap,rfl,_⟩:=hx;exact Yl.pure (fun W=>RF hu W) rfl
 ·rename_i e' l hu;cases h;obtain ⟨ad,cap,rfl,_⟩:=hx;exact Yl.pure (fun W=>RF hu W) rfl
 ·rename_i e' m n f hu;cases h;obtain ⟨ad,cap,rfl,_⟩:=hx;exact Yl.pure (fun W=>RF hu W) rfl
 ·rename_i e' k m off n hu;cases h;obtain ⟨p,cap,_,rfl,_⟩:=hx;exact Yl.pure (fun W=>RF hu W) rfl
 ·rename_i s hu;cases h;rw [show v=_ from hx];exact Yl.pure (fun W=>sY hu W) rfl
 ·cases h
theorem eB {α:Type} {l:Array α} {x:α} (h:l.toList= [x]):l= #[x]:=by cases l;simp at h;rw [h]
theorem Ua {α:Type} {l:Array α} {x y:α} (h:l.toList= [x,y]):l= #[x,y]:=by cases l;simp at h;rw [h]
theorem zC9 (R:AS P Γ N S ρ a w) (o:Oper) {c:Call} {b:Builtin} {d:DV} {vc:Prop} (ho:o.op= .call c) (hc:c.callee= .builtin b) (h:Xl P S b c.args.toList c.argTypes.toList=some (d,vc)):
 ∃ v,(∀ W,Keep N w W -> (execOp a.eval o).run P W= .ok (.value v) W)/\ AM (MS N S.h ρ) w d ρ v:=by
 have rep:=fun x=>Bg R x
 unfold Xl at h;split at h
 ·split at h
  ·rename_i x ha;split at h
   ·rename_i t ht;exact cJ (s:=Builtin.len_ #[t] o.type #[a.eval x]) ho hc (by rw [eB ha,eB ht];simp [builtin]) (vw (rep x) h)
   ·cases h
  ·cases h
 ·split at h
  ·rename_i x y ha;have hx:=rep x;have hy:=rep y;unfold Zy at h;split at h
   ·rename_i k n k' n' e1 e2;cases h;rw [e1] at hx;rw [e2] at hy;refine cJ (s:=Builtin.max_ c.argTypes o.type #[a.eval x,a.eval y]) ho hc (by rw [Ua ha];simp [builtin]) ?_;rw [show a.eval x=_ from hx,show a.eval y=_ from hy];exact Yl.pure (fun W=>by simp [Builtin.max_,Builtin.max2]) rfl
   ·cases h
  ·cases h
 ·split at h
  ·rename_i x y ha;have hx:=rep x;have hy:=rep y;unfold Zx at h;split at h
   ·rename_i k n k' n' e1 e2;cases h;rw [e1] at hx;rw [e2] at hy;refine cJ (s:=Builtin.min_ c.argTypes o.type #[a.eval x,a.eval y]) ho hc (by rw [Ua ha];simp [builtin]) ?_;rw [show a.eval x=_ from hx,show a.eval y=_ from hy];exact Yl.pure (fun W=>by simp [Builtin.min_,Builtin.min2]) rfl
   ·cases h
  ·cases h
 ·cases h
theorem ig (R:AS P Γ N S ρ a w) (o:Oper) {d:DV} {vc:Prop} (h:O6 P S o.op=some (d,vc)) (hv:vc):
 ∃ v,(∀ W,Keep N w W -> (execOp a.eval o).run P W= .ok (.value v) W)/\ AM (MS N S.h ρ) w d ρ v:=by
 have rep:=fun x=>Bg R x
 unfold O6 at h;split at h
 ·rename_i x ho;cases h;exact ⟨a.eval x,fun W _=>by unfold execOp;rw [ho];rfl,rep x⟩
 ·rename_i x ho;cases h;exact ⟨a.eval x,fun W _=>by unfold execOp;rw [ho];rfl,rep x⟩
 ·rename_i c x y ho;have hc:=rep c;split at h
  ·rename_i e;cases h;rw [e] at hc;exact ⟨a.eval x,fun W _=>by unfold execOp;rw [ho];simp only [show a.eval c= .bool true from hc];rfl,rep x⟩
  ·rename_i e;cases h;rw [e] at hc;exact ⟨a.eval y,fun W _=>by unfold execOp;rw [ho];simp only [show a.eval c= .bool false from hc];rfl,rep y⟩
  ·cases h
 ·rename_i t x ho;exact Gq (by unfold execOp;rw [ho]) (ji R (rep x) h hv)
 ·rename_i op t x y t' ho;exact Gq (by unfold execOp;rw [ho]) (zDH x y (rep x) (rep y) h hv)
 ·rename_i op t x ho;have hx:=rep x;refine Gq (s:=Op.unary op (a.eval x)) (by unfold execOp;rw [ho]) ?_;split at h
  ·rename_i b e;cases h;rw [e] at hx;rw [show a.eval x= .bool b from hx];exact Yl.pure (fun W=>rfl) rfl
  ·rename_i k n e;cases h;rw [e] at hx;rw [show a.eval x= .int k n from hx];exact Yl.pure (fun W=>rfl) rfl
  ·rename_i k n e;cases h;rw [e] at hx;rw [show a.eval x= .int k n from hx];exact Yl.pure (fun W=>rfl) rfl
  ·cases h
 ·rename_i ts td x ho;have hx:=rep x;split at h
  ·rename_i dd k k' n hs hd e;cases h;rw [e] at hx;refine Gq (s:=convert ts td (a.eval x)) (by unfold execOp;rw [ho]) ?_;rw [show a.eval x= .int k' n from hx];refine Yl.pure (v:=.int k (k.wrap n)) (fun W=>?_) rfl;simp [convert,zBu hs,zBu (wx hd),Conv.intToInt]
  ·cases h
 ·rename_i x ho;have hx:=rep x;split at h
  ·rename_i m f e;cases h;rw [e] at hx;obtain ⟨b,oo,hb,hr⟩:=W4 hx;exact ⟨_,fun W _=>by unfold execOp;rw [ho];simp only [hb];rfl,b,oo,rfl,hr⟩
  ·rename_i k j e;cases h;rw [e] at hx;obtain ⟨p,hp,hb⟩:=hx;exact ⟨_,fun W _=>by unfold execOp;rw [ho];simp only [hb];rfl,p,hp,rfl⟩
  ·rename_i k m i j e;cases h;rw [e] at hx;obtain ⟨p,hp,hb⟩:=hx;exact ⟨_,fun W _=>by unfold execOp;rw [ho];simp only [hb];rfl,p,hp,rfl⟩
  ·rename_i g m c e;cases h;rw [e] at hx;obtain ⟨lb,hb,hr⟩:=hx;exact ⟨_,fun W _=>by unfold execOp;rw [ho];simp only [hb];rfl,lb,rfl,hr⟩
  ·cases h
 ·rename_i st x f ho;have hx:=rep x;split at h
  ·rename_i off sz hf;refine Gq (s:=Instr.fieldAt st (a.eval x) f) (by unfold execOp;rw [ho]) ?_;split at h
   ·rename_i m g e;split at h
    ·cases h;rw [e] at hx;obtain ⟨b,oo,hb,hr⟩:=W4 hx;rw [hb];refine Yl.pure (fun W=>Y1 hf W) ⟨b,_,rfl,fun j hj=>?_⟩;obtain ⟨g1,u,g2,g3⟩:=hr (off+j) (by omega);exact ⟨g1,u,by rw [zDw];exact g2,Ju hj g3⟩
    ·cases h
   ·rename_i k j e;cases h;rw [e] at hx;obtain ⟨p,hp,hb⟩:=hx;rw [hb];exact Yl.pure (fun W=>Y1 hf W) ⟨p,hp,by rw [zDw]⟩
   ·rename_i k m i j e;cases h;rw [e] at hx;obtain ⟨p,hp,hb⟩:=hx;rw [hb];exact Yl.pure (fun W=>Y1 hf W) ⟨p,hp,by rw [zDw,zDw]⟩
   ·cases h
  ·cases h
 ·rename_i t x i ho;have hi:=rep i;split at h
  ·rename_i k n e;rw [e] at hi;refine Gq (s:=Instr.indexAt t (a.eval x) (a.eval i)) (by unfold execOp;rw [ho]) ?_;rw [show a.eval i= .int k n from hi];exact xT R (rep x) h hv
  ·cases h
 ·rename_i x i ho;have hx:=rep x;split at h
  ·rename_i m f e;split at h
   ·rename_i hi;cases h;rw [e] at hx;obtain ⟨cs,hb,hs,hr⟩:=hx;obtain ⟨u,g1,g2⟩:=hr i hi;refine Gq (s:=Instr.extract (a.eval x) i) (by unfold execOp;rw [ho]) ?_;rw [hb];exact Yl.pure (fun W=>by simp [Instr.extract,g1]) g2
   ·cases h
  ·cases h
 ·rename_i g first c ho
  split at h
  ·rename_i hf;cases h;refine ⟨.func (.func g) #[] (c.map a.eval),fun W _=>?_,c.map a.eval,rfl,by simp,fun j hj=>?_⟩
   ·unfold execOp;rw [ho];have:first= #[]:=zFA hf
    subst this;simp [Instr.makeFunc]
   ·refine ⟨a.eval (c.getD j (.const undef)),by simp [hj],Ju hj (rep _)⟩
  ·cases h
 ·rename_i c ho;split at h
  ·rename_i b hc;exact zC9 R o ho hc h
  ·cases h
 ·cases h
end
end Go.Proofs.YtkjbblkieglmlaaGreatDoor
namespace Go.Proofs.YtkjbblkieglmlaaGreatDoor
abbrev zAF:=@Option.bind_some
abbrev zAM:=@List.getElem?_eq_getElem
abbrev zAl:=@List.length_replicate
abbrev zAm:=@List.length_append
abbrev zAq:=@List.length_map
abbrev zAw:=@List.length_cons
abbrev zA1:=@List.getElem?_map
abbrev zA2:=@Option.map_some
abbrev zD8:=@Nat.mul_one
abbrev zEK:=@Int.le_refl
abbrev zEQ:=@List.getElem_of_mem
abbrev zER:=@List.eq_nil_of_length_eq_zero
abbrev zEc:=@Option.getD_some
abbrev zEz:=@Go.heap_alloc_new
abbrev zE1:=@Nat.div_lt_iff_lt_mul
abbrev zE5:=@List.size_toArray
abbrev zFa:=@List.getElem?_range
abbrev zFo:=@List.flatMap_cons
abbrev zGD:=@Nat.mod_lt
abbrev zGE:=@Nat.mul_le_mul
end Go.Proofs.YtkjbblkieglmlaaGreatDoor
namespace Go.Proofs.YtkjbblkieglmlaaGreatDoor
open Go.RowKit
def IR:DV -> Bool
 | .any=>false
 | .agg .. =>false
 | .tup .. =>false
 | .it _=>false
 | .mri .. =>false
 | _=>true
def Ii:DV -> Option (List DV)
 | .agg m f=>some ((List.range m).map f)
 | .any=>none
 | .tup .. =>none
 | .it _=>none
 | .mri .. =>none
 | d=>some [d]
def O8:DV -> Bool
 | .int .. =>true
 | .bool _=>true
 | .str _=>true
 | .nils=>true
 | .ints _=>true
 | .bools _=>true
 | .sl .. =>true
 | _=>false
section
variable {P:Program} {Γ:Ar} {N:Nat -> Prop} {S:St} {ρ:List AI} {a:Act} {w:World}
theorem Vk {M:Nat -> Prop} {d:DV} {v:Value} (h:IR d=true) (hr:AM M w d ρ v):v.oneCell'=true/\ v.cells= #[v]:=by
 have key:(∀ cs,v≠.agg cs) -> (∀ cs,v≠.tuple cs) -> v.oneCell'=true/\ v.cells= #[v]:=fun h1 h2=>by
  cases v <;> first | exact ⟨rfl,rfl⟩ | exact absurd rfl (h1 _) | exact absurd rfl (h2 _)
 cases d with
 | any=>cases h
 | agg m f=>cases h
 | tup m f=>cases h
 | nils=>exact key (fun cs e=>by rw [hr] at e;cases e) (fun cs e=>by rw [hr] at e;cases e)
 | int k n=>exact key (fun cs e=>by rw [hr] at e;cases e) (fun cs e=>by rw [hr] at e;cases e)
 | bool b=>exact key (fun cs e=>by rw [hr] at e;cases e) (fun cs e=>by rw [hr] at e;cases e)
 | str s=>exact key (fun cs e=>by rw [hr] at e;cases e) (fun cs e=>by rw [hr] at e;cases e)
 | ints l=>obtain ⟨_,_,rfl,_⟩:=hr;exact ⟨rfl,rfl⟩
 | bools l=>obtain ⟨_,_,rfl,_⟩:=hr;exact ⟨rfl,rfl⟩
 | sl m n f=>obtain ⟨_,_,rfl,_⟩:=hr;exact ⟨rfl,rfl⟩
 | fp m f=>obtain ⟨_,_,rfl,_⟩:=hr;exact ⟨rfl,rfl⟩
 | ref k j=>obtain ⟨_,_,rfl⟩:=hr;exact ⟨rfl,rfl⟩
 | msl k m off n=>obtain ⟨_,_,_,rfl,_⟩:=hr;exact ⟨rfl,rfl⟩
 | mp k m i j=>obtain ⟨_,_,rfl⟩:=hr;exact ⟨rfl,rfl⟩
 | fn g m c=>obtain ⟨_,rfl,_⟩:=hr;exact ⟨rfl,rfl⟩
 | it k=>cases h
 | yl l=>exact key (fun cs e=>by rw [hr] at e;cases e) (fun cs e=>by rw [hr] at e;cases e)
 | mse k m o n=>obtain ⟨_,_,_,_,rfl,_⟩:=hr;exact ⟨rfl,rfl⟩
 | mri k i=>cases h
 | cst u=>obtain ⟨rfl,hu⟩:=hr;cases v <;> first | exact ⟨rfl,rfl⟩ | (cases hu;done)
theorem Tq {M:Nat -> Prop} {d:DV} {v:Value} {l:List DV} (h:Ii d=some l) (hr:AM M w d ρ v):v.cells.size=l.length/\ ∀ j,j<l.length -> ∃ u,v.cells[j]? =some u/\ AM M w (l.getD j .any) ρ u:=by
 have one:IR d=true -> l= [d] -> v.cells.size=l.length/\ ∀ j,j<l.length -> ∃ u,v.cells[j]? =some u/\ AM M w (l.getD j .any) ρ u:=by
  intro h1 h2;subst h2;rw [(Vk h1 hr).2];refine ⟨rfl,fun j hj=>?_⟩;have:j=0:=by simpa using hj
  subst this;exact ⟨v,rfl,hr⟩
 cases d with
 | any=>cases h
 | tup m f=>cases h
 | it k=>cases h
 | yl l=>cases h;exact one rfl rfl
 | mse k m o n=>cases h;exact one rfl rfl
 | mri k i=>cases h
 | cst u=>exact one rfl (zAR h).symm
 | agg m f=>
  cases h;obtain ⟨cs,rfl,hs,hc⟩:=hr;refine ⟨by simpa [Value.cells] using hs,fun j hj=>?_⟩;have BT:j<m:=by simpa using hj
  obtain ⟨u,h1,h2⟩:=hc j BT;exact ⟨u,h1,by simpa [BT] using h2⟩
 | nils=>cases h;exact one rfl rfl
 | int k n=>cases h;exact one rfl rfl
 | bool b=>cases h;exact one rfl rfl
 | str s=>cases h;exact one rfl rfl
 | ints l=>cases h;exact one rfl rfl
 | bools l=>cases h;exact one rfl rfl
 | sl m n f=>cases h;exact one rfl rfl
 | fp m f=>cases h;exact one rfl rfl
 | ref k j=>cases h;exact one rfl rfl
 | msl k m off n=>cases h;exact one rfl rfl
 | mp k m i j=>cases h;exact one rfl rfl
 | fn g m c=>cases h;exact one rfl rfl
theorem ZS {M:Nat -> Prop} {d:DV} {v:Value} (h:O8 d=true) (hr:AM M w d ρ v):AM M w d [] v:=by
 cases d <;> first | exact hr | (cases h;done)
structure CV (P:Program) (Γ:Ar) (N:Nat -> Prop) (h:DH) (ρ:List AI) (w:World) (ext:Bool) (d:DV) (h':DH) (v:Value) (w':World):Prop where
 ex: ∃ ρ',A0 P Γ N h' ρ' w'/\ AM (MS N h' ρ') w' d ρ' v/\ A6 h ρ w h' ρ' w'/\ (∀ (k:Nat) (p:AI),ρ[k]? =some p -> ρ'[k]? =some p)
 ext:ext=true -> Aq w w'
def Bb (P:Program) (s:Sem Next) (w:World) (G:Value -> World -> Prop):Prop:=
 (∃ v w',s.run P w= .ok (.value v) w'/\ G v w')∨(∃ w',s.run P w= .ok .skip w'/\ G undef w')∨
 (∃ f args w',s.run P w= .ok (.enter f args) w'/\ Calls P f args w' fun e CI=>∃ v,e= .returned v/\ G v CI)
theorem Bb.value {G:Value -> World -> Prop} {ρ':Operand -> Value} {o:Oper} {s:Sem Value} {v:Value} {w':World} (he:execOp ρ' o=(do pure (.value (←s)))) (h:s.run P w= .ok v w') (hG:G v w'):Bb P (execOp ρ' o) w G:=
 .inl ⟨v,w',by rw [he,zAr,h];rfl,hG⟩
theorem Bb.skip {G:Value -> World -> Prop} {ρ':Operand -> Value} {o:Oper} {s:Sem Unit} {w':World} (he:execOp ρ' o=(do s;pure .skip)) (h:s.run P w= .ok () w') (hG:G undef w'):Bb P (execOp ρ' o) w G:=
 .inr (.inl ⟨w',by rw [he,zAr,h];rfl,hG⟩)
def ED (w:World) (room:Nat):AI:=⟨w.heap.size,0,room,undef,fun b=>b=w.heap.size⟩
theorem Pq (H:A0 P Γ N S.h ρ w) {cs:Array Value} {t:TypeId} {o:DO} {d:DV} {v:Value} {w1:World} (Sq:Aq w w1/\ w1.heap.size=w.heap.size)
 (ho: ∀ M ρ',BU (MS N S.h ρ) w ρ M (w1.alloc (.cells cs t)) ρ' -> Dy P M (w1.alloc (.cells cs t)) ρ' (ED w cs.size) o)
 (hv: ∀ M ρ',ρ'[S.h.length]? =some (ED w cs.size) -> AM M (w1.alloc (.cells cs t)) d ρ' v) (ext:Bool):
 CV P Γ N S.h ρ w ext d (S.h++[some o]) v (w1.alloc (.cells cs t)):=by
 have hE:Aq w (w1.alloc (.cells cs t)):=Sq.1.allocR _;have hf: ∀ b,(ED w cs.size).foot b -> w.heap.size<=b:=fun b hb=>Nat.le_of_eq (Eq.symm hb)
 have hb:(w1.alloc (.cells cs t)).heap[w.heap.size]? =some (.cells cs t (0,0)):=by rw [←Sq.2];exact zEz w1 _
 refine ⟨⟨ρ++[ED w cs.size],H.snoc hE (fun b hx=>⟨hf b hx,.cells (c:=cs) (t:=t) (z:=(0,0)) (by rw [show b=w.heap.size from hx];exact hb)⟩) (ho _ _ (BU.snoc H hE hf)),?_,A6.snoc H hE hf,fun k p hk=>ET hk⟩,fun _=>hE⟩;exact hv _ _ (by rw [←H.len];simp)
theorem M5 {cs:Array Value} {t:TypeId} {w1:World} (hs:w1.heap.size=w.heap.size) {n:Nat} {R:Nat -> Value -> Prop} (hn:n<=cs.size) (hR: ∀ j,j<n -> ∃ u,cs[j]? =some u/\ R j u):AX (w1.alloc (.cells cs t)) (ED w cs.size) n R:=by
 refine ⟨rfl,cs,t,?_,by simpa [ED] using hn,zAp _,fun j hj=>by simpa [ED] using hR j hj⟩
 show (w1.alloc (.cells cs t)).heap[w.heap.size]? =_
 rw [←hs];exact zEz w1 _
theorem zDC (R:AS P Γ N S ρ a w) {x:Operand} {t:TypeId} {l:List DV} (h:Ii (AY S.fr x)=some l) (o:Oper) (ho:o.op= .box t x) (ext:Bool):
 Bb P (execOp a.eval o) w (CV P Γ N S.h ρ w ext (.ref S.h.length 0) (S.h++[some (.cells l)])):=by
 obtain ⟨h1,h2⟩:=Tq h (Bg R x);refine Bb.value (s:=Instr.box t (a.eval x)) (by unfold execOp;rw [ho]) (v:=.pointer (some ⟨w.heap.size,0,none⟩)) (w':=w.alloc (.cells (a.eval x).cells t)) ?_ ?_
 ·rfl
 ·refine Pq (d:=.ref S.h.length 0) R.hr ⟨Aq.refl w,rfl⟩ (fun M ρ' O=>?_) (fun M ρ' hp=>⟨_,hp,rfl⟩) ext;refine M5 rfl (by omega) fun j hj=>?_
  obtain ⟨u,g1,g2⟩:=h2 j hj;exact ⟨u,g1,g2.out _ O⟩
theorem zDj (R:AS P Γ N S ρ a w) {t:TypeId} {i:TypeInfo} {z:Value} (hi:P.info? t=some i) (hz:i.zero=some z) (o:Oper) (ho:o.op= .alloc t) (ext:Bool):
 Bb P (execOp a.eval o) w (CV P Γ N S.h ρ w ext (.ref S.h.length 0) (S.h++[some (.cells (z.cells.toList.map GJ))])):=by
 refine Bb.value (s:=Instr.alloc t true (.tuple #[])) (by unfold execOp;rw [ho]) (v:=.pointer (some ⟨w.heap.size,0,none⟩)) (w':=w.alloc (.cells z.cells t)) ?_ ?_
 ·simp [Instr.alloc,zeroValue,typeInfo,hi,hz,newVar,newRow,newObj];rfl
 ·refine Pq (d:=.ref S.h.length 0) R.hr ⟨Aq.refl w,rfl⟩ (fun M ρ' O=>?_) (fun M ρ' hp=>⟨_,hp,rfl⟩) ext;refine M5 rfl (by simp) fun j hj=>?_
  have BT:j<z.cells.size:=by simpa using hj
  refine ⟨z.cells[j],by simp [BT],?_⟩;have:(z.cells.toList.map GJ).getD j .any=GJ z.cells[j]:=by simp [BT]
  rw [this];exact Vn _
def mg:Value -> Bool
 | .bool false=>true
 | _=>false
def X0 (z:Value):Bool:=decide (2<z.cells.size)&&z.cells.toList.all mg
theorem zDk (R:AS P Γ N S ρ a w) {t:TypeId} {i:TypeInfo} {z:Value} (hi:P.info? t=some i) (hz:i.zero=some z) (hb:X0 z=true) (o:Oper) (ho:o.op= .alloc t) (ext:Bool):
 Bb P (execOp a.eval o) w (CV P Γ N S.h ρ w ext (.mp S.h.length 1 0 0) (S.h++[some (.bools (List.replicate z.cells.size false))])):=by
 refine Bb.value (s:=Instr.alloc t true (.tuple #[])) (by unfold execOp;rw [ho]) (v:=.pointer (some ⟨w.heap.size,0,none⟩)) (w':=w.alloc (.cells z.cells t)) ?_ ?_
 ·simp [Instr.alloc,zeroValue,typeInfo,hi,hz,newVar,newRow,newObj];rfl
 ·refine Pq (d:=.mp S.h.length 1 0 0) R.hr ⟨Aq.refl w,rfl⟩ (fun M ρ' O=>?_) (fun M ρ' hp=>⟨_,hp,rfl⟩) ext;refine M5 rfl (by simp) fun j hj=>?_
  have BT:j<z.cells.size:=by simpa using hj
  refine ⟨z.cells[j],by simp [BT],?_⟩;simp only [X0,zAN,zAT] at hb;have:=hb.2 z.cells[j] (by simp);unfold mg at this;split at this
  ·rename_i e;rw [e];simp [BT]
  ·cases this
inductive EK where
 | ints
 | bools
 | gen (m:Nat)
def Kp (P:Program) (t:TypeId):Option (EK×TypeId×TypeInfo×Value):=match P.underlying t with
 | some (.slice e)=>match P.info? e with
  | some i=>match i.zero with
   | some z=>if i.size=0 then none else if z.cells.size≠i.size then none else match P.underlying e with
    | some (.int .i64)=>if i.size=1 then (match z with | .int .i64 0=>some (.ints,e,i,z) | _=>none) else none
    | some .bool=>if i.size=1 then (match z with | .bool false=>some (.bools,e,i,z) | _=>none) else none
    | _=>some (.gen i.size,e,i,z)
   | none=>none
  | none=>none
 | _=>none
def EK.cells:EK -> Nat
 | .ints=>1
 | .bools=>1
 | .gen m=>m
theorem Te {t:TypeId} {k:EK} {e:TypeId} {i:TypeInfo} {z:Value} (h:Kp P t=some (k,e,i,z)):P.underlying t=some (.slice e)/\ P.info? e=some i/\ i.zero=some z/\ i.size≠0/\ z.cells.size=i.size/\ k.cells=i.size/\
 (k= .ints -> z= .int .i64 0)/\ (k= .bools -> z= .bool false):=by
 unfold Kp at h
 repeat' (split at h)
 all_goals first
  | (cases h;done)
  | skip
 all_goals
  simp only [zA4,zD6] at h;obtain ⟨rfl,rfl,rfl,rfl⟩:=h;refine ⟨by assumption,by assumption,by assumption,by assumption,by simp_all,?_,?_,?_⟩
  ·simp_all [EK.cells]
  ·intro hk;first | rfl | cases hk
  ·intro hk;first | rfl | cases hk
theorem bs {s:Nat} (hs:0<s): ∀ (vs:List Value),(∀ v∈vs,v.cells.size=s) -> ∀ i j,i<vs.length -> j<s -> (vs.flatMap fun v=>v.cells.toList)[i*s+j]? =(vs[i]?).bind (fun v=>v.cells[j]?)
 | [],_,i,j,hi,_=>absurd hi (zAo i)
 | v::vs,hv,i,j,hi,hj=>by
  have Hv:v.cells.toList.length=s:=by simpa using hv v (by simp)
  rw [zFo];cases i with
  | zero=>rw [Nat.zero_mul,zAs,zAb (by omega)];simp
  | succ i=>
   rw [zAd (by rw [Hv,zFn];omega),Hv,show (i+1)*s+j-s=i*s+j by rw [zFn];omega];rw [bs hs vs (fun v h=>hv v (by simp [h])) i j (by simpa using hi) hj];simp
def Ht:DV -> Int
 | .int _ n=>n
 | _=>0
def T5:DV -> Bool
 | .bool b=>b
 | _=>false
def KN:DV -> Bool
 | .int .i64 _=>true
 | _=>false
def aJ:DV -> Bool
 | .bool _=>true
 | _=>false
def QN (k:EK) (ds:List DV):Option DO:=match k with
 | .ints=>if ds.all KN then some (.ints (ds.map Ht)) else none
 | .bools=>if ds.all aJ then some (.bools (ds.map T5)) else none
 | .gen m=>if ds.all fun d=>(match Ii d with | some l=>l.length==m&&l.all O8 | none=>false) then
  some (.arr m ds.length (fun i j=>match Ii (ds.getD i .any) with | some l=>l.getD j .any | none=>.any)) else none
theorem aH {M:Nat -> Prop} {d:DV} {v:Value} (h:KN d=true) (hr:AM M w d ρ v):v= .int .i64 (Ht d):=by
 unfold KN at h;split at h
 ·exact hr
 ·cases h
theorem wv {M:Nat -> Prop} {d:DV} {v:Value} (h:aJ d=true) (hr:AM M w d ρ v):v= .bool (T5 d):=by
 unfold aJ at h;split at h
 ·exact hr
 ·cases h
theorem zDB {M:Nat -> Prop} {k:EK} {ds:List DV} {o:DO} {vs:List Value} (hk:0<k.cells) (h:QN k ds=some o) (hl:vs.length=ds.length) (hv: ∀ i,i<ds.length -> AM M w (ds.getD i .any) ρ (vs.getD i undef)):
 (∀ v∈vs,v.cells.size=k.cells)/\ ∀ M' (w':World) ρ',BU M w ρ M' w' ρ' -> ∀ (cs:Array Value) (t:TypeId) (p:AI),cs.toList=(vs.flatMap fun v=>v.cells.toList) -> AX w' p (ds.length*k.cells) (fun j u=>cs[j]? =some u) -> Dy P M' w' ρ' p o:=by
 have one: ∀ {j:Nat},k.cells=1 -> j<ds.length*k.cells -> (∀ v∈vs,v.cells.size=k.cells) -> ∀ {u},(vs.flatMap fun v=>v.cells.toList)[j]? =some u -> (vs[j]?).bind (fun v=>v.cells[0]?)=some u:=fun {j} h1 hj hs {u} hu=>by
  rw [h1] at hj hs;have:=bs (s:=1) (by omega) vs hs j 0 (by omega) (by omega);rw [zD8,zEu] at this;rw [←this];exact hu
 have mem: ∀ v∈vs,∃ i,i<ds.length/\ v=vs.getD i undef/\ vs[i]? =some v:=fun v hv=>by
  obtain ⟨i,hi,rfl⟩:=zEQ hv;exact ⟨i,by omega,by simp [hi],by simp [hi]⟩
 have cP: ∀ i,i<ds.length -> ds.getD i .any∈ds:=fun i hi=>by simp [hi]
 cases k with
 | ints=>
  simp only [QN] at h;split at h
  ·rename_i ha;cases h;have hI: ∀ i,i<ds.length -> vs.getD i undef= .int .i64 (Ht (ds.getD i .any)):=fun i hi=>aH (zAT.1 ha _ (cP i hi)) (hv i hi)
   have hs: ∀ v∈vs,v.cells.size=EK.ints.cells:=fun v Nj=>by obtain ⟨i,hi,e,_⟩:=mem v Nj;rw [e,hI i hi];rfl
   refine ⟨hs,fun M' w' ρ' O cs t p DW hr=>?_⟩;have hn:ds.length*EK.ints.cells=(ds.map Ht).length:=by simp [EK.cells]
   rw [hn] at hr;refine AX.out hr rfl fun j u hj hu=>?_
   have BT:j<ds.length:=by simpa using hj
   have h2:=one rfl (by simpa [EK.cells] using BT) hs (u:=u) (by rw [←DW];simpa using hu);rw [zAM (by omega)] at h2;have h3:=hI j BT;have h4:vs.getD j undef=vs[j]:=by simp [hl,BT]
   rw [h4] at h3;simp only [zAF,h3] at h2;have:u=Value.int .i64 (Ht (ds.getD j .any)):=by simpa [Value.cells] using h2.symm
   rw [this];simp [BT]
  ·cases h
 | bools=>
  simp only [QN] at h;split at h
  ·rename_i ha;cases h;have hI: ∀ i,i<ds.length -> vs.getD i undef= .bool (T5 (ds.getD i .any)):=fun i hi=>wv (zAT.1 ha _ (cP i hi)) (hv i hi)
   have hs: ∀ v∈vs,v.cells.size=EK.bools.cells:=fun v Nj=>by obtain ⟨i,hi,e,_⟩:=mem v Nj;rw [e,hI i hi];rfl
   refine ⟨hs,fun M' w' ρ' O cs t p DW hr=>?_⟩;have hn:ds.length*EK.bools.cells=(ds.map T5).length:=by simp [EK.cells]
   rw [hn] at hr;refine AX.out hr rfl fun j u hj hu=>?_
   have BT:j<ds.length:=by simpa using hj
   have h2:=one rfl (by simpa [EK.cells] using BT) hs (u:=u) (by rw [←DW];simpa using hu);rw [zAM (by omega)] at h2;have h3:=hI j BT;have h4:vs.getD j undef=vs[j]:=by simp [hl,BT]
   rw [h4] at h3;simp only [zAF,h3] at h2;have:u=Value.bool (T5 (ds.getD j .any)):=by simpa [Value.cells] using h2.symm
   rw [this];simp [BT]
  ·cases h
 | gen m=>
  simp only [QN] at h;split at h
  ·rename_i ha;cases h;have hm:0<m:=hk
   have hI: ∀ i,i<ds.length -> ∃ l,Ii (ds.getD i .any)=some l/\ l.length=m/\ (∀ d∈l,O8 d=true):=fun i hi=>by
    have:=zAT.1 ha _ (cP i hi);split at this
    ·rename_i l hl;simp only [zAN,zDu] at this;exact ⟨l,hl,this.1,fun d hd=>zAT.1 this.2 d hd⟩
    ·cases this
   have hs: ∀ v∈vs,v.cells.size=(EK.gen m).cells:=fun v Nj=>by
    obtain ⟨i,hi,e,_⟩:=mem v Nj;obtain ⟨l,h1,h2,_⟩:=hI i hi;rw [e,(Tq h1 (hv i hi)).1,h2];rfl
   refine ⟨hs,fun M' w' ρ' O cs t p DW hr=>?_⟩;refine AX.out hr rfl fun j u hj hu=>?_
   have hj0:j<ds.length*m:=hj;have hi:j/m<ds.length:=by rw [zE1 hm];exact hj0
   have hc:j % m<m:=zGD _ hm;obtain ⟨l,h1,h2,h3⟩:=hI (j/m) hi;have h4:=bs (s:=m) hm vs hs (j/m) (j % m) (by omega) hc;rw [show j/m*m+j % m=j by rw [zEf];exact Nat.div_add_mod j m] at h4;obtain ⟨_,h5⟩:=Tq h1 (hv (j/m) hi);obtain ⟨u',g1,g2⟩:=h5 (j % m) (by omega);have h6:vs.getD (j/m) undef=vs[j/m]'(by omega):=by simp [hl,hi]
   have AO:j/m<vs.length:=by omega
   rw [zAM AO] at h4;rw [h6] at g1
   have:u=u':=by
    have Bo:(vs.flatMap fun v=>v.cells.toList)[j]? =some u:=by rw [←DW];simpa using hu
    rw [h4] at Bo;simp only [zAF] at Bo;rw [g1] at Bo;exact (zAR Bo).symm
   subst this;simp only [h1];refine AM.out _ O.nil (ZS (h3 _ ?_) g2);simp [h2,hc]
  ·cases h
theorem Y5 {cs:Array Value} {t:TypeId} {w1:World} (hs:w1.heap.size=w.heap.size) {n:Nat} (hn:cs.size=n):AX (w1.alloc (.cells cs t)) (ED w n) n (fun j u=>cs[j]? =some u):=by
 subst hn;exact M5 hs (zAp _) fun j hj=>⟨cs[j],by simp [hj],by simp [hj]⟩
def XQ (parts:List (Nat×Operand)) (len:Nat):Bool:=parts.map (·.1)==List.range len
theorem zCG {parts:List (Nat×Operand)} {len:Nat} (h:XQ parts len=true) (f:Operand -> Value):parts.length=len/\ (parts.map fun x=>(x.1,f x.2))=((parts.map fun x=>f x.2).zipIdx 0).map fun x=>(x.2,x.1):=by
 simp only [XQ,zDu] at h;have hl:parts.length=len:=by have:=congrArg List.length h;simpa using this
 refine ⟨hl,List.ext_getElem? fun i=>?_⟩
 by_cases hi:i<parts.length
 ·have h1:parts[i].1=i:=by
   have h2:=congrArg (fun l:List Nat=>l[i]?) h;have h3:(List.range len)[i]? =some i:=zFa (by omega);simp only [zA1,zAM hi,zA2,h3] at h2;exact zAR h2
  simp [hi,h1]
 ·rw [zEV (by simpa using hi),zEV (by simpa using hi)]
theorem zDA (R:AS P Γ N S ρ a w) {t:TypeId} {len:Nat} {parts:Array (Nat×Operand)} {k:EK} {e:TypeId} {i:TypeInfo} {z:Value} {ob:DO} (hk:Kp P t=some (k,e,i,z)) (hd:XQ parts.toList len=true) (Ao:len<=65536/\ k.cells<=64)
 (hb:QN k (parts.toList.map fun x=>AY S.fr x.2)=some ob) (o:Oper) (ho:o.op= .buildSlice t len parts) (ext:Bool):
 Bb P (execOp a.eval o) w (CV P Γ N S.h ρ w ext (.msl S.h.length k.cells 0 len) (S.h++[some ob])):=by
 obtain ⟨hu,hi,hz,h0,Cf,EH,_,_⟩:=Te hk;obtain ⟨Eu,yZ⟩:=zCG hd a.eval;have zAB:=Ao.1;have zAA:=Ao.2;have Ft:0<k.cells:=by omega
 obtain ⟨hs,KX⟩:=zDB (w:=w) (M:=MS N S.h ρ) (ρ:=ρ) (vs:=parts.toList.map fun x=>a.eval x.2) Ft hb (by simp) (fun j hj=>by
  have BT:j<parts.toList.length:=by simpa using hj
  have:=Bg R parts.toList[j].2;simp only [u8,zA1,zAM BT,zA2,zEc];exact this)
 have Gj:(parts.toList.map fun x=>a.eval x.2).length=len:=by simpa using Eu
 have A2:((parts.toList.map fun x=>a.eval x.2).flatMap fun v=>v.cells.toList).toArray.size=len*k.cells:=by
  have: ∀ (l:List Value),(∀ v∈l,v.cells.size=k.cells) -> (l.flatMap fun v=>v.cells.toList).length=l.length*k.cells:=by
   intro l
   induction l with
   | nil=>intro _;simp
   | cons v l ih=>intro h;rw [zFo,zAm,ih (fun v hv=>h v (by simp [hv])),zAw,zFn];have:=h v (by simp);simp [this];omega
  simp only [zE5];rw [this _ hs,Gj]
 refine Bb.value (s:=Instr.buildSlice t len (parts.map fun (i,x)=>(i,a.eval x))) (by unfold execOp;rw [ho]) (v:=.slice (some ⟨w.heap.size,0,none⟩) len len) (w':=w.alloc (.cells ((parts.toList.map fun x=>a.eval x.2).flatMap fun v=>v.cells.toList).toArray e)) ?_ ?_
 ·have yA: ¬ len*i.size>2 ^ 24:=by
   have:len*i.size<=65536*64:=zGE zAB (by omega);omega
  by_cases bE:len=0
  ·subst bE
   have hp:parts= #[]:=by
    have:parts.toList= []:=zER Eu;cases parts;simp at this;simp [this]
   subst hp;have Et:Array.map (fun (x:Nat)=>(default:Value)) (Array.range 0)= #[]:=by simp [Array.range_zero']
   simp [Instr.buildSlice,zBu hu,sizeOf,typeInfo,hi,newRow,Instr.fill,Array.range_zero']
  ·have zq: ¬ len*i.size=0:=by rw [Nat.mul_eq_zero];omega
   refine run_buildSlice w t e len _ _ i z hu hi hz yA zq ?_;have e1:(parts.map fun (i,x)=>(i,a.eval x)).toList=parts.toList.map fun x=>(x.1,a.eval x.2):=by simp
   rw [e1,yZ];exact Great.fill_whole (s:=i.size) (by omega) _ _ (fun v hv=>by rw [hs v hv,EH]) (by rw [Gj,Array.size_map,Array.size_range])
 ·have:=Pq (d:=.msl S.h.length k.cells 0 len) (o:=ob) (v:=.slice (some ⟨w.heap.size,0,none⟩) len len) (cs:=((parts.toList.map fun x=>a.eval x.2).flatMap fun v=>v.cells.toList).toArray) (t:=e) R.hr ⟨Aq.refl w,rfl⟩
   (fun M ρ' O=>KX _ _ _ O ((parts.toList.map fun x=>a.eval x.2).flatMap fun v=>v.cells.toList).toArray e _ rfl (by rw [A2,zAq,Eu];exact Y5 (w:=w) (w1:=w) (t:=e) rfl A2))
   (fun M ρ' hp=>⟨_,len,hp,by simp [ED],zAp _,by unfold LB;omega,by simp only [ED];rw [A2];omega⟩) ext
  exact this
def jY (k:EK) (n:Nat) (z:Value):DO:=match k with
 | .ints=>.ints (List.replicate n 0)
 | .bools=>.bools (List.replicate n false)
 | .gen m=>.arr m n (fun _ j=>(z.cells.toList.map GJ).getD j .any)
theorem vb (R:AS P Γ N S ρ a w) {t:TypeId} {x y:Operand} {k:EK} {e:TypeId} {i:TypeInfo} {z:Value} {kx ky:IntKind} {n:Int} (hk:Kp P t=some (k,e,i,z)) (hx:AY S.fr x= .int kx n) (hy:AY S.fr y= .int ky n)
 (hn:0<=n/\ n<=1000000000000) (Di:i.bytes<=128) (o:Oper) (ho:o.op= .makeSlice t x y) (ext:Bool):
 Bb P (execOp a.eval o) w (CV P Γ N S.h ρ w ext (.msl S.h.length k.cells 0 n.toNat) (S.h++[some (jY k n.toNat z)])):=by
 obtain ⟨hu,hi,hz,h0,Cf,EH,xU,aU⟩:=Te hk;have GP:=hn.1;have GO:=hn.2;have rx:=Bg R x;have ry:=Bg R y;rw [hx] at rx;rw [hy] at ry;have DW:(madeCells z.cells (n.toNat*i.size)).size=n.toNat*k.cells:=by rw [size_madeCells,EH]
 refine Bb.value (s:=Instr.makeSlice t (a.eval x) (a.eval y)) (by unfold execOp;rw [ho]) (v:=.slice (some ⟨w.heap.size,0,none⟩) n.toNat n.toNat) (w':=w.alloc (.cells (madeCells z.cells (n.toNat*i.size)) e)) ?_ ?_
 ·rw [show a.eval x=_ from rx,show a.eval y=_ from ry];refine run_make w t e i z hu hi hz kx ky n n GP (zEK _) ?_ (by omega);have:(i.bytes:Int)*n<=128*1000000000000:=Int.mul_le_mul (by omega) GO GP (by omega);omega
 ·refine Pq (d:=.msl S.h.length k.cells 0 n.toNat) R.hr ⟨Aq.refl w,rfl⟩ (fun M ρ' O=>?_) (fun M ρ' hp=>⟨_,n.toNat,hp,by simp [ED],zAp _,by unfold LB;omega,by simp only [ED];rw [DW];omega⟩) ext;have hr:=Y5 (w:=w) (w1:=w) (t:=e) rfl DW;rw [DW]
  have C9: ∀ j u,j<n.toNat*k.cells -> (madeCells z.cells (n.toNat*i.size))[j]? =some u -> z.cells[j % z.cells.size]? =some u:=by
   intro j u hj Bo;have AO:j % z.cells.size<z.cells.size:=zGD _ (by omega);simp only [madeCells] at Bo;have BT:j<n.toNat*i.size:=by rw [←EH];exact hj
   simp [BT] at Bo;rw [←Bo];simp [AO]
  cases k with
  | ints=>
   have Sl:=xU rfl;subst Sl
   show AX _ _ (List.replicate n.toNat (0:Int)).length _
   rw [zAl];simp only [EK.cells,zD8] at hr C9 ⊢;refine AX.out hr rfl fun j u hj Bo=>?_
   have:=C9 j u hj Bo;have e1:j % (Value.cells (.int .i64 0)).size=0:=by simp [Value.cells,Nat.mod_one]
   rw [e1] at this;simp [Value.cells] at this;rw [←this];simp [hj]
  | bools=>
   have Sl:=aU rfl;subst Sl
   show AX _ _ (List.replicate n.toNat false).length _
   rw [zAl];simp only [EK.cells,zD8] at hr C9 ⊢;refine AX.out hr rfl fun j u hj Bo=>?_
   have:=C9 j u hj Bo;have e1:j % (Value.cells (.bool false)).size=0:=by simp [Value.cells,Nat.mod_one]
   rw [e1] at this;simp [Value.cells] at this;rw [←this];simp [hj]
  | gen m=>
   refine AX.out hr rfl fun j u hj Bo=>?_
   have h1:=C9 j u hj Bo;have hm:m=z.cells.size:=by rw [Cf];exact EH
   have h2:j % m<z.cells.toList.length:=by rw [hm];simpa using zGD _ (by omega)
   have h3:(z.cells.toList.map GJ).getD (j % m) .any=GJ u:=by
    rw [u8,zA1];have:z.cells.toList[j % m]? =some u:=by rw [←h1,hm];simp
    rw [this];rfl
   show AM M _ ((z.cells.toList.map GJ).getD (j % m) .any) [] u
   rw [h3];exact Vn u
end
end Go.Proofs.YtkjbblkieglmlaaGreatDoor
namespace Go.Proofs.YtkjbblkieglmlaaGreatDoor
abbrev zEN:=@List.nil_append
abbrev zEX:=@Array.getElem?_append_left
abbrev zEt:=@List.foldl_cons
abbrev zE2:=@Array.getElem?_modify
abbrev zFL:=@List.length_range
abbrev zFv:=@List.getElem?_toArray
end Go.Proofs.YtkjbblkieglmlaaGreatDoor
namespace Go.Proofs.YtkjbblkieglmlaaGreatDoor
open Go.RowKit
section
variable {P:Program} {Γ:Ar} {N:Nat -> Prop} {S:St} {ρ:List AI} {a:Act} {w:World} {h:DH}
theorem Ph (b:Nat) (t:TypeId) (z:Nat×Nat): ∀ (vs:List Value) (o:Nat) (w:World) (Eh:Array Value),w.heap[b]? =some (.cells Eh t z) -> o+vs.length<=Eh.size ->
 ∃ Ts,(w.setCells b o vs).heap[b]? =some (.cells Ts t z)/\ Ts.size=Eh.size/\ ∀ k,Ts[k]? =if o<=k/\ k<o+vs.length then vs[k-o]? else Eh[k]?
 | [],o,w,Eh,hb,_=>⟨Eh,hb,rfl,fun k=>by rw [zAU];simp only [zEE];omega⟩
 | v::vs,o,w,Eh,hb,hl=>by
  have Ew:o+(vs.length+1)<=Eh.size:=hl;obtain ⟨Ts,h1,h2,h3⟩:=Ph b t z vs (o+1) (w.setCell ⟨b,o,none⟩ v) (Eh.setIfInBounds o v) (by simp [World.setCell,zE2,hb]) (by simp;omega);refine ⟨Ts,h1,by simpa using h2,fun k=>?_⟩;rw [h3 k,zAw]
  by_cases e:k=o
  ·subst e;rw [zAU (by omega),zAE (by omega),zD4,zAE rfl,zAE (by omega),Nat.sub_self];rfl
  ·by_cases e2:o+1<=k/\ k<o+1+vs.length
   ·rw [zAE e2,zAE (by omega),show k-o=(k-(o+1))+1 by omega];simp
   ·rw [zAU e2,zAU (by omega)];rw [zD4,zAU (by omega)]
theorem Oi (b:Nat): ∀ (vs:List Value) (o:Nat) (w:World),AP (fun k=>k=b) w (w.setCells b o vs)
 | [],_,w=>AP.refl _ w
 | v::vs,o,w=>((AP.refl (fun k=>k=b) w).setCell (p:=⟨b,o,none⟩) (fun _=>rfl) v).trans (Oi b vs (o+1) (w.setCell ⟨b,o,none⟩ v))
theorem AX.writes {p:AI} {n:Nat} {R R':Nat -> Value -> Prop} (hr:AX w p n R) {o:Nat} {vs:List Value} (hl:o+vs.length<=n) (h1: ∀ i v,vs[i]? =some v -> R' (o+i) v)
 (h2: ∀ i u,i<n -> (i<o∨o+vs.length<=i) -> R i u -> R' i u):AX (w.setCells p.blk (p.off+o) vs) p n R':=by
 obtain ⟨g1,cs,t,g2,g3,g4,g5⟩:=hr;obtain ⟨EJ,e1,e2,e3⟩:=Ph p.blk t (0,0) vs (p.off+o) w cs g2 (by omega);refine ⟨g1,EJ,t,e1,by omega,by omega,fun j hj=>?_⟩;rw [e3]
 by_cases e:p.off+o<=p.off+j/\ p.off+j<p.off+o+vs.length
 ·rw [zAE e];have hi:p.off+j-(p.off+o)<vs.length:=by omega
  refine ⟨vs[p.off+j-(p.off+o)],by simp [hi],?_⟩;have:=h1 (p.off+j-(p.off+o)) _ (by simp [hi]:vs[p.off+j-(p.off+o)]? =some vs[p.off+j-(p.off+o)])
  rwa [show o+(p.off+j-(p.off+o))=j by omega] at this
 ·rw [zAU e];obtain ⟨u,e4,e5⟩:=g5 j hj;exact ⟨u,e4,h2 j u hj (by omega) e5⟩
def Mp (l:List DV) (o:Nat) (ds:List DV):List DV:=(ds.zipIdx).foldl (fun cs x=>cs.set (o+x.2) x.1) l
theorem Yb: ∀ (ds:List DV) (k o:Nat) (l:List DV),((ds.zipIdx k).foldl (fun cs x=>cs.set (o+x.2) x.1) l).length=l.length/\
 ∀ j,j<l.length -> ((ds.zipIdx k).foldl (fun cs x=>cs.set (o+x.2) x.1) l).getD j .any=if o+k<=j/\ j<o+k+ds.length then ds.getD (j-(o+k)) .any else l.getD j .any
 | [],k,o,l=>⟨rfl,fun j _=>by
  rw [zAU]
  ·rfl
  ·simp only [zEE];omega⟩
 | d::ds,k,o,l=>by
  obtain ⟨h1,h2⟩:=Yb ds (k+1) o (l.set (o+k) d);rw [List.zipIdx_cons,zEt];refine ⟨by rw [h1];simp,fun j hj=>?_⟩;rw [h2 j (by simpa using hj),zAw]
  by_cases e:j=o+k
  ·subst e;rw [zAU (by omega),zAE (by omega)];simp [hj]
  ·by_cases e2:o+(k+1)<=j/\ j<o+(k+1)+ds.length
   ·rw [zAE e2,zAE (by omega),show j-(o+k)=(j-(o+(k+1)))+1 by omega];simp
   ·rw [zAU e2,zAU (by omega)];simp only [u8,zAy];rw [zAU (by omega)]
theorem Ya (l:List DV) (o:Nat) (ds:List DV):(Mp l o ds).length=l.length:=(Yb ds 0 o l).1
theorem Yc (l:List DV) (o:Nat) (ds:List DV) {j:Nat} (hj:j<l.length):(Mp l o ds).getD j .any=if o<=j/\ j<o+ds.length then ds.getD (j-o) .any else l.getD j .any:=by
 have:=(Yb ds 0 o l).2 j hj;simpa [Mp] using this
def Mj (P:Program) (S:St) (t:TypeId) (x d:DV):Option (DH×Prop):=match x with
 | .ref k j=>match S.h[k]? with
  | some (some (.cells l))=>match Ii d with
   | some ds=>if P.info? t |>.any (fun i=>i.size==ds.length) then (if ds.all IR&&decide (j+ds.length<=l.length) then some (S.h.set k (some (.cells (Mp l j ds))),True) else none) else none
   | none=>none
  | _=>none
 | .mp k m i j=>if P.info? t |>.any (fun i=>i.size==1) then match S.h[k]? with
  | some (some (.ints l))=>match d with
   | .int .i64 n=>if m==1&&j==0 then some (S.h.set k (some (.ints (l.set i n))),i<l.length) else none
   | _=>none
  | some (some (.bools l))=>match d with
   | .bool b=>if m==1&&j==0 then some (S.h.set k (some (.bools (l.set i b))),i<l.length) else none
   | _=>none
  | some (some (.arr m' n f))=>if O8 d&&(m==m')&&decide (j<m) then some (S.h.set k (some (.arr m n (fun i' j'=>if i'=i/\ j'=j then d else f i' j'))),i<n) else none
  | _=>none
  else none
 | _=>none
theorem uP {d:DV} (h:O8 d=true):IR d=true:=by cases d <;> first | rfl | cases h
theorem Yy {t:TypeId} {i:TypeInfo} {b o:Nat} {v:Value} (hi:P.info? t=some i) (hs:v.cells.size=i.size) (hc: ∀ j,j<v.cells.size -> (w.cell? ⟨b,o+j,none⟩).isSome=true) (hf: ∀ j,w.frozen? ⟨b,j,none⟩=false) (h1: ∀ u∈v.cells.toList,u.oneCell'=true):
 (Instr.storeAt t (.pointer (some ⟨b,o,none⟩)) v).run P w= .ok () (w.setCells b o v.cells.toList):=by
 have Dg:=run_storeCells_cells (P:=P) b o v.cells.toList 0 w (by simpa using hc) (by simpa using fun j _=>hf _) h1;simp only [zEu] at Dg;simp [Instr.storeAt,Instr.sureAddr,storeVar,I0 hi,hs,Dg]
theorem mI {α:Type} {l:List α} {i:Nat} {x d:α} (h:l[i]? =some x):l.getD i d=x:=by rw [u8,h];rfl
theorem Up (R:AS P Γ N S ρ a w) {k:Nat} {ob ob':DO} {p:AI} (hk:S.h[k]? =some (some ob)) (hp:ρ[k]? =some p) {n:Nat} {Rw:Nat -> Value -> Prop} (hr:AX w p n Rw) {o':Nat} {v:Value} {t:TypeId} {i:TypeInfo}
 (hi:P.info? t=some i) (hs:v.cells.size=i.size) (hl:o'+v.cells.size<=n) (h1: ∀ u∈v.cells.toList,u.oneCell'=true)
 (H2: ∀ M ρ' w',BU (MS N S.h ρ) w ρ M w' ρ' -> w'=w.setCells p.blk (p.off+o') v.cells.toList -> Dy P M w' ρ' p ob')
 (o:Oper) (tx x:Operand) (ho:o.op= .store t tx x) (hx:a.eval tx= .pointer (some ⟨p.blk,p.off+o',none⟩)) (hv:a.eval x=v):
 Bb P (execOp a.eval o) w (CV P Γ N S.h ρ w false .any (S.h.set k (some ob'))):=by
 have Ey:p.foot=fun b=>b=p.blk:=hr.1
 have hu:AP p.foot w (w.setCells p.blk (p.off+o') v.cells.toList):=by rw [Ey];exact Oi _ _ _ _
 refine Bb.skip (s:=Instr.storeAt t (a.eval tx) (a.eval x)) (by unfold execOp;rw [ho]) (w':=w.setCells p.blk (p.off+o') v.cells.toList) ?_ ?_
 ·rw [hx,hv];refine Yy hi hs (fun j hj=>?_) (fun j=>hr.frozen j) h1;obtain ⟨u,hc,_⟩:=hr.cell (j:=o'+j) (by omega);rw [zDw,hc];rfl
 ·have C9: ∀ b,p.foot b -> Db (w.setCells p.blk (p.off+o') v.cells.toList) b:=fun b hb=>by
   rw [Ey] at hb;obtain ⟨_,cs,t',g2,g3,_⟩:=hr;obtain ⟨c,e1,_⟩:=Ph p.blk t' (0,0) v.cells.toList (p.off+o') w cs g2 (by simp;omega);exact .cells (c:=c) (t:=t') (z:=(0,0)) (by rw [show b=p.blk from hb];exact e1)
  exact ⟨⟨ρ,R.hr.write hk hp hu C9 (H2 _ _ _ (BU.write trivial hk hp hu) rfl),trivial,A6.write hk hp hu,fun _ _ h=>h⟩,fun h=>by cases h⟩
theorem fX (R:AS P Γ N S ρ a w) {t:TypeId} {tx x:Operand} {h':DH} {vc:Prop} (hd:Mj P S t (AY S.fr tx) (AY S.fr x)=some (h',vc)) (hv:vc) (o:Oper) (ho:o.op= .store t tx x):
 Bb P (execOp a.eval o) w (CV P Γ N S.h ρ w false .any h'):=by
 have rx:=Bg R tx;have rv:=Bg R x;unfold Mj at hd;split at hd
 ·rename_i k j e;rw [e] at rx;obtain ⟨p,hp,hx⟩:=rx;split at hd
  ·rename_i l hk;obtain ⟨p',BF,hr⟩:=R.hr.obj k _ hk;have e:p'=p:=zAR (BF.symm.trans hp);subst e;split at hd
   ·rename_i ds D8;split at hd
    ·rename_i Ay;split at hd
     ·rename_i hc;cases hd;simp only [zAN,zAx] at hc;cases hi:P.info? t with
      | none=>rw [hi] at Ay;cases Ay
      | some i=>
       rw [hi] at Ay;have PY:i.size=ds.length:=by simpa using Ay
       obtain ⟨c1,c2⟩:=Tq D8 rv
       have zr: ∀ u∈(a.eval x).cells.toList,u.oneCell'=true:=fun u hu=>by
        obtain ⟨q,hq,rfl⟩:=zEQ hu;have Lq:q<ds.length:=by rw [←c1];simpa using hq
        obtain ⟨u,g1,g2⟩:=c2 q Lq;have h3:=zAT.1 hc.1 (ds.getD q .any) (by simp [Lq]);have h4:=(Vk h3 g2).1
        have:(a.eval x).cells.toList[q]=u:=by
         have Gk:q<(a.eval x).cells.size:=by simpa using hq
         rw [zA0 Gk] at g1;simpa using zAR g1
        rw [this];exact h4
       refine Up R hk hp hr hi (by omega) (o':=j) (by omega) zr (fun M ρ' w' O Ni=>?_) o tx x ho hx rfl;subst Ni
       show AX _ _ (Mp l j ds).length _
       rw [Ya];refine AX.writes hr (by simp;omega) (fun q v hq=>?_) (fun q u hq Gk hu=>?_)
       ·have kj:q<(a.eval x).cells.size:=by have:=(zAS.1 hq).1;simpa using this
        have Lq:q<ds.length:=by omega
        obtain ⟨u,g1,g2⟩:=c2 q Lq
        have:u=v:=by
         have:(a.eval x).cells[q]? =some v:=by simpa using hq
         rw [this] at g1;exact (zAR g1).symm
        subst this;rw [Yc l j ds (by omega),zAE (by omega),show j+q-j=q by omega];exact g2.out _ O
       ·rw [Yc l j ds hq,zAU (by simp at Gk;omega)];exact hu.out _ O
     ·cases hd
    ·cases hd
   ·cases hd
  ·cases hd
 ·rename_i k m i j e;rw [e] at rx;obtain ⟨p,hp,hx⟩:=rx;split at hd
  ·rename_i Ay;cases hi:P.info? t with
   | none=>rw [hi] at Ay;cases Ay
   | some ti=>
    rw [hi] at Ay;have PY:ti.size=1:=by simpa using Ay
    split at hd
    ·rename_i l hk;obtain ⟨p',BF,hr⟩:=R.hr.obj k _ hk;have e:p'=p:=zAR (BF.symm.trans hp);subst e;split at hd
     ·rename_i n ed;split at hd
      ·rename_i hm;cases hd;simp only [zAN,zDu] at hm;obtain ⟨rfl,rfl⟩:=hm;rw [ed] at rv;have Yv:a.eval x= .int .i64 n:=rv;refine Up R hk hp hr hi (v:=.int .i64 n) (by rw [PY];rfl) (o':=i) (by simp [Value.cells];omega) (by simp [Value.cells,Value.oneCell']) (fun M ρ' w' O Ni=>?_) o tx x ho (by simpa using hx) Yv;subst Ni
       show AX _ _ (l.set i n).length _
       rw [zAn];refine AX.writes hr (by simp [Value.cells];omega) (fun q v hq=>?_) (fun q u hq Gk hu=>?_)
       ·have:q=0:=by have:=(zAS.1 hq).1;simpa [Value.cells] using this
        subst this;have:v= .int .i64 n:=by simpa [Value.cells] using hq.symm
        rw [this];have EF:i<l.length:=hv;simp [EF]
       ·rw [hu];simp only [Value.cells,zAw,zEE] at Gk;rw [u8,u8,zAy,zAU (by simp at Gk;omega)]
      ·cases hd
     ·cases hd
    ·rename_i l hk;obtain ⟨p',BF,hr⟩:=R.hr.obj k _ hk;have e:p'=p:=zAR (BF.symm.trans hp);subst e;split at hd
     ·rename_i n ed;split at hd
      ·rename_i hm;cases hd;simp only [zAN,zDu] at hm;obtain ⟨rfl,rfl⟩:=hm;rw [ed] at rv;have Yv:a.eval x= .bool n:=rv;refine Up R hk hp hr hi (v:=.bool n) (by rw [PY];rfl) (o':=i) (by simp [Value.cells];omega) (by simp [Value.cells,Value.oneCell']) (fun M ρ' w' O Ni=>?_) o tx x ho (by simpa using hx) Yv;subst Ni
       show AX _ _ (l.set i n).length _
       rw [zAn];refine AX.writes hr (by simp [Value.cells];omega) (fun q v hq=>?_) (fun q u hq Gk hu=>?_)
       ·have:q=0:=by have:=(zAS.1 hq).1;simpa [Value.cells] using this
        subst this;have:v= .bool n:=by simpa [Value.cells] using hq.symm
        rw [this];have EF:i<l.length:=hv;simp [EF]
       ·rw [hu];simp only [Value.cells,zAw,zEE] at Gk;rw [u8,u8,zAy,zAU (by simp at Gk;omega)]
      ·cases hd
     ·cases hd
    ·rename_i m' n f hk;obtain ⟨p',BF,hr⟩:=R.hr.obj k _ hk;have e:p'=p:=zAR (BF.symm.trans hp);subst e;split at hd
     ·rename_i hm;cases hd;simp only [zAN,zDu,zAx] at hm;obtain ⟨⟨Eu,rfl⟩,hj⟩:=hm;have EF:i<n:=hv;obtain ⟨o1,o2⟩:=Vk (uP Eu) rv
      have aR:i*m+j<n*m:=by
       have:(i+1)*m<=n*m:=zEW _ EF;rw [zFn] at this;omega
      have AE:0<m:=by omega
      refine Up R hk hp hr hi (v:=a.eval x) (by rw [PY,o2];rfl) (o':=i*m+j) (by rw [o2];simp;omega) (by rw [o2];simp [o1]) (fun M ρ' w' O Ni=>?_) o tx x ho hx rfl;subst Ni;refine AX.writes hr (by rw [o2];simp;omega) (fun q v hq=>?_) (fun q u hq Gk hu=>?_)
      ·rw [o2] at hq;have:q=0:=by have:=(zAS.1 hq).1;simpa using this
       subst this;have:v=a.eval x:=by simpa using hq.symm
       rw [this,zEu];have e1:(i*m+j)/m=i:=by rw [zEf,Nat.mul_add_div AE,Nat.div_eq_of_lt hj,zEu]
       have e2:(i*m+j) % m=j:=by rw [zEf,Nat.mul_add_mod,zFU hj]
       show AM M _ (if (i*m+j)/m=i/\ (i*m+j) % m=j then AY S.fr x else f ((i*m+j)/m) ((i*m+j) % m)) [] _
       rw [zAE ⟨e1,e2⟩];exact AM.out _ O.nil (ZS Eu rv)
      ·rw [o2] at Gk;simp at Gk
       have: ¬ (q/m=i/\ q % m=j):=fun ⟨e1,e2⟩=>by
        have:=Nat.div_add_mod q m;rw [e1,e2,zEf] at this;omega
       show AM M _ (if q/m=i/\ q % m=j then AY S.fr x else f (q/m) (q % m)) [] _
       rw [zAU this];exact AM.out _ O.nil hu
     ·cases hd
    ·cases hd
  ·cases hd
 ·cases hd
theorem MO.kill {k:Nat} {b:Nat} (hb:MO (h.set k none) ρ b):MO h ρ b:=MO.unset hb
theorem Fv {k i:Nat} {o:DO} (hi:(h.set k none)[i]? =some (some o)):i≠k/\ h[i]? =some (some o):=by
 rw [zAy] at hi
 by_cases e:k=i
 ·rw [zAE e] at hi;split at hi <;> cases hi
 ·rw [zAU e] at hi;exact ⟨zFT e,hi⟩
theorem A0.kill (H:A0 P Γ N h ρ w) (k:Nat):A0 P Γ N (h.set k none) ρ w:=by
 have O:BU (MS N h ρ) w ρ (MS N (h.set k none) ρ) w ρ:=⟨fun _ _ _ _=>rfl,fun b hb=>.inl (hb.imp id MO.kill),fun _ _ h=>h⟩;refine ⟨by simp [H.len],fun i o hi=>?_,fun i o p b h1 h2 h3=>H.cel i o p b (Fv h1).2 h2 h3,fun i i' o o' p p' b Am h1 h2 h3 h4 h5 h6=>H.dis i i' o o' p p' b Am (Fv h1).2 (Fv h2).2 h3 h4 h5 h6,H.nlt,H.gi⟩;obtain ⟨p,hp,hr⟩:=H.obj i o (Fv hi).2;exact ⟨p,hp,hr.out O (S:=fun _=>False) (AP.refl _ w) (fun _ h=>h.elim) (fun _ _ _ h=>h)⟩
theorem BU.kill (k:Nat):BU (MS N h ρ) w ρ (MS N (h.set k none) ρ) w ρ:=⟨fun _ _ _ _=>rfl,fun b hb=>.inl (hb.imp id MO.kill),fun _ _ h=>h⟩
theorem A6.kill (k:Nat):A6 h ρ w (h.set k none) ρ w:=⟨AP.refl _ w,fun b hb=>.inl (MO.kill hb)⟩
theorem A0.regrow (H:A0 P Γ N h ρ w) {w':World} {k:Nat} {o o':DO} {p p':AI} (hk:h[k]? =some (some o)) (hp:ρ[k]? =some p) (hu:AP p.foot w w') (hf: ∀ b,p'.foot b -> (p.foot b∨w.heap.size<=b)/\ Db w' b)
 (ho:Dy P (MS N (h.set k none++[some o']) (ρ++[p'])) w' (ρ++[p']) p' o'):
 A0 P Γ N (h.set k none++[some o']) (ρ++[p']) w'/\ A6 h ρ w (h.set k none++[some o']) (ρ++[p']) w':=by
 have K:=H.kill k;have Ao:(h.set k none).length=h.length:=by simp
 have hM: ∀ b,p.foot b -> MO h ρ b:=fun b hb=>⟨k,o,p,hk,hp,hb⟩
 have IV: ∀ {i:Nat} {o1:DO} {p1:AI},(h.set k none++[some o'])[i]? =some (some o1) -> (ρ++[p'])[i]? =some p1 -> (i≠k/\ i<h.length/\ h[i]? =some (some o1)/\ ρ[i]? =some p1)∨(i=h.length/\ o1=o'/\ p1=p'):=by
  intro i o1 p1 h1 h2;rcases Dj h1 with ⟨hl,h1⟩ | ⟨hl,h1⟩
  ·rw [Ao] at hl;rcases Dj h2 with ⟨_,h2⟩ | ⟨Cg,_⟩
   ·exact .inl ⟨(Fv h1).1,hl,(Fv h1).2,h2⟩
   ·rw [H.len] at Cg;omega
  ·rw [Ao] at hl;rcases Dj h2 with ⟨Cg,_⟩ | ⟨_,h2⟩
   ·rw [H.len] at Cg;omega
   ·cases h1;exact .inr ⟨hl,rfl,h2.symm⟩
 have grow: ∀ b,MO (h.set k none++[some o']) (ρ++[p']) b -> MO h ρ b∨w.heap.size<=b:=by
  rintro b ⟨i,o1,p1,h1,h2,h3⟩;rcases IV h1 h2 with ⟨_,_,g1,g2⟩ | ⟨_,_,rfl⟩
  ·exact .inl ⟨i,o1,p1,g1,g2,h3⟩
  ·exact (hf b h3).1.imp (hM b) id
 have O:BU (MS N h ρ) w ρ (MS N (h.set k none++[some o']) (ρ++[p'])) w' (ρ++[p']):=by
  refine ⟨fun b hb hm _=>hu.block b hb fun hx=>hm (.inr (hM b hx)),fun b hb=>?_,fun i q hi=>ET hi⟩;rcases hb with hb | hb
  ·exact .inl (.inl hb)
  ·exact (grow b hb).imp .inr id
 refine ⟨⟨by simp [H.len],fun i o1 hi=>?_,fun i o1 p1 b h1 h2 h3=>?_,fun i i' o1 o2 p1 p2 b Am h1 h2 h3 h4 h5 h6=>?_,fun b hb=>⟨zAW (H.nlt b hb).1 hu.size,(H.nlt b hb).2⟩,Γ.st _ _ H.gi (hu.mono fun b _ hb=>(H.cel k o p b hk hp hb).1)⟩,⟨hu.mono fun b _ hb=>hM b hb,grow⟩⟩
 ·rcases Dj hi with ⟨hl,hi⟩ | ⟨hl,hi⟩
  ·obtain ⟨p1,Lr,hr⟩:=H.obj i o1 (Fv hi).2;refine ⟨p1,ET Lr,hr.out O hu (fun b hb=>.inr (hM b hb)) fun b _ h1 h2=>H.dis i k o1 o p1 p b (Fv hi).1 (Fv hi).2 hk Lr hp h1 h2⟩
  ·cases hi;exact ⟨p',by rw [hl,Ao,←H.len];simp,ho⟩
 ·rcases IV h1 h2 with ⟨Am,_,g1,g2⟩ | ⟨_,_,rfl⟩
  ·obtain ⟨e1,e2,c,t,z,e3⟩:=H.cel i o1 p1 b g1 g2 h3;exact ⟨e1,e2,c,t,z,(hu.block b (zAK.1 e3).1 fun hx=>H.dis i k o1 o p1 p b Am g1 hk g2 hp h3 hx).trans e3⟩
  ·obtain ⟨e1,e2⟩:=hf b h3;rcases e1 with e1 | e1
   ·obtain ⟨q1,q2,_⟩:=H.cel k o p b hk hp e1;exact ⟨q1,q2,e2⟩
   ·exact ⟨zAt (Γ.lo _ H.gi) e1,fun hn=>by have:=H.nlt b hn;omega,e2⟩
 ·have key: ∀ {i o1 p1},i≠k -> h[i]? =some (some o1) -> ρ[i]? =some p1 -> p1.foot b -> p'.foot b -> False:=fun {i o1 p1} Am g1 g2 g3 g4=>by
   rcases (hf b g4).1 with e1 | e1
   ·exact H.dis i k o1 o p1 p b Am g1 hk g2 hp g3 e1
   ·have:=H.lt (.inr ⟨i,o1,p1,g1,g2,g3⟩);omega
  rcases IV h1 h3 with ⟨S0,_,g1,g2⟩ | ⟨e1,_,rfl⟩
  ·rcases IV h2 h4 with ⟨_,_,g3,g4⟩ | ⟨_,_,rfl⟩
   ·exact H.dis i i' o1 o2 p1 p2 b Am g1 g3 g2 g4 h5 h6
   ·exact key S0 g1 g2 h5 h6
  ·rcases IV h2 h4 with ⟨Nr,_,g3,g4⟩ | ⟨e2,_,rfl⟩
   ·exact key Nr g3 g4 h6 h5
   ·exact Am (e1.trans e2.symm)
def H7 (n:Nat) (R:Nat -> Value -> Prop) (Bv:List Value) (j:Nat) (u:Value):Prop:=if j<n then R j u else Bv[j-n]? =some u
theorem dE {t ty e:TypeId} {i:TypeInfo} {z:Value} (hu:P.underlying t=some (.slice e)) (hi:P.info? e=some i) (hz:i.zero=some z) (Nn:i.size≠0) (Cf:z.cells.size=i.size) (Di:i.bytes<=128)
 {p:AI} {n cap:Nat} {R:Nat -> Value -> Prop} (hr:AX w p (n*i.size) R) (L2:n<=cap) (WU:p.off+cap*i.size<=p.room)
 {vy:Value} {c:Nat} {Bv:List Value} (hy:Src P i.size t vy c Bv w) (hb:n+c<=1000000000000):
 ∃ w' p' By,(Builtin.append_ #[t,t] ty #[.slice (some ⟨p.blk,p.off,none⟩) n cap,vy]).run P w= .ok (.slice (some ⟨p'.blk,p'.off,none⟩) (n+c) By) w'/\ n+c<=By/\ p'.off+By*i.size<=p'.room/\
  AP p.foot w w'/\ (∀ b,p'.foot b -> p.foot b∨w.heap.size<=b)/\ AX w' p' ((n+c)*i.size) (H7 (n*i.size) R Bv):=by
 have JN:Bv.length=c*i.size:=hy.newsLen
 by_cases aj:n+c<=cap
 ·obtain ⟨g1,cs,tt,g2,g3,g4,g5⟩:=hr;have zy:(n+c)*i.size<=cap*i.size:=zEW _ aj;rw [zEh] at zy;have lT:p.off+n*i.size+Bv.length<=cs.size:=by omega
  refine ⟨w.setCells p.blk (p.off+n*i.size) Bv,p,cap,run_append_room_src w t t ty e i hu hi p.blk p.off n cap vy c Bv hy aj (fun j hj=>?_) (fun j _=>by unfold World.frozen?;simp [g2]),aj,WU,?_,fun b hb=>.inl hb,?_⟩
  ·unfold World.cell?;simp only [g2];simp;omega
  ·rw [g1];exact Oi _ _ _ _
  ·obtain ⟨EJ,e1,e2,e3⟩:=Ph p.blk tt (0,0) Bv (p.off+n*i.size) w cs g2 lT;refine ⟨g1,EJ,tt,e1,by rw [zEh];omega,by omega,fun j hj=>?_⟩;rw [zEh] at hj;rw [e3]
   by_cases Kd:j<n*i.size
   ·rw [zAU (by omega)];obtain ⟨u,q1,q2⟩:=g5 j Kd;exact ⟨u,q1,by unfold H7;rw [zAE Kd];exact q2⟩
   ·rw [zAE (by omega)];have AO:j-n*i.size<Bv.length:=by omega
    refine ⟨Bv[j-n*i.size],by rw [show p.off+j-(p.off+n*i.size)=j-n*i.size by omega];simp [AO],?_⟩;unfold H7;rw [zAU Kd];simp [AO]
 ·obtain ⟨g,hg⟩: ∃ g:Nat -> Value,∀ j,j<n*i.size -> w.cell? ⟨p.blk,p.off+j,none⟩=some (g j)/\ R j (g j):=by
   refine ⟨fun j=>(w.cell? ⟨p.blk,p.off+j,none⟩).getD undef,fun j hj=>?_⟩;obtain ⟨u,h1,h2⟩:=hr.cell hj;simp [h1,h2]
  have Lt:(Builtin.firstCells i.size n (.slice (some ⟨p.blk,p.off,none⟩) n cap)).run P w.drew= .ok (((List.range (n*i.size)).map g).toArray) w.drew:=by
   have:=run_loadCells (P:=P) w.drew ⟨p.blk,p.off,none⟩ (n*i.size) g (fun j hj=>by rw [Io];exact ((Aq.toDrew w).cell (hg j hj).1));simpa [Builtin.firstCells] using this
  have zx:(n+c)*i.bytes<=1000000000000*128:=zGE hb Di;have JK:=run_append_grow_src (P:=P) w t t ty e i z hu hi hz (some ⟨p.blk,p.off,none⟩) n cap _ Lt vy c Bv hy (by omega) (by omega) (growslice_fits (by omega) (by omega));have Wh:n+c<=grownCap w (n+c) cap e:=grownCap_ge w (n+c) cap e
  have DW:((((List.range (n*i.size)).map g)++Bv).toArray++Builtin.zeroCells z.cells (grownCap w (n+c) cap e-(n+c))).size=grownCap w (n+c) cap e*i.size:=by
   simp only [Array.size_append,zE5,zAm,zAq,zFL,JN,size_zeroCells,Cf,←zEh]
   congr 1;omega
  refine ⟨_,ED w (grownCap w (n+c) cap e*i.size),grownCap w (n+c) cap e,JK,Wh,by simp [ED],?_,fun b hb=>.inr (Nat.le_of_eq (Eq.symm hb)),?_⟩
  ·exact AP.ofExt ((Aq.toDrew w).allocR _)
  ·refine AX.out (Y5 (w:=w) (w1:=w.drew) (t:=e) (cs:=(((List.range (n*i.size)).map g)++Bv).toArray++Builtin.zeroCells z.cells (grownCap w (n+c) cap e-(n+c))) rfl DW |>fun hr=>?_) rfl (R:=fun j u=>((((List.range (n*i.size)).map g)++Bv).toArray++Builtin.zeroCells z.cells (grownCap w (n+c) cap e-(n+c)))[j]? =some u) fun j u hj Bo=>?_
   ·obtain ⟨q1,cs,tt,q2,q3,q4,q5⟩:=hr;have Cu:(n+c)*i.size<=grownCap w (n+c) cap e*i.size:=zEW _ Wh;exact ⟨q1,cs,tt,q2,by omega,q4,fun j hj=>q5 j (by omega)⟩
   ·rw [zEh] at hj;unfold H7;have Fd:j<(((List.range (n*i.size)).map g)++Bv).length:=by simp;omega
    rw [zEX (by simpa using Fd)] at Bo
    by_cases Kd:j<n*i.size
    ·rw [zAE Kd]
     have:u=g j:=by
      simp only [zFv] at Bo;rw [zAb (by simpa using Kd)] at Bo;simp [Kd] at Bo;exact Bo.symm
     rw [this];exact (hg j Kd).2
    ·rw [zAU Kd];simp only [zFv] at Bo;rw [zAd (by simp;omega)] at Bo;simpa using Bo
theorem dG (ad:Option Addr:=none) {t ty e:TypeId} {i:TypeInfo} {z:Value} (hu:P.underlying t=some (.slice e)) (hi:P.info? e=some i) (hz:i.zero=some z) (Cf:z.cells.size=i.size) (Di:i.bytes<=128)
 {vy:Value} {c:Nat} {Bv:List Value} (hy:Src P i.size t vy c Bv w) (hc:0<c) (hb:c<=1000000000000):
 ∃ w' By,(Builtin.append_ #[t,t] ty #[.slice ad 0 0,vy]).run P w= .ok (.slice (some ⟨w.heap.size,0,none⟩) c By) w'/\ c<=By/\ ∃ cs,w'=w.drew.alloc (.cells cs e)/\ cs.size=By*i.size/\ ∀ j,j<c*i.size -> cs[j]? =Bv[j]? :=by
 have JN:Bv.length=c*i.size:=hy.newsLen;have Lt:(Builtin.firstCells i.size 0 (.slice ad 0 0)).run P w.drew= .ok (([]:List Value).toArray) w.drew:=by cases ad <;> simp [Builtin.firstCells,loadCells,loadCellsFrom]
 have zx:c*i.bytes<=1000000000000*128:=zGE hb Di;have JK:=run_append_grow_src (P:=P) w t t ty e i z hu hi hz ad 0 0 [] Lt vy c Bv hy (by omega) (by omega) (growslice_fits (by omega) (by rw [zAs];omega));rw [zAs] at JK;have Wh:c<=grownCap w c 0 e:=grownCap_ge w c 0 e;refine ⟨_,_,JK,Wh,_,rfl,?_,fun j hj=>?_⟩
 ·simp only [zEN,Array.size_append,zE5,JN,size_zeroCells,Cf,←zEh]
  congr 1;omega
 ·rw [zEX (by simp;omega)];simp
end
end Go.Proofs.YtkjbblkieglmlaaGreatDoor
namespace Go.Proofs.YtkjbblkieglmlaaGreatDoor
abbrev zEI:=@List.mem_map
abbrev zEv:=@Nat.le_of_not_lt
abbrev zFE:=@Nat.eq_zero_or_pos
end Go.Proofs.YtkjbblkieglmlaaGreatDoor
namespace Go.Proofs.YtkjbblkieglmlaaGreatDoor
open Go.RowKit
def Sf (S:St):DV -> Option (List Int×Prop)
 | .nils=>some ([],True)
 | .ints l=>some (l,True)
 | .msl k m off n=>match S.h[k]? with
  | some (some (.ints l))=>if m==1 then some (l,off=0/\ n=l.length) else none
  | _=>none
 | _=>none
def ct (S:St):DV -> Option (List Bool×Prop)
 | .nils=>some ([],True)
 | .bools l=>some (l,True)
 | .msl k m off n=>match S.h[k]? with
  | some (some (.bools l))=>if m==1 then some (l,off=0/\ n=l.length) else none
  | _=>none
 | _=>none
def bx (S:St) (m:Nat):DV -> Option (Nat×(Nat -> Nat -> DV)×Prop)
 | .nils=>some (0,(fun _ _=>.any),True)
 | .sl m' n f=>if m'==m then some (n,f,True) else none
 | .msl k m' off n=>match S.h[k]? with
  | some (some (.arr m2 n2 f))=>if m'==m&&m2==m then some (n2,f,off=0/\ n=n2) else none
  | _=>none
 | _=>none
def BA:Nat:=1000000000000
def dL (P:Program) (S:St) (t:TypeId) (x y:DV):Option (DV×DH×Prop):=match Kp P t with
 | some (k,_,i,_)=>if 128<i.bytes then none else match k with
  | .ints=>match Sf S y with
   | some (ys,vy)=>match x with
    | .nils=>some (.msl S.h.length 1 0 ys.length,S.h++[some (.ints ys)],vy/\ 0<ys.length/\ ys.length<=BA)
    | .msl k m off n=>match S.h[k]? with
     | some (some (.ints xs))=>if m==1 then some (.msl S.h.length 1 0 (xs.length+ys.length),S.h.set k none++[some (.ints (xs++ys))],vy/\ (off=0/\ n=xs.length)/\ xs.length+ys.length<=BA) else none
     | _=>none
    | _=>none
   | none=>none
  | .bools=>match ct S y with
   | some (ys,vy)=>match x with
    | .nils=>some (.msl S.h.length 1 0 ys.length,S.h++[some (.bools ys)],vy/\ 0<ys.length/\ ys.length<=BA)
    | .msl k m off n=>match S.h[k]? with
     | some (some (.bools xs))=>if m==1 then some (.msl S.h.length 1 0 (xs.length+ys.length),S.h.set k none++[some (.bools (xs++ys))],vy/\ (off=0/\ n=xs.length)/\ xs.length+ys.length<=BA) else none
     | _=>none
    | _=>none
   | none=>none
  | .gen m=>match bx S m y with
   | some (c,g,vy)=>match x with
    | .nils=>some (.msl S.h.length m 0 c,S.h++[some (.arr m c g)],(vy/\ ∀ i j,i<c -> j<m -> IR (g i j)=true)/\ 0<c/\ c<=BA)
    | .msl k m' off n=>match S.h[k]? with
     | some (some (.arr m2 n2 f))=>if m'==m&&m2==m then some (.msl S.h.length m 0 (n2+c),S.h.set k none++[some (.arr m (n2+c) (fun i j=>if i<n2 then f i j else g (i-n2) j))],(vy/\ ∀ i j,i<c -> j<m -> IR (g i j)=true)/\ (off=0/\ n=n2)/\ n2+c<=BA) else none
     | _=>none
    | _=>none
   | none=>none
 | none=>none
section
variable {P:Program} {Γ:Ar} {N:Nat -> Prop} {S:St} {ρ:List AI} {a:Act} {w:World} {h:DH}
theorem Qr {t e:TypeId} (hu:P.underlying t=some (.slice e)) {m:Nat} {ad:Option Addr} {c cap:Nat} {Bv:List Value} (hl:Bv.length=c*m) (hc: ∀ j u,Bv[j]? =some u -> ∃ b o,ad=some ⟨b,o,none⟩/\ w.cell? ⟨b,o+j,none⟩=some u)
 (h1: ∀ u∈Bv,u.oneCell'=true) (hm:0<m) (a8:ad=none -> c=0):Src P m t (.slice ad c cap) c Bv w:=by
 cases ad with
 | none=>
  have:=a8 rfl;subst this;have:Bv= []:=zER (by simpa using hl);subst this;exact Src.ofNil w hu cap
 | some ad=>
  refine Src.ofSlice w hu ad c cap Bv hl (fun j u hj=>?_) h1;obtain ⟨b,o,e1,e2⟩:=hc j u hj;cases e1;rw [Io];exact e2
theorem Se (R:AS P Γ N S ρ a w) {t e:TypeId} (hu:P.underlying t=some (.slice e)) {y:DV} {v:Value} (hy:AM (MS N S.h ρ) w y ρ v) {ys:List Int} {vy:Prop} (h:Sf S y=some (ys,vy)) (hv:vy):
 Src P 1 t v ys.length (ys.map (Value.int .i64)) w:=by
 have one: ∀ u∈ys.map (Value.int .i64),u.oneCell'=true:=fun u hu=>by obtain ⟨n,_,rfl⟩:=zEI.1 hu;rfl
 have val: ∀ {j:Nat} {u:Value},(ys.map (Value.int .i64))[j]? =some u -> j<ys.length/\ u= .int .i64 (ys.getD j 0):=fun {j u} hj=>by
  have AO:=(zAS.1 hj).1;have AO:j<ys.length:=by simpa using AO
  simp [AO] at hj;exact ⟨AO,by rw [←hj];simp [AO]⟩
 unfold Sf at h;split at h
 ·cases h;rw [show v=_ from hy];exact Src.ofNil w hu 0
 ·cases h;obtain ⟨ad,cap,rfl,h1,h2,h3⟩:=hy;refine Qr hu (by simp) (fun j u hj=>?_) one (by omega) (fun e=>?_)
  ·obtain ⟨AO,rfl⟩:=val hj;obtain ⟨b,o,e1,_,e2⟩:=h3 j AO;exact ⟨b,o,e1,e2⟩
  ·rcases zFE ys.length with h0 | h0
   ·exact h0
   ·obtain ⟨b,o,e1,_⟩:=h3 0 h0;rw [e] at e1;cases e1
 ·rename_i k m off n;obtain ⟨p,cap,hp,rfl,h1,h2,h3⟩:=hy;split at h
  ·rename_i l hk;split at h
   ·rename_i hm;cases h;have CQ:m=1:=by simpa using hm
    subst CQ;obtain ⟨p',BF,hr⟩:=R.hr.obj k _ hk;have e:p'=p:=zAR (BF.symm.trans hp);subst e;obtain ⟨rfl,rfl⟩:=hv;refine Qr hu (by simp) (fun j u hj=>?_) one (by omega) (fun e=>by cases e);obtain ⟨AO,rfl⟩:=val hj;obtain ⟨u,e1,e2⟩:=AX.cell hr AO;exact ⟨p'.blk,p'.off,by simp,by rw [e1,e2]⟩
   ·cases h
  ·cases h
 ·cases h
theorem nn (R:AS P Γ N S ρ a w) {t e:TypeId} (hu:P.underlying t=some (.slice e)) {y:DV} {v:Value} (hy:AM (MS N S.h ρ) w y ρ v) {ys:List Bool} {vy:Prop} (h:ct S y=some (ys,vy)) (hv:vy):
 Src P 1 t v ys.length (ys.map Value.bool) w:=by
 have one: ∀ u∈ys.map Value.bool,u.oneCell'=true:=fun u hu=>by obtain ⟨n,_,rfl⟩:=zEI.1 hu;rfl
 have val: ∀ {j:Nat} {u:Value},(ys.map Value.bool)[j]? =some u -> j<ys.length/\ u= .bool (ys.getD j false):=fun {j u} hj=>by
  have AO:=(zAS.1 hj).1;have AO:j<ys.length:=by simpa using AO
  simp [AO] at hj;exact ⟨AO,by rw [←hj];simp [AO]⟩
 unfold ct at h;split at h
 ·cases h;rw [show v=_ from hy];exact Src.ofNil w hu 0
 ·cases h;obtain ⟨ad,cap,rfl,h1,h2,h3⟩:=hy;refine Qr hu (by simp) (fun j u hj=>?_) one (by omega) (fun e=>?_)
  ·obtain ⟨AO,rfl⟩:=val hj;obtain ⟨b,o,e1,_,e2⟩:=h3 j AO;exact ⟨b,o,e1,e2⟩
  ·rcases zFE ys.length with h0 | h0
   ·exact h0
   ·obtain ⟨b,o,e1,_⟩:=h3 0 h0;rw [e] at e1;cases e1
 ·rename_i k m off n;obtain ⟨p,cap,hp,rfl,h1,h2,h3⟩:=hy;split at h
  ·rename_i l hk;split at h
   ·rename_i hm;cases h;have CQ:m=1:=by simpa using hm
    subst CQ;obtain ⟨p',BF,hr⟩:=R.hr.obj k _ hk;have e:p'=p:=zAR (BF.symm.trans hp);subst e;obtain ⟨rfl,rfl⟩:=hv;refine Qr hu (by simp) (fun j u hj=>?_) one (by omega) (fun e=>by cases e);obtain ⟨AO,rfl⟩:=val hj;obtain ⟨u,e1,e2⟩:=AX.cell hr AO;exact ⟨p'.blk,p'.off,by simp,by rw [e1,e2]⟩
   ·cases h
  ·cases h
 ·cases h
theorem TZ {ρ':Operand -> Value} {o:Oper} {c:Call} {x y:Operand} {t t2:TypeId} (ho:o.op= .call c) (hc:c.callee= .builtin .append) (ha:c.args.toList= [x,y]) (ht:c.argTypes.toList= [t,t2]):
 execOp ρ' o=(do pure (.value (←Builtin.append_ #[t,t2] o.type #[ρ' x,ρ' y]))):=by
 unfold execOp;rw [ho]
 show (resolve ρ' c o.type>>=fun d=>invoke d.target d.args)=_
 unfold resolve;rw [hc,Ua ha,Ua ht];simp;rfl
theorem dF (R:AS P Γ N S ρ a w) {t e:TypeId} {i:TypeInfo} {z:Value} (hu:P.underlying t=some (.slice e)) (hi:P.info? e=some i) (hz:i.zero=some z) (Nn:i.size≠0) (Cf:z.cells.size=i.size) (Di:i.bytes<=128)
 {k:Nat} {ob ob':DO} {p:AI} (hk:S.h[k]? =some (some ob)) (hp:ρ[k]? =some p) {n cap c:Nat} {Rw:Nat -> Value -> Prop} (hr:AX w p (n*i.size) Rw) (L2:n<=cap) (WU:p.off+cap*i.size<=p.room)
 {vy:Value} {Bv:List Value} (hy:Src P i.size t vy c Bv w) (hb:n+c<=BA)
 (H2: ∀ M ρ' w' p',BU (MS N S.h ρ) w ρ M w' ρ' -> AX w' p' ((n+c)*i.size) (H7 (n*i.size) Rw Bv) -> Dy P M w' ρ' p' ob')
 (o:Oper) {cl:Call} {x y:Operand} (ho:o.op= .call cl) (hc:cl.callee= .builtin .append) (ha:cl.args.toList= [x,y]) (ht:cl.argTypes.toList= [t,t]) (hx:a.eval x= .slice (some ⟨p.blk,p.off,none⟩) n cap) (aY:a.eval y=vy):
 Bb P (execOp a.eval o) w (CV P Γ N S.h ρ w false (.msl S.h.length i.size 0 (n+c)) (S.h.set k none++[some ob'])):=by
 obtain ⟨w',p',By,h1,h2,h3,h4,h5,h6⟩:=dE (ty:=o.type) hu hi hz Nn Cf Di hr L2 WU hy hb;refine Bb.value (TZ ho hc ha ht) (by rw [hx,aY];exact h1) ?_
 have zAe: ∀ b,p'.foot b -> Db w' b:=fun b hb=>by
  obtain ⟨e1,cs,tt,e2,_⟩:=h6;rw [e1] at hb;exact .cells (c:=cs) (t:=tt) (z:=(0,0)) (by rw [show b=p'.blk from hb];exact e2)
 have Ao:(S.h.set k none).length=S.h.length:=by simp
 have O:BU (MS N S.h ρ) w ρ (MS N (S.h.set k none++[some ob']) (ρ++[p'])) w' (ρ++[p']):=by
  refine ⟨fun b hb hm _=>h4.block b hb fun hx=>hm (.inr ⟨k,ob,p,hk,hp,hx⟩),fun b hb=>?_,fun i q hi=>ET hi⟩;rcases hb with hb | hb
  ·exact .inl (.inl hb)
  ·obtain ⟨i1,o1,p1,g1,g2,g3⟩:=hb;rcases Dj g1 with ⟨hl,g1⟩ | ⟨hl,_⟩
   ·rcases Dj g2 with ⟨_,g2⟩ | ⟨Cg,_⟩
    ·exact .inl (.inr ⟨i1,o1,p1,(Fv g1).2,g2,g3⟩)
    ·rw [Ao] at hl;rw [R.hr.len] at Cg;omega
   ·rcases Dj g2 with ⟨Cg,_⟩ | ⟨_,rfl⟩
    ·rw [Ao] at hl;rw [R.hr.len] at Cg;omega
    ·exact (h5 b g3).imp (fun hx=>.inr ⟨k,ob,p,hk,hp,hx⟩) id
 obtain ⟨g1,g2⟩:=R.hr.regrow (o':=ob') hk hp h4 (fun b hb=>⟨h5 b hb,zAe b hb⟩) (H2 _ _ _ _ O h6);refine ⟨⟨ρ++[p'],g1,⟨p',By,by rw [←R.hr.len];simp,by simp,h2,by unfold LB;unfold BA at hb;omega,by simpa using h3⟩,g2,fun _ _ h=>ET h⟩,fun h=>by cases h⟩
theorem dH (R:AS P Γ N S ρ a w) {t e:TypeId} {i:TypeInfo} {z:Value} (hu:P.underlying t=some (.slice e)) (hi:P.info? e=some i) (hz:i.zero=some z) (Cf:z.cells.size=i.size) (Di:i.bytes<=128)
 {ob':DO} {c:Nat} {vy:Value} {Bv:List Value} (hy:Src P i.size t vy c Bv w) (N7:0<c) (hb:c<=BA)
 (H2: ∀ M ρ' w' p',BU (MS N S.h ρ) w ρ M w' ρ' -> AX w' p' (c*i.size) (fun j u=>Bv[j]? =some u) -> Dy P M w' ρ' p' ob') (ext:Bool)
 (o:Oper) {cl:Call} {x y:Operand} (ho:o.op= .call cl) (hc:cl.callee= .builtin .append) (ha:cl.args.toList= [x,y]) (ht:cl.argTypes.toList= [t,t]) (hx:a.eval x= .slice none 0 0) (aY:a.eval y=vy):
 Bb P (execOp a.eval o) w (CV P Γ N S.h ρ w ext (.msl S.h.length i.size 0 c) (S.h++[some ob'])):=by
 obtain ⟨w',By,h1,h2,cs,rfl,h4,h5⟩:=dG none (ty:=o.type) hu hi hz Cf Di hy N7 hb;have JN:Bv.length=c*i.size:=hy.newsLen;refine Bb.value (TZ ho hc ha ht) (by rw [hx,aY];exact h1) ?_;have Cu:c*i.size<=By*i.size:=zEW _ h2;refine Pq (d:=.msl S.h.length i.size 0 c) R.hr ⟨Aq.toDrew w,rfl⟩ (fun M ρ' O=>H2 _ _ _ _ O ?_) (fun M ρ' hp=>⟨_,By,hp,by simp [ED],h2,by unfold LB;unfold BA at hb;omega,by simp only [ED];omega⟩) ext;refine M5 rfl (by omega) fun j hj=>?_
 rw [h5 j hj];exact ⟨Bv[j],by simp [JN,hj],by simp [JN,hj]⟩
theorem aK {xs ys:List Int} {M:Nat -> Prop} {w':World} {ρ':List AI} {p':AI} {s:Nat} (hs:s=1) (h:AX w' p' ((xs.length+ys.length)*s) (H7 (xs.length*s) (fun j u=>u= .int .i64 (xs.getD j 0)) (ys.map (Value.int .i64)))):Dy P M w' ρ' p' (.ints (xs++ys)):=by
 subst hs
 show AX _ _ (xs++ys).length _
 rw [zAm];rw [zD8,zD8] at h;refine AX.out h rfl fun j u hj hu=>?_
 unfold H7 at hu;split at hu
 ·rename_i AO;rw [hu];simp [u8,zAb AO]
 ·rename_i AO;have Gm:j-xs.length<ys.length:=by omega
  simp [Gm] at hu;rw [←hu];simp [u8,zAd (zEv AO),Gm]
theorem zDD {xs ys:List Bool} {M:Nat -> Prop} {w':World} {ρ':List AI} {p':AI} {s:Nat} (hs:s=1) (h:AX w' p' ((xs.length+ys.length)*s) (H7 (xs.length*s) (fun j u=>u= .bool (xs.getD j false)) (ys.map Value.bool))):Dy P M w' ρ' p' (.bools (xs++ys)):=by
 subst hs
 show AX _ _ (xs++ys).length _
 rw [zAm];rw [zD8,zD8] at h;refine AX.out h rfl fun j u hj hu=>?_
 unfold H7 at hu;split at hu
 ·rename_i AO;rw [hu];simp [u8,zAb AO]
 ·rename_i AO;have Gm:j-xs.length<ys.length:=by omega
  simp [Gm] at hu;rw [←hu];simp [u8,zAd (zEv AO),Gm]
theorem mL (R:AS P Γ N S ρ a w) {t e:TypeId} (hu:P.underlying t=some (.slice e)) {y:DV} {v:Value} (hy:AM (MS N S.h ρ) w y ρ v) {m c:Nat} (AE:0<m) {g:Nat -> Nat -> DV} {vy:Prop} (h:bx S m y=some (c,g,vy)) (hv:vy)
 (h1: ∀ i j,i<c -> j<m -> IR (g i j)=true): ∃ Bv,Src P m t v c Bv w/\ ∀ j u,Bv[j]? =some u -> AM (MS N S.h ρ) w (g (j/m) (j % m)) [] u:=by
 have dm: ∀ {j:Nat},j<c*m -> j/m<c/\ j % m<m/\ j/m*m+j % m=j:=fun {j} hj=>⟨by rw [zE1 AE];exact hj,zGD _ AE,by rw [zEf];exact Nat.div_add_mod j m⟩
 have cR: ∀ (ad:Option Addr) (cap:Nat),(∀ j,j<c*m -> ∃ b o u,ad=some ⟨b,o,none⟩/\ w.cell? ⟨b,o+j,none⟩=some u/\ AM (MS N S.h ρ) w (g (j/m) (j % m)) [] u) -> v= .slice ad c cap -> (ad=none -> c=0) ->
  ∃ Bv,Src P m t v c Bv w/\ ∀ j u,Bv[j]? =some u -> AM (MS N S.h ρ) w (g (j/m) (j % m)) [] u:=by
  intro ad cap hc xh a8
  obtain ⟨f,hf⟩: ∃ f:Nat -> Value,∀ j,j<c*m -> ∃ b o,ad=some ⟨b,o,none⟩/\ w.cell? ⟨b,o+j,none⟩=some (f j)/\ AM (MS N S.h ρ) w (g (j/m) (j % m)) [] (f j):=by
   refine ⟨fun j=>(match ad with | some a=>w.cell? ⟨a.block,a.off+j,none⟩ | none=>none).getD undef,fun j hj=>?_⟩;obtain ⟨b,o,u,rfl,e2,e3⟩:=hc j hj;exact ⟨b,o,rfl,by simp [e2],by simpa [e2] using e3⟩
  have val: ∀ {j:Nat} {u:Value},((List.range (c*m)).map f)[j]? =some u -> j<c*m/\ u=f j:=fun {j u} hj=>by
   have AO:=(zAS.1 hj).1;have AO:j<c*m:=by simpa using AO
   simp [AO] at hj;exact ⟨AO,hj.symm⟩
  refine ⟨(List.range (c*m)).map f,?_,fun j u hj=>?_⟩
  ·rw [xh];refine Qr hu (by simp) (fun j u hj=>?_) (fun u Bo=>?_) AE a8
   ·obtain ⟨AO,rfl⟩:=val hj;obtain ⟨b,o,e1,e2,_⟩:=hf j AO;exact ⟨b,o,e1,e2⟩
   ·obtain ⟨j,hj,rfl⟩:=zEI.1 Bo;have AO:=zAi.1 hj;obtain ⟨_,_,_,_,e3⟩:=hf j AO;exact (Vk (h1 _ _ (dm AO).1 (dm AO).2.1) e3).1
  ·obtain ⟨AO,rfl⟩:=val hj;obtain ⟨_,_,_,_,e3⟩:=hf j AO;exact e3
 unfold bx at h;split at h
 ·cases h;refine cR none 0 (fun j hj=>by rw [Nat.zero_mul] at hj;omega) hy (fun _=>rfl)
 ·rename_i m' n f;split at h
  ·rename_i hm;cases h;have CQ:m'=m:=by simpa using hm
   subst CQ;obtain ⟨ad,cap,rfl,g1,g2,g3⟩:=hy;refine cR ad cap (fun j hj=>?_) rfl (fun e=>?_)
   ·obtain ⟨b,o,u,e1,_,e2,e3⟩:=g3 _ _ (dm hj).1 (dm hj).2.1;exact ⟨b,o,u,e1,by rw [(dm hj).2.2] at e2;exact e2,e3⟩
   ·rcases zFE c with h0 | h0
    ·exact h0
    ·obtain ⟨b,o,u,e1,_⟩:=g3 0 0 h0 AE;rw [e] at e1;cases e1
  ·cases h
 ·rename_i k m' off n;obtain ⟨p,cap,hp,rfl,g1,g2,g3⟩:=hy;split at h
  ·rename_i m2 n2 f hk;split at h
   ·rename_i hm;cases h;simp only [zAN,zDu] at hm;obtain ⟨rfl,rfl⟩:=hm;obtain ⟨p',BF,hr⟩:=R.hr.obj k _ hk;have e:p'=p:=zAR (BF.symm.trans hp);subst e;obtain ⟨rfl,rfl⟩:=hv;refine cR (some ⟨p'.blk,p'.off+0*m2,none⟩) cap (fun j hj=>?_) rfl (fun e=>by cases e);obtain ⟨u,e1,e2⟩:=AX.cell hr hj;exact ⟨p'.blk,p'.off,u,by simp,e1,e2⟩
   ·cases h
  ·cases h
 ·cases h
theorem zDb (R:AS P Γ N S ρ a w) {t:TypeId} {x y:Operand} {d:DV} {h':DH} {vc:Prop} (hd:dL P S t (AY S.fr x) (AY S.fr y)=some (d,h',vc)) (hv:vc) (o:Oper) {cl:Call} (ho:o.op= .call cl) (hc:cl.callee= .builtin .append)
 (ha:cl.args.toList= [x,y]) (ht:cl.argTypes.toList= [t,t]):Bb P (execOp a.eval o) w (CV P Γ N S.h ρ w false d h'):=by
 have rx:=Bg R x;have ry:=Bg R y;unfold dL at hd;split at hd
 ·rename_i kk e i z hk;obtain ⟨hu,hi,hz,h0,Cf,EH,yV,Gk⟩:=Te hk;clear yV Gk;split at hd
  ·cases hd
  ·rename_i Di;have Pn:i.bytes<=128:=by omega
   split at hd
   ·have Cp:i.size=1:=EH.symm;split at hd
    ·rename_i ys vy hy;split at hd
     ·rename_i ex;cases hd;rw [ex] at rx
      have:=dH (ob':=.ints ys) R hu hi hz Cf Pn (by rw [Cp];exact Se R hu ry hy hv.1) hv.2.1 hv.2.2 (fun M ρ' w' p' O hr=>by
       have Cs:=hr;rw [Cp,zD8] at Cs;refine AX.out Cs rfl fun j u hj Bo=>?_
       simp [hj] at Bo;rw [←Bo];simp [hj]) false o ho hc ha ht rx rfl
      rw [Cp] at this;exact this
     ·rename_i k m off n ex;rw [ex] at rx;obtain ⟨p,cap,hp,hx,g1,g2,g3⟩:=rx;split at hd
      ·rename_i xs Lw;split at hd
       ·rename_i hm;cases hd;have CQ:m=1:=by simpa using hm
        subst CQ;obtain ⟨q1,⟨rfl,rfl⟩,q3⟩:=hv;obtain ⟨p',BF,hr⟩:=R.hr.obj k _ Lw;have e:p'=p:=zAR (BF.symm.trans hp);subst e
        have:=dF (ob':=.ints (xs++ys)) (n:=xs.length) (cap:=cap) (c:=ys.length) R hu hi hz h0 Cf Pn Lw hp (Rw:=fun j u=>u= .int .i64 (xs.getD j 0)) (by rw [Cp,zD8];exact hr) g1 (by rw [Cp];simpa using g3) (by rw [Cp];exact Se R hu ry hy q1) q3
         (fun M ρ' w' p' O hr=>aK Cp hr) o ho hc ha ht (by simpa using hx) rfl
        rw [Cp] at this;exact this
       ·cases hd
      ·cases hd
     ·cases hd
    ·cases hd
   ·have Cp:i.size=1:=EH.symm;split at hd
    ·rename_i ys vy hy;split at hd
     ·rename_i ex;cases hd;rw [ex] at rx
      have:=dH (ob':=.bools ys) R hu hi hz Cf Pn (by rw [Cp];exact nn R hu ry hy hv.1) hv.2.1 hv.2.2 (fun M ρ' w' p' O hr=>by
       have Cs:=hr;rw [Cp,zD8] at Cs;refine AX.out Cs rfl fun j u hj Bo=>?_
       simp [hj] at Bo;rw [←Bo];simp [hj]) false o ho hc ha ht rx rfl
      rw [Cp] at this;exact this
     ·rename_i k m off n ex;rw [ex] at rx;obtain ⟨p,cap,hp,hx,g1,g2,g3⟩:=rx;split at hd
      ·rename_i xs Lw;split at hd
       ·rename_i hm;cases hd;have CQ:m=1:=by simpa using hm
        subst CQ;obtain ⟨q1,⟨rfl,rfl⟩,q3⟩:=hv;obtain ⟨p',BF,hr⟩:=R.hr.obj k _ Lw;have e:p'=p:=zAR (BF.symm.trans hp);subst e
        have:=dF (ob':=.bools (xs++ys)) (n:=xs.length) (cap:=cap) (c:=ys.length) R hu hi hz h0 Cf Pn Lw hp (Rw:=fun j u=>u= .bool (xs.getD j false)) (by rw [Cp,zD8];exact hr) g1 (by rw [Cp];simpa using g3) (by rw [Cp];exact nn R hu ry hy q1) q3
         (fun M ρ' w' p' O hr=>zDD Cp hr) o ho hc ha ht (by simpa using hx) rfl
        rw [Cp] at this;exact this
       ·cases hd
      ·cases hd
     ·cases hd
    ·cases hd
   ·rename_i m;have CT:i.size=m:=EH.symm;have AE:0<m:=by omega
    split at hd
    ·rename_i c g vy hy;split at hd
     ·rename_i ex;cases hd;rw [ex] at rx;obtain ⟨Bv,ae,bB⟩:=mL R hu ry AE hy hv.1.1 hv.1.2
      have:=dH (ob':=.arr m c g) R hu hi hz Cf Pn (by rw [CT];exact ae) hv.2.1 hv.2.2 (fun M ρ' w' p' O hr=>by
       rw [CT] at hr;exact AX.out hr rfl fun j u hj Bo=>AM.out _ O.nil (bB j u Bo)) false o ho hc ha ht rx rfl
      rw [CT] at this;exact this
     ·rename_i k m' off n ex;rw [ex] at rx;obtain ⟨p,cap,hp,hx,g1,g2,g3⟩:=rx;split at hd
      ·rename_i m2 n2 f Lw;split at hd
       ·rename_i hm;cases hd;simp only [zAN,zDu] at hm;obtain ⟨rfl,rfl⟩:=hm;obtain ⟨q1,⟨rfl,rfl⟩,q3⟩:=hv;obtain ⟨p',BF,hr⟩:=R.hr.obj k _ Lw;have e:p'=p:=zAR (BF.symm.trans hp);subst e;obtain ⟨Bv,ae,bB⟩:=mL R hu ry AE hy q1.1 q1.2
        have:=dF (ob':=.arr m2 (n+c) (fun i j=>if i<n then f i j else g (i-n) j)) (n:=n) (cap:=cap) (c:=c) R hu hi hz h0 Cf Pn Lw hp (Rw:=fun j u=>AM (MS N S.h ρ) w (f (j/m2) (j % m2)) [] u) (by rw [CT];exact hr) g1 (by rw [CT];simpa using g3) (by rw [CT];exact ae) q3
         (fun M ρ' w' p' O hr=>by
          rw [CT] at hr;refine AX.out hr rfl fun j u hj Bo=>?_
          show AM M w' (if j/m2<n then f (j/m2) (j % m2) else g (j/m2-n) (j % m2)) [] u
          unfold H7 at Bo
          by_cases AO:j<n*m2
          ·rw [zAE AO] at Bo;rw [zAE (by rw [zE1 AE];exact AO)];exact AM.out _ O.nil Bo
          ·rw [zAU AO] at Bo;rw [zAU (by rw [zE1 AE];exact AO)];have h1:=bB _ _ Bo;have e1:(j-n*m2)/m2=j/m2-n:=by rw [zEf n m2];exact Nat.sub_mul_div ..
           have e2:(j-n*m2) % m2=j % m2:=by
            have Gm:j=(j-n*m2)+n*m2:=by omega
            rw [Gm,Nat.add_mul_mod_self_right,Nat.add_sub_cancel]
           rw [e1,e2] at h1;exact AM.out _ O.nil h1) o ho hc ha ht (by simpa using hx) rfl
        rw [CT] at this;exact this
       ·cases hd
      ·cases hd
     ·cases hd
    ·cases hd
 ·cases hd
end
end Go.Proofs.YtkjbblkieglmlaaGreatDoor
namespace Go.Proofs.YtkjbblkieglmlaaGreatDoor
abbrev zD7:=@Bool.not_true
abbrev zD9:=@Bool.true_and
abbrev zEC:=@List.getElem?_take
abbrev zET:=@List.map_cons
abbrev zEn:=@List.getElem?_drop
abbrev zEw:=@List.length_take
abbrev zFz:=@List.length_drop
abbrev zF7:=@Go.run_equalIn_int
end Go.Proofs.YtkjbblkieglmlaaGreatDoor
namespace Go.Proofs.YtkjbblkieglmlaaGreatDoor
open Go.RowKit
def XC (IN:Nat -> Option (Nat×Nat)) (cells:List DV):List (Nat×DV) -> Option (List DV)
 | []=>some cells
 | (i,d)::rest=>match IN i with
  | none=>none
  | some (off,size)=>match Ii d with
   | none=>none
   | some l=>if l.length=size/\ off+l.length<=cells.length then XC IN (Mp cells off l) rest else none
def ZT (P:Program) (t:TypeId):Option (Value×(Nat -> Option (Nat×Nat))):=match P.info? t with
 | some it=>match P.underlying t with
  | some (.array _ e)=>match it.zero with
   | some z=>match P.info? e with
    | some ie=>some (z,fun i=>some (i*ie.size,ie.size))
    | none=>none
   | none=>none
  | some (.struct zBe)=>match it.zero with
   | some z=>match zBe.toList.mapM (fun f=>(P.info? f.type).map fun i=>(f.offset,i.size)) with
    | some NE=>some (z,fun i=>NE.toArray[i]?)
    | none=>none
   | none=>none
  | _=>none
 | none=>none
def Vz (P:Program) (S:St) (t:TypeId) (parts:List (Nat×Operand)):Option (DV×Prop):=match ZT P t with
 | some (z,IN)=>match XC IN (z.cells.toList.map GJ) (parts.map fun x=>(x.1,AY S.fr x.2)) with
  | some l=>some (.agg l.length (fun j=>l.getD j .any),True)
  | none=>none
 | none=>none
def NJ (P:Program) (t:TypeId) (m:Nat) (f:Nat -> DV) (off size:Nat):Option DV:=
 if off+size<=m then (if Fp P t then (if size=1 then some (f off) else none) else if UH P t size then some (.agg size (F8 size fun j=>f (off+j))) else none) else none
def aG (P:Program) (t:TypeId) (x:DV) (n:Int):Option (DV×Prop):=match x with
 | .agg m f=>match P.underlying t with
  | some (.array len e)=>match P.info? e with
   | some i=>if Fp P e&&i.size==1&&len==m then some (f n.toNat,0<=n/\ n<len) else none
   | none=>none
  | _=>none
 | _=>none
def W7 (P:Program) (t:TypeId) (x:DV) (fi:Nat):Option (DV×Prop):=match x with
 | .agg m f=>match P.underlying t with
  | some (.struct fs)=>match fs[fi]? with
   | some fd=>match P.info? fd.type with
    | some i=>match NJ P fd.type m f fd.offset i.size with
     | some d=>some (d,True)
     | none=>none
    | none=>none
   | none=>none
  | _=>none
 | _=>none
def cQ (P:Program) (t:TypeId) (x:DV) (lo hi:Option Int):Option (DV×Prop):=match P.underlying t with
 | some (.slice e)=>match P.info? e with
  | some i=>match x with
   | .ints l=>if i.size=1 then some (.ints ((l.take (hi.getD l.length).toNat).drop (lo.getD 0).toNat),0<=lo.getD 0/\ lo.getD 0<=hi.getD l.length/\ hi.getD l.length<=l.length) else none
   | .bools l=>if i.size=1 then some (.bools ((l.take (hi.getD l.length).toNat).drop (lo.getD 0).toNat),0<=lo.getD 0/\ lo.getD 0<=hi.getD l.length/\ hi.getD l.length<=l.length) else none
   | .sl m n f=>if i.size=m then some (.sl m ((hi.getD n).toNat-(lo.getD 0).toNat) (fun i j=>f ((lo.getD 0).toNat+i) j),0<=lo.getD 0/\ lo.getD 0<=hi.getD n/\ hi.getD n<=n) else none
   | .msl k m off n=>if i.size=m then some (.mse k m (off+(lo.getD 0).toNat) ((hi.getD n).toNat-(lo.getD 0).toNat),0<=lo.getD 0/\ lo.getD 0<=hi.getD n/\ hi.getD n<=n) else none
   | _=>none
  | none=>none
 | _=>none
def V9 (S:St):Option Operand -> Option (Option Int)
 | none=>some none
 | some x=>match AY S.fr x with
  | .int _ n=>some (some n)
  | _=>none
def P9 (f g:Nat -> DV):List Nat -> Bool
 | []=>true
 | i::is=>(Ht (f i)==Ht (g i))&&P9 f g is
def XJ (P:Program) (t:TypeId) (f g:Nat -> DV) (m m':Nat):Option (List Nat):=match P.underlying t with
 | some (.array n e)=>match P.info? e with
  | some i=>match P.underlying e with
   | some (.int _)=>if i.size==1&&Fp P e&&P.eqGuardType P.depth t==false&&n==m&&n==m'&&(List.range n).all (fun i=>KN (f i)&&KN (g i)) then some (List.range n) else none
   | _=>none
  | none=>none
 | _=>none
def Tb (P:Program) (op:BinOp) (t:TypeId) (x y:DV):Option (DV×Prop):=match op,x,y with
 | .eql,.agg m f,.agg m' g=>match XJ P t f g m m' with
  | some is=>some (.bool (P9 f g is),True)
  | none=>none
 | .neq,.agg m f,.agg m' g=>match XJ P t f g m m' with
  | some is=>some (.bool (!(P9 f g is)),True)
  | none=>none
 | _,_,_=>none
def XZ (P:Program) (t:TypeId):Bool:=match P.underlying t with
 | some (.interface _)=>false
 | some _=>true
 | none=>false
def dB (P:Program) (to:TypeId) (ok:Bool):DV -> Option DV
 | .cst (.iface t (.int k n))=>if t=to&&XZ P to then some (if ok then .tup 2 (fun j=>[DV.int k n,.bool true].getD j .any) else .int k n) else none
 | .cst .nilIface=>if ok&&XZ P to then match P.info? to with
  | some i=>match i.zero with
   | some (.int k n)=>some (.tup 2 (fun j=>[DV.int k n,.bool false].getD j .any))
   | _=>none
  | none=>none
  else none
 | _=>none
theorem zDV {P:Program} {M:Nat -> Prop} {w:World} {ρ:List AI} {xt to:TypeId} {ok:Bool} {d d':DV} {v:Value} (hr:AM M w d ρ v) (h:dB P to ok d=some d'): ∃ u,(∀ W,(Instr.typeAssert v xt to ok).run P W= .ok u W)/\ AM M w d' ρ u:=by
 have two: ∀ (k:IntKind) (n:Int) (b:Bool),AM M w (.tup 2 (fun j=>[DV.int k n,.bool b].getD j .any)) ρ (.tuple #[.int k n,.bool b]):=fun k n b=>⟨_,rfl,rfl,fun j hj=>match j,hj with
  | 0,_=>⟨_,rfl,rfl⟩
  | 1,_=>⟨_,rfl,rfl⟩
  | j+2,hj=>absurd hj (by omega)⟩
 unfold dB at h;split at h
 ·rename_i t k n;split at h
  ·rename_i hc;simp only [zAN,zAx] at hc;obtain ⟨rfl,hc⟩:=hc;obtain ⟨rfl,_⟩:=hr;unfold XZ at hc;cases h;cases ok
   ·refine ⟨.int k n,fun W=>?_,rfl⟩;split at hc <;> first | (cases hc;done) | skip
    rename_i u GN hu;cases u <;> first | (exact absurd rfl (GN _)) | simp [Instr.typeAssert,zBu hu]
   ·refine ⟨.tuple #[.int k n,.bool true],fun W=>?_,two k n true⟩;split at hc <;> first | (cases hc;done) | skip
    rename_i u GN hu;cases u <;> first | (exact absurd rfl (GN _)) | simp [Instr.typeAssert,zBu hu]
  ·cases h
 ·split at h
  ·rename_i hc;simp only [zAN] at hc;obtain ⟨rfl,hc⟩:=hc;obtain ⟨rfl,_⟩:=hr;unfold XZ at hc;split at h
   ·rename_i i hi;split at h
    ·rename_i k n hz;cases h;refine ⟨.tuple #[.int k n,.bool false],fun W=>?_,two k n false⟩;split at hc <;> first | (cases hc;done) | skip
     rename_i u GN hu;cases u <;> first | (exact absurd rfl (GN _)) | simp [Instr.typeAssert,zBu hu,zeroValue,typeInfo,hi,hz]
    ·cases h
   ·cases h
  ·cases h
 ·cases h
def Rl (P:Program) (S:St):Op -> Option (DV×Prop)
 | .typeAssert x _ to ok=>match dB P to ok (AY S.fr x) with
  | some d=>some (d,True)
  | none=>none
 | .build t parts=>Vz P S t parts.toList
 | .index t x i=>match AY S.fr i with
  | .int _ n=>aG P t (AY S.fr x) n
  | _=>none
 | .field t x f=>W7 P t (AY S.fr x) f
 | .slice t x lo hi none=>match V9 S lo with
  | some l=>match V9 S hi with
   | some h=>cQ P t (AY S.fr x) l h
   | none=>none
  | none=>none
 | .binOp op t x y t'=>match Tb P op t (AY S.fr x) (AY S.fr y) with
  | some r=>some r
  | none=>O6 P S (.binOp op t x y t')
 | op=>O6 P S op
section
variable {P:Program} {Γ:Ar} {N:Nat -> Prop} {S:St} {ρ:List AI} {a:Act} {w:World}
def Xy (M:Nat -> Prop) (w:World) (ρ:List AI) (l:List DV) (cs:Array Value):Prop:=cs.size=l.length/\ ∀ j,j<l.length -> ∃ u,cs[j]? =some u/\ AM M w (l.getD j .any) ρ u
theorem n9: ∀ (vs:List Value) (k off:Nat) (cs:Array Value),((vs.zipIdx k).foldl (fun (cs:Array Value) (x:Value×Nat)=>cs.setIfInBounds (off+x.2) x.1) cs).size=cs.size/\
 ∀ j,((vs.zipIdx k).foldl (fun (cs:Array Value) (x:Value×Nat)=>cs.setIfInBounds (off+x.2) x.1) cs)[j]? =if off+k<=j/\ j<off+k+vs.length/\ j<cs.size then vs[j-(off+k)]? else cs[j]?
 | [],k,off,cs=>⟨rfl,fun j=>by
  rw [zAU]
  ·rfl
  ·simp only [zEE];omega⟩
 | v::vs,k,off,cs=>by
  obtain ⟨h1,h2⟩:=n9 vs (k+1) off (cs.setIfInBounds (off+k) v);rw [List.zipIdx_cons,zEt];refine ⟨by rw [h1];simp,fun j=>?_⟩;rw [h2 j,zAw];simp only [Array.size_setIfInBounds]
  by_cases e:j=off+k
  ·subst e;rw [zAU (by omega),zD4,zAE rfl]
   by_cases hs:off+k<cs.size
   ·rw [zAE hs,zAE (by omega),Nat.sub_self];rfl
   ·rw [zAU hs,zAU (by omega),zFm (by omega)]
  ·by_cases e2:off+(k+1)<=j/\ j<off+(k+1)+vs.length/\ j<cs.size
   ·rw [zAE e2,zAE (by omega),show j-(off+k)=(j-(off+(k+1)))+1 by omega];simp
   ·rw [zAU e2,zAU (by omega),zD4,zAU (by omega)]
theorem ma {M:Nat -> Prop} {IN:Nat -> Option (Nat×Nat)}: ∀ (parts:List (Nat×Operand)) (l:List DV) (cs:Array Value) (r:List DV),Xy M w ρ l cs -> (∀ x,AM M w (AY S.fr x) ρ (a.eval x)) ->
 XC IN l (parts.map fun x=>(x.1,AY S.fr x.2))=some r -> ∃ rs,Instr.fill IN cs (parts.map fun x=>(x.1,a.eval x.2))=some rs/\ Xy M w ρ r rs
 | [],l,cs,r,hc,_,h=>by cases h;exact ⟨cs,rfl,hc⟩
 | (i,x)::rest,l,cs,r,hc,hr,h=>by
  simp only [zET,XC] at h;split at h
  ·cases h
  ·rename_i off size Eu;split at h
   ·cases h
   ·rename_i ds D8;split at h
    ·rename_i Ay;obtain ⟨c1,c2⟩:=Tq D8 (hr x);have Ao:(a.eval x).cells.size=size:=by rw [c1,Ay.1]
     have lT: ¬ (off+(a.eval x).cells.size>cs.size):=by rw [c1,hc.1];omega
     obtain ⟨s1,s2⟩:=n9 (a.eval x).cells.toList 0 off cs
     have H2:Xy M w ρ (Mp l off ds) ((a.eval x).cells.zipIdx.foldl (fun cs (c,j)=>cs.setIfInBounds (off+j) c) cs):=by
      have e0:((a.eval x).cells.zipIdx.foldl (fun cs (c,j)=>cs.setIfInBounds (off+j) c) cs)=(((a.eval x).cells.toList.zipIdx 0).foldl (fun (cs:Array Value) (x:Value×Nat)=>cs.setIfInBounds (off+x.2) x.1) cs):=by
       rw [←Array.foldl_toList];simp
      rw [e0];refine ⟨by rw [s1,Ya,hc.1],fun j hj=>?_⟩;rw [Ya] at hj;rw [s2 j,Yc l off ds hj]
      by_cases e:off<=j/\ j<off+ds.length
      ·rw [zAE (by simp;rw [c1,hc.1];omega),zAE e];obtain ⟨u,g1,g2⟩:=c2 (j-off) (by omega);exact ⟨u,by simpa using g1,g2⟩
      ·rw [zAU (by simp;rw [c1];omega),zAU e];exact hc.2 j hj
     obtain ⟨rs,g1,g2⟩:=ma rest _ _ r H2 hr h;refine ⟨rs,?_,g2⟩;simp only [zET,Instr.fill,Eu];rw [zAU (by simp only [zAz,zAx];omega)];exact g1
    ·cases h
theorem uQ {t:TypeId} {z:Value} {IN:Nat -> Option (Nat×Nat)} (h:ZT P t=some (z,IN)) (parts:List (Nat×Value)):P.built t parts=Instr.fill IN z.cells parts:=by
 unfold ZT at h;unfold Program.built
 repeat' (split at h)
 all_goals first
  | (cases h;done)
  | (cases h;simp_all)
theorem vr (R:AS P Γ N S ρ a w) {t:TypeId} {parts:Array (Nat×Operand)} {d:DV} {vc:Prop} (h:Vz P S t parts.toList=some (d,vc)):Yl P N w (MS N S.h ρ) ρ (Instr.build t (parts.map fun (i,x)=>(i,a.eval x))) d:=by
 unfold Vz at h;split at h
 ·rename_i z IN hp;split at h
  ·rename_i l hl;cases h
   have h0:Xy (MS N S.h ρ) w ρ (z.cells.toList.map GJ) z.cells:=⟨by simp,fun j hj=>by
    have BT:j<z.cells.size:=by simpa using hj
    exact ⟨z.cells[j],by simp [BT],by
     have:(z.cells.toList.map GJ).getD j .any=GJ z.cells[j]:=by simp [BT]
     rw [this];exact Vn _⟩⟩
   obtain ⟨rs,g1,g2,g3⟩:=ma parts.toList _ _ _ h0 (Bg R) hl;refine Yl.pure (v:=.agg rs) (fun W=>run_build W t _ rs ?_) ⟨rs,rfl,g2,g3⟩;rw [uQ hp];have e1:(parts.map fun (i,x)=>(i,a.eval x)).toList=parts.toList.map fun x=>(x.1,a.eval x.2):=by simp
   rw [e1];exact g1
  ·cases h
 ·cases h
theorem Yz {t:TypeId} {cs:Array Value} {off size m:Nat} {f:Nat -> DV} {d:DV} {M:Nat -> Prop} {i:TypeInfo} (hi:P.info? t=some i) (Ay:i.size=size) (DW:cs.size=m) (hr: ∀ j,j<m -> ∃ u,cs[j]? =some u/\ AM M w (f j) ρ u) (h:NJ P t m f off size=some d):Yl P N w M ρ (part t cs off) d:=by
 unfold NJ at h;split at h
 ·rename_i Cu;split at h
  ·rename_i h1;split at h
   ·rename_i hs;cases h;obtain ⟨u,g1,g2⟩:=hr off (by omega);unfold Fp at h1;simp only [zAN,zFc,zEO] at h1;obtain ⟨⟨dd,hd⟩,hn⟩:=h1;refine Yl.pure (v:=u) (fun W=>?_) g2;unfold part;rw [zAr,RG hd];simp [Result.andThen,hn,g1]
   ·cases h
  ·split at h
   ·rename_i h2;cases h;obtain ⟨h3,i',BV,hs'⟩:=dU h2;have ei:i'=i:=zAR (BV.symm.trans hi);subst ei;obtain ⟨dd,hd⟩:=kL h3;refine Yl.pure (v:=.agg (cs.extract off (off+size))) (fun W=>?_) ⟨_,rfl,by simp;omega,fun j hj=>?_⟩
    ·unfold part;rw [zAr,RG hd];simp only [Result.andThen,h3,zEL];rw [zAr,I0 hi,Ay];rfl
    ·obtain ⟨u,g1,g2⟩:=hr (off+j) (by omega);refine ⟨u,?_,Ju hj g2⟩;rw [Array.getElem?_extract];rw [zAE (by omega)];exact g1
   ·cases h
 ·cases h
theorem wu (R:AS P Γ N S ρ a w) {t:TypeId} {x d:DV} {vc:Prop} {v:Value} {k:IntKind} {n:Int} (hx:AM (MS N S.h ρ) w x ρ v) (h:aG P t x n=some (d,vc)) (hv:vc):Yl P N w (MS N S.h ρ) ρ (Instr.index t v (.int k n)) d:=by
 unfold aG at h;split at h
 ·rename_i m f;obtain ⟨cs,rfl,hs,hr⟩:=hx;split at h
  ·rename_i len e hu;split at h
   ·rename_i i hi;split at h
    ·rename_i hc;cases h;simp only [zAN,zDu] at hc;obtain ⟨⟨h1,h2⟩,rfl⟩:=hc
     have hp:NJ P e len f n.toNat 1=some (f n.toNat):=by
      unfold NJ;rw [zAE (by omega),zAE h1,zAE rfl]
     obtain ⟨u,g1,g2⟩:=Yz (P:=P) hi h2 hs hr hp;refine ⟨u,fun W hE=>?_,g2⟩;unfold Instr.index;simp only [asIntOf,zAr,zFV,Result.andThen,zBu hu];rw [zAE ⟨hv.1,hv.2⟩];simp only [zAr,I0 hi,Result.andThen,h2,zD8];exact g1 W hE
    ·cases h
   ·cases h
  ·cases h
 ·cases h
theorem zBR (R:AS P Γ N S ρ a w) {t:TypeId} {x d:DV} {vc:Prop} {v:Value} {fi:Nat} (hx:AM (MS N S.h ρ) w x ρ v) (h:W7 P t x fi=some (d,vc)):Yl P N w (MS N S.h ρ) ρ (Instr.field t v fi) d:=by
 unfold W7 at h;split at h
 ·rename_i m f;obtain ⟨cs,rfl,hs,hr⟩:=hx;split at h
  ·rename_i fs hu;split at h
   ·rename_i fd hf;split at h
    ·rename_i i hi;split at h
     ·rename_i d' hp;cases h;obtain ⟨u,g1,g2⟩:=Yz (P:=P) hi rfl hs hr hp;refine ⟨u,fun W hE=>?_,g2⟩;unfold Instr.field;simp only [zAr,zBu hu,Result.andThen,hf,asAgg,zFV];exact g1 W hE
     ·cases h
    ·cases h
   ·cases h
  ·cases h
 ·cases h
theorem sd {k:IntKind} {n:Int} {y:Nat} {c:BoundsCode} (h0:0<=n) (h1:n<=y) (W:World):(Instr.sliceBound (.int k n) y c).run P W= .ok n.toNat W:=by
 unfold Instr.sliceBound;simp only [asIntOf,zAr,zFV,Result.andThen];rw [zAE ⟨h0,h1⟩];rfl
theorem kM (R:AS P Γ N S ρ a w) {o:Option Operand} {l:Option Int} (h:V9 S o=some l): ∃ k,o.map a.eval=l.map (Value.int k):=by
 cases o with
 | none=>cases h;exact ⟨.i64,rfl⟩
 | some x=>
  simp only [V9] at h;split at h
  ·rename_i k n e;cases h;have:=Bg R x;rw [e] at this;exact ⟨k,by simp only [zA2];rw [show a.eval x=_ from this]⟩
  ·cases h
theorem U6 {t e:TypeId} {i:TypeInfo} {ad:Option Addr} {len cap:Nat} {kl kh:IntKind} {lo hi:Option Int} (hu:P.underlying t=some (.slice e)) (BV:P.info? e=some i) (h0:0<=lo.getD 0) (h1:lo.getD 0<=hi.getD len) (h2:hi.getD len<=len) (h3:len<=cap) (W:World):
 (Instr.sliceAt t (.slice ad len cap) (lo.map (Value.int kl)) (hi.map (Value.int kh)) none).run P W=
  .ok (.slice (if cap=(lo.getD 0).toNat then ad else ad.map (·.add ((lo.getD 0).toNat*i.size))) ((hi.getD len).toNat-(lo.getD 0).toNat) (cap-(lo.getD 0).toNat)) W:=by
 have hb:(Instr.sliceBounds true len cap (lo.map (Value.int kl)) (hi.map (Value.int kh)) none).run P W= .ok ((lo.getD 0).toNat,(hi.getD len).toNat,cap) W:=by
  cases lo <;> cases hi <;> simp only [Option.map_none,zA2,Option.getD_none,zEc] at* <;>
   simp (disch:=omega) [Instr.sliceBounds,sd,zAr,Result.andThen]
 unfold Instr.sliceAt;simp only [zAr,zBu hu,Result.andThen];unfold Instr.slice;simp only [zAr,zBu hu,Result.andThen,hb,I0 BV];rfl
theorem zCM (R:AS P Γ N S ρ a w) {t:TypeId} {x d:DV} {vc:Prop} {v:Value} {kl kh:IntKind} {lo hi:Option Int} (hx:AM (MS N S.h ρ) w x ρ v) (h:cQ P t x lo hi=some (d,vc)) (hv:vc):
 Yl P N w (MS N S.h ρ) ρ (Instr.sliceAt t v (lo.map (Value.int kl)) (hi.map (Value.int kh)) none) d:=by
 unfold cQ at h;split at h
 ·rename_i e hu;split at h
  ·rename_i i BV
   have gd: ∀ {α:Type} (l:List α) (q c j:Nat) (d:α),j<((l.take c).drop q).length -> ((l.take c).drop q).getD j d=l.getD (q+j) d:=fun l q c j d hj=>by
    simp only [zFz,zEw] at hj;simp only [u8,zEn,zEC];rw [zAE (by omega)]
   split at h
   ·rename_i l;split at h
    ·rename_i hs;cases h;obtain ⟨ad,cap,rfl,g1,g2,g3⟩:=hx;obtain ⟨v1,v2,v3⟩:=hv;have hl:((l.take (hi.getD l.length).toNat).drop (lo.getD 0).toNat).length=(hi.getD l.length).toNat-(lo.getD 0).toNat:=by simp;omega
     refine Yl.pure (fun W=>U6 hu BV v1 v2 v3 g1 W) ⟨_,_,by rw [hl],by omega,by omega,fun j hj=>?_⟩;have BT:=hj;rw [hl] at BT;obtain ⟨b,o,rfl,q1,q2⟩:=g3 ((lo.getD 0).toNat+j) (by omega);refine ⟨b,o+(lo.getD 0).toNat,?_,q1,?_⟩
     ·rw [zAU (by omega)];simp only [zA2,Io,hs,zD8]
     ·rw [gd _ _ _ _ _ hj,zDw];exact q2
    ·cases h
   ·rename_i l;split at h
    ·rename_i hs;cases h;obtain ⟨ad,cap,rfl,g1,g2,g3⟩:=hx;obtain ⟨v1,v2,v3⟩:=hv;have hl:((l.take (hi.getD l.length).toNat).drop (lo.getD 0).toNat).length=(hi.getD l.length).toNat-(lo.getD 0).toNat:=by simp;omega
     refine Yl.pure (fun W=>U6 hu BV v1 v2 v3 g1 W) ⟨_,_,by rw [hl],by omega,by omega,fun j hj=>?_⟩;have BT:=hj;rw [hl] at BT;obtain ⟨b,o,rfl,q1,q2⟩:=g3 ((lo.getD 0).toNat+j) (by omega);refine ⟨b,o+(lo.getD 0).toNat,?_,q1,?_⟩
     ·rw [zAU (by omega)];simp only [zA2,Io,hs,zD8]
     ·rw [gd _ _ _ _ _ hj,zDw];exact q2
    ·cases h
   ·rename_i m n f;split at h
    ·rename_i hs;cases h;obtain ⟨ad,cap,rfl,g1,g2,g3⟩:=hx;obtain ⟨v1,v2,v3⟩:=hv;refine Yl.pure (fun W=>U6 hu BV v1 v2 v3 g1 W) ⟨_,_,rfl,by omega,by omega,fun i1 j FJ hj=>?_⟩;obtain ⟨b,o,u,rfl,q1,q2,q3⟩:=g3 ((lo.getD 0).toNat+i1) j (by omega) hj;refine ⟨b,o+(lo.getD 0).toNat*m,u,?_,q1,?_,q3⟩
     ·rw [zAU (by omega)];simp only [zA2,Io,hs]
     ·rw [zEh,zDw] at q2;rw [zDw];exact q2
    ·cases h
   ·rename_i k m off n;split at h
    ·rename_i hs;cases h;obtain ⟨p,cap,hp,rfl,g1,g2,g3⟩:=hx;obtain ⟨v1,v2,v3⟩:=hv;have Cu:(lo.getD 0).toNat<=cap:=by omega
     refine Yl.pure (fun W=>U6 hu BV v1 v2 v3 g1 W) ⟨p,_,cap-(lo.getD 0).toNat,hp,rfl,by omega,by omega,fun hc=>⟨?_,?_⟩⟩
     ·rw [zAU (by omega)];simp only [zA2,Io,hs,zEh,zDw]
     ·have:cap*m=(lo.getD 0).toNat*m+(cap-(lo.getD 0).toNat)*m:=by rw [←zEh];congr 1;omega
      rw [zEh];omega
    ·cases h
   ·cases h
  ·cases h
 ·cases h
theorem gp {e:TypeId} {k':IntKind} {i:TypeInfo} {n d:Nat} {xs ys:Array Value} {f g:Nat -> DV} {M:Nat -> Prop} (hi:P.info? e=some i) (hs:i.size=1) (h1:Fp P e=true) (hk:P.underlying e=some (.int k')) (hx:xs.size=n) (hy:ys.size=n)
 (rx: ∀ j,j<n -> ∃ u,xs[j]? =some u/\ AM M w (f j) ρ u) (ry: ∀ j,j<n -> ∃ u,ys[j]? =some u/\ AM M w (g j) ρ u) (hI: ∀ j,j<n -> KN (f j)=true/\ KN (g j)=true):
 ∀ (is:List Nat),(∀ j∈is,j<n) -> ∀ W,Keep N w W -> (Op.eqItems (d+1) e 1 xs ys is).run P W= .ok (P9 f g is) W
 | [],_,W,_=>rfl
 | j::is,hb,W,hE=>by
  have hj:j<n:=hb j (by simp)
  have ip: ∀ {cs:Array Value} {f:Nat -> DV},cs.size=n -> (∀ j,j<n -> ∃ u,cs[j]? =some u/\ AM M w (f j) ρ u) -> KN (f j)=true -> (part e cs (j*1)).run P W= .ok (.int .i64 (Ht (f j))) W:=by
   intro cs f hc hr hf
   have hp:NJ P e n f (j*1) 1=some (f j):=by
    unfold NJ;rw [zAE (by omega),zAE h1,zAE rfl,zD8]
   obtain ⟨u,g1,g2⟩:=Yz (P:=P) hi hs hc hr hp;rw [g1 W hE,aH hf g2]
  simp only [Op.eqItems,zAr,ip hx rx (hI j hj).1,ip hy ry (hI j hj).2,Result.andThen,zF7 W d e .i64 k' _ _ hk];unfold P9;cases hq:(Ht (f j)==Ht (g j)) with
  | false=>rfl
  | true=>
   simp only [zD7,zDJ,zEr,zD9];exact gp hi hs h1 hk hx hy rx ry hI is (fun j hj=>hb j (by simp [hj])) W hE
theorem zBs {M:Nat -> Prop} {op:BinOp} {t:TypeId} {x y:DV} {vx vy:Value} {d:DV} {vc:Prop} (ox oy:Operand) (hx:AM M w x ρ vx) (hy:AM M w y ρ vy) (h:Tb P op t x y=some (d,vc)):
 Yl P N w M ρ (do eqGuard op t ox oy vx vy;binOp op t vx vy) d:=by
 have key: ∀ {m m':Nat} {f g:Nat -> DV} {is:List Nat} {xs ys:Array Value},XJ P t f g m m'=some is -> xs.size=m -> ys.size=m' -> (∀ j,j<m -> ∃ u,xs[j]? =some u/\ AM M w (f j) ρ u) -> (∀ j,j<m' -> ∃ u,ys[j]? =some u/\ AM M w (g j) ρ u) ->
  P.eqGuardType P.depth t=false/\ ∀ W,Keep N w W -> (Op.equalIn 10000 t (.agg xs) (.agg ys)).run P W= .ok (P9 f g is) W:=by
  intro m m' f g is xs ys hb sx sy rx ry;unfold XJ at hb;split at hb
  ·rename_i n e hu;split at hb
   ·rename_i i hi;split at hb
    ·rename_i k' hk;split at hb
     ·rename_i hc;cases hb;simp only [zAN,zDu,zAT,zAi] at hc;obtain ⟨⟨⟨⟨⟨c1,c2⟩,c3⟩,c4⟩,c5⟩,c6⟩:=hc;subst c4;subst c5;refine ⟨c3,fun W hE=>?_⟩;have C9:P.cellsOf e=1:=by unfold Program.cellsOf;rw [hi];exact c1
      rw [run_equalIn_array W 9999 xs ys hu hi,C9];exact gp (d:=9998) hi c1 c2 hk sx sy rx ry c6 _ (fun j hj=>zAi.1 hj) W hE
     ·cases hb
    ·cases hb
   ·cases hb
  ·cases hb
 unfold Tb at h;split at h
 ·rename_i m f m' g;split at h
  ·rename_i is hb;cases h;obtain ⟨xs,rfl,sx,rx⟩:=hx;obtain ⟨ys,rfl,sy,ry⟩:=hy;obtain ⟨k1,k2⟩:=key hb sx sy rx ry;refine ⟨.bool _,fun W hE=>?_,rfl⟩;simp only [zAr,run_eqGuard_agg W .eql t ox oy xs ys k1,Result.andThen,run_eql_struct,k2 W hE]
  ·cases h
 ·rename_i m f m' g;split at h
  ·rename_i is hb;cases h;obtain ⟨xs,rfl,sx,rx⟩:=hx;obtain ⟨ys,rfl,sy,ry⟩:=hy;obtain ⟨k1,k2⟩:=key hb sx sy rx ry;refine ⟨.bool _,fun W hE=>?_,rfl⟩;simp only [zAr,run_eqGuard_agg W .neq t ox oy xs ys k1,Result.andThen,run_neq_struct,k2 W hE]
  ·cases h
 ·cases h
theorem uN (R:AS P Γ N S ρ a w) (o:Oper) {d:DV} {vc:Prop} (h:Rl P S o.op=some (d,vc)) (hv:vc):
 ∃ v,(∀ W,Keep N w W -> (execOp a.eval o).run P W= .ok (.value v) W)/\ AM (MS N S.h ρ) w d ρ v:=by
 unfold Rl at h;split at h
 ·rename_i x xt to ok ho;split at h
  ·rename_i d' hd;cases h;obtain ⟨u,h1,h2⟩:=zDV (xt:=xt) (Bg R x) hd;exact Gq (s:=Instr.typeAssert (a.eval x) xt to ok) (by unfold execOp;rw [ho]) ⟨u,fun W _=>h1 W,h2⟩
  ·cases h
 ·rename_i t parts ho;exact Gq (by unfold execOp;rw [ho]) (vr R h)
 ·rename_i t x i ho;have hi:=Bg R i;split at h
  ·rename_i k n e;rw [e] at hi;refine Gq (s:=Instr.index t (a.eval x) (a.eval i)) (by unfold execOp;rw [ho]) ?_;rw [show a.eval i=_ from hi];exact wu R (Bg R x) h hv
  ·cases h
 ·rename_i t x f ho;exact Gq (s:=Instr.field t (a.eval x) f) (by unfold execOp;rw [ho]) (zBR R (Bg R x) h)
 ·rename_i t x lo hi ho;split at h
  ·rename_i l hl;split at h
   ·rename_i hh hhh;obtain ⟨k1,e1⟩:=kM R hl;obtain ⟨k2,e2⟩:=kM R hhh;refine Gq (s:=Instr.sliceAt t (a.eval x) (lo.map a.eval) (hi.map a.eval) none) (by unfold execOp;rw [ho];rfl) ?_;rw [e1,e2];exact zCM R (Bg R x) h hv
   ·cases h
  ·cases h
 ·rename_i op t x y t' ho;split at h
  ·rename_i r hr;cases h;exact Gq (by unfold execOp;rw [ho]) (zBs x y (Bg R x) (Bg R y) hr)
  ·rw [←ho] at h;exact ig R o h hv
 ·exact ig R o h hv
end
end Go.Proofs.YtkjbblkieglmlaaGreatDoor
namespace Go.Proofs.YtkjbblkieglmlaaGreatDoor
abbrev zA7:=@List.getElem_mem
end Go.Proofs.YtkjbblkieglmlaaGreatDoor
namespace Go.Proofs.YtkjbblkieglmlaaGreatDoor
open Go.RowKit
def Bc:List Prop -> Prop
 | []=>True
 | p::ps=>p/\ Bc ps
theorem Cv {l l':List Prop}:Bc (l++l')↔Bc l/\ Bc l':=by
 induction l with
 | nil=>simp [Bc]
 | cons p ps ih=>simp [Bc,ih,and_assoc]
def AR (d d':DV):Prop:=∀ (M:Nat -> Prop) (w:World) (ρ:List AI) (v:Value),AM M w d ρ v -> AM M w d' ρ v
section
variable {P:Program} {Γ:Ar} {N:Nat -> Prop}
theorem C6 {w:World} {M M':Nat -> Prop} (h: ∀ b,M' b -> M b) (ρ:List AI):BU M w ρ M' w ρ:=⟨fun _ _ _ _=>rfl,fun b hb=>.inl (h b hb),fun _ _ h=>h⟩
def b9:DO -> Option (Nat×Nat×DV)
 | .ints l=>some (1,l.length,.ints l)
 | .bools l=>some (1,l.length,.bools l)
 | .arr m n f=>some (m,n,.sl m n f)
 | .mo (.rws ls none)=>some (1,ls.length,.sl 1 ls.length fun i j=>([.ints (ls.getD i default)]:List DV).getD j .any)
 | _=>none
def H5 (k m:Nat) (v:DV):DV -> DV
 | .msl k' m' off n=>if k'=k/\ m'=m/\ off=0 then v else .msl k' m' off n
 | d=>d
def Pw (k m n:Nat):DV -> List Prop
 | .msl k' m' off n'=>if k'=k/\ m'=m/\ off=0 then [n'=n] else []
 | _=>[]
def Wz (k m:Nat) (v:DV):Option DO -> Option DO
 | some (.cells l)=>some (.cells (l.map (H5 k m v)))
 | some (.ro l)=>some (.ro (l.map (H5 k m v)))
 | o=>o
def mS (k m n:Nat):Option DO -> List Prop
 | some (.cells l)=>l.flatMap (Pw k m n)
 | some (.ro l)=>l.flatMap (Pw k m n)
 | _=>[]
def If (k m:Nat) (v:DV) (S:St):St:=⟨S.fr.map (H5 k m v),(S.h.set k none).map (Wz k m v)⟩
theorem dQ {l:List DV} {f:DV -> List Prop} (h:Bc (l.flatMap f)) {d:DV} (hd:d∈l):Bc (f d):=by
 induction l with
 | nil=>simp at hd
 | cons x l ih=>
  rw [zFo] at h;obtain ⟨h1,h2⟩:=Cv.1 h;rcases zA3.1 hd with rfl | hd
  ·exact h1
  ·exact ih h2 hd
theorem oI {l:List (Option DO)} {f:Option DO -> List Prop} (h:Bc (l.flatMap f)) {d:Option DO} (hd:d∈l):Bc (f d):=by
 induction l with
 | nil=>simp at hd
 | cons x l ih=>
  rw [zFo] at h;obtain ⟨h1,h2⟩:=Cv.1 h;rcases zA3.1 hd with rfl | hd
  ·exact h1
  ·exact ih h2 hd
theorem zBJ {M M':Nat -> Prop} {w:World} {ρ:List AI} {p:AI} {o:DO} {m n:Nat} {v:DV} (ho:b9 o=some (m,n,v)) (hr:Dy P M w ρ p o) (hN: ∀ b,p.foot b -> ¬ M' b) (hM: ∀ b,M' b -> M b) {u:Value} {cap:Nat} (hu:u= .slice (some ⟨p.blk,p.off+0*m,none⟩) n cap) (h1:n<=cap) (h2:n<=LB):AM M' w v ρ u:=by
 cases o with
 | cells l=>cases ho
 | iter e=>cases ho
 | ro l=>cases ho
 | mo x=>
  cases x with
  | rws ls Bt=>
   cases Bt with
   | some y=>cases ho
   | none=>
    cases ho;obtain ⟨vs,hS⟩:=hr;obtain ⟨cs,t,e1,e2,e3,e4⟩:=hS.row;refine ⟨_,cap,hu,h1,h2,fun i j hi hj=>?_⟩;obtain rfl:j=0:=by omega
    have BV:i+1<vs.size:=by rw [hS.size];omega
    have e5:=e4 i hi;rw [zA0 BV] at e5;refine ⟨p.blk,p.off,vs[i+1],by simp,hN _ hS.blk,by unfold World.cell?;simp [e1,e5],?_⟩;have hs:=hS.has i hi fun L e=>by cases e
    rw [show vs.getD (i+1) undef=vs[i+1] by simp [BV]] at hs;rcases hs with ⟨e,e'⟩ | ⟨q,c,e,g1,g2,g3,g4,g5⟩
    ·rw [e']
     show AM M' w (.ints (ls.getD i default)) [] _
     rw [e];exact ⟨none,0,rfl,zAp _,by decide,fun j hj=>absurd hj (zAo j)⟩
    ·rw [e];refine ⟨_,c,rfl,g1,g3,fun k hk=>⟨q.blk,q.off,rfl,hN _ g4.1,?_⟩⟩;obtain ⟨x,k1,k2⟩:=g5.cell hk;rw [k1,k2]
  | _=>cases ho
 | ints l=>
  cases ho;have hN:=hN p.blk (by rw [hr.1]);refine ⟨_,cap,hu,h1,h2,fun j hj=>⟨p.blk,p.off,by simp,hN,?_⟩⟩;obtain ⟨x,e1,e2⟩:=AX.cell hr hj;rw [e1,e2]
 | bools l=>
  cases ho;have hN:=hN p.blk (by rw [hr.1]);refine ⟨_,cap,hu,h1,h2,fun j hj=>⟨p.blk,p.off,by simp,hN,?_⟩⟩;obtain ⟨x,e1,e2⟩:=AX.cell hr hj;rw [e1,e2]
 | arr m n f=>
  cases ho;have hN:=hN p.blk (by rw [hr.1]);refine ⟨_,cap,hu,h1,h2,fun i j hi hj=>?_⟩;have AO:i*m+j<n*m:=zAW (by rw [zFn];omega:i*m+j<(i+1)*m) (zEW m hi);obtain ⟨x,e1,e2⟩:=AX.cell hr AO;have hm:0<m:=by omega
  have d1:(i*m+j)/m=i:=by rw [zEf,Nat.mul_add_div hm];simp [Nat.div_eq_of_lt hj]
  have d2:(i*m+j) % m=j:=by rw [zEf,Nat.mul_add_mod];exact zFU hj
  rw [d1,d2] at e2;exact ⟨p.blk,p.off,x,by simp,hN,e1,AM.out _ (C6 hM []) e2⟩
theorem TR {k m:Nat} {v:DV} {h:DH} {i:Nat} {o':DO} (hi:((h.set k none).map (Wz k m v))[i]? =some (some o')):i≠k/\ ∃ o,h[i]? =some (some o)/\ Wz k m v (some o)=some o':=by
 rw [zA1] at hi;cases hx:(h.set k none)[i]? with
 | none=>rw [hx] at hi;cases hi
 | some x=>
  rw [hx] at hi;have hi:Wz k m v x=some o':=zAR hi;cases x with
  | none=>cases hi
  | some o=>exact ⟨(Fv hx).1,o,(Fv hx).2,hi⟩
def Dx (S S':St):Prop:=∀ (P:Program) (Γ:Ar) (N:Nat -> Prop) (ρ:List AI) (a:Act) (w:World),AS P Γ N S ρ a w -> AS P Γ N S' ρ a w/\ A6 S.h ρ w S'.h ρ w
theorem Dx.frz {S:St} (k:Nat) {o:DO} {m n:Nat} {v:DV} (hk:S.h[k]? =some (some o)) (ho:b9 o=some (m,n,v)) (hc:Bc (S.fr.flatMap (Pw k m n))) (Kf:Bc (S.h.flatMap (mS k m n))):Dx S (If k m v S):=fun P Γ N ρ a w R=>by
 obtain ⟨p,hp,hr⟩:=R.hr.obj k _ hk
 have JV: ∀ b,MO (If k m v S).h ρ b -> ∃ i o p',i≠k/\ S.h[i]? =some (some o)/\ ρ[i]? =some p'/\ p'.foot b:=by
  rintro b ⟨i,o',p',g1,g2,g3⟩;obtain ⟨e1,o2,e2,_⟩:=TR g1;exact ⟨i,o2,p',e1,e2,g2,g3⟩
 have hN: ∀ b,p.foot b -> ¬ MS N (If k m v S).h ρ b:=by
  rintro b hf (hn | hb)
  ·exact (R.hr.cel k _ p b hk hp hf).2.1 hn
  ·obtain ⟨i,o2,p',e1,e2,g2,g3⟩:=JV _ hb;exact R.hr.dis i k _ _ p' p b e1 e2 hk g2 hp g3 hf
 have hM: ∀ b,MS N (If k m v S).h ρ b -> MS N S.h ρ b:=fun b hb=>hb.imp id fun hb=>by
  obtain ⟨i,o2,p',_,e2,g2,g3⟩:=JV _ hb;exact ⟨i,o2,p',e2,g2,g3⟩
 have conv: ∀ (d:DV) (u:Value),Bc (Pw k m n d) -> AM (MS N S.h ρ) w d ρ u -> AM (MS N (If k m v S).h ρ) w (H5 k m v d) ρ u:=by
  intro d u bS hd;cases d with
  | msl k' m' off n'=>
   simp only [Pw,H5] at bS ⊢;split at bS
   ·rename_i e;obtain ⟨rfl,rfl,rfl⟩:=e;rw [zAE ⟨rfl,rfl,rfl⟩];obtain ⟨p',cap,BF,e,g1,g2,_⟩:=hd;have ep:p'=p:=zAR (BF.symm.trans hp);subst ep;have en:=bS.1;subst en;exact zBJ ho hr hN hM e g1 g2
   ·rename_i e;rw [zAU e];exact AM.out _ (C6 hM ρ) hd
  | _=>exact AM.out _ (C6 hM ρ) hd
 refine ⟨⟨⟨by simp [If,R.hr.len],fun i o' hi=>?_,fun i o' p' b g1 g2 g3=>?_,fun i i' o1 o2 p1 p2 b Am g1 g2 g3 g4 g5 g6=>?_,R.hr.nlt,R.hr.gi⟩,⟨by simp [If,R.fr.1],fun i hi=>?_⟩⟩,⟨AP.refl _ w,fun b hb=>.inl ?_⟩⟩
 ·obtain ⟨e1,o2,e2,e3⟩:=TR hi;obtain ⟨p',BF,Cs⟩:=R.hr.obj i o2 e2;refine ⟨p',BF,?_⟩;cases o2 with
  | cells l=>
   cases e3
   show AX w p' (l.map (H5 k m v)).length _
   rw [zAq];refine AX.out Cs rfl fun j u hj hu=>?_
   have:(l.map (H5 k m v)).getD j .any=H5 k m v (l.getD j .any):=by simp [hj]
   rw [this];refine conv _ _ ?_ hu
   have Aw:some (DO.cells l)∈S.h:=zDy e2;have:=oI Kf Aw;exact dQ (l:=l) this (by simp [hj])
  | ints l=>cases e3;exact AX.out Cs rfl fun j u _ hu=>hu
  | bools l=>cases e3;exact AX.out Cs rfl fun j u _ hu=>hu
  | arr m n f=>cases e3;exact AX.out Cs rfl fun j u _ hu=>AM.out _ (C6 hM []) hu
  | iter encs=>
   cases e3;obtain ⟨gf,lb,Rd,q1,q2,q3,q4⟩:=Cs;exact ⟨gf,lb,Rd,q1,q2,fun b hb=>⟨fun hm=>(q3 b hb).1 (hM b hm),(q3 b hb).2⟩,q4⟩
  | ro l=>
   cases e3;obtain ⟨r1,r2,r3⟩:=Cs;refine ⟨r1,fun hm=>r2 (hM _ hm),?_⟩
   show AX w _ (l.map (H5 k m v)).length _
   rw [zAq];refine AX.out r3 rfl fun j u hj hu=>?_
   have:(l.map (H5 k m v)).getD j .any=H5 k m v (l.getD j .any):=by simp [hj]
   rw [this];refine conv _ _ ?_ hu
   have Aw:some (DO.ro l)∈S.h:=zDy e2;have:=oI Kf Aw;exact dQ (l:=l) this (by simp [hj])
  | mo x=>cases e3;exact Cs
 ·obtain ⟨e1,o2,e2,e3⟩:=TR g1;obtain ⟨q1,q2,q3⟩:=R.hr.cel i o2 p' b e2 g2 g3;exact ⟨q1,q2,q3⟩
 ·obtain ⟨e1,o3,e2,_⟩:=TR g1;obtain ⟨cN,o4,cM,_⟩:=TR g2;exact R.hr.dis i i' o3 o4 p1 p2 b Am e2 cM g3 g4 g5 g6
 ·have BV:i<S.fr.length:=by simpa [If] using hi
  have:(If k m v S).fr.getD i .any=H5 k m v (S.fr.getD i .any):=by simp [If,BV]
  rw [this];refine conv _ _ (dQ hc (by simp [BV])) (R.fr.2 i BV)
 ·obtain ⟨i,o2,p',_,e2,g2,g3⟩:=JV _ hb;exact ⟨i,o2,p',e2,g2,g3⟩
def TS (k:Nat) (S:St):Option (St×List Prop):=match S.h.getD k none with
 | some o=>match b9 o with
  | some (m,n,v)=>some (If k m v S,S.fr.flatMap (Pw k m n)++S.h.flatMap (mS k m n))
  | none=>none
 | none=>none
theorem Dx.frzE {S:St} (k:Nat) (S':St) (vs:List Prop) (h:TS k S=some (S',vs)) (hv:Bc vs):Dx S S':=by
 unfold TS at h;split at h
 ·rename_i o ho;split at h
  ·rename_i m n v hf;cases h;obtain ⟨h1,h2⟩:=Cv.1 hv;refine Dx.frz k ?_ hf h1 h2;rw [u8] at ho;cases hx:S.h[k]? with
   | none=>rw [hx] at ho;cases ho
   | some x=>rw [hx] at ho;exact congrArg some ho
  ·cases h
 ·cases h
theorem Dx.refl (S:St):Dx S S:=fun _ _ _ _ _ _ R=>⟨R,A6.refl _ _ _⟩
theorem Dx.trans {A B C:St} (h:Dx A B) (k:Dx B C):Dx A C:=fun P Γ N ρ a w R=>by
 obtain ⟨R1,s1⟩:=h P Γ N ρ a w R;obtain ⟨R2,s2⟩:=k P Γ N ρ a w R1;exact ⟨R2,s1.trans s2⟩
theorem MO.put {h:DH} {ρ:List AI} {k:Nat} {o o':DO} (hk:h[k]? =some (some o)) {b:Nat}:MO (h.set k (some o')) ρ b↔MO h ρ b:=by
 have AO:=(zAS.1 hk).1;constructor
 ·rintro ⟨i,x,p,h1,h2,h3⟩;rw [zAy] at h1
  by_cases e:k=i
  ·subst e;exact ⟨k,o,p,hk,h2,h3⟩
  ·rw [zAU e] at h1;exact ⟨i,x,p,h1,h2,h3⟩
 ·rintro ⟨i,x,p,h1,h2,h3⟩
  by_cases e:k=i
  ·subst e;exact ⟨k,o',p,by simp [AO],h2,h3⟩
  ·exact ⟨i,x,p,by rw [zAy,zAU e];exact h1,h2,h3⟩
theorem Dx.obj {S:St} {k:Nat} {o o':DO} (hk:S.h[k]? =some (some o)) (hO: ∀ (P:Program) (M:Nat -> Prop) (w:World) (ρ:List AI) (p:AI),Dy P M w ρ p o -> Dy P M w ρ p o'):Dx S ⟨S.fr,S.h.set k (some o')⟩:=fun P Γ N ρ a w R=>by
 have hM: ∀ b,MS N (S.h.set k (some o')) ρ b↔MS N S.h ρ b:=fun b=>or_congr Iff.rfl (MO.put hk)
 have back: ∀ {i:Nat} {x:DO},(S.h.set k (some o'))[i]? =some (some x) -> ∃ y,S.h[i]? =some (some y)/\ (i=k/\ x=o'∨y=x):=by
  intro i x hi;rw [zAy] at hi
  by_cases e:k=i
  ·subst e;rw [zAE rfl,zAE (zAS.1 hk).1] at hi;cases hi;exact ⟨o,hk,.inl ⟨rfl,rfl⟩⟩
  ·rw [zAU e] at hi;exact ⟨x,hi,.inr rfl⟩
 have O:BU (MS N S.h ρ) w ρ (MS N (S.h.set k (some o')) ρ) w ρ:=C6 (fun b hb=>(hM b).1 hb) ρ;refine ⟨⟨⟨by simp [R.hr.len],fun i x hi=>?_,fun i x p b g1 g2 g3=>?_,fun i i' o1 o2 p1 p2 b Am g1 g2 g3 g4 g5 g6=>?_,R.hr.nlt,R.hr.gi⟩,R.fr.out O⟩,⟨AP.refl _ w,fun b hb=>.inl ((MO.put hk).1 hb)⟩⟩
 ·rw [zAy] at hi
  by_cases e:k=i
  ·subst e;rw [zAE rfl,zAE (zAS.1 hk).1] at hi;cases hi;obtain ⟨p,hp,hr⟩:=R.hr.obj k o hk;exact ⟨p,hp,hO P _ w ρ p (hr.out O (S:=fun _=>False) (AP.refl _ _) (fun _ h=>h.elim) fun _ _ _ h=>h)⟩
  ·rw [zAU e] at hi;obtain ⟨p,hp,hr⟩:=R.hr.obj i x hi;exact ⟨p,hp,hr.out O (S:=fun _=>False) (AP.refl _ _) (fun _ h=>h.elim) fun _ _ _ h=>h⟩
 ·obtain ⟨y,e,_⟩:=back g1;exact R.hr.cel i y p b e g2 g3
 ·obtain ⟨y1,e1,_⟩:=back g1;obtain ⟨y2,e2,_⟩:=back g2;exact R.hr.dis i i' y1 y2 p1 p2 b Am e1 e2 g3 g4 g5 g6
inductive Fz where
 | frz (k:Nat)
 | arr (k n:Nat) (f:Nat -> Nat -> DV)
 | unf (k:Nat)
 | rws
def oA (k n':Nat) (f':Nat -> Nat -> DV) (S:St):Option (St×List Prop):=match S.h.getD k none with
 | some (.arr m n f)=>some (⟨S.fr,S.h.set k (some (.arr m n' f'))⟩,[n=n'/\ ∀ i j,i<n -> j<m -> AR (f i j) (f' i j)])
 | _=>none
def Wx:Fz -> St -> Option (St×List Prop)
 | .frz k,S=>TS k S
 | .arr k n f,S=>oA k n f S
 | .unf k,S=>match S.h.getD k none with
  | some (.mo (.rows f (some (_,_,false))))=>some (⟨S.fr,S.h.set k (some (.mo (.rows f none)))⟩,[])
  | _=>none
 | .rws,_=>none
theorem EY.unf {w:World} {p:AI} {f:Int -> List Int} {x:Int} {L:List Int} {u:Value} {es:Array MapEntry} {Ab:Nat} (h:EY w p f (some (x,L,false)) u es Ab):EY w p f none u es Ab:=
 { h with
  key:=fun e he=>let ⟨k,h1,h2⟩:=h.key e he;⟨k,h1,fun _=>h2 fun L e=>by cases e⟩
  inHand:=fun k L g e=>by cases e }
theorem getD_some {h:DH} {k:Nat} {o:DO} (ho:h.getD k none=some o):h[k]? =some (some o):=by
 rw [u8] at ho;cases hx:h[k]? with
 | none=>rw [hx] at ho;cases ho
 | some x=>rw [hx] at ho;exact congrArg some ho
theorem Dx.fz {S:St} (z:Fz) (S':St) (vs:List Prop) (h:Wx z S=some (S',vs)) (hv:Bc vs):Dx S S':=by
 cases z with
 | frz k=>exact Dx.frzE k S' vs h hv
 | arr k n' f'=>
  simp only [Wx,oA] at h;split at h
  ·rename_i m n f ho;cases h;obtain ⟨⟨rfl,hd⟩,_⟩:=hv;refine Dx.obj (getD_some ho) fun P M w ρ p hr=>?_
   refine AX.out hr rfl fun j u hj hu=>?_
   have hm:0<m:=by
    rcases zFE m with e | e
    ·subst e;omega
    ·exact e
   exact hd _ _ ((zE1 hm).2 hj) (zGD _ hm) M w [] u hu
  ·cases h
 | unf k=>
  simp only [Wx] at h;split at h
  ·rename_i f x L ho;cases h;exact Dx.obj (getD_some ho) fun P M w ρ p ⟨u,es,Ab,hA⟩=>⟨u,es,Ab,hA.unf⟩
  ·cases h
 | rws=>cases h
def TQ:List (Nat×Fz) -> Option Nat -> St -> Option (St×List Prop×List (Nat×Fz))
 | [],_,S=>some (S,[],[])
 | (t,z)::rest,dst,S=>if dst=some t then match Wx z S with
  | some (S',vs)=>match TQ rest dst S' with
   | some (CH,Bj,r)=>some (CH,vs++Bj,r)
   | none=>none
  | none=>none
  else some (S,[],(t,z)::rest)
theorem Wy: ∀ (l:List (Nat×Fz)) {dst:Option Nat} {S S':St} {vs:List Prop} {r:List (Nat×Fz)},TQ l dst S=some (S',vs,r) -> Bc vs -> Dx S S'
 | [],dst,S,S',vs,r,h,_=>by cases h;exact Dx.refl S
 | (t,z)::rest,dst,S,S',vs,r,h,hv=>by
  simp only [TQ] at h;split at h
  ·split at h
   ·rename_i S1 CG h1;split at h
    ·rename_i S2 Dq r2 h2;cases h;obtain ⟨B0,B7⟩:=Cv.1 hv;exact (Dx.fz z S1 CG h1 B0).trans (Wy rest h2 B7)
    ·cases h
   ·cases h
  ·cases h;exact Dx.refl S
abbrev RN {α:Type} [Inhabited α] (enc:α -> Nat -> DV) (L:List α):Nat -> Nat -> DV:=fun i j=>enc (L.getD i default) j
theorem gv {α:Type} [Inhabited α] {enc:α -> Nat -> DV} {L L':List α} {n m c:Nat} {g:Nat -> Nat -> DV} (hn:n=L.length) (hc:c=L'.length) (hg: ∀ i j,i<c -> j<m -> AR (g i j) (RN enc L' i j)):n+c=(L++L').length/\ ∀ i j,i<n+c -> j<m -> AR (if i<n then RN enc L i j else g (i-n) j) (RN enc (L++L') i j):=by
 subst hn;subst hc;refine ⟨by simp,fun i j hi hj=>?_⟩;simp only [RN,u8] at hg ⊢
 by_cases h:i<L.length
 ·rw [zAE h,zAb h];exact fun _ _ _ _ h=>h
 ·rw [zAU h,zAd (by omega)];exact hg _ j (by omega) hj
theorem A5 {d:DV}:AR d d:=fun _ _ _ _ h=>h
theorem ur {l:List DV} {m:Nat} (hl:l.all IR=true) (hm:m=l.length): ∀ j,j<m -> IR (l.getD j .any)=true:=fun j hj=>by
 subst hm;rw [u8,zAM hj];exact zAT.1 hl _ (zA7 hj)
def MP:List DV -> List DV -> Prop
 | [],[]=>True
 | d::ds,e::es=>AR d e/\ MP ds es
 | _,_=>False
theorem UG: ∀ {l l':List DV},MP l l' -> l.length=l'.length/\ ∀ j,j<l.length -> AR (l.getD j .any) (l'.getD j .any)
 | [],[],_=>⟨rfl,fun j hj=>absurd hj (zAo j)⟩
 | d::ds,e::es,⟨h1,h2⟩=>by
  obtain ⟨q1,q2⟩:=UG h2;refine ⟨by simp [q1],fun j hj=>?_⟩;cases j with
  | zero=>exact h1
  | succ j=>exact q2 j (by simpa using hj)
 | [],_::_,h=>h.elim
 | _::_,[],h=>h.elim
theorem zDq {l l':List DV} (h:MP l l') (j:Nat):AR (l.getD j .any) (l'.getD j .any):=by
 obtain ⟨h1,h2⟩:=UG h
 by_cases hj:j<l.length
 ·exact h2 j hj
 ·rw [u8,u8,zEV (by omega),zEV (by omega)];exact A5
def Y6:List DV -> List (List DV) -> Prop
 | [],[]=>True
 | v::vs,c::cs=>(∃ l,Ii v=some l/\ MP l c)/\ Y6 vs cs
 | _,_=>False
theorem gy: ∀ {vs:List DV} {cs:List (List DV)},Y6 vs cs -> vs.length=cs.length/\ ∀ i,i<vs.length -> ∃ l,Ii (vs.getD i .any)=some l/\ MP l (cs.getD i [])
 | [],[],_=>⟨rfl,fun i hi=>absurd hi (zAo i)⟩
 | v::vs,c::cs,⟨h1,h2⟩=>by
  obtain ⟨q1,q2⟩:=gy h2;refine ⟨by simp [q1],fun i hi=>?_⟩;cases i with
  | zero=>exact h1
  | succ i=>exact q2 i (by simpa using hi)
 | [],_::_,h=>h.elim
 | _::_,[],h=>h.elim
theorem Fj {α:Type} [Inhabited α] {c:α -> List DV} {L:List α} {vals:List DV} {m n:Nat} (hn:n=vals.length) (h:Y6 vals (L.map c)):n=L.length/\ ∀ i j,i<n -> j<m -> AR (match Ii (vals.getD i .any) with | some l=>l.getD j .any | none=>.any) (RN (fun x j=>(c x).getD j .any) L i j):=by
 subst hn;obtain ⟨h1,h2⟩:=gy h;rw [zAq] at h1;refine ⟨h1,fun i j hi _=>?_⟩;obtain ⟨l,e,hl⟩:=h2 i hi;rw [e];have:(L.map c).getD i []=c (L.getD i default):=by simp [u8,h1▸hi]
 rw [this] at hl;exact zDq hl j
end
end Go.Proofs.YtkjbblkieglmlaaGreatDoor
