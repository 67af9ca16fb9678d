/- Part 1 of 6 of what the proofs of these laws stand on. -/
import Derived.WalkKit
import Derived.WalkSpells
import Derived.WalkLawsBesides
import Derived.Lib.Hide
import Derived.OrdersHeld
import Derived.Deep.RegionHeld
import Derived.BigQuiet
import Derived.OrdersIn
import Derived.TacticsIn
import Derived.RangeFuncOwn
import Derived.RangeFuncNested
import Derived.RangeFuncCalls
import Derived.Laws.IdiomRangeMap
import Derived.Laws.Cells
import Derived.Laws.Cover3
import Derived.Laws.StructEq
import Derived.ChangeKeysEq
import Derived.RowKit
import Derived.Deep.AppendSrc
import Derived.Laws.MakeOwn
import Derived.Great.BuildSlice
import Derived.Sort.LoopGhostIn
import Derived.MapKept
set_option linter.all false
namespace Go.Proofs.YtgkhhfnhacibcaaGreatDoor
abbrev yS:=@Nat.le_refl
abbrev zY:=@Go.World.block_lt_of_cell?
end Go.Proofs.YtgkhhfnhacibcaaGreatDoor
namespace Go.Proofs.YtgkhhfnhacibcaaGreatDoor
open Go.RowKit
def At (w w':World):Prop:=Below w.heap.size w w'
theorem At.refl (w:World):At w w:=Below.refl _ _
theorem At.trans {a b c:World} (h:At a b) (k:At b c):At a c:=Below.trans h (Below.mono k h.size)
theorem At.alloc (w:World) (o:Obj):At w (w.alloc o):=(Below.refl _ _).alloc (yS _) o
theorem At.allocR {w w':World} (h:At w w') (o:Obj):At w (w'.alloc o):=h.trans (At.alloc w' o)
theorem At.drewR {w w':World} (h:At w w'):At w w'.drew:=Below.drew h
theorem At.size {w w':World} (h:At w w'):w.heap.size<=w'.heap.size:=Below.size h
theorem At.cells {w w':World} (h:At w w'): ∀ b o,b<w.heap.size -> w'.cell? ⟨b,o,none⟩=w.cell? ⟨b,o,none⟩:=
 fun b o hb=>Below.cell h (p:=⟨b,o,none⟩) hb
theorem At.cell {w w':World} (h:At w w') {b o:Nat} {u:Value} (hc:w.cell? ⟨b,o,none⟩=some u):w'.cell? ⟨b,o,none⟩=some u:=by
 rw [h.cells b o (zY w ⟨b,o,none⟩ hc)];exact hc
def Ez (b:Bool) (e:Int):Int:=if b then 0 else e
theorem vU (e:Int):Ez true e=0:=rfl
structure AB where
 kind:Int
 cells:List Int
 set:Int
 other:Int
 lo:Int
 hi:Int
 runs:List Int
 rule:Int
 spot:Int
 deriving DecidableEq,Inhabited
structure AA where
 cells:Int
 symbols:Int
 values:List Int
 nbrs:List (List Int)
 cons:List AB
 deriving DecidableEq,Inhabited
end Go.Proofs.YtgkhhfnhacibcaaGreatDoor
namespace Go.Proofs.YtgkhhfnhacibcaaGreatDoor
abbrev xw:=@if_pos
abbrev yD:=@Bool.and_eq_true
abbrev yH:=@Option.some.inj
abbrev yK:=@if_neg
abbrev yT:=@Go.Sem.run_bind
abbrev yX:=@Bool.or_eq_true
abbrev yo:=@beq_iff_eq
abbrev yt:=@Bool.false_eq_true
abbrev zb:=@Nat.lt_or_ge
abbrev zAf:=@Go.mem_ready
abbrev zAs:=@Array.getElem?_eq_none
end Go.Proofs.YtgkhhfnhacibcaaGreatDoor
namespace Go.Proofs.YtgkhhfnhacibcaaGreatDoor
open Go.RowKit
def Pc:Op -> Bool
 | .move _ | .assign _ | .pick .. | .load .. | .binOp .. | .unOp .. | .convert .. | .makeFunc .. | .slice .. | .fieldAddr .. | .field .. | .indexAddr .. | .index .. | .extract .. | .build .. | .lookup .. | .makeInterface .. | .nilCheck _=>true
 | .call c=>match c.callee with
  | .builtin .len | .builtin .cap | .builtin .min | .builtin .max=>true
  | _=>false
 | _=>false
theorem U9 {P:Program} {w w':World} {α:Type} {s:Sem α} {f:α -> Value} {n:Next} (h:(s>>=fun x=>(pure (.value (f x)):Sem Next)).run P w= .ok n w'): ∃ v,n= .value v:=by
 rw [yT] at h;cases hs:s.run P w with
 | ok v w1=>rw [hs] at h;simp only [Result.andThen] at h;cases h;exact ⟨_,rfl⟩
 | halt x w1=>rw [hs] at h;simp only [Result.andThen] at h;cases h
theorem nU {P:Program} {ρ:Operand -> Value} {o:Oper} {w w':World} {n:Next} (hp:Pc o.op=true) (h:(execOp ρ o).run P w= .ok n w'): ∃ v,n= .value v:=by
 unfold execOp at h;cases ho:o.op <;> rw [ho] at hp h <;> simp only [Pc,yt] at hp
 all_goals first | exact U9 (f:=fun x=>x) h | (cases h;exact ⟨_,rfl⟩) | skip
 ·rename_i c x y;exact U9 (s:=asBool (ρ c)) (f:=fun b=>if b then ρ x else ρ y) h
 ·rename_i x
  have hb: ∀ {α:Type} (s:Sem α) (f:α -> Sem Next) (w0:World),(∀ a w1,(f a).run P w1= .ok n w' -> ∃ v,n= .value v) -> (s>>=f).run P w0= .ok n w' -> ∃ v,n= .value v:=by
   intro α s f w0 hf hr;rw [yT] at hr;cases hs:s.run P w0 with
   | ok v w1=>rw [hs] at hr;exact hf _ _ hr
   | halt x w1=>rw [hs] at hr;simp only [Result.andThen] at hr;cases hr
  have Tj:(runtimePanic .nilDeref:Sem Next).run P w= .ok n w' -> ∃ v,n= .value v:=by
   intro he;unfold runtimePanic at he;refine hb _ _ _ ?_ he;intro a w1 h1;cases h1
  simp only at h;split at h
  ·exact Tj h
  ·exact Tj h
  ·exact Tj h
  ·split at h
   ·exact Tj h
   ·refine hb _ _ _ ?_ h;intro p w1 h1;refine hb _ _ _ ?_ h1;intro q w2 h2;split at h2
    ·refine hb _ _ _ ?_ h2;intro r w3 h3;cases h3;exact ⟨_,rfl⟩
    ·cases h2;exact ⟨_,rfl⟩
   ·cases h;exact ⟨_,rfl⟩
  ·cases h;exact ⟨_,rfl⟩
 ·rename_i c;replace h:((resolve ρ c o.type)>>=fun d=>invoke d.target d.args).run P w= .ok n w':=h;rw [yT] at h;unfold resolve at h;cases hc:c.callee with
  | value f=>rw [hc] at hp;simp at hp
  | invoke r m=>rw [hc] at hp;simp at hp
  | builtin b=>
   rw [hc] at hp h;have e: ∀ d:Deferred,(pure d:Sem Deferred).run P w= .ok d w:=fun _=>rfl
   simp only [e,Result.andThen] at h;unfold invoke at h;cases b <;> simp at hp <;> exact U9 (f:=fun x=>x) h
structure RU (w:World) where
 W:World
 le:At w W
def Oa (w:World):World -> Prop:=fun w'=>∃ x:RU w,w'=x.W
theorem Oa.iff {w w':World}:Oa w w'↔At w w':=⟨fun ⟨x,e⟩=>e▸x.le,fun h=>⟨⟨w',h⟩,rfl⟩⟩
theorem At.toDrew (w:World):At w w.drew:=At.drewR (At.refl w)
section
variable {P:Program} {ops:Array Oper} {Q:Exit -> Act -> World -> Prop}
theorem iN {w:World} {o:Oper} {a:Act} {v:Value} (hp:Pc o.op=true) (hw:Region.wanted o (yielded ops a.tmps)=true)
 (h: ∀ w',Oa w w' -> o.quietAt P a (Oa w) w' v):YieldsIf P ops (At w) o v a:=by
 refine .inl ⟨hw,fun w' hE=>?_⟩;have:=h w' (Oa.iff.2 hE);unfold Oper.quietAt at this;cases hr:(execOp a.eval o).run P w' with
 | halt x w1=>rw [hr] at this;simp [Oper.quietUpon] at this
 | ok n w1=>
  obtain ⟨u,rfl⟩:=nU hp hr;rw [hr] at this;obtain ⟨rfl,rfl⟩:=this;rfl
def NP (Q:Exit -> Act -> World -> Prop):Exit -> Act -> World -> Prop
 | .panic _,_,_=>False
 | e,a,w=>Q e a w
theorem NP.put (c:List PanicEntry) (a:Act) (d:Option Tmp) (v:Value) (w:World) (h:NP Q (.panic c) (a.put d v) w):NP Q (.panic c) a w:=h.elim
def Fh (ops:Array Oper) (AY:Array Bool):Prop:=∀ (j:Nat) (oj:Oper),ops[j]? =some oj -> AY.getD j false=true -> ∀ e∈oj.after,Region.binds .any e=true -> AY.getD e.on false=true
theorem Fh.set {AY:Array Bool} {i:Nat} (h:Fh ops AY) (hi:i∈Region.ready .any ops AY):Fh ops (AY.setIfInBounds i true):=by
 obtain ⟨_,oi,tL,HL⟩:=zAf.1 hi;intro j oj hj hl e he hb
 by_cases Nw:i=j
 ·subst Nw;have:oj=oi:=yH (hj.symm.trans tL);subst this;exact getD_set_true (HL e he hb)
 ·rw [getD_set_ne false Nw] at hl;exact getD_set_true (h j oj hj hl e he hb)
def Fj (ops:Array Oper):Nat -> Nat -> Nat -> Bool
 | 0,_,_=>false
 | n+1,t,i=>match ops[t]? with
  | none=>false
  | some o=>o.after.any fun e=>Region.binds .any e&&(e.on==i||Fj ops n e.on i)
theorem U8 {AY:Array Bool} (hc:Fh ops AY): ∀ (n t i:Nat) (o:Oper),ops[t]? =some o -> (∀ e∈o.after,Region.binds .any e=true -> AY.getD e.on false=true) -> Fj ops n t i=true -> AY.getD i false=true
 | 0,_,_,_,_,_,h=>by simp [Fj] at h
 | n+1,t,i,o,ho,HL,h=>by
  simp only [Fj,ho] at h;obtain ⟨e,he,hb⟩:=Array.any_eq_true'.1 h;simp only [yD,yX,yo] at hb;obtain ⟨hb,h1 | h1⟩:=hb
  ·rw [←h1];exact HL e he hb
  ·cases Xk:ops[e.on]? with
   | none=>cases n <;> simp [Fj,Xk] at h1
   | some o2=>exact U8 hc n e.on i o2 Xk (hc e.on o2 Xk (HL e he hb)) h1
theorem T7 {AY:Array Bool} {i:Nat} (h:AY.getD i true=false):AY.getD i false=false:=by
 rcases zb i AY.size with h' | h'
 ·simp [h'] at h ⊢;exact h
 ·simp [zAs h'] at h
def FB (ops:Array Oper):List Nat -> List Oper
 | []=>[]
 | i::l=>match ops[i]? with | some o=>o::FB ops l | none=>FB ops l
def O3 (ops:Array Oper) (Cc:Nat -> Bool):List Nat -> Array Bool -> Bool
 | [],_=>true
 | i::l,AY=>(Region.ready .any ops AY).contains i&&Region.free .any ops AY i&&(match ops[i]? with | some o=>Pc o.op | none=>false)&&
  ((List.range ops.size).all fun j=>!Cc j||Fj ops ops.size j i)&&O3 ops Cc l (AY.setIfInBounds i true)
def JM (l:List Nat) (AY:Array Bool):Array Bool:=l.foldl (fun s i=>s.setIfInBounds i true) AY
def Ol (ops:Array Oper):List Nat -> Array Bool -> Bool
 | [],AY=>(Region.ready .any ops AY).isEmpty
 | t::ts,AY=>Region.ready .any ops AY== [t]&&Ol ops ts (AY.setIfInBounds t true)
def O4 (ops:Array Oper) (Cc:Nat -> Bool):List (List Nat×Nat) -> List Nat -> List Nat -> Array Bool -> Bool
 | [],BZ,tail,AY=>O3 ops Cc BZ AY&&((List.range ops.size).all fun j=>Cc j||(JM BZ AY).getD j true)&&Ol ops tail (JM BZ AY)
 | (CY,i)::EW,BZ,tail,AY=>O3 ops Cc CY AY&&(Region.ready .any ops (JM CY AY)== [i])&&O4 ops Cc EW BZ tail ((JM CY AY).setIfInBounds i true)
def Nz:List (List Nat×Nat) -> List Nat -> Nat
 | [],BZ=>BZ.length
 | (CY,_)::EW,BZ=>CY.length+(1+Nz EW BZ)
def VV (ops:Array Oper) (EB:List (List Nat×Nat)) (BZ tail:List Nat):Bool:=
 Region.noSelect ops&&Nz EB BZ+tail.length==ops.size&&O4 ops (fun j=>tail.contains j) EB BZ tail (Array.replicate ops.size false)
theorem U3 {C:World -> Prop}: ∀ (l:List Oper) (a:Act) (K K':Act -> Prop),(∀ a,K a -> K' a) -> wpQuiet P ops C K l a -> wpQuiet P ops C K' l a
 | [],a,K,K',hk,h=>hk a h
 | o::l,a,K,K',hk,h=>by
  unfold wpQuiet at*
  by_cases hw:Region.wanted o (yielded ops a.tmps)=true
  ·rw [xw hw] at h ⊢;exact Oper.quiet_mono (fun a h=>U3 l a K K' hk h) h
  ·rw [yK hw] at h ⊢;exact U3 l _ K K' hk h
end
end Go.Proofs.YtgkhhfnhacibcaaGreatDoor
namespace Go.Proofs.YtgkhhfnhacibcaaGreatDoor
abbrev xz:=@Array.getElem?_eq_some_iff
abbrev yJ:=@List.all_eq_true
abbrev yR:=@List.mem_range
abbrev yU:=@Nat.zero_add
abbrev yZ:=@List.mem_singleton
abbrev yh:=@Array.getElem?_eq_getElem
abbrev zD:=@List.length_nil
abbrev zS:=@if_true
abbrev zy:=@Array.mem_of_getElem?
abbrev z7:=@if_false
abbrev zAP:=@Go.Oper.semAt_eq
abbrev zAY:=@Go.wpOpIn_mono
abbrev zAg:=@Go.Act.put_comm
abbrev zAh:=@Ne.symm
end Go.Proofs.YtgkhhfnhacibcaaGreatDoor
namespace Go.Proofs.YtgkhhfnhacibcaaGreatDoor
open Go.RowKit
def Dl (ops:Array Oper):Bool:=ops.all fun o=>match o.op with
 | .defer _=>false
 | _=>true
theorem Hr {ops:Array Oper} (h:Dl ops=true) {j:Nat} {o:Oper} (hj:ops[j]? =some o): ∀ c,o.op≠.defer c:=by
 intro c hc;have hm:o∈ops:=zy hj;have:=Array.all_eq_true'.1 h o hm;rw [hc] at this;cases this
section
variable {F:Fence} {n:Nat} {P:Program} {ops:Array Oper} {Q:Exit -> Act -> World -> Prop}
theorem Rb {S:World -> Prop} {i:Nat} {o:Oper} {v:Value} {a:Act} (hF: ∀ f,F.fn f) (hd: ∀ c,o.op≠.defer c) (hi:ops[i]? =some o) (hy:YieldsIf P ops S o v a)
 {K:Act -> World -> Prop} {w:World} (hS:S w) (h:K (a.put o.dst v) w):wpOpIn F n P ops Q i K a w:=by
 unfold Go.wpOpIn;simp only [hi];rcases hy with ⟨hw,hv⟩ | ⟨hw,rfl⟩
 ·simp only [hw,zS,Oper.wpIn,zAP _ _ _ hd,hv w hS,Oper.uponIn];exact ⟨fun f _=>hF f,h⟩
 ·simp only [hw,yt,z7];exact ⟨fun f _=>hF f,h⟩
theorem ZC {S:World -> Prop} {j:Nat} {oi oj:Oper} {v:Value} (hF: ∀ f,F.fn f) (eL: ∀ c,oj.op≠.defer c) (hj:ops[j]? =some oj) (Xx:oi.apart ops oj=true)
 (rS: ∀ cs b,oi.op≠.select cs b) (rR: ∀ cs b,oj.op≠.select cs b)
 (hQ: ∀ c a w,Q (.panic c) (a.put oi.dst v) w -> Q (.panic c) a w) {K:Act -> World -> Prop} {a:Act} {w:World}
 (hy:YieldsIf P ops S oi v a) (h:wpOpIn F n P ops Q j K (a.put oi.dst v) w):
 wpOpIn F n P ops Q j (fun a' w'=>YieldsIf P ops S oi v a'/\ K (a'.put oi.dst v) w') a w:=by
 obtain ⟨h1,h2,h3⟩:=Oper.apart_spec Xx
 have F1: ∀ (a:Act),YieldsIf P ops S oi v a -> ∀ u,YieldsIf P ops S oi v (a.put oj.dst u):=fun a hy u=>
  hy.of_same (execOp_put oi rS a oj.dst u h3) (wanted_put oi a oj.dst u h3)
 have qO: ∀ d,YieldsIf P ops S oi v { a with defers:=d::a.defers }:=fun d=>hy.of_same rfl rfl
 unfold wpOpIn at*;simp only [hj] at*;rw [wanted_put oj a oi.dst v h1] at h;split
 ·rename_i hw;simp only [hw,zS] at h;unfold Oper.wpIn at*;refine ⟨fun f _=>hF f,?_⟩;have h:=h.2;rw [zAP _ _ _ eL,execOp_put oj rR a oi.dst v h1] at h;rw [zAP _ _ _ eL]
  generalize (execOp a.eval oj).run P w=r at*
  cases r with
  | ok x w'=>
   cases x <;> simp only [Oper.uponIn] at h ⊢
   case value u=>exact ⟨F1 a hy u,by rw [←zAg a v u h2];exact h⟩
   case skip=>exact ⟨F1 a hy _,by rw [←zAg a v undef h2];exact h⟩
   case defer d=>
    refine ⟨F1 _ (qO d) _,?_⟩;rw [←zAg _ v undef h2,←Act.put_defers];exact h
   case enter f args=>
    refine ⟨h.1,CallsIn.mono h.2 fun e B7 he=>?_⟩;cases e with
    | returned u=>exact ⟨F1 a hy u,by rw [←zAg a v u h2];exact he⟩
    | panicked c=>exact hQ _ _ _ he
    | outgrown=>exact he
   case row row args=>exact ⟨h.1,RowsIn.mono h.2 fun u B7 he=>⟨F1 a hy u,by rw [←zAg a v u h2];exact he⟩⟩
   case round l f tmps assign body=>
    refine ⟨h.1,RoundIn.mono h.2 fun e B7 he=>?_⟩;cases e with
    | returned u=>exact ⟨F1 a hy u,by rw [←zAg a v u h2];exact he⟩
    | panicked c=>exact hQ _ _ _ he
    | outgrown=>exact he
  | halt x w'=>
   cases x <;> simp only [Oper.uponIn] at h ⊢
   case panic u=>exact hQ _ _ _ h
 ·rename_i hw;simp only [hw] at h;exact ⟨fun f _=>hF f,F1 a hy _,by rw [←zAg a v undef h2];exact h.2⟩
theorem ZD {i:Nat} {K:Act -> World -> Prop} {a:Act} {w:World} (h:wpOpIn F n P ops (NP Q) i K a w):wpOpIn F n P ops Q i K a w:=by
 unfold wpOpIn at*;split
 ·rename_i ho;simp only [ho] at h;exact h
 ·rename_i o ho;simp only [ho] at h;have hl:LetsOut (NP Q) -> LetsOut Q:=fun ⟨a,w,h⟩=>⟨a,w,h⟩
  by_cases hw:Region.wanted o (yielded ops a.tmps)=true
  ·rw [xw hw] at h ⊢;unfold Oper.wpIn at*;refine ⟨h.1,?_⟩;have h:=h.2
   generalize (o.semAt F.round a.eval).run P w=r at*
   cases r with
   | ok x w'=>
    cases x <;> simp only [Oper.uponIn] at h ⊢ <;> first | exact h | skip
    ·refine ⟨h.1,CallsIn.mono h.2 fun e B7 he=>?_⟩;cases e with
     | returned v=>exact he
     | panicked c=>exact he.elim
     | outgrown=>exact hl he
    ·refine ⟨h.1,RoundIn.mono h.2 fun e B7 he=>?_⟩;cases e with
     | returned v=>exact he
     | panicked c=>exact he.elim
     | outgrown=>exact hl he
   | halt x w'=>cases x <;> simp only [Oper.uponIn] at h ⊢;exact h.elim
  ·rw [yK hw] at h ⊢;exact h
def IP (F:Fence) (n:Nat) (P:Program) (ops:Array Oper) (Q:Exit -> Act -> World -> Prop) (Cc:Nat -> Bool) (g:Nat) (S:World -> Prop):Nat -> Array Bool -> Act -> World -> Prop
 | 0,AY,a,w=>(∀ j,j<ops.size -> Cc j=false -> AY.getD j true=true)/\ wpAnyIn F n P .any ops Q g AY a w
 | m+1,AY,a,w=>Region.ready .any ops AY≠[]/\ ∀ i∈Region.ready .any ops AY,wpOpIn F n P ops (NP Q) i (fun a' w'=>S w'/\ IP F n P ops Q Cc g S m (AY.setIfInBounds i true) a' w') a w
theorem U4 {Cc:Nat -> Bool} {g:Nat} {S S':World -> Prop} (hS: ∀ w,S' w -> S w): ∀ (m:Nat) (AY:Array Bool) (a:Act) (w:World),
 IP F n P ops Q Cc g S' m AY a w -> IP F n P ops Q Cc g S m AY a w
 | 0,_,_,_,h=>h
 | m+1,_,_,_,h=>⟨h.1,fun i hi=>zAY (fun _ _ h'=>⟨hS _ h'.1,U4 hS m _ _ _ h'.2⟩) (h.2 i hi)⟩
theorem ZF {Cc:Nat -> Bool} {g:Nat} {S:World -> Prop}: ∀ (m:Nat) (AY:Array Bool) (a:Act) (w:World),IP F n P ops Q Cc g S m AY a w -> wpAnyIn F n P .any ops Q (m+g) AY a w
 | 0,_,_,_,h=>by rw [yU];exact h.2
 | m+1,_,_,_,h=>by
  rw [show m+1+g=(m+g)+1 by omega];exact ⟨fun h0=>absurd h0 h.1,fun i hi=>zAY (fun a' w' h'=>ZF m _ a' w' h'.2) (ZD (h.2 i hi))⟩
theorem ZE (hF: ∀ f,F.fn f) (BD:Dl ops=true) {Cc:Nat -> Bool} {g:Nat} {S:World -> Prop} {i k:Nat} {oi:Oper} {v:Value} (hi:ops[i]? =some oi) (QV: ∀ (j:Nat) (o:Oper) cs b,ops[j]? =some o -> o.op≠.select cs b)
 (hT: ∀ j,j<ops.size -> Cc j=true -> Fj ops k j i=true):
 ∀ (m:Nat) (AY:Array Bool) (a:Act) (w:World),Fh ops AY ->
  (∀ j oj,ops[j]? =some oj -> j≠i -> AY.getD j true=false -> (∀ e∈oj.after,Region.binds .any e=true -> e.on≠i) -> oi.apart ops oj=true) ->
  i∈Region.ready .any ops AY -> YieldsIf P ops S oi v a -> S w ->
  IP F n P ops Q Cc g S m (AY.setIfInBounds i true) (a.put oi.dst v) w -> IP F n P ops Q Cc g S (m+1) AY a w:=by
 intro m
 induction m with
 | zero=>
  intro AY a w Bj _ hr hy hS H;have MR:=(zAf.1 hr).1;refine ⟨fun h=>(by rw [h] at hr;cases hr),fun j hj=>?_⟩
  by_cases EF:j=i
  ·subst EF;exact Rb hF (Hr BD hi) hi hy hS ⟨hS,H⟩
  ·exfalso
   obtain ⟨Iq,oj,Fc,HL⟩:=zAf.1 hj;have Nv:=(xz.1 Fc).1;cases ht:Cc j with
   | true=>
    have:=U8 Bj k j i oj Fc HL (hT j Nv ht);rw [T7 MR] at this;cases this
   | false=>
    have:=H.1 j Nv ht;rw [getD_set_ne true (zAh EF),Iq] at this;cases this
 | succ m ih=>
  intro AY a w Bj Qe hr hy hS H;have MR:=(zAf.1 hr).1;refine ⟨fun h=>(by rw [h] at hr;cases hr),fun j hj=>?_⟩
  by_cases EF:j=i
  ·subst EF;exact Rb hF (Hr BD hi) hi hy hS ⟨hS,H⟩
  ·have h1:=H.2 j (ready_mono hj EF);obtain ⟨Iq,oj,Fc,HL⟩:=zAf.1 hj
   have XX: ∀ e∈oj.after,Region.binds .any e=true -> e.on≠i:=fun e he hb Xj=>by
    have h1:=HL e he hb;rw [Xj,T7 MR] at h1;cases h1
   have h2:=ZC hF (Hr BD Fc) Fc (Qe j oj Fc EF Iq XX) (fun cs b=>QV i oi cs b hi) (fun cs b=>QV j oj cs b Fc) (fun c a w h=>NP.put c a _ _ w h) hy h1
   have tw: ∀ k ok,ops[k]? =some ok -> k≠i -> (AY.setIfInBounds j true).getD k true=false ->
    (∀ e∈ok.after,Region.binds .any e=true -> e.on≠i) -> oi.apart ops ok=true:=fun k ok hk Qc Hx EE=>by
    refine Qe k ok hk Qc ?_ EE
    by_cases Qd:j=k
    ·subst Qd;exact Iq
    ·rw [getD_set_ne true Qd] at Hx;exact Hx
   refine zAY (fun a' w' h3=>⟨h3.2.1,ih (AY.setIfInBounds j true) a' w' (Bj.set hj) tw (ready_mono hr (zAh EF)) h3.1 h3.2.1 ?_⟩) h2;rw [Array.setIfInBounds_comm _ _ EF];exact h3.2.2
def NC (F:Fence) (n:Nat) (P:Program) (ops:Array Oper) (Q:Exit -> Act -> World -> Prop):List Nat -> Act -> World -> Prop
 | [],a,w=>Q .normal a w
 | t::ts,a,w=>wpOpIn F n P ops Q t (NC F n P ops Q ts) a w
def bw (CY:List Nat) (b w:World):World:=match CY with
 | []=>b
 | _=>w
def Nx (F:Fence) (n:Nat) (P:Program) (ops:Array Oper) (Q:Exit -> Act -> World -> Prop):World -> List (List Nat×Nat) -> List Nat -> List Nat -> Act -> World -> Prop
 | _,[],BZ,tail,a,w=>wpQuiet P ops (fun w'=>∃ x:RU w,w'=x.W) (fun a'=>NC F n P ops Q tail a' w) (FB ops BZ) a
 | b,(CY,i)::EW,BZ,tail,a,w=>wpQuiet P ops (fun w'=>∃ x:RU w,w'=x.W) (fun a'=>wpOpIn F n P ops (NP Q) i (fun FL B7=>At (bw CY b w) B7/\ Nx F n P ops Q (bw CY b w) EW BZ tail FL B7) a' w) (FB ops CY) a
theorem Zj: ∀ (tail:List Nat) (AY:Array Bool) (a:Act) (w:World),Ol ops tail AY=true -> NC F n P ops Q tail a w -> wpAnyIn F n P .any ops Q tail.length AY a w
 | [],AY,a,w,hk,h=>⟨by simpa [Ol] using hk,h⟩
 | t::ts,AY,a,w,hk,h=>by
  simp only [Ol,yD,yo] at hk;refine ⟨fun h0=>(by rw [hk.1] at h0;cases h0),fun i hi=>?_⟩;rw [hk.1,yZ] at hi;subst hi;exact zAY (fun a' w' h'=>Zj ts _ a' w' hk.2 h') h
theorem R6 (hF: ∀ f,F.fn f) (BD:Dl ops=true) {w:World} {Cc:Nat -> Bool} {g:Nat} (hs:Region.noSelect ops=true) {next:Act -> Prop} {m:Nat}:
 ∀ (l:List Nat) (AY:Array Bool) (a:Act),Fh ops AY -> O3 ops Cc l AY=true -> wpQuiet P ops (Oa w) next (FB ops l) a ->
  (∀ a',Fh ops (JM l AY) -> next a' -> IP F n P ops Q Cc g (At w) m (JM l AY) a' w) -> IP F n P ops Q Cc g (At w) (l.length+m) AY a w
 | [],AY,a,Bj,_,h,hn=>by
  simp only [zD,yU];exact hn a Bj h
 | i::l,AY,a,Bj,hk,h,hn=>by
  simp only [O3,yD] at hk;obtain ⟨⟨⟨⟨hr,hf⟩,hp⟩,hT⟩,Cl⟩:=hk;have DC:i∈Region.ready .any ops AY:=by simpa using hr
  have eQ: ∀ j,j<ops.size -> Cc j=true -> Fj ops ops.size j i=true:=fun j hj ht=>by
   have:=yJ.1 hT j (yR.2 hj);simpa [ht] using this
  have eF:(i::l).length+m=(l.length+m)+1:=by simp;omega
  rw [eF];cases hi:ops[i]? with
  | none=>rw [hi] at hp;simp at hp
  | some o=>
   rw [hi] at hp;simp only [FB,hi] at h;unfold wpQuiet at h
   by_cases hw:Region.wanted o (yielded ops a.tmps)=true
   ·rw [xw hw] at h;obtain ⟨v,h1,h2⟩:=h;exact ZE hF BD hi (Region.noSelect_spec hs) eQ _ AY a w Bj (Region.free_spec hi hf) DC (iN hp hw h1) (At.refl _) (R6 hF BD hs l _ _ (Bj.set DC) Cl h2 hn)
   ·rw [yK hw] at h;exact ZE hF BD hi (Region.noSelect_spec hs) eQ _ AY a w Bj (Region.free_spec hi hf) DC (.inr ⟨by simpa using hw,rfl⟩) (At.refl _) (R6 hF BD hs l _ _ (Bj.set DC) Cl h hn)
theorem eJ (hF: ∀ f,F.fn f) (BD:Dl ops=true) {Cc:Nat -> Bool} (hs:Region.noSelect ops=true):
 ∀ (EB:List (List Nat×Nat)) (BZ tail:List Nat) (AY:Array Bool) (a:Act) (b w:World),At b w -> Fh ops AY -> O4 ops Cc EB BZ tail AY=true -> Nx F n P ops Q b EB BZ tail a w ->
  IP F n P ops Q Cc tail.length (At b) (Nz EB BZ) AY a w
 | [],BZ,tail,AY,a,b,w,hb,Bj,hk,h=>by
  simp only [O4,yD] at hk;obtain ⟨⟨h1,h2⟩,h3⟩:=hk
  have:=R6 (m:=0) hF BD hs BZ AY a Bj h1 h (fun a' _ hq=>⟨fun j hj ht=>by
   have:=yJ.1 h2 j (yR.2 hj);simpa [ht] using this,Zj tail _ a' w h3 hq⟩)
  refine U4 (fun W hW=>hb.trans hW) _ _ _ _ ?_;simpa [Nz] using this
 | (CY,i)::EW,BZ,tail,AY,a,b,w,hb,Bj,hk,h=>by
  simp only [O4,yD,yo] at hk;obtain ⟨⟨h1,h2⟩,h3⟩:=hk
  have one: ∀ (a':Act) (b':World),At b' w -> Fh ops (JM CY AY) -> wpOpIn F n P ops (NP Q) i (fun FL B7=>At b' B7/\ Nx F n P ops Q b' EW BZ tail FL B7) a' w ->
   IP F n P ops Q Cc tail.length (At b') (Nz EW BZ+1) (JM CY AY) a' w:=fun a' b' Cd Xr hq=>by
   refine ⟨fun h0=>(by rw [h2] at h0;cases h0),fun j hj=>?_⟩;have BX:=hj;rw [h2,yZ] at hj;subst hj;refine zAY (fun FL B7 h'=>⟨h'.1,?_⟩) hq;exact eJ hF BD hs EW BZ tail _ FL b' B7 h'.1 (Xr.set BX) h3 h'.2
  cases CY with
  | nil=>
   have:=one a b hb Bj h;simpa [Nz,Nat.add_comm,JM] using this
  | cons s0 ss=>
   refine U4 (fun W hW=>hb.trans hW) _ _ _ _ ?_;refine R6 hF BD hs (s0::ss) AY a Bj h1 h fun a' Xr hq=>?_
   rw [Nat.add_comm 1];exact one a' w (At.refl w) Xr hq
theorem iS {id:Nat} {a:Act} {w:World} (hF: ∀ f,F.fn f) (EB:List (List Nat×Nat)) (BZ tail:List Nat) (hm:P.follows .mixedOrders=true) (hB:(VV ops EB BZ tail&&Dl ops)=true)
 (h:Nx F n P ops Q w.drew EB BZ tail a w.drew):(Code.region id ops true).wpIn F n P Q a w:=by
 simp only [VV,yD,yo] at hB;obtain ⟨⟨⟨h1,h2⟩,h3⟩,h4⟩:=hB
 have Bj:Fh ops (Array.replicate ops.size false):=fun j oj _ hl=>by
  exfalso
  rcases zb j ops.size with h | h
  ·simp [h] at hl
  ·simp [h] at hl
 have:=ZF _ _ _ _ (eJ hF h4 h1 EB BZ tail _ a w.drew w.drew (At.refl _) Bj h3 h);rw [h2] at this;exact wpIn_region_any hm this
theorem Zk: ∀ (tail:List Nat) (a:Act) (w:World),(∀ t∈tail,t<ops.size) -> wpListIn F n P ops Q (FB ops tail) a w -> NC F n P ops Q tail a w
 | [],_,_,_,h=>h
 | t::ts,a,w,hl,h=>by
  have ht:ops[t]? =some (ops[t]'(hl t (by simp))):=yh _;simp only [FB,ht] at h;unfold NC wpOpIn;simp only [ht];unfold wpListIn at h;have hm: ∀ a w,wpListIn F n P ops Q (FB ops ts) a w -> NC F n P ops Q ts a w:=fun a w h=>Zk ts a w (fun t ht=>hl t (by simp [ht])) h
  by_cases hw:Region.wanted (ops[t]'(hl t (by simp))) (yielded ops a.tmps)=true
  ·rw [xw hw] at h ⊢;exact Oper.wpIn_mono hm h
  ·rw [yK hw] at h ⊢;exact ⟨h.1,hm _ _ h.2⟩
theorem uB {BZ tail:List Nat} {a:Act} {b w:World} (ht:(tail.all fun t=>decide (t<ops.size))=true)
 (h:wpQuiet P ops (fun w'=>∃ x:RU w,w'=x.W) (fun a'=>wpListIn F n P ops Q (FB ops tail) a' w) (FB ops BZ) a):
 Nx F n P ops Q b [] BZ tail a w:=by
 refine U3 _ _ _ _ (fun a' h=>?_) h;exact Zk tail a' w (fun t h=>by simpa using yJ.1 ht t h) h
end
end Go.Proofs.YtgkhhfnhacibcaaGreatDoor
namespace Go.Proofs.YtgkhhfnhacibcaaGreatDoor
abbrev yM:=@Nat.lt_of_lt_of_le
abbrev yO:=@Nat.le_trans
abbrev yf:=@List.mem_cons
abbrev zF:=@List.mem_of_getElem?
abbrev zO:=@Go.World.putObj_heap_other
abbrev zAC:=@Go.wpIn_mono
abbrev zAr:=@Go.RowKit.Below.block
end Go.Proofs.YtgkhhfnhacibcaaGreatDoor
namespace Go.Proofs.YtgkhhfnhacibcaaGreatDoor
open Go.RowKit
structure AP (S:Nat -> Prop) (w w':World):Prop where
 os:w'.os=w.os
 tape:w'.tape=w.tape
 output:w'.output=w.output
 size:w.heap.size<=w'.heap.size
 block: ∀ k,k<w.heap.size -> ¬ S k -> w'.heap[k]? =w.heap[k]?
theorem AP.refl (S:Nat -> Prop) (w:World):AP S w w:=⟨rfl,rfl,rfl,yS _,fun _ _ _=>rfl⟩
theorem AP.comp {S S':Nat -> Prop} {a b c:World} (h:AP S a b) (k:AP S' b c) (hs: ∀ i,i<a.heap.size -> S' i -> S i):AP S a c:=
 ⟨k.os.trans h.os,k.tape.trans h.tape,k.output.trans h.output,yO h.size k.size,
  fun i hi hn=>(k.block i (yM hi h.size) (fun hx=>hn (hs i hi hx))).trans (h.block i hi hn)⟩
theorem AP.trans {S:Nat -> Prop} {a b c:World} (h:AP S a b) (k:AP S b c):AP S a c:=h.comp k fun _ _ h=>h
theorem AP.mono {S S':Nat -> Prop} {a b:World} (h:AP S a b) (hs: ∀ i,i<a.heap.size -> S i -> S' i):AP S' a b:=
 ⟨h.os,h.tape,h.output,h.size,fun i hi hn=>h.block i hi fun hx=>hn (hs i hi hx)⟩
theorem AP.ofExt {S:Nat -> Prop} {a b:World} (h:At a b):AP S a b:=⟨Below.os h,Below.tape h,Below.output h,Below.size h,fun i hi _=>zAr h i hi⟩
theorem AP.toExt {S:Nat -> Prop} {a b:World} (h:AP S a b) (hs: ∀ i,i<a.heap.size -> ¬ S i):At a b:=⟨h.os,h.tape,h.output,h.size,fun i hi=>h.block i hi (hs i hi)⟩
theorem AP.alloc {S:Nat -> Prop} {a b:World} (h:AP S a b) (o:Obj):AP S a (b.alloc o):=h.trans (AP.ofExt (At.alloc b o))
theorem AP.setCell {S:Nat -> Prop} {a b:World} (h:AP S a b) {p:Addr} (hp:p.block<a.heap.size -> S p.block) (u:Value):AP S a (b.setCell p u):=by
 refine h.comp (S':=fun k=>k=p.block) ⟨rfl,rfl,rfl,?_,fun k _ hk=>?_⟩ (fun i hi e=>by cases e;exact hp hi)
 ·show b.heap.size<=(b.heap.modify _ _).size
  rw [Array.size_modify];exact yS _
 ·exact Below.heap_setCell b p u k hk
theorem AP.putObj {S:Nat -> Prop} {a b:World} (h:AP S a b) {l:Nat} (hl:l<a.heap.size -> S l) (o:Obj):AP S a (b.putObj l o):=by
 refine h.comp (S':=fun k=>k=l) ⟨rfl,rfl,rfl,by simp,fun k _ hk=>zO hk⟩ (fun i hi e=>by cases e;exact hl hi)
theorem AP.cell {S:Nat -> Prop} {a b:World} (h:AP S a b) {p:Addr} {u:Value} (hs: ¬ S p.block) (hc:a.cell? p=some u):b.cell? p=some u:=by
 rw [World.cell?_of_block (h.block p.block (zY a p hc) hs)];exact hc
def Eg (I:(Nat -> Prop) -> World -> Prop):Prop:=
 ∀ (G G':Nat -> Prop) (A B:World),I G A -> AP G A B -> (∀ k,G' k -> G k∨A.heap.size<=k) -> (∀ k,G' k -> k<B.heap.size) -> I G' B
def SI (Keep:Nat -> Prop) (I:World -> Prop) (Ix:Code -> World -> Prop) (W:World):Exit -> Act -> World -> Prop
 | .normal,_,W'=>AP (fun k=>¬ Keep k) W W'/\ I W'
 | .ret,_,W'=>AP (fun k=>¬ Keep k) W W'/\ Ix .ret W'
 | .exit id,_,W'=>AP (fun k=>¬ Keep k) W W'/\ Ix (.exit id) W'
 | .goto t,_,W'=>AP (fun k=>¬ Keep k) W W'/\ Ix (.goto t) W'
 | .panic _,_,_=>False
 | .outgrown,_,_=>False
def IM (P:Program) (g:Nat) (lb:Array Value) (encs:List (Array Value)) (G0 Rd:Nat -> Prop) (w:World):Prop:=
 ∀ (l:Nat) (J:Nat -> (Nat -> Prop) -> World -> Prop) (Jx:(Nat -> Prop) -> World -> Prop) (G:Nat -> Prop) (W:World),
  (∀ i,Eg (J i)) -> Eg Jx -> AP (fun k=>¬ (G0 k∨Rd k)) w W -> (∀ k,G0 k -> G k) -> (∀ k,G k -> k<W.heap.size) ->
  (∀ i args G W1,encs[i]? =some args -> J i G W1 -> YieldAt Fence.wide 0 P l args W1 fun e W'=>
   AP (fun k=>¬ (G k∨Rd k)) W1 W'/\ ((e= .returned (.bool true)/\ J (i+1) G W')∨(e= .returned (.bool false)/\ Jx G W'))) ->
  J 0 G W ->
  CallsIn Fence.wide 0 P g (#[.func (.yield l) #[] #[]]++lb) W fun e W'=>(∃ v,e= .returned v)/\ ((∃ G',J encs.length G' W')∨(∃ G',Jx G' W'))
section
variable {P:Program}
theorem bJ {ps:Array Tmp} {assign body:Code} {a:Act} {gf:Nat} {lb:Array Value} {encs:List (Array Value)} {G0 Rd:Nat -> Prop} {w0 W1:World} {l D dd:Nat} {fn:FuncId} {loose:Bool}
 (hseq:IM P gf lb encs G0 Rd w0) (Xw:AP (fun k=>¬ (G0 k∨Rd k)) w0 W1) (Iw: ∀ k,G0 k -> k<l/\ k≠D) (Iu: ∀ k,Rd k -> k≠l) (Dp: ∀ x∈encs,x.size=ps.size)
 (CM:LoopState -> Option Code -> Loop) (Eu: ∀ st pe,CM st pe= { state:=st,pending:=pe,fn,tmps:=a.tmps,params:=ps,assign,body,defers:=dd })
 (Ey:W1.heap[l]? =some (.loop (CM .ready none))) (ug:loose=false -> W1.heap[D]? =some (.deferred (some []))) (d3:D≠l)
 (I:Nat -> (Nat -> Prop) -> World -> Prop) (Ix:Code -> (Nat -> Prop) -> World -> Prop) (hI: ∀ i,Eg (I i)) (Iv: ∀ c,Eg (Ix c)) (own:Nat -> Prop) (XU: ∀ k,own k -> k=l∨(loose=false/\ k=D)) (MM:own l) (Tm:loose=false -> own D)
 (h0:I 0 (fun k=>G0 k∨own k) W1)
 (DR: ∀ (G:Nat -> Prop) (i:Nat) (x:Array Value) (W:World),encs[i]? =some x -> I i G W -> (∃ r,W.heap[l]? =some (.loop r)) -> G l ->
  assign.wpIn (Fence.wide.inRound l) 0 P (Exit.then (fun a₁ W₁=>∃ K:(Nat -> Prop) -> World -> Prop,Eg K/\ AP (fun k=>¬ (G k∨Rd k)) W W₁/\ K G W₁/\ ∀ W₂,K G W₂ -> (∃ r,W₂.heap[l]? =some (.loop r)) ->
   body.wpIn (Fence.wide.inRound l) 0 P (SI (fun k=>G k∨Rd k) (I (i+1) G) (fun c=>Ix c G) W₂) a₁ W₂) (fun _ _ _=>False)) { tmps:=(ps.zip x).foldl (fun t (p,v)=>t.setIfInBounds p v) a.tmps,defers:=[] } W):
 CallsIn Fence.wide 0 P gf (#[.func (.yield l) #[] #[]]++lb) W1 fun e W2=>(∃ v,e= .returned v)/\
  ((∃ G,I encs.length G W2/\ (∀ k,G k -> k<W2.heap.size)/\ G l/\ (loose=false -> G D)/\ W2.heap[l]? =some (.loop (CM .ready none))/\ (loose=false -> W2.heap[D]? =some (.deferred (some []))))∨
   (∃ c G,Ix c G W2/\ (∀ k,G k -> k<W2.heap.size)/\ G l/\ (loose=false -> G D)/\ W2.heap[l]? =some (.loop (CM .done (some c)))/\ (loose=false -> W2.heap[D]? =some (.deferred (some []))))):=by
 have nG: ∀ (G G':Nat -> Prop) (A:World) (k:Nat) (o:Obj),¬ G k -> A.heap[k]? =some o -> (∀ k,G' k -> G k∨A.heap.size<=k) -> ¬ G' k:=fun G G' A k o hn hk hg hx=>by
  have AU:=(xz.1 hk).1;rcases hg k hx with h | h
  ·exact hn h
  ·omega
 have kept: ∀ (G:Nat -> Prop) (A B:World) (k:Nat) (o:Obj),¬ G k -> A.heap[k]? =some o -> AP G A B -> B.heap[k]? =some o:=fun G A B k o hn hk hu=>
  (hu.block k (xz.1 hk).1 hn).trans hk
 have DG: ∀ (Φ:(Nat -> Prop) -> World -> Prop) (r:Loop),Eg Φ -> Eg (fun G W=>Φ (fun k=>G k∨own k) W/\ ¬ G l/\ (loose=false -> ¬ G D)/\ W.heap[l]? =some (.loop r)/\ (loose=false -> W.heap[D]? =some (.deferred (some [])))/\ ∀ k,G k -> k<W.heap.size):=by
  intro Φ r hΦ G G' A B ⟨h1,h2,h3,h4,h5,h6⟩ hu hg EI;refine ⟨hΦ _ _ A B h1 (hu.mono fun i _ h=>.inl h) (fun k hk=>?_) (fun k hk=>hk.elim (EI k) fun ho=>yM ((XU k ho).elim (fun e=>e▸(xz.1 h4).1) (fun e=>e.2▸(xz.1 (h5 e.1)).1)) hu.size),nG G G' A l _ h2 h4 hg,fun hl=>nG G G' A D _ (h3 hl) (h5 hl) hg,kept G A B l _ h2 h4 hu,fun hl=>kept G A B D _ (h3 hl) (h5 hl) hu,EI⟩;rcases hk with hk | hk
  ·exact (hg k hk).imp .inl id
  ·exact .inl (.inr hk)
 refine (hseq l
  (fun i G W=>I i (fun k=>G k∨own k) W/\ ¬ G l/\ (loose=false -> ¬ G D)/\ W.heap[l]? =some (.loop (CM .ready none))/\ (loose=false -> W.heap[D]? =some (.deferred (some [])))/\ ∀ k,G k -> k<W.heap.size)
  (fun G W=>∃ c,Ix c (fun k=>G k∨own k) W/\ ¬ G l/\ (loose=false -> ¬ G D)/\ W.heap[l]? =some (.loop (CM .done (some c)))/\ (loose=false -> W.heap[D]? =some (.deferred (some [])))/\ ∀ k,G k -> k<W.heap.size)
  G0 W1 (fun i=>DG (I i) _ (hI i)) (fun G G' A B ⟨c,h⟩ hu hg EI=>⟨c,DG (Ix c) _ (Iv c) G G' A B h hu hg EI⟩) Xw (fun _ h=>h) (fun k h=>Nat.lt_trans (Iw k h).1 (xz.1 Ey).1) ?_
  ⟨h0,fun h=>by have:=(Iw l h).1;omega,fun _ h=>(Iw D h).2 rfl,Ey,ug,fun k h=>Nat.lt_trans (Iw k h).1 (xz.1 Ey).1⟩).mono ?_
 ·rintro i x G W hx ⟨hi,Ew,BD,hl,hd,EI⟩;have Te:x∈encs:=zF hx;have AU:l<W.heap.size:=(xz.1 hl).1;have Cv: ∀ k,(G k∨own k) -> k<W.heap.size:=fun k hk=>hk.elim (EI k) fun ho=>(XU k ho).elim (fun e=>e▸AU) (fun e=>e.2▸(xz.1 (hd e.1)).1)
  have hy:=run_yield (P:=P) (args:=x) hl (by rw [Eu];exact Dp x Te);rw [Eu] at hy;refine ⟨fn,_,assign,body,hy,roundIn_of_wpIn trivial (zAC (DR _ i x W hx hi ⟨_,hl⟩ (.inr MM)) ?_)⟩;rintro e a1 HU hq;cases e <;> first | exact hq.elim | skip
  obtain ⟨K,hK,Hy,tj,hb⟩:=hq;have Tf:AP (fun k=>¬ (G k∨Rd k)) W HU:=Hy.mono fun k _ h hx=>h (hx.imp .inl id)
  have hl:=(Hy.block l AU (fun h=>h (.inl (.inr MM)))).trans hl;have hd:loose=false -> HU.heap[D]? =some (.deferred (some [])):=fun h=>(Hy.block D (xz.1 (hd h)).1 (fun hx=>hx (.inl (.inr (Tm h))))).trans (hd h)
  have AU:l<HU.heap.size:=yM AU Hy.size;have EI: ∀ k,G k -> k<HU.heap.size:=fun k h=>yM (EI k h) Hy.size
  have Cv: ∀ k,(G k∨own k) -> k<HU.heap.size:=fun k h=>yM (Cv k h) Hy.size
  refine ⟨_,run_beginRound hl (by rw [Eu]),?_⟩;have CO:(HU.putObj l (.loop { CM .ready none with state:=.busy })).heap[l]? =some (.loop { CM .ready none with state:=.busy }):=World.putObj_heap_same AU;have uI:loose=false -> (HU.putObj l (.loop { CM .ready none with state:=.busy })).heap[D]? =some (.deferred (some [])):=fun h=>(zO d3).trans (hd h)
  have HI:AP (fun k=>G k∨own k) HU (HU.putObj l (.loop { CM .ready none with state:=.busy })):=(AP.refl _ HU).putObj (fun _=>.inr MM) _;refine zAC (hb _ (hK _ _ _ _ tj HI (fun k h=>.inl h) (fun k h=>yM (Cv k h) HI.size)) ⟨_,CO⟩) ?_
  have fin: ∀ (Fa:Option Code) (W3:World),AP (fun k=>¬ ((G k∨own k)∨Rd k)) (HU.putObj l (.loop { CM .ready none with state:=.busy })) W3 ->
   (Instr.endRound l Fa).run P W3= .ok (.bool Fa.isNone) (W3.putObj l (.loop (CM (if Fa.isNone then .ready else .done) Fa)))/\
   W3.heap[l]? =some (.loop { CM .ready none with state:=.busy })/\
   (W3.putObj l (.loop (CM (if Fa.isNone then .ready else .done) Fa))).heap[l]? =some (.loop (CM (if Fa.isNone then .ready else .done) Fa))/\
   (loose=false -> (W3.putObj l (.loop (CM (if Fa.isNone then .ready else .done) Fa))).heap[D]? =some (.deferred (some [])))/\
   AP (fun k=>¬ (G k∨Rd k)) HU (W3.putObj l (.loop (CM (if Fa.isNone then .ready else .done) Fa)))/\
   AP (fun k=>G k∨own k) W3 (W3.putObj l (.loop (CM (if Fa.isNone then .ready else .done) Fa))):=fun Fa W3 Db=>by
   have MQ:W3.heap[l]? =some (.loop { CM .ready none with state:=.busy }):=(Db.block l (by simpa using AU) (fun h=>h (.inl (.inr MM)))).trans CO;have:=run_endRound (P:=P) Fa MQ;refine ⟨by rw [Eu] at this ⊢;exact this,MQ,World.putObj_heap_same (xz.1 MQ).1,fun h=>(zO d3).trans ((Db.block D ?_ (fun hx=>hx (.inl (.inr (Tm h))))).trans (uI h)),?_,(AP.refl _ W3).putObj (fun _=>.inr MM) _⟩
   ·simpa using (xz.1 (hd h)).1
   ·refine ⟨Db.os,Db.tape,Db.output,by simpa using Db.size,fun k hk hn=>?_⟩;have eZ:G k∨Rd k:=Classical.not_not.1 hn
    by_cases EZ:k=l
    ·subst EZ;exact (eZ.elim Ew (fun h=>Iu k h rfl)).elim
    ·rw [zO EZ,Db.block k (by simpa using hk) (fun hx=>hx (eZ.imp .inl id)),zO EZ]
  rintro e a3 W3 hp;cases e with
  | normal=>
   obtain ⟨Db,MU⟩:=hp;obtain ⟨hr,MQ,MP,MY,MH,F3⟩:=fin none W3 Db;exact ⟨_,_,hr,Tf.comp MH (fun _ _ h=>h),.inl ⟨rfl,hI _ _ _ _ _ MU F3 (fun k h=>.inl h) (fun k h=>yM (Cv k h) (yO HI.size (yO Db.size F3.size))),Ew,BD,MP,MY,fun k h=>yM (EI k h) (yO HI.size (yO Db.size F3.size))⟩⟩
  | ret=>
   obtain ⟨Db,MU⟩:=hp;obtain ⟨hr,MQ,MP,MY,MH,F3⟩:=fin (some .ret) W3 Db;exact ⟨_,_,hr,Tf.comp MH (fun _ _ h=>h),.inr ⟨rfl,.ret,Iv _ _ _ _ _ MU F3 (fun k h=>.inl h) (fun k h=>yM (Cv k h) (yO HI.size (yO Db.size F3.size))),Ew,BD,MP,MY,fun k h=>yM (EI k h) (yO HI.size (yO Db.size F3.size))⟩⟩
  | exit id=>
   obtain ⟨Db,MU⟩:=hp;obtain ⟨hr,MQ,MP,MY,MH,F3⟩:=fin (some (.exit id)) W3 Db;exact ⟨_,_,hr,Tf.comp MH (fun _ _ h=>h),.inr ⟨rfl,.exit id,Iv _ _ _ _ _ MU F3 (fun k h=>.inl h) (fun k h=>yM (Cv k h) (yO HI.size (yO Db.size F3.size))),Ew,BD,MP,MY,fun k h=>yM (EI k h) (yO HI.size (yO Db.size F3.size))⟩⟩
  | goto t=>
   obtain ⟨Db,MU⟩:=hp;obtain ⟨hr,MQ,MP,MY,MH,F3⟩:=fin (some (.goto t)) W3 Db;exact ⟨_,_,hr,Tf.comp MH (fun _ _ h=>h),.inr ⟨rfl,.goto t,Iv _ _ _ _ _ MU F3 (fun k h=>.inl h) (fun k h=>yM (Cv k h) (yO HI.size (yO Db.size F3.size))),Ew,BD,MP,MY,fun k h=>yM (EI k h) (yO HI.size (yO Db.size F3.size))⟩⟩
  | panic ch=>exact hp.elim
  | outgrown=>exact hp.elim
 ·have ob: ∀ (G:Nat -> Prop) (W2:World) (r:Loop),W2.heap[l]? =some (.loop r) -> (loose=false -> W2.heap[D]? =some (.deferred (some []))) -> (∀ k,G k -> k<W2.heap.size) -> ∀ k,(G k∨own k) -> k<W2.heap.size:=fun G W2 r h4 h5 h6 k hk=>
   hk.elim (h6 k) fun ho=>(XU k ho).elim (fun e=>e▸(xz.1 h4).1) (fun e=>e.2▸(xz.1 (h5 e.1)).1)
  rintro e W2 ⟨hv,(⟨G,h1,h2,h3,h4,h5,h6⟩ | ⟨G,c,h1,h2,h3,h4,h5,h6⟩)⟩
  ·exact ⟨hv,.inl ⟨_,h1,ob _ _ _ h4 h5 h6,.inr MM,fun h=>.inr (Tm h),h4,h5⟩⟩
  ·exact ⟨hv,.inr ⟨c,_,h1,ob _ _ _ h4 h5 h6,.inr MM,fun h=>.inr (Tm h),h4,h5⟩⟩
theorem iU {g:Operand} {ps:Array Tmp} {assign body:Code} {Q:Exit -> Act -> World -> Prop} {a:Act} {w:World}
 {gf:Nat} {lb:Array Value} (hg:a.eval g= .func (.func gf) #[] lb) (eg: ∀ args w,(callFunc gf args).run P w= .ok (.enter gf args) w)
 {encs:List (Array Value)} {G0 Rd:Nat -> Prop} (hseq:IM P gf lb encs G0 Rd w) (Iw: ∀ k,G0 k -> k<w.heap.size) (Iu: ∀ k,Rd k -> k<w.heap.size) (Dp: ∀ x∈encs,x.size=ps.size)
 (I:Nat -> (Nat -> Prop) -> World -> Prop) (Ix:Code -> (Nat -> Prop) -> World -> Prop) (hI: ∀ i,Eg (I i)) (Iv: ∀ c,Eg (Ix c)) (h0:I 0 G0 w)
 (DR: ∀ (l:Nat) (G:Nat -> Prop) (i:Nat) (x:Array Value) (W:World),encs[i]? =some x -> I i G W -> (∃ r,W.heap[l]? =some (.loop r)) -> G l ->
  assign.wpIn (Fence.wide.inRound l) 0 P (Exit.then (fun a₁ W₁=>∃ K:(Nat -> Prop) -> World -> Prop,Eg K/\ AP (fun k=>¬ (G k∨Rd k)) W W₁/\ K G W₁/\ ∀ W₂,K G W₂ -> (∃ r,W₂.heap[l]? =some (.loop r)) ->
   body.wpIn (Fence.wide.inRound l) 0 P (SI (fun k=>G k∨Rd k) (I (i+1) G) (fun c=>Ix c G) W₂) a₁ W₂) (fun _ _ _=>False)) { tmps:=(ps.zip x).foldl (fun t (p,v)=>t.setIfInBounds p v) a.tmps,defers:=[] } W)
 (D4: ∀ (D:Nat) (G:Nat -> Prop) (W:World),I encs.length G W -> W.heap[D]? =some (.deferred (some [])) -> G D -> w.heap.size<=D ->
  Q .normal { a with defers:={ target:=.collected D,args:=#[] }::a.defers } W)
 (No: ∀ (D:Nat) (c:Code) (G:Nat -> Prop) (W:World),Ix c G W -> W.heap[D]? =some (.deferred (some [])) -> G D -> w.heap.size<=D ->
  c.wpIn Fence.wide 0 P Q { a with defers:={ target:=.collected D,args:=#[] }::a.defers } W):
 (Code.rangeFunc g ps assign body).wpIn Fence.wide 0 P Q a w:=by
 refine wpIn_rangeFunc ?_;intro fn _;have Jo:(w.alloc (.deferred (some []))).heap.size=w.heap.size+1:=World.size_alloc _ _;obtain ⟨CM,Eu⟩: ∃ CM:LoopState -> Option Code -> Loop,∀ st pe,CM st pe= { state:=st,pending:=pe,fn,tmps:=a.tmps,params:=ps,assign,body,defers:=w.heap.size }:=⟨_,fun _ _=>rfl⟩;obtain ⟨W1,K1⟩: ∃ W1,(w.alloc (.deferred (some []))).alloc (.loop (CM .ready none))=W1:=⟨_,rfl⟩
 have Ju:W1.heap[w.heap.size+1]? =some (.loop (CM .ready none)):=by
  rw [←K1];have:=World.alloc_heap_new (w.alloc (.deferred (some []))) (.loop (CM .ready none));rwa [World.size_alloc] at this
 have uZ:W1.heap[w.heap.size]? =some (.deferred (some [])):=by
  rw [←K1];exact (Below.heap_alloc _ _ _ (by simp)).trans (World.alloc_heap_new w _)
 have hu: ∀ S,AP S w W1:=fun S=>by rw [←K1];exact ((AP.refl S w).alloc _).alloc _
 refine ⟨w.heap.size+1,[{ target:=.collected w.heap.size,args:=#[] }],W1,{ target:=.fn (.func gf) lb,args:=#[.func (.yield (w.heap.size+1)) #[] #[]] },W1,gf,
  #[.func (.yield (w.heap.size+1)) #[] #[]]++lb,W1,?_,?_,fun _ _=>trivial,?_,(fun h=>by cases h),?_⟩
 ·rw [←K1,Eu];exact run_enterLoop_outer _ _ _ _ _
 ·simp only [resolve,hg];simp [go_sem]
 ·simp [invoke,go_sem,eg]
 ·refine (bJ (loose:=false) (D:=w.heap.size) hseq (hu _) (fun k h=>by have:=Iw k h;omega) (fun k h=>by have:=Iu k h;omega) Dp CM Eu Ju (fun _=>uZ) (by omega)
   I Ix hI Iv (fun k=>k=w.heap.size+1∨k=w.heap.size) (fun k h=>h.imp id fun h=>⟨rfl,h⟩) (.inl rfl) (fun _=>.inr rfl)
   (hI 0 _ _ _ _ h0 (hu _) (fun k h=>h.imp id (by omega)) (fun k h=>by have h2:=(xz.1 Ju).1;rcases h with h | h | h <;> first | omega | (have:=Iw k h;omega))) (DR _)).mono ?_
  rintro e W2 ⟨⟨v,rfl⟩,(⟨G,hi,EI,_,Xh,hl,hk⟩ | ⟨c,G,hi,EI,Ca,Xh,hl,hk⟩)⟩
  ·exact ⟨none,_,by have:=run_endLoop (P:=P) hl (by rw [Eu];simp);rw [Eu] at this;exact this,
    D4 _ _ _ (hI _ _ _ _ _ hi ((AP.refl _ W2).putObj (fun _=>by assumption) _) (fun k h=>.inl h) (fun k h=>by simpa using EI k h)) ((zO (by omega)).trans (hk rfl)) (Xh rfl) (yS _)⟩
  ·exact ⟨some c,_,by have:=run_endLoop (P:=P) hl (by rw [Eu];simp);rw [Eu] at this;exact this,
    No _ c _ _ (Iv _ _ _ _ _ hi ((AP.refl _ W2).putObj (fun _=>Ca) _) (fun k h=>.inl h) (fun k h=>by simpa using EI k h)) ((zO (by omega)).trans (hk rfl)) (Xh rfl) (yS _)⟩
theorem iV {l0:Nat} {g:Operand} {ps:Array Tmp} {assign body:Code} {Q:Exit -> Act -> World -> Prop} {a:Act} {w:World}
 {gf:Nat} {lb:Array Value} (hg:a.eval g= .func (.func gf) #[] lb) (eg: ∀ args w,(callFunc gf args).run P w= .ok (.enter gf args) w) (Xb: ∃ r,w.heap[l0]? =some (.loop r))
 {encs:List (Array Value)} {G0 Rd:Nat -> Prop} (hseq:IM P gf lb encs G0 Rd w) (Iw: ∀ k,G0 k -> k<w.heap.size) (Iu: ∀ k,Rd k -> k<w.heap.size) (Dp: ∀ x∈encs,x.size=ps.size)
 (I:Nat -> (Nat -> Prop) -> World -> Prop) (Ix:Code -> (Nat -> Prop) -> World -> Prop) (hI: ∀ i,Eg (I i)) (Iv: ∀ c,Eg (Ix c)) (h0:I 0 G0 w)
 (DR: ∀ (l:Nat) (G:Nat -> Prop) (i:Nat) (x:Array Value) (W:World),encs[i]? =some x -> I i G W -> (∃ r,W.heap[l]? =some (.loop r)) -> G l ->
  assign.wpIn (Fence.wide.inRound l) 0 P (Exit.then (fun a₁ W₁=>∃ K:(Nat -> Prop) -> World -> Prop,Eg K/\ AP (fun k=>¬ (G k∨Rd k)) W W₁/\ K G W₁/\ ∀ W₂,K G W₂ -> (∃ r,W₂.heap[l]? =some (.loop r)) ->
   body.wpIn (Fence.wide.inRound l) 0 P (SI (fun k=>G k∨Rd k) (I (i+1) G) (fun c=>Ix c G) W₂) a₁ W₂) (fun _ _ _=>False)) { tmps:=(ps.zip x).foldl (fun t (p,v)=>t.setIfInBounds p v) a.tmps,defers:=[] } W)
 (D4: ∀ (G:Nat -> Prop) (W:World),I encs.length G W -> Q .normal a W)
 (No: ∀ (c:Code) (G:Nat -> Prop) (W:World),Ix c G W -> c.wpIn (Fence.wide.inRound l0) 0 P Q a W):
 (Code.rangeFunc g ps assign body).wpIn (Fence.wide.inRound l0) 0 P Q a w:=by
 refine wpIn_rangeFunc ?_;intro fn _;obtain ⟨r0,EX⟩:=Xb;obtain ⟨CM,Eu⟩: ∃ CM:LoopState -> Option Code -> Loop,∀ st pe,CM st pe= { state:=st,pending:=pe,fn,tmps:=a.tmps,params:=ps,assign,body,defers:=r0.defers }:=⟨_,fun _ _=>rfl⟩;obtain ⟨W1,K1⟩: ∃ W1,w.alloc (.loop (CM .ready none))=W1:=⟨_,rfl⟩
 have Ju:W1.heap[w.heap.size]? =some (.loop (CM .ready none)):=by
  rw [←K1];exact World.alloc_heap_new w _
 have hu: ∀ S,AP S w W1:=fun S=>by rw [←K1];exact (AP.refl S w).alloc _
 refine ⟨w.heap.size,[],W1,{ target:=.fn (.func gf) lb,args:=#[.func (.yield w.heap.size) #[] #[]] },W1,gf,
  #[.func (.yield w.heap.size) #[] #[]]++lb,W1,?_,?_,fun _ _=>trivial,?_,(fun h=>by cases h),?_⟩
 ·rw [←K1,Eu];exact run_enterLoop_inner EX _ _ _ _ _
 ·simp only [resolve,hg];simp [go_sem]
 ·simp [invoke,go_sem,eg]
 ·refine CallsIn.inRound _ ((bJ (loose:=true) (D:=w.heap.size+1) (G0:=G0) hseq (hu _) (fun k h=>by have:=Iw k h;omega) (fun k h=>by have:=Iu k h;omega) Dp CM Eu Ju (fun h=>by cases h) (by omega)
   I Ix hI Iv (fun k=>k=w.heap.size) (fun k h=>.inl h) rfl (fun h=>by cases h)
   (hI 0 _ _ _ _ h0 (hu _) (fun k h=>h.imp id (by omega)) (fun k h=>by have h2:=(xz.1 Ju).1;rcases h with h | h <;> first | omega | (have:=Iw k h;omega))) (DR _)).mono ?_)
  rintro e W2 ⟨⟨v,rfl⟩,(⟨G,hi,EI,Ca,_,hl,_⟩ | ⟨c,G,hi,EI,Ca,_,hl,_⟩)⟩
  ·exact ⟨none,_,by have:=run_endLoop (P:=P) hl (by rw [Eu];simp);rw [Eu] at this;exact this,
    D4 _ _ (hI _ _ _ _ _ hi ((AP.refl _ W2).putObj (fun _=>Ca) _) (fun k h=>.inl h) (fun k h=>by simpa using EI k h))⟩
  ·exact ⟨some c,_,by have:=run_endLoop (P:=P) hl (by rw [Eu];simp);rw [Eu] at this;exact this,
    No c _ _ (Iv _ _ _ _ _ hi ((AP.refl _ W2).putObj (fun _=>Ca) _) (fun k h=>.inl h) (fun k h=>by simpa using EI k h))⟩
end
def D8 (B:Nat):List Deferred -> World -> Prop
 | [],_=>True
 | d::ds,w=>∃ D,d= { target:=.collected D,args:=#[] }/\ B<=D/\ w.heap[D]? =some (.deferred (some []))/\ (∀ d'∈ds,d'.target≠.collected D)/\ D8 B ds w
theorem D8.upd {B:Nat} {S:Nat -> Prop} {w w':World} (hu:AP S w w'): ∀ {ds:List Deferred},D8 B ds w -> (∀ k,B<=k -> S k -> w.heap[k]? ≠some (.deferred (some []))) -> D8 B ds w'
 | [],_,_=>trivial
 | _::_,⟨D,h1,h2,h3,h4,h5⟩,hs=>⟨D,h1,h2,(hu.block D (xz.1 h3).1 (fun hx=>hs D h2 hx h3)).trans h3,h4,D8.upd hu h5 hs⟩
theorem D8.lt {B:Nat} {w:World}: ∀ {ds:List Deferred} (_:D8 B ds w) {d:Deferred} {D:Nat},d∈ds -> d.target= .collected D -> D<w.heap.size
 | _::_,⟨D,h1,h2,h3,h4,h5⟩,d,D',hm,ht=>by
  rcases yf.1 hm with rfl | hm
  ·subst h1;cases ht;exact (xz.1 h3).1
  ·exact D8.lt h5 hm ht
def RT (B:Nat) (w W:World):Prop:=AP (fun k=>B<=k/\ w.heap[k]? =some (.deferred (some []))) w W
def nQ (B:Nat) (P:Program) (fn:Func) (R:Ending -> World -> Prop):Exit -> Act -> World -> Prop
 | .normal,a,w | .ret,a,w=>D8 B a.defers w/\ ∀ W,RT B w W -> ∃ v,(results fn a.tmps).run P W= .ok v W/\ R (.returned v) W
 | _,_,_=>False
theorem ci {B:Nat} {P:Program} {fn:Func} {tmps:Array Value} {R:Ending -> World -> Prop}: ∀ (ds:List Deferred) (w:World),D8 B ds w ->
 (∀ W,RT B w W -> ∃ v,(results fn tmps).run P W= .ok v W/\ R (.returned v) W) -> LeavesInM Fence.wide 0 P fn tmps R ds .returning w
 | [],w,_,h=>h w (AP.refl _ w)
 | _::ds,w,⟨D,h1,h2,h3,h4,h5⟩,h=>by
  refine ⟨by simp,.inl ⟨D,_,by rw [h1],run_takeDeferred h3,?_⟩⟩;have hu:AP (fun k=>k=D) w (w.putObj D (.deferred none)):=(AP.refl (fun k=>k=D) w).putObj (fun _=>rfl) _
  have Aw: ∀ {ds:List Deferred},(∀ d'∈ds,d'.target≠.collected D) -> D8 B ds w -> D8 B ds (w.putObj D (.deferred none)):=by
   intro ds
   induction ds with
   | nil=>intro _ _;trivial
   | cons d ds ih=>
    intro hd ⟨D',g1,g2,g3,g4,g5⟩;refine ⟨D',g1,g2,?_,g4,ih (fun d' hm=>hd d' (by simp [hm])) g5⟩;rw [zO (fun e=>hd d (by simp) (by rw [g1,e]))];exact g3
  refine ci ds _ (Aw h4 h5) fun W hW=>h W ?_
  refine hu.mono (S':=fun k=>B<=k/\ w.heap[k]? =some (.deferred (some []))) (fun i _ e=>by cases e;exact ⟨h2,h3⟩) |>.comp hW fun i hi hx=>⟨hx.1,?_⟩
  by_cases e:i=D
  ·rw [e];exact h3
  ·rw [←zO (o:=.deferred none) e];exact hx.2
theorem wn (B:Nat) {P:Program} {f:FuncId} {fn:Func} {c:Code} {args:Array Value} {w:World} {R:Ending -> World -> Prop}
 (hf:P.funcs[f]? =some fn) (hb:fn.body=some c)
 (h:c.wp P (nQ B P fn R) { tmps:=args++Array.replicate (fn.ntmps-args.size) undef,defers:=[] } w):Calls P f args w R:=by
 refine (callsIn_wide (n:=0)).1 (callsIn_of_wp_marks hf hb trivial ?_);refine zAC (wpIn_wide.2 h) fun e a' w' hq=>?_
 cases e <;> first | exact ci _ _ hq.1 hq.2 | exact hq.elim
end Go.Proofs.YtgkhhfnhacibcaaGreatDoor
namespace Go.Proofs.YtgkhhfnhacibcaaGreatDoor
abbrev u8:=@List.getD_eq_getElem?_getD
abbrev yI:=@List.getElem?_eq_some_iff
abbrev yV:=@Array.getD_eq_getD_getElem?
abbrev yW:=@List.length_set
abbrev yb:=@List.getElem?_append_left
abbrev yi:=@List.getElem?_append_right
abbrev yn:=@List.getElem?_set
abbrev yq:=@Array.getElem?_setIfInBounds
abbrev zn:=@List.getElem?_eq_none
end Go.Proofs.YtgkhhfnhacibcaaGreatDoor
namespace Go.Proofs.YtgkhhfnhacibcaaGreatDoor
open Go.RowKit
inductive DV where
 | any
 | nils
 | int (k:IntKind) (n:Int)
 | bool (b:Bool)
 | str (s:ByteArray)
 | ints (l:List Int)
 | bools (l:List Bool)
 | sl (m n:Nat) (f:Nat -> Nat -> DV)
 | fp (m:Nat) (f:Nat -> DV)
 | agg (m:Nat) (f:Nat -> DV)
 | tup (m:Nat) (f:Nat -> DV)
 | ref (k j:Nat)
 | msl (k m off n:Nat)
 | mp (k m i j:Nat)
 | fn (g:Nat) (m:Nat) (c:Nat -> DV)
 | it (k:Nat)
 | yl (l:Nat)
 | mse (k m off n:Nat)
 | mri (k i:Nat)
 | cst (u:Value)
structure AN where
 blk:Nat
 off:Nat
 room:Nat
 val:Value
 foot:Nat -> Prop
def GD (m:Nat) (f:Nat -> DV):Nat -> DV:=fun j=>((List.range m).map f).getD j .any
theorem Ro {m:Nat} {f:Nat -> DV} {j:Nat} (h:j<m):GD m f j=f j:=by simp [GD,h]
def LB:Nat:=140737488355328
def AO (M:Nat -> Prop) (w:World):DV -> List AN -> Value -> Prop
 | .any,_,_=>True
 | .nils,_,v=>v= .slice none 0 0
 | .int k n,_,v=>v= .int k n
 | .bool b,_,v=>v= .bool b
 | .str s,_,v=>v= .string s
 | .ints l,_,v=>∃ (a:Option Addr) (cap:Nat),v= .slice a l.length cap/\ l.length<=cap/\ l.length<=LB/\
  ∀ j,j<l.length -> ∃ b o,a=some ⟨b,o,none⟩/\ ¬ M b/\ w.cell? ⟨b,o+j,none⟩=some (.int .i64 (l.getD j 0))
 | .bools l,_,v=>∃ (a:Option Addr) (cap:Nat),v= .slice a l.length cap/\ l.length<=cap/\ l.length<=LB/\
  ∀ j,j<l.length -> ∃ b o,a=some ⟨b,o,none⟩/\ ¬ M b/\ w.cell? ⟨b,o+j,none⟩=some (.bool (l.getD j false))
 | .sl m n f,_,v=>∃ (a:Option Addr) (cap:Nat),v= .slice a n cap/\ n<=cap/\ n<=LB/\
  ∀ i j,i<n -> j<m -> ∃ b o u,a=some ⟨b,o,none⟩/\ ¬ M b/\ w.cell? ⟨b,o+(i*m+j),none⟩=some u/\ AO M w (f i j) [] u
 | .fp m f,_,v=>∃ b o,v= .pointer (some ⟨b,o,none⟩)/\ ∀ j,j<m -> ¬ M b/\ ∃ u,w.cell? ⟨b,o+j,none⟩=some u/\ AO M w (f j) [] u
 | .agg m f,ρ,v=>∃ cs,v= .agg cs/\ cs.size=m/\ ∀ j,j<m -> ∃ u,cs[j]? =some u/\ AO M w (f j) ρ u
 | .tup m f,ρ,v=>∃ cs,v= .tuple cs/\ cs.size=m/\ ∀ j,j<m -> ∃ u,cs[j]? =some u/\ AO M w (f j) ρ u
 | .ref k j,ρ,v=>∃ p:AN,ρ[k]? =some p/\ v= .pointer (some ⟨p.blk,p.off+j,none⟩)
 | .msl k m off n,ρ,v=>∃ (p:AN) (cap:Nat),ρ[k]? =some p/\ v= .slice (some ⟨p.blk,p.off+off*m,none⟩) n cap/\ n<=cap/\ n<=LB/\ p.off+off*m+cap*m<=p.room
 | .mp k m i j,ρ,v=>∃ p:AN,ρ[k]? =some p/\ v= .pointer (some ⟨p.blk,p.off+(i*m+j),none⟩)
 | .fn g m c,ρ,v=>∃ lb,v= .func (.func g) #[] lb/\ lb.size=m/\ ∀ j,j<m -> ∃ u,lb[j]? =some u/\ AO M w (c j) ρ u
 | .it k,ρ,v=>∃ p:AN,ρ[k]? =some p/\ v=p.val
 | .yl l,_,v=>v= .func (.yield l) #[] #[]
 | .cst u,_,v=>v=u/\ u.oneCell'=true
 | .mri k i,ρ,v=>∃ (p:AN) (vs:Array Value),ρ[k]? =some p/\ p.val= .tuple vs/\ vs[i]? =some v
 | .mse k m off n,ρ,v=>∃ (p:AN) (a:Option Addr) (cap:Nat),ρ[k]? =some p/\ v= .slice a n cap/\ n<=cap/\ n<=LB/\ (0<cap -> a=some ⟨p.blk,p.off+off*m,none⟩/\ p.off+off*m+cap*m<=p.room)
theorem KJ {M:Nat -> Prop} {w:World} {ρ:List AN} {m:Nat} {f:Nat -> DV} {j:Nat} {v:Value} (h:j<m) (hr:AO M w (f j) ρ v):AO M w (GD m f j) ρ v:=by rw [Ro h];exact hr
def Ai (w:World) (p:AN) (n:Nat) (R:Nat -> Value -> Prop):Prop:=
 p.foot=(fun b=>b=p.blk)/\ ∃ cs t,w.heap[p.blk]? =some (.cells cs t (0,0))/\ p.off+n<=cs.size/\ p.room<=cs.size/\ ∀ j,j<n -> ∃ u,cs[p.off+j]? =some u/\ R j u
/-! ### Rows that an object owns-/
def Gy (w:World) (F:Nat -> Prop) (u:Value) (L:List Int):Prop:=
 (L= []/\ u= .slice none 0 0)∨∃ (q:AN) (cap:Nat),u= .slice (some ⟨q.blk,q.off,none⟩) L.length cap/\ L.length<=cap/\ q.off+cap<=q.room/\ L.length<=LB/\ F q.blk/\ Ai w q L.length fun j x=>x= .int .i64 (L.getD j 0)
def Cr:Value -> Option Nat
 | .slice (some a) _ _=>some a.block
 | _=>none
theorem Gy.blk {w:World} {F:Nat -> Prop} {u:Value} {L:List Int} {b:Nat} (h:Gy w F u L) (hb:Cr u=some b):F b/\ b<w.heap.size:=by
 rcases h with ⟨_,rfl⟩ | ⟨q,cap,rfl,_,_,_,h5,_,cs,t,h6,_⟩
 ·cases hb
 ·cases hb;exact ⟨h5,(xz.1 h6).1⟩
theorem Gy.out {w w':World} {F F':Nat -> Prop} {u:Value} {L:List Int} (h:Gy w F u L) (hb: ∀ b,F b -> Cr u=some b -> b<w.heap.size -> w'.heap[b]? =w.heap[b]?) (hF: ∀ b,F b -> Cr u=some b -> F' b):Gy w' F' u L:=by
 rcases h with h | ⟨q,cap,h1,h2,h3,h4,h5,h6⟩
 ·exact .inl h
 ·refine .inr ⟨q,cap,h1,h2,h3,h4,hF _ h5 (by rw [h1];rfl),?_⟩;obtain ⟨g1,cs,t,g2,g3⟩:=h6;exact ⟨g1,cs,t,(hb _ h5 (by rw [h1];rfl) (xz.1 g2).1).trans g2,g3⟩
structure D7 (w:World) (p:AN) (f:Int -> List Int) (Bo:Option (Int×List Int×Bool)) (u:Value) (es:Array MapEntry) (Aa:Nat):Prop where
 val:p.val= .tuple #[Value.map (some p.blk),u]
 blk:w.heap[p.blk]? =some (.map es Aa)
 own:p.foot p.blk
 key: ∀ e∈es.toList,∃ k,e.key= .int .i64 k/\ ((∀ L,Bo≠some (k,L,true)) -> Gy w (fun b=>p.foot b/\ b≠p.blk) e.val (f k))
 no: ∀ k,(∀ e∈es.toList,e.key≠.int .i64 k) -> f k= []
 nd:(es.toList.map (·.key)).Nodup
 apart: ∀ e∈es.toList,∀ e'∈es.toList,∀ b,Cr e.val=some b -> Cr e'.val=some b -> e.key=e'.key
 born: ∀ e∈es.toList,e.born<Aa
 stamps:(es.toList.map (·.born)).Nodup
 inHand: ∀ k L g,Bo=some (k,L,g) -> Gy w (fun b=>p.foot b/\ b≠p.blk) u L/\ ∀ e∈es.toList,∀ b,Cr u=some b -> Cr e.val=some b -> e.key= .int .i64 k
theorem D7.out {w w':World} {p:AN} {f:Int -> List Int} {Bo:Option (Int×List Int×Bool)} {u:Value} {es:Array MapEntry} {Aa:Nat} (h:D7 w p f Bo u es Aa) (hb: ∀ b,p.foot b -> b<w.heap.size -> w'.heap[b]? =w.heap[b]?):D7 w' p f Bo u es Aa:=
 { h with
  blk:=(hb _ h.own (xz.1 h.blk).1).trans h.blk
  key:=fun e he=>let ⟨k,h1,h2⟩:=h.key e he;⟨k,h1,fun hh=>(h2 hh).out (fun b hf _ hl=>hb b hf.1 hl) fun _ h _=>h⟩
  inHand:=fun k L g e=>let ⟨h1,h2⟩:=h.inHand k L g e;⟨h1.out (fun b hf _ hl=>hb b hf.1 hl) fun _ h _=>h,h2⟩ }
/-! ### Maps:sets of keys-/
abbrev KS:=List (List Int)
def BL:List Int -> Value
 | [a]=>.int .i64 a
 | l=>.agg (l.map fun a=>.int .i64 a).toArray
theorem c8: ∀ {a b:List Int},BL a=BL b -> a=b:=by
 have ai: ∀ {l m:List Int},(l.map fun a=>Value.int .i64 a).toArray=(m.map fun a=>Value.int .i64 a).toArray -> l=m:=fun {l m} h=>by
  have h:=Array.toList_inj.2 h;simp only at h;exact List.map_inj_right (fun x y e=>by cases e;rfl) |>.1 h
 intro a b h
 match a,b with
 | [x],[y]=>cases h;rfl
 | [],[]=>rfl
 | [x],[]=>cases h
 | [],[y]=>cases h
 | [x],y::y'::m=>cases h
 | x::x'::l,[y]=>cases h
 | x::x'::l,[]=>exact ai (Value.agg.inj h)
 | [],y::y'::m=>exact ai (Value.agg.inj h)
 | x::x'::l,y::y'::m=>exact ai (Value.agg.inj h)
structure EN (w:World) (b n:Nat) (l:KS) (es:Array MapEntry) (Aa:Nat):Prop where
 blk:w.heap[b]? =some (.map es Aa)
 keys:(es.toList.map (·.key)).Perm (l.map BL)
 nd:l.Nodup
 len: ∀ y∈l,y.length=n
 tru: ∀ e∈es.toList,e.val= .bool true
 born: ∀ e∈es.toList,e.born<Aa
 stamps:(es.toList.map (·.born)).Nodup
theorem EN.out {w w':World} {b n:Nat} {l:KS} {es:Array MapEntry} {Aa:Nat} (h:EN w b n l es Aa) (hb:w'.heap[b]? =w.heap[b]?):EN w' b n l es Aa:={ h with blk:=hb.trans h.blk }
inductive MX where
 | set (n:Nat) (l:KS)
 | sets (n:Nat) (ls:List (Option KS)) (lk:Option (Nat×Nat×Array MapEntry×Nat))
 | mit (n mb:Nat) (es:Array MapEntry) (Aa:Nat) (rem:KS) (EL:Option (List Int))
 | rows (f:Int -> List Int) (Bo:Option (Int×List Int×Bool))
 | rws (ls:List (List Int)) (Bo:Option (Nat×List Int))
structure I3 (w:World) (p:AN) (ls:List (List Int)) (Bo:Option (Nat×List Int)) (vs:Array Value):Prop where
 val:p.val= .tuple vs
 size:vs.size=ls.length+1
 row: ∃ cs t,w.heap[p.blk]? =some (.cells cs t (0,0))/\ p.off+ls.length<=cs.size/\ p.room<=cs.size/\ ∀ j,j<ls.length -> cs[p.off+j]? =vs[j+1]?
 blk:p.foot p.blk
 has: ∀ j,j<ls.length -> (∀ L,Bo≠some (j,L)) -> Gy w (fun b=>p.foot b/\ b≠p.blk) (vs.getD (j+1) undef) (ls.getD j default)
 apart: ∀ (i j b:Nat),i<ls.length -> j<ls.length -> (∀ L,Bo≠some (i,L)) -> (∀ L,Bo≠some (j,L)) -> Cr (vs.getD (i+1) undef)=some b -> Cr (vs.getD (j+1) undef)=some b -> i=j
 inHand: ∀ k L,Bo=some (k,L) -> Gy w (fun b=>p.foot b/\ b≠p.blk) (vs.getD 0 undef) L/\ ∀ (j b:Nat),j<ls.length -> Cr (vs.getD 0 undef)=some b -> Cr (vs.getD (j+1) undef)=some b -> j=k
theorem I3.out {w w':World} {p:AN} {ls:List (List Int)} {Bo:Option (Nat×List Int)} {vs:Array Value} (h:I3 w p ls Bo vs) (hb: ∀ b,p.foot b -> b<w.heap.size -> w'.heap[b]? =w.heap[b]?):I3 w' p ls Bo vs:=
 { h with
  row:=let ⟨cs,t,h1,h2⟩:=h.row;⟨cs,t,(hb _ h.blk (xz.1 h1).1).trans h1,h2⟩
  has:=fun j hj hh=>(h.has j hj hh).out (fun b hf _ hl=>hb b hf.1 hl) fun _ h _=>h
  inHand:=fun k L e=>let ⟨h1,h2⟩:=h.inHand k L e;⟨h1.out (fun b hf _ hl=>hb b hf.1 hl) fun _ h _=>h,h2⟩ }
structure Eh (w:World) (p:AN) (n:Nat) (ls:List (Option KS)) (lk:Option (Nat×Nat×Array MapEntry×Nat)) (vs:Array Value):Prop where
 val:p.val= .tuple vs
 size:vs.size=ls.length
 row: ∃ cs t,w.heap[p.blk]? =some (.cells cs t (0,0))/\ p.off+ls.length<=cs.size/\ p.room<=cs.size/\ ∀ j,j<ls.length -> cs[p.off+j]? =vs[j]?
 blk:p.foot p.blk
 has: ∀ (j:Nat) (l:KS),ls[j]? =some (some l) -> ∃ b:Nat,vs[j]? =some (Value.map (some b))/\ b≠p.blk/\ p.foot b/\ ∃ es Aa,EN w b n l es Aa/\ ∀ x,lk=some x -> x.1=j -> x.2=(b,es,Aa)
 nil: ∀ (j:Nat),ls[j]? =some none -> vs[j]? =some (Value.map none)
 foot: ∀ b,p.foot b -> b=p.blk∨∃ (j:Nat) (l:KS),ls[j]? =some (some l)/\ vs[j]? =some (Value.map (some b))
 inj: ∀ (i j b:Nat),vs[i]? =some (Value.map (some b)) -> vs[j]? =some (Value.map (some b)) -> i=j
theorem Eh.out {w w':World} {p:AN} {n:Nat} {ls:List (Option KS)} {lk:Option (Nat×Nat×Array MapEntry×Nat)} {vs:Array Value} (h:Eh w p n ls lk vs) (hb: ∀ b,p.foot b -> b<w.heap.size -> w'.heap[b]? =w.heap[b]?):Eh w' p n ls lk vs:=by
 have at_: ∀ {b o},p.foot b -> w.heap[b]? =some o -> w'.heap[b]? =some o:=fun {b o} hf ho=>(hb b hf (xz.1 ho).1).trans ho
 refine { h with row:=?_,has:=fun j l hl=>?_ }
 ·obtain ⟨cs,t,h1,h2⟩:=h.row;exact ⟨cs,t,at_ h.blk h1,h2⟩
 ·obtain ⟨b,h1,h2,h3,es,Aa,h4,h5⟩:=h.has j l hl;exact ⟨b,h1,h2,h3,es,Aa,{ h4 with blk:=at_ h3 h4.blk },h5⟩
def LN (w:World) (p:AN):MX -> Prop
 | .set n l=>p.val=Value.map (some p.blk)/\ p.foot=(fun b=>b=p.blk)/\ ∃ es Aa,EN w p.blk n l es Aa
 | .sets n ls lk=>∃ vs,Eh w p n ls lk vs
 | .mit n mb es Aa rem EL=>(∀ x,(x∈rem∨EL=some x) -> x.length=n)/\ p.val= .pointer (some ⟨p.blk,0,none⟩)/\ p.foot=(fun b=>b=p.blk)/\ ∃ seen,w.heap[p.blk]? =some (.mapIter (some mb) Aa seen Aa)/\ ((leftOf es seen).toList.map (·.key)).Perm (rem.map BL)/\
  ∀ x,EL=some x -> ∃ e∈es.toList,e.key=BL x/\ seen.back? =some e.born
 | .rows f Bo=>∃ u es Aa,D7 w p f Bo u es Aa
 | .rws ls Bo=>∃ vs,I3 w p ls Bo vs
theorem LN.out {w w':World} {p:AN}: ∀ {x:MX},LN w p x -> (∀ b,p.foot b -> b<w.heap.size -> w'.heap[b]? =w.heap[b]?) -> LN w' p x
 | .set n l,⟨h1,h2,es,Aa,h3⟩,hb=>⟨h1,h2,es,Aa,h3.out (hb _ (by rw [h2]) (xz.1 h3.blk).1)⟩
 | .sets n ls lk,⟨vs,h⟩,hb=>⟨vs,h.out hb⟩
 | .rows f Bo,⟨u,es,Aa,h⟩,hb=>⟨u,es,Aa,h.out hb⟩
 | .rws ls Bo,⟨vs,h⟩,hb=>⟨vs,h.out hb⟩
 | .mit n mb es Aa rem EL,⟨h0,h1,h2,seen,h3,h4⟩,hb=>⟨h0,h1,h2,seen,(hb _ (by rw [h2]) (xz.1 h3).1).trans h3,h4⟩
inductive DO where
 | cells (l:List DV)
 | ints (l:List Int)
 | bools (l:List Bool)
 | arr (m n:Nat) (f:Nat -> Nat -> DV)
 | iter (encs:List (Array Value))
 | mo (x:MX)
abbrev DH:=List (Option DO)
def MO (h:DH) (ρ:List AN) (b:Nat):Prop:=∃ (k:Nat) (o:DO) (p:AN),h[k]? =some (some o)/\ ρ[k]? =some p/\ p.foot b
def MS (N:Nat -> Prop) (h:DH) (ρ:List AN) (b:Nat):Prop:=N b∨MO h ρ b
def DW (P:Program) (M:Nat -> Prop) (w:World) (ρ:List AN) (p:AN):DO -> Prop
 | .cells l=>Ai w p l.length fun j u=>AO M w (l.getD j .any) ρ u
 | .ints l=>Ai w p l.length fun j u=>u= .int .i64 (l.getD j 0)
 | .bools l=>Ai w p l.length fun j u=>u= .bool (l.getD j false)
 | .arr m n f=>Ai w p (n*m) fun j u=>AO M w (f (j/m) (j % m)) [] u
 | .iter encs=>∃ gf lb Rd,(p.val= .func (.func gf) #[] lb/\ ∀ args W,(callFunc gf args).run P W= .ok (.enter gf args) W)/\ IM P gf lb encs p.foot Rd w/\ (∀ b,Rd b -> ¬ M b/\ b<w.heap.size)/\ ∀ b,p.foot b -> b<w.heap.size
 | .mo x=>LN w p x
def eK:Obj -> Bool
 | .cells .. =>true
 | .map .. =>true
 | .mapIter .. =>true
 | _=>false
abbrev C7 (w:World) (b:Nat):Prop:=∃ (c:Obj) (_:eK c=true) (_:Unit),w.heap[b]? =some c
theorem C7.cells {w:World} {b:Nat} {c:Array Value} {t:TypeId} {z:Nat×Nat} (h:w.heap[b]? =some (.cells c t z)):C7 w b:=⟨_,rfl,(),h⟩
structure BB where
 ng:Nat
 gi:World -> Prop
 st: ∀ w w',gi w -> AP (fun b=>ng<=b) w w' -> gi w'
 lo: ∀ w,gi w -> ng<=w.heap.size
structure BY (P:Program) (Γ:BB) (N:Nat -> Prop) (h:DH) (ρ:List AN) (w:World):Prop where
 len:ρ.length=h.length
 obj: ∀ (k:Nat) (o:DO),h[k]? =some (some o) -> ∃ p:AN,ρ[k]? =some p/\ DW P (MS N h ρ) w ρ p o
 cel: ∀ (k:Nat) (o:DO) (p:AN) (b:Nat),h[k]? =some (some o) -> ρ[k]? =some p -> p.foot b -> Γ.ng<=b/\ ¬ N b/\ C7 w b
 dis: ∀ (k k':Nat) (o o':DO) (p p':AN) (b:Nat),k≠k' -> h[k]? =some (some o) -> h[k']? =some (some o') -> ρ[k]? =some p -> ρ[k']? =some p' -> p.foot b -> p'.foot b -> False
 nlt: ∀ b,N b -> b<w.heap.size/\ Γ.ng<=b
 gi:Γ.gi w
structure St where
 fr:List DV
 h:DH
def B1 (M:Nat -> Prop) (w:World) (ρ:List AN) (fr:List DV) (t:Array Value):Prop:=
 fr.length=t.size/\ ∀ i,i<fr.length -> AO M w (fr.getD i .any) ρ (t.getD i undef)
structure Ad (P:Program) (Γ:BB) (N:Nat -> Prop) (S:St) (ρ:List AN) (a:Act) (w:World):Prop where
 hr:BY P Γ N S.h ρ w
 fr:B1 (MS N S.h ρ) w ρ S.fr a.tmps
structure BN (h:DH) (ρ:List AN) (w:World) (h':DH) (ρ':List AN) (w':World):Prop where
 upd:AP (MO h ρ) w w'
 grow: ∀ b,MO h' ρ' b -> MO h ρ b∨w.heap.size<=b
theorem BN.refl (h:DH) (ρ:List AN) (w:World):BN h ρ w h ρ w:=⟨AP.refl _ _,fun _ h=>.inl h⟩
theorem BN.trans {h h' Qh:DH} {ρ ρ' ρ'':List AN} {w w' B7:World} (x:BN h ρ w h' ρ' w') (y:BN h' ρ' w' Qh ρ'' B7):BN h ρ w Qh ρ'' B7:=
 ⟨x.upd.comp y.upd fun i hi hm=>(x.grow i hm).resolve_right (by omega),fun b hb=>(y.grow b hb).elim (fun h=>x.grow b h) (fun h=>.inr (yO x.upd.size h))⟩
structure Cn (h:DH) (ρ:List AN) (w:World) (h':DH) (ρ':List AN) (w':World):Prop where
 st:BN h ρ w h' ρ' w'
 pl: ∀ (k:Nat) (p:AN),ρ[k]? =some p -> ρ'[k]? =some p
theorem Cn.refl (h:DH) (ρ:List AN) (w:World):Cn h ρ w h ρ w:=⟨BN.refl _ _ _,fun _ _ h=>h⟩
theorem Cn.trans {h h' Qh:DH} {ρ ρ' ρ'':List AN} {w w' B7:World} (x:Cn h ρ w h' ρ' w') (y:Cn h' ρ' w' Qh ρ'' B7):Cn h ρ w Qh ρ'' B7:=
 ⟨x.st.trans y.st,fun k p hk=>y.pl k p (x.pl k p hk)⟩
structure Bc (M:Nat -> Prop) (w:World) (ρ:List AN) (M':Nat -> Prop) (w':World) (ρ':List AN):Prop where
 blk: ∀ b,b<w.heap.size -> ¬ M b -> (∃ c t z,w.heap[b]? =some (.cells c t z)) -> w'.heap[b]? =w.heap[b]?
 m: ∀ b,M' b -> M b∨w.heap.size<=b
 pl: ∀ (k:Nat) (p:AN),ρ[k]? =some p -> ρ'[k]? =some p
theorem wj {w:World} {b o:Nat} {u:Value} (h:w.cell? ⟨b,o,none⟩=some u): ∃ c t z,w.heap[b]? =some (.cells c t z):=by
 unfold World.cell? at h;split at h
 ·exact ⟨_,_,_,by assumption⟩
 ·cases h
theorem Bc.nil {M M':Nat -> Prop} {w w':World} {ρ ρ':List AN} (h:Bc M w ρ M' w' ρ'):Bc M w [] M' w' []:=⟨h.blk,h.m,fun k p hk=>by simp at hk⟩
theorem gA {w w':World} {b o:Nat} (h:w'.heap[b]? =w.heap[b]?):w'.cell? ⟨b,o,none⟩=w.cell? ⟨b,o,none⟩:=by
 unfold World.cell?;rw [h]
theorem Bc.cell {M M':Nat -> Prop} {w w':World} {ρ ρ':List AN} (h:Bc M w ρ M' w' ρ') {b o:Nat} {u:Value} (hM: ¬ M b) (hc:w.cell? ⟨b,o,none⟩=some u):w'.cell? ⟨b,o,none⟩=some u/\ ¬ M' b:=by
 have AU:b<w.heap.size:=zY w ⟨b,o,none⟩ hc;exact ⟨(gA (h.blk b AU hM (wj hc))).trans hc,fun hm=>(h.m b hm).elim hM (by omega)⟩
theorem AO.out {M M':Nat -> Prop} {w w':World}: ∀ (d:DV) {ρ ρ':List AN} {v:Value},Bc M w ρ M' w' ρ' -> AO M w d ρ v -> AO M' w' d ρ' v:=by
 intro d
 induction d with
 | any=>intros;trivial
 | nils=>intro ρ ρ' v _ h;exact h
 | int k n=>intro ρ ρ' v _ h;exact h
 | bool b=>intro ρ ρ' v _ h;exact h
 | str s=>intro ρ ρ' v _ h;exact h
 | ints l=>
  rintro ρ ρ' v H ⟨a,cap,e,h1,h2,h3⟩;refine ⟨a,cap,e,h1,h2,fun j hj=>?_⟩;obtain ⟨b,o,ha,hM,hc⟩:=h3 j hj;obtain ⟨g1,g2⟩:=H.cell hM hc;exact ⟨b,o,ha,g2,g1⟩
 | bools l=>
  rintro ρ ρ' v H ⟨a,cap,e,h1,h2,h3⟩;refine ⟨a,cap,e,h1,h2,fun j hj=>?_⟩;obtain ⟨b,o,ha,hM,hc⟩:=h3 j hj;obtain ⟨g1,g2⟩:=H.cell hM hc;exact ⟨b,o,ha,g2,g1⟩
 | sl m n f ih=>
  rintro ρ ρ' v H ⟨a,cap,e,h1,h2,h3⟩;refine ⟨a,cap,e,h1,h2,fun i j hi hj=>?_⟩;obtain ⟨b,o,u,ha,hM,hc,hr⟩:=h3 i j hi hj;obtain ⟨g1,g2⟩:=H.cell hM hc;exact ⟨b,o,u,ha,g2,g1,ih i j H.nil hr⟩
 | fp m f ih=>
  rintro ρ ρ' v H ⟨b,o,e,h⟩;refine ⟨b,o,e,fun j hj=>?_⟩;obtain ⟨hM,u,hc,hr⟩:=h j hj;obtain ⟨g1,g2⟩:=H.cell hM hc;exact ⟨g2,u,g1,ih j H.nil hr⟩
 | agg m f ih=>
  rintro ρ ρ' v H ⟨cs,e,hs,h⟩;exact ⟨cs,e,hs,fun j hj=>let ⟨u,h1,h2⟩:=h j hj;⟨u,h1,ih j H h2⟩⟩
 | tup m f ih=>
  rintro ρ ρ' v H ⟨cs,e,hs,h⟩;exact ⟨cs,e,hs,fun j hj=>let ⟨u,h1,h2⟩:=h j hj;⟨u,h1,ih j H h2⟩⟩
 | ref k j=>rintro ρ ρ' v H ⟨p,h,e⟩;exact ⟨p,H.pl _ _ h,e⟩
 | msl k m off n=>rintro ρ ρ' v H ⟨p,cap,h,r⟩;exact ⟨p,cap,H.pl _ _ h,r⟩
 | mp k m i j=>rintro ρ ρ' v H ⟨p,h,e⟩;exact ⟨p,H.pl _ _ h,e⟩
 | fn g m c ih=>
  rintro ρ ρ' v H ⟨cs,e,hs,h⟩;exact ⟨cs,e,hs,fun j hj=>let ⟨u,h1,h2⟩:=h j hj;⟨u,h1,ih j H h2⟩⟩
 | it k=>rintro ρ ρ' v H ⟨p,h,e⟩;exact ⟨p,H.pl _ _ h,e⟩
 | yl l=>intro ρ ρ' v _ h;exact h
 | mse k m off n=>rintro ρ ρ' v H ⟨p,a,cap,h,r⟩;exact ⟨p,a,cap,H.pl _ _ h,r⟩
 | mri k i=>rintro ρ ρ' v H ⟨p,vs,h,r⟩;exact ⟨p,vs,H.pl _ _ h,r⟩
 | cst u=>intro ρ ρ' v _ h;exact h
theorem B1.out {M M':Nat -> Prop} {w w':World} {ρ ρ':List AN} {fr:List DV} {t:Array Value} (h:B1 M w ρ fr t) (H:Bc M w ρ M' w' ρ'):B1 M' w' ρ' fr t:=
 ⟨h.1,fun i hi=>(h.2 i hi).out _ H⟩
theorem B1.at {M:Nat -> Prop} {w:World} {ρ:List AN} {fr:List DV} {t:Array Value} (h:B1 M w ρ fr t) (i:Nat):AO M w (fr.getD i .any) ρ (t.getD i undef):=by
 rcases zb i fr.length with hi | hi
 ·exact h.2 i hi
 ·have:fr.getD i .any= .any:=by rw [u8,zn hi];rfl
  rw [this];trivial
theorem B1.set {M:Nat -> Prop} {w:World} {ρ:List AN} {fr:List DV} {t:Array Value} (h:B1 M w ρ fr t) (i:Nat) {d:DV} {v:Value} (hv:AO M w d ρ v):B1 M w ρ (fr.set i d) (t.setIfInBounds i v):=by
 refine ⟨by simp [h.1],fun j hj=>?_⟩;rw [yW] at hj;have BX:j<t.size:=by rw [←h.1];exact hj
 have h0:=h.2 j hj;simp only [u8,yV,yn,yq] at h0 ⊢
 by_cases e:i=j
 ·subst e;simp [hj,BX,hv]
 ·rw [yK e,yK e];exact h0
theorem IM.later {P:Program} {g:Nat} {lb:Array Value} {encs:List (Array Value)} {G0 Rd:Nat -> Prop} {w w':World} (h:IM P g lb encs G0 Rd w) {S:Nat -> Prop} (hu:AP S w w') (hs: ∀ b,b<w.heap.size -> S b -> ¬ (G0 b∨Rd b)):IM P g lb encs G0 Rd w':=
 fun l J Jx G W h1 h2 h3=>h l J Jx G W h1 h2 (hu.mono (fun i hi hx=>hs i hi hx) |>.trans h3)
theorem Ai.out {w w':World} {p:AN} {n:Nat} {R R':Nat -> Value -> Prop} (h:Ai w p n R) (hb:w'.heap[p.blk]? =w.heap[p.blk]?) (hR: ∀ j u,j<n -> R j u -> R' j u):Ai w' p n R':=by
 obtain ⟨h1,cs,t,h2,h3,h4,h5⟩:=h;exact ⟨h1,cs,t,hb.trans h2,h3,h4,fun j hj=>let ⟨u,g1,g2⟩:=h5 j hj;⟨u,g1,hR j u hj g2⟩⟩
theorem Ai.cell {w:World} {p:AN} {n:Nat} {R:Nat -> Value -> Prop} (h:Ai w p n R) {j:Nat} (hj:j<n): ∃ u,w.cell? ⟨p.blk,p.off+j,none⟩=some u/\ R j u:=by
 obtain ⟨h1,cs,t,h2,h3,h4,h5⟩:=h;obtain ⟨u,g1,g2⟩:=h5 j hj;exact ⟨u,by unfold World.cell?;simp [h2,g1],g2⟩
theorem Ai.frozen {w:World} {p:AN} {n:Nat} {R:Nat -> Value -> Prop} (h:Ai w p n R) (o:Nat):w.frozen? ⟨p.blk,o,none⟩=false:=by
 obtain ⟨h1,cs,t,h2,_⟩:=h;unfold World.frozen?;simp [h2]
theorem DW.out {P:Program} {M M':Nat -> Prop} {w w':World} {ρ ρ':List AN} {p:AN} {o:DO} (h:DW P M w ρ p o) (H:Bc M w ρ M' w' ρ') {S:Nat -> Prop} (hu:AP S w w') (hS: ∀ b,S b -> M b) (hf: ∀ b,b<w.heap.size -> p.foot b -> ¬ S b):DW P M' w' ρ' p o:=by
 have hb: ∀ {n R},Ai w p n R -> w'.heap[p.blk]? =w.heap[p.blk]? :=fun {n R} hr=>by
  obtain ⟨h1,cs,t,h2,_⟩:=hr;have AU:=(xz.1 h2).1;exact hu.block _ AU (hf _ AU (by rw [h1]))
 cases o with
 | cells l=>exact Ai.out h (hb h) fun j u _ hr=>AO.out _ H hr
 | ints l=>exact Ai.out h (hb h) fun j u _ hr=>hr
 | bools l=>exact Ai.out h (hb h) fun j u _ hr=>hr
 | arr m n f=>exact Ai.out h (hb h) fun j u _ hr=>AO.out _ H.nil hr
 | iter encs=>
  obtain ⟨gf,lb,Rd,h1,h2,h3,h4⟩:=h;refine ⟨gf,lb,Rd,h1,h2.later hu (fun b hb hs hx=>?_),fun b hb=>⟨fun hm=>(H.m b hm).elim (h3 b hb).1 (by have:=(h3 b hb).2;omega),yM (h3 b hb).2 hu.size⟩,fun b hb=>yM (h4 b hb) hu.size⟩;rcases hx with hx | hx
  ·exact hf b hb hx hs
  ·exact (h3 b hx).1 (hS b hs)
 | mo x=>exact LN.out h fun b hb AU=>hu.block b AU (hf b AU hb)
section
variable {P:Program} {Γ:BB} {N:Nat -> Prop} {h:DH} {ρ:List AN} {w:World}
theorem MO.unset {k:Nat} {b:Nat} (hm:MO (h.set k none) ρ b):MO h ρ b:=by
 obtain ⟨i,o,p,h1,h2,h3⟩:=hm;rw [yn] at h1
 by_cases e:k=i
 ·rw [xw e] at h1;split at h1 <;> cases h1
 ·rw [yK e] at h1;exact ⟨i,o,p,h1,h2,h3⟩
theorem BY.lt (H:BY P Γ N h ρ w) {b:Nat} (hb:MS N h ρ b):b<w.heap.size:=by
 rcases hb with hb | ⟨k,o,p,h1,h2,h3⟩
 ·exact (H.nlt b hb).1
 ·obtain ⟨_,_,c,t,z,h4⟩:=H.cel k o p b h1 h2 h3;exact (xz.1 h4).1
theorem BY.low (H:BY P Γ N h ρ w) {b:Nat} (hb:MO h ρ b):Γ.ng<=b:=by
 obtain ⟨k,o,p,h1,h2,h3⟩:=hb;exact (H.cel k o p b h1 h2 h3).1
theorem BY.lt2 (H:BY P Γ N h ρ w) {b:Nat} (hb:MS N h ρ b):b<w.heap.size/\ Γ.ng<=b:=⟨H.lt hb,hb.elim (fun h=>(H.nlt b h).2) H.low⟩
theorem BY.ext (H:BY P Γ N h ρ w) {w':World} (hE:At w w'):BY P Γ N h ρ w':=by
 have O:Bc (MS N h ρ) w ρ (MS N h ρ) w' ρ:=⟨fun b hb _ _=>zAr hE b hb,fun b h=>.inl h,fun _ _ h=>h⟩;refine ⟨H.len,fun k o hk=>?_,fun k o p b h1 h2 h3=>?_,H.dis,fun b hb=>⟨yM (H.nlt b hb).1 hE.size,(H.nlt b hb).2⟩,Γ.st _ _ H.gi (AP.ofExt hE)⟩
 ·obtain ⟨p,hp,ho⟩:=H.obj k o hk;exact ⟨p,hp,ho.out O (S:=fun _=>False) (AP.ofExt hE) (fun _ h=>h.elim) (fun _ _ _ h=>h)⟩
 ·obtain ⟨g1,g2,c,t,z,g3⟩:=H.cel k o p b h1 h2 h3;exact ⟨g1,g2,c,t,z,(zAr hE b (xz.1 g3).1).trans g3⟩
theorem Bc.ext {M:Nat -> Prop} {w w':World} (ρ:List AN) (hE:At w w'):Bc M w ρ M w' ρ:=⟨fun b hb _ _=>zAr hE b hb,fun b h=>.inl h,fun _ _ h=>h⟩
theorem BN.ext {w w':World} (hE:At w w'):BN h ρ w h ρ w':=⟨AP.ofExt hE,fun _ h=>.inl h⟩
theorem DE {α:Type} {l:List α} {x y:α} {k:Nat} (hk:(l++[x])[k]? =some y):(k<l.length/\ l[k]? =some y)∨(k=l.length/\ x=y):=by
 rcases Nat.lt_trichotomy k l.length with hl | hl | hl
 ·rw [yb hl] at hk;exact .inl ⟨hl,hk⟩
 ·subst hl;simp at hk;exact .inr ⟨rfl,hk⟩
 ·rw [yi (by omega)] at hk;have:k-l.length≠0:=by omega
  cases e:k-l.length with
  | zero=>omega
  | succ m=>rw [e] at hk;simp at hk
theorem D5 {α:Type} {l:List α} {x y:α} {k:Nat} (hk:l[k]? =some y):(l++[x])[k]? =some y:=by
 rw [yb (yI.1 hk).1];exact hk
theorem MO.snoc (H:BY P Γ N h ρ w) {o:DO} {p:AN} {b:Nat} (hb:MO (h++[some o]) (ρ++[p]) b):MO h ρ b∨p.foot b:=by
 obtain ⟨k,o',p',h1,h2,h3⟩:=hb;rcases DE h1 with ⟨hl,h1⟩ | ⟨hl,h1⟩
 ·rcases DE h2 with ⟨_,h2⟩ | ⟨CO,_⟩
  ·exact .inl ⟨k,o',p',h1,h2,h3⟩
  ·rw [CO,H.len] at hl;omega
 ·rcases DE h2 with ⟨CO,_⟩ | ⟨_,h2⟩
  ·rw [H.len,←hl] at CO;omega
  ·subst h2;exact .inr h3
theorem BY.snoc (H:BY P Γ N h ρ w) {w':World} (hE:At w w') {o:DO} {p:AN} (hf: ∀ b,p.foot b -> w.heap.size<=b/\ C7 w' b)
 (ho:DW P (MS N (h++[some o]) (ρ++[p])) w' (ρ++[p]) p o):BY P Γ N (h++[some o]) (ρ++[p]) w':=by
 have O:Bc (MS N h ρ) w ρ (MS N (h++[some o]) (ρ++[p])) w' (ρ++[p]):=by
  refine ⟨fun b hb _ _=>zAr hE b hb,fun b hb=>?_,fun k q hk=>D5 hk⟩;rcases hb with hb | hb
  ·exact .inl (.inl hb)
  ·rcases MO.snoc H hb with hb | hb
   ·exact .inl (.inr hb)
   ·exact .inr (hf b hb).1
 refine ⟨by simp [H.len],fun k o' hk=>?_,fun k o' p' b h1 h2 h3=>?_,fun k k' o1 o2 p1 p2 b Aw h1 h2 h3 h4 h5 h6=>?_,fun b hb=>⟨yM (H.nlt b hb).1 hE.size,(H.nlt b hb).2⟩,Γ.st _ _ H.gi (AP.ofExt hE)⟩
 ·rcases DE hk with ⟨hl,hk⟩ | ⟨hl,hk⟩
  ·obtain ⟨p',hp,hr⟩:=H.obj k o' hk;exact ⟨p',D5 hp,hr.out O (S:=fun _=>False) (AP.ofExt hE) (fun _ h=>h.elim) (fun _ _ _ h=>h)⟩
  ·cases hk;exact ⟨p,by rw [hl,←H.len];simp,ho⟩
 ·rcases DE h1 with ⟨hl,h1⟩ | ⟨hl,h1⟩
  ·rcases DE h2 with ⟨_,h2⟩ | ⟨CO,_⟩
   ·obtain ⟨g1,g2,c,t,z,g3⟩:=H.cel k o' p' b h1 h2 h3;exact ⟨g1,g2,c,t,z,(zAr hE b (xz.1 g3).1).trans g3⟩
   ·rw [CO,H.len] at hl;omega
  ·rcases DE h2 with ⟨CO,_⟩ | ⟨_,h2⟩
   ·rw [H.len,←hl] at CO;omega
   ·subst h2;obtain ⟨g1,g2⟩:=hf b h3;exact ⟨yO (Γ.lo _ H.gi) g1,fun hn=>by have:=H.nlt b hn;omega,g2⟩
 ·have GH: ∀ {k:Nat} {o':DO} {p':AN},(h++[some o])[k]? =some (some o') -> (ρ++[p])[k]? =some p' -> p'.foot b -> k≠h.length -> b<w.heap.size:=by
   intro k o' p' h1 h2 h3 Aw;rcases DE h1 with ⟨hl,h1⟩ | ⟨hl,h1⟩
   ·rcases DE h2 with ⟨_,h2⟩ | ⟨CO,_⟩
    ·exact H.lt (.inr ⟨k,o',p',h1,h2,h3⟩)
    ·rw [CO,H.len] at hl;omega
   ·exact absurd hl Aw
  have cH: ∀ {k:Nat} {o':DO} {p':AN},(h++[some o])[k]? =some (some o') -> (ρ++[p])[k]? =some p' -> p'.foot b -> k=h.length -> w.heap.size<=b:=by
   intro k o' p' h1 h2 h3 he;rcases DE h2 with ⟨CO,_⟩ | ⟨_,h2⟩
   ·rw [H.len,←he] at CO;omega
   ·subst h2;exact (hf b h3).1
  by_cases e1:k=h.length
  ·by_cases e2:k'=h.length
   ·exact Aw (e1.trans e2.symm)
   ·have:=cH h1 h3 h5 e1;have:=GH h2 h4 h6 e2;omega
  ·by_cases e2:k'=h.length
   ·have:=GH h1 h3 h5 e1;have:=cH h2 h4 h6 e2;omega
   ·rcases DE h1 with ⟨_,h1⟩ | ⟨hl,_⟩
    ·rcases DE h2 with ⟨_,h2⟩ | ⟨hl,_⟩
     ·rcases DE h3 with ⟨_,h3⟩ | ⟨hl,_⟩
      ·rcases DE h4 with ⟨_,h4⟩ | ⟨hl,_⟩
       ·exact H.dis k k' o1 o2 p1 p2 b Aw h1 h2 h3 h4 h5 h6
       ·rw [H.len] at hl;exact e2 hl
      ·rw [H.len] at hl;exact e1 hl
     ·exact e2 hl
    ·exact e1 hl
theorem Bc.snoc (H:BY P Γ N h ρ w) {w':World} (hE:At w w') {o:DO} {p:AN} (hf: ∀ b,p.foot b -> w.heap.size<=b):Bc (MS N h ρ) w ρ (MS N (h++[some o]) (ρ++[p])) w' (ρ++[p]):=by
 refine ⟨fun b hb _ _=>zAr hE b hb,fun b hb=>?_,fun k q hk=>D5 hk⟩;rcases hb with hb | hb
 ·exact .inl (.inl hb)
 ·rcases MO.snoc H hb with hb | hb
  ·exact .inl (.inr hb)
  ·exact .inr (hf b hb)
theorem BN.snoc (H:BY P Γ N h ρ w) {w':World} (hE:At w w') {o:DO} {p:AN} (hf: ∀ b,p.foot b -> w.heap.size<=b):BN h ρ w (h++[some o]) (ρ++[p]) w':=
 ⟨AP.ofExt hE,fun b hb=>(MO.snoc H hb).imp id (hf b)⟩
theorem MO.set {k:Nat} {o o':DO} (hk:h[k]? =some (some o)) {b:Nat}:MO (h.set k (some o')) ρ b↔MO h ρ b:=by
 have hl:=(yI.1 hk).1;constructor
 ·rintro ⟨i,o1,p,h1,h2,h3⟩;rw [yn] at h1
  by_cases e:k=i
  ·subst e;exact ⟨k,o,p,hk,h2,h3⟩
  ·rw [yK e] at h1;exact ⟨i,o1,p,h1,h2,h3⟩
 ·rintro ⟨i,o1,p,h1,h2,h3⟩
  by_cases e:k=i
  ·subst e;exact ⟨k,o',p,by simp [hl],h2,h3⟩
  ·exact ⟨i,o1,p,by rw [yn,yK e];exact h1,h2,h3⟩
theorem MS.set {k:Nat} {o o':DO} (hk:h[k]? =some (some o)) {b:Nat}:MS N (h.set k (some o')) ρ b↔MS N h ρ b:=by unfold MS;rw [MO.set hk]
theorem BY.write (H:BY P Γ N h ρ w) {w':World} {k:Nat} {o o':DO} {p:AN} (hk:h[k]? =some (some o)) (hp:ρ[k]? =some p) (hu:AP p.foot w w')
 (hc: ∀ b,p.foot b -> C7 w' b) (ho:DW P (MS N (h.set k (some o')) ρ) w' ρ p o'):BY P Γ N (h.set k (some o')) ρ w':=by
 have hl:=(yI.1 hk).1;have hM: ∀ b,p.foot b -> MS N h ρ b:=fun b hb=>.inr ⟨k,o,p,hk,hp,hb⟩
 have O:Bc (MS N h ρ) w ρ (MS N (h.set k (some o')) ρ) w' ρ:=⟨fun b hb hm _=>hu.block b hb fun hx=>hm (hM b hx),fun b hb=>.inl ((MS.set hk).1 hb),fun _ _ h=>h⟩;have H3: ∀ {i:Nat} {o1:DO},i≠k -> (h.set k (some o'))[i]? =some (some o1) -> h[i]? =some (some o1):=fun {i} {o1} Aw h1=>by rw [yn,yK (zAh Aw)] at h1;exact h1
 refine ⟨by simp [H.len],fun i o1 hi=>?_,fun i o1 p1 b h1 h2 h3=>?_,fun i i' o1 o2 p1 p2 b Aw h1 h2 h3 h4 h5 h6=>?_,fun b hb=>⟨yM (H.nlt b hb).1 hu.size,(H.nlt b hb).2⟩,Γ.st _ _ H.gi (hu.mono fun b _ hb=>(H.cel k o p b hk hp hb).1)⟩
 ·by_cases e:i=k
  ·subst e;have:o'=o1:=by simp [hl] at hi;exact hi
   subst this;exact ⟨p,hp,ho⟩
  ·obtain ⟨p1,Ku,hr⟩:=H.obj i o1 (H3 e hi);exact ⟨p1,Ku,hr.out O hu hM fun b _ h1 h2=>H.dis i k o1 o p1 p b e (H3 e hi) hk Ku hp h1 h2⟩
 ·by_cases e:i=k
  ·subst e;have:p=p1:=yH (hp.symm.trans h2);subst this;obtain ⟨g1,g2,_⟩:=H.cel i o p b hk hp h3;exact ⟨g1,g2,hc b h3⟩
  ·obtain ⟨g1,g2,c,t,z,g3⟩:=H.cel i o1 p1 b (H3 e h1) h2 h3;refine ⟨g1,g2,c,t,z,(hu.block b (xz.1 g3).1 fun hx=>H.dis i k o1 o p1 p b e (H3 e h1) hk h2 hp h3 hx).trans g3⟩
 ·have GH: ∀ {i:Nat} {o1:DO},(h.set k (some o'))[i]? =some (some o1) -> ∃ o2,h[i]? =some (some o2):=fun {i} {o1} h1=>by
   by_cases e:i=k
   ·subst e;exact ⟨o,hk⟩
   ·exact ⟨o1,H3 e h1⟩
  obtain ⟨q1,g1⟩:=GH h1;obtain ⟨q2,g2⟩:=GH h2;exact H.dis i i' q1 q2 p1 p2 b Aw g1 g2 h3 h4 h5 h6
theorem Bc.write (hN:True) {w':World} {k:Nat} {o o':DO} {p:AN} (hk:h[k]? =some (some o)) (hp:ρ[k]? =some p) (hu:AP p.foot w w'):Bc (MS N h ρ) w ρ (MS N (h.set k (some o')) ρ) w' ρ:=
 ⟨fun b hb hm _=>hu.block b hb fun hx=>hm (.inr ⟨k,o,p,hk,hp,hx⟩),fun b hb=>.inl ((MS.set hk).1 hb),fun _ _ h=>h⟩
theorem BN.write {w':World} {k:Nat} {o o':DO} {p:AN} (hk:h[k]? =some (some o)) (hp:ρ[k]? =some p) (hu:AP p.foot w w'):BN h ρ w (h.set k (some o')) ρ w':=
 ⟨hu.mono fun b _ hb=>⟨k,o,p,hk,hp,hb⟩,fun b hb=>.inl ((MO.set hk).1 hb)⟩
end
end Go.Proofs.YtgkhhfnhacibcaaGreatDoor
namespace Go.Proofs.YtgkhhfnhacibcaaGreatDoor
abbrev yN:=@Nat.not_lt_zero
abbrev yd:=@decide_eq_true_eq
abbrev yp:=@Go.run_underlying
abbrev yu:=@Nat.add_assoc
abbrev zL:=@Bool.not_eq_true'
abbrev zM:=@Option.some.injEq
abbrev zZ:=@Prod.mk.injEq
abbrev zc:=@bne_iff_ne
abbrev zh:=@Nat.mul_le_mul_right
abbrev zq:=@Nat.mul_comm
abbrev zr:=@Nat.add_mul
abbrev zAD:=@Nat.mod_eq_of_lt
abbrev zAE:=@Array.eq_empty_of_size_eq_zero
abbrev zAJ:=@Nat.add_zero
abbrev zAi:=@Go.Sem.run_pure
abbrev zAl:=@Option.isSome_iff_exists
abbrev zAt:=@Nat.succ_mul
abbrev zA1:=@Nat.div_eq_of_lt
end Go.Proofs.YtgkhhfnhacibcaaGreatDoor
namespace Go.Proofs.YtgkhhfnhacibcaaGreatDoor
open Go.RowKit
def FC:Value -> DV
 | .int k n=>.int k n
 | .bool b=>.bool b
 | .string s=>.str s
 | .slice none 0 0=>.nils
 | v=>if v.oneCell' then .cst v else .any
def Ac (fr:List DV):Operand -> DV
 | .tmp t=>fr.getD t .any
 | .const v=>FC v
 | .global _=>.any
 | .func f=>.fn f 0 fun _=>.any
def Ht (P:Program) (t:TypeId):Bool:=match P.underlying t with
 | some (.struct _)=>true
 | some (.array _ _)=>true
 | _=>false
def Mj (P:Program) (t:TypeId) (m:Nat):Bool:=match P.underlying t with
 | some (.slice e)=>match P.info? e with
  | some i=>i.size==m&&m != 0
  | none=>false
 | _=>false
def Fv (P:Program) (t:TypeId):Bool:=(P.underlying t).isSome&&!Ht P t
def RS (P:Program) (t:TypeId) (m:Nat):Bool:=Ht P t&&(match P.info? t with | some i=>i.size==m | none=>false)
def UK (P:Program) (s:TypeId) (f:Nat):Option (Nat×Nat):=match P.underlying s with
 | some (.struct fs)=>match fs[f]? with
  | some fd=>match P.info? fd.type with
   | some i=>if i.size=0 then none else some (fd.offset,i.size)
   | none=>none
  | none=>none
 | _=>none
def RM (P:Program) (t:TypeId):Option (Nat×Nat):=match P.underlying t with
 | some (.array n e)=>match P.info? e with
  | some i=>if n<=1 then none else some (n,i.size)
  | none=>none
 | _=>none
def Wv (P:Program) (t:TypeId):Option IntKind:=match P.underlying t with
 | some (.int k)=>some k
 | _=>none
def Un (op:BinOp) (k:IntKind) (a b:Int):Option (DV×Prop):=match op with
 | .add=>some (.int k (k.wrap (a+b)),True)
 | .sub=>some (.int k (k.wrap (a-b)),True)
 | .mul=>some (.int k (k.wrap (a*b)),True)
 | .and=>some (.int k (bits .and k a b),True)
 | .or=>some (.int k (bits .or k a b),True)
 | .xor=>some (.int k (bits .xor k a b),True)
 | .andNot=>some (.int k (bits .andNot k a b),True)
 | .eql=>some (.bool (a==b),True)
 | .neq=>some (.bool (a != b),True)
 | .lss=>some (.bool (decide (a<b)),True)
 | .leq=>some (.bool (decide (a<=b)),True)
 | .gtr=>some (.bool (decide (a>b)),True)
 | .geq=>some (.bool (decide (a>=b)),True)
 | _=>none
def OT (P:Program) (t:TypeId):Nat:=match P.underlying t with
 | some .bool=>1
 | some (.slice _)=>2
 | _=>0
def Uo (bt:Nat) (op:BinOp) (x y:DV):Option (DV×Prop):=match op,x,y with
 | .eql,.bool a,.bool b=>if bt=1 then some (.bool (a==b),True) else none
 | .neq,.bool a,.bool b=>if bt=1 then some (.bool (!(a==b)),True) else none
 | .eql,.ints l,.nils=>if bt=2 then some (.bool false,0<l.length) else none
 | .eql,.bools l,.nils=>if bt=2 then some (.bool false,0<l.length) else none
 | .neq,.ints l,.nils=>if bt=2 then some (.bool true,0<l.length) else none
 | .shl,.int k a,.int _ b=>some (.int k (k.wrap (a*2 ^ b.toNat)),0<=b/\ b<=k.bits)
 | .shr,.int k a,.int _ b=>some (.int k (a/2 ^ b.toNat),0<=b/\ b<=k.bits)
 | .quo,.int k a,.int k' b=>if k=k' then some (.int k (k.wrap (a.tdiv b)),b≠0) else none
 | .rem,.int k a,.int k' b=>if k=k' then some (.int k (a.tmod b),b≠0) else none
 | op,.int k a,.int k' b=>if k=k' then Un op k a b else none
 | _,_,_=>none
def L6 (P:Program) (S:St) (t:TypeId):DV -> Option (DV×Prop)
 | .fp m f=>if Fv P t then (if m=0 then none else some (f 0,True)) else if RS P t m then some (.agg m f,True) else none
 | .ref k j=>match S.h[k]? with
  | some (some (.cells l))=>if Fv P t then (if j<l.length then some (l.getD j .any,True) else none)
   else match P.info? t with
    | some i=>if Ht P t&&decide (j+i.size<=l.length) then some (.agg i.size (GD i.size fun c=>l.getD (j+c) .any),True) else none
    | none=>none
  | _=>none
 | .mp k m i j=>match S.h[k]? with
  | some (some (.ints l))=>if Fv P t&&(m==1)&&(j==0) then some (.int .i64 (l.getD i 0),i<l.length) else none
  | some (some (.bools l))=>if Fv P t&&(m==1)&&(j==0) then some (.bool (l.getD i false),i<l.length) else none
  | some (some (.arr m' n f))=>if Fv P t&&(m==m')&&decide (j<m) then some (f i j,i<n)
   else if RS P t m&&(m==m')&&(j==0) then some (.agg m (f i),i<n) else none
  | some (some (.mo (.sets _ ls _)))=>if Fv P t&&(m==1)&&(j==0) then some (.mri k i,i<ls.length) else none
  | some (some (.mo (.rws ls none)))=>if Fv P t&&(m==1)&&(j==0) then some (.mri k (i+1),i<ls.length) else none
  | _=>none
 | _=>none
def W4 (P:Program) (t:TypeId) (x:DV) (n:Int):Option (DV×Prop):=match x with
 | .ints l=>if Mj P t 1 then some (.fp 1 (fun _=>.int .i64 (l.getD n.toNat 0)),0<=n/\ n<l.length) else none
 | .bools l=>if Mj P t 1 then some (.fp 1 (fun _=>.bool (l.getD n.toNat false)),0<=n/\ n<l.length) else none
 | .sl m c f=>if Mj P t m then some (.fp m (f n.toNat),0<=n/\ n<c) else none
 | .msl k m off c=>if Mj P t m then some (.mp k m (off+n.toNat) 0,0<=n/\ n<c) else none
 | .ref k j=>match RM P t with
  | some (len,sz)=>some (.ref k (j+n.toNat*sz),0<=n/\ n<len)
  | none=>none
 | .mp k m i 0=>match RM P t with
  | some (len,sz)=>if sz=m then some (.mp k m (i+n.toNat) 0,0<=n/\ n<len) else none
  | none=>none
 | .fp m f=>match RM P t with
  | some (len,sz)=>if n.toNat*sz+sz<=m then some (.fp sz (GD sz fun j=>f (n.toNat*sz+j)),0<=n/\ n<len) else none
  | none=>none
 | _=>none
def TJ (P:Program) (t:TypeId) (d:DV):Option (DV×Prop):=match P.underlying t,d with
 | some (.slice _),.nils=>some (.int .i64 0,True)
 | some (.slice _),.ints l=>some (.int .i64 l.length,True)
 | some (.slice _),.bools l=>some (.int .i64 l.length,True)
 | some (.slice _),.sl _ n _=>some (.int .i64 n,True)
 | some (.slice _),.msl _ _ _ n=>some (.int .i64 n,True)
 | some .string,.str s=>some (.int .i64 s.size,True)
 | _,_=>none
def WV (x y:DV):Option (DV×Prop):=match x,y with
 | .int k a,.int _ b=>some (.int k (if b>a then b else a),True)
 | _,_=>none
def WU (x y:DV):Option (DV×Prop):=match x,y with
 | .int k a,.int _ b=>some (.int k (if b<a then b else a),True)
 | _,_=>none
def Ul (P:Program) (S:St) (b:Builtin) (args:List Operand) (iq:List TypeId):Option (DV×Prop):=match b with
 | .len=>match args with
  | [x]=>match iq with
   | [t]=>TJ P t (Ac S.fr x)
   | _=>none
  | _=>none
 | .max=>match args with
  | [x,y]=>WV (Ac S.fr x) (Ac S.fr y)
  | _=>none
 | .min=>match args with
  | [x,y]=>WU (Ac S.fr x) (Ac S.fr y)
  | _=>none
 | _=>none
def NS (P:Program) (S:St):Op -> Option (DV×Prop)
 | .move x=>some (Ac S.fr x,True)
 | .assign x=>some (Ac S.fr x,True)
 | .pick c a b=>match Ac S.fr c with
  | .bool true=>some (Ac S.fr a,True)
  | .bool false=>some (Ac S.fr b,True)
  | _=>none
 | .load t x=>L6 P S t (Ac S.fr x)
 | .binOp op t x y _=>Uo (OT P t) op (Ac S.fr x) (Ac S.fr y)
 | .unOp op _ x=>match op,Ac S.fr x with
  | .not,.bool b=>some (.bool !b,True)
  | .neg,.int k n=>some (.int k (k.wrap (0-n)),True)
  | .xor,.int k n=>some (.int k (bits .xor k (if k.signed then-1 else k.max) n),True)
  | _,_=>none
 | .convert s d x=>match P.underlying s,Wv P d,Ac S.fr x with
  | some _,some k,.int _ n=>some (.int k (k.wrap n),True)
  | _,_,_=>none
 | .nilCheck x=>match Ac S.fr x with
  | .fp m f=>some (.fp m f,True)
  | .ref k j=>some (.ref k j,True)
  | .mp k m i j=>some (.mp k m i j,True)
  | .fn g m c=>some (.fn g m c,True)
  | _=>none
 | .fieldAddr s x f=>match UK P s f with
  | some (off,sz)=>match Ac S.fr x with
   | .fp m g=>if off+sz<=m then some (.fp sz (GD sz fun j=>g (off+j)),True) else none
   | .ref k j=>some (.ref k (j+off),True)
   | .mp k m i j=>some (.mp k m i (j+off),True)
   | _=>none
  | none=>none
 | .indexAddr t x i=>match Ac S.fr i with
  | .int _ n=>W4 P t (Ac S.fr x) n
  | _=>none
 | .extract x i=>match Ac S.fr x with
  | .tup m f=>if i<m then some (f i,True) else none
  | _=>none
 | .makeFunc (.func g) first c=>if first.size=0 then some (.fn g c.size (GD c.size fun j=>Ac S.fr (c.getD j (.const undef))),True) else none
 | .call c=>match c.callee with
  | .builtin b=>Ul P S b c.args.toList c.argTypes.toList
  | _=>none
 | _=>none
section
variable {P:Program} {Γ:BB} {N:Nat -> Prop} {S:St} {ρ:List AN} {a:Act} {w:World}
theorem Pm {M:Nat -> Prop} (v:Value):AO M w (FC v) ρ v:=by
 unfold FC;split
 ·rfl
 ·rfl
 ·rfl
 ·rfl
 ·split
  ·exact ⟨rfl,by assumption⟩
  ·trivial
theorem Bh (R:Ad P Γ N S ρ a w) (x:Operand):AO (MS N S.h ρ) w (Ac S.fr x) ρ (a.eval x):=by
 cases x with
 | tmp t=>exact R.fr.at t
 | const v=>exact Pm v
 | global g=>trivial
 | func f=>exact ⟨#[],rfl,rfl,fun j hj=>absurd hj (yN j)⟩
theorem PH {t:TypeId} {d:TypeDesc} (h:P.underlying t=some d):(isAgg t).run P w= .ok (Ht P t) w:=by
 unfold isAgg Ht;rw [yT,yp h];simp only [Result.andThen,h];cases d <;> rfl
theorem IV {t:TypeId} {i:TypeInfo} (h:P.info? t=some i):(sizeOf t).run P w= .ok i.size w:=by
 rw [run_sizeOf w h];unfold Program.cellsOf;rw [h];rfl
theorem lz {t:TypeId} {b:Addr} {u:Value} (h:Fv P t=true) (hc:w.cell? b=some u):(loadVar t b).run P w= .ok u w:=by
 unfold Fv at h;simp only [yD,zAl,zL] at h;obtain ⟨⟨d,hd⟩,hn⟩:=h;unfold loadVar;rw [yT,PH hd];simp only [Result.andThen,hn,yt,z7];simp [load,Sem.run,hc]
theorem dI {t:TypeId} (h:Ht P t=true): ∃ d,P.underlying t=some d:=by
 unfold Ht at h;split at h
 ·exact ⟨_,by assumption⟩
 ·exact ⟨_,by assumption⟩
 ·cases h
theorem mA {t:TypeId} {b o:Nat} {i:TypeInfo} (h:Ht P t=true) (hi:P.info? t=some i) (g:Nat -> Value) (hc: ∀ j,j<i.size -> w.cell? ⟨b,o+j,none⟩=some (g j)):
 (loadVar t ⟨b,o,none⟩).run P w= .ok (.agg ((List.range i.size).map g).toArray) w:=by
 obtain ⟨d,hd⟩:=dI h;unfold loadVar;rw [yT,PH hd];simp only [Result.andThen,h,zS];rw [yT,IV hi];simp only [Result.andThen]
 rw [yT,run_loadCells w ⟨b,o,none⟩ i.size g (fun j hj=>by
  have:=hc j hj;unfold Addr.add
  by_cases e:j=0
  ·subst e;simpa using this
  ·simpa [e] using this)]
 simp [Result.andThen]
def Keep (N:Nat -> Prop) (w W:World):Prop:=∀ b o u,¬ N b -> w.cell? ⟨b,o,none⟩=some u -> W.cell? ⟨b,o,none⟩=some u
theorem Keep.ofExt {N:Nat -> Prop} {w W:World} (h:At w W):Keep N w W:=fun _ _ _ _ hc=>h.cell hc
def Yl (P:Program) (N:Nat -> Prop) (w:World) (M:Nat -> Prop) (ρ:List AN) (s:Sem Value) (d:DV):Prop:=∃ v,(∀ W,Keep N w W -> s.run P W= .ok v W)/\ AO M w d ρ v
theorem NL {k:Nat} {o:DO} {p:AN} {n:Nat} {Rw:Nat -> Value -> Prop} (R:Ad P Γ N S ρ a w) (hk:S.h[k]? =some (some o)) (hp:ρ[k]? =some p) (hr:Ai w p n Rw): ¬ N p.blk:=(R.hr.cel k o p p.blk hk hp (by rw [hr.1])).2.1
theorem UD {M:Nat -> Prop} {m:Nat} {f:Nat -> DV} {v:Value} (h:AO M w (.fp m f) ρ v): ∃ b o,v= .pointer (some ⟨b,o,none⟩)/\ ∀ j,j<m -> ¬ M b/\ ∃ u,w.cell? ⟨b,o+j,none⟩=some u/\ AO M w (f j) [] u:=h
theorem PU {M:Nat -> Prop} {d:DV} {v:Value} (h:AO M w d [] v):AO M w d ρ v:=h.out d ⟨fun _ _ _ _=>rfl,fun _ h=>.inl h,fun k p hk=>by simp at hk⟩
theorem Vj {t:TypeId} {b:Addr} {W:World}:(Instr.loadAt t (.pointer (some b))).run P W=(loadVar t b).run P W:=rfl
theorem L5 {M:Nat -> Prop} {t:TypeId} {b o:Nat} {u:Value} {d:DV} (hN: ¬ N b) (h1:Fv P t=true) (hc:w.cell? ⟨b,o,none⟩=some u) (hr:AO M w d ρ u):Yl P N w M ρ (Instr.loadAt t (.pointer (some ⟨b,o,none⟩))) d:=
 ⟨u,fun W hE=>by rw [Vj];exact lz h1 (hE _ _ _ hN hc),hr⟩
theorem Wf {M:Nat -> Prop} {t:TypeId} {i:TypeInfo} {b o:Nat} {f:Nat -> DV} (hN:0<i.size -> ¬ N b) (h1:Ht P t=true) (hi:P.info? t=some i) (h: ∀ j,j<i.size -> ∃ u,w.cell? ⟨b,o+j,none⟩=some u/\ AO M w (f j) ρ u):
 Yl P N w M ρ (Instr.loadAt t (.pointer (some ⟨b,o,none⟩))) (.agg i.size f):=by
 obtain ⟨g,hg⟩: ∃ g:Nat -> Value,∀ j,j<i.size -> w.cell? ⟨b,o+j,none⟩=some (g j)/\ AO M w (f j) ρ (g j):=by
  refine ⟨fun j=>(w.cell? ⟨b,o+j,none⟩).getD undef,fun j hj=>?_⟩;obtain ⟨u,h1,h2⟩:=h j hj;simp [h1,h2]
 refine ⟨_,fun W hE=>by rw [Vj];exact mA h1 hi g fun j hj=>hE _ _ _ (hN (by omega)) (hg j hj).1,_,rfl,by simp,fun j hj=>?_⟩;exact ⟨g j,by simp [hj],(hg j hj).2⟩
theorem Y1 {t:TypeId} {m:Nat} (h:RS P t m=true):Ht P t=true/\ ∃ i,P.info? t=some i/\ i.size=m:=by
 unfold RS at h;simp only [yD] at h;refine ⟨h.1,?_⟩;have h2:=h.2;split at h2
 ·exact ⟨_,by assumption,by simpa using h2⟩
 ·cases h2
theorem cc (R:Ad P Γ N S ρ a w) {t:TypeId} {x d:DV} {vc:Prop} {v:Value} (hx:AO (MS N S.h ρ) w x ρ v) (h:L6 P S t x=some (d,vc)) (hv:vc):
 Yl P N w (MS N S.h ρ) ρ (Instr.loadAt t v) d:=by
 unfold L6 at h;split at h
 ·rename_i m f;obtain ⟨b,o,rfl,hc⟩:=UD hx;split at h
  ·rename_i h1;split at h
   ·cases h
   ·cases h;obtain ⟨hM,u,g1,g2⟩:=hc 0 (by omega);exact L5 (fun h=>hM (.inl h)) h1 g1 (PU g2)
  ·split at h
   ·rename_i h2;cases h;obtain ⟨h3,i,hi,rfl⟩:=Y1 h2;exact Wf (fun hp h=>(hc 0 hp).1 (.inl h)) h3 hi fun j hj=>let ⟨_,u,g1,g2⟩:=hc j hj;⟨u,g1,PU g2⟩
   ·cases h
 ·rename_i k j;obtain ⟨p,hp,rfl⟩:=hx;split at h
  ·rename_i l hk;obtain ⟨p',BJ,hr⟩:=R.hr.obj k _ hk;have e:p'=p:=yH (BJ.symm.trans hp);subst e;split at h
   ·rename_i h1;split at h
    ·rename_i hj;cases h;obtain ⟨u,g1,g2⟩:=Ai.cell hr hj;exact L5 (NL R hk hp hr) h1 g1 g2
    ·cases h
   ·split at h
    ·rename_i i hi;split at h
     ·rename_i h2;cases h;simp only [yD,yd] at h2;refine Wf (fun _=>NL R hk hp hr) h2.1 hi fun c hc=>?_
      obtain ⟨u,g1,g2⟩:=Ai.cell hr (j:=j+c) (by omega);exact ⟨u,by rw [yu];exact g1,KJ hc g2⟩
     ·cases h
    ·cases h
  ·cases h
 ·rename_i k m i j;obtain ⟨p,hp,rfl⟩:=hx;split at h
  ·rename_i l hk;obtain ⟨p',BJ,hr⟩:=R.hr.obj k _ hk;have e:p'=p:=yH (BJ.symm.trans hp);subst e;split at h
   ·rename_i h1;cases h;simp only [yD,yo] at h1;obtain ⟨⟨h1,rfl⟩,rfl⟩:=h1;obtain ⟨u,g1,g2⟩:=Ai.cell hr hv;exact L5 (NL R hk hp hr) h1 (by simpa using g1) g2
   ·cases h
  ·rename_i l hk;obtain ⟨p',BJ,hr⟩:=R.hr.obj k _ hk;have e:p'=p:=yH (BJ.symm.trans hp);subst e;split at h
   ·rename_i h1;cases h;simp only [yD,yo] at h1;obtain ⟨⟨h1,rfl⟩,rfl⟩:=h1;obtain ⟨u,g1,g2⟩:=Ai.cell hr hv;exact L5 (NL R hk hp hr) h1 (by simpa using g1) g2
   ·cases h
  ·rename_i m' n f hk;obtain ⟨p',BJ,hr⟩:=R.hr.obj k _ hk;have e:p'=p:=yH (BJ.symm.trans hp);subst e
   have W0: ∀ {i j:Nat},i<n -> j<m' -> i*m'+j<n*m':=fun {i j} hi hj=>by
    have:(i+1)*m'<=n*m':=zh _ hi;rw [zAt] at this;omega
   have dv: ∀ {i j:Nat},j<m' -> (i*m'+j)/m'=i/\ (i*m'+j) % m'=j:=fun {i j} hj=>by
    have hm:0<m':=by omega
    constructor
    ·rw [zq,Nat.mul_add_div hm,zA1 hj,zAJ]
    ·rw [zq,Nat.mul_add_mod,zAD hj]
   split at h
   ·rename_i h1;cases h;simp only [yD,yo,yd] at h1;obtain ⟨⟨h1,rfl⟩,hj⟩:=h1;obtain ⟨u,g1,g2⟩:=Ai.cell hr (W0 hv hj);rw [(dv hj).1,(dv hj).2] at g2;exact L5 (NL R hk hp hr) h1 g1 (PU g2)
   ·split at h
    ·rename_i h2;cases h;simp only [yD,yo] at h2;obtain ⟨⟨h2,rfl⟩,rfl⟩:=h2;obtain ⟨h3,ti,hi,rfl⟩:=Y1 h2;refine Wf (fun _=>NL R hk hp hr) h3 hi fun c hc=>?_
     obtain ⟨u,g1,g2⟩:=Ai.cell hr (W0 hv hc);rw [(dv hc).1,(dv hc).2] at g2;exact ⟨u,by simpa [yu] using g1,PU g2⟩
    ·cases h
  ·rename_i n ls lk hk;obtain ⟨p',BJ,vs,hS⟩:=R.hr.obj k _ hk;have e:p'=p:=yH (BJ.symm.trans hp);subst e;split at h
   ·rename_i h1;cases h;simp only [yD,yo] at h1;obtain ⟨⟨h1,rfl⟩,rfl⟩:=h1;obtain ⟨cs,tt,q1,q2,q3,q4⟩:=hS.row;have hi:i<vs.size:=by rw [hS.size];exact hv
    have q5:=q4 i hv;rw [yh hi] at q5;refine L5 (u:=vs[i]) (R.hr.cel k _ p' p'.blk hk hp hS.blk).2.1 h1 ?_ ⟨p',vs,hp,hS.val,yh hi⟩;unfold World.cell?;simp [q1,q5]
   ·cases h
  ·rename_i ls hk;obtain ⟨p',BJ,vs,hS⟩:=R.hr.obj k _ hk;have e:p'=p:=yH (BJ.symm.trans hp);subst e;split at h
   ·rename_i h1;cases h;simp only [yD,yo] at h1;obtain ⟨⟨h1,rfl⟩,rfl⟩:=h1;obtain ⟨cs,tt,q1,q2,q3,q4⟩:=hS.row;have hi:i+1<vs.size:=by rw [hS.size];omega
    have q5:=q4 i hv;rw [yh hi] at q5;refine L5 (u:=vs[i+1]) (R.hr.cel k _ p' p'.blk hk hp hS.blk).2.1 h1 ?_ ⟨p',vs,hp,hS.val,yh hi⟩;unfold World.cell?;simp [q1,q5]
   ·cases h
  ·cases h
 ·cases h
theorem Yl.pure {M:Nat -> Prop} {s:Sem Value} {d:DV} {v:Value} (h: ∀ W,s.run P W= .ok v W) (hr:AO M w d ρ v):Yl P N w M ρ s d:=⟨v,fun W _=>h W,hr⟩
theorem fg {t:TypeId} {m:Nat} (h:Mj P t m=true):P.underlying t=some (.slice (P.elem t))/\ (∃ i,P.info? (P.elem t)=some i/\ i.size=m)/\ m≠0:=by
 unfold Mj at h;split at h
 ·rename_i e he;have:P.elem t=e:=by unfold Program.elem;rw [he]
  rw [this];refine ⟨he,?_⟩;split at h
  ·simp only [yD,yo,zc] at h;exact ⟨⟨_,by assumption,h.1⟩,h.2⟩
  ·cases h
 ·cases h
theorem Yo {t:TypeId} {n m:Nat} (h:RM P t=some (n,m)):P.underlying t=some (.array (P.arrayLen t) (P.elem t))/\ P.arrayLen t=n/\ ∃ i,P.info? (P.elem t)=some i/\ i.size=m:=by
 unfold RM at h;split at h
 ·rename_i n' e he;have h1:P.elem t=e:=by unfold Program.elem;rw [he]
  have h2:P.arrayLen t=n':=by unfold Program.arrayLen;rw [he]
  rw [h1,h2];split at h
  ·split at h
   ·cases h
   ·cases h;exact ⟨he,rfl,_,by assumption,rfl⟩
  ·cases h
 ·cases h
theorem IL (b o n:Nat):Addr.add ⟨b,o,none⟩ n=⟨b,o+n,none⟩:=by
 unfold Addr.add
 by_cases h:n=0
 ·subst h;rfl
 ·simp [h]
theorem SG {t:TypeId} {m b o len cap:Nat} {k:IntKind} {n:Int} (h:Mj P t m=true) (h1:0<=n) (h2:n<len) (W:World):
 (Instr.indexAt t (.slice (some ⟨b,o,none⟩) len cap) (.int k n)).run P W= .ok (.pointer (some ⟨b,o+n.toNat*m,none⟩)) W:=by
 obtain ⟨hu,⟨i,hi,rfl⟩,_⟩:=fg h;rw [run_indexAt_slice W t _ len cap k n hu,xw ⟨h1,h2⟩,IV hi];simp only [Result.andThen,IL]
theorem qs (R:Ad P Γ N S ρ a w) {t:TypeId} {x d:DV} {vc:Prop} {v:Value} {k:IntKind} {n:Int} (hx:AO (MS N S.h ρ) w x ρ v) (h:W4 P t x n=some (d,vc)) (hv:vc):
 Yl P N w (MS N S.h ρ) ρ (Instr.indexAt t v (.int k n)) d:=by
 unfold W4 at h;split at h
 ·rename_i l;obtain ⟨ad,cap,rfl,h1,h2,h3⟩:=hx;split at h
  ·rename_i he;cases h;obtain ⟨b,o,rfl,hM,hc⟩:=h3 n.toNat (by omega);refine Yl.pure (fun W=>SG he hv.1 hv.2 W) ⟨b,o+n.toNat*1,rfl,fun j hj=>⟨hM,_,?_,rfl⟩⟩;have:j=0:=by omega
   subst this;simpa using hc
  ·cases h
 ·rename_i l;obtain ⟨ad,cap,rfl,h1,h2,h3⟩:=hx;split at h
  ·rename_i he;cases h;obtain ⟨b,o,rfl,hM,hc⟩:=h3 n.toNat (by omega);refine Yl.pure (fun W=>SG he hv.1 hv.2 W) ⟨b,o+n.toNat*1,rfl,fun j hj=>⟨hM,_,?_,rfl⟩⟩;have:j=0:=by omega
   subst this;simpa using hc
  ·cases h
 ·rename_i m c f;obtain ⟨ad,cap,rfl,h1,h2,h3⟩:=hx;split at h
  ·rename_i he;cases h;have hm:=(fg he).2;obtain ⟨b,o,u,rfl,hM,hc,hr⟩:=h3 n.toNat 0 (by omega) (by omega);refine Yl.pure (fun W=>SG he hv.1 hv.2 W) ⟨b,o+n.toNat*m,rfl,fun j hj=>?_⟩;obtain ⟨b',o',u',e,uW,Mb,DC⟩:=h3 n.toNat j (by omega) hj;cases e;exact ⟨uW,u',by rw [yu];exact Mb,DC⟩
  ·cases h
 ·rename_i k' m off c;obtain ⟨p,cap,hp,rfl,h1,h2,h3⟩:=hx;split at h
  ·rename_i he;cases h;exact Yl.pure (fun W=>SG he hv.1 hv.2 W) ⟨p,hp,by rw [yu,←zr];rfl⟩
  ·cases h
 ·rename_i k' j;obtain ⟨p,hp,rfl⟩:=hx;split at h
  ·rename_i len sz ha;cases h;obtain ⟨hu,hl,i,hi,rfl⟩:=Yo ha;refine Yl.pure (fun W=>?_) ⟨p,hp,rfl⟩;rw [run_indexAt_array W t _ k n hu,xw ⟨hv.1,by rw [hl];exact hv.2⟩,IV hi];simp only [Result.andThen,IL,yu]
  ·cases h
 ·rename_i k' m i0;obtain ⟨p,hp,rfl⟩:=hx;split at h
  ·rename_i len sz ha;split at h
   ·rename_i A9;subst A9;cases h;obtain ⟨hu,hl,i,hi,rfl⟩:=Yo ha;refine Yl.pure (fun W=>?_) ⟨p,hp,rfl⟩;rw [run_indexAt_array W t _ k n hu,xw ⟨hv.1,by rw [hl];exact hv.2⟩,IV hi];simp only [Result.andThen,IL,yu,zr,yU,zAJ]
   ·cases h
  ·cases h
 ·rename_i m f;obtain ⟨b,o,rfl,hc⟩:=UD hx;split at h
  ·rename_i len sz ha;split at h
   ·rename_i A9;cases h;obtain ⟨hu,hl,i,hi,rfl⟩:=Yo ha;refine Yl.pure (fun W=>?_) ⟨b,o+n.toNat*i.size,rfl,fun j hj=>?_⟩
    ·rw [run_indexAt_array W t _ k n hu,xw ⟨hv.1,by rw [hl];exact hv.2⟩,IV hi];simp only [Result.andThen,IL]
    ·obtain ⟨hM,u,h1,h2⟩:=hc (n.toNat*i.size+j) (by omega);exact ⟨hM,u,by rw [yu];exact h1,KJ hj h2⟩
   ·cases h
  ·cases h
 ·cases h
theorem mG {op:BinOp} {k:IntKind} {x y:Int} {d:DV} {vc:Prop} (t:TypeId) (h:Un op k x y=some (d,vc)) (M:Nat -> Prop):Yl P N w M ρ (binOp op t (.int k x) (.int k y)) d:=by
 cases op <;> simp only [Un,zM,zZ,reduceCtorEq] at h <;> obtain ⟨rfl,-⟩:=h
 ·exact Yl.pure (fun W=>by rw [binOp_add];rfl) rfl
 ·exact Yl.pure (fun W=>by rw [binOp_sub];rfl) rfl
 ·exact Yl.pure (fun W=>by rw [binOp_mul];rfl) rfl
 ·exact Yl.pure (fun W=>by rw [binOp_and];rfl) rfl
 ·exact Yl.pure (fun W=>by rw [binOp_or];rfl) rfl
 ·exact Yl.pure (fun W=>by rw [binOp_xor];rfl) rfl
 ·exact Yl.pure (fun W=>by rw [binOp_andNot];rfl) rfl
 ·exact Yl.pure (fun W=>by rw [binOp_eql];rfl) rfl
 ·exact Yl.pure (fun W=>by rw [binOp_neq];rfl) rfl
 ·exact Yl.pure (fun W=>by rw [binOp_lss];rfl) rfl
 ·exact Yl.pure (fun W=>by rw [binOp_leq];rfl) rfl
 ·exact Yl.pure (fun W=>by rw [binOp_gtr];rfl) rfl
 ·exact Yl.pure (fun W=>by rw [binOp_geq];rfl) rfl
theorem vd {op:BinOp} {t:TypeId} {x y:Operand} {k:IntKind} {n:Int} {v:Value}:eqGuard op t x y (.int k n) v=pure ():=by
 cases op <;> rfl
theorem w5 {M:Nat -> Prop} {op:BinOp} {t:TypeId} {x y:DV} {vx vy:Value} {d:DV} {vc:Prop} (ox oy:Operand) (hx:AO M w x ρ vx) (hy:AO M w y ρ vy) (h:Uo (OT P t) op x y=some (d,vc)) (hv:vc):
 Yl P N w M ρ (do eqGuard op t ox oy vx vy;binOp op t vx vy) d:=by
 have key: ∀ {k k':IntKind} {n n':Int},vx= .int k n -> vy= .int k' n' -> Yl P N w M ρ (binOp op t (.int k n) (.int k' n')) d -> Yl P N w M ρ (do eqGuard op t ox oy vx vy;binOp op t vx vy) d:=by
  intro k k' n n' e1 e2 hY;subst e1;subst e2;rw [vd];exact hY
 have hb:OT P t=1 -> P.underlying t=some .bool:=fun h=>by
  unfold OT at h;split at h
  ·assumption
  ·cases h
  ·cases h
 have XD:OT P t=2 -> ∃ e,P.underlying t=some (.slice e):=fun h=>by
  unfold OT at h;split at h
  ·cases h
  ·exact ⟨_,by assumption⟩
  ·cases h
 have fW: ∀ {e:TypeId} {a:Addr} {l c:Nat} (W:World),P.underlying t=some (.slice e) -> (do eqGuard .eql t ox oy (.slice (some a) l c) (.slice none 0 0);binOp .eql t (.slice (some a) l c) (.slice none 0 0):Sem Value).run P W= .ok (.bool false) W:=by
  intro e a l c W hu;have h1:eqGuard .eql t ox oy (.slice (some a) l c) (.slice none 0 0)=pure ():=rfl;rw [h1]
  show (binOp .eql t (.slice (some a) l c) (.slice none 0 0)).run P W=_
  simp only [binOp];simp [run_equal_slice_nil W t e (some a) l c hu]
 have oU: ∀ {e:TypeId} {a:Addr} {l c:Nat} (W:World),P.underlying t=some (.slice e) -> (do eqGuard .neq t ox oy (.slice (some a) l c) (.slice none 0 0);binOp .neq t (.slice (some a) l c) (.slice none 0 0):Sem Value).run P W= .ok (.bool true) W:=by
  intro e a l c W hu;have h1:eqGuard .neq t ox oy (.slice (some a) l c) (.slice none 0 0)=pure ():=rfl;rw [h1]
  show (binOp .neq t (.slice (some a) l c) (.slice none 0 0)).run P W=_
  simp only [binOp];simp [run_equal_slice_nil W t e (some a) l c hu]
 unfold Uo at h;split at h
 ·split at h
  ·rename_i e;cases h;have e1:vx= .bool _:=hx;have e2:vy= .bool _:=hy;subst e1;subst e2;exact Yl.pure (fun W=>run_eql_bool W t _ _ (hb e)) rfl
  ·cases h
 ·split at h
  ·rename_i e;cases h;have e1:vx= .bool _:=hx;have e2:vy= .bool _:=hy;subst e1;subst e2;exact Yl.pure (fun W=>run_neq_bool W t _ _ (hb e)) rfl
  ·cases h
 ·split at h
  ·rename_i e;cases h;obtain ⟨e0,he⟩:=XD e;obtain ⟨ad,cap,rfl,h1,h2,h3⟩:=hx;obtain ⟨b,o,rfl,_⟩:=h3 0 hv;have e2:vy= .slice none 0 0:=hy;subst e2;exact Yl.pure (fun W=>fW W he) rfl
  ·cases h
 ·split at h
  ·rename_i e;cases h;obtain ⟨e0,he⟩:=XD e;obtain ⟨ad,cap,rfl,h1,h2,h3⟩:=hx;obtain ⟨b,o,rfl,_⟩:=h3 0 hv;have e2:vy= .slice none 0 0:=hy;subst e2;exact Yl.pure (fun W=>fW W he) rfl
  ·cases h
 ·split at h
  ·rename_i e;cases h;obtain ⟨e0,he⟩:=XD e;obtain ⟨ad,cap,rfl,h1,h2,h3⟩:=hx;obtain ⟨b,o,rfl,_⟩:=h3 0 hv;have e2:vy= .slice none 0 0:=hy;subst e2;exact Yl.pure (fun W=>oU W he) rfl
  ·cases h
 ·cases h;refine key hx hy ?_;exact Yl.pure (fun W=>by rw [binOp_shl,shift_shl _ _ _ _ hv.1 hv.2];rfl) rfl
 ·cases h;refine key hx hy ?_;exact Yl.pure (fun W=>by rw [binOp_shr,shift_shr _ _ _ _ hv.1 hv.2];rfl) rfl
 ·split at h
  ·rename_i e;subst e;cases h;exact key hx hy (Yl.pure (fun W=>by rw [binOp_quo,Op.intDiv,yK hv];rfl) rfl)
  ·cases h
 ·split at h
  ·rename_i e;subst e;cases h;exact key hx hy (Yl.pure (fun W=>by rw [binOp_rem,Op.intDiv,yK hv];rfl) rfl)
  ·cases h
 ·split at h
  ·rename_i e;subst e;exact key hx hy (mG t h M)
  ·cases h
 ·cases h
theorem Gu {ρ':Operand -> Value} {o:Oper} {s:Sem Value} {M:Nat -> Prop} {d:DV} (he:execOp ρ' o=(do pure (.value (←s)))) (h:Yl P N w M ρ s d): ∃ v,(∀ W,Keep N w W -> (execOp ρ' o).run P W= .ok (.value v) W)/\ AO M w d ρ v:=by
 obtain ⟨v,h1,h2⟩:=h;refine ⟨v,fun W hE=>?_,h2⟩;rw [he,yT,h1 W hE];rfl
theorem vL {s:TypeId} {f off sz:Nat} (h:UK P s f=some (off,sz)): ∃ fs fd i,P.underlying s=some (.struct fs)/\ fs[f]? =some fd/\ fd.offset=off/\ P.info? fd.type=some i/\ i.size=sz/\ sz≠0:=by
 unfold UK at h;split at h
 ·rename_i fs hs;split at h
  ·rename_i fd hf;split at h
   ·rename_i i hi;split at h
    ·cases h
    ·cases h;exact ⟨fs,fd,i,hs,hf,rfl,hi,rfl,by assumption⟩
   ·cases h
  ·cases h
 ·cases h
theorem Vk {s:TypeId} {f off sz b o:Nat} (h:UK P s f=some (off,sz)) (W:World):(Instr.fieldAt s (.pointer (some ⟨b,o,none⟩)) f).run P W= .ok (.pointer (some ⟨b,o+off,none⟩)) W:=by
 obtain ⟨fs,fd,i,h1,h2,rfl,h4,rfl,h6⟩:=vL h;unfold Instr.fieldAt;rw [yT,yp h1];simp only [Result.andThen,h2,Instr.sureAddr];simp only [yT,zAi,Result.andThen,fieldPlace,IV h4,yK h6,IL]
theorem qV {t:TypeId} {k:IntKind} (h:Wv P t=some k):P.underlying t=some (.int k):=by
 unfold Wv at h;split at h
 ·cases h;assumption
 ·cases h
theorem PG {t ty:TypeId} {e:TypeId} {ad:Option Addr} {n c:Nat} (h:P.underlying t=some (.slice e)) (W:World):(Builtin.len_ #[t] ty #[.slice ad n c]).run P W= .ok (.int .i64 n) W:=by
 simp [Builtin.len_,yp h,goInt]
theorem mB {t ty:TypeId} {s:ByteArray} (h:P.underlying t=some .string) (W:World):(Builtin.len_ #[t] ty #[.string s]).run P W= .ok (.int .i64 s.size) W:=by
 simp [Builtin.len_,yp h,goInt]
theorem YG {M:Nat -> Prop} {ρ':Operand -> Value} {o:Oper} {c:Call} {b:Builtin} {d:DV} {s:Sem Value} (ho:o.op= .call c) (hc:c.callee= .builtin b)
 (hb:builtin b c.argTypes o.type (c.args.map fun | .const _=>true | _=>false) (c.args.map ρ')=(do pure (.value (←s)))) (h:Yl P N w M ρ s d):
 ∃ v,(∀ W,Keep N w W -> (execOp ρ' o).run P W= .ok (.value v) W)/\ AO M w d ρ v:=by
 refine Gu (s:=s) ?_ h;rw [←hb];unfold execOp;rw [ho]
 show (resolve ρ' c o.type>>=fun d=>invoke d.target d.args)=_
 unfold resolve;rw [hc];rfl
theorem pk {M:Nat -> Prop} {t ty:TypeId} {x d:DV} {vc:Prop} {v:Value} (hx:AO M w x ρ v) (h:TJ P t x=some (d,vc)):Yl P N w M ρ (Builtin.len_ #[t] ty #[v]) d:=by
 unfold TJ at h;split at h
 ·rename_i e' hu;cases h;rw [show v=_ from hx];exact Yl.pure (fun W=>PG hu W) rfl
 ·rename_i e' l hu;cases h;obtain ⟨ad,cap,rfl,_⟩:=hx;exact Yl.pure (fun W=>PG hu W) rfl
 ·rename_i e' l hu;cases h;obtain ⟨ad,cap,rfl,_⟩:=hx;exact Yl.pure (fun W=>PG hu W) rfl
 ·rename_i e' m n f hu;cases h;obtain ⟨ad,cap,rfl,_⟩:=hx;exact Yl.pure (fun W=>PG hu W) rfl
 ·rename_i e' k m off n hu;cases h;obtain ⟨p,cap,_,rfl,_⟩:=hx;exact Yl.pure (fun W=>PG hu W) rfl
 ·rename_i s hu;cases h;rw [show v=_ from hx];exact Yl.pure (fun W=>mB hu W) rfl
 ·cases h
theorem ZS {α:Type} {l:Array α} {x:α} (h:l.toList= [x]):l= #[x]:=by cases l;simp at h;rw [h]
theorem Ri {α:Type} {l:Array α} {x y:α} (h:l.toList= [x,y]):l= #[x,y]:=by cases l;simp at h;rw [h]
theorem wt (R:Ad P Γ N S ρ a w) (o:Oper) {c:Call} {b:Builtin} {d:DV} {vc:Prop} (ho:o.op= .call c) (hc:c.callee= .builtin b) (h:Ul P S b c.args.toList c.argTypes.toList=some (d,vc)):
 ∃ v,(∀ W,Keep N w W -> (execOp a.eval o).run P W= .ok (.value v) W)/\ AO (MS N S.h ρ) w d ρ v:=by
 have Dk:=fun x=>Bh R x
 unfold Ul at h;split at h
 ·split at h
  ·rename_i x ha;split at h
   ·rename_i t ht;exact YG (s:=Builtin.len_ #[t] o.type #[a.eval x]) ho hc (by rw [ZS ha,ZS ht];simp [builtin]) (pk (Dk x) h)
   ·cases h
  ·cases h
 ·split at h
  ·rename_i x y ha;have hx:=Dk x;have hy:=Dk y;unfold WV at h;split at h
   ·rename_i k n k' n' e1 e2;cases h;rw [e1] at hx;rw [e2] at hy;refine YG (s:=Builtin.max_ c.argTypes o.type #[a.eval x,a.eval y]) ho hc (by rw [Ri ha];simp [builtin]) ?_;rw [show a.eval x=_ from hx,show a.eval y=_ from hy];exact Yl.pure (fun W=>by simp [Builtin.max_,Builtin.max2]) rfl
   ·cases h
  ·cases h
 ·split at h
  ·rename_i x y ha;have hx:=Dk x;have hy:=Dk y;unfold WU at h;split at h
   ·rename_i k n k' n' e1 e2;cases h;rw [e1] at hx;rw [e2] at hy;refine YG (s:=Builtin.min_ c.argTypes o.type #[a.eval x,a.eval y]) ho hc (by rw [Ri ha];simp [builtin]) ?_;rw [show a.eval x=_ from hx,show a.eval y=_ from hy];exact Yl.pure (fun W=>by simp [Builtin.min_,Builtin.min2]) rfl
   ·cases h
  ·cases h
 ·cases h
theorem bT (R:Ad P Γ N S ρ a w) (o:Oper) {d:DV} {vc:Prop} (h:NS P S o.op=some (d,vc)) (hv:vc):
 ∃ v,(∀ W,Keep N w W -> (execOp a.eval o).run P W= .ok (.value v) W)/\ AO (MS N S.h ρ) w d ρ v:=by
 have Dk:=fun x=>Bh R x
 unfold NS at h;split at h
 ·rename_i x ho;cases h;exact ⟨a.eval x,fun W _=>by unfold execOp;rw [ho];rfl,Dk x⟩
 ·rename_i x ho;cases h;exact ⟨a.eval x,fun W _=>by unfold execOp;rw [ho];rfl,Dk x⟩
 ·rename_i c x y ho;have hc:=Dk c;split at h
  ·rename_i e;cases h;rw [e] at hc;exact ⟨a.eval x,fun W _=>by unfold execOp;rw [ho];simp only [show a.eval c= .bool true from hc];rfl,Dk x⟩
  ·rename_i e;cases h;rw [e] at hc;exact ⟨a.eval y,fun W _=>by unfold execOp;rw [ho];simp only [show a.eval c= .bool false from hc];rfl,Dk y⟩
  ·cases h
 ·rename_i t x ho;exact Gu (by unfold execOp;rw [ho]) (cc R (Dk x) h hv)
 ·rename_i op t x y t' ho;exact Gu (by unfold execOp;rw [ho]) (w5 x y (Dk x) (Dk y) h hv)
 ·rename_i op t x ho;have hx:=Dk x;refine Gu (s:=Op.unary op (a.eval x)) (by unfold execOp;rw [ho]) ?_;split at h
  ·rename_i b e;cases h;rw [e] at hx;rw [show a.eval x= .bool b from hx];exact Yl.pure (fun W=>rfl) rfl
  ·rename_i k n e;cases h;rw [e] at hx;rw [show a.eval x= .int k n from hx];exact Yl.pure (fun W=>rfl) rfl
  ·rename_i k n e;cases h;rw [e] at hx;rw [show a.eval x= .int k n from hx];exact Yl.pure (fun W=>rfl) rfl
  ·cases h
 ·rename_i ts td x ho;have hx:=Dk x;split at h
  ·rename_i dd k k' n hs hd e;cases h;rw [e] at hx;refine Gu (s:=convert ts td (a.eval x)) (by unfold execOp;rw [ho]) ?_;rw [show a.eval x= .int k' n from hx];refine Yl.pure (v:=.int k (k.wrap n)) (fun W=>?_) rfl;simp [convert,yp hs,yp (qV hd),Conv.intToInt]
  ·cases h
 ·rename_i x ho;have hx:=Dk x;split at h
  ·rename_i m f e;cases h;rw [e] at hx;obtain ⟨b,oo,hb,hr⟩:=UD hx;exact ⟨_,fun W _=>by unfold execOp;rw [ho];simp only [hb];rfl,b,oo,rfl,hr⟩
  ·rename_i k j e;cases h;rw [e] at hx;obtain ⟨p,hp,hb⟩:=hx;exact ⟨_,fun W _=>by unfold execOp;rw [ho];simp only [hb];rfl,p,hp,rfl⟩
  ·rename_i k m i j e;cases h;rw [e] at hx;obtain ⟨p,hp,hb⟩:=hx;exact ⟨_,fun W _=>by unfold execOp;rw [ho];simp only [hb];rfl,p,hp,rfl⟩
  ·rename_i g m c e;cases h;rw [e] at hx;obtain ⟨lb,hb,hr⟩:=hx;exact ⟨_,fun W _=>by unfold execOp;rw [ho];simp only [hb];rfl,lb,rfl,hr⟩
  ·cases h
 ·rename_i st x f ho;have hx:=Dk x;split at h
  ·rename_i off sz hf;refine Gu (s:=Instr.fieldAt st (a.eval x) f) (by unfold execOp;rw [ho]) ?_;split at h
   ·rename_i m g e;split at h
    ·cases h;rw [e] at hx;obtain ⟨b,oo,hb,hr⟩:=UD hx;rw [hb];refine Yl.pure (fun W=>Vk hf W) ⟨b,_,rfl,fun j hj=>?_⟩;obtain ⟨g1,u,g2,g3⟩:=hr (off+j) (by omega);exact ⟨g1,u,by rw [yu];exact g2,KJ hj g3⟩
    ·cases h
   ·rename_i k j e;cases h;rw [e] at hx;obtain ⟨p,hp,hb⟩:=hx;rw [hb];exact Yl.pure (fun W=>Vk hf W) ⟨p,hp,by rw [yu]⟩
   ·rename_i k m i j e;cases h;rw [e] at hx;obtain ⟨p,hp,hb⟩:=hx;rw [hb];exact Yl.pure (fun W=>Vk hf W) ⟨p,hp,by rw [yu,yu]⟩
   ·cases h
  ·cases h
 ·rename_i t x i ho;have hi:=Dk i;split at h
  ·rename_i k n e;rw [e] at hi;refine Gu (s:=Instr.indexAt t (a.eval x) (a.eval i)) (by unfold execOp;rw [ho]) ?_;rw [show a.eval i= .int k n from hi];exact qs R (Dk x) h hv
  ·cases h
 ·rename_i x i ho;have hx:=Dk x;split at h
  ·rename_i m f e;split at h
   ·rename_i hi;cases h;rw [e] at hx;obtain ⟨cs,hb,hs,hr⟩:=hx;obtain ⟨u,g1,g2⟩:=hr i hi;refine Gu (s:=Instr.extract (a.eval x) i) (by unfold execOp;rw [ho]) ?_;rw [hb];exact Yl.pure (fun W=>by simp [Instr.extract,g1]) g2
   ·cases h
  ·cases h
 ·rename_i g first c ho
  split at h
  ·rename_i hf;cases h;refine ⟨.func (.func g) #[] (c.map a.eval),fun W _=>?_,c.map a.eval,rfl,by simp,fun j hj=>?_⟩
   ·unfold execOp;rw [ho];have:first= #[]:=zAE hf
    subst this;simp [Instr.makeFunc]
   ·refine ⟨a.eval (c.getD j (.const undef)),by simp [hj],KJ hj (Dk _)⟩
  ·cases h
 ·rename_i c ho;split at h
  ·rename_i b hc;exact wt R o ho hc h
  ·cases h
 ·cases h
end
end Go.Proofs.YtgkhhfnhacibcaaGreatDoor
namespace Go.Proofs.YtgkhhfnhacibcaaGreatDoor
abbrev xy:=@List.getElem?_eq_getElem
abbrev yF:=@Option.bind_some
abbrev yQ:=@List.length_replicate
abbrev yc:=@List.length_append
abbrev ye:=@List.getElem?_map
abbrev yj:=@Option.map_some
abbrev yz:=@Nat.mul_one
abbrev zB:=@List.length_cons
abbrev zE:=@List.length_map
abbrev zP:=@Int.le_refl
abbrev zR:=@List.getElem_of_mem
abbrev zT:=@List.eq_nil_of_length_eq_zero
abbrev zi:=@Option.getD_some
abbrev zx:=@Go.heap_alloc_new
abbrev zz:=@Nat.div_lt_iff_lt_mul
abbrev zAZ:=@Nat.mod_lt
abbrev zAj:=@List.getElem?_range
abbrev zAu:=@List.flatMap_cons
abbrev zAv:=@List.size_toArray
abbrev zBE:=@Nat.mul_le_mul
end Go.Proofs.YtgkhhfnhacibcaaGreatDoor
namespace Go.Proofs.YtgkhhfnhacibcaaGreatDoor
open Go.RowKit
def Hp:DV -> Bool
 | .any=>false
 | .agg .. =>false
 | .tup .. =>false
 | .it _=>false
 | .yl _=>false
 | .mri .. =>false
 | _=>true
def ID:DV -> Option (List DV)
 | .agg m f=>some ((List.range m).map f)
 | .any=>none
 | .tup .. =>none
 | .it _=>none
 | .yl _=>none
 | .mri .. =>none
 | d=>some [d]
def NT:DV -> Bool
 | .int .. =>true
 | .bool _=>true
 | .str _=>true
 | .nils=>true
 | .ints _=>true
 | .bools _=>true
 | .sl .. =>true
 | _=>false
section
variable {P:Program} {Γ:BB} {N:Nat -> Prop} {S:St} {ρ:List AN} {a:Act} {w:World}
theorem Sy {M:Nat -> Prop} {d:DV} {v:Value} (h:Hp d=true) (hr:AO M w d ρ v):v.oneCell'=true/\ v.cells= #[v]:=by
 have key:(∀ cs,v≠.agg cs) -> (∀ cs,v≠.tuple cs) -> v.oneCell'=true/\ v.cells= #[v]:=fun h1 h2=>by
  cases v <;> first | exact ⟨rfl,rfl⟩ | exact absurd rfl (h1 _) | exact absurd rfl (h2 _)
 cases d with
 | any=>cases h
 | agg m f=>cases h
 | tup m f=>cases h
 | nils=>exact key (fun cs e=>by rw [hr] at e;cases e) (fun cs e=>by rw [hr] at e;cases e)
 | int k n=>exact key (fun cs e=>by rw [hr] at e;cases e) (fun cs e=>by rw [hr] at e;cases e)
 | bool b=>exact key (fun cs e=>by rw [hr] at e;cases e) (fun cs e=>by rw [hr] at e;cases e)
 | str s=>exact key (fun cs e=>by rw [hr] at e;cases e) (fun cs e=>by rw [hr] at e;cases e)
 | ints l=>obtain ⟨_,_,rfl,_⟩:=hr;exact ⟨rfl,rfl⟩
 | bools l=>obtain ⟨_,_,rfl,_⟩:=hr;exact ⟨rfl,rfl⟩
 | sl m n f=>obtain ⟨_,_,rfl,_⟩:=hr;exact ⟨rfl,rfl⟩
 | fp m f=>obtain ⟨_,_,rfl,_⟩:=hr;exact ⟨rfl,rfl⟩
 | ref k j=>obtain ⟨_,_,rfl⟩:=hr;exact ⟨rfl,rfl⟩
 | msl k m off n=>obtain ⟨_,_,_,rfl,_⟩:=hr;exact ⟨rfl,rfl⟩
 | mp k m i j=>obtain ⟨_,_,rfl⟩:=hr;exact ⟨rfl,rfl⟩
 | fn g m c=>obtain ⟨_,rfl,_⟩:=hr;exact ⟨rfl,rfl⟩
 | it k=>cases h
 | yl l=>cases h
 | mse k m o n=>obtain ⟨_,_,_,_,rfl,_⟩:=hr;exact ⟨rfl,rfl⟩
 | mri k i=>cases h
 | cst u=>obtain ⟨rfl,hu⟩:=hr;cases v <;> first | exact ⟨rfl,rfl⟩ | (cases hu;done)
theorem Q4 {M:Nat -> Prop} {d:DV} {v:Value} {l:List DV} (h:ID d=some l) (hr:AO M w d ρ v):v.cells.size=l.length/\ ∀ j,j<l.length -> ∃ u,v.cells[j]? =some u/\ AO M w (l.getD j .any) ρ u:=by
 have one:Hp d=true -> l= [d] -> v.cells.size=l.length/\ ∀ j,j<l.length -> ∃ u,v.cells[j]? =some u/\ AO M w (l.getD j .any) ρ u:=by
  intro h1 h2;subst h2;rw [(Sy h1 hr).2];refine ⟨rfl,fun j hj=>?_⟩;have:j=0:=by simpa using hj
  subst this;exact ⟨v,rfl,hr⟩
 cases d with
 | any=>cases h
 | tup m f=>cases h
 | it k=>cases h
 | yl l=>cases h
 | mse k m o n=>cases h;exact one rfl rfl
 | mri k i=>cases h
 | cst u=>exact one rfl (yH h).symm
 | agg m f=>
  cases h;obtain ⟨cs,rfl,hs,hc⟩:=hr;refine ⟨by simpa [Value.cells] using hs,fun j hj=>?_⟩;have BX:j<m:=by simpa using hj
  obtain ⟨u,h1,h2⟩:=hc j BX;exact ⟨u,h1,by simpa [BX] using h2⟩
 | nils=>cases h;exact one rfl rfl
 | int k n=>cases h;exact one rfl rfl
 | bool b=>cases h;exact one rfl rfl
 | str s=>cases h;exact one rfl rfl
 | ints l=>cases h;exact one rfl rfl
 | bools l=>cases h;exact one rfl rfl
 | sl m n f=>cases h;exact one rfl rfl
 | fp m f=>cases h;exact one rfl rfl
 | ref k j=>cases h;exact one rfl rfl
 | msl k m off n=>cases h;exact one rfl rfl
 | mp k m i j=>cases h;exact one rfl rfl
 | fn g m c=>cases h;exact one rfl rfl
theorem V5 {M:Nat -> Prop} {d:DV} {v:Value} (h:NT d=true) (hr:AO M w d ρ v):AO M w d [] v:=by
 cases d <;> first | exact hr | (cases h;done)
structure C1 (P:Program) (Γ:BB) (N:Nat -> Prop) (h:DH) (ρ:List AN) (w:World) (ext:Bool) (d:DV) (h':DH) (v:Value) (w':World):Prop where
 ex: ∃ ρ',BY P Γ N h' ρ' w'/\ AO (MS N h' ρ') w' d ρ' v/\ BN h ρ w h' ρ' w'/\ (∀ (k:Nat) (p:AN),ρ[k]? =some p -> ρ'[k]? =some p)
 ext:ext=true -> At w w'
def BS (P:Program) (s:Sem Next) (w:World) (G:Value -> World -> Prop):Prop:=
 (∃ v w',s.run P w= .ok (.value v) w'/\ G v w')∨(∃ w',s.run P w= .ok .skip w'/\ G undef w')∨
 (∃ f args w',s.run P w= .ok (.enter f args) w'/\ Calls P f args w' fun e B7=>∃ v,e= .returned v/\ G v B7)
theorem BS.value {G:Value -> World -> Prop} {ρ':Operand -> Value} {o:Oper} {s:Sem Value} {v:Value} {w':World} (he:execOp ρ' o=(do pure (.value (←s)))) (h:s.run P w= .ok v w') (hG:G v w'):BS P (execOp ρ' o) w G:=
 .inl ⟨v,w',by rw [he,yT,h];rfl,hG⟩
theorem BS.skip {G:Value -> World -> Prop} {ρ':Operand -> Value} {o:Oper} {s:Sem Unit} {w':World} (he:execOp ρ' o=(do s;pure .skip)) (h:s.run P w= .ok () w') (hG:G undef w'):BS P (execOp ρ' o) w G:=
 .inr (.inl ⟨w',by rw [he,yT,h];rfl,hG⟩)
def Dm (w:World) (room:Nat):AN:=⟨w.heap.size,0,room,undef,fun b=>b=w.heap.size⟩
theorem N7 (H:BY P Γ N S.h ρ w) {cs:Array Value} {t:TypeId} {o:DO} {d:DV} {v:Value} {w1:World} (QR:At w w1/\ w1.heap.size=w.heap.size)
 (ho: ∀ M ρ',Bc (MS N S.h ρ) w ρ M (w1.alloc (.cells cs t)) ρ' -> DW P M (w1.alloc (.cells cs t)) ρ' (Dm w cs.size) o)
 (hv: ∀ M ρ',ρ'[S.h.length]? =some (Dm w cs.size) -> AO M (w1.alloc (.cells cs t)) d ρ' v) (ext:Bool):
 C1 P Γ N S.h ρ w ext d (S.h++[some o]) v (w1.alloc (.cells cs t)):=by
 have hE:At w (w1.alloc (.cells cs t)):=QR.1.allocR _;have hf: ∀ b,(Dm w cs.size).foot b -> w.heap.size<=b:=fun b hb=>Nat.le_of_eq (Eq.symm hb)
 have hb:(w1.alloc (.cells cs t)).heap[w.heap.size]? =some (.cells cs t (0,0)):=by rw [←QR.2];exact zx w1 _
 refine ⟨⟨ρ++[Dm w cs.size],H.snoc hE (fun b hx=>⟨hf b hx,.cells (c:=cs) (t:=t) (z:=(0,0)) (by rw [show b=w.heap.size from hx];exact hb)⟩) (ho _ _ (Bc.snoc H hE hf)),?_,BN.snoc H hE hf,fun k p hk=>D5 hk⟩,fun _=>hE⟩;exact hv _ _ (by rw [←H.len];simp)
theorem Li {cs:Array Value} {t:TypeId} {w1:World} (hs:w1.heap.size=w.heap.size) {n:Nat} {R:Nat -> Value -> Prop} (hn:n<=cs.size) (hR: ∀ j,j<n -> ∃ u,cs[j]? =some u/\ R j u):Ai (w1.alloc (.cells cs t)) (Dm w cs.size) n R:=by
 refine ⟨rfl,cs,t,?_,by simpa [Dm] using hn,yS _,fun j hj=>by simpa [Dm] using hR j hj⟩
 show (w1.alloc (.cells cs t)).heap[w.heap.size]? =_
 rw [←hs];exact zx w1 _
theorem ww (R:Ad P Γ N S ρ a w) {x:Operand} {t:TypeId} {l:List DV} (h:ID (Ac S.fr x)=some l) (o:Oper) (ho:o.op= .box t x) (ext:Bool):
 BS P (execOp a.eval o) w (C1 P Γ N S.h ρ w ext (.ref S.h.length 0) (S.h++[some (.cells l)])):=by
 obtain ⟨h1,h2⟩:=Q4 h (Bh R x);refine BS.value (s:=Instr.box t (a.eval x)) (by unfold execOp;rw [ho]) (v:=.pointer (some ⟨w.heap.size,0,none⟩)) (w':=w.alloc (.cells (a.eval x).cells t)) ?_ ?_
 ·rfl
 ·refine N7 (d:=.ref S.h.length 0) R.hr ⟨At.refl w,rfl⟩ (fun M ρ' O=>?_) (fun M ρ' hp=>⟨_,hp,rfl⟩) ext;refine Li rfl (by omega) fun j hj=>?_
  obtain ⟨u,g1,g2⟩:=h2 j hj;exact ⟨u,g1,g2.out _ O⟩
theorem xY (R:Ad P Γ N S ρ a w) {t:TypeId} {i:TypeInfo} {z:Value} (hi:P.info? t=some i) (hz:i.zero=some z) (o:Oper) (ho:o.op= .alloc t) (ext:Bool):
 BS P (execOp a.eval o) w (C1 P Γ N S.h ρ w ext (.ref S.h.length 0) (S.h++[some (.cells (z.cells.toList.map FC))])):=by
 refine BS.value (s:=Instr.alloc t true (.tuple #[])) (by unfold execOp;rw [ho]) (v:=.pointer (some ⟨w.heap.size,0,none⟩)) (w':=w.alloc (.cells z.cells t)) ?_ ?_
 ·simp [Instr.alloc,zeroValue,typeInfo,hi,hz,newVar,newRow,newObj];rfl
 ·refine N7 (d:=.ref S.h.length 0) R.hr ⟨At.refl w,rfl⟩ (fun M ρ' O=>?_) (fun M ρ' hp=>⟨_,hp,rfl⟩) ext;refine Li rfl (by simp) fun j hj=>?_
  have BX:j<z.cells.size:=by simpa using hj
  refine ⟨z.cells[j],by simp [BX],?_⟩;have:(z.cells.toList.map FC).getD j .any=FC z.cells[j]:=by simp [BX]
  rw [this];exact Pm _
def fT:Value -> Bool
 | .bool false=>true
 | _=>false
def Uy (z:Value):Bool:=decide (2<z.cells.size)&&z.cells.toList.all fT
theorem xZ (R:Ad P Γ N S ρ a w) {t:TypeId} {i:TypeInfo} {z:Value} (hi:P.info? t=some i) (hz:i.zero=some z) (hb:Uy z=true) (o:Oper) (ho:o.op= .alloc t) (ext:Bool):
 BS P (execOp a.eval o) w (C1 P Γ N S.h ρ w ext (.mp S.h.length 1 0 0) (S.h++[some (.bools (List.replicate z.cells.size false))])):=by
 refine BS.value (s:=Instr.alloc t true (.tuple #[])) (by unfold execOp;rw [ho]) (v:=.pointer (some ⟨w.heap.size,0,none⟩)) (w':=w.alloc (.cells z.cells t)) ?_ ?_
 ·simp [Instr.alloc,zeroValue,typeInfo,hi,hz,newVar,newRow,newObj];rfl
 ·refine N7 (d:=.mp S.h.length 1 0 0) R.hr ⟨At.refl w,rfl⟩ (fun M ρ' O=>?_) (fun M ρ' hp=>⟨_,hp,rfl⟩) ext;refine Li rfl (by simp) fun j hj=>?_
  have BX:j<z.cells.size:=by simpa using hj
  refine ⟨z.cells[j],by simp [BX],?_⟩;simp only [Uy,yD,yJ] at hb;have:=hb.2 z.cells[j] (by simp);unfold fT at this;split at this
  ·rename_i e;rw [e];simp [BX]
  ·cases this
inductive EK where
 | ints
 | bools
 | gen (m:Nat)
def Jz (P:Program) (t:TypeId):Option (EK×TypeId×TypeInfo×Value):=match P.underlying t with
 | some (.slice e)=>match P.info? e with
  | some i=>match i.zero with
   | some z=>if i.size=0 then none else if z.cells.size≠i.size then none else match P.underlying e with
    | some (.int .i64)=>if i.size=1 then (match z with | .int .i64 0=>some (.ints,e,i,z) | _=>none) else none
    | some .bool=>if i.size=1 then (match z with | .bool false=>some (.bools,e,i,z) | _=>none) else none
    | _=>some (.gen i.size,e,i,z)
   | none=>none
  | none=>none
 | _=>none
def EK.cells:EK -> Nat
 | .ints=>1
 | .bools=>1
 | .gen m=>m
theorem Qx {t:TypeId} {k:EK} {e:TypeId} {i:TypeInfo} {z:Value} (h:Jz P t=some (k,e,i,z)):P.underlying t=some (.slice e)/\ P.info? e=some i/\ i.zero=some z/\ i.size≠0/\ z.cells.size=i.size/\ k.cells=i.size/\
 (k= .ints -> z= .int .i64 0)/\ (k= .bools -> z= .bool false):=by
 unfold Jz at h
 repeat' (split at h)
 all_goals first
  | (cases h;done)
  | skip
 all_goals
  simp only [zM,zZ] at h;obtain ⟨rfl,rfl,rfl,rfl⟩:=h;refine ⟨by assumption,by assumption,by assumption,by assumption,by simp_all,?_,?_,?_⟩
  ·simp_all [EK.cells]
  ·intro hk;first | rfl | cases hk
  ·intro hk;first | rfl | cases hk
theorem X8 {s:Nat} (hs:0<s): ∀ (vs:List Value),(∀ v∈vs,v.cells.size=s) -> ∀ i j,i<vs.length -> j<s -> (vs.flatMap fun v=>v.cells.toList)[i*s+j]? =(vs[i]?).bind (fun v=>v.cells[j]?)
 | [],_,i,j,hi,_=>absurd hi (yN i)
 | v::vs,hv,i,j,hi,hj=>by
  have HH:v.cells.toList.length=s:=by simpa using hv v (by simp)
  rw [zAu];cases i with
  | zero=>rw [Nat.zero_mul,yU,yb (by omega)];simp
  | succ i=>
   rw [yi (by rw [HH,zAt];omega),HH,show (i+1)*s+j-s=i*s+j by rw [zAt];omega];rw [X8 hs vs (fun v h=>hv v (by simp [h])) i j (by simpa using hi) hj];simp
def HF:DV -> Int
 | .int _ n=>n
 | _=>0
def RF:DV -> Bool
 | .bool b=>b
 | _=>false
def Ji:DV -> Bool
 | .int .i64 _=>true
 | _=>false
def Ws:DV -> Bool
 | .bool _=>true
 | _=>false
def OR (k:EK) (ds:List DV):Option DO:=match k with
 | .ints=>if ds.all Ji then some (.ints (ds.map HF)) else none
 | .bools=>if ds.all Ws then some (.bools (ds.map RF)) else none
 | .gen m=>if ds.all fun d=>(match ID d with | some l=>l.length==m&&l.all NT | none=>false) then
  some (.arr m ds.length (fun i j=>match ID (ds.getD i .any) with | some l=>l.getD j .any | none=>.any)) else none
theorem Wp {M:Nat -> Prop} {d:DV} {v:Value} (h:Ji d=true) (hr:AO M w d ρ v):v= .int .i64 (HF d):=by
 unfold Ji at h;split at h
 ·exact hr
 ·cases h
theorem qT {M:Nat -> Prop} {d:DV} {v:Value} (h:Ws d=true) (hr:AO M w d ρ v):v= .bool (RF d):=by
 unfold Ws at h;split at h
 ·exact hr
 ·cases h
theorem wv {M:Nat -> Prop} {k:EK} {ds:List DV} {o:DO} {vs:List Value} (hk:0<k.cells) (h:OR k ds=some o) (hl:vs.length=ds.length) (hv: ∀ i,i<ds.length -> AO M w (ds.getD i .any) ρ (vs.getD i undef)):
 (∀ v∈vs,v.cells.size=k.cells)/\ ∀ M' (w':World) ρ',Bc M w ρ M' w' ρ' -> ∀ (cs:Array Value) (t:TypeId) (p:AN),cs.toList=(vs.flatMap fun v=>v.cells.toList) -> Ai w' p (ds.length*k.cells) (fun j u=>cs[j]? =some u) -> DW P M' w' ρ' p o:=by
 have one: ∀ {j:Nat},k.cells=1 -> j<ds.length*k.cells -> (∀ v∈vs,v.cells.size=k.cells) -> ∀ {u},(vs.flatMap fun v=>v.cells.toList)[j]? =some u -> (vs[j]?).bind (fun v=>v.cells[0]?)=some u:=fun {j} h1 hj hs {u} hu=>by
  rw [h1] at hj hs;have:=X8 (s:=1) (by omega) vs hs j 0 (by omega) (by omega);rw [yz,zAJ] at this;rw [←this];exact hu
 have mem: ∀ v∈vs,∃ i,i<ds.length/\ v=vs.getD i undef/\ vs[i]? =some v:=fun v hv=>by
  obtain ⟨i,hi,rfl⟩:=zR hv;exact ⟨i,by omega,by simp [hi],by simp [hi]⟩
 have YN: ∀ i,i<ds.length -> ds.getD i .any∈ds:=fun i hi=>by simp [hi]
 cases k with
 | ints=>
  simp only [OR] at h;split at h
  ·rename_i ha;cases h;have hI: ∀ i,i<ds.length -> vs.getD i undef= .int .i64 (HF (ds.getD i .any)):=fun i hi=>Wp (yJ.1 ha _ (YN i hi)) (hv i hi)
   have hs: ∀ v∈vs,v.cells.size=EK.ints.cells:=fun v MG=>by obtain ⟨i,hi,e,_⟩:=mem v MG;rw [e,hI i hi];rfl
   refine ⟨hs,fun M' w' ρ' O cs t p C6 hr=>?_⟩;have hn:ds.length*EK.ints.cells=(ds.map HF).length:=by simp [EK.cells]
   rw [hn] at hr;refine Ai.out hr rfl fun j u hj hu=>?_
   have BX:j<ds.length:=by simpa using hj
   have h2:=one rfl (by simpa [EK.cells] using BX) hs (u:=u) (by rw [←C6];simpa using hu);rw [xy (by omega)] at h2;have h3:=hI j BX;have h4:vs.getD j undef=vs[j]:=by simp [hl,BX]
   rw [h4] at h3;simp only [yF,h3] at h2;have:u=Value.int .i64 (HF (ds.getD j .any)):=by simpa [Value.cells] using h2.symm
   rw [this];simp [BX]
  ·cases h
 | bools=>
  simp only [OR] at h;split at h
  ·rename_i ha;cases h;have hI: ∀ i,i<ds.length -> vs.getD i undef= .bool (RF (ds.getD i .any)):=fun i hi=>qT (yJ.1 ha _ (YN i hi)) (hv i hi)
   have hs: ∀ v∈vs,v.cells.size=EK.bools.cells:=fun v MG=>by obtain ⟨i,hi,e,_⟩:=mem v MG;rw [e,hI i hi];rfl
   refine ⟨hs,fun M' w' ρ' O cs t p C6 hr=>?_⟩;have hn:ds.length*EK.bools.cells=(ds.map RF).length:=by simp [EK.cells]
   rw [hn] at hr;refine Ai.out hr rfl fun j u hj hu=>?_
   have BX:j<ds.length:=by simpa using hj
   have h2:=one rfl (by simpa [EK.cells] using BX) hs (u:=u) (by rw [←C6];simpa using hu);rw [xy (by omega)] at h2;have h3:=hI j BX;have h4:vs.getD j undef=vs[j]:=by simp [hl,BX]
   rw [h4] at h3;simp only [yF,h3] at h2;have:u=Value.bool (RF (ds.getD j .any)):=by simpa [Value.cells] using h2.symm
   rw [this];simp [BX]
  ·cases h
 | gen m=>
  simp only [OR] at h;split at h
  ·rename_i ha;cases h;have hm:0<m:=hk
   have hI: ∀ i,i<ds.length -> ∃ l,ID (ds.getD i .any)=some l/\ l.length=m/\ (∀ d∈l,NT d=true):=fun i hi=>by
    have:=yJ.1 ha _ (YN i hi);split at this
    ·rename_i l hl;simp only [yD,yo] at this;exact ⟨l,hl,this.1,fun d hd=>yJ.1 this.2 d hd⟩
    ·cases this
   have hs: ∀ v∈vs,v.cells.size=(EK.gen m).cells:=fun v MG=>by
    obtain ⟨i,hi,e,_⟩:=mem v MG;obtain ⟨l,h1,h2,_⟩:=hI i hi;rw [e,(Q4 h1 (hv i hi)).1,h2];rfl
   refine ⟨hs,fun M' w' ρ' O cs t p C6 hr=>?_⟩;refine Ai.out hr rfl fun j u hj hu=>?_
   have tp:j<ds.length*m:=hj;have hi:j/m<ds.length:=by rw [zz hm];exact tp
   have hc:j % m<m:=zAZ _ hm;obtain ⟨l,h1,h2,h3⟩:=hI (j/m) hi;have h4:=X8 (s:=m) hm vs hs (j/m) (j % m) (by omega) hc;rw [show j/m*m+j % m=j by rw [zq];exact Nat.div_add_mod j m] at h4;obtain ⟨_,h5⟩:=Q4 h1 (hv (j/m) hi);obtain ⟨u',g1,g2⟩:=h5 (j % m) (by omega);have h6:vs.getD (j/m) undef=vs[j/m]'(by omega):=by simp [hl,hi]
   have AU:j/m<vs.length:=by omega
   rw [xy AU] at h4;rw [h6] at g1
   have:u=u':=by
    have Bl:(vs.flatMap fun v=>v.cells.toList)[j]? =some u:=by rw [←C6];simpa using hu
    rw [h4] at Bl;simp only [yF] at Bl;rw [g1] at Bl;exact (yH Bl).symm
   subst this;simp only [h1];refine AO.out _ O.nil (V5 (h3 _ ?_) g2);simp [h2,hc]
  ·cases h
theorem Vl {cs:Array Value} {t:TypeId} {w1:World} (hs:w1.heap.size=w.heap.size) {n:Nat} (hn:cs.size=n):Ai (w1.alloc (.cells cs t)) (Dm w n) n (fun j u=>cs[j]? =some u):=by
 subst hn;exact Li hs (yS _) fun j hj=>⟨cs[j],by simp [hj],by simp [hj]⟩
def UT (parts:List (Nat×Operand)) (len:Nat):Bool:=parts.map (·.1)==List.range len
theorem vv {parts:List (Nat×Operand)} {len:Nat} (h:UT parts len=true) (f:Operand -> Value):parts.length=len/\ (parts.map fun x=>(x.1,f x.2))=((parts.map fun x=>f x.2).zipIdx 0).map fun x=>(x.2,x.1):=by
 simp only [UT,yo] at h;have hl:parts.length=len:=by have:=congrArg List.length h;simpa using this
 refine ⟨hl,List.ext_getElem? fun i=>?_⟩
 by_cases hi:i<parts.length
 ·have h1:parts[i].1=i:=by
   have h2:=congrArg (fun l:List Nat=>l[i]?) h;have h3:(List.range len)[i]? =some i:=zAj (by omega);simp only [ye,xy hi,yj,h3] at h2;exact yH h2
  simp [hi,h1]
 ·rw [zn (by simpa using hi),zn (by simpa using hi)]
theorem wu (R:Ad P Γ N S ρ a w) {t:TypeId} {len:Nat} {parts:Array (Nat×Operand)} {k:EK} {e:TypeId} {i:TypeInfo} {z:Value} {ob:DO} (hk:Jz P t=some (k,e,i,z)) (hd:UT parts.toList len=true) (A3:len<=65536/\ k.cells<=64)
 (hb:OR k (parts.toList.map fun x=>Ac S.fr x.2)=some ob) (o:Oper) (ho:o.op= .buildSlice t len parts) (ext:Bool):
 BS P (execOp a.eval o) w (C1 P Γ N S.h ρ w ext (.msl S.h.length k.cells 0 len) (S.h++[some ob])):=by
 obtain ⟨hu,hi,hz,h0,CN,Dq,_,_⟩:=Qx hk;obtain ⟨FF,ri⟩:=vv hd a.eval;have tX:=A3.1;have tW:=A3.2;have Hz:0<k.cells:=by omega
 obtain ⟨hs,MJ⟩:=wv (w:=w) (M:=MS N S.h ρ) (ρ:=ρ) (vs:=parts.toList.map fun x=>a.eval x.2) Hz hb (by simp) (fun j hj=>by
  have BX:j<parts.toList.length:=by simpa using hj
  have:=Bh R parts.toList[j].2;simp only [u8,ye,xy BX,yj,zi];exact this)
 have GK:(parts.toList.map fun x=>a.eval x.2).length=len:=by simpa using FF
 have Bj:((parts.toList.map fun x=>a.eval x.2).flatMap fun v=>v.cells.toList).toArray.size=len*k.cells:=by
  have: ∀ (l:List Value),(∀ v∈l,v.cells.size=k.cells) -> (l.flatMap fun v=>v.cells.toList).length=l.length*k.cells:=by
   intro l
   induction l with
   | nil=>intro _;simp
   | cons v l ih=>intro h;rw [zAu,yc,ih (fun v hv=>h v (by simp [hv])),zB,zAt];have:=h v (by simp);simp [this];omega
  simp only [zAv];rw [this _ hs,GK]
 refine BS.value (s:=Instr.buildSlice t len (parts.map fun (i,x)=>(i,a.eval x))) (by unfold execOp;rw [ho]) (v:=.slice (some ⟨w.heap.size,0,none⟩) len len) (w':=w.alloc (.cells ((parts.toList.map fun x=>a.eval x.2).flatMap fun v=>v.cells.toList).toArray e)) ?_ ?_
 ·have rQ: ¬ len*i.size>2 ^ 24:=by
   have:len*i.size<=65536*64:=zBE tX (by omega);omega
  by_cases Xb:len=0
  ·subst Xb
   have hp:parts= #[]:=by
    have:parts.toList= []:=zT FF;cases parts;simp at this;simp [this]
   subst hp;have EX:Array.map (fun (x:Nat)=>(default:Value)) (Array.range 0)= #[]:=by simp [Array.range_zero']
   simp [Instr.buildSlice,yp hu,sizeOf,typeInfo,hi,newRow,Instr.fill,Array.range_zero']
  ·have tI: ¬ len*i.size=0:=by rw [Nat.mul_eq_zero];omega
   refine run_buildSlice w t e len _ _ i z hu hi hz rQ tI ?_;have e1:(parts.map fun (i,x)=>(i,a.eval x)).toList=parts.toList.map fun x=>(x.1,a.eval x.2):=by simp
   rw [e1,ri];exact Great.fill_whole (s:=i.size) (by omega) _ _ (fun v hv=>by rw [hs v hv,Dq]) (by rw [GK,Array.size_map,Array.size_range])
 ·have:=N7 (d:=.msl S.h.length k.cells 0 len) (o:=ob) (v:=.slice (some ⟨w.heap.size,0,none⟩) len len) (cs:=((parts.toList.map fun x=>a.eval x.2).flatMap fun v=>v.cells.toList).toArray) (t:=e) R.hr ⟨At.refl w,rfl⟩
   (fun M ρ' O=>MJ _ _ _ O ((parts.toList.map fun x=>a.eval x.2).flatMap fun v=>v.cells.toList).toArray e _ rfl (by rw [Bj,zE,FF];exact Vl (w:=w) (w1:=w) (t:=e) rfl Bj))
   (fun M ρ' hp=>⟨_,len,hp,by simp [Dm],yS _,by unfold LB;omega,by simp only [Dm];rw [Bj];omega⟩) ext
  exact this
def cR (k:EK) (n:Nat) (z:Value):DO:=match k with
 | .ints=>.ints (List.replicate n 0)
 | .bools=>.bools (List.replicate n false)
 | .gen m=>.arr m n (fun _ j=>(z.cells.toList.map FC).getD j .any)
theorem oq (R:Ad P Γ N S ρ a w) {t:TypeId} {x y:Operand} {k:EK} {e:TypeId} {i:TypeInfo} {z:Value} {kx ky:IntKind} {n:Int} (hk:Jz P t=some (k,e,i,z)) (hx:Ac S.fr x= .int kx n) (hy:Ac S.fr y= .int ky n)
 (hn:0<=n/\ n<=1000000000000) (DD:i.bytes<=128) (o:Oper) (ho:o.op= .makeSlice t x y) (ext:Bool):
 BS P (execOp a.eval o) w (C1 P Γ N S.h ρ w ext (.msl S.h.length k.cells 0 n.toNat) (S.h++[some (cR k n.toNat z)])):=by
 obtain ⟨hu,hi,hz,h0,CN,Dq,qt,W6⟩:=Qx hk;have F4:=hn.1;have H2:=hn.2;have rx:=Bh R x;have ry:=Bh R y;rw [hx] at rx;rw [hy] at ry;have C6:(madeCells z.cells (n.toNat*i.size)).size=n.toNat*k.cells:=by rw [size_madeCells,Dq]
 refine BS.value (s:=Instr.makeSlice t (a.eval x) (a.eval y)) (by unfold execOp;rw [ho]) (v:=.slice (some ⟨w.heap.size,0,none⟩) n.toNat n.toNat) (w':=w.alloc (.cells (madeCells z.cells (n.toNat*i.size)) e)) ?_ ?_
 ·rw [show a.eval x=_ from rx,show a.eval y=_ from ry];refine run_make w t e i z hu hi hz kx ky n n F4 (zP _) ?_ (by omega);have:(i.bytes:Int)*n<=128*1000000000000:=Int.mul_le_mul (by omega) H2 F4 (by omega);omega
 ·refine N7 (d:=.msl S.h.length k.cells 0 n.toNat) R.hr ⟨At.refl w,rfl⟩ (fun M ρ' O=>?_) (fun M ρ' hp=>⟨_,n.toNat,hp,by simp [Dm],yS _,by unfold LB;omega,by simp only [Dm];rw [C6];omega⟩) ext;have hr:=Vl (w:=w) (w1:=w) (t:=e) rfl C6;rw [C6]
  have Cm: ∀ j u,j<n.toNat*k.cells -> (madeCells z.cells (n.toNat*i.size))[j]? =some u -> z.cells[j % z.cells.size]? =some u:=by
   intro j u hj Bl;have AU:j % z.cells.size<z.cells.size:=zAZ _ (by omega);simp only [madeCells] at Bl;have BX:j<n.toNat*i.size:=by rw [←Dq];exact hj
   simp [BX] at Bl;rw [←Bl];simp [AU]
  cases k with
  | ints=>
   have QP:=qt rfl;subst QP
   show Ai _ _ (List.replicate n.toNat (0:Int)).length _
   rw [yQ];simp only [EK.cells,yz] at hr Cm ⊢;refine Ai.out hr rfl fun j u hj Bl=>?_
   have:=Cm j u hj Bl;have e1:j % (Value.cells (.int .i64 0)).size=0:=by simp [Value.cells,Nat.mod_one]
   rw [e1] at this;simp [Value.cells] at this;rw [←this];simp [hj]
  | bools=>
   have QP:=W6 rfl;subst QP
   show Ai _ _ (List.replicate n.toNat false).length _
   rw [yQ];simp only [EK.cells,yz] at hr Cm ⊢;refine Ai.out hr rfl fun j u hj Bl=>?_
   have:=Cm j u hj Bl;have e1:j % (Value.cells (.bool false)).size=0:=by simp [Value.cells,Nat.mod_one]
   rw [e1] at this;simp [Value.cells] at this;rw [←this];simp [hj]
  | gen m=>
   refine Ai.out hr rfl fun j u hj Bl=>?_
   have h1:=Cm j u hj Bl;have hm:m=z.cells.size:=by rw [CN];exact Dq
   have h2:j % m<z.cells.toList.length:=by rw [hm];simpa using zAZ _ (by omega)
   have h3:(z.cells.toList.map FC).getD (j % m) .any=FC u:=by
    rw [u8,ye];have:z.cells.toList[j % m]? =some u:=by rw [←h1,hm];simp
    rw [this];rfl
   show AO M _ ((z.cells.toList.map FC).getD (j % m) .any) [] u
   rw [h3];exact Pm u
end
end Go.Proofs.YtgkhhfnhacibcaaGreatDoor
namespace Go.Proofs.YtgkhhfnhacibcaaGreatDoor
abbrev zW:=@List.nil_append
abbrev zf:=@List.foldl_cons
abbrev zk:=@Array.getElem?_append_left
abbrev z2:=@Array.getElem?_modify
abbrev zAU:=@List.length_range
abbrev zAy:=@List.getElem?_toArray
end Go.Proofs.YtgkhhfnhacibcaaGreatDoor
namespace Go.Proofs.YtgkhhfnhacibcaaGreatDoor
open Go.RowKit
section
variable {P:Program} {Γ:BB} {N:Nat -> Prop} {S:St} {ρ:List AN} {a:Act} {w:World} {h:DH}
theorem Ny (b:Nat) (t:TypeId) (z:Nat×Nat): ∀ (vs:List Value) (o:Nat) (w:World) (EL:Array Value),w.heap[b]? =some (.cells EL t z) -> o+vs.length<=EL.size ->
 ∃ Q5,(w.setCells b o vs).heap[b]? =some (.cells Q5 t z)/\ Q5.size=EL.size/\ ∀ k,Q5[k]? =if o<=k/\ k<o+vs.length then vs[k-o]? else EL[k]?
 | [],o,w,EL,hb,_=>⟨EL,hb,rfl,fun k=>by rw [yK];simp only [zD];omega⟩
 | v::vs,o,w,EL,hb,hl=>by
  have EY:o+(vs.length+1)<=EL.size:=hl;obtain ⟨Q5,h1,h2,h3⟩:=Ny b t z vs (o+1) (w.setCell ⟨b,o,none⟩ v) (EL.setIfInBounds o v) (by simp [World.setCell,z2,hb]) (by simp;omega);refine ⟨Q5,h1,by simpa using h2,fun k=>?_⟩;rw [h3 k,zB]
  by_cases e:k=o
  ·subst e;rw [yK (by omega),xw (by omega),yq,xw rfl,xw (by omega),Nat.sub_self];rfl
  ·by_cases e2:o+1<=k/\ k<o+1+vs.length
   ·rw [xw e2,xw (by omega),show k-o=(k-(o+1))+1 by omega];simp
   ·rw [yK e2,yK (by omega)];rw [yq,yK (by omega)]
theorem M8 (b:Nat): ∀ (vs:List Value) (o:Nat) (w:World),AP (fun k=>k=b) w (w.setCells b o vs)
 | [],_,w=>AP.refl _ w
 | v::vs,o,w=>((AP.refl (fun k=>k=b) w).setCell (p:=⟨b,o,none⟩) (fun _=>rfl) v).trans (M8 b vs (o+1) (w.setCell ⟨b,o,none⟩ v))
theorem Ai.writes {p:AN} {n:Nat} {R R':Nat -> Value -> Prop} (hr:Ai w p n R) {o:Nat} {vs:List Value} (hl:o+vs.length<=n) (h1: ∀ i v,vs[i]? =some v -> R' (o+i) v)
 (h2: ∀ i u,i<n -> (i<o∨o+vs.length<=i) -> R i u -> R' i u):Ai (w.setCells p.blk (p.off+o) vs) p n R':=by
 obtain ⟨g1,cs,t,g2,g3,g4,g5⟩:=hr;obtain ⟨Ds,e1,e2,e3⟩:=Ny p.blk t (0,0) vs (p.off+o) w cs g2 (by omega);refine ⟨g1,Ds,t,e1,by omega,by omega,fun j hj=>?_⟩;rw [e3]
 by_cases e:p.off+o<=p.off+j/\ p.off+j<p.off+o+vs.length
 ·rw [xw e];have hi:p.off+j-(p.off+o)<vs.length:=by omega
  refine ⟨vs[p.off+j-(p.off+o)],by simp [hi],?_⟩;have:=h1 (p.off+j-(p.off+o)) _ (by simp [hi]:vs[p.off+j-(p.off+o)]? =some vs[p.off+j-(p.off+o)])
  rwa [show o+(p.off+j-(p.off+o))=j by omega] at this
 ·rw [yK e];obtain ⟨u,e4,e5⟩:=g5 j hj;exact ⟨u,e4,h2 j u hj (by omega) e5⟩
def La (l:List DV) (o:Nat) (ds:List DV):List DV:=(ds.zipIdx).foldl (fun cs x=>cs.set (o+x.2) x.1) l
theorem VO: ∀ (ds:List DV) (k o:Nat) (l:List DV),((ds.zipIdx k).foldl (fun cs x=>cs.set (o+x.2) x.1) l).length=l.length/\
 ∀ j,j<l.length -> ((ds.zipIdx k).foldl (fun cs x=>cs.set (o+x.2) x.1) l).getD j .any=if o+k<=j/\ j<o+k+ds.length then ds.getD (j-(o+k)) .any else l.getD j .any
 | [],k,o,l=>⟨rfl,fun j _=>by
  rw [yK]
  ·rfl
  ·simp only [zD];omega⟩
 | d::ds,k,o,l=>by
  obtain ⟨h1,h2⟩:=VO ds (k+1) o (l.set (o+k) d);rw [List.zipIdx_cons,zf];refine ⟨by rw [h1];simp,fun j hj=>?_⟩;rw [h2 j (by simpa using hj),zB]
  by_cases e:j=o+k
  ·subst e;rw [yK (by omega),xw (by omega)];simp [hj]
  ·by_cases e2:o+(k+1)<=j/\ j<o+(k+1)+ds.length
   ·rw [xw e2,xw (by omega),show j-(o+k)=(j-(o+(k+1)))+1 by omega];simp
   ·rw [yK e2,yK (by omega)];simp only [u8,yn];rw [yK (by omega)]
theorem VN (l:List DV) (o:Nat) (ds:List DV):(La l o ds).length=l.length:=(VO ds 0 o l).1
theorem VP (l:List DV) (o:Nat) (ds:List DV) {j:Nat} (hj:j<l.length):(La l o ds).getD j .any=if o<=j/\ j<o+ds.length then ds.getD (j-o) .any else l.getD j .any:=by
 have:=(VO ds 0 o l).2 j hj;simpa [La] using this
def LW (P:Program) (S:St) (t:TypeId) (x d:DV):Option (DH×Prop):=match x with
 | .ref k j=>match S.h[k]? with
  | some (some (.cells l))=>match ID d with
   | some ds=>if P.info? t |>.any (fun i=>i.size==ds.length) then (if ds.all Hp&&decide (j+ds.length<=l.length) then some (S.h.set k (some (.cells (La l j ds))),True) else none) else none
   | none=>none
  | _=>none
 | .mp k m i j=>if P.info? t |>.any (fun i=>i.size==1) then match S.h[k]? with
  | some (some (.ints l))=>match d with
   | .int .i64 n=>if m==1&&j==0 then some (S.h.set k (some (.ints (l.set i n))),i<l.length) else none
   | _=>none
  | some (some (.bools l))=>match d with
   | .bool b=>if m==1&&j==0 then some (S.h.set k (some (.bools (l.set i b))),i<l.length) else none
   | _=>none
  | some (some (.arr m' n f))=>if NT d&&(m==m')&&decide (j<m) then some (S.h.set k (some (.arr m n (fun i' j'=>if i'=i/\ j'=j then d else f i' j'))),i<n) else none
  | _=>none
  else none
 | _=>none
theorem nV {d:DV} (h:NT d=true):Hp d=true:=by cases d <;> first | rfl | cases h
theorem Vh {t:TypeId} {i:TypeInfo} {b o:Nat} {v:Value} (hi:P.info? t=some i) (hs:v.cells.size=i.size) (hc: ∀ j,j<v.cells.size -> (w.cell? ⟨b,o+j,none⟩).isSome=true) (hf: ∀ j,w.frozen? ⟨b,j,none⟩=false) (h1: ∀ u∈v.cells.toList,u.oneCell'=true):
 (Instr.storeAt t (.pointer (some ⟨b,o,none⟩)) v).run P w= .ok () (w.setCells b o v.cells.toList):=by
 have D1:=run_storeCells_cells (P:=P) b o v.cells.toList 0 w (by simpa using hc) (by simpa using fun j _=>hf _) h1;simp only [zAJ] at D1;simp [Instr.storeAt,Instr.sureAddr,storeVar,IV hi,hs,D1]
theorem fB {α:Type} {l:List α} {i:Nat} {x d:α} (h:l[i]? =some x):l.getD i d=x:=by rw [u8,h];rfl
theorem Ru (R:Ad P Γ N S ρ a w) {k:Nat} {ob ob':DO} {p:AN} (hk:S.h[k]? =some (some ob)) (hp:ρ[k]? =some p) {n:Nat} {Rw:Nat -> Value -> Prop} (hr:Ai w p n Rw) {o':Nat} {v:Value} {t:TypeId} {i:TypeInfo}
 (hi:P.info? t=some i) (hs:v.cells.size=i.size) (hl:o'+v.cells.size<=n) (h1: ∀ u∈v.cells.toList,u.oneCell'=true)
 (HJ: ∀ M ρ' w',Bc (MS N S.h ρ) w ρ M w' ρ' -> w'=w.setCells p.blk (p.off+o') v.cells.toList -> DW P M w' ρ' p ob')
 (o:Oper) (tx x:Operand) (ho:o.op= .store t tx x) (hx:a.eval tx= .pointer (some ⟨p.blk,p.off+o',none⟩)) (hv:a.eval x=v):
 BS P (execOp a.eval o) w (C1 P Γ N S.h ρ w false .any (S.h.set k (some ob'))):=by
 have Ea:p.foot=fun b=>b=p.blk:=hr.1
 have hu:AP p.foot w (w.setCells p.blk (p.off+o') v.cells.toList):=by rw [Ea];exact M8 _ _ _ _
 refine BS.skip (s:=Instr.storeAt t (a.eval tx) (a.eval x)) (by unfold execOp;rw [ho]) (w':=w.setCells p.blk (p.off+o') v.cells.toList) ?_ ?_
 ·rw [hx,hv];refine Vh hi hs (fun j hj=>?_) (fun j=>hr.frozen j) h1;obtain ⟨u,hc,_⟩:=hr.cell (j:=o'+j) (by omega);rw [yu,hc];rfl
 ·have Cm: ∀ b,p.foot b -> C7 (w.setCells p.blk (p.off+o') v.cells.toList) b:=fun b hb=>by
   rw [Ea] at hb;obtain ⟨_,cs,t',g2,g3,_⟩:=hr;obtain ⟨c,e1,_⟩:=Ny p.blk t' (0,0) v.cells.toList (p.off+o') w cs g2 (by simp;omega);exact .cells (c:=c) (t:=t') (z:=(0,0)) (by rw [show b=p.blk from hb];exact e1)
  exact ⟨⟨ρ,R.hr.write hk hp hu Cm (HJ _ _ _ (Bc.write trivial hk hp hu) rfl),trivial,BN.write hk hp hu,fun _ _ h=>h⟩,fun h=>by cases h⟩
theorem Z6 (R:Ad P Γ N S ρ a w) {t:TypeId} {tx x:Operand} {h':DH} {vc:Prop} (hd:LW P S t (Ac S.fr tx) (Ac S.fr x)=some (h',vc)) (hv:vc) (o:Oper) (ho:o.op= .store t tx x):
 BS P (execOp a.eval o) w (C1 P Γ N S.h ρ w false .any h'):=by
 have rx:=Bh R tx;have rv:=Bh R x;unfold LW at hd;split at hd
 ·rename_i k j e;rw [e] at rx;obtain ⟨p,hp,hx⟩:=rx;split at hd
  ·rename_i l hk;obtain ⟨p',BJ,hr⟩:=R.hr.obj k _ hk;have e:p'=p:=yH (BJ.symm.trans hp);subst e;split at hd
   ·rename_i ds FH;split at hd
    ·rename_i A9;split at hd
     ·rename_i hc;cases hd;simp only [yD,yd] at hc;cases hi:P.info? t with
      | none=>rw [hi] at A9;cases A9
      | some i=>
       rw [hi] at A9;have Nn:i.size=ds.length:=by simpa using A9
       obtain ⟨c1,c2⟩:=Q4 FH rv
       have tK: ∀ u∈(a.eval x).cells.toList,u.oneCell'=true:=fun u hu=>by
        obtain ⟨q,hq,rfl⟩:=zR hu;have Nt:q<ds.length:=by rw [←c1];simpa using hq
        obtain ⟨u,g1,g2⟩:=c2 q Nt;have h3:=yJ.1 hc.1 (ds.getD q .any) (by simp [Nt]);have h4:=(Sy h3 g2).1
        have:(a.eval x).cells.toList[q]=u:=by
         have GM:q<(a.eval x).cells.size:=by simpa using hq
         rw [yh GM] at g1;simpa using yH g1
        rw [this];exact h4
       refine Ru R hk hp hr hi (by omega) (o':=j) (by omega) tK (fun M ρ' w' O MF=>?_) o tx x ho hx rfl;subst MF
       show Ai _ _ (La l j ds).length _
       rw [VN];refine Ai.writes hr (by simp;omega) (fun q v hq=>?_) (fun q u hq GM hu=>?_)
       ·have df:q<(a.eval x).cells.size:=by have:=(yI.1 hq).1;simpa using this
        have Nt:q<ds.length:=by omega
        obtain ⟨u,g1,g2⟩:=c2 q Nt
        have:u=v:=by
         have:(a.eval x).cells[q]? =some v:=by simpa using hq
         rw [this] at g1;exact (yH g1).symm
        subst this;rw [VP l j ds (by omega),xw (by omega),show j+q-j=q by omega];exact g2.out _ O
       ·rw [VP l j ds hq,yK (by simp at GM;omega)];exact hu.out _ O
     ·cases hd
    ·cases hd
   ·cases hd
  ·cases hd
 ·rename_i k m i j e;rw [e] at rx;obtain ⟨p,hp,hx⟩:=rx;split at hd
  ·rename_i A9;cases hi:P.info? t with
   | none=>rw [hi] at A9;cases A9
   | some ti=>
    rw [hi] at A9;have Nn:ti.size=1:=by simpa using A9
    split at hd
    ·rename_i l hk;obtain ⟨p',BJ,hr⟩:=R.hr.obj k _ hk;have e:p'=p:=yH (BJ.symm.trans hp);subst e;split at hd
     ·rename_i n ed;split at hd
      ·rename_i hm;cases hd;simp only [yD,yo] at hm;obtain ⟨rfl,rfl⟩:=hm;rw [ed] at rv;have Ve:a.eval x= .int .i64 n:=rv;refine Ru R hk hp hr hi (v:=.int .i64 n) (by rw [Nn];rfl) (o':=i) (by simp [Value.cells];omega) (by simp [Value.cells,Value.oneCell']) (fun M ρ' w' O MF=>?_) o tx x ho (by simpa using hx) Ve;subst MF
       show Ai _ _ (l.set i n).length _
       rw [yW];refine Ai.writes hr (by simp [Value.cells];omega) (fun q v hq=>?_) (fun q u hq GM hu=>?_)
       ·have:q=0:=by have:=(yI.1 hq).1;simpa [Value.cells] using this
        subst this;have:v= .int .i64 n:=by simpa [Value.cells] using hq.symm
        rw [this];have Do:i<l.length:=hv;simp [Do]
       ·rw [hu];simp only [Value.cells,zB,zD] at GM;rw [u8,u8,yn,yK (by simp at GM;omega)]
      ·cases hd
     ·cases hd
    ·rename_i l hk;obtain ⟨p',BJ,hr⟩:=R.hr.obj k _ hk;have e:p'=p:=yH (BJ.symm.trans hp);subst e;split at hd
     ·rename_i n ed;split at hd
      ·rename_i hm;cases hd;simp only [yD,yo] at hm;obtain ⟨rfl,rfl⟩:=hm;rw [ed] at rv;have Ve:a.eval x= .bool n:=rv;refine Ru R hk hp hr hi (v:=.bool n) (by rw [Nn];rfl) (o':=i) (by simp [Value.cells];omega) (by simp [Value.cells,Value.oneCell']) (fun M ρ' w' O MF=>?_) o tx x ho (by simpa using hx) Ve;subst MF
       show Ai _ _ (l.set i n).length _
       rw [yW];refine Ai.writes hr (by simp [Value.cells];omega) (fun q v hq=>?_) (fun q u hq GM hu=>?_)
       ·have:q=0:=by have:=(yI.1 hq).1;simpa [Value.cells] using this
        subst this;have:v= .bool n:=by simpa [Value.cells] using hq.symm
        rw [this];have Do:i<l.length:=hv;simp [Do]
       ·rw [hu];simp only [Value.cells,zB,zD] at GM;rw [u8,u8,yn,yK (by simp at GM;omega)]
      ·cases hd
     ·cases hd
    ·rename_i m' n f hk;obtain ⟨p',BJ,hr⟩:=R.hr.obj k _ hk;have e:p'=p:=yH (BJ.symm.trans hp);subst e;split at hd
     ·rename_i hm;cases hd;simp only [yD,yo,yd] at hm;obtain ⟨⟨FF,rfl⟩,hj⟩:=hm;have Do:i<n:=hv;obtain ⟨o1,o2⟩:=Sy (nV FF) rv
      have W0:i*m+j<n*m:=by
       have:(i+1)*m<=n*m:=zh _ Do;rw [zAt] at this;omega
      have AC:0<m:=by omega
      refine Ru R hk hp hr hi (v:=a.eval x) (by rw [Nn,o2];rfl) (o':=i*m+j) (by rw [o2];simp;omega) (by rw [o2];simp [o1]) (fun M ρ' w' O MF=>?_) o tx x ho hx rfl;subst MF;refine Ai.writes hr (by rw [o2];simp;omega) (fun q v hq=>?_) (fun q u hq GM hu=>?_)
      ·rw [o2] at hq;have:q=0:=by have:=(yI.1 hq).1;simpa using this
       subst this;have:v=a.eval x:=by simpa using hq.symm
       rw [this,zAJ];have e1:(i*m+j)/m=i:=by rw [zq,Nat.mul_add_div AC,zA1 hj,zAJ]
       have e2:(i*m+j) % m=j:=by rw [zq,Nat.mul_add_mod,zAD hj]
       show AO M _ (if (i*m+j)/m=i/\ (i*m+j) % m=j then Ac S.fr x else f ((i*m+j)/m) ((i*m+j) % m)) [] _
       rw [xw ⟨e1,e2⟩];exact AO.out _ O.nil (V5 FF rv)
      ·rw [o2] at GM;simp at GM
       have: ¬ (q/m=i/\ q % m=j):=fun ⟨e1,e2⟩=>by
        have:=Nat.div_add_mod q m;rw [e1,e2,zq] at this;omega
       show AO M _ (if q/m=i/\ q % m=j then Ac S.fr x else f (q/m) (q % m)) [] _
       rw [yK this];exact AO.out _ O.nil hu
     ·cases hd
    ·cases hd
  ·cases hd
 ·cases hd
theorem MO.kill {k:Nat} {b:Nat} (hb:MO (h.set k none) ρ b):MO h ρ b:=MO.unset hb
theorem Fd {k i:Nat} {o:DO} (hi:(h.set k none)[i]? =some (some o)):i≠k/\ h[i]? =some (some o):=by
 rw [yn] at hi
 by_cases e:k=i
 ·rw [xw e] at hi;split at hi <;> cases hi
 ·rw [yK e] at hi;exact ⟨zAh e,hi⟩
theorem BY.kill (H:BY P Γ N h ρ w) (k:Nat):BY P Γ N (h.set k none) ρ w:=by
 have O:Bc (MS N h ρ) w ρ (MS N (h.set k none) ρ) w ρ:=⟨fun _ _ _ _=>rfl,fun b hb=>.inl (hb.imp id MO.kill),fun _ _ h=>h⟩;refine ⟨by simp [H.len],fun i o hi=>?_,fun i o p b h1 h2 h3=>H.cel i o p b (Fd h1).2 h2 h3,fun i i' o o' p p' b Aw h1 h2 h3 h4 h5 h6=>H.dis i i' o o' p p' b Aw (Fd h1).2 (Fd h2).2 h3 h4 h5 h6,H.nlt,H.gi⟩;obtain ⟨p,hp,hr⟩:=H.obj i o (Fd hi).2;exact ⟨p,hp,hr.out O (S:=fun _=>False) (AP.refl _ w) (fun _ h=>h.elim) (fun _ _ _ h=>h)⟩
theorem Bc.kill (k:Nat):Bc (MS N h ρ) w ρ (MS N (h.set k none) ρ) w ρ:=⟨fun _ _ _ _=>rfl,fun b hb=>.inl (hb.imp id MO.kill),fun _ _ h=>h⟩
theorem BN.kill (k:Nat):BN h ρ w (h.set k none) ρ w:=⟨AP.refl _ w,fun b hb=>.inl (MO.kill hb)⟩
theorem BY.regrow (H:BY P Γ N h ρ w) {w':World} {k:Nat} {o o':DO} {p p':AN} (hk:h[k]? =some (some o)) (hp:ρ[k]? =some p) (hu:AP p.foot w w') (hf: ∀ b,p'.foot b -> (p.foot b∨w.heap.size<=b)/\ C7 w' b)
 (ho:DW P (MS N (h.set k none++[some o']) (ρ++[p'])) w' (ρ++[p']) p' o'):
 BY P Γ N (h.set k none++[some o']) (ρ++[p']) w'/\ BN h ρ w (h.set k none++[some o']) (ρ++[p']) w':=by
 have K:=H.kill k;have A3:(h.set k none).length=h.length:=by simp
 have hM: ∀ b,p.foot b -> MO h ρ b:=fun b hb=>⟨k,o,p,hk,hp,hb⟩
 have Hu: ∀ {i:Nat} {o1:DO} {p1:AN},(h.set k none++[some o'])[i]? =some (some o1) -> (ρ++[p'])[i]? =some p1 -> (i≠k/\ i<h.length/\ h[i]? =some (some o1)/\ ρ[i]? =some p1)∨(i=h.length/\ o1=o'/\ p1=p'):=by
  intro i o1 p1 h1 h2;rcases DE h1 with ⟨hl,h1⟩ | ⟨hl,h1⟩
  ·rw [A3] at hl;rcases DE h2 with ⟨_,h2⟩ | ⟨CO,_⟩
   ·exact .inl ⟨(Fd h1).1,hl,(Fd h1).2,h2⟩
   ·rw [H.len] at CO;omega
  ·rw [A3] at hl;rcases DE h2 with ⟨CO,_⟩ | ⟨_,h2⟩
   ·rw [H.len] at CO;omega
   ·cases h1;exact .inr ⟨hl,rfl,h2.symm⟩
 have grow: ∀ b,MO (h.set k none++[some o']) (ρ++[p']) b -> MO h ρ b∨w.heap.size<=b:=by
  rintro b ⟨i,o1,p1,h1,h2,h3⟩;rcases Hu h1 h2 with ⟨_,_,g1,g2⟩ | ⟨_,_,rfl⟩
  ·exact .inl ⟨i,o1,p1,g1,g2,h3⟩
  ·exact (hf b h3).1.imp (hM b) id
 have O:Bc (MS N h ρ) w ρ (MS N (h.set k none++[some o']) (ρ++[p'])) w' (ρ++[p']):=by
  refine ⟨fun b hb hm _=>hu.block b hb fun hx=>hm (.inr (hM b hx)),fun b hb=>?_,fun i q hi=>D5 hi⟩;rcases hb with hb | hb
  ·exact .inl (.inl hb)
  ·exact (grow b hb).imp .inr id
 refine ⟨⟨by simp [H.len],fun i o1 hi=>?_,fun i o1 p1 b h1 h2 h3=>?_,fun i i' o1 o2 p1 p2 b Aw h1 h2 h3 h4 h5 h6=>?_,fun b hb=>⟨yM (H.nlt b hb).1 hu.size,(H.nlt b hb).2⟩,Γ.st _ _ H.gi (hu.mono fun b _ hb=>(H.cel k o p b hk hp hb).1)⟩,⟨hu.mono fun b _ hb=>hM b hb,grow⟩⟩
 ·rcases DE hi with ⟨hl,hi⟩ | ⟨hl,hi⟩
  ·obtain ⟨p1,Ku,hr⟩:=H.obj i o1 (Fd hi).2;refine ⟨p1,D5 Ku,hr.out O hu (fun b hb=>.inr (hM b hb)) fun b _ h1 h2=>H.dis i k o1 o p1 p b (Fd hi).1 (Fd hi).2 hk Ku hp h1 h2⟩
  ·cases hi;exact ⟨p',by rw [hl,A3,←H.len];simp,ho⟩
 ·rcases Hu h1 h2 with ⟨Aw,_,g1,g2⟩ | ⟨_,_,rfl⟩
  ·obtain ⟨e1,e2,c,t,z,e3⟩:=H.cel i o1 p1 b g1 g2 h3;exact ⟨e1,e2,c,t,z,(hu.block b (xz.1 e3).1 fun hx=>H.dis i k o1 o p1 p b Aw g1 hk g2 hp h3 hx).trans e3⟩
  ·obtain ⟨e1,e2⟩:=hf b h3;rcases e1 with e1 | e1
   ·obtain ⟨q1,q2,_⟩:=H.cel k o p b hk hp e1;exact ⟨q1,q2,e2⟩
   ·exact ⟨yO (Γ.lo _ H.gi) e1,fun hn=>by have:=H.nlt b hn;omega,e2⟩
 ·have key: ∀ {i o1 p1},i≠k -> h[i]? =some (some o1) -> ρ[i]? =some p1 -> p1.foot b -> p'.foot b -> False:=fun {i o1 p1} Aw g1 g2 g3 g4=>by
   rcases (hf b g4).1 with e1 | e1
   ·exact H.dis i k o1 o p1 p b Aw g1 hk g2 hp g3 e1
   ·have:=H.lt (.inr ⟨i,o1,p1,g1,g2,g3⟩);omega
  rcases Hu h1 h3 with ⟨Qa,_,g1,g2⟩ | ⟨e1,_,rfl⟩
  ·rcases Hu h2 h4 with ⟨_,_,g3,g4⟩ | ⟨_,_,rfl⟩
   ·exact H.dis i i' o1 o2 p1 p2 b Aw g1 g3 g2 g4 h5 h6
   ·exact key Qa g1 g2 h5 h6
  ·rcases Hu h2 h4 with ⟨MN,_,g3,g4⟩ | ⟨e2,_,rfl⟩
   ·exact key MN g3 g4 h6 h5
   ·exact Aw (e1.trans e2.symm)
def HT (n:Nat) (R:Nat -> Value -> Prop) (Br:List Value) (j:Nat) (u:Value):Prop:=if j<n then R j u else Br[j-n]? =some u
theorem Yp {t ty e:TypeId} {i:TypeInfo} {z:Value} (hu:P.underlying t=some (.slice e)) (hi:P.info? e=some i) (hz:i.zero=some z) (MI:i.size≠0) (CN:z.cells.size=i.size) (DD:i.bytes<=128)
 {p:AN} {n cap:Nat} {R:Nat -> Value -> Prop} (hr:Ai w p (n*i.size) R) (Kz:n<=cap) (Th:p.off+cap*i.size<=p.room)
 {vy:Value} {c:Nat} {Br:List Value} (hy:Src P i.size t vy c Br w) (hb:n+c<=1000000000000):
 ∃ w' p' Bs,(Builtin.append_ #[t,t] ty #[.slice (some ⟨p.blk,p.off,none⟩) n cap,vy]).run P w= .ok (.slice (some ⟨p'.blk,p'.off,none⟩) (n+c) Bs) w'/\ n+c<=Bs/\ p'.off+Bs*i.size<=p'.room/\
  AP p.foot w w'/\ (∀ b,p'.foot b -> p.foot b∨w.heap.size<=b)/\ Ai w' p' ((n+c)*i.size) (HT (n*i.size) R Br):=by
 have Ew:Br.length=c*i.size:=hy.newsLen
 by_cases XG:n+c<=cap
 ·obtain ⟨g1,cs,tt,g2,g3,g4,g5⟩:=hr;have tS:(n+c)*i.size<=cap*i.size:=zh _ XG;rw [zr] at tS;have eG:p.off+n*i.size+Br.length<=cs.size:=by omega
  refine ⟨w.setCells p.blk (p.off+n*i.size) Br,p,cap,run_append_room_src w t t ty e i hu hi p.blk p.off n cap vy c Br hy XG (fun j hj=>?_) (fun j _=>by unfold World.frozen?;simp [g2]),XG,Th,?_,fun b hb=>.inl hb,?_⟩
  ·unfold World.cell?;simp only [g2];simp;omega
  ·rw [g1];exact M8 _ _ _ _
  ·obtain ⟨Ds,e1,e2,e3⟩:=Ny p.blk tt (0,0) Br (p.off+n*i.size) w cs g2 eG;refine ⟨g1,Ds,tt,e1,by rw [zr];omega,by omega,fun j hj=>?_⟩;rw [zr] at hj;rw [e3]
   by_cases Js:j<n*i.size
   ·rw [yK (by omega)];obtain ⟨u,q1,q2⟩:=g5 j Js;exact ⟨u,q1,by unfold HT;rw [xw Js];exact q2⟩
   ·rw [xw (by omega)];have AU:j-n*i.size<Br.length:=by omega
    refine ⟨Br[j-n*i.size],by rw [show p.off+j-(p.off+n*i.size)=j-n*i.size by omega];simp [AU],?_⟩;unfold HT;rw [yK Js];simp [AU]
 ·obtain ⟨g,hg⟩: ∃ g:Nat -> Value,∀ j,j<n*i.size -> w.cell? ⟨p.blk,p.off+j,none⟩=some (g j)/\ R j (g j):=by
   refine ⟨fun j=>(w.cell? ⟨p.blk,p.off+j,none⟩).getD undef,fun j hj=>?_⟩;obtain ⟨u,h1,h2⟩:=hr.cell hj;simp [h1,h2]
  have Kv:(Builtin.firstCells i.size n (.slice (some ⟨p.blk,p.off,none⟩) n cap)).run P w.drew= .ok (((List.range (n*i.size)).map g).toArray) w.drew:=by
   have:=run_loadCells (P:=P) w.drew ⟨p.blk,p.off,none⟩ (n*i.size) g (fun j hj=>by rw [IL];exact ((At.toDrew w).cell (hg j hj).1));simpa [Builtin.firstCells] using this
  have tR:(n+c)*i.bytes<=1000000000000*128:=zBE hb DD;have Np:=run_append_grow_src (P:=P) w t t ty e i z hu hi hz (some ⟨p.blk,p.off,none⟩) n cap _ Kv vy c Br hy (by omega) (by omega) (growslice_fits (by omega) (by omega));have Tv:n+c<=grownCap w (n+c) cap e:=grownCap_ge w (n+c) cap e
  have C6:((((List.range (n*i.size)).map g)++Br).toArray++Builtin.zeroCells z.cells (grownCap w (n+c) cap e-(n+c))).size=grownCap w (n+c) cap e*i.size:=by
   simp only [Array.size_append,zAv,yc,zE,zAU,Ew,size_zeroCells,CN,←zr]
   congr 1;omega
  refine ⟨_,Dm w (grownCap w (n+c) cap e*i.size),grownCap w (n+c) cap e,Np,Tv,by simp [Dm],?_,fun b hb=>.inr (Nat.le_of_eq (Eq.symm hb)),?_⟩
  ·exact AP.ofExt ((At.toDrew w).allocR _)
  ·refine Ai.out (Vl (w:=w) (w1:=w.drew) (t:=e) (cs:=(((List.range (n*i.size)).map g)++Br).toArray++Builtin.zeroCells z.cells (grownCap w (n+c) cap e-(n+c))) rfl C6 |>fun hr=>?_) rfl (R:=fun j u=>((((List.range (n*i.size)).map g)++Br).toArray++Builtin.zeroCells z.cells (grownCap w (n+c) cap e-(n+c)))[j]? =some u) fun j u hj Bl=>?_
   ·obtain ⟨q1,cs,tt,q2,q3,q4,q5⟩:=hr;have CC:(n+c)*i.size<=grownCap w (n+c) cap e*i.size:=zh _ Tv;exact ⟨q1,cs,tt,q2,by omega,q4,fun j hj=>q5 j (by omega)⟩
   ·rw [zr] at hj;unfold HT;have Ey:j<(((List.range (n*i.size)).map g)++Br).length:=by simp;omega
    rw [zk (by simpa using Ey)] at Bl
    by_cases Js:j<n*i.size
    ·rw [xw Js]
     have:u=g j:=by
      simp only [zAy] at Bl;rw [yb (by simpa using Js)] at Bl;simp [Js] at Bl;exact Bl.symm
     rw [this];exact (hg j Js).2
    ·rw [yK Js];simp only [zAy] at Bl;rw [yi (by simp;omega)] at Bl;simpa using Bl
theorem Yr (ad:Option Addr:=none) {t ty e:TypeId} {i:TypeInfo} {z:Value} (hu:P.underlying t=some (.slice e)) (hi:P.info? e=some i) (hz:i.zero=some z) (CN:z.cells.size=i.size) (DD:i.bytes<=128)
 {vy:Value} {c:Nat} {Br:List Value} (hy:Src P i.size t vy c Br w) (hc:0<c) (hb:c<=1000000000000):
 ∃ w' Bs,(Builtin.append_ #[t,t] ty #[.slice ad 0 0,vy]).run P w= .ok (.slice (some ⟨w.heap.size,0,none⟩) c Bs) w'/\ c<=Bs/\ ∃ cs,w'=w.drew.alloc (.cells cs e)/\ cs.size=Bs*i.size/\ ∀ j,j<c*i.size -> cs[j]? =Br[j]? :=by
 have Ew:Br.length=c*i.size:=hy.newsLen;have Kv:(Builtin.firstCells i.size 0 (.slice ad 0 0)).run P w.drew= .ok (([]:List Value).toArray) w.drew:=by cases ad <;> simp [Builtin.firstCells,loadCells,loadCellsFrom]
 have tR:c*i.bytes<=1000000000000*128:=zBE hb DD;have Np:=run_append_grow_src (P:=P) w t t ty e i z hu hi hz ad 0 0 [] Kv vy c Br hy (by omega) (by omega) (growslice_fits (by omega) (by rw [yU];omega));rw [yU] at Np;have Tv:c<=grownCap w c 0 e:=grownCap_ge w c 0 e;refine ⟨_,_,Np,Tv,_,rfl,?_,fun j hj=>?_⟩
 ·simp only [zW,Array.size_append,zAv,Ew,size_zeroCells,CN,←zr]
  congr 1;omega
 ·rw [zk (by simp;omega)];simp
end
end Go.Proofs.YtgkhhfnhacibcaaGreatDoor
namespace Go.Proofs.YtgkhhfnhacibcaaGreatDoor
abbrev zN:=@List.mem_map
abbrev zg:=@Nat.eq_zero_or_pos
abbrev zA2:=@Nat.le_of_not_lt
end Go.Proofs.YtgkhhfnhacibcaaGreatDoor
namespace Go.Proofs.YtgkhhfnhacibcaaGreatDoor
open Go.RowKit
def QL (S:St):DV -> Option (List Int×Prop)
 | .nils=>some ([],True)
 | .ints l=>some (l,True)
 | .msl k m off n=>match S.h[k]? with
  | some (some (.ints l))=>if m==1 then some (l,off=0/\ n=l.length) else none
  | _=>none
 | _=>none
def Ye (S:St):DV -> Option (List Bool×Prop)
 | .nils=>some ([],True)
 | .bools l=>some (l,True)
 | .msl k m off n=>match S.h[k]? with
  | some (some (.bools l))=>if m==1 then some (l,off=0/\ n=l.length) else none
  | _=>none
 | _=>none
def YB (S:St) (m:Nat):DV -> Option (Nat×(Nat -> Nat -> DV)×Prop)
 | .nils=>some (0,(fun _ _=>.any),True)
 | .sl m' n f=>if m'==m then some (n,f,True) else none
 | .msl k m' off n=>match S.h[k]? with
  | some (some (.arr m2 n2 f))=>if m'==m&&m2==m then some (n2,f,off=0/\ n=n2) else none
  | _=>none
 | _=>none
def As:Nat:=1000000000000
def Yw (P:Program) (S:St) (t:TypeId) (x y:DV):Option (DV×DH×Prop):=match Jz P t with
 | some (k,_,i,_)=>if 128<i.bytes then none else match k with
  | .ints=>match QL S y with
   | some (ys,vy)=>match x with
    | .nils=>some (.msl S.h.length 1 0 ys.length,S.h++[some (.ints ys)],vy/\ 0<ys.length/\ ys.length<=As)
    | .msl k m off n=>match S.h[k]? with
     | some (some (.ints xs))=>if m==1 then some (.msl S.h.length 1 0 (xs.length+ys.length),S.h.set k none++[some (.ints (xs++ys))],vy/\ (off=0/\ n=xs.length)/\ xs.length+ys.length<=As) else none
     | _=>none
    | _=>none
   | none=>none
  | .bools=>match Ye S y with
   | some (ys,vy)=>match x with
    | .nils=>some (.msl S.h.length 1 0 ys.length,S.h++[some (.bools ys)],vy/\ 0<ys.length/\ ys.length<=As)
    | .msl k m off n=>match S.h[k]? with
     | some (some (.bools xs))=>if m==1 then some (.msl S.h.length 1 0 (xs.length+ys.length),S.h.set k none++[some (.bools (xs++ys))],vy/\ (off=0/\ n=xs.length)/\ xs.length+ys.length<=As) else none
     | _=>none
    | _=>none
   | none=>none
  | .gen m=>match YB S m y with
   | some (c,g,vy)=>match x with
    | .nils=>some (.msl S.h.length m 0 c,S.h++[some (.arr m c g)],(vy/\ ∀ i j,i<c -> j<m -> Hp (g i j)=true)/\ 0<c/\ c<=As)
    | .msl k m' off n=>match S.h[k]? with
     | some (some (.arr m2 n2 f))=>if m'==m&&m2==m then some (.msl S.h.length m 0 (n2+c),S.h.set k none++[some (.arr m (n2+c) (fun i j=>if i<n2 then f i j else g (i-n2) j))],(vy/\ ∀ i j,i<c -> j<m -> Hp (g i j)=true)/\ (off=0/\ n=n2)/\ n2+c<=As) else none
     | _=>none
    | _=>none
   | none=>none
 | none=>none
section
variable {P:Program} {Γ:BB} {N:Nat -> Prop} {S:St} {ρ:List AN} {a:Act} {w:World} {h:DH}
theorem Oy {t e:TypeId} (hu:P.underlying t=some (.slice e)) {m:Nat} {ad:Option Addr} {c cap:Nat} {Br:List Value} (hl:Br.length=c*m) (hc: ∀ j u,Br[j]? =some u -> ∃ b o,ad=some ⟨b,o,none⟩/\ w.cell? ⟨b,o+j,none⟩=some u)
 (h1: ∀ u∈Br,u.oneCell'=true) (hm:0<m) (XY:ad=none -> c=0):Src P m t (.slice ad c cap) c Br w:=by
 cases ad with
 | none=>
  have:=XY rfl;subst this;have:Br= []:=zT (by simpa using hl);subst this;exact Src.ofNil w hu cap
 | some ad=>
  refine Src.ofSlice w hu ad c cap Br hl (fun j u hj=>?_) h1;obtain ⟨b,o,e1,e2⟩:=hc j u hj;cases e1;rw [IL];exact e2
theorem QK (R:Ad P Γ N S ρ a w) {t e:TypeId} (hu:P.underlying t=some (.slice e)) {y:DV} {v:Value} (hy:AO (MS N S.h ρ) w y ρ v) {ys:List Int} {vy:Prop} (h:QL S y=some (ys,vy)) (hv:vy):
 Src P 1 t v ys.length (ys.map (Value.int .i64)) w:=by
 have one: ∀ u∈ys.map (Value.int .i64),u.oneCell'=true:=fun u hu=>by obtain ⟨n,_,rfl⟩:=zN.1 hu;rfl
 have val: ∀ {j:Nat} {u:Value},(ys.map (Value.int .i64))[j]? =some u -> j<ys.length/\ u= .int .i64 (ys.getD j 0):=fun {j u} hj=>by
  have AU:=(yI.1 hj).1;have AU:j<ys.length:=by simpa using AU
  simp [AU] at hj;exact ⟨AU,by rw [←hj];simp [AU]⟩
 unfold QL at h;split at h
 ·cases h;rw [show v=_ from hy];exact Src.ofNil w hu 0
 ·cases h;obtain ⟨ad,cap,rfl,h1,h2,h3⟩:=hy;refine Oy hu (by simp) (fun j u hj=>?_) one (by omega) (fun e=>?_)
  ·obtain ⟨AU,rfl⟩:=val hj;obtain ⟨b,o,e1,_,e2⟩:=h3 j AU;exact ⟨b,o,e1,e2⟩
  ·rcases zg ys.length with h0 | h0
   ·exact h0
   ·obtain ⟨b,o,e1,_⟩:=h3 0 h0;rw [e] at e1;cases e1
 ·rename_i k m off n;obtain ⟨p,cap,hp,rfl,h1,h2,h3⟩:=hy;split at h
  ·rename_i l hk;split at h
   ·rename_i hm;cases h;have CH:m=1:=by simpa using hm
    subst CH;obtain ⟨p',BJ,hr⟩:=R.hr.obj k _ hk;have e:p'=p:=yH (BJ.symm.trans hp);subst e;obtain ⟨rfl,rfl⟩:=hv;refine Oy hu (by simp) (fun j u hj=>?_) one (by omega) (fun e=>by cases e);obtain ⟨AU,rfl⟩:=val hj;obtain ⟨u,e1,e2⟩:=Ai.cell hr AU;exact ⟨p'.blk,p'.off,by simp,by rw [e1,e2]⟩
   ·cases h
  ·cases h
 ·cases h
theorem gP (R:Ad P Γ N S ρ a w) {t e:TypeId} (hu:P.underlying t=some (.slice e)) {y:DV} {v:Value} (hy:AO (MS N S.h ρ) w y ρ v) {ys:List Bool} {vy:Prop} (h:Ye S y=some (ys,vy)) (hv:vy):
 Src P 1 t v ys.length (ys.map Value.bool) w:=by
 have one: ∀ u∈ys.map Value.bool,u.oneCell'=true:=fun u hu=>by obtain ⟨n,_,rfl⟩:=zN.1 hu;rfl
 have val: ∀ {j:Nat} {u:Value},(ys.map Value.bool)[j]? =some u -> j<ys.length/\ u= .bool (ys.getD j false):=fun {j u} hj=>by
  have AU:=(yI.1 hj).1;have AU:j<ys.length:=by simpa using AU
  simp [AU] at hj;exact ⟨AU,by rw [←hj];simp [AU]⟩
 unfold Ye at h;split at h
 ·cases h;rw [show v=_ from hy];exact Src.ofNil w hu 0
 ·cases h;obtain ⟨ad,cap,rfl,h1,h2,h3⟩:=hy;refine Oy hu (by simp) (fun j u hj=>?_) one (by omega) (fun e=>?_)
  ·obtain ⟨AU,rfl⟩:=val hj;obtain ⟨b,o,e1,_,e2⟩:=h3 j AU;exact ⟨b,o,e1,e2⟩
  ·rcases zg ys.length with h0 | h0
   ·exact h0
   ·obtain ⟨b,o,e1,_⟩:=h3 0 h0;rw [e] at e1;cases e1
 ·rename_i k m off n;obtain ⟨p,cap,hp,rfl,h1,h2,h3⟩:=hy;split at h
  ·rename_i l hk;split at h
   ·rename_i hm;cases h;have CH:m=1:=by simpa using hm
    subst CH;obtain ⟨p',BJ,hr⟩:=R.hr.obj k _ hk;have e:p'=p:=yH (BJ.symm.trans hp);subst e;obtain ⟨rfl,rfl⟩:=hv;refine Oy hu (by simp) (fun j u hj=>?_) one (by omega) (fun e=>by cases e);obtain ⟨AU,rfl⟩:=val hj;obtain ⟨u,e1,e2⟩:=Ai.cell hr AU;exact ⟨p'.blk,p'.off,by simp,by rw [e1,e2]⟩
   ·cases h
  ·cases h
 ·cases h
theorem Qr {ρ':Operand -> Value} {o:Oper} {c:Call} {x y:Operand} {t t2:TypeId} (ho:o.op= .call c) (hc:c.callee= .builtin .append) (ha:c.args.toList= [x,y]) (ht:c.argTypes.toList= [t,t2]):
 execOp ρ' o=(do pure (.value (←Builtin.append_ #[t,t2] o.type #[ρ' x,ρ' y]))):=by
 unfold execOp;rw [ho]
 show (resolve ρ' c o.type>>=fun d=>invoke d.target d.args)=_
 unfold resolve;rw [hc,Ri ha,Ri ht];simp;rfl
theorem Yq (R:Ad P Γ N S ρ a w) {t e:TypeId} {i:TypeInfo} {z:Value} (hu:P.underlying t=some (.slice e)) (hi:P.info? e=some i) (hz:i.zero=some z) (MI:i.size≠0) (CN:z.cells.size=i.size) (DD:i.bytes<=128)
 {k:Nat} {ob ob':DO} {p:AN} (hk:S.h[k]? =some (some ob)) (hp:ρ[k]? =some p) {n cap c:Nat} {Rw:Nat -> Value -> Prop} (hr:Ai w p (n*i.size) Rw) (Kz:n<=cap) (Th:p.off+cap*i.size<=p.room)
 {vy:Value} {Br:List Value} (hy:Src P i.size t vy c Br w) (hb:n+c<=As)
 (HJ: ∀ M ρ' w' p',Bc (MS N S.h ρ) w ρ M w' ρ' -> Ai w' p' ((n+c)*i.size) (HT (n*i.size) Rw Br) -> DW P M w' ρ' p' ob')
 (o:Oper) {cl:Call} {x y:Operand} (ho:o.op= .call cl) (hc:cl.callee= .builtin .append) (ha:cl.args.toList= [x,y]) (ht:cl.argTypes.toList= [t,t]) (hx:a.eval x= .slice (some ⟨p.blk,p.off,none⟩) n cap) (W8:a.eval y=vy):
 BS P (execOp a.eval o) w (C1 P Γ N S.h ρ w false (.msl S.h.length i.size 0 (n+c)) (S.h.set k none++[some ob'])):=by
 obtain ⟨w',p',Bs,h1,h2,h3,h4,h5,h6⟩:=Yp (ty:=o.type) hu hi hz MI CN DD hr Kz Th hy hb;refine BS.value (Qr ho hc ha ht) (by rw [hx,W8];exact h1) ?_
 have uJ: ∀ b,p'.foot b -> C7 w' b:=fun b hb=>by
  obtain ⟨e1,cs,tt,e2,_⟩:=h6;rw [e1] at hb;exact .cells (c:=cs) (t:=tt) (z:=(0,0)) (by rw [show b=p'.blk from hb];exact e2)
 have A3:(S.h.set k none).length=S.h.length:=by simp
 have O:Bc (MS N S.h ρ) w ρ (MS N (S.h.set k none++[some ob']) (ρ++[p'])) w' (ρ++[p']):=by
  refine ⟨fun b hb hm _=>h4.block b hb fun hx=>hm (.inr ⟨k,ob,p,hk,hp,hx⟩),fun b hb=>?_,fun i q hi=>D5 hi⟩;rcases hb with hb | hb
  ·exact .inl (.inl hb)
  ·obtain ⟨i1,o1,p1,g1,g2,g3⟩:=hb;rcases DE g1 with ⟨hl,g1⟩ | ⟨hl,_⟩
   ·rcases DE g2 with ⟨_,g2⟩ | ⟨CO,_⟩
    ·exact .inl (.inr ⟨i1,o1,p1,(Fd g1).2,g2,g3⟩)
    ·rw [A3] at hl;rw [R.hr.len] at CO;omega
   ·rcases DE g2 with ⟨CO,_⟩ | ⟨_,rfl⟩
    ·rw [A3] at hl;rw [R.hr.len] at CO;omega
    ·exact (h5 b g3).imp (fun hx=>.inr ⟨k,ob,p,hk,hp,hx⟩) id
 obtain ⟨g1,g2⟩:=R.hr.regrow (o':=ob') hk hp h4 (fun b hb=>⟨h5 b hb,uJ b hb⟩) (HJ _ _ _ _ O h6);refine ⟨⟨ρ++[p'],g1,⟨p',Bs,by rw [←R.hr.len];simp,by simp,h2,by unfold LB;unfold As at hb;omega,by simpa using h3⟩,g2,fun _ _ h=>D5 h⟩,fun h=>by cases h⟩
theorem Ys (R:Ad P Γ N S ρ a w) {t e:TypeId} {i:TypeInfo} {z:Value} (hu:P.underlying t=some (.slice e)) (hi:P.info? e=some i) (hz:i.zero=some z) (CN:z.cells.size=i.size) (DD:i.bytes<=128)
 {ob':DO} {c:Nat} {vy:Value} {Br:List Value} (hy:Src P i.size t vy c Br w) (Ma:0<c) (hb:c<=As)
 (HJ: ∀ M ρ' w' p',Bc (MS N S.h ρ) w ρ M w' ρ' -> Ai w' p' (c*i.size) (fun j u=>Br[j]? =some u) -> DW P M w' ρ' p' ob') (ext:Bool)
 (o:Oper) {cl:Call} {x y:Operand} (ho:o.op= .call cl) (hc:cl.callee= .builtin .append) (ha:cl.args.toList= [x,y]) (ht:cl.argTypes.toList= [t,t]) (hx:a.eval x= .slice none 0 0) (W8:a.eval y=vy):
 BS P (execOp a.eval o) w (C1 P Γ N S.h ρ w ext (.msl S.h.length i.size 0 c) (S.h++[some ob'])):=by
 obtain ⟨w',Bs,h1,h2,cs,rfl,h4,h5⟩:=Yr none (ty:=o.type) hu hi hz CN DD hy Ma hb;have Ew:Br.length=c*i.size:=hy.newsLen;refine BS.value (Qr ho hc ha ht) (by rw [hx,W8];exact h1) ?_;have CC:c*i.size<=Bs*i.size:=zh _ h2;refine N7 (d:=.msl S.h.length i.size 0 c) R.hr ⟨At.toDrew w,rfl⟩ (fun M ρ' O=>HJ _ _ _ _ O ?_) (fun M ρ' hp=>⟨_,Bs,hp,by simp [Dm],h2,by unfold LB;unfold As at hb;omega,by simp only [Dm];omega⟩) ext;refine Li rfl (by omega) fun j hj=>?_
 rw [h5 j hj];exact ⟨Br[j],by simp [Ew,hj],by simp [Ew,hj]⟩
theorem Wt {xs ys:List Int} {M:Nat -> Prop} {w':World} {ρ':List AN} {p':AN} {s:Nat} (hs:s=1) (h:Ai w' p' ((xs.length+ys.length)*s) (HT (xs.length*s) (fun j u=>u= .int .i64 (xs.getD j 0)) (ys.map (Value.int .i64)))):DW P M w' ρ' p' (.ints (xs++ys)):=by
 subst hs
 show Ai _ _ (xs++ys).length _
 rw [yc];rw [yz,yz] at h;refine Ai.out h rfl fun j u hj hu=>?_
 unfold HT at hu;split at hu
 ·rename_i AU;rw [hu];simp [u8,yb AU]
 ·rename_i AU;have GO:j-xs.length<ys.length:=by omega
  simp [GO] at hu;rw [←hu];simp [u8,yi (zA2 AU),GO]
theorem wx {xs ys:List Bool} {M:Nat -> Prop} {w':World} {ρ':List AN} {p':AN} {s:Nat} (hs:s=1) (h:Ai w' p' ((xs.length+ys.length)*s) (HT (xs.length*s) (fun j u=>u= .bool (xs.getD j false)) (ys.map Value.bool))):DW P M w' ρ' p' (.bools (xs++ys)):=by
 subst hs
 show Ai _ _ (xs++ys).length _
 rw [yc];rw [yz,yz] at h;refine Ai.out h rfl fun j u hj hu=>?_
 unfold HT at hu;split at hu
 ·rename_i AU;rw [hu];simp [u8,yb AU]
 ·rename_i AU;have GO:j-xs.length<ys.length:=by omega
  simp [GO] at hu;rw [←hu];simp [u8,yi (zA2 AU),GO]
theorem fE (R:Ad P Γ N S ρ a w) {t e:TypeId} (hu:P.underlying t=some (.slice e)) {y:DV} {v:Value} (hy:AO (MS N S.h ρ) w y ρ v) {m c:Nat} (AC:0<m) {g:Nat -> Nat -> DV} {vy:Prop} (h:YB S m y=some (c,g,vy)) (hv:vy)
 (h1: ∀ i j,i<c -> j<m -> Hp (g i j)=true): ∃ Br,Src P m t v c Br w/\ ∀ j u,Br[j]? =some u -> AO (MS N S.h ρ) w (g (j/m) (j % m)) [] u:=by
 have dm: ∀ {j:Nat},j<c*m -> j/m<c/\ j % m<m/\ j/m*m+j % m=j:=fun {j} hj=>⟨by rw [zz AC];exact hj,zAZ _ AC,by rw [zq];exact Nat.div_add_mod j m⟩
 have YP: ∀ (ad:Option Addr) (cap:Nat),(∀ j,j<c*m -> ∃ b o u,ad=some ⟨b,o,none⟩/\ w.cell? ⟨b,o+j,none⟩=some u/\ AO (MS N S.h ρ) w (g (j/m) (j % m)) [] u) -> v= .slice ad c cap -> (ad=none -> c=0) ->
  ∃ Br,Src P m t v c Br w/\ ∀ j u,Br[j]? =some u -> AO (MS N S.h ρ) w (g (j/m) (j % m)) [] u:=by
  intro ad cap hc rD XY
  obtain ⟨f,hf⟩: ∃ f:Nat -> Value,∀ j,j<c*m -> ∃ b o,ad=some ⟨b,o,none⟩/\ w.cell? ⟨b,o+j,none⟩=some (f j)/\ AO (MS N S.h ρ) w (g (j/m) (j % m)) [] (f j):=by
   refine ⟨fun j=>(match ad with | some a=>w.cell? ⟨a.block,a.off+j,none⟩ | none=>none).getD undef,fun j hj=>?_⟩;obtain ⟨b,o,u,rfl,e2,e3⟩:=hc j hj;exact ⟨b,o,rfl,by simp [e2],by simpa [e2] using e3⟩
  have val: ∀ {j:Nat} {u:Value},((List.range (c*m)).map f)[j]? =some u -> j<c*m/\ u=f j:=fun {j u} hj=>by
   have AU:=(yI.1 hj).1;have AU:j<c*m:=by simpa using AU
   simp [AU] at hj;exact ⟨AU,hj.symm⟩
  refine ⟨(List.range (c*m)).map f,?_,fun j u hj=>?_⟩
  ·rw [rD];refine Oy hu (by simp) (fun j u hj=>?_) (fun u Bl=>?_) AC XY
   ·obtain ⟨AU,rfl⟩:=val hj;obtain ⟨b,o,e1,e2,_⟩:=hf j AU;exact ⟨b,o,e1,e2⟩
   ·obtain ⟨j,hj,rfl⟩:=zN.1 Bl;have AU:=yR.1 hj;obtain ⟨_,_,_,_,e3⟩:=hf j AU;exact (Sy (h1 _ _ (dm AU).1 (dm AU).2.1) e3).1
  ·obtain ⟨AU,rfl⟩:=val hj;obtain ⟨_,_,_,_,e3⟩:=hf j AU;exact e3
 unfold YB at h;split at h
 ·cases h;refine YP none 0 (fun j hj=>by rw [Nat.zero_mul] at hj;omega) hy (fun _=>rfl)
 ·rename_i m' n f;split at h
  ·rename_i hm;cases h;have CH:m'=m:=by simpa using hm
   subst CH;obtain ⟨ad,cap,rfl,g1,g2,g3⟩:=hy;refine YP ad cap (fun j hj=>?_) rfl (fun e=>?_)
   ·obtain ⟨b,o,u,e1,_,e2,e3⟩:=g3 _ _ (dm hj).1 (dm hj).2.1;exact ⟨b,o,u,e1,by rw [(dm hj).2.2] at e2;exact e2,e3⟩
   ·rcases zg c with h0 | h0
    ·exact h0
    ·obtain ⟨b,o,u,e1,_⟩:=g3 0 0 h0 AC;rw [e] at e1;cases e1
  ·cases h
 ·rename_i k m' off n;obtain ⟨p,cap,hp,rfl,g1,g2,g3⟩:=hy;split at h
  ·rename_i m2 n2 f hk;split at h
   ·rename_i hm;cases h;simp only [yD,yo] at hm;obtain ⟨rfl,rfl⟩:=hm;obtain ⟨p',BJ,hr⟩:=R.hr.obj k _ hk;have e:p'=p:=yH (BJ.symm.trans hp);subst e;obtain ⟨rfl,rfl⟩:=hv;refine YP (some ⟨p'.blk,p'.off+0*m2,none⟩) cap (fun j hj=>?_) rfl (fun e=>by cases e);obtain ⟨u,e1,e2⟩:=Ai.cell hr hj;exact ⟨p'.blk,p'.off,u,by simp,e1,e2⟩
   ·cases h
  ·cases h
 ·cases h
theorem xR (R:Ad P Γ N S ρ a w) {t:TypeId} {x y:Operand} {d:DV} {h':DH} {vc:Prop} (hd:Yw P S t (Ac S.fr x) (Ac S.fr y)=some (d,h',vc)) (hv:vc) (o:Oper) {cl:Call} (ho:o.op= .call cl) (hc:cl.callee= .builtin .append)
 (ha:cl.args.toList= [x,y]) (ht:cl.argTypes.toList= [t,t]):BS P (execOp a.eval o) w (C1 P Γ N S.h ρ w false d h'):=by
 have rx:=Bh R x;have ry:=Bh R y;unfold Yw at hd;split at hd
 ·rename_i kk e i z hk;obtain ⟨hu,hi,hz,h0,CN,Dq,re,GM⟩:=Qx hk;clear re GM;split at hd
  ·cases hd
  ·rename_i DD;have N4:i.bytes<=128:=by omega
   split at hd
   ·have CU:i.size=1:=Dq.symm;split at hd
    ·rename_i ys vy hy;split at hd
     ·rename_i ex;cases hd;rw [ex] at rx
      have:=Ys (ob':=.ints ys) R hu hi hz CN N4 (by rw [CU];exact QK R hu ry hy hv.1) hv.2.1 hv.2.2 (fun M ρ' w' p' O hr=>by
       have DC:=hr;rw [CU,yz] at DC;refine Ai.out DC rfl fun j u hj Bl=>?_
       simp [hj] at Bl;rw [←Bl];simp [hj]) false o ho hc ha ht rx rfl
      rw [CU] at this;exact this
     ·rename_i k m off n ex;rw [ex] at rx;obtain ⟨p,cap,hp,hx,g1,g2,g3⟩:=rx;split at hd
      ·rename_i xs Kw;split at hd
       ·rename_i hm;cases hd;have CH:m=1:=by simpa using hm
        subst CH;obtain ⟨q1,⟨rfl,rfl⟩,q3⟩:=hv;obtain ⟨p',BJ,hr⟩:=R.hr.obj k _ Kw;have e:p'=p:=yH (BJ.symm.trans hp);subst e
        have:=Yq (ob':=.ints (xs++ys)) (n:=xs.length) (cap:=cap) (c:=ys.length) R hu hi hz h0 CN N4 Kw hp (Rw:=fun j u=>u= .int .i64 (xs.getD j 0)) (by rw [CU,yz];exact hr) g1 (by rw [CU];simpa using g3) (by rw [CU];exact QK R hu ry hy q1) q3
         (fun M ρ' w' p' O hr=>Wt CU hr) o ho hc ha ht (by simpa using hx) rfl
        rw [CU] at this;exact this
       ·cases hd
      ·cases hd
     ·cases hd
    ·cases hd
   ·have CU:i.size=1:=Dq.symm;split at hd
    ·rename_i ys vy hy;split at hd
     ·rename_i ex;cases hd;rw [ex] at rx
      have:=Ys (ob':=.bools ys) R hu hi hz CN N4 (by rw [CU];exact gP R hu ry hy hv.1) hv.2.1 hv.2.2 (fun M ρ' w' p' O hr=>by
       have DC:=hr;rw [CU,yz] at DC;refine Ai.out DC rfl fun j u hj Bl=>?_
       simp [hj] at Bl;rw [←Bl];simp [hj]) false o ho hc ha ht rx rfl
      rw [CU] at this;exact this
     ·rename_i k m off n ex;rw [ex] at rx;obtain ⟨p,cap,hp,hx,g1,g2,g3⟩:=rx;split at hd
      ·rename_i xs Kw;split at hd
       ·rename_i hm;cases hd;have CH:m=1:=by simpa using hm
        subst CH;obtain ⟨q1,⟨rfl,rfl⟩,q3⟩:=hv;obtain ⟨p',BJ,hr⟩:=R.hr.obj k _ Kw;have e:p'=p:=yH (BJ.symm.trans hp);subst e
        have:=Yq (ob':=.bools (xs++ys)) (n:=xs.length) (cap:=cap) (c:=ys.length) R hu hi hz h0 CN N4 Kw hp (Rw:=fun j u=>u= .bool (xs.getD j false)) (by rw [CU,yz];exact hr) g1 (by rw [CU];simpa using g3) (by rw [CU];exact gP R hu ry hy q1) q3
         (fun M ρ' w' p' O hr=>wx CU hr) o ho hc ha ht (by simpa using hx) rfl
        rw [CU] at this;exact this
       ·cases hd
      ·cases hd
     ·cases hd
    ·cases hd
   ·rename_i m;have B6:i.size=m:=Dq.symm;have AC:0<m:=by omega
    split at hd
    ·rename_i c g vy hy;split at hd
     ·rename_i ex;cases hd;rw [ex] at rx;obtain ⟨Br,XC,XZ⟩:=fE R hu ry AC hy hv.1.1 hv.1.2
      have:=Ys (ob':=.arr m c g) R hu hi hz CN N4 (by rw [B6];exact XC) hv.2.1 hv.2.2 (fun M ρ' w' p' O hr=>by
       rw [B6] at hr;exact Ai.out hr rfl fun j u hj Bl=>AO.out _ O.nil (XZ j u Bl)) false o ho hc ha ht rx rfl
      rw [B6] at this;exact this
     ·rename_i k m' off n ex;rw [ex] at rx;obtain ⟨p,cap,hp,hx,g1,g2,g3⟩:=rx;split at hd
      ·rename_i m2 n2 f Kw;split at hd
       ·rename_i hm;cases hd;simp only [yD,yo] at hm;obtain ⟨rfl,rfl⟩:=hm;obtain ⟨q1,⟨rfl,rfl⟩,q3⟩:=hv;obtain ⟨p',BJ,hr⟩:=R.hr.obj k _ Kw;have e:p'=p:=yH (BJ.symm.trans hp);subst e;obtain ⟨Br,XC,XZ⟩:=fE R hu ry AC hy q1.1 q1.2
        have:=Yq (ob':=.arr m2 (n+c) (fun i j=>if i<n then f i j else g (i-n) j)) (n:=n) (cap:=cap) (c:=c) R hu hi hz h0 CN N4 Kw hp (Rw:=fun j u=>AO (MS N S.h ρ) w (f (j/m2) (j % m2)) [] u) (by rw [B6];exact hr) g1 (by rw [B6];simpa using g3) (by rw [B6];exact XC) q3
         (fun M ρ' w' p' O hr=>by
          rw [B6] at hr;refine Ai.out hr rfl fun j u hj Bl=>?_
          show AO M w' (if j/m2<n then f (j/m2) (j % m2) else g (j/m2-n) (j % m2)) [] u
          unfold HT at Bl
          by_cases AU:j<n*m2
          ·rw [xw AU] at Bl;rw [xw (by rw [zz AC];exact AU)];exact AO.out _ O.nil Bl
          ·rw [yK AU] at Bl;rw [yK (by rw [zz AC];exact AU)];have h1:=XZ _ _ Bl;have e1:(j-n*m2)/m2=j/m2-n:=by rw [zq n m2];exact Nat.sub_mul_div ..
           have e2:(j-n*m2) % m2=j % m2:=by
            have GO:j=(j-n*m2)+n*m2:=by omega
            rw [GO,Nat.add_mul_mod_self_right,Nat.add_sub_cancel]
           rw [e1,e2] at h1;exact AO.out _ O.nil h1) o ho hc ha ht (by simpa using hx) rfl
        rw [B6] at this;exact this
       ·cases hd
      ·cases hd
     ·cases hd
    ·cases hd
 ·cases hd
end
end Go.Proofs.YtgkhhfnhacibcaaGreatDoor
namespace Go.Proofs.YtgkhhfnhacibcaaGreatDoor
abbrev yw:=@Bool.not_true
abbrev y8:=@Bool.true_and
abbrev zd:=@List.map_cons
abbrev zAK:=@List.getElem?_drop
abbrev zA3:=@List.length_drop
abbrev zBA:=@Go.run_equalIn_int
end Go.Proofs.YtgkhhfnhacibcaaGreatDoor
namespace Go.Proofs.YtgkhhfnhacibcaaGreatDoor
open Go.RowKit
def UJ (Ho:Nat -> Option (Nat×Nat)) (cells:List DV):List (Nat×DV) -> Option (List DV)
 | []=>some cells
 | (i,d)::rest=>match Ho i with
  | none=>none
  | some (off,size)=>match ID d with
   | none=>none
   | some l=>if l.length=size/\ off+l.length<=cells.length then UJ Ho (La cells off l) rest else none
def V6 (P:Program) (t:TypeId):Option (Value×(Nat -> Option (Nat×Nat))):=match P.info? t with
 | some it=>match P.underlying t with
  | some (.array _ e)=>match it.zero with
   | some z=>match P.info? e with
    | some ie=>some (z,fun i=>some (i*ie.size,ie.size))
    | none=>none
   | none=>none
  | some (.struct vK)=>match it.zero with
   | some z=>match vK.toList.mapM (fun f=>(P.info? f.type).map fun i=>(f.offset,i.size)) with
    | some Se=>some (z,fun i=>Se.toArray[i]?)
    | none=>none
   | none=>none
  | _=>none
 | none=>none
def TH (P:Program) (S:St) (t:TypeId) (parts:List (Nat×Operand)):Option (DV×Prop):=match V6 P t with
 | some (z,Ho)=>match UJ Ho (z.cells.toList.map FC) (parts.map fun x=>(x.1,Ac S.fr x.2)) with
  | some l=>some (.agg l.length (fun j=>l.getD j .any),True)
  | none=>none
 | none=>none
def Lt (P:Program) (t:TypeId) (m:Nat) (f:Nat -> DV) (off size:Nat):Option DV:=
 if off+size<=m then (if Fv P t then (if size=1 then some (f off) else none) else if RS P t size then some (.agg size (GD size fun j=>f (off+j))) else none) else none
def Wo (P:Program) (t:TypeId) (x:DV) (n:Int):Option (DV×Prop):=match x with
 | .agg m f=>match P.underlying t with
  | some (.array len e)=>match P.info? e with
   | some i=>if Fv P e&&i.size==1&&len==m then some (f n.toNat,0<=n/\ n<len) else none
   | none=>none
  | _=>none
 | _=>none
def UF (P:Program) (t:TypeId) (x:DV) (fi:Nat):Option (DV×Prop):=match x with
 | .agg m f=>match P.underlying t with
  | some (.struct fs)=>match fs[fi]? with
   | some fd=>match P.info? fd.type with
    | some i=>match Lt P fd.type m f fd.offset i.size with
     | some d=>some (d,True)
     | none=>none
    | none=>none
   | none=>none
  | _=>none
 | _=>none
def YO (P:Program) (t:TypeId) (x:DV) (lo hi:Option Int):Option (DV×Prop):=match P.underlying t with
 | some (.slice e)=>match P.info? e with
  | some i=>match x with
   | .ints l=>if i.size=1 then some (.ints ((l.take (hi.getD l.length).toNat).drop (lo.getD 0).toNat),0<=lo.getD 0/\ lo.getD 0<=hi.getD l.length/\ hi.getD l.length<=l.length) else none
   | .bools l=>if i.size=1 then some (.bools ((l.take (hi.getD l.length).toNat).drop (lo.getD 0).toNat),0<=lo.getD 0/\ lo.getD 0<=hi.getD l.length/\ hi.getD l.length<=l.length) else none
   | .sl m n f=>if i.size=m then some (.sl m ((hi.getD n).toNat-(lo.getD 0).toNat) (fun i j=>f ((lo.getD 0).toNat+i) j),0<=lo.getD 0/\ lo.getD 0<=hi.getD n/\ hi.getD n<=n) else none
   | .msl k m off n=>if i.size=m then some (.mse k m (off+(lo.getD 0).toNat) ((hi.getD n).toNat-(lo.getD 0).toNat),0<=lo.getD 0/\ lo.getD 0<=hi.getD n/\ hi.getD n<=n) else none
   | _=>none
  | none=>none
 | _=>none
def TQ (S:St):Option Operand -> Option (Option Int)
 | none=>some none
 | some x=>match Ac S.fr x with
  | .int _ n=>some (some n)
  | _=>none
def OK (f g:Nat -> DV):List Nat -> Bool
 | []=>true
 | i::is=>(HF (f i)==HF (g i))&&OK f g is
def UP (P:Program) (t:TypeId) (f g:Nat -> DV) (m m':Nat):Option (List Nat):=match P.underlying t with
 | some (.array n e)=>match P.info? e with
  | some i=>match P.underlying e with
   | some (.int _)=>if i.size==1&&Fv P e&&P.eqGuardType P.depth t==false&&n==m&&n==m'&&(List.range n).all (fun i=>Ji (f i)&&Ji (g i)) then some (List.range n) else none
   | _=>none
  | none=>none
 | _=>none
def Qu (P:Program) (op:BinOp) (t:TypeId) (x y:DV):Option (DV×Prop):=match op,x,y with
 | .eql,.agg m f,.agg m' g=>match UP P t f g m m' with
  | some is=>some (.bool (OK f g is),True)
  | none=>none
 | .neq,.agg m f,.agg m' g=>match UP P t f g m m' with
  | some is=>some (.bool (!(OK f g is)),True)
  | none=>none
 | _,_,_=>none
def Pb (P:Program) (S:St):Op -> Option (DV×Prop)
 | .build t parts=>TH P S t parts.toList
 | .index t x i=>match Ac S.fr i with
  | .int _ n=>Wo P t (Ac S.fr x) n
  | _=>none
 | .field t x f=>UF P t (Ac S.fr x) f
 | .slice t x lo hi none=>match TQ S lo with
  | some l=>match TQ S hi with
   | some h=>YO P t (Ac S.fr x) l h
   | none=>none
  | none=>none
 | .binOp op t x y t'=>match Qu P op t (Ac S.fr x) (Ac S.fr y) with
  | some r=>some r
  | none=>NS P S (.binOp op t x y t')
 | op=>NS P S op
section
variable {P:Program} {Γ:BB} {N:Nat -> Prop} {S:St} {ρ:List AN} {a:Act} {w:World}
def Ux (M:Nat -> Prop) (w:World) (ρ:List AN) (l:List DV) (cs:Array Value):Prop:=cs.size=l.length/\ ∀ j,j<l.length -> ∃ u,cs[j]? =some u/\ AO M w (l.getD j .any) ρ u
theorem gt: ∀ (vs:List Value) (k off:Nat) (cs:Array Value),((vs.zipIdx k).foldl (fun (cs:Array Value) (x:Value×Nat)=>cs.setIfInBounds (off+x.2) x.1) cs).size=cs.size/\
 ∀ j,((vs.zipIdx k).foldl (fun (cs:Array Value) (x:Value×Nat)=>cs.setIfInBounds (off+x.2) x.1) cs)[j]? =if off+k<=j/\ j<off+k+vs.length/\ j<cs.size then vs[j-(off+k)]? else cs[j]?
 | [],k,off,cs=>⟨rfl,fun j=>by
  rw [yK]
  ·rfl
  ·simp only [zD];omega⟩
 | v::vs,k,off,cs=>by
  obtain ⟨h1,h2⟩:=gt vs (k+1) off (cs.setIfInBounds (off+k) v);rw [List.zipIdx_cons,zf];refine ⟨by rw [h1];simp,fun j=>?_⟩;rw [h2 j,zB];simp only [Array.size_setIfInBounds]
  by_cases e:j=off+k
  ·subst e;rw [yK (by omega),yq,xw rfl]
   by_cases hs:off+k<cs.size
   ·rw [xw hs,xw (by omega),Nat.sub_self];rfl
   ·rw [yK hs,yK (by omega),zAs (by omega)]
  ·by_cases e2:off+(k+1)<=j/\ j<off+(k+1)+vs.length/\ j<cs.size
   ·rw [xw e2,xw (by omega),show j-(off+k)=(j-(off+(k+1)))+1 by omega];simp
   ·rw [yK e2,yK (by omega),yq,yK (by omega)]
theorem fQ {M:Nat -> Prop} {Ho:Nat -> Option (Nat×Nat)}: ∀ (parts:List (Nat×Operand)) (l:List DV) (cs:Array Value) (r:List DV),Ux M w ρ l cs -> (∀ x,AO M w (Ac S.fr x) ρ (a.eval x)) ->
 UJ Ho l (parts.map fun x=>(x.1,Ac S.fr x.2))=some r -> ∃ rs,Instr.fill Ho cs (parts.map fun x=>(x.1,a.eval x.2))=some rs/\ Ux M w ρ r rs
 | [],l,cs,r,hc,_,h=>by cases h;exact ⟨cs,rfl,hc⟩
 | (i,x)::rest,l,cs,r,hc,hr,h=>by
  simp only [zd,UJ] at h;split at h
  ·cases h
  ·rename_i off size FF;split at h
   ·cases h
   ·rename_i ds FH;split at h
    ·rename_i A9;obtain ⟨c1,c2⟩:=Q4 FH (hr x);have A3:(a.eval x).cells.size=size:=by rw [c1,A9.1]
     have eG: ¬ (off+(a.eval x).cells.size>cs.size):=by rw [c1,hc.1];omega
     obtain ⟨s1,s2⟩:=gt (a.eval x).cells.toList 0 off cs
     have HJ:Ux M w ρ (La l off ds) ((a.eval x).cells.zipIdx.foldl (fun cs (c,j)=>cs.setIfInBounds (off+j) c) cs):=by
      have e0:((a.eval x).cells.zipIdx.foldl (fun cs (c,j)=>cs.setIfInBounds (off+j) c) cs)=(((a.eval x).cells.toList.zipIdx 0).foldl (fun (cs:Array Value) (x:Value×Nat)=>cs.setIfInBounds (off+x.2) x.1) cs):=by
       rw [←Array.foldl_toList];simp
      rw [e0];refine ⟨by rw [s1,VN,hc.1],fun j hj=>?_⟩;rw [VN] at hj;rw [s2 j,VP l off ds hj]
      by_cases e:off<=j/\ j<off+ds.length
      ·rw [xw (by simp;rw [c1,hc.1];omega),xw e];obtain ⟨u,g1,g2⟩:=c2 (j-off) (by omega);exact ⟨u,by simpa using g1,g2⟩
      ·rw [yK (by simp;rw [c1];omega),yK e];exact hc.2 j hj
     obtain ⟨rs,g1,g2⟩:=fQ rest _ _ r HJ hr h;refine ⟨rs,?_,g2⟩;simp only [zd,Instr.fill,FF];rw [yK (by simp only [yX,yd];omega)];exact g1
    ·cases h
theorem nW {t:TypeId} {z:Value} {Ho:Nat -> Option (Nat×Nat)} (h:V6 P t=some (z,Ho)) (parts:List (Nat×Value)):P.built t parts=Instr.fill Ho z.cells parts:=by
 unfold V6 at h;unfold Program.built
 repeat' (split at h)
 all_goals first
  | (cases h;done)
  | (cases h;simp_all)
theorem pW (R:Ad P Γ N S ρ a w) {t:TypeId} {parts:Array (Nat×Operand)} {d:DV} {vc:Prop} (h:TH P S t parts.toList=some (d,vc)):Yl P N w (MS N S.h ρ) ρ (Instr.build t (parts.map fun (i,x)=>(i,a.eval x))) d:=by
 unfold TH at h;split at h
 ·rename_i z Ho hp;split at h
  ·rename_i l hl;cases h
   have h0:Ux (MS N S.h ρ) w ρ (z.cells.toList.map FC) z.cells:=⟨by simp,fun j hj=>by
    have BX:j<z.cells.size:=by simpa using hj
    exact ⟨z.cells[j],by simp [BX],by
     have:(z.cells.toList.map FC).getD j .any=FC z.cells[j]:=by simp [BX]
     rw [this];exact Pm _⟩⟩
   obtain ⟨rs,g1,g2,g3⟩:=fQ parts.toList _ _ _ h0 (Bh R) hl;refine Yl.pure (v:=.agg rs) (fun W=>run_build W t _ rs ?_) ⟨rs,rfl,g2,g3⟩;rw [nW hp];have e1:(parts.map fun (i,x)=>(i,a.eval x)).toList=parts.toList.map fun x=>(x.1,a.eval x.2):=by simp
   rw [e1];exact g1
  ·cases h
 ·cases h
theorem Vi {t:TypeId} {cs:Array Value} {off size m:Nat} {f:Nat -> DV} {d:DV} {M:Nat -> Prop} {i:TypeInfo} (hi:P.info? t=some i) (A9:i.size=size) (C6:cs.size=m) (hr: ∀ j,j<m -> ∃ u,cs[j]? =some u/\ AO M w (f j) ρ u) (h:Lt P t m f off size=some d):Yl P N w M ρ (part t cs off) d:=by
 unfold Lt at h;split at h
 ·rename_i CC;split at h
  ·rename_i h1;split at h
   ·rename_i hs;cases h;obtain ⟨u,g1,g2⟩:=hr off (by omega);unfold Fv at h1;simp only [yD,zAl,zL] at h1;obtain ⟨⟨dd,hd⟩,hn⟩:=h1;refine Yl.pure (v:=u) (fun W=>?_) g2;unfold part;rw [yT,PH hd];simp [Result.andThen,hn,g1]
   ·cases h
  ·split at h
   ·rename_i h2;cases h;obtain ⟨h3,i',BM,hs'⟩:=Y1 h2;have ei:i'=i:=yH (BM.symm.trans hi);subst ei;obtain ⟨dd,hd⟩:=dI h3;refine Yl.pure (v:=.agg (cs.extract off (off+size))) (fun W=>?_) ⟨_,rfl,by simp;omega,fun j hj=>?_⟩
    ·unfold part;rw [yT,PH hd];simp only [Result.andThen,h3,zS];rw [yT,IV hi,A9];rfl
    ·obtain ⟨u,g1,g2⟩:=hr (off+j) (by omega);refine ⟨u,?_,KJ hj g2⟩;rw [Array.getElem?_extract];rw [xw (by omega)];exact g1
   ·cases h
 ·cases h
theorem qS (R:Ad P Γ N S ρ a w) {t:TypeId} {x d:DV} {vc:Prop} {v:Value} {k:IntKind} {n:Int} (hx:AO (MS N S.h ρ) w x ρ v) (h:Wo P t x n=some (d,vc)) (hv:vc):Yl P N w (MS N S.h ρ) ρ (Instr.index t v (.int k n)) d:=by
 unfold Wo at h;split at h
 ·rename_i m f;obtain ⟨cs,rfl,hs,hr⟩:=hx;split at h
  ·rename_i len e hu;split at h
   ·rename_i i hi;split at h
    ·rename_i hc;cases h;simp only [yD,yo] at hc;obtain ⟨⟨h1,h2⟩,rfl⟩:=hc
     have hp:Lt P e len f n.toNat 1=some (f n.toNat):=by
      unfold Lt;rw [xw (by omega),xw h1,xw rfl]
     obtain ⟨u,g1,g2⟩:=Vi (P:=P) hi h2 hs hr hp;refine ⟨u,fun W hE=>?_,g2⟩;unfold Instr.index;simp only [asIntOf,yT,zAi,Result.andThen,yp hu];rw [xw ⟨hv.1,hv.2⟩];simp only [yT,IV hi,Result.andThen,h2,yz];exact g1 W hE
    ·cases h
   ·cases h
  ·cases h
 ·cases h
theorem u7 (R:Ad P Γ N S ρ a w) {t:TypeId} {x d:DV} {vc:Prop} {v:Value} {fi:Nat} (hx:AO (MS N S.h ρ) w x ρ v) (h:UF P t x fi=some (d,vc)):Yl P N w (MS N S.h ρ) ρ (Instr.field t v fi) d:=by
 unfold UF at h;split at h
 ·rename_i m f;obtain ⟨cs,rfl,hs,hr⟩:=hx;split at h
  ·rename_i fs hu;split at h
   ·rename_i fd hf;split at h
    ·rename_i i hi;split at h
     ·rename_i d' hp;cases h;obtain ⟨u,g1,g2⟩:=Vi (P:=P) hi rfl hs hr hp;refine ⟨u,fun W hE=>?_,g2⟩;unfold Instr.field;simp only [yT,yp hu,Result.andThen,hf,asAgg,zAi];exact g1 W hE
     ·cases h
    ·cases h
   ·cases h
  ·cases h
 ·cases h
theorem mF {k:IntKind} {n:Int} {y:Nat} {c:BoundsCode} (h0:0<=n) (h1:n<=y) (W:World):(Instr.sliceBound (.int k n) y c).run P W= .ok n.toNat W:=by
 unfold Instr.sliceBound;simp only [asIntOf,yT,zAi,Result.andThen];rw [xw ⟨h0,h1⟩];rfl
theorem dJ (R:Ad P Γ N S ρ a w) {o:Option Operand} {l:Option Int} (h:TQ S o=some l): ∃ k,o.map a.eval=l.map (Value.int k):=by
 cases o with
 | none=>cases h;exact ⟨.i64,rfl⟩
 | some x=>
  simp only [TQ] at h;split at h
  ·rename_i k n e;cases h;have:=Bh R x;rw [e] at this;exact ⟨k,by simp only [yj];rw [show a.eval x=_ from this]⟩
  ·cases h
theorem SH {t e:TypeId} {i:TypeInfo} {ad:Option Addr} {len cap:Nat} {kl kh:IntKind} {lo hi:Option Int} (hu:P.underlying t=some (.slice e)) (BM:P.info? e=some i) (h0:0<=lo.getD 0) (h1:lo.getD 0<=hi.getD len) (h2:hi.getD len<=len) (h3:len<=cap) (W:World):
 (Instr.sliceAt t (.slice ad len cap) (lo.map (Value.int kl)) (hi.map (Value.int kh)) none).run P W=
  .ok (.slice (if cap=(lo.getD 0).toNat then ad else ad.map (·.add ((lo.getD 0).toNat*i.size))) ((hi.getD len).toNat-(lo.getD 0).toNat) (cap-(lo.getD 0).toNat)) W:=by
 have hb:(Instr.sliceBounds true len cap (lo.map (Value.int kl)) (hi.map (Value.int kh)) none).run P W= .ok ((lo.getD 0).toNat,(hi.getD len).toNat,cap) W:=by
  cases lo <;> cases hi <;> simp only [Option.map_none,yj,Option.getD_none,zi] at* <;>
   simp (disch:=omega) [Instr.sliceBounds,mF,yT,Result.andThen]
 unfold Instr.sliceAt;simp only [yT,yp hu,Result.andThen];unfold Instr.slice;simp only [yT,yp hu,Result.andThen,hb,IV BM];rfl
theorem v8 (R:Ad P Γ N S ρ a w) {t:TypeId} {x d:DV} {vc:Prop} {v:Value} {kl kh:IntKind} {lo hi:Option Int} (hx:AO (MS N S.h ρ) w x ρ v) (h:YO P t x lo hi=some (d,vc)) (hv:vc):
 Yl P N w (MS N S.h ρ) ρ (Instr.sliceAt t v (lo.map (Value.int kl)) (hi.map (Value.int kh)) none) d:=by
 unfold YO at h;split at h
 ·rename_i e hu;split at h
  ·rename_i i BM
   have gd: ∀ {α:Type} (l:List α) (q c j:Nat) (d:α),j<((l.take c).drop q).length -> ((l.take c).drop q).getD j d=l.getD (q+j) d:=fun l q c j d hj=>by
    simp only [zA3,List.length_take] at hj;simp only [u8,zAK,List.getElem?_take];rw [xw (by omega)]
   split at h
   ·rename_i l;split at h
    ·rename_i hs;cases h;obtain ⟨ad,cap,rfl,g1,g2,g3⟩:=hx;obtain ⟨v1,v2,v3⟩:=hv;have hl:((l.take (hi.getD l.length).toNat).drop (lo.getD 0).toNat).length=(hi.getD l.length).toNat-(lo.getD 0).toNat:=by simp;omega
     refine Yl.pure (fun W=>SH hu BM v1 v2 v3 g1 W) ⟨_,_,by rw [hl],by omega,by omega,fun j hj=>?_⟩;have BX:=hj;rw [hl] at BX;obtain ⟨b,o,rfl,q1,q2⟩:=g3 ((lo.getD 0).toNat+j) (by omega);refine ⟨b,o+(lo.getD 0).toNat,?_,q1,?_⟩
     ·rw [yK (by omega)];simp only [yj,IL,hs,yz]
     ·rw [gd _ _ _ _ _ hj,yu];exact q2
    ·cases h
   ·rename_i l;split at h
    ·rename_i hs;cases h;obtain ⟨ad,cap,rfl,g1,g2,g3⟩:=hx;obtain ⟨v1,v2,v3⟩:=hv;have hl:((l.take (hi.getD l.length).toNat).drop (lo.getD 0).toNat).length=(hi.getD l.length).toNat-(lo.getD 0).toNat:=by simp;omega
     refine Yl.pure (fun W=>SH hu BM v1 v2 v3 g1 W) ⟨_,_,by rw [hl],by omega,by omega,fun j hj=>?_⟩;have BX:=hj;rw [hl] at BX;obtain ⟨b,o,rfl,q1,q2⟩:=g3 ((lo.getD 0).toNat+j) (by omega);refine ⟨b,o+(lo.getD 0).toNat,?_,q1,?_⟩
     ·rw [yK (by omega)];simp only [yj,IL,hs,yz]
     ·rw [gd _ _ _ _ _ hj,yu];exact q2
    ·cases h
   ·rename_i m n f;split at h
    ·rename_i hs;cases h;obtain ⟨ad,cap,rfl,g1,g2,g3⟩:=hx;obtain ⟨v1,v2,v3⟩:=hv;refine Yl.pure (fun W=>SH hu BM v1 v2 v3 g1 W) ⟨_,_,rfl,by omega,by omega,fun i1 j hi1 hj=>?_⟩;obtain ⟨b,o,u,rfl,q1,q2,q3⟩:=g3 ((lo.getD 0).toNat+i1) j (by omega) hj;refine ⟨b,o+(lo.getD 0).toNat*m,u,?_,q1,?_,q3⟩
     ·rw [yK (by omega)];simp only [yj,IL,hs]
     ·rw [zr,yu] at q2;rw [yu];exact q2
    ·cases h
   ·rename_i k m off n;split at h
    ·rename_i hs;cases h;obtain ⟨p,cap,hp,rfl,g1,g2,g3⟩:=hx;obtain ⟨v1,v2,v3⟩:=hv;have CC:(lo.getD 0).toNat<=cap:=by omega
     refine Yl.pure (fun W=>SH hu BM v1 v2 v3 g1 W) ⟨p,_,cap-(lo.getD 0).toNat,hp,rfl,by omega,by omega,fun hc=>⟨?_,?_⟩⟩
     ·rw [yK (by omega)];simp only [yj,IL,hs,zr,yu]
     ·have:cap*m=(lo.getD 0).toNat*m+(cap-(lo.getD 0).toNat)*m:=by rw [←zr];congr 1;omega
      rw [zr];omega
    ·cases h
   ·cases h
  ·cases h
 ·cases h
theorem ah {e:TypeId} {k':IntKind} {i:TypeInfo} {n d:Nat} {xs ys:Array Value} {f g:Nat -> DV} {M:Nat -> Prop} (hi:P.info? e=some i) (hs:i.size=1) (h1:Fv P e=true) (hk:P.underlying e=some (.int k')) (hx:xs.size=n) (hy:ys.size=n)
 (rx: ∀ j,j<n -> ∃ u,xs[j]? =some u/\ AO M w (f j) ρ u) (ry: ∀ j,j<n -> ∃ u,ys[j]? =some u/\ AO M w (g j) ρ u) (hI: ∀ j,j<n -> Ji (f j)=true/\ Ji (g j)=true):
 ∀ (is:List Nat),(∀ j∈is,j<n) -> ∀ W,Keep N w W -> (Op.eqItems (d+1) e 1 xs ys is).run P W= .ok (OK f g is) W
 | [],_,W,_=>rfl
 | j::is,hb,W,hE=>by
  have hj:j<n:=hb j (by simp)
  have ba: ∀ {cs:Array Value} {f:Nat -> DV},cs.size=n -> (∀ j,j<n -> ∃ u,cs[j]? =some u/\ AO M w (f j) ρ u) -> Ji (f j)=true -> (part e cs (j*1)).run P W= .ok (.int .i64 (HF (f j))) W:=by
   intro cs f hc hr hf
   have hp:Lt P e n f (j*1) 1=some (f j):=by
    unfold Lt;rw [xw (by omega),xw h1,xw rfl,yz]
   obtain ⟨u,g1,g2⟩:=Vi (P:=P) hi hs hc hr hp;rw [g1 W hE,Wp hf g2]
  simp only [Op.eqItems,yT,ba hx rx (hI j hj).1,ba hy ry (hI j hj).2,Result.andThen,zBA W d e .i64 k' _ _ hk];unfold OK;cases hq:(HF (f j)==HF (g j)) with
  | false=>rfl
  | true=>
   simp only [yw,yt,z7,y8];exact ah hi hs h1 hk hx hy rx ry hI is (fun j hj=>hb j (by simp [hj])) W hE
theorem vb {M:Nat -> Prop} {op:BinOp} {t:TypeId} {x y:DV} {vx vy:Value} {d:DV} {vc:Prop} (ox oy:Operand) (hx:AO M w x ρ vx) (hy:AO M w y ρ vy) (h:Qu P op t x y=some (d,vc)):
 Yl P N w M ρ (do eqGuard op t ox oy vx vy;binOp op t vx vy) d:=by
 have key: ∀ {m m':Nat} {f g:Nat -> DV} {is:List Nat} {xs ys:Array Value},UP P t f g m m'=some is -> xs.size=m -> ys.size=m' -> (∀ j,j<m -> ∃ u,xs[j]? =some u/\ AO M w (f j) ρ u) -> (∀ j,j<m' -> ∃ u,ys[j]? =some u/\ AO M w (g j) ρ u) ->
  P.eqGuardType P.depth t=false/\ ∀ W,Keep N w W -> (Op.equalIn 10000 t (.agg xs) (.agg ys)).run P W= .ok (OK f g is) W:=by
  intro m m' f g is xs ys hb sx sy rx ry;unfold UP at hb;split at hb
  ·rename_i n e hu;split at hb
   ·rename_i i hi;split at hb
    ·rename_i k' hk;split at hb
     ·rename_i hc;cases hb;simp only [yD,yo,yJ,yR] at hc;obtain ⟨⟨⟨⟨⟨c1,c2⟩,c3⟩,c4⟩,c5⟩,c6⟩:=hc;subst c4;subst c5;refine ⟨c3,fun W hE=>?_⟩;have Cm:P.cellsOf e=1:=by unfold Program.cellsOf;rw [hi];exact c1
      rw [run_equalIn_array W 9999 xs ys hu hi,Cm];exact ah (d:=9998) hi c1 c2 hk sx sy rx ry c6 _ (fun j hj=>yR.1 hj) W hE
     ·cases hb
    ·cases hb
   ·cases hb
  ·cases hb
 unfold Qu at h;split at h
 ·rename_i m f m' g;split at h
  ·rename_i is hb;cases h;obtain ⟨xs,rfl,sx,rx⟩:=hx;obtain ⟨ys,rfl,sy,ry⟩:=hy;obtain ⟨k1,k2⟩:=key hb sx sy rx ry;refine ⟨.bool _,fun W hE=>?_,rfl⟩;simp only [yT,run_eqGuard_agg W .eql t ox oy xs ys k1,Result.andThen,run_eql_struct,k2 W hE]
  ·cases h
 ·rename_i m f m' g;split at h
  ·rename_i is hb;cases h;obtain ⟨xs,rfl,sx,rx⟩:=hx;obtain ⟨ys,rfl,sy,ry⟩:=hy;obtain ⟨k1,k2⟩:=key hb sx sy rx ry;refine ⟨.bool _,fun W hE=>?_,rfl⟩;simp only [yT,run_eqGuard_agg W .neq t ox oy xs ys k1,Result.andThen,run_neq_struct,k2 W hE]
  ·cases h
 ·cases h
theorem nT (R:Ad P Γ N S ρ a w) (o:Oper) {d:DV} {vc:Prop} (h:Pb P S o.op=some (d,vc)) (hv:vc):
 ∃ v,(∀ W,Keep N w W -> (execOp a.eval o).run P W= .ok (.value v) W)/\ AO (MS N S.h ρ) w d ρ v:=by
 unfold Pb at h;split at h
 ·rename_i t parts ho;exact Gu (by unfold execOp;rw [ho]) (pW R h)
 ·rename_i t x i ho;have hi:=Bh R i;split at h
  ·rename_i k n e;rw [e] at hi;refine Gu (s:=Instr.index t (a.eval x) (a.eval i)) (by unfold execOp;rw [ho]) ?_;rw [show a.eval i=_ from hi];exact qS R (Bh R x) h hv
  ·cases h
 ·rename_i t x f ho;exact Gu (s:=Instr.field t (a.eval x) f) (by unfold execOp;rw [ho]) (u7 R (Bh R x) h)
 ·rename_i t x lo hi ho;split at h
  ·rename_i l hl;split at h
   ·rename_i hh tu;obtain ⟨k1,e1⟩:=dJ R hl;obtain ⟨k2,e2⟩:=dJ R tu;refine Gu (s:=Instr.sliceAt t (a.eval x) (lo.map a.eval) (hi.map a.eval) none) (by unfold execOp;rw [ho];rfl) ?_;rw [e1,e2];exact v8 R (Bh R x) h hv
   ·cases h
  ·cases h
 ·rename_i op t x y t' ho;split at h
  ·rename_i r hr;cases h;exact Gu (by unfold execOp;rw [ho]) (vb x y (Bh R x) (Bh R y) hr)
  ·rw [←ho] at h;exact bT R o h hv
 ·exact bT R o h hv
end
end Go.Proofs.YtgkhhfnhacibcaaGreatDoor
namespace Go.Proofs.YtgkhhfnhacibcaaGreatDoor
abbrev yY:=@List.getElem_mem
end Go.Proofs.YtgkhhfnhacibcaaGreatDoor
namespace Go.Proofs.YtgkhhfnhacibcaaGreatDoor
open Go.RowKit
def Be:List Prop -> Prop
 | []=>True
 | p::ps=>p/\ Be ps
theorem Cf {l l':List Prop}:Be (l++l')↔Be l/\ Be l':=by
 induction l with
 | nil=>simp [Be]
 | cons p ps ih=>simp [Be,ih,and_assoc]
def AT (d d':DV):Prop:=∀ (M:Nat -> Prop) (w:World) (ρ:List AN) (v:Value),AO M w d ρ v -> AO M w d' ρ v
section
variable {P:Program} {Γ:BB} {N:Nat -> Prop}
theorem DZ {w:World} {M M':Nat -> Prop} (h: ∀ b,M' b -> M b) (ρ:List AN):Bc M w ρ M' w ρ:=⟨fun _ _ _ _=>rfl,fun b hb=>.inl (h b hb),fun _ _ h=>h⟩
def YD:DO -> Option (Nat×Nat×DV)
 | .ints l=>some (1,l.length,.ints l)
 | .bools l=>some (1,l.length,.bools l)
 | .arr m n f=>some (m,n,.sl m n f)
 | .mo (.rws ls none)=>some (1,ls.length,.sl 1 ls.length fun i j=>([.ints (ls.getD i default)]:List DV).getD j .any)
 | _=>none
def K5 (k m:Nat) (v:DV):DV -> DV
 | .msl k' m' off n=>if k'=k/\ m'=m/\ off=0 then v else .msl k' m' off n
 | d=>d
def Qo (k m n:Nat):DV -> List Prop
 | .msl k' m' off n'=>if k'=k/\ m'=m/\ off=0 then [n'=n] else []
 | _=>[]
def UB (k m:Nat) (v:DV):Option DO -> Option DO
 | some (.cells l)=>some (.cells (l.map (K5 k m v)))
 | o=>o
def fK (k m n:Nat):Option DO -> List Prop
 | some (.cells l)=>l.flatMap (Qo k m n)
 | _=>[]
def H9 (k m:Nat) (v:DV) (S:St):St:=⟨S.fr.map (K5 k m v),(S.h.set k none).map (UB k m v)⟩
theorem iC {l:List DV} {f:DV -> List Prop} (h:Be (l.flatMap f)) {d:DV} (hd:d∈l):Be (f d):=by
 induction l with
 | nil=>simp at hd
 | cons x l ih=>
  rw [zAu] at h;obtain ⟨h1,h2⟩:=Cf.1 h;rcases yf.1 hd with rfl | hd
  ·exact h1
  ·exact ih h2 hd
theorem xa {l:List (Option DO)} {f:Option DO -> List Prop} (h:Be (l.flatMap f)) {d:Option DO} (hd:d∈l):Be (f d):=by
 induction l with
 | nil=>simp at hd
 | cons x l ih=>
  rw [zAu] at h;obtain ⟨h1,h2⟩:=Cf.1 h;rcases yf.1 hd with rfl | hd
  ·exact h1
  ·exact ih h2 hd
theorem uy {M M':Nat -> Prop} {w:World} {ρ:List AN} {p:AN} {o:DO} {m n:Nat} {v:DV} (ho:YD o=some (m,n,v)) (hr:DW P M w ρ p o) (hN: ∀ b,p.foot b -> ¬ M' b) (hM: ∀ b,M' b -> M b) {u:Value} {cap:Nat} (hu:u= .slice (some ⟨p.blk,p.off+0*m,none⟩) n cap) (h1:n<=cap) (h2:n<=LB):AO M' w v ρ u:=by
 cases o with
 | cells l=>cases ho
 | iter e=>cases ho
 | mo x=>
  cases x with
  | rws ls Bo=>
   cases Bo with
   | some y=>cases ho
   | none=>
    cases ho;obtain ⟨vs,hS⟩:=hr;obtain ⟨cs,t,e1,e2,e3,e4⟩:=hS.row;refine ⟨_,cap,hu,h1,h2,fun i j hi hj=>?_⟩;obtain rfl:j=0:=by omega
    have BM:i+1<vs.size:=by rw [hS.size];omega
    have e5:=e4 i hi;rw [yh BM] at e5;refine ⟨p.blk,p.off,vs[i+1],by simp,hN _ hS.blk,by unfold World.cell?;simp [e1,e5],?_⟩;have hs:=hS.has i hi fun L e=>by cases e
    rw [show vs.getD (i+1) undef=vs[i+1] by simp [BM]] at hs;rcases hs with ⟨e,e'⟩ | ⟨q,c,e,g1,g2,g3,g4,g5⟩
    ·rw [e']
     show AO M' w (.ints (ls.getD i default)) [] _
     rw [e];exact ⟨none,0,rfl,yS _,by decide,fun j hj=>absurd hj (yN j)⟩
    ·rw [e];refine ⟨_,c,rfl,g1,g3,fun k hk=>⟨q.blk,q.off,rfl,hN _ g4.1,?_⟩⟩;obtain ⟨x,k1,k2⟩:=g5.cell hk;rw [k1,k2]
  | _=>cases ho
 | ints l=>
  cases ho;have hN:=hN p.blk (by rw [hr.1]);refine ⟨_,cap,hu,h1,h2,fun j hj=>⟨p.blk,p.off,by simp,hN,?_⟩⟩;obtain ⟨x,e1,e2⟩:=Ai.cell hr hj;rw [e1,e2]
 | bools l=>
  cases ho;have hN:=hN p.blk (by rw [hr.1]);refine ⟨_,cap,hu,h1,h2,fun j hj=>⟨p.blk,p.off,by simp,hN,?_⟩⟩;obtain ⟨x,e1,e2⟩:=Ai.cell hr hj;rw [e1,e2]
 | arr m n f=>
  cases ho;have hN:=hN p.blk (by rw [hr.1]);refine ⟨_,cap,hu,h1,h2,fun i j hi hj=>?_⟩;have AU:i*m+j<n*m:=yM (by rw [zAt];omega:i*m+j<(i+1)*m) (zh m hi);obtain ⟨x,e1,e2⟩:=Ai.cell hr AU;have hm:0<m:=by omega
  have d1:(i*m+j)/m=i:=by rw [zq,Nat.mul_add_div hm];simp [zA1 hj]
  have d2:(i*m+j) % m=j:=by rw [zq,Nat.mul_add_mod];exact zAD hj
  rw [d1,d2] at e2;exact ⟨p.blk,p.off,x,by simp,hN,e1,AO.out _ (DZ hM []) e2⟩
theorem Qm {k m:Nat} {v:DV} {h:DH} {i:Nat} {o':DO} (hi:((h.set k none).map (UB k m v))[i]? =some (some o')):i≠k/\ ∃ o,h[i]? =some (some o)/\ UB k m v (some o)=some o':=by
 rw [ye] at hi;cases hx:(h.set k none)[i]? with
 | none=>rw [hx] at hi;cases hi
 | some x=>
  rw [hx] at hi;have hi:UB k m v x=some o':=yH hi;cases x with
  | none=>cases hi
  | some o=>exact ⟨(Fd hx).1,o,(Fd hx).2,hi⟩
def DU (S S':St):Prop:=∀ (P:Program) (Γ:BB) (N:Nat -> Prop) (ρ:List AN) (a:Act) (w:World),Ad P Γ N S ρ a w -> Ad P Γ N S' ρ a w/\ BN S.h ρ w S'.h ρ w
theorem DU.frz {S:St} (k:Nat) {o:DO} {m n:Nat} {v:DV} (hk:S.h[k]? =some (some o)) (ho:YD o=some (m,n,v)) (hc:Be (S.fr.flatMap (Qo k m n))) (K0:Be (S.h.flatMap (fK k m n))):DU S (H9 k m v S):=fun P Γ N ρ a w R=>by
 obtain ⟨p,hp,hr⟩:=R.hr.obj k _ hk
 have X1: ∀ b,MO (H9 k m v S).h ρ b -> ∃ i o p',i≠k/\ S.h[i]? =some (some o)/\ ρ[i]? =some p'/\ p'.foot b:=by
  rintro b ⟨i,o',p',g1,g2,g3⟩;obtain ⟨e1,o2,e2,_⟩:=Qm g1;exact ⟨i,o2,p',e1,e2,g2,g3⟩
 have hN: ∀ b,p.foot b -> ¬ MS N (H9 k m v S).h ρ b:=by
  rintro b hf (hn | hb)
  ·exact (R.hr.cel k _ p b hk hp hf).2.1 hn
  ·obtain ⟨i,o2,p',e1,e2,g2,g3⟩:=X1 _ hb;exact R.hr.dis i k _ _ p' p b e1 e2 hk g2 hp g3 hf
 have hM: ∀ b,MS N (H9 k m v S).h ρ b -> MS N S.h ρ b:=fun b hb=>hb.imp id fun hb=>by
  obtain ⟨i,o2,p',_,e2,g2,g3⟩:=X1 _ hb;exact ⟨i,o2,p',e2,g2,g3⟩
 have conv: ∀ (d:DV) (u:Value),Be (Qo k m n d) -> AO (MS N S.h ρ) w d ρ u -> AO (MS N (H9 k m v S).h ρ) w (K5 k m v d) ρ u:=by
  intro d u Xs hd;cases d with
  | msl k' m' off n'=>
   simp only [Qo,K5] at Xs ⊢;split at Xs
   ·rename_i e;obtain ⟨rfl,rfl,rfl⟩:=e;rw [xw ⟨rfl,rfl,rfl⟩];obtain ⟨p',cap,BJ,e,g1,g2,_⟩:=hd;have ep:p'=p:=yH (BJ.symm.trans hp);subst ep;have en:=Xs.1;subst en;exact uy ho hr hN hM e g1 g2
   ·rename_i e;rw [yK e];exact AO.out _ (DZ hM ρ) hd
  | _=>exact AO.out _ (DZ hM ρ) hd
 refine ⟨⟨⟨by simp [H9,R.hr.len],fun i o' hi=>?_,fun i o' p' b g1 g2 g3=>?_,fun i i' o1 o2 p1 p2 b Aw g1 g2 g3 g4 g5 g6=>?_,R.hr.nlt,R.hr.gi⟩,⟨by simp [H9,R.fr.1],fun i hi=>?_⟩⟩,⟨AP.refl _ w,fun b hb=>.inl ?_⟩⟩
 ·obtain ⟨e1,o2,e2,e3⟩:=Qm hi;obtain ⟨p',BJ,DC⟩:=R.hr.obj i o2 e2;refine ⟨p',BJ,?_⟩;cases o2 with
  | cells l=>
   cases e3
   show Ai w p' (l.map (K5 k m v)).length _
   rw [zE];refine Ai.out DC rfl fun j u hj hu=>?_
   have:(l.map (K5 k m v)).getD j .any=K5 k m v (l.getD j .any):=by simp [hj]
   rw [this];refine conv _ _ ?_ hu
   have Ap:some (DO.cells l)∈S.h:=zF e2;have:=xa K0 Ap;exact iC (l:=l) this (by simp [hj])
  | ints l=>cases e3;exact Ai.out DC rfl fun j u _ hu=>hu
  | bools l=>cases e3;exact Ai.out DC rfl fun j u _ hu=>hu
  | arr m n f=>cases e3;exact Ai.out DC rfl fun j u _ hu=>AO.out _ (DZ hM []) hu
  | iter encs=>
   cases e3;obtain ⟨gf,lb,Rd,q1,q2,q3,q4⟩:=DC;exact ⟨gf,lb,Rd,q1,q2,fun b hb=>⟨fun hm=>(q3 b hb).1 (hM b hm),(q3 b hb).2⟩,q4⟩
  | mo x=>cases e3;exact DC
 ·obtain ⟨e1,o2,e2,e3⟩:=Qm g1;obtain ⟨q1,q2,q3⟩:=R.hr.cel i o2 p' b e2 g2 g3;exact ⟨q1,q2,q3⟩
 ·obtain ⟨e1,o3,e2,_⟩:=Qm g1;obtain ⟨YJ,o4,YI,_⟩:=Qm g2;exact R.hr.dis i i' o3 o4 p1 p2 b Aw e2 YI g3 g4 g5 g6
 ·have BM:i<S.fr.length:=by simpa [H9] using hi
  have:(H9 k m v S).fr.getD i .any=K5 k m v (S.fr.getD i .any):=by simp [H9,BM]
  rw [this];refine conv _ _ (iC hc (by simp [BM])) (R.fr.2 i BM)
 ·obtain ⟨i,o2,p',_,e2,g2,g3⟩:=X1 _ hb;exact ⟨i,o2,p',e2,g2,g3⟩
def Qn (k:Nat) (S:St):Option (St×List Prop):=match S.h.getD k none with
 | some o=>match YD o with
  | some (m,n,v)=>some (H9 k m v S,S.fr.flatMap (Qo k m n)++S.h.flatMap (fK k m n))
  | none=>none
 | none=>none
theorem DU.frzE {S:St} (k:Nat) (S':St) (vs:List Prop) (h:Qn k S=some (S',vs)) (hv:Be vs):DU S S':=by
 unfold Qn at h;split at h
 ·rename_i o ho;split at h
  ·rename_i m n v hf;cases h;obtain ⟨h1,h2⟩:=Cf.1 hv;refine DU.frz k ?_ hf h1 h2;rw [u8] at ho;cases hx:S.h[k]? with
   | none=>rw [hx] at ho;cases ho
   | some x=>rw [hx] at ho;exact congrArg some ho
  ·cases h
 ·cases h
theorem DU.refl (S:St):DU S S:=fun _ _ _ _ _ _ R=>⟨R,BN.refl _ _ _⟩
theorem DU.trans {A B C:St} (h:DU A B) (k:DU B C):DU A C:=fun P Γ N ρ a w R=>by
 obtain ⟨R1,s1⟩:=h P Γ N ρ a w R;obtain ⟨R2,s2⟩:=k P Γ N ρ a w R1;exact ⟨R2,s1.trans s2⟩
theorem MO.put {h:DH} {ρ:List AN} {k:Nat} {o o':DO} (hk:h[k]? =some (some o)) {b:Nat}:MO (h.set k (some o')) ρ b↔MO h ρ b:=by
 have AU:=(yI.1 hk).1;constructor
 ·rintro ⟨i,x,p,h1,h2,h3⟩;rw [yn] at h1
  by_cases e:k=i
  ·subst e;exact ⟨k,o,p,hk,h2,h3⟩
  ·rw [yK e] at h1;exact ⟨i,x,p,h1,h2,h3⟩
 ·rintro ⟨i,x,p,h1,h2,h3⟩
  by_cases e:k=i
  ·subst e;exact ⟨k,o',p,by simp [AU],h2,h3⟩
  ·exact ⟨i,x,p,by rw [yn,yK e];exact h1,h2,h3⟩
theorem DU.obj {S:St} {k:Nat} {o o':DO} (hk:S.h[k]? =some (some o)) (hO: ∀ (P:Program) (M:Nat -> Prop) (w:World) (ρ:List AN) (p:AN),DW P M w ρ p o -> DW P M w ρ p o'):DU S ⟨S.fr,S.h.set k (some o')⟩:=fun P Γ N ρ a w R=>by
 have hM: ∀ b,MS N (S.h.set k (some o')) ρ b↔MS N S.h ρ b:=fun b=>or_congr Iff.rfl (MO.put hk)
 have back: ∀ {i:Nat} {x:DO},(S.h.set k (some o'))[i]? =some (some x) -> ∃ y,S.h[i]? =some (some y)/\ (i=k/\ x=o'∨y=x):=by
  intro i x hi;rw [yn] at hi
  by_cases e:k=i
  ·subst e;rw [xw rfl,xw (yI.1 hk).1] at hi;cases hi;exact ⟨o,hk,.inl ⟨rfl,rfl⟩⟩
  ·rw [yK e] at hi;exact ⟨x,hi,.inr rfl⟩
 have O:Bc (MS N S.h ρ) w ρ (MS N (S.h.set k (some o')) ρ) w ρ:=DZ (fun b hb=>(hM b).1 hb) ρ;refine ⟨⟨⟨by simp [R.hr.len],fun i x hi=>?_,fun i x p b g1 g2 g3=>?_,fun i i' o1 o2 p1 p2 b Aw g1 g2 g3 g4 g5 g6=>?_,R.hr.nlt,R.hr.gi⟩,R.fr.out O⟩,⟨AP.refl _ w,fun b hb=>.inl ((MO.put hk).1 hb)⟩⟩
 ·rw [yn] at hi
  by_cases e:k=i
  ·subst e;rw [xw rfl,xw (yI.1 hk).1] at hi;cases hi;obtain ⟨p,hp,hr⟩:=R.hr.obj k o hk;exact ⟨p,hp,hO P _ w ρ p (hr.out O (S:=fun _=>False) (AP.refl _ _) (fun _ h=>h.elim) fun _ _ _ h=>h)⟩
  ·rw [yK e] at hi;obtain ⟨p,hp,hr⟩:=R.hr.obj i x hi;exact ⟨p,hp,hr.out O (S:=fun _=>False) (AP.refl _ _) (fun _ h=>h.elim) fun _ _ _ h=>h⟩
 ·obtain ⟨y,e,_⟩:=back g1;exact R.hr.cel i y p b e g2 g3
 ·obtain ⟨y1,e1,_⟩:=back g1;obtain ⟨y2,e2,_⟩:=back g2;exact R.hr.dis i i' y1 y2 p1 p2 b Aw e1 e2 g3 g4 g5 g6
inductive Fz where
 | frz (k:Nat)
 | arr (k n:Nat) (f:Nat -> Nat -> DV)
 | unf (k:Nat)
 | rws
def gu (k n':Nat) (f':Nat -> Nat -> DV) (S:St):Option (St×List Prop):=match S.h.getD k none with
 | some (.arr m n f)=>some (⟨S.fr,S.h.set k (some (.arr m n' f'))⟩,[n=n'/\ ∀ i j,i<n -> j<m -> AT (f i j) (f' i j)])
 | _=>none
def T9:Fz -> St -> Option (St×List Prop)
 | .frz k,S=>Qn k S
 | .arr k n f,S=>gu k n f S
 | .unf k,S=>match S.h.getD k none with
  | some (.mo (.rows f (some (_,_,false))))=>some (⟨S.fr,S.h.set k (some (.mo (.rows f none)))⟩,[])
  | _=>none
 | .rws,_=>none
theorem D7.unf {w:World} {p:AN} {f:Int -> List Int} {x:Int} {L:List Int} {u:Value} {es:Array MapEntry} {Aa:Nat} (h:D7 w p f (some (x,L,false)) u es Aa):D7 w p f none u es Aa:=
 { h with
  key:=fun e he=>let ⟨k,h1,h2⟩:=h.key e he;⟨k,h1,fun _=>h2 fun L e=>by cases e⟩
  inHand:=fun k L g e=>by cases e }
theorem getD_some {h:DH} {k:Nat} {o:DO} (ho:h.getD k none=some o):h[k]? =some (some o):=by
 rw [u8] at ho;cases hx:h[k]? with
 | none=>rw [hx] at ho;cases ho
 | some x=>rw [hx] at ho;exact congrArg some ho
theorem DU.fz {S:St} (z:Fz) (S':St) (vs:List Prop) (h:T9 z S=some (S',vs)) (hv:Be vs):DU S S':=by
 cases z with
 | frz k=>exact DU.frzE k S' vs h hv
 | arr k n' f'=>
  simp only [T9,gu] at h;split at h
  ·rename_i m n f ho;cases h;obtain ⟨⟨rfl,hd⟩,_⟩:=hv;refine DU.obj (getD_some ho) fun P M w ρ p hr=>?_
   refine Ai.out hr rfl fun j u hj hu=>?_
   have hm:0<m:=by
    rcases zg m with e | e
    ·subst e;omega
    ·exact e
   exact hd _ _ ((zz hm).2 hj) (zAZ _ hm) M w [] u hu
  ·cases h
 | unf k=>
  simp only [T9] at h;split at h
  ·rename_i f x L ho;cases h;exact DU.obj (getD_some ho) fun P M w ρ p ⟨u,es,Aa,hA⟩=>⟨u,es,Aa,hA.unf⟩
  ·cases h
 | rws=>cases h
def Ql:List (Nat×Fz) -> Option Nat -> St -> Option (St×List Prop×List (Nat×Fz))
 | [],_,S=>some (S,[],[])
 | (t,z)::rest,dst,S=>if dst=some t then match T9 z S with
  | some (S',vs)=>match Ql rest dst S' with
   | some (CV,BW,r)=>some (CV,vs++BW,r)
   | none=>none
  | none=>none
  else some (S,[],(t,z)::rest)
theorem UA: ∀ (l:List (Nat×Fz)) {dst:Option Nat} {S S':St} {vs:List Prop} {r:List (Nat×Fz)},Ql l dst S=some (S',vs,r) -> Be vs -> DU S S'
 | [],dst,S,S',vs,r,h,_=>by cases h;exact DU.refl S
 | (t,z)::rest,dst,S,S',vs,r,h,hv=>by
  simp only [Ql] at h;split at h
  ·split at h
   ·rename_i S1 Cb h1;split at h
    ·rename_i S2 E5 r2 h2;cases h;obtain ⟨B5,B8⟩:=Cf.1 hv;exact (DU.fz z S1 Cb h1 B5).trans (UA rest h2 B8)
    ·cases h
   ·cases h
  ·cases h;exact DU.refl S
abbrev PK {α:Type} [Inhabited α] (enc:α -> Nat -> DV) (L:List α):Nat -> Nat -> DV:=fun i j=>enc (L.getD i default) j
theorem IW {α:Type} [Inhabited α] {enc:α -> Nat -> DV} {L L':List α} {n m c:Nat} {g:Nat -> Nat -> DV} (hn:n=L.length) (hc:c=L'.length) (hg: ∀ i j,i<c -> j<m -> AT (g i j) (PK enc L' i j)):n+c=(L++L').length/\ ∀ i j,i<n+c -> j<m -> AT (if i<n then PK enc L i j else g (i-n) j) (PK enc (L++L') i j):=by
 subst hn;subst hc;refine ⟨by simp,fun i j hi hj=>?_⟩;simp only [PK,u8] at hg ⊢
 by_cases h:i<L.length
 ·rw [xw h,yb h];exact fun _ _ _ _ h=>h
 ·rw [yK h,yi (by omega)];exact hg _ j (by omega) hj
theorem AL {d:DV}:AT d d:=fun _ _ _ _ h=>h
theorem n6 {l:List DV} {m:Nat} (hl:l.all Hp=true) (hm:m=l.length): ∀ j,j<m -> Hp (l.getD j .any)=true:=fun j hj=>by
 subst hm;rw [u8,xy hj];exact yJ.1 hl _ (yY hj)
def LL:List DV -> List DV -> Prop
 | [],[]=>True
 | d::ds,e::es=>AT d e/\ LL ds es
 | _,_=>False
theorem RR: ∀ {l l':List DV},LL l l' -> l.length=l'.length/\ ∀ j,j<l.length -> AT (l.getD j .any) (l'.getD j .any)
 | [],[],_=>⟨rfl,fun j hj=>absurd hj (yN j)⟩
 | d::ds,e::es,⟨h1,h2⟩=>by
  obtain ⟨q1,q2⟩:=RR h2;refine ⟨by simp [q1],fun j hj=>?_⟩;cases j with
  | zero=>exact h1
  | succ j=>exact q2 j (by simpa using hj)
 | [],_::_,h=>h.elim
 | _::_,[],h=>h.elim
theorem xh {l l':List DV} (h:LL l l') (j:Nat):AT (l.getD j .any) (l'.getD j .any):=by
 obtain ⟨h1,h2⟩:=RR h
 by_cases hj:j<l.length
 ·exact h2 j hj
 ·rw [u8,u8,zn (by omega),zn (by omega)];exact AL
def Vm:List DV -> List (List DV) -> Prop
 | [],[]=>True
 | v::vs,c::cs=>(∃ l,ID v=some l/\ LL l c)/\ Vm vs cs
 | _,_=>False
theorem al: ∀ {vs:List DV} {cs:List (List DV)},Vm vs cs -> vs.length=cs.length/\ ∀ i,i<vs.length -> ∃ l,ID (vs.getD i .any)=some l/\ LL l (cs.getD i [])
 | [],[],_=>⟨rfl,fun i hi=>absurd hi (yN i)⟩
 | v::vs,c::cs,⟨h1,h2⟩=>by
  obtain ⟨q1,q2⟩:=al h2;refine ⟨by simp [q1],fun i hi=>?_⟩;cases i with
  | zero=>exact h1
  | succ i=>exact q2 i (by simpa using hi)
 | [],_::_,h=>h.elim
 | _::_,[],h=>h.elim
theorem DN {α:Type} [Inhabited α] {c:α -> List DV} {L:List α} {vals:List DV} {m n:Nat} (hn:n=vals.length) (h:Vm vals (L.map c)):n=L.length/\ ∀ i j,i<n -> j<m -> AT (match ID (vals.getD i .any) with | some l=>l.getD j .any | none=>.any) (PK (fun x j=>(c x).getD j .any) L i j):=by
 subst hn;obtain ⟨h1,h2⟩:=al h;rw [zE] at h1;refine ⟨h1,fun i j hi _=>?_⟩;obtain ⟨l,e,hl⟩:=h2 i hi;rw [e];have:(L.map c).getD i []=c (L.getD i default):=by simp [u8,h1▸hi]
 rw [this] at hl;exact xh hl j
end
end Go.Proofs.YtgkhhfnhacibcaaGreatDoor
namespace Go.Proofs.YtgkhhfnhacibcaaGreatDoor
abbrev yx:=@List.mem_append
abbrev zV:=@Go.MapKept.run_getObj_map
abbrev za:=@Bool.eq_iff_iff
abbrev zv:=@List.not_mem_nil
abbrev zAL:=@Go.MapKept.run_setObj_map
abbrev zAV:=@bne_self_eq_false
abbrev zAk:=@Go.MapKept.run_findKey
abbrev zAw:=@List.Perm.refl
abbrev zBB:=@List.nodup_cons
end Go.Proofs.YtgkhhfnhacibcaaGreatDoor
namespace Go.Proofs.YtgkhhfnhacibcaaGreatDoor
open Go.RowKit
def QM (P:Program) (t:TypeId):Bool:=match P.underlying t with
 | some (.int .i64)=>true
 | _=>false
theorem Wu {P:Program} {t:TypeId} (h:QM P t=true):P.underlying t=some (.int .i64):=by
 unfold QM at h;split at h
 ·assumption
 ·cases h
def F0 (P:Program) (t:TypeId):Option Nat:=match P.underlying t with
 | some (.int .i64)=>some 1
 | some (.struct fs)=>match fs.toList with
  | [f,g]=>if f.name != "_" &&g.name != "_" &&decide (f.offset=0)&&decide (g.offset=1)&&QM P f.type&&QM P g.type&&!P.stoodInHeld t then some 2 else none
  | _=>none
 | _=>none
section
variable {P:Program} {w:World} {t:TypeId}
theorem Ng {n:Nat} (h:F0 P t=some n):(n=1/\ P.underlying t=some (.int .i64))∨∃ f g fs,n=2/\ P.underlying t=some (.struct fs)/\ fs.toList= [f,g]/\ f.name≠ "_" /\ g.name≠ "_" /\ f.offset=0/\ g.offset=1/\ P.underlying f.type=some (.int .i64)/\ P.underlying g.type=some (.int .i64)/\ P.stoodInHeld t=false:=by
 unfold F0 at h;split at h
 ·exact .inl ⟨(yH h).symm,by assumption⟩
 ·rename_i fs hu;split at h
  ·rename_i f g hf;split at h
   ·rename_i hc;simp only [yD,zc,ne_eq,yd,zL] at hc;obtain ⟨⟨⟨⟨⟨⟨h1,h2⟩,h3⟩,h4⟩,h5⟩,h6⟩,h7⟩:=hc;exact .inr ⟨f,g,fs,(yH h).symm,hu,hf,h1,h2,h3,h4,Wu h5,Wu h6,h7⟩
   ·cases h
  ·cases h
 ·cases h
theorem NK {t:TypeId} (h:P.underlying t=some (.int .i64)) (cs:Array Value) (o:Nat) (v:Value) (hv:cs[o]? =some v):(part t cs o).run P w= .ok v w:=by
 unfold part;rw [yT,PH h];simp [Result.andThen,Ht,h,hv]
theorem TM {x:List Int} (h:x.length=2): ∃ a b,x= [a,b]:=by
 match x,h with
 | [a,b],_=>exact ⟨a,b,rfl⟩
theorem MA {x:List Int} (h:x.length=1): ∃ a,x= [a]:=by
 match x,h with
 | [a],_=>exact ⟨a,rfl⟩
theorem Nf {n:Nat} (hk:F0 P t=some n) {x:List Int} (hx:x.length=n) (e:Bool):(Instr.checkKey e 10000 t (BL x)).run P w= .ok () w:=by
 rcases Ng hk with ⟨rfl,hu⟩ | ⟨f,g,fs,rfl,hu,hf,n1,n2,o1,o2,t1,t2,_⟩
 ·obtain ⟨a,rfl⟩:=MA hx;exact MapKept.run_checkKey hu (by trivial) e 9999
 ·obtain ⟨a,b,rfl⟩:=TM hx
  show (Instr.checkKey e (9999+1) t (.agg #[.int .i64 a,.int .i64 b])).run P w=_
  unfold Instr.checkKey;have c1: ∀ a,(Instr.checkKey e 9999 f.type (.int .i64 a)).run P w= .ok () w:=fun a=>MapKept.run_checkKey t1 (by trivial) e 9998
  have c2: ∀ a,(Instr.checkKey e 9999 g.type (.int .i64 a)).run P w= .ok () w:=fun a=>MapKept.run_checkKey t2 (by trivial) e 9998
  simp only [yT,yp hu,Result.andThen];rw [←Array.forIn_toList,hf];simp only [List.forIn_cons,List.forIn_nil,n1,n2,ne_eq,not_false_eq_true,zS,o1,o2,yT];rw [NK t1 _ 0 (.int .i64 a) rfl];simp only [Result.andThen,c1,zAi,yT];rw [NK t2 _ 1 (.int .i64 b) rfl];simp only [Result.andThen,c2,zAi]
theorem qK {n:Nat} (hk:F0 P t=some n) {x y:List Int} (hx:x.length=n) (hy:y.length=n):(Op.equal t (BL x) (BL y)).run P w= .ok (x==y) w:=by
 rcases Ng hk with ⟨rfl,hu⟩ | ⟨f,g,fs,rfl,hu,hf,n1,n2,o1,o2,t1,t2,hs⟩
 ·obtain ⟨a,rfl⟩:=MA hx;obtain ⟨b,rfl⟩:=MA hy
  show (Op.equalIn (9999+1) t (.int .i64 a) (.int .i64 b)).run P w=_
  rw [zBA w 9999 t .i64 .i64 a b hu]
  congr 1
  rw [za];simp
 ·obtain ⟨a,b,rfl⟩:=TM hx;obtain ⟨c,d,rfl⟩:=TM hy;have hF:P.fieldsOf t=fs:=by unfold Program.fieldsOf;rw [hu]
  show (Op.equalIn (9999+1) t (.agg #[.int .i64 a,.int .i64 b]) (.agg #[.int .i64 c,.int .i64 d])).run P w=_
  rw [run_equalIn_struct w 9999 t _ _ (by rw [hF];exact hu) hs,hF,hf];have e1: ∀ a c:Int,(Op.equalIn 9999 f.type (.int .i64 a) (.int .i64 c)).run P w= .ok (a==c) w:=fun a c=>zBA w 9998 f.type .i64 .i64 a c t1
  have e2: ∀ a c:Int,(Op.equalIn 9999 g.type (.int .i64 a) (.int .i64 c)).run P w= .ok (a==c) w:=fun a c=>zBA w 9998 g.type .i64 .i64 a c t2
  simp only [Op.eqFields,n1,n2,ne_eq,not_false_eq_true,zS,o1,o2,yT];rw [NK t1 _ 0 (.int .i64 a) rfl];simp only [Result.andThen];rw [NK t1 _ 0 (.int .i64 c) rfl];simp only [Result.andThen,e1,Sem.run_ite]
  by_cases h1:a=c
  ·subst h1;simp only [beq_self_eq_true,yw,yt,z7,yT];rw [NK t2 _ 1 (.int .i64 b) rfl];simp only [Result.andThen];rw [NK t2 _ 1 (.int .i64 d) rfl];simp only [Result.andThen,e2,Sem.run_ite]
   by_cases h2:b=d
   ·subst h2;simp
   ·have:([a,b]== [a,d])=false:=by simp [h2]
    have K3:(b==d)=false:=by simp [h2]
    simp [K3,h2]
  ·have T0:(a==c)=false:=by simp [h1]
   simp [T0,h1]
theorem qJ {n:Nat} (hk:F0 P t=some n) {x:List Int} (hx:x.length=n) {ks:KS} (Dq: ∀ y∈ks,y.length=n) {es:List MapEntry} (he: ∀ e∈es,∃ y∈ks,e.key=BL y):
 ((Instr.findKey t (BL x) es).run P w= .ok none w/\ ∀ e∈es,e.key≠BL x)∨∃ j e,(Instr.findKey t (BL x) es).run P w= .ok (some (j,e.val)) w/\ es[j]? =some e/\ e.key=BL x:=by
 have ask: ∀ (es:List MapEntry) (i:Nat),(∀ e∈es,∃ y∈ks,e.key=BL y) -> ((Instr.findAsking t (BL x) es i).run P w= .ok none w/\ ∀ e∈es,e.key≠BL x)∨∃ j e,(Instr.findAsking t (BL x) es i).run P w= .ok (some (i+j,e.val)) w/\ es[j]? =some e/\ e.key=BL x:=by
  intro es
  induction es with
  | nil=>intro i _;exact .inl ⟨rfl,fun e he=>by cases he⟩
  | cons e es ih=>
   intro i he;obtain ⟨y,hy,Bu⟩:=he e (by simp);have h1:(Op.equal t (BL x) e.key).run P w= .ok (x==y) w:=by rw [Bu];exact qK hk hx (Dq y hy)
   by_cases Td:x=y
   ·subst Td;exact .inr ⟨0,e,by simp [Instr.findAsking,h1,Result.andThen],rfl,Bu⟩
   ·have hf:(x==y)=false:=by simp [Td]
    rcases ih (i+1) (fun e F7=>he e (by simp [F7])) with ⟨g1,g2⟩ | ⟨j,e',g1,g2,g3⟩
    ·refine .inl ⟨by simp [Instr.findAsking,h1,hf,Result.andThen,g1],fun e' F7=>?_⟩;rcases yf.1 F7 with rfl | F7
     ·rw [Bu];exact fun h=>Td (c8 h).symm
     ·exact g2 e' F7
    ·exact .inr ⟨j+1,e',by simp [Instr.findAsking,h1,hf,Result.andThen,g1];omega,by simpa using g2,g3⟩
 rcases Ng hk with ⟨rfl,hu⟩ | ⟨f,g,fs,rfl,hu,_⟩
 ·obtain ⟨a,rfl⟩:=MA hx
  rcases MapKept.findNow_spec (d:=.int .i64) (k:=.int .i64 a) (by trivial) es 0 (fun e hm=>by
   obtain ⟨y,hy,Bu⟩:=he e hm;obtain ⟨b,rfl⟩:=MA (Dq y hy);rw [Bu];trivial) with ⟨h1,h2⟩ | ⟨j,e,h1,h2,h3⟩
  ·exact .inl ⟨zAk hu h1,h2⟩
  ·exact .inr ⟨j,e,by have:=zAk (w:=w) hu h1;rw [yU] at this;exact this,h2,h3⟩
 ·have hn: ∀ es:List MapEntry,(∀ e∈es,∃ y∈ks,e.key=BL y) -> (Instr.findKey t (BL x) es).run P w=(match es with | []=>.ok none w | _=>(Instr.findAsking t (BL x) es 0).run P w):=fun es he=>by
   cases es with
   | nil=>simp [Instr.findKey,yp hu,Instr.findNow,Result.andThen]
   | cons e es=>
    have:Instr.findNow (.struct fs) (BL x) (e::es) 0=none:=by
     simp [Instr.findNow,Instr.sameNow]
    simp [Instr.findKey,yp hu,this,Result.andThen]
  rw [hn es he];cases es with
  | nil=>exact .inl ⟨rfl,fun e he=>by cases he⟩
  | cons e es=>
   rcases ask (e::es) 0 he with h | ⟨j,e',g1,g2⟩
   ·exact .inl h
   ·exact .inr ⟨j,e',by simpa using g1,g2⟩
theorem qI {n:Nat} (hk:F0 P t=some n) {x:List Int} (hx:x.length=n):(Instr.keyThatStays (BL x) (BL x)).run P w= .ok (BL x) w:=by
 rcases Ng hk with ⟨rfl,hu⟩ | ⟨f,g,fs,rfl,hu,_⟩
 ·obtain ⟨a,rfl⟩:=MA hx;exact MapKept.run_keyThatStays (d:=.int .i64) (by trivial)
 ·obtain ⟨a,b,rfl⟩:=TM hx
  have:Instr.sameBits 10000 (BL [a,b]) (BL [a,b])=true:=by
   show Instr.sameBits (9998+1+1) (.agg #[.int .i64 a,.int .i64 b]) (.agg #[.int .i64 a,.int .i64 b])=true
   simp [Instr.sameBits]
  simp [Instr.keyThatStays,this]
end
/-! ### Sets in order-/
def cS:List Int -> List Int -> Bool
 | _,[]=>false
 | [],_::_=>true
 | a::r,b::s=>decide (a<b)||(a==b&&cS r s)
def TR (x:List Int):KS -> KS
 | []=>[x]
 | y::r=>if cS x y then x::y::r else y::TR x r
def CD (x:List Int) (l:KS):KS:=if l.contains x then l else TR x l
theorem dK (x:List Int): ∀ l:KS,(TR x l).Perm (x::l)
 | []=>zAw _
 | y::r=>by
  unfold TR;split
  ·exact zAw _
  ·exact ((dK x r).cons y).trans (List.Perm.swap x y r)
theorem bL {x:List Int} {l:KS} (h:x∈l):CD x l=l:=by unfold CD;simp [h]
theorem Vw {x:List Int} {l:KS} (h:x∉l):(CD x l).Perm (x::l):=by unfold CD;simp [h];exact dK x l
theorem L2 {x y:List Int} {l:KS}:y∈CD x l↔y=x∨y∈l:=by
 by_cases h:x∈l
 ·rw [bL h];exact ⟨.inr,fun h'=>h'.elim (fun e=>e▸h) id⟩
 ·rw [(Vw h).mem_iff];simp
section
variable {P:Program} {w:World} {b n:Nat} {l:KS} {es:Array MapEntry} {Aa:Nat}
theorem EN.key (h:EN w b n l es Aa): ∀ e∈es.toList,∃ y∈l,e.key=BL y:=fun e he=>by
 have:e.key∈es.toList.map (·.key):=zN.2 ⟨e,he,rfl⟩;obtain ⟨y,h1,h2⟩:=zN.1 (h.keys.mem_iff.1 this);exact ⟨y,h1,h2.symm⟩
theorem EN.has (h:EN w b n l es Aa) {x:List Int}:x∈l↔∃ e∈es.toList,e.key=BL x:=by
 constructor
 ·intro hx;have:BL x∈l.map BL:=zN.2 ⟨x,hx,rfl⟩;obtain ⟨e,h1,h2⟩:=zN.1 (h.keys.mem_iff.2 this);exact ⟨e,h1,h2⟩
 ·rintro ⟨e,h1,h2⟩;obtain ⟨y,h3,h4⟩:=h.key e h1;exact c8 (h2.symm.trans h4)▸h3
theorem EN.find (h:EN w b n l es Aa) {t:TypeId} (hk:F0 P t=some n) {x:List Int} (hx:x.length=n):
 (x∉l/\ (Instr.findKey t (BL x) es.toList).run P w= .ok none w)∨(x∈l/\ ∃ j e,(Instr.findKey t (BL x) es.toList).run P w= .ok (some (j,.bool true)) w/\ es[j]? =some e/\ e.key=BL x/\ e.val= .bool true):=by
 rcases qJ (w:=w) hk hx h.len h.key with ⟨h1,h2⟩ | ⟨j,e,h1,h2,h3⟩
 ·exact .inl ⟨fun hx=>by obtain ⟨e,g1,g2⟩:=h.has.1 hx;exact h2 e g1 g2,h1⟩
 ·have hm:e∈es.toList:=zF h2;have hv:=h.tru e hm;exact .inr ⟨h.has.2 ⟨e,hm,h3⟩,j,e,by rw [←hv];exact h1,by simpa using h2,h3,hv⟩
theorem Og {w:World} {b:Nat} (o:Obj):AP (fun k=>k=b) w { w with heap:=w.heap.setIfInBounds b o }:=
 ⟨rfl,rfl,rfl,by simp,fun k _ Aw=>by simp [zAh Aw]⟩
theorem EN.put (h:EN w b n l es Aa) {mt kt et:TypeId} (hm:P.underlying mt=some (.map kt et)) (hk:F0 P kt=some n) {x:List Int} (hx:x.length=n):
 ∃ w' De EM,(Instr.mapUpdate mt (.map (some b)) (BL x) (.bool true)).run P w= .ok () w'/\ AP (fun k=>k=b) w w'/\ EN w' b n (CD x l) De EM:=by
 have AU:b<w.heap.size:=(xz.1 h.blk).1;rcases h.find hk hx with ⟨h1,h2⟩ | ⟨h1,j,e,h2,h3,h4,h5⟩
 ·refine ⟨{ w with heap:=w.heap.setIfInBounds b (.map (es.push { key:=BL x,val:=.bool true,born:=Aa }) (Aa+1)) },es.push { key:=BL x,val:=.bool true,born:=Aa },Aa+1,?_,Og _,?_⟩
  ·simp [Instr.mapUpdate,yp hm,zV h.blk,Nf hk hx,h2,zAL _ h.blk,Result.andThen]
  ·refine ⟨by simp [AU],?_,((Vw h1).nodup_iff).2 (zBB.2 ⟨h1,h.nd⟩),fun y hy=>?_,fun e he=>?_,fun e he=>?_,?_⟩
   ·have e1:((es.push { key:=BL x,val:=.bool true,born:=Aa }).toList.map (·.key))=es.toList.map (·.key)++[BL x]:=by simp
    rw [e1];refine (List.perm_append_comm).trans ?_
    show (BL x::es.toList.map (·.key)).Perm _
    exact (h.keys.cons (BL x)).trans (((Vw h1).map BL).symm)
   ·rcases L2.1 hy with rfl | hy
    ·exact hx
    ·exact h.len y hy
   ·simp only [Array.toList_push,yx,yZ] at he;rcases he with he | rfl
    ·exact h.tru e he
    ·rfl
   ·simp only [Array.toList_push,yx,yZ] at he;rcases he with he | rfl
    ·exact Nat.lt_succ_of_lt (h.born e he)
    ·exact Nat.lt_succ_self _
   ·have e1:((es.push { key:=BL x,val:=.bool true,born:=Aa }).toList.map (·.born))=es.toList.map (·.born)++[Aa]:=by simp
    rw [e1];refine List.nodup_append.2 ⟨h.stamps,by simp,fun a ha c hc=>?_⟩;obtain ⟨e,g1,g2⟩:=zN.1 ha;have:=h.born e g1;simp at hc;omega
 ·have hj:j<es.size:=(xz.1 h3).1
  have tU:(es.modify j fun e=>{ e with key:=BL x,val:=.bool true })=es:=by
   apply Array.ext_getElem?;intro i;rw [z2];split
   ·rename_i Nw;subst Nw;rw [h3]
    show some ({ e with key:=BL x,val:=.bool true }:MapEntry)=some e
    rw [←h4,←h5]
   ·rfl
  refine ⟨{ w with heap:=w.heap.setIfInBounds b (.map es Aa) },es,Aa,?_,Og _,?_⟩
  ·have Dq:((es[j]?).map (·.key)).getD (BL x)=BL x:=by rw [h3];exact h4
   simp [Instr.mapUpdate,yp hm,zV h.blk,Nf hk hx,h2,Dq,qI hk hx,zAL _ h.blk,Result.andThen,tU]
  ·rw [bL h1];exact { h with blk:=by simp [AU] }
theorem EN.look (h:EN w b n l es Aa) {mt kt et:TypeId} (hm:P.underlying mt=some (.map kt et)) (hk:F0 P kt=some n) {x:List Int} (hx:x.length=n) (hz:(zeroValue et).run P w= .ok (.bool false) w):
 (Instr.lookup mt (.map (some b)) (BL x) false).run P w= .ok (.bool (l.contains x)) w:=by
 rcases h.find hk hx with ⟨h1,h2⟩ | ⟨h1,j,e,h2,h3,h4,h5⟩
 ·have:l.contains x=false:=by simpa using h1
  simp [Instr.lookup,yp hm,zV h.blk,Nf hk hx,h2,hz,Result.andThen,this,h1]
 ·have:l.contains x=true:=by simpa using h1
  simp [Instr.lookup,yp hm,zV h.blk,Nf hk hx,h2,Result.andThen,this,h1]
end
/-! ### On ZT view-/
def TG (lk:Option (Nat×Nat×Array MapEntry×Nat)) (i:Nat):Prop:=∀ y,lk=some y -> y.1≠i
section
variable {P:Program} {w w':World} {p:AN} {n:Nat} {ls:List (Option KS)} {lk:Option (Nat×Nat×Array MapEntry×Nat)} {vs:Array Value}
theorem Eh.lies (h:Eh w p n ls lk vs) {b:Nat} (hb:p.foot b):C7 w b:=by
 rcases h.foot b hb with rfl | ⟨j,l,h1,h2⟩
 ·obtain ⟨cs,t,h3,_⟩:=h.row;exact .cells h3
 ·obtain ⟨b',g1,_,_,es,Aa,g2,_⟩:=h.has j l h1;have:b'=b:=by rw [g1] at h2;cases h2;rfl
  subst this;exact ⟨_,rfl,(),g2.blk⟩
theorem Eh.put (h:Eh w p n ls lk vs) {i b:Nat} {l l':KS} {es:Array MapEntry} {Aa:Nat} (hi:ls[i]? =some (some l)) (hb:vs[i]? =some (Value.map (some b))) (hu:AP (fun k=>k=b) w w') (hm:EN w' b n l' es Aa) (XV:TG lk i):Eh w' p n (ls.set i (some l')) lk vs:=by
 have EH:i<ls.length:=(yI.1 hi).1;obtain ⟨b0,g1,g2,g3,_⟩:=h.has i l hi;have:b0=b:=by rw [g1] at hb;cases hb;rfl
 subst this
 have H7: ∀ {j:Nat} {x:Option KS},(ls.set i (some l'))[j]? =some x -> (j=i/\ x=some l')∨(j≠i/\ ls[j]? =some x):=fun {j x} hj=>by
  rw [yn] at hj
  by_cases e:i=j
  ·subst e;simp [EH] at hj;exact .inl ⟨rfl,hj.symm⟩
  ·rw [yK e] at hj;exact .inr ⟨zAh e,hj⟩
 refine ⟨h.val,by simp [h.size],?_,h.blk,fun j l1 hj=>?_,fun j hj=>?_,fun b' Cd=>?_,h.inj⟩
 ·obtain ⟨cs,t,k1,k2⟩:=h.row;exact ⟨cs,t,(hu.block _ (xz.1 k1).1 (fun e=>g2 e.symm)).trans k1,by simpa using k2⟩
 ·rcases H7 hj with ⟨rfl,e⟩ | ⟨Aw,hj⟩
  ·cases e;exact ⟨b0,hb,g2,g3,es,Aa,hm,fun y hy e=>absurd e (XV y hy)⟩
  ·obtain ⟨b1,k1,k2,k3,HO,c1,k4,k5⟩:=h.has j l1 hj;refine ⟨b1,k1,k2,k3,HO,c1,k4.out (hu.block _ (xz.1 k4.blk).1 fun e=>Aw ?_),k5⟩;subst e;exact h.inj j i b1 k1 hb
 ·rcases H7 hj with ⟨rfl,e⟩ | ⟨Aw,hj⟩
  ·cases e
  ·exact h.nil j hj
 ·rcases h.foot b' Cd with e | ⟨j,l1,k1,k2⟩
  ·exact .inl e
  ·by_cases e:j=i
   ·subst e;exact .inr ⟨j,l',by simp [EH],k2⟩
   ·exact .inr ⟨j,l1,by rw [yn,yK (zAh e)];exact k1,k2⟩
end
def TN (n:Nat) (d:DV):Option (List Int):=match d with
 | .int .i64 a=>if n=1 then some [a] else none
 | .agg m f=>if m=n/\ n≠1 then if (List.range m).all fun j=>Ji (f j) then some ((List.range m).map fun j=>HF (f j)) else none else none
 | _=>none
def Wl (n:Nat) (x:List Int):DV:=if n=1 then .int .i64 (x.getD 0 0) else .agg n (GD n fun j=>.int .i64 (x.getD j 0))
section
variable {P:Program} {w:World} {ρ:List AN} {M:Nat -> Prop}
theorem dA {x:List Int} (h:x.length≠1):BL x= .agg (x.map fun a=>.int .i64 a).toArray:=by
 unfold BL;split
 ·simp at h
 ·rfl
theorem dB {n:Nat} {d:DV} {x:List Int} {v:Value} (h:TN n d=some x) (hr:AO M w d ρ v):v=BL x/\ x.length=n:=by
 unfold TN at h;split at h
 ·split at h
  ·cases h;exact ⟨hr,by simp;omega⟩
  ·cases h
 ·rename_i m f;split at h
  ·rename_i hm;split at h
   ·rename_i ha;cases h;have hl:((List.range m).map fun j=>HF (f j)).length=m:=by simp
    refine ⟨?_,by rw [hl];exact hm.1⟩;obtain ⟨cs,rfl,hs,hc⟩:=hr;rw [dA (by rw [hl];omega)]
    congr 1
    apply Array.ext_getElem?;intro j
    by_cases hj:j<m
    ·obtain ⟨u,e1,e2⟩:=hc j hj;have:=Wp (yJ.1 ha j (yR.2 hj)) e2;rw [e1,this];simp [hj]
    ·rw [zAs (by omega)];simp [hj]
   ·cases h
  ·cases h
 ·cases h
theorem qL {n:Nat} {x:List Int} (h:x.length=n):AO M w (Wl n x) ρ (BL x):=by
 unfold Wl;split
 ·rename_i e;subst e;obtain ⟨a,rfl⟩:=MA h;rfl
 ·rename_i e;rw [dA (by omega)];refine ⟨_,rfl,by simp [h],fun j hj=>?_⟩;rw [Ro hj];have BX:j<x.length:=by omega
  exact ⟨.int .i64 (x.getD j 0),by simp [BX],rfl⟩
end
def UI:Nat -> DH -> Option (Nat×Nat×List (Option KS)×Nat×Nat×Array MapEntry×Nat)
 | _,[]=>none
 | k,some (.mo (.sets n ls (some y)))::_=>some (k,n,ls,y)
 | k,_::r=>UI (k+1) r
theorem vI {n:Nat} {ls:List (Option KS)} {y:Nat×Nat×Array MapEntry×Nat} {k:Nat}: ∀ (h:DH) (k0:Nat),UI k0 h=some (k,n,ls,y) -> k0<=k/\ h[k-k0]? =some (some (.mo (.sets n ls (some y)))):=by
 intro h
 induction h with
 | nil=>intro k0 e;cases e
 | cons x r ih=>
  intro k0 e
  have step:UI (k0+1) r=some (k,n,ls,y) -> k0<=k/\ (x::r)[k-k0]? =some (some (.mo (.sets n ls (some y)))):=fun e=>by
   obtain ⟨h1,h2⟩:=ih (k0+1) e;refine ⟨by omega,?_⟩;have:k-k0=k-(k0+1)+1:=by omega
   rw [this];simpa using h2
  match x,e with
  | none,e=>exact step e
  | some (.cells _),e=>exact step e
  | some (.ints _),e=>exact step e
  | some (.bools _),e=>exact step e
  | some (.arr _ _ _),e=>exact step e
  | some (.iter _),e=>exact step e
  | some (.mo (.set _ _)),e=>exact step e
  | some (.mo (.mit _ _ _ _ _ _)),e=>exact step e
  | some (.mo (.rows _ _)),e=>exact step e
  | some (.mo (.rws _ _)),e=>exact step e
  | some (.mo (.sets _ _ none)),e=>exact step e
  | some (.mo (.sets _ _ (some _))),e=>cases e;exact ⟨yS _,by simp⟩
def L3 (P:Program) (t:TypeId):Option (Nat×TypeId):=match P.underlying t with
 | some (.map k e)=>match F0 P k with
  | some n=>match P.info? e with
   | some i=>match i.zero with
    | some (.bool false)=>some (n,k)
    | _=>none
   | none=>none
  | none=>none
 | _=>none
theorem WY {P:Program} {t k:TypeId} {n:Nat} (h:L3 P t=some (n,k)): ∃ e,P.underlying t=some (.map k e)/\ F0 P k=some n/\ ∀ w,(zeroValue e).run P w= .ok (.bool false) w:=by
 unfold L3 at h;split at h
 ·rename_i k' e hu;split at h
  ·rename_i n' hk;split at h
   ·rename_i i hi;split at h
    ·rename_i hz;cases h;exact ⟨e,hu,hk,fun w=>by simp [zeroValue,typeInfo,hi,hz]⟩
    ·cases h
   ·cases h
  ·cases h
 ·cases h
def Sa (P:Program) (S:St) (t:TypeId) (m k x:DV):Option (DV×DH×List Prop×Bool):=match L3 P t with
 | some (n,_)=>match TN n k,x with
  | some x,.bool true=>match m with
   | .it j=>match S.h[j]? with
    | some (some (.mo (.set n' l)))=>if n'=n then some (.any,S.h.set j (some (.mo (.set n (CD x l)))),[],false) else none
    | _=>none
   | .mri j i=>match S.h[j]? with
    | some (some (.mo (.sets n' ls lk)))=>if n'=n then some (.any,S.h.set j (some (.mo (.sets n (ls.set i (some (CD x ((ls.getD i none).getD [])))) lk))),[(ls.getD i none).isSome=true,TG lk i],false) else none
    | _=>none
   | _=>none
  | _,_=>none
 | none=>none
def WZ (P:Program) (S:St):Op -> Option (DV×DH×List Prop×Bool)
 | .makeMap t none=>match L3 P t with
  | some (n,_)=>some (.it S.h.length,S.h++[some (.mo (.set n []))],[],true)
  | none=>none
 | .mapUpdate t m k x=>Sa P S t (Ac S.fr m) (Ac S.fr k) (Ac S.fr x)
 | .insert t m k x=>Sa P S t (Ac S.fr m) (Ac S.fr k) (Ac S.fr x)
 | .lookup t m k false=>match L3 P t with
  | some (n,_)=>match TN n (Ac S.fr k) with
   | some x=>match Ac S.fr m with
    | .it j=>match S.h[j]? with
     | some (some (.mo (.set n' l)))=>if n'=n then some (.bool (l.contains x),S.h,[],true) else none
     | _=>none
    | .mri j i=>match S.h[j]? with
     | some (some (.mo (.sets n' ls _)))=>if n'=n then some (.bool (((ls.getD i none).getD []).contains x),S.h,[(ls.getD i none).isSome=true],true) else none
     | _=>none
    | _=>none
   | none=>none
  | none=>none
 | .range t m=>match L3 P t with
  | some (n,_)=>match Ac S.fr m with
   | .mri j i=>match S.h[j]? with
    | some (some (.mo (.sets n' ls (some (i',mb,es,Aa)))))=>if n'=n then some (.it S.h.length,S.h++[some (.mo (.mit n mb es Aa ((ls.getD i none).getD []) none))],[(ls.getD i none).isSome=true,i'=i],true) else none
    | _=>none
   | _=>none
  | none=>none
 | .entry m=>match Ac S.fr m with
  | .it j=>match S.h[j]? with
   | some (some (.mo (.mit n mb es Aa _ (some x))))=>match UI 0 S.h with
    | some (_,_,ls,i,cO,De,EM)=>some (.tup 2 (GD 2 fun c=>if c=0 then Wl n x else .bool true),S.h,[(ls.getD i none).isSome=true,cO=mb,De=es,EM=Aa],true)
    | none=>none
   | _=>none
  | _=>none
 | _=>none
section
variable {P:Program} {Γ:BB} {N:Nat -> Prop} {S:St} {ρ:List AN} {a:Act} {w:World}
theorem OA {ls:List (Option KS)} {i:Nat} (h:(ls.getD i none).isSome=true):ls[i]? =some (some ((ls.getD i none).getD [])):=by
 rw [u8] at h ⊢;cases hx:ls[i]? with
 | none=>rw [hx] at h;cases h
 | some x=>
  rw [hx] at h;cases x with
  | none=>cases h
  | some l=>simp
theorem VU (R:Ad P Γ N S ρ a w) {j n:Nat} {l:KS} {v:Value} (hk:S.h[j]? =some (some (.mo (.set n l)))) (hv:AO (MS N S.h ρ) w (.it j) ρ v): ∃ p es Aa,ρ[j]? =some p/\ v= .map (some p.blk)/\ p.foot=(fun b=>b=p.blk)/\ p.val=Value.map (some p.blk)/\ EN w p.blk n l es Aa:=by
 obtain ⟨p,hp,rfl⟩:=hv;obtain ⟨p',BJ,h1,h2,es,Aa,h3⟩:=R.hr.obj j _ hk;have:p'=p:=yH (BJ.symm.trans hp);subst this;exact ⟨p',es,Aa,hp,h1,h2,h1,h3⟩
theorem VT (R:Ad P Γ N S ρ a w) {j i n:Nat} {ls:List (Option KS)} {lk:Option (Nat×Nat×Array MapEntry×Nat)} {v:Value} (hk:S.h[j]? =some (some (.mo (.sets n ls lk)))) (hv:AO (MS N S.h ρ) w (.mri j i) ρ v) (hs:(ls.getD i none).isSome=true):
 ∃ p vs b es Aa,ρ[j]? =some p/\ Eh w p n ls lk vs/\ v= .map (some b)/\ vs[i]? =some (Value.map (some b))/\ p.foot b/\ EN w b n ((ls.getD i none).getD []) es Aa/\ ∀ y,lk=some y -> y.1=i -> y.2=(b,es,Aa):=by
 obtain ⟨p,vs,hp,GL,CZ⟩:=hv;obtain ⟨p',BJ,BW,h1⟩:=R.hr.obj j _ hk;have:p'=p:=yH (BJ.symm.trans hp);subst this;have:BW=vs:=by have:=h1.val.symm.trans GL;cases this;rfl
 subst this;obtain ⟨b,g1,g2,g3,es,Aa,g4,g5⟩:=h1.has i _ (OA hs);have:v= .map (some b):=by rw [g1] at CZ;exact (yH CZ).symm
 exact ⟨p',BW,b,es,Aa,hp,h1,this,g1,g3,g4,g5⟩
theorem VX (R:Ad P Γ N S ρ a w) {d:DV} {v:Value} (hv:AO (MS N S.h ρ) w d ρ v):C1 P Γ N S.h ρ w true d S.h v w:=⟨⟨ρ,R.hr,hv,BN.refl _ _ _,fun _ _ h=>h⟩,fun _=>At.refl w⟩
theorem Qj (H:BY P Γ N S.h ρ w) {ob:Obj} (Cv:eK ob=true) {pl:AN} (Ea:pl.foot=fun b=>b=w.heap.size) {o:DO} {d:DV} {v:Value} (ho: ∀ M ρ',DW P M (w.alloc ob) ρ' pl o)
 (hv: ∀ M ρ',ρ'[S.h.length]? =some pl -> AO M (w.alloc ob) d ρ' v) (ext:Bool):C1 P Γ N S.h ρ w ext d (S.h++[some o]) v (w.alloc ob):=by
 have hE:At w (w.alloc ob):=(At.refl w).allocR _;have hf: ∀ b,pl.foot b -> w.heap.size<=b:=fun b hb=>by rw [Ea] at hb;exact Nat.le_of_eq (Eq.symm hb)
 have hb:(w.alloc ob).heap[w.heap.size]? =some ob:=zx w _;refine ⟨⟨ρ++[pl],H.snoc hE (fun b hx=>⟨hf b hx,ob,Cv,(),by rw [Ea] at hx;rw [show b=w.heap.size from hx];exact hb⟩) (ho _ _),?_,BN.snoc H hE hf,fun k p hk=>D5 hk⟩,fun _=>hE⟩;exact hv _ _ (by rw [←H.len];simp)
theorem bM (R:Ad P Γ N S ρ a w) {t:TypeId} {m k x:Operand} {d:DV} {h':DH} {vs:List Prop} {ext:Bool} (hd:Sa P S t (Ac S.fr m) (Ac S.fr k) (Ac S.fr x)=some (d,h',vs,ext)) (hv:Be vs):
 ∃ w',(Instr.mapUpdate t (a.eval m) (a.eval k) (a.eval x)).run P w= .ok () w'/\ C1 P Γ N S.h ρ w ext d h' undef w':=by
 have rm:=Bh R m;have rk:=Bh R k;have rx:=Bh R x;unfold Sa at hd;split at hd
 ·rename_i n kt hT;obtain ⟨e,hu,hk,hz⟩:=WY hT;split at hd
  ·rename_i xs hK hX;obtain ⟨ek,el⟩:=dB hK rk;rw [hX] at rx;have ex:a.eval x= .bool true:=rx;rw [ek,ex];split at hd
   ·rename_i j hM;split at hd
    ·rename_i n' l hO;split at hd
     ·rename_i hn;cases hd;subst hn;rw [hM] at rm;obtain ⟨p,es,Aa,hp,ev,Ea,GL,hA⟩:=VU R hO rm;rw [ev];obtain ⟨w',De,EM,h1,h2,h3⟩:=hA.put hu hk el;have Ks:AP p.foot w w':=by rw [Ea];exact h2
      refine ⟨w',h1,⟨ρ,R.hr.write hO hp Ks (fun b hb=>?_) ⟨GL,Ea,De,EM,h3⟩,trivial,BN.write hO hp Ks,fun _ _ h=>h⟩,fun h=>by cases h⟩;rw [Ea] at hb;exact ⟨_,rfl,(),by rw [show b=p.blk from hb];exact h3.blk⟩
     ·cases hd
    ·cases hd
   ·rename_i j i hM;split at hd
    ·rename_i n' ls lk hO;split at hd
     ·rename_i hn;cases hd;subst hn;obtain ⟨hs,XV,_⟩:=hv;rw [hM] at rm;obtain ⟨p,vs,b,es,Aa,hp,hS,ev,CZ,F6,hA,_⟩:=VT R hO rm hs;rw [ev];obtain ⟨w',De,EM,h1,h2,h3⟩:=hA.put hu hk el;have Ks:AP p.foot w w':=h2.mono fun c _ hc=>by rw [show c=b from hc];exact F6
      have K2:=hS.put (OA hs) CZ h2 h3 XV;exact ⟨w',h1,⟨ρ,R.hr.write hO hp Ks (fun b hb=>K2.lies hb) ⟨vs,K2⟩,trivial,BN.write hO hp Ks,fun _ _ h=>h⟩,fun h=>by cases h⟩
     ·cases hd
    ·cases hd
   ·cases hd
  ·cases hd
 ·cases hd
theorem pn (es:Array MapEntry):leftOf es #[]=es:=by
 unfold leftOf;refine Array.filter_eq_self.2 fun x hx=>by simp
theorem mC {r bm Hg Aa:Nat} {seen:Array Nat} {es:Array MapEntry} {e:MapEntry} (hr:w.heap[r]? =some (.mapIter (some bm) Hg seen Aa)) (hs:seen.back? =some e.born) (hb:w.heap[bm]? =some (.map es Aa)) (he:e∈es.toList) (hn:(es.toList.map (·.born)).Nodup):
 (Instr.entry (.pointer (some ⟨r,0,none⟩))).run P w= .ok (.tuple #[e.key,e.val]) w:=by
 have hf:es.find? (·.born==e.born)=some e:=by rw [←Array.find?_toList];exact find_born e es.toList hn he
 simp only [Instr.entry,getObj,yT,Sem.run,hr,hb,Result.andThen,hs,zAV,yt,z7,hf];rfl
theorem om (R:Ad P Γ N S ρ a w) (o:Oper) {d:DV} {h':DH} {vs:List Prop} {ext:Bool} (hd:WZ P S o.op=some (d,h',vs,ext)) (hv:Be vs):BS P (execOp a.eval o) w (C1 P Γ N S.h ρ w ext d h'):=by
 unfold WZ at hd;split at hd
 ·rename_i t ho;split at hd
  ·rename_i n kt hT;cases hd;refine BS.value (s:=Instr.makeMap t none) (by unfold execOp;rw [ho];rfl) (v:=.map (some w.heap.size)) (w':=w.alloc (.map #[] 0)) (by simp [Instr.makeMap,newObj];rfl) ?_;refine Qj (ob:=.map #[] 0) (o:=.mo (.set n [])) (d:=.it S.h.length) (v:=.map (some w.heap.size)) (pl:=⟨w.heap.size,0,0,.map (some w.heap.size),fun b=>b=w.heap.size⟩) R.hr rfl rfl (fun M ρ'=>⟨rfl,rfl,#[],0,⟨zx w _,by simp,List.nodup_nil,fun y hy=>absurd hy zv,fun e he=>absurd he (by simp),fun e he=>absurd he (by simp),by simp⟩⟩) (fun M ρ' hp=>⟨_,hp,rfl⟩) true
  ·cases hd
 ·rename_i t m k x ho;obtain ⟨w',h1,h2⟩:=bM R hd hv;exact BS.skip (s:=Instr.mapUpdate t (a.eval m) (a.eval k) (a.eval x)) (by unfold execOp;rw [ho]) h1 h2
 ·rename_i t m k x ho;obtain ⟨w',h1,h2⟩:=bM R hd hv;exact BS.skip (s:=Instr.mapUpdate t (a.eval m) (a.eval k) (a.eval x)) (by unfold execOp;rw [ho]) h1 h2
 ·rename_i t m k ho;have rm:=Bh R m;have rk:=Bh R k;split at hd
  ·rename_i n kt hT;obtain ⟨e,hu,hk,hz⟩:=WY hT;split at hd
   ·rename_i xs hK;obtain ⟨ek,el⟩:=dB hK rk;split at hd
    ·rename_i j hM;split at hd
     ·rename_i n' l hO;split at hd
      ·rename_i hn;cases hd;subst hn;rw [hM] at rm;obtain ⟨p,es,Aa,hp,ev,Ea,GL,hA⟩:=VU R hO rm;exact BS.value (s:=Instr.lookup t (a.eval m) (a.eval k) false) (by unfold execOp;rw [ho]) (by rw [ek,ev];exact hA.look hu hk el (hz w)) (VX R rfl)
      ·cases hd
     ·cases hd
    ·rename_i j i hM;split at hd
     ·rename_i n' ls lk hO;split at hd
      ·rename_i hn;cases hd;subst hn;rw [hM] at rm;obtain ⟨p,vs,b,es,Aa,hp,hS,ev,CZ,F6,hA,_⟩:=VT R hO rm hv.1;exact BS.value (s:=Instr.lookup t (a.eval m) (a.eval k) false) (by unfold execOp;rw [ho]) (by rw [ek,ev];exact hA.look hu hk el (hz w)) (VX R rfl)
      ·cases hd
     ·cases hd
    ·cases hd
   ·cases hd
  ·cases hd
 ·rename_i t m ho;have rm:=Bh R m;split at hd
  ·rename_i n kt hT;obtain ⟨e,hu,hk,hz⟩:=WY hT;split at hd
   ·rename_i j i hM;split at hd
    ·rename_i n' ls i' mb es Aa hO;split at hd
     ·rename_i hn;cases hd;subst hn;obtain ⟨hs,hi,_⟩:=hv;subst hi;rw [hM] at rm;obtain ⟨p,vs,b,HO,Uj,hp,hS,ev,CZ,F6,hA,hL⟩:=VT R hO rm hs;have hL:=hL _ rfl rfl;cases hL;refine BS.value (s:=Instr.range t (a.eval m)) (by unfold execOp;rw [ho]) (by rw [ev];exact run_range_map w t _ _ _ _ _ hu hA.blk) ?_;refine Qj (ob:=.mapIter (some mb) Aa #[] Aa) (o:=.mo (.mit n' mb es Aa ((ls.getD i' none).getD []) none)) (d:=.it S.h.length) (v:=.pointer (some ⟨w.heap.size,0,none⟩)) (pl:=⟨w.heap.size,0,0,.pointer (some ⟨w.heap.size,0,none⟩),fun b=>b=w.heap.size⟩) R.hr rfl rfl (fun M ρ'=>⟨fun x hx=>hx.elim (hA.len x) (fun e=>by cases e),rfl,rfl,#[],zx w _,by rw [pn];exact hA.keys,fun x hx=>by cases hx⟩) (fun M ρ' hp=>⟨_,hp,rfl⟩) true
     ·cases hd
    ·cases hd
   ·cases hd
  ·cases hd
 ·rename_i m ho;have rm:=Bh R m;split at hd
  ·rename_i j hM;split at hd
   ·rename_i n mb es Aa rem x hO;split at hd
    ·rename_i k n' ls i cO De EM hF;cases hd;obtain ⟨hs,e1,e2,e3,_⟩:=hv;subst e1 e2 e3;rw [hM] at rm;obtain ⟨p,hp,ev⟩:=rm;obtain ⟨p',BJ,h0,h1,h2,seen,h3,h4,h5⟩:=R.hr.obj j _ hO;have:p'=p:=yH (BJ.symm.trans hp);subst this;obtain ⟨e,g1,g2,g3⟩:=h5 x rfl;have hF:=(vI _ _ hF).2;obtain ⟨q,hq,vs,hS⟩:=R.hr.obj _ _ hF;obtain ⟨b,k1,k2,k3,HO,Uj,k4,k5⟩:=hS.has i _ (OA hs);have k5:=k5 _ rfl rfl;cases k5;refine BS.value (s:=Instr.entry (a.eval m)) (by unfold execOp;rw [ho]) (by rw [ev,h1];exact mC h3 g3 k4.blk g1 k4.stamps) (VX R ?_);refine ⟨_,rfl,rfl,fun c hc=>?_⟩;rw [Ro hc,g2,k4.tru e g1]
     match c,hc with
     | 0,_=>exact ⟨BL x,rfl,qL (h0 x (.inr rfl))⟩
     | 1,_=>exact ⟨.bool true,rfl,rfl⟩
    ·cases hd
   ·cases hd
  ·cases hd
 ·cases hd
end
end Go.Proofs.YtgkhhfnhacibcaaGreatDoor
