/- Part 1 of 7 of what the proofs of these laws stand on. -/
import Derived.WalkKit
import Derived.WalkSpells
import Derived.WalkLawsBesides
import Derived.Lib.Hide
import Derived.OrdersHeld
import Derived.Deep.RegionHeld
import Derived.BigQuiet
import Derived.OrdersIn
import Derived.TacticsIn
import Derived.RangeFuncOwn
import Derived.RangeFuncNested
import Derived.RangeFuncCalls
import Derived.Laws.IdiomRangeMap
import Derived.Laws.Cells
import Derived.Laws.Cover3
import Derived.Laws.StructEq
import Derived.ChangeKeysEq
import Derived.RowKit
import Derived.Deep.AppendSrc
import Derived.Laws.MakeOwn
import Derived.Great.BuildSlice
import Derived.Sort.LoopGhostIn
import Derived.MapKept
set_option linter.all false
namespace Go.Proofs.YtekkngkphejfcaaGreatDoor
abbrev zBa:=@Nat.le_refl
abbrev zFS:=@Go.World.block_lt_of_cell?
end Go.Proofs.YtekkngkphejfcaaGreatDoor
namespace Go.Proofs.YtekkngkphejfcaaGreatDoor
open Go.RowKit
def A4 (w w':World):Prop:=Below w.heap.size w w'
theorem A4.refl (w:World):A4 w w:=Below.refl _ _
theorem A4.trans {a b c:World} (h:A4 a b) (k:A4 b c):A4 a c:=Below.trans h (Below.mono k h.size)
theorem A4.alloc (w:World) (o:Obj):A4 w (w.alloc o):=(Below.refl _ _).alloc (zBa _) o
theorem A4.allocR {w w':World} (h:A4 w w') (o:Obj):A4 w (w'.alloc o):=h.trans (A4.alloc w' o)
theorem A4.drewR {w w':World} (h:A4 w w'):A4 w w'.drew:=Below.drew h
theorem A4.size {w w':World} (h:A4 w w'):w.heap.size<=w'.heap.size:=Below.size h
theorem A4.cells {w w':World} (h:A4 w w'): ∀ b o,b<w.heap.size -> w'.cell? ⟨b,o,none⟩=w.cell? ⟨b,o,none⟩:=
 fun b o hb=>Below.cell h (p:=⟨b,o,none⟩) hb
theorem A4.cell {w w':World} (h:A4 w w') {b o:Nat} {u:Value} (hc:w.cell? ⟨b,o,none⟩=some u):w'.cell? ⟨b,o,none⟩=some u:=by
 rw [h.cells b o (zFS w ⟨b,o,none⟩ hc)];exact hc
def Cm (b:Bool) (e:Int):Int:=if b then 0 else e
theorem zC5 (e:Int):Cm true e=0:=rfl
structure AC where
 kind:Int
 cells:List Int
 set:Int
 other:Int
 lo:Int
 hi:Int
 runs:List Int
 rule:Int
 spot:Int
 deriving DecidableEq,Inhabited
structure AA where
 cells:Int
 symbols:Int
 values:List Int
 nbrs:List (List Int)
 cons:List AC
 deriving DecidableEq,Inhabited
end Go.Proofs.YtekkngkphejfcaaGreatDoor
namespace Go.Proofs.YtekkngkphejfcaaGreatDoor
abbrev zAE:=@if_pos
abbrev zBE:=@Bool.and_eq_true
abbrev zBK:=@Option.some.inj
abbrev zBP:=@if_neg
abbrev zBf:=@beq_iff_eq
abbrev zBg:=@Bool.or_eq_true
abbrev zBx:=@Go.Sem.run_bind
abbrev zCQ:=@Bool.false_eq_true
abbrev zFQ:=@Nat.lt_or_ge
abbrev zGI:=@Go.mem_ready
abbrev zGa:=@Array.getElem?_eq_none
end Go.Proofs.YtekkngkphejfcaaGreatDoor
namespace Go.Proofs.YtekkngkphejfcaaGreatDoor
open Go.RowKit
def Se:Op -> Bool
 | .move _ | .assign _ | .pick .. | .load .. | .binOp .. | .unOp .. | .convert .. | .makeFunc .. | .slice .. | .fieldAddr .. | .field .. | .indexAddr .. | .index .. | .extract .. | .build .. | .lookup .. | .makeInterface .. | .nilCheck _=>true
 | .call c=>match c.callee with
  | .builtin .len | .builtin .cap | .builtin .min | .builtin .max=>true
  | _=>false
 | _=>false
theorem Yq {P:Program} {w w':World} {α:Type} {s:Sem α} {f:α -> Value} {n:Next} (h:(s>>=fun x=>(pure (.value (f x)):Sem Next)).run P w= .ok n w'): ∃ v,n= .value v:=by
 rw [zBx] at h;cases hs:s.run P w with
 | ok v w1=>rw [hs] at h;simp only [Result.andThen] at h;cases h;exact ⟨_,rfl⟩
 | halt x w1=>rw [hs] at h;simp only [Result.andThen] at h;cases h
theorem wg {P:Program} {ρ:Operand -> Value} {o:Oper} {w w':World} {n:Next} (hp:Se o.op=true) (h:(execOp ρ o).run P w= .ok n w'): ∃ v,n= .value v:=by
 unfold execOp at h;cases ho:o.op <;> rw [ho] at hp h <;> simp only [Se,zCQ] at hp
 all_goals first | exact Yq (f:=fun x=>x) h | (cases h;exact ⟨_,rfl⟩) | skip
 ·rename_i c x y;exact Yq (s:=asBool (ρ c)) (f:=fun b=>if b then ρ x else ρ y) h
 ·rename_i x
  have hb: ∀ {α:Type} (s:Sem α) (f:α -> Sem Next) (w0:World),(∀ a w1,(f a).run P w1= .ok n w' -> ∃ v,n= .value v) -> (s>>=f).run P w0= .ok n w' -> ∃ v,n= .value v:=by
   intro α s f w0 hf hr;rw [zBx] at hr;cases hs:s.run P w0 with
   | ok v w1=>rw [hs] at hr;exact hf _ _ hr
   | halt x w1=>rw [hs] at hr;simp only [Result.andThen] at hr;cases hr
  have XF:(runtimePanic .nilDeref:Sem Next).run P w= .ok n w' -> ∃ v,n= .value v:=by
   intro he;unfold runtimePanic at he;refine hb _ _ _ ?_ he;intro a w1 h1;cases h1
  simp only at h;split at h
  ·exact XF h
  ·exact XF h
  ·exact XF h
  ·split at h
   ·exact XF h
   ·refine hb _ _ _ ?_ h;intro p w1 h1;refine hb _ _ _ ?_ h1;intro q w2 h2;split at h2
    ·refine hb _ _ _ ?_ h2;intro r w3 h3;cases h3;exact ⟨_,rfl⟩
    ·cases h2;exact ⟨_,rfl⟩
   ·cases h;exact ⟨_,rfl⟩
  ·cases h;exact ⟨_,rfl⟩
 ·rename_i c;replace h:((resolve ρ c o.type)>>=fun d=>invoke d.target d.args).run P w= .ok n w':=h;rw [zBx] at h;unfold resolve at h;cases hc:c.callee with
  | value f=>rw [hc] at hp;simp at hp
  | invoke r m=>rw [hc] at hp;simp at hp
  | builtin b=>
   rw [hc] at hp h;have e: ∀ d:Deferred,(pure d:Sem Deferred).run P w= .ok d w:=fun _=>rfl
   simp only [e,Result.andThen] at h;unfold invoke at h;cases b <;> simp at hp <;> exact Yq (f:=fun x=>x) h
structure Uh (w:World) where
 W:World
 le:A4 w W
def Qj (w:World):World -> Prop:=fun w'=>∃ x:Uh w,w'=x.W
theorem Qj.iff {w w':World}:Qj w w'↔A4 w w':=⟨fun ⟨x,e⟩=>e▸x.le,fun h=>⟨⟨w',h⟩,rfl⟩⟩
theorem A4.toDrew (w:World):A4 w w.drew:=A4.drewR (A4.refl w)
section
variable {P:Program} {ops:Array Oper} {Q:Exit -> Act -> World -> Prop}
theorem qN {w:World} {o:Oper} {a:Act} {v:Value} (hp:Se o.op=true) (hw:Region.wanted o (yielded ops a.tmps)=true)
 (h: ∀ w',Qj w w' -> o.quietAt P a (Qj w) w' v):YieldsIf P ops (A4 w) o v a:=by
 refine .inl ⟨hw,fun w' hE=>?_⟩;have:=h w' (Qj.iff.2 hE);unfold Oper.quietAt at this;cases hr:(execOp a.eval o).run P w' with
 | halt x w1=>rw [hr] at this;simp [Oper.quietUpon] at this
 | ok n w1=>
  obtain ⟨u,rfl⟩:=wg hp hr;rw [hr] at this;obtain ⟨rfl,rfl⟩:=this;rfl
def NP (Q:Exit -> Act -> World -> Prop):Exit -> Act -> World -> Prop
 | .panic _,_,_=>False
 | e,a,w=>Q e a w
theorem NP.put (c:List PanicEntry) (a:Act) (d:Option Tmp) (v:Value) (w:World) (h:NP Q (.panic c) (a.put d v) w):NP Q (.panic c) a w:=h.elim
def GX (ops:Array Oper) (Ac:Array Bool):Prop:=∀ (j:Nat) (oj:Oper),ops[j]? =some oj -> Ac.getD j false=true -> ∀ e∈oj.after,Region.binds .any e=true -> Ac.getD e.on false=true
theorem GX.set {Ac:Array Bool} {i:Nat} (h:GX ops Ac) (hi:i∈Region.ready .any ops Ac):GX ops (Ac.setIfInBounds i true):=by
 obtain ⟨_,oi,hoi,IA⟩:=zGI.1 hi;intro j oj hj hl e he hb
 by_cases TY:i=j
 ·subst TY;have:oj=oi:=zBK (hj.symm.trans hoi);subst this;exact getD_set_true (IA e he hb)
 ·rw [getD_set_ne false TY] at hl;exact getD_set_true (h j oj hj hl e he hb)
def F9 (ops:Array Oper):Nat -> Nat -> Nat -> Bool
 | 0,_,_=>false
 | n+1,t,i=>match ops[t]? with
  | none=>false
  | some o=>o.after.any fun e=>Region.binds .any e&&(e.on==i||F9 ops n e.on i)
theorem Yo {Ac:Array Bool} (hc:GX ops Ac): ∀ (n t i:Nat) (o:Oper),ops[t]? =some o -> (∀ e∈o.after,Region.binds .any e=true -> Ac.getD e.on false=true) -> F9 ops n t i=true -> Ac.getD i false=true
 | 0,_,_,_,_,_,h=>by simp [F9] at h
 | n+1,t,i,o,ho,IA,h=>by
  simp only [F9,ho] at h;obtain ⟨e,he,hb⟩:=Array.any_eq_true'.1 h;simp only [zBE,zBg,zBf] at hb;obtain ⟨hb,h1 | h1⟩:=hb
  ·rw [←h1];exact IA e he hb
  ·cases ci:ops[e.on]? with
   | none=>cases n <;> simp [F9,ci] at h1
   | some o2=>exact Yo hc n e.on i o2 ci (hc e.on o2 ci (IA e he hb)) h1
theorem Xd {Ac:Array Bool} {i:Nat} (h:Ac.getD i true=false):Ac.getD i false=false:=by
 rcases zFQ i Ac.size with h' | h'
 ·simp [h'] at h ⊢;exact h
 ·simp [zGa h'] at h
def Ff (ops:Array Oper):List Nat -> List Oper
 | []=>[]
 | i::l=>match ops[i]? with | some o=>o::Ff ops l | none=>Ff ops l
def RD (ops:Array Oper) (Cs:Nat -> Bool):List Nat -> Array Bool -> Bool
 | [],_=>true
 | i::l,Ac=>(Region.ready .any ops Ac).contains i&&Region.free .any ops Ac i&&(match ops[i]? with | some o=>Se o.op | none=>false)&&
  ((List.range ops.size).all fun j=>!Cs j||F9 ops ops.size j i)&&RD ops Cs l (Ac.setIfInBounds i true)
def Ol (l:List Nat) (Ac:Array Bool):Array Bool:=l.foldl (fun s i=>s.setIfInBounds i true) Ac
def Q3 (ops:Array Oper):List Nat -> Array Bool -> Bool
 | [],Ac=>(Region.ready .any ops Ac).isEmpty
 | t::ts,Ac=>Region.ready .any ops Ac== [t]&&Q3 ops ts (Ac.setIfInBounds t true)
def RF (ops:Array Oper) (Cs:Nat -> Bool):List (List Nat×Nat) -> List Nat -> List Nat -> Array Bool -> Bool
 | [],Bm,tail,Ac=>RD ops Cs Bm Ac&&((List.range ops.size).all fun j=>Cs j||(Ol Bm Ac).getD j true)&&Q3 ops tail (Ol Bm Ac)
 | (Hl,i)::GL,Bm,tail,Ac=>RD ops Cs Hl Ac&&(Region.ready .any ops (Ol Hl Ac)== [i])&&RF ops Cs GL Bm tail ((Ol Hl Ac).setIfInBounds i true)
def XP:List (List Nat×Nat) -> List Nat -> Nat
 | [],Bm=>Bm.length
 | (Hl,_)::GL,Bm=>Hl.length+(1+XP GL Bm)
def ZJ (ops:Array Oper) (Ei:List (List Nat×Nat)) (Bm tail:List Nat):Bool:=
 Region.noSelect ops&&XP Ei Bm+tail.length==ops.size&&RF ops (fun j=>tail.contains j) Ei Bm tail (Array.replicate ops.size false)
theorem Yj {C:World -> Prop}: ∀ (l:List Oper) (a:Act) (K K':Act -> Prop),(∀ a,K a -> K' a) -> wpQuiet P ops C K l a -> wpQuiet P ops C K' l a
 | [],a,K,K',hk,h=>hk a h
 | o::l,a,K,K',hk,h=>by
  unfold wpQuiet at*
  by_cases hw:Region.wanted o (yielded ops a.tmps)=true
  ·rw [zAE hw] at h ⊢;exact Oper.quiet_mono (fun a h=>Yj l a K K' hk h) h
  ·rw [zBP hw] at h ⊢;exact Yj l _ K K' hk h
end
end Go.Proofs.YtekkngkphejfcaaGreatDoor
namespace Go.Proofs.YtekkngkphejfcaaGreatDoor
abbrev zBG:=@Array.getElem?_eq_some_iff
abbrev zBT:=@List.all_eq_true
abbrev zBc:=@List.mem_range
abbrev zBj:=@Nat.zero_add
abbrev zBm:=@List.mem_singleton
abbrev zDH:=@if_true
abbrev zE9:=@Array.getElem?_eq_getElem
abbrev zFF:=@List.length_nil
abbrev zFl:=@Array.mem_of_getElem?
abbrev zFo:=@if_false
abbrev zF9:=@Go.Oper.semAt_eq
abbrev zGD:=@Go.wpOpIn_mono
abbrev zGJ:=@Go.Act.put_comm
abbrev zGK:=@Ne.symm
end Go.Proofs.YtekkngkphejfcaaGreatDoor
namespace Go.Proofs.YtekkngkphejfcaaGreatDoor
open Go.RowKit
def EV (ops:Array Oper):Bool:=ops.all fun o=>match o.op with
 | .defer _=>false
 | _=>true
theorem Ii {ops:Array Oper} (h:EV ops=true) {j:Nat} {o:Oper} (hj:ops[j]? =some o): ∀ c,o.op≠.defer c:=by
 intro c hc;have hm:o∈ops:=zFl hj;have:=Array.all_eq_true'.1 h o hm;rw [hc] at this;cases this
section
variable {F:Fence} {n:Nat} {P:Program} {ops:Array Oper} {Q:Exit -> Act -> World -> Prop}
theorem Ul {S:World -> Prop} {i:Nat} {o:Oper} {v:Value} {a:Act} (hF: ∀ f,F.fn f) (hd: ∀ c,o.op≠.defer c) (hi:ops[i]? =some o) (hy:YieldsIf P ops S o v a)
 {K:Act -> World -> Prop} {w:World} (hS:S w) (h:K (a.put o.dst v) w):wpOpIn F n P ops Q i K a w:=by
 unfold Go.wpOpIn;simp only [hi];rcases hy with ⟨hw,hv⟩ | ⟨hw,rfl⟩
 ·simp only [hw,zDH,Oper.wpIn,zF9 _ _ _ hd,hv w hS,Oper.uponIn];exact ⟨fun f _=>hF f,h⟩
 ·simp only [hw,zCQ,zFo];exact ⟨fun f _=>hF f,h⟩
theorem fE {S:World -> Prop} {j:Nat} {oi oj:Oper} {v:Value} (hF: ∀ f,F.fn f) (nS: ∀ c,oj.op≠.defer c) (hj:ops[j]? =some oj) (cx:oi.apart ops oj=true)
 (zo: ∀ cs b,oi.op≠.select cs b) (zn: ∀ cs b,oj.op≠.select cs b)
 (hQ: ∀ c a w,Q (.panic c) (a.put oi.dst v) w -> Q (.panic c) a w) {K:Act -> World -> Prop} {a:Act} {w:World}
 (hy:YieldsIf P ops S oi v a) (h:wpOpIn F n P ops Q j K (a.put oi.dst v) w):
 wpOpIn F n P ops Q j (fun a' w'=>YieldsIf P ops S oi v a'/\ K (a'.put oi.dst v) w') a w:=by
 obtain ⟨h1,h2,h3⟩:=Oper.apart_spec cx
 have keep: ∀ (a:Act),YieldsIf P ops S oi v a -> ∀ u,YieldsIf P ops S oi v (a.put oj.dst u):=fun a hy u=>
  hy.of_same (execOp_put oi zo a oj.dst u h3) (wanted_put oi a oj.dst u h3)
 have yf: ∀ d,YieldsIf P ops S oi v { a with defers:=d::a.defers }:=fun d=>hy.of_same rfl rfl
 unfold wpOpIn at*;simp only [hj] at*;rw [wanted_put oj a oi.dst v h1] at h;split
 ·rename_i hw;simp only [hw,zDH] at h;unfold Oper.wpIn at*;refine ⟨fun f _=>hF f,?_⟩;have h:=h.2;rw [zF9 _ _ _ nS,execOp_put oj zn a oi.dst v h1] at h;rw [zF9 _ _ _ nS]
  generalize (execOp a.eval oj).run P w=r at*
  cases r with
  | ok x w'=>
   cases x <;> simp only [Oper.uponIn] at h ⊢
   case value u=>exact ⟨keep a hy u,by rw [←zGJ a v u h2];exact h⟩
   case skip=>exact ⟨keep a hy _,by rw [←zGJ a v undef h2];exact h⟩
   case defer d=>
    refine ⟨keep _ (yf d) _,?_⟩;rw [←zGJ _ v undef h2,←Act.put_defers];exact h
   case enter f args=>
    refine ⟨h.1,CallsIn.mono h.2 fun e CX he=>?_⟩;cases e with
    | returned u=>exact ⟨keep a hy u,by rw [←zGJ a v u h2];exact he⟩
    | panicked c=>exact hQ _ _ _ he
    | outgrown=>exact he
   case row row args=>exact ⟨h.1,RowsIn.mono h.2 fun u CX he=>⟨keep a hy u,by rw [←zGJ a v u h2];exact he⟩⟩
   case round l f tmps assign body=>
    refine ⟨h.1,RoundIn.mono h.2 fun e CX he=>?_⟩;cases e with
    | returned u=>exact ⟨keep a hy u,by rw [←zGJ a v u h2];exact he⟩
    | panicked c=>exact hQ _ _ _ he
    | outgrown=>exact he
  | halt x w'=>
   cases x <;> simp only [Oper.uponIn] at h ⊢
   case panic u=>exact hQ _ _ _ h
 ·rename_i hw;simp only [hw] at h;exact ⟨fun f _=>hF f,keep a hy _,by rw [←zGJ a v undef h2];exact h.2⟩
theorem fF {i:Nat} {K:Act -> World -> Prop} {a:Act} {w:World} (h:wpOpIn F n P ops (NP Q) i K a w):wpOpIn F n P ops Q i K a w:=by
 unfold wpOpIn at*;split
 ·rename_i ho;simp only [ho] at h;exact h
 ·rename_i o ho;simp only [ho] at h;have hl:LetsOut (NP Q) -> LetsOut Q:=fun ⟨a,w,h⟩=>⟨a,w,h⟩
  by_cases hw:Region.wanted o (yielded ops a.tmps)=true
  ·rw [zAE hw] at h ⊢;unfold Oper.wpIn at*;refine ⟨h.1,?_⟩;have h:=h.2
   generalize (o.semAt F.round a.eval).run P w=r at*
   cases r with
   | ok x w'=>
    cases x <;> simp only [Oper.uponIn] at h ⊢ <;> first | exact h | skip
    ·refine ⟨h.1,CallsIn.mono h.2 fun e CX he=>?_⟩;cases e with
     | returned v=>exact he
     | panicked c=>exact he.elim
     | outgrown=>exact hl he
    ·refine ⟨h.1,RoundIn.mono h.2 fun e CX he=>?_⟩;cases e with
     | returned v=>exact he
     | panicked c=>exact he.elim
     | outgrown=>exact hl he
   | halt x w'=>cases x <;> simp only [Oper.uponIn] at h ⊢;exact h.elim
  ·rw [zBP hw] at h ⊢;exact h
def J9 (F:Fence) (n:Nat) (P:Program) (ops:Array Oper) (Q:Exit -> Act -> World -> Prop) (Cs:Nat -> Bool) (g:Nat) (S:World -> Prop):Nat -> Array Bool -> Act -> World -> Prop
 | 0,Ac,a,w=>(∀ j,j<ops.size -> Cs j=false -> Ac.getD j true=true)/\ wpAnyIn F n P .any ops Q g Ac a w
 | m+1,Ac,a,w=>Region.ready .any ops Ac≠[]/\ ∀ i∈Region.ready .any ops Ac,wpOpIn F n P ops (NP Q) i (fun a' w'=>S w'/\ J9 F n P ops Q Cs g S m (Ac.setIfInBounds i true) a' w') a w
theorem fG {Cs:Nat -> Bool} {g:Nat} {S S':World -> Prop} (hS: ∀ w,S' w -> S w): ∀ (m:Nat) (Ac:Array Bool) (a:Act) (w:World),
 J9 F n P ops Q Cs g S' m Ac a w -> J9 F n P ops Q Cs g S m Ac a w
 | 0,_,_,_,h=>h
 | m+1,_,_,_,h=>⟨h.1,fun i hi=>zGD (fun _ _ h'=>⟨hS _ h'.1,fG hS m _ _ _ h'.2⟩) (h.2 i hi)⟩
theorem fI {Cs:Nat -> Bool} {g:Nat} {S:World -> Prop}: ∀ (m:Nat) (Ac:Array Bool) (a:Act) (w:World),J9 F n P ops Q Cs g S m Ac a w -> wpAnyIn F n P .any ops Q (m+g) Ac a w
 | 0,_,_,_,h=>by rw [zBj];exact h.2
 | m+1,_,_,_,h=>by
  rw [show m+1+g=(m+g)+1 by omega];exact ⟨fun h0=>absurd h0 h.1,fun i hi=>zGD (fun a' w' h'=>fI m _ a' w' h'.2) (fF (h.2 i hi))⟩
theorem fH (hF: ∀ f,F.fn f) (Av:EV ops=true) {Cs:Nat -> Bool} {g:Nat} {S:World -> Prop} {i k:Nat} {oi:Oper} {v:Value} (hi:ops[i]? =some oi) (TM: ∀ (j:Nat) (o:Oper) cs b,ops[j]? =some o -> o.op≠.select cs b)
 (hT: ∀ j,j<ops.size -> Cs j=true -> F9 ops k j i=true):
 ∀ (m:Nat) (Ac:Array Bool) (a:Act) (w:World),GX ops Ac ->
  (∀ j oj,ops[j]? =some oj -> j≠i -> Ac.getD j true=false -> (∀ e∈oj.after,Region.binds .any e=true -> e.on≠i) -> oi.apart ops oj=true) ->
  i∈Region.ready .any ops Ac -> YieldsIf P ops S oi v a -> S w ->
  J9 F n P ops Q Cs g S m (Ac.setIfInBounds i true) (a.put oi.dst v) w -> J9 F n P ops Q Cs g S (m+1) Ac a w:=by
 intro m
 induction m with
 | zero=>
  intro Ac a w BU _ hr hy hS H;have N6:=(zGI.1 hr).1;refine ⟨fun h=>(by rw [h] at hr;cases hr),fun j hj=>?_⟩
  by_cases En:j=i
  ·subst En;exact Ul hF (Ii Av hi) hi hy hS ⟨hS,H⟩
  ·exfalso
   obtain ⟨Js,oj,Fy,IA⟩:=zGI.1 hj;have Pz:=(zBG.1 Fy).1;cases ht:Cs j with
   | true=>
    have:=Yo BU k j i oj Fy IA (hT j Pz ht);rw [Xd N6] at this;cases this
   | false=>
    have:=H.1 j Pz ht;rw [getD_set_ne true (zGK En),Js] at this;cases this
 | succ m ih=>
  intro Ac a w BU TZ hr hy hS H;have N6:=(zGI.1 hr).1;refine ⟨fun h=>(by rw [h] at hr;cases hr),fun j hj=>?_⟩
  by_cases En:j=i
  ·subst En;exact Ul hF (Ii Av hi) hi hy hS ⟨hS,H⟩
  ·have h1:=H.2 j (ready_mono hj En);obtain ⟨Js,oj,Fy,IA⟩:=zGI.1 hj
   have cR: ∀ e∈oj.after,Region.binds .any e=true -> e.on≠i:=fun e he hb P0=>by
    have h1:=IA e he hb;rw [P0,Xd N6] at h1;cases h1
   have h2:=fE hF (Ii Av Fy) Fy (TZ j oj Fy En Js cR) (fun cs b=>TM i oi cs b hi) (fun cs b=>TM j oj cs b Fy) (fun c a w h=>NP.put c a _ _ w h) hy h1
   have zBk: ∀ k ok,ops[k]? =some ok -> k≠i -> (Ac.setIfInBounds j true).getD k true=false ->
    (∀ e∈ok.after,Region.binds .any e=true -> e.on≠i) -> oi.apart ops ok=true:=fun k ok hk TT Io Ir=>by
    refine TZ k ok hk TT ?_ Ir
    by_cases TV:j=k
    ·subst TV;exact Js
    ·rw [getD_set_ne true TV] at Io;exact Io
   refine zGD (fun a' w' h3=>⟨h3.2.1,ih (Ac.setIfInBounds j true) a' w' (BU.set hj) zBk (ready_mono hr (zGK En)) h3.1 h3.2.1 ?_⟩) h2;rw [Array.setIfInBounds_comm _ _ En];exact h3.2.2
def Og (F:Fence) (n:Nat) (P:Program) (ops:Array Oper) (Q:Exit -> Act -> World -> Prop):List Nat -> Act -> World -> Prop
 | [],a,w=>Q .normal a w
 | t::ts,a,w=>wpOpIn F n P ops Q t (Og F n P ops Q ts) a w
def Tb (F:Fence) (n:Nat) (P:Program) (ops:Array Oper) (Q:Exit -> Act -> World -> Prop):List (List Nat×Nat) -> List Nat -> List Nat -> Act -> World -> Prop
 | [],Bm,tail,a,w=>wpQuiet P ops (fun w'=>∃ x:Uh w,w'=x.W) (fun a'=>Og F n P ops Q tail a' w) (Ff ops Bm) a
 | (Hl,i)::GL,Bm,tail,a,w=>wpQuiet P ops (fun w'=>∃ x:Uh w,w'=x.W) (fun a'=>wpOpIn F n P ops (NP Q) i (fun Gw CX=>A4 w CX/\ Tb F n P ops Q GL Bm tail Gw CX) a' w) (Ff ops Hl) a
theorem f6: ∀ (tail:List Nat) (Ac:Array Bool) (a:Act) (w:World),Q3 ops tail Ac=true -> Og F n P ops Q tail a w -> wpAnyIn F n P .any ops Q tail.length Ac a w
 | [],Ac,a,w,hk,h=>⟨by simpa [Q3] using hk,h⟩
 | t::ts,Ac,a,w,hk,h=>by
  simp only [Q3,zBE,zBf] at hk;refine ⟨fun h0=>(by rw [hk.1] at h0;cases h0),fun i hi=>?_⟩;rw [hk.1,zBm] at hi;subst hi;exact zGD (fun a' w' h'=>f6 ts _ a' w' hk.2 h') h
theorem VA (hF: ∀ f,F.fn f) (Av:EV ops=true) {w:World} {Cs:Nat -> Bool} {g:Nat} (hs:Region.noSelect ops=true) {next:Act -> Prop} {m:Nat}:
 ∀ (l:List Nat) (Ac:Array Bool) (a:Act),GX ops Ac -> RD ops Cs l Ac=true -> wpQuiet P ops (Qj w) next (Ff ops l) a ->
  (∀ a',GX ops (Ol l Ac) -> next a' -> J9 F n P ops Q Cs g (A4 w) m (Ol l Ac) a' w) -> J9 F n P ops Q Cs g (A4 w) (l.length+m) Ac a w
 | [],Ac,a,BU,_,h,hn=>by
  simp only [zFF,zBj];exact hn a BU h
 | i::l,Ac,a,BU,hk,h,hn=>by
  simp only [RD,zBE] at hk;obtain ⟨⟨⟨⟨hr,hf⟩,hp⟩,hT⟩,Di⟩:=hk;have C7:i∈Region.ready .any ops Ac:=by simpa using hr
  have nf: ∀ j,j<ops.size -> Cs j=true -> F9 ops ops.size j i=true:=fun j hj ht=>by
   have:=zBT.1 hT j (zBc.2 hj);simpa [ht] using this
  have Ly:(i::l).length+m=(l.length+m)+1:=by simp;omega
  rw [Ly];cases hi:ops[i]? with
  | none=>rw [hi] at hp;simp at hp
  | some o=>
   rw [hi] at hp;simp only [Ff,hi] at h;unfold wpQuiet at h
   by_cases hw:Region.wanted o (yielded ops a.tmps)=true
   ·rw [zAE hw] at h;obtain ⟨v,h1,h2⟩:=h;exact fH hF Av hi (Region.noSelect_spec hs) nf _ Ac a w BU (Region.free_spec hi hf) C7 (qN hp hw h1) (A4.refl _) (VA hF Av hs l _ _ (BU.set C7) Di h2 hn)
   ·rw [zBP hw] at h;exact fH hF Av hi (Region.noSelect_spec hs) nf _ Ac a w BU (Region.free_spec hi hf) C7 (.inr ⟨by simpa using hw,rfl⟩) (A4.refl _) (VA hF Av hs l _ _ (BU.set C7) Di h hn)
theorem nQ (hF: ∀ f,F.fn f) (Av:EV ops=true) {Cs:Nat -> Bool} (hs:Region.noSelect ops=true):
 ∀ (Ei:List (List Nat×Nat)) (Bm tail:List Nat) (Ac:Array Bool) (a:Act) (w:World),GX ops Ac -> RF ops Cs Ei Bm tail Ac=true -> Tb F n P ops Q Ei Bm tail a w ->
  J9 F n P ops Q Cs tail.length (A4 w) (XP Ei Bm) Ac a w
 | [],Bm,tail,Ac,a,w,BU,hk,h=>by
  simp only [RF,zBE] at hk;obtain ⟨⟨h1,h2⟩,h3⟩:=hk
  have:=VA (m:=0) hF Av hs Bm Ac a BU h1 h (fun a' _ hq=>⟨fun j hj ht=>by
   have:=zBT.1 h2 j (zBc.2 hj);simpa [ht] using this,f6 tail _ a' w h3 hq⟩)
  simpa [XP] using this
 | (Hl,i)::GL,Bm,tail,Ac,a,w,BU,hk,h=>by
  simp only [RF,zBE,zBf] at hk;obtain ⟨⟨h1,h2⟩,h3⟩:=hk;refine VA hF Av hs Hl Ac a BU h1 h fun a' zBy hq=>?_
  rw [Nat.add_comm 1];refine ⟨fun h0=>(by rw [h2] at h0;cases h0),fun j hj=>?_⟩;have BI:=hj;rw [h2,zBm] at hj;subst hj;refine zGD (fun Gw CX h'=>⟨h'.1,?_⟩) hq;exact fG (fun W hW=>h'.1.trans hW) _ _ _ _ (nQ hF Av hs GL Bm tail _ Gw CX (zBy.set BI) h3 h'.2)
theorem qS {id:Nat} {a:Act} {w:World} (hF: ∀ f,F.fn f) (Ei:List (List Nat×Nat)) (Bm tail:List Nat) (hm:P.follows .mixedOrders=true) (hB:(ZJ ops Ei Bm tail&&EV ops)=true)
 (h:Tb F n P ops Q Ei Bm tail a w.drew):(Code.region id ops true).wpIn F n P Q a w:=by
 simp only [ZJ,zBE,zBf] at hB;obtain ⟨⟨⟨h1,h2⟩,h3⟩,h4⟩:=hB
 have BU:GX ops (Array.replicate ops.size false):=fun j oj _ hl=>by
  exfalso
  rcases zFQ j ops.size with h | h
  ·simp [h] at hl
  ·simp [h] at hl
 have:=fI _ _ _ _ (nQ hF h4 h1 Ei Bm tail _ a w.drew BU h3 h);rw [h2] at this;exact wpIn_region_any hm this
theorem f7: ∀ (tail:List Nat) (a:Act) (w:World),(∀ t∈tail,t<ops.size) -> wpListIn F n P ops Q (Ff ops tail) a w -> Og F n P ops Q tail a w
 | [],_,_,_,h=>h
 | t::ts,a,w,hl,h=>by
  have ht:ops[t]? =some (ops[t]'(hl t (by simp))):=zE9 _;simp only [Ff,ht] at h;unfold Og wpOpIn;simp only [ht];unfold wpListIn at h;have hm: ∀ a w,wpListIn F n P ops Q (Ff ops ts) a w -> Og F n P ops Q ts a w:=fun a w h=>f7 ts a w (fun t ht=>hl t (by simp [ht])) h
  by_cases hw:Region.wanted (ops[t]'(hl t (by simp))) (yielded ops a.tmps)=true
  ·rw [zAE hw] at h ⊢;exact Oper.wpIn_mono hm h
  ·rw [zBP hw] at h ⊢;exact ⟨h.1,hm _ _ h.2⟩
theorem zBp {Bm tail:List Nat} {a:Act} {w:World} (ht:(tail.all fun t=>decide (t<ops.size))=true)
 (h:wpQuiet P ops (fun w'=>∃ x:Uh w,w'=x.W) (fun a'=>wpListIn F n P ops Q (Ff ops tail) a' w) (Ff ops Bm) a):
 Tb F n P ops Q [] Bm tail a w:=by
 refine Yj _ _ _ _ (fun a' h=>?_) h;exact f7 tail a' w (fun t h=>by simpa using zBT.1 ht t h) h
end
end Go.Proofs.YtekkngkphejfcaaGreatDoor
namespace Go.Proofs.YtekkngkphejfcaaGreatDoor
abbrev zBO:=@Nat.le_trans
abbrev zBY:=@Nat.lt_of_lt_of_le
abbrev zCB:=@List.mem_cons
abbrev zCc:=@List.mem_of_getElem?
abbrev zFE:=@Go.World.putObj_heap_other
abbrev zF1:=@Go.wpIn_mono
abbrev zGY:=@Go.RowKit.Below.block
end Go.Proofs.YtekkngkphejfcaaGreatDoor
namespace Go.Proofs.YtekkngkphejfcaaGreatDoor
open Go.RowKit
structure AV (S:Nat -> Prop) (w w':World):Prop where
 os:w'.os=w.os
 tape:w'.tape=w.tape
 output:w'.output=w.output
 size:w.heap.size<=w'.heap.size
 block: ∀ k,k<w.heap.size -> ¬ S k -> w'.heap[k]? =w.heap[k]?
theorem AV.refl (S:Nat -> Prop) (w:World):AV S w w:=⟨rfl,rfl,rfl,zBa _,fun _ _ _=>rfl⟩
theorem AV.comp {S S':Nat -> Prop} {a b c:World} (h:AV S a b) (k:AV S' b c) (hs: ∀ i,i<a.heap.size -> S' i -> S i):AV S a c:=
 ⟨k.os.trans h.os,k.tape.trans h.tape,k.output.trans h.output,zBO h.size k.size,
  fun i hi hn=>(k.block i (zBY hi h.size) (fun hx=>hn (hs i hi hx))).trans (h.block i hi hn)⟩
theorem AV.trans {S:Nat -> Prop} {a b c:World} (h:AV S a b) (k:AV S b c):AV S a c:=h.comp k fun _ _ h=>h
theorem AV.mono {S S':Nat -> Prop} {a b:World} (h:AV S a b) (hs: ∀ i,i<a.heap.size -> S i -> S' i):AV S' a b:=
 ⟨h.os,h.tape,h.output,h.size,fun i hi hn=>h.block i hi fun hx=>hn (hs i hi hx)⟩
theorem AV.ofExt {S:Nat -> Prop} {a b:World} (h:A4 a b):AV S a b:=⟨Below.os h,Below.tape h,Below.output h,Below.size h,fun i hi _=>zGY h i hi⟩
theorem AV.toExt {S:Nat -> Prop} {a b:World} (h:AV S a b) (hs: ∀ i,i<a.heap.size -> ¬ S i):A4 a b:=⟨h.os,h.tape,h.output,h.size,fun i hi=>h.block i hi (hs i hi)⟩
theorem AV.alloc {S:Nat -> Prop} {a b:World} (h:AV S a b) (o:Obj):AV S a (b.alloc o):=h.trans (AV.ofExt (A4.alloc b o))
theorem AV.setCell {S:Nat -> Prop} {a b:World} (h:AV S a b) {p:Addr} (hp:p.block<a.heap.size -> S p.block) (u:Value):AV S a (b.setCell p u):=by
 refine h.comp (S':=fun k=>k=p.block) ⟨rfl,rfl,rfl,?_,fun k _ hk=>?_⟩ (fun i hi e=>by cases e;exact hp hi)
 ·show b.heap.size<=(b.heap.modify _ _).size
  rw [Array.size_modify];exact zBa _
 ·exact Below.heap_setCell b p u k hk
theorem AV.putObj {S:Nat -> Prop} {a b:World} (h:AV S a b) {l:Nat} (hl:l<a.heap.size -> S l) (o:Obj):AV S a (b.putObj l o):=by
 refine h.comp (S':=fun k=>k=l) ⟨rfl,rfl,rfl,by simp,fun k _ hk=>zFE hk⟩ (fun i hi e=>by cases e;exact hl hi)
theorem AV.cell {S:Nat -> Prop} {a b:World} (h:AV S a b) {p:Addr} {u:Value} (hs: ¬ S p.block) (hc:a.cell? p=some u):b.cell? p=some u:=by
 rw [World.cell?_of_block (h.block p.block (zFS a p hc) hs)];exact hc
def FB (I:(Nat -> Prop) -> World -> Prop):Prop:=
 ∀ (G G':Nat -> Prop) (A B:World),I G A -> AV G A B -> (∀ k,G' k -> G k∨A.heap.size<=k) -> (∀ k,G' k -> k<B.heap.size) -> I G' B
def VR (Keep:Nat -> Prop) (I:World -> Prop) (Ix:Code -> World -> Prop) (W:World):Exit -> Act -> World -> Prop
 | .normal,_,W'=>AV (fun k=>¬ Keep k) W W'/\ I W'
 | .ret,_,W'=>AV (fun k=>¬ Keep k) W W'/\ Ix .ret W'
 | .exit id,_,W'=>AV (fun k=>¬ Keep k) W W'/\ Ix (.exit id) W'
 | .goto t,_,W'=>AV (fun k=>¬ Keep k) W W'/\ Ix (.goto t) W'
 | .panic _,_,_=>False
 | .outgrown,_,_=>False
def JI (P:Program) (g:Nat) (lb:Array Value) (encs:List (Array Value)) (G0 Rd:Nat -> Prop) (w:World):Prop:=
 ∀ (l:Nat) (J:Nat -> (Nat -> Prop) -> World -> Prop) (Jx:(Nat -> Prop) -> World -> Prop) (G:Nat -> Prop) (W:World),
  (∀ i,FB (J i)) -> FB Jx -> AV (fun k=>¬ (G0 k∨Rd k)) w W -> (∀ k,G0 k -> G k) -> (∀ k,G k -> k<W.heap.size) ->
  (∀ i args G W1,encs[i]? =some args -> J i G W1 -> YieldAt Fence.wide 0 P l args W1 fun e W'=>
   AV (fun k=>¬ (G k∨Rd k)) W1 W'/\ ((e= .returned (.bool true)/\ J (i+1) G W')∨(e= .returned (.bool false)/\ Jx G W'))) ->
  J 0 G W ->
  CallsIn Fence.wide 0 P g (#[.func (.yield l) #[] #[]]++lb) W fun e W'=>(∃ v,e= .returned v)/\ ((∃ G',J encs.length G' W')∨(∃ G',Jx G' W'))
section
variable {P:Program}
theorem jC {ps:Array Tmp} {assign body:Code} {a:Act} {gf:Nat} {lb:Array Value} {encs:List (Array Value)} {G0 Rd:Nat -> Prop} {w0 W1:World} {l D dd:Nat} {fn:FuncId} {loose:Bool}
 (hseq:JI P gf lb encs G0 Rd w0) (hb0:AV (fun k=>¬ (G0 k∨Rd k)) w0 W1) (J0: ∀ k,G0 k -> k<l/\ k≠D) (Jy: ∀ k,Rd k -> k≠l) (D6: ∀ x∈encs,x.size=ps.size)
 (Az:LoopState -> Option Code -> Loop) (Cf: ∀ st pe,Az st pe= { state:=st,pending:=pe,fn,tmps:=a.tmps,params:=ps,assign,body,defers:=dd })
 (F1:W1.heap[l]? =some (.loop (Az .ready none))) (hD1:loose=false -> W1.heap[D]? =some (.deferred (some []))) (nA:D≠l)
 (I:Nat -> (Nat -> Prop) -> World -> Prop) (Ix:Code -> (Nat -> Prop) -> World -> Prop) (hI: ∀ i,FB (I i)) (Jz: ∀ c,FB (Ix c)) (own:Nat -> Prop) (Kp: ∀ k,own k -> k=l∨(loose=false/\ k=D)) (HK:own l) (XI:loose=false -> own D)
 (h0:I 0 (fun k=>G0 k∨own k) W1)
 (Dh: ∀ (G:Nat -> Prop) (i:Nat) (x:Array Value) (W:World),encs[i]? =some x -> I i G W -> (∃ r,W.heap[l]? =some (.loop r)) -> G l ->
  assign.wpIn (Fence.wide.inRound l) 0 P (Exit.then (fun a₁ W₁=>∃ K:(Nat -> Prop) -> World -> Prop,FB K/\ AV (fun k=>¬ (G k∨Rd k)) W W₁/\ K G W₁/\ ∀ W₂,K G W₂ -> (∃ r,W₂.heap[l]? =some (.loop r)) ->
   body.wpIn (Fence.wide.inRound l) 0 P (VR (fun k=>G k∨Rd k) (I (i+1) G) (fun c=>Ix c G) W₂) a₁ W₂) (fun _ _ _=>False)) { tmps:=(ps.zip x).foldl (fun t (p,v)=>t.setIfInBounds p v) a.tmps,defers:=[] } W):
 CallsIn Fence.wide 0 P gf (#[.func (.yield l) #[] #[]]++lb) W1 fun e W2=>(∃ v,e= .returned v)/\
  ((∃ G,I encs.length G W2/\ (∀ k,G k -> k<W2.heap.size)/\ G l/\ (loose=false -> G D)/\ W2.heap[l]? =some (.loop (Az .ready none))/\ (loose=false -> W2.heap[D]? =some (.deferred (some []))))∨
   (∃ c G,Ix c G W2/\ (∀ k,G k -> k<W2.heap.size)/\ G l/\ (loose=false -> G D)/\ W2.heap[l]? =some (.loop (Az .done (some c)))/\ (loose=false -> W2.heap[D]? =some (.deferred (some []))))):=by
 have nG: ∀ (G G':Nat -> Prop) (A:World) (k:Nat) (o:Obj),¬ G k -> A.heap[k]? =some o -> (∀ k,G' k -> G k∨A.heap.size<=k) -> ¬ G' k:=fun G G' A k o hn hk hg hx=>by
  have AP:=(zBG.1 hk).1;rcases hg k hx with h | h
  ·exact hn h
  ·omega
 have kept: ∀ (G:Nat -> Prop) (A B:World) (k:Nat) (o:Obj),¬ G k -> A.heap[k]? =some o -> AV G A B -> B.heap[k]? =some o:=fun G A B k o hn hk hu=>
  (hu.block k (zBG.1 hk).1 hn).trans hk
 have DC: ∀ (Φ:(Nat -> Prop) -> World -> Prop) (r:Loop),FB Φ -> FB (fun G W=>Φ (fun k=>G k∨own k) W/\ ¬ G l/\ (loose=false -> ¬ G D)/\ W.heap[l]? =some (.loop r)/\ (loose=false -> W.heap[D]? =some (.deferred (some [])))/\ ∀ k,G k -> k<W.heap.size):=by
  intro Φ r hΦ G G' A B ⟨h1,h2,h3,h4,h5,h6⟩ hu hg Eo;refine ⟨hΦ _ _ A B h1 (hu.mono fun i _ h=>.inl h) (fun k hk=>?_) (fun k hk=>hk.elim (Eo k) fun ho=>zBY ((Kp k ho).elim (fun e=>e▸(zBG.1 h4).1) (fun e=>e.2▸(zBG.1 (h5 e.1)).1)) hu.size),nG G G' A l _ h2 h4 hg,fun hl=>nG G G' A D _ (h3 hl) (h5 hl) hg,kept G A B l _ h2 h4 hu,fun hl=>kept G A B D _ (h3 hl) (h5 hl) hu,Eo⟩;rcases hk with hk | hk
  ·exact (hg k hk).imp .inl id
  ·exact .inl (.inr hk)
 refine (hseq l
  (fun i G W=>I i (fun k=>G k∨own k) W/\ ¬ G l/\ (loose=false -> ¬ G D)/\ W.heap[l]? =some (.loop (Az .ready none))/\ (loose=false -> W.heap[D]? =some (.deferred (some [])))/\ ∀ k,G k -> k<W.heap.size)
  (fun G W=>∃ c,Ix c (fun k=>G k∨own k) W/\ ¬ G l/\ (loose=false -> ¬ G D)/\ W.heap[l]? =some (.loop (Az .done (some c)))/\ (loose=false -> W.heap[D]? =some (.deferred (some [])))/\ ∀ k,G k -> k<W.heap.size)
  G0 W1 (fun i=>DC (I i) _ (hI i)) (fun G G' A B ⟨c,h⟩ hu hg Eo=>⟨c,DC (Ix c) _ (Jz c) G G' A B h hu hg Eo⟩) hb0 (fun _ h=>h) (fun k h=>Nat.lt_trans (J0 k h).1 (zBG.1 F1).1) ?_
  ⟨h0,fun h=>by have:=(J0 l h).1;omega,fun _ h=>(J0 D h).2 rfl,F1,hD1,fun k h=>Nat.lt_trans (J0 k h).1 (zBG.1 F1).1⟩).mono ?_
 ·rintro i x G W hx ⟨hi,F0,Av,hl,hd,Eo⟩;have No:x∈encs:=zCc hx;have AP:l<W.heap.size:=(zBG.1 hl).1;have C8: ∀ k,(G k∨own k) -> k<W.heap.size:=fun k hk=>hk.elim (Eo k) fun ho=>(Kp k ho).elim (fun e=>e▸AP) (fun e=>e.2▸(zBG.1 (hd e.1)).1)
  have hy:=run_yield (P:=P) (args:=x) hl (by rw [Cf];exact D6 x No);rw [Cf] at hy;refine ⟨fn,_,assign,body,hy,roundIn_of_wpIn trivial (zF1 (Dh _ i x W hx hi ⟨_,hl⟩ (.inr HK)) ?_)⟩;rintro e a1 IJ hq;cases e <;> first | exact hq.elim | skip
  obtain ⟨K,hK,HJ,hk1,hb⟩:=hq;have W7:AV (fun k=>¬ (G k∨Rd k)) W IJ:=HJ.mono fun k _ h hx=>h (hx.imp .inl id)
  have hl:=(HJ.block l AP (fun h=>h (.inl (.inr HK)))).trans hl;have hd:loose=false -> IJ.heap[D]? =some (.deferred (some [])):=fun h=>(HJ.block D (zBG.1 (hd h)).1 (fun hx=>hx (.inl (.inr (XI h))))).trans (hd h)
  have AP:l<IJ.heap.size:=zBY AP HJ.size;have Eo: ∀ k,G k -> k<IJ.heap.size:=fun k h=>zBY (Eo k h) HJ.size
  have C8: ∀ k,(G k∨own k) -> k<IJ.heap.size:=fun k h=>zBY (C8 k h) HJ.size
  refine ⟨_,run_beginRound hl (by rw [Cf]),?_⟩;have Ch:(IJ.putObj l (.loop { Az .ready none with state:=.busy })).heap[l]? =some (.loop { Az .ready none with state:=.busy }):=World.putObj_heap_same AP;have hd2:loose=false -> (IJ.putObj l (.loop { Az .ready none with state:=.busy })).heap[D]? =some (.deferred (some [])):=fun h=>(zFE nA).trans (hd h)
  have H4:AV (fun k=>G k∨own k) IJ (IJ.putObj l (.loop { Az .ready none with state:=.busy })):=(AV.refl _ IJ).putObj (fun _=>.inr HK) _;refine zF1 (hb _ (hK _ _ _ _ hk1 H4 (fun k h=>.inl h) (fun k h=>zBY (C8 k h) H4.size)) ⟨_,Ch⟩) ?_
  have fin: ∀ (Fw:Option Code) (W3:World),AV (fun k=>¬ ((G k∨own k)∨Rd k)) (IJ.putObj l (.loop { Az .ready none with state:=.busy })) W3 ->
   (Instr.endRound l Fw).run P W3= .ok (.bool Fw.isNone) (W3.putObj l (.loop (Az (if Fw.isNone then .ready else .done) Fw)))/\
   W3.heap[l]? =some (.loop { Az .ready none with state:=.busy })/\
   (W3.putObj l (.loop (Az (if Fw.isNone then .ready else .done) Fw))).heap[l]? =some (.loop (Az (if Fw.isNone then .ready else .done) Fw))/\
   (loose=false -> (W3.putObj l (.loop (Az (if Fw.isNone then .ready else .done) Fw))).heap[D]? =some (.deferred (some [])))/\
   AV (fun k=>¬ (G k∨Rd k)) IJ (W3.putObj l (.loop (Az (if Fw.isNone then .ready else .done) Fw)))/\
   AV (fun k=>G k∨own k) W3 (W3.putObj l (.loop (Az (if Fw.isNone then .ready else .done) Fw))):=fun Fw W3 Du=>by
   have N4:W3.heap[l]? =some (.loop { Az .ready none with state:=.busy }):=(Du.block l (by simpa using AP) (fun h=>h (.inl (.inr HK)))).trans Ch;have:=run_endRound (P:=P) Fw N4;refine ⟨by rw [Cf] at this ⊢;exact this,N4,World.putObj_heap_same (zBG.1 N4).1,fun h=>(zFE nA).trans ((Du.block D ?_ (fun hx=>hx (.inl (.inr (XI h))))).trans (hd2 h)),?_,(AV.refl _ W3).putObj (fun _=>.inr HK) _⟩
   ·simpa using (zBG.1 (hd h)).1
   ·refine ⟨Du.os,Du.tape,Du.output,by simpa using Du.size,fun k hk hn=>?_⟩;have nq:G k∨Rd k:=Classical.not_not.1 hn
    by_cases Bv:k=l
    ·subst Bv;exact (nq.elim F0 (fun h=>Jy k h rfl)).elim
    ·rw [zFE Bv,Du.block k (by simpa using hk) (fun hx=>hx (nq.imp .inl id)),zFE Bv]
  rintro e a3 W3 hp;cases e with
  | normal=>
   obtain ⟨Du,N8⟩:=hp;obtain ⟨hr,N4,Nz,OE,Nt,GS⟩:=fin none W3 Du;exact ⟨_,_,hr,W7.comp Nt (fun _ _ h=>h),.inl ⟨rfl,hI _ _ _ _ _ N8 GS (fun k h=>.inl h) (fun k h=>zBY (C8 k h) (zBO H4.size (zBO Du.size GS.size))),F0,Av,Nz,OE,fun k h=>zBY (Eo k h) (zBO H4.size (zBO Du.size GS.size))⟩⟩
  | ret=>
   obtain ⟨Du,N8⟩:=hp;obtain ⟨hr,N4,Nz,OE,Nt,GS⟩:=fin (some .ret) W3 Du;exact ⟨_,_,hr,W7.comp Nt (fun _ _ h=>h),.inr ⟨rfl,.ret,Jz _ _ _ _ _ N8 GS (fun k h=>.inl h) (fun k h=>zBY (C8 k h) (zBO H4.size (zBO Du.size GS.size))),F0,Av,Nz,OE,fun k h=>zBY (Eo k h) (zBO H4.size (zBO Du.size GS.size))⟩⟩
  | exit id=>
   obtain ⟨Du,N8⟩:=hp;obtain ⟨hr,N4,Nz,OE,Nt,GS⟩:=fin (some (.exit id)) W3 Du;exact ⟨_,_,hr,W7.comp Nt (fun _ _ h=>h),.inr ⟨rfl,.exit id,Jz _ _ _ _ _ N8 GS (fun k h=>.inl h) (fun k h=>zBY (C8 k h) (zBO H4.size (zBO Du.size GS.size))),F0,Av,Nz,OE,fun k h=>zBY (Eo k h) (zBO H4.size (zBO Du.size GS.size))⟩⟩
  | goto t=>
   obtain ⟨Du,N8⟩:=hp;obtain ⟨hr,N4,Nz,OE,Nt,GS⟩:=fin (some (.goto t)) W3 Du;exact ⟨_,_,hr,W7.comp Nt (fun _ _ h=>h),.inr ⟨rfl,.goto t,Jz _ _ _ _ _ N8 GS (fun k h=>.inl h) (fun k h=>zBY (C8 k h) (zBO H4.size (zBO Du.size GS.size))),F0,Av,Nz,OE,fun k h=>zBY (Eo k h) (zBO H4.size (zBO Du.size GS.size))⟩⟩
  | panic ch=>exact hp.elim
  | outgrown=>exact hp.elim
 ·have ob: ∀ (G:Nat -> Prop) (W2:World) (r:Loop),W2.heap[l]? =some (.loop r) -> (loose=false -> W2.heap[D]? =some (.deferred (some []))) -> (∀ k,G k -> k<W2.heap.size) -> ∀ k,(G k∨own k) -> k<W2.heap.size:=fun G W2 r h4 h5 h6 k hk=>
   hk.elim (h6 k) fun ho=>(Kp k ho).elim (fun e=>e▸(zBG.1 h4).1) (fun e=>e.2▸(zBG.1 (h5 e.1)).1)
  rintro e W2 ⟨hv,(⟨G,h1,h2,h3,h4,h5,h6⟩ | ⟨G,c,h1,h2,h3,h4,h5,h6⟩)⟩
  ·exact ⟨hv,.inl ⟨_,h1,ob _ _ _ h4 h5 h6,.inr HK,fun h=>.inr (XI h),h4,h5⟩⟩
  ·exact ⟨hv,.inr ⟨c,_,h1,ob _ _ _ h4 h5 h6,.inr HK,fun h=>.inr (XI h),h4,h5⟩⟩
theorem qU {g:Operand} {ps:Array Tmp} {assign body:Code} {Q:Exit -> Act -> World -> Prop} {a:Act} {w:World}
 {gf:Nat} {lb:Array Value} (hg:a.eval g= .func (.func gf) #[] lb) (eg: ∀ args w,(callFunc gf args).run P w= .ok (.enter gf args) w)
 {encs:List (Array Value)} {G0 Rd:Nat -> Prop} (hseq:JI P gf lb encs G0 Rd w) (J0: ∀ k,G0 k -> k<w.heap.size) (Jy: ∀ k,Rd k -> k<w.heap.size) (D6: ∀ x∈encs,x.size=ps.size)
 (I:Nat -> (Nat -> Prop) -> World -> Prop) (Ix:Code -> (Nat -> Prop) -> World -> Prop) (hI: ∀ i,FB (I i)) (Jz: ∀ c,FB (Ix c)) (h0:I 0 G0 w)
 (Dh: ∀ (l:Nat) (G:Nat -> Prop) (i:Nat) (x:Array Value) (W:World),encs[i]? =some x -> I i G W -> (∃ r,W.heap[l]? =some (.loop r)) -> G l ->
  assign.wpIn (Fence.wide.inRound l) 0 P (Exit.then (fun a₁ W₁=>∃ K:(Nat -> Prop) -> World -> Prop,FB K/\ AV (fun k=>¬ (G k∨Rd k)) W W₁/\ K G W₁/\ ∀ W₂,K G W₂ -> (∃ r,W₂.heap[l]? =some (.loop r)) ->
   body.wpIn (Fence.wide.inRound l) 0 P (VR (fun k=>G k∨Rd k) (I (i+1) G) (fun c=>Ix c G) W₂) a₁ W₂) (fun _ _ _=>False)) { tmps:=(ps.zip x).foldl (fun t (p,v)=>t.setIfInBounds p v) a.tmps,defers:=[] } W)
 (EZ: ∀ (D:Nat) (G:Nat -> Prop) (W:World),I encs.length G W -> W.heap[D]? =some (.deferred (some [])) -> G D -> w.heap.size<=D ->
  Q .normal { a with defers:={ target:=.collected D,args:=#[] }::a.defers } W)
 (Pm: ∀ (D:Nat) (c:Code) (G:Nat -> Prop) (W:World),Ix c G W -> W.heap[D]? =some (.deferred (some [])) -> G D -> w.heap.size<=D ->
  c.wpIn Fence.wide 0 P Q { a with defers:={ target:=.collected D,args:=#[] }::a.defers } W):
 (Code.rangeFunc g ps assign body).wpIn Fence.wide 0 P Q a w:=by
 refine wpIn_rangeFunc ?_;intro fn _;have Lv:(w.alloc (.deferred (some []))).heap.size=w.heap.size+1:=World.size_alloc _ _;obtain ⟨Az,Cf⟩: ∃ Az:LoopState -> Option Code -> Loop,∀ st pe,Az st pe= { state:=st,pending:=pe,fn,tmps:=a.tmps,params:=ps,assign,body,defers:=w.heap.size }:=⟨_,fun _ _=>rfl⟩;obtain ⟨W1,Iz⟩: ∃ W1,(w.alloc (.deferred (some []))).alloc (.loop (Az .ready none))=W1:=⟨_,rfl⟩
 have Fm:W1.heap[w.heap.size+1]? =some (.loop (Az .ready none)):=by
  rw [←Iz];have:=World.alloc_heap_new (w.alloc (.deferred (some []))) (.loop (Az .ready none));rwa [World.size_alloc] at this
 have hK1:W1.heap[w.heap.size]? =some (.deferred (some [])):=by
  rw [←Iz];exact (Below.heap_alloc _ _ _ (by simp)).trans (World.alloc_heap_new w _)
 have hu: ∀ S,AV S w W1:=fun S=>by rw [←Iz];exact ((AV.refl S w).alloc _).alloc _
 refine ⟨w.heap.size+1,[{ target:=.collected w.heap.size,args:=#[] }],W1,{ target:=.fn (.func gf) lb,args:=#[.func (.yield (w.heap.size+1)) #[] #[]] },W1,gf,
  #[.func (.yield (w.heap.size+1)) #[] #[]]++lb,W1,?_,?_,fun _ _=>trivial,?_,(fun h=>by cases h),?_⟩
 ·rw [←Iz,Cf];exact run_enterLoop_outer _ _ _ _ _
 ·simp only [resolve,hg];simp [go_sem]
 ·simp [invoke,go_sem,eg]
 ·refine (jC (loose:=false) (D:=w.heap.size) hseq (hu _) (fun k h=>by have:=J0 k h;omega) (fun k h=>by have:=Jy k h;omega) D6 Az Cf Fm (fun _=>hK1) (by omega)
   I Ix hI Jz (fun k=>k=w.heap.size+1∨k=w.heap.size) (fun k h=>h.imp id fun h=>⟨rfl,h⟩) (.inl rfl) (fun _=>.inr rfl)
   (hI 0 _ _ _ _ h0 (hu _) (fun k h=>h.imp id (by omega)) (fun k h=>by have h2:=(zBG.1 Fm).1;rcases h with h | h | h <;> first | omega | (have:=J0 k h;omega))) (Dh _)).mono ?_
  rintro e W2 ⟨⟨v,rfl⟩,(⟨G,hi,Eo,_,cc,hl,hk⟩ | ⟨c,G,hi,Eo,Cv,cc,hl,hk⟩)⟩
  ·exact ⟨none,_,by have:=run_endLoop (P:=P) hl (by rw [Cf];simp);rw [Cf] at this;exact this,
    EZ _ _ _ (hI _ _ _ _ _ hi ((AV.refl _ W2).putObj (fun _=>by assumption) _) (fun k h=>.inl h) (fun k h=>by simpa using Eo k h)) ((zFE (by omega)).trans (hk rfl)) (cc rfl) (zBa _)⟩
  ·exact ⟨some c,_,by have:=run_endLoop (P:=P) hl (by rw [Cf];simp);rw [Cf] at this;exact this,
    Pm _ c _ _ (Jz _ _ _ _ _ hi ((AV.refl _ W2).putObj (fun _=>Cv) _) (fun k h=>.inl h) (fun k h=>by simpa using Eo k h)) ((zFE (by omega)).trans (hk rfl)) (cc rfl) (zBa _)⟩
theorem qV {l0:Nat} {g:Operand} {ps:Array Tmp} {assign body:Code} {Q:Exit -> Act -> World -> Prop} {a:Act} {w:World}
 {gf:Nat} {lb:Array Value} (hg:a.eval g= .func (.func gf) #[] lb) (eg: ∀ args w,(callFunc gf args).run P w= .ok (.enter gf args) w) (N5: ∃ r,w.heap[l0]? =some (.loop r))
 {encs:List (Array Value)} {G0 Rd:Nat -> Prop} (hseq:JI P gf lb encs G0 Rd w) (J0: ∀ k,G0 k -> k<w.heap.size) (Jy: ∀ k,Rd k -> k<w.heap.size) (D6: ∀ x∈encs,x.size=ps.size)
 (I:Nat -> (Nat -> Prop) -> World -> Prop) (Ix:Code -> (Nat -> Prop) -> World -> Prop) (hI: ∀ i,FB (I i)) (Jz: ∀ c,FB (Ix c)) (h0:I 0 G0 w)
 (Dh: ∀ (l:Nat) (G:Nat -> Prop) (i:Nat) (x:Array Value) (W:World),encs[i]? =some x -> I i G W -> (∃ r,W.heap[l]? =some (.loop r)) -> G l ->
  assign.wpIn (Fence.wide.inRound l) 0 P (Exit.then (fun a₁ W₁=>∃ K:(Nat -> Prop) -> World -> Prop,FB K/\ AV (fun k=>¬ (G k∨Rd k)) W W₁/\ K G W₁/\ ∀ W₂,K G W₂ -> (∃ r,W₂.heap[l]? =some (.loop r)) ->
   body.wpIn (Fence.wide.inRound l) 0 P (VR (fun k=>G k∨Rd k) (I (i+1) G) (fun c=>Ix c G) W₂) a₁ W₂) (fun _ _ _=>False)) { tmps:=(ps.zip x).foldl (fun t (p,v)=>t.setIfInBounds p v) a.tmps,defers:=[] } W)
 (EZ: ∀ (G:Nat -> Prop) (W:World),I encs.length G W -> Q .normal a W)
 (Pm: ∀ (c:Code) (G:Nat -> Prop) (W:World),Ix c G W -> c.wpIn (Fence.wide.inRound l0) 0 P Q a W):
 (Code.rangeFunc g ps assign body).wpIn (Fence.wide.inRound l0) 0 P Q a w:=by
 refine wpIn_rangeFunc ?_;intro fn _;obtain ⟨r0,C6⟩:=N5;obtain ⟨Az,Cf⟩: ∃ Az:LoopState -> Option Code -> Loop,∀ st pe,Az st pe= { state:=st,pending:=pe,fn,tmps:=a.tmps,params:=ps,assign,body,defers:=r0.defers }:=⟨_,fun _ _=>rfl⟩;obtain ⟨W1,Iz⟩: ∃ W1,w.alloc (.loop (Az .ready none))=W1:=⟨_,rfl⟩
 have Fm:W1.heap[w.heap.size]? =some (.loop (Az .ready none)):=by
  rw [←Iz];exact World.alloc_heap_new w _
 have hu: ∀ S,AV S w W1:=fun S=>by rw [←Iz];exact (AV.refl S w).alloc _
 refine ⟨w.heap.size,[],W1,{ target:=.fn (.func gf) lb,args:=#[.func (.yield w.heap.size) #[] #[]] },W1,gf,
  #[.func (.yield w.heap.size) #[] #[]]++lb,W1,?_,?_,fun _ _=>trivial,?_,(fun h=>by cases h),?_⟩
 ·rw [←Iz,Cf];exact run_enterLoop_inner C6 _ _ _ _ _
 ·simp only [resolve,hg];simp [go_sem]
 ·simp [invoke,go_sem,eg]
 ·refine CallsIn.inRound _ ((jC (loose:=true) (D:=w.heap.size+1) (G0:=G0) hseq (hu _) (fun k h=>by have:=J0 k h;omega) (fun k h=>by have:=Jy k h;omega) D6 Az Cf Fm (fun h=>by cases h) (by omega)
   I Ix hI Jz (fun k=>k=w.heap.size) (fun k h=>.inl h) rfl (fun h=>by cases h)
   (hI 0 _ _ _ _ h0 (hu _) (fun k h=>h.imp id (by omega)) (fun k h=>by have h2:=(zBG.1 Fm).1;rcases h with h | h <;> first | omega | (have:=J0 k h;omega))) (Dh _)).mono ?_)
  rintro e W2 ⟨⟨v,rfl⟩,(⟨G,hi,Eo,Cv,_,hl,_⟩ | ⟨c,G,hi,Eo,Cv,_,hl,_⟩)⟩
  ·exact ⟨none,_,by have:=run_endLoop (P:=P) hl (by rw [Cf];simp);rw [Cf] at this;exact this,
    EZ _ _ (hI _ _ _ _ _ hi ((AV.refl _ W2).putObj (fun _=>Cv) _) (fun k h=>.inl h) (fun k h=>by simpa using Eo k h))⟩
  ·exact ⟨some c,_,by have:=run_endLoop (P:=P) hl (by rw [Cf];simp);rw [Cf] at this;exact this,
    Pm c _ _ (Jz _ _ _ _ _ hi ((AV.refl _ W2).putObj (fun _=>Cv) _) (fun k h=>.inl h) (fun k h=>by simpa using Eo k h))⟩
end
def Ee (B:Nat):List Deferred -> World -> Prop
 | [],_=>True
 | d::ds,w=>∃ D,d= { target:=.collected D,args:=#[] }/\ B<=D/\ w.heap[D]? =some (.deferred (some []))/\ (∀ d'∈ds,d'.target≠.collected D)/\ Ee B ds w
theorem Ee.upd {B:Nat} {S:Nat -> Prop} {w w':World} (hu:AV S w w'): ∀ {ds:List Deferred},Ee B ds w -> (∀ k,B<=k -> S k -> w.heap[k]? ≠some (.deferred (some []))) -> Ee B ds w'
 | [],_,_=>trivial
 | _::_,⟨D,h1,h2,h3,h4,h5⟩,hs=>⟨D,h1,h2,(hu.block D (zBG.1 h3).1 (fun hx=>hs D h2 hx h3)).trans h3,h4,Ee.upd hu h5 hs⟩
theorem Ee.lt {B:Nat} {w:World}: ∀ {ds:List Deferred} (_:Ee B ds w) {d:Deferred} {D:Nat},d∈ds -> d.target= .collected D -> D<w.heap.size
 | _::_,⟨D,h1,h2,h3,h4,h5⟩,d,D',hm,ht=>by
  rcases zCB.1 hm with rfl | hm
  ·subst h1;cases ht;exact (zBG.1 h3).1
  ·exact Ee.lt h5 hm ht
def Uf (B:Nat) (w W:World):Prop:=AV (fun k=>B<=k/\ w.heap[k]? =some (.deferred (some []))) w W
def we (B:Nat) (P:Program) (fn:Func) (R:Ending -> World -> Prop):Exit -> Act -> World -> Prop
 | .normal,a,w | .ret,a,w=>Ee B a.defers w/\ ∀ W,Uf B w W -> ∃ v,(results fn a.tmps).run P W= .ok v W/\ R (.returned v) W
 | _,_,_=>False
theorem lv {B:Nat} {P:Program} {fn:Func} {tmps:Array Value} {R:Ending -> World -> Prop}: ∀ (ds:List Deferred) (w:World),Ee B ds w ->
 (∀ W,Uf B w W -> ∃ v,(results fn tmps).run P W= .ok v W/\ R (.returned v) W) -> LeavesInM Fence.wide 0 P fn tmps R ds .returning w
 | [],w,_,h=>h w (AV.refl _ w)
 | _::ds,w,⟨D,h1,h2,h3,h4,h5⟩,h=>by
  refine ⟨by simp,.inl ⟨D,_,by rw [h1],run_takeDeferred h3,?_⟩⟩;have hu:AV (fun k=>k=D) w (w.putObj D (.deferred none)):=(AV.refl (fun k=>k=D) w).putObj (fun _=>rfl) _
  have AY: ∀ {ds:List Deferred},(∀ d'∈ds,d'.target≠.collected D) -> Ee B ds w -> Ee B ds (w.putObj D (.deferred none)):=by
   intro ds
   induction ds with
   | nil=>intro _ _;trivial
   | cons d ds ih=>
    intro hd ⟨D',g1,g2,g3,g4,g5⟩;refine ⟨D',g1,g2,?_,g4,ih (fun d' hm=>hd d' (by simp [hm])) g5⟩;rw [zFE (fun e=>hd d (by simp) (by rw [g1,e]))];exact g3
  refine lv ds _ (AY h4 h5) fun W hW=>h W ?_
  refine hu.mono (S':=fun k=>B<=k/\ w.heap[k]? =some (.deferred (some []))) (fun i _ e=>by cases e;exact ⟨h2,h3⟩) |>.comp hW fun i hi hx=>⟨hx.1,?_⟩
  by_cases e:i=D
  ·rw [e];exact h3
  ·rw [←zFE (o:=.deferred none) e];exact hx.2
theorem zD5 (B:Nat) {P:Program} {f:FuncId} {fn:Func} {c:Code} {args:Array Value} {w:World} {R:Ending -> World -> Prop}
 (hf:P.funcs[f]? =some fn) (hb:fn.body=some c)
 (h:c.wp P (we B P fn R) { tmps:=args++Array.replicate (fn.ntmps-args.size) undef,defers:=[] } w):Calls P f args w R:=by
 refine (callsIn_wide (n:=0)).1 (callsIn_of_wp_marks hf hb trivial ?_);refine zF1 (wpIn_wide.2 h) fun e a' w' hq=>?_
 cases e <;> first | exact lv _ _ hq.1 hq.2 | exact hq.elim
end Go.Proofs.YtekkngkphejfcaaGreatDoor
namespace Go.Proofs.YtekkngkphejfcaaGreatDoor
abbrev u8:=@List.getD_eq_getElem?_getD
abbrev zBN:=@List.getElem?_eq_some_iff
abbrev zBo:=@List.length_set
abbrev zBq:=@List.getElem?_append_left
abbrev zCF:=@List.getElem?_append_right
abbrev zCP:=@List.getElem?_eq_none
abbrev zCb:=@List.getElem?_set
abbrev zFK:=@Array.getD_eq_getD_getElem?
abbrev zFO:=@Array.getElem?_setIfInBounds
abbrev zGb:=@Nat.lt_trichotomy
end Go.Proofs.YtekkngkphejfcaaGreatDoor
namespace Go.Proofs.YtekkngkphejfcaaGreatDoor
open Go.RowKit
inductive DV where
 | any
 | nils
 | int (k:IntKind) (n:Int)
 | bool (b:Bool)
 | str (s:ByteArray)
 | ints (l:List Int)
 | bools (l:List Bool)
 | sl (m n:Nat) (f:Nat -> Nat -> DV)
 | fp (m:Nat) (f:Nat -> DV)
 | agg (m:Nat) (f:Nat -> DV)
 | tup (m:Nat) (f:Nat -> DV)
 | ref (k j:Nat)
 | msl (k m off n:Nat)
 | mp (k m i j:Nat)
 | fn (g:Nat) (m:Nat) (c:Nat -> DV)
 | it (k:Nat)
 | yl (l:Nat)
 | mse (k m off n:Nat)
 | mri (k i:Nat)
 | cst (u:Value)
structure AN where
 blk:Nat
 off:Nat
 room:Nat
 val:Value
 foot:Nat -> Prop
def Ga (m:Nat) (f:Nat -> DV):Nat -> DV:=fun j=>((List.range m).map f).getD j .any
theorem U1 {m:Nat} {f:Nat -> DV} {j:Nat} (h:j<m):Ga m f j=f j:=by simp [Ga,h]
def LB:Nat:=140737488355328
def AQ (M:Nat -> Prop) (w:World):DV -> List AN -> Value -> Prop
 | .any,_,_=>True
 | .nils,_,v=>v= .slice none 0 0
 | .int k n,_,v=>v= .int k n
 | .bool b,_,v=>v= .bool b
 | .str s,_,v=>v= .string s
 | .ints l,_,v=>∃ (a:Option Addr) (cap:Nat),v= .slice a l.length cap/\ l.length<=cap/\ l.length<=LB/\
  ∀ j,j<l.length -> ∃ b o,a=some ⟨b,o,none⟩/\ ¬ M b/\ w.cell? ⟨b,o+j,none⟩=some (.int .i64 (l.getD j 0))
 | .bools l,_,v=>∃ (a:Option Addr) (cap:Nat),v= .slice a l.length cap/\ l.length<=cap/\ l.length<=LB/\
  ∀ j,j<l.length -> ∃ b o,a=some ⟨b,o,none⟩/\ ¬ M b/\ w.cell? ⟨b,o+j,none⟩=some (.bool (l.getD j false))
 | .sl m n f,_,v=>∃ (a:Option Addr) (cap:Nat),v= .slice a n cap/\ n<=cap/\ n<=LB/\
  ∀ i j,i<n -> j<m -> ∃ b o u,a=some ⟨b,o,none⟩/\ ¬ M b/\ w.cell? ⟨b,o+(i*m+j),none⟩=some u/\ AQ M w (f i j) [] u
 | .fp m f,_,v=>∃ b o,v= .pointer (some ⟨b,o,none⟩)/\ ∀ j,j<m -> ¬ M b/\ ∃ u,w.cell? ⟨b,o+j,none⟩=some u/\ AQ M w (f j) [] u
 | .agg m f,ρ,v=>∃ cs,v= .agg cs/\ cs.size=m/\ ∀ j,j<m -> ∃ u,cs[j]? =some u/\ AQ M w (f j) ρ u
 | .tup m f,ρ,v=>∃ cs,v= .tuple cs/\ cs.size=m/\ ∀ j,j<m -> ∃ u,cs[j]? =some u/\ AQ M w (f j) ρ u
 | .ref k j,ρ,v=>∃ p:AN,ρ[k]? =some p/\ v= .pointer (some ⟨p.blk,p.off+j,none⟩)
 | .msl k m off n,ρ,v=>∃ (p:AN) (cap:Nat),ρ[k]? =some p/\ v= .slice (some ⟨p.blk,p.off+off*m,none⟩) n cap/\ n<=cap/\ n<=LB/\ p.off+off*m+cap*m<=p.room
 | .mp k m i j,ρ,v=>∃ p:AN,ρ[k]? =some p/\ v= .pointer (some ⟨p.blk,p.off+(i*m+j),none⟩)
 | .fn g m c,ρ,v=>∃ lb,v= .func (.func g) #[] lb/\ lb.size=m/\ ∀ j,j<m -> ∃ u,lb[j]? =some u/\ AQ M w (c j) ρ u
 | .it k,ρ,v=>∃ p:AN,ρ[k]? =some p/\ v=p.val
 | .yl l,_,v=>v= .func (.yield l) #[] #[]
 | .cst u,_,v=>v=u/\ u.oneCell'=true
 | .mri k i,ρ,v=>∃ (p:AN) (vs:Array Value),ρ[k]? =some p/\ p.val= .tuple vs/\ vs[i]? =some v
 | .mse k m off n,ρ,v=>∃ (p:AN) (a:Option Addr) (cap:Nat),ρ[k]? =some p/\ v= .slice a n cap/\ n<=cap/\ n<=LB/\ (0<cap -> a=some ⟨p.blk,p.off+off*m,none⟩/\ p.off+off*m+cap*m<=p.room)
theorem zIO {M:Nat -> Prop} {w:World} {ρ:List AN} {m:Nat} {f:Nat -> DV} {j:Nat} {v:Value} (h:j<m) (hr:AQ M w (f j) ρ v):AQ M w (Ga m f j) ρ v:=by rw [U1 h];exact hr
def Ag (w:World) (p:AN) (n:Nat) (R:Nat -> Value -> Prop):Prop:=
 p.foot=(fun b=>b=p.blk)/\ ∃ cs t,w.heap[p.blk]? =some (.cells cs t (0,0))/\ p.off+n<=cs.size/\ p.room<=cs.size/\ ∀ j,j<n -> ∃ u,cs[p.off+j]? =some u/\ R j u
/-! ### Rows that an object owns-/
def J3 (w:World) (F:Nat -> Prop) (u:Value) (L:List Int):Prop:=
 (L= []/\ u= .slice none 0 0)∨∃ (q:AN) (cap:Nat),u= .slice (some ⟨q.blk,q.off,none⟩) L.length cap/\ L.length<=cap/\ q.off+cap<=q.room/\ L.length<=LB/\ F q.blk/\ Ag w q L.length fun j x=>x= .int .i64 (L.getD j 0)
def Fa:Value -> Option Nat
 | .slice (some a) _ _=>some a.block
 | _=>none
theorem J3.blk {w:World} {F:Nat -> Prop} {u:Value} {L:List Int} {b:Nat} (h:J3 w F u L) (hb:Fa u=some b):F b/\ b<w.heap.size:=by
 rcases h with ⟨_,rfl⟩ | ⟨q,cap,rfl,_,_,_,h5,_,cs,t,h6,_⟩
 ·cases hb
 ·cases hb;exact ⟨h5,(zBG.1 h6).1⟩
theorem J3.out {w w':World} {F F':Nat -> Prop} {u:Value} {L:List Int} (h:J3 w F u L) (hb: ∀ b,F b -> Fa u=some b -> b<w.heap.size -> w'.heap[b]? =w.heap[b]?) (hF: ∀ b,F b -> Fa u=some b -> F' b):J3 w' F' u L:=by
 rcases h with h | ⟨q,cap,h1,h2,h3,h4,h5,h6⟩
 ·exact .inl h
 ·refine .inr ⟨q,cap,h1,h2,h3,h4,hF _ h5 (by rw [h1];rfl),?_⟩;obtain ⟨g1,cs,t,g2,g3⟩:=h6;exact ⟨g1,cs,t,(hb _ h5 (by rw [h1];rfl) (zBG.1 g2).1).trans g2,g3⟩
structure Ed (w:World) (p:AN) (f:Int -> List Int) (DU:Option (Int×List Int×Bool)) (u:Value) (es:Array MapEntry) (Ad:Nat):Prop where
 val:p.val= .tuple #[Value.map (some p.blk),u]
 blk:w.heap[p.blk]? =some (.map es Ad)
 own:p.foot p.blk
 key: ∀ e∈es.toList,∃ k,e.key= .int .i64 k/\ ((∀ L,DU≠some (k,L,true)) -> J3 w (fun b=>p.foot b/\ b≠p.blk) e.val (f k))
 no: ∀ k,(∀ e∈es.toList,e.key≠.int .i64 k) -> f k= []
 nd:(es.toList.map (·.key)).Nodup
 apart: ∀ e∈es.toList,∀ e'∈es.toList,∀ b,Fa e.val=some b -> Fa e'.val=some b -> e.key=e'.key
 born: ∀ e∈es.toList,e.born<Ad
 stamps:(es.toList.map (·.born)).Nodup
 inHand: ∀ k L g,DU=some (k,L,g) -> J3 w (fun b=>p.foot b/\ b≠p.blk) u L/\ ∀ e∈es.toList,∀ b,Fa u=some b -> Fa e.val=some b -> e.key= .int .i64 k
theorem Ed.out {w w':World} {p:AN} {f:Int -> List Int} {DU:Option (Int×List Int×Bool)} {u:Value} {es:Array MapEntry} {Ad:Nat} (h:Ed w p f DU u es Ad) (hb: ∀ b,p.foot b -> b<w.heap.size -> w'.heap[b]? =w.heap[b]?):Ed w' p f DU u es Ad:=
 { h with
  blk:=(hb _ h.own (zBG.1 h.blk).1).trans h.blk
  key:=fun e he=>let ⟨k,h1,h2⟩:=h.key e he;⟨k,h1,fun hh=>(h2 hh).out (fun b hf _ hl=>hb b hf.1 hl) fun _ h _=>h⟩
  inHand:=fun k L g e=>let ⟨h1,h2⟩:=h.inHand k L g e;⟨h1.out (fun b hf _ hl=>hb b hf.1 hl) fun _ h _=>h,h2⟩ }
/-! ### Maps:sets of keys-/
abbrev KS:=List (List Int)
def BH:List Int -> Value
 | [a]=>.int .i64 a
 | l=>.agg (l.map fun a=>.int .i64 a).toArray
theorem mG: ∀ {a b:List Int},BH a=BH b -> a=b:=by
 have ai: ∀ {l m:List Int},(l.map fun a=>Value.int .i64 a).toArray=(m.map fun a=>Value.int .i64 a).toArray -> l=m:=fun {l m} h=>by
  have h:=Array.toList_inj.2 h;simp only at h;exact List.map_inj_right (fun x y e=>by cases e;rfl) |>.1 h
 intro a b h
 match a,b with
 | [x],[y]=>cases h;rfl
 | [],[]=>rfl
 | [x],[]=>cases h
 | [],[y]=>cases h
 | [x],y::y'::m=>cases h
 | x::x'::l,[y]=>cases h
 | x::x'::l,[]=>exact ai (Value.agg.inj h)
 | [],y::y'::m=>exact ai (Value.agg.inj h)
 | x::x'::l,y::y'::m=>exact ai (Value.agg.inj h)
structure Ez (w:World) (b n:Nat) (l:KS) (es:Array MapEntry) (Ad:Nat):Prop where
 blk:w.heap[b]? =some (.map es Ad)
 keys:(es.toList.map (·.key)).Perm (l.map BH)
 nd:l.Nodup
 len: ∀ y∈l,y.length=n
 tru: ∀ e∈es.toList,e.val= .bool true
 born: ∀ e∈es.toList,e.born<Ad
 stamps:(es.toList.map (·.born)).Nodup
theorem Ez.out {w w':World} {b n:Nat} {l:KS} {es:Array MapEntry} {Ad:Nat} (h:Ez w b n l es Ad) (hb:w'.heap[b]? =w.heap[b]?):Ez w' b n l es Ad:={ h with blk:=hb.trans h.blk }
inductive MX where
 | set (n:Nat) (l:KS)
 | sets (n:Nat) (ls:List (Option KS)) (lk:Option (Nat×Nat×Array MapEntry×Nat))
 | mit (n mb:Nat) (es:Array MapEntry) (Ad:Nat) (rem:KS) (Et:Option (List Int))
 | rows (f:Int -> List Int) (DU:Option (Int×List Int×Bool))
structure FC (w:World) (p:AN) (n:Nat) (ls:List (Option KS)) (lk:Option (Nat×Nat×Array MapEntry×Nat)) (vs:Array Value):Prop where
 val:p.val= .tuple vs
 size:vs.size=ls.length
 row: ∃ cs t,w.heap[p.blk]? =some (.cells cs t (0,0))/\ p.off+ls.length<=cs.size/\ p.room<=cs.size/\ ∀ j,j<ls.length -> cs[p.off+j]? =vs[j]?
 blk:p.foot p.blk
 has: ∀ (j:Nat) (l:KS),ls[j]? =some (some l) -> ∃ b:Nat,vs[j]? =some (Value.map (some b))/\ b≠p.blk/\ p.foot b/\ ∃ es Ad,Ez w b n l es Ad/\ ∀ x,lk=some x -> x.1=j -> x.2=(b,es,Ad)
 nil: ∀ (j:Nat),ls[j]? =some none -> vs[j]? =some (Value.map none)
 foot: ∀ b,p.foot b -> b=p.blk∨∃ (j:Nat) (l:KS),ls[j]? =some (some l)/\ vs[j]? =some (Value.map (some b))
 inj: ∀ (i j b:Nat),vs[i]? =some (Value.map (some b)) -> vs[j]? =some (Value.map (some b)) -> i=j
theorem FC.out {w w':World} {p:AN} {n:Nat} {ls:List (Option KS)} {lk:Option (Nat×Nat×Array MapEntry×Nat)} {vs:Array Value} (h:FC w p n ls lk vs) (hb: ∀ b,p.foot b -> b<w.heap.size -> w'.heap[b]? =w.heap[b]?):FC w' p n ls lk vs:=by
 have at_: ∀ {b o},p.foot b -> w.heap[b]? =some o -> w'.heap[b]? =some o:=fun {b o} hf ho=>(hb b hf (zBG.1 ho).1).trans ho
 refine { h with row:=?_,has:=fun j l hl=>?_ }
 ·obtain ⟨cs,t,h1,h2⟩:=h.row;exact ⟨cs,t,at_ h.blk h1,h2⟩
 ·obtain ⟨b,h1,h2,h3,es,Ad,h4,h5⟩:=h.has j l hl;exact ⟨b,h1,h2,h3,es,Ad,{ h4 with blk:=at_ h3 h4.blk },h5⟩
def MY (w:World) (p:AN):MX -> Prop
 | .set n l=>p.val=Value.map (some p.blk)/\ p.foot=(fun b=>b=p.blk)/\ ∃ es Ad,Ez w p.blk n l es Ad
 | .sets n ls lk=>∃ vs,FC w p n ls lk vs
 | .mit n mb es Ad rem Et=>(∀ x,(x∈rem∨Et=some x) -> x.length=n)/\ p.val= .pointer (some ⟨p.blk,0,none⟩)/\ p.foot=(fun b=>b=p.blk)/\ ∃ seen,w.heap[p.blk]? =some (.mapIter (some mb) Ad seen Ad)/\ ((leftOf es seen).toList.map (·.key)).Perm (rem.map BH)/\
  ∀ x,Et=some x -> ∃ e∈es.toList,e.key=BH x/\ seen.back? =some e.born
 | .rows f DU=>∃ u es Ad,Ed w p f DU u es Ad
theorem MY.out {w w':World} {p:AN}: ∀ {x:MX},MY w p x -> (∀ b,p.foot b -> b<w.heap.size -> w'.heap[b]? =w.heap[b]?) -> MY w' p x
 | .set n l,⟨h1,h2,es,Ad,h3⟩,hb=>⟨h1,h2,es,Ad,h3.out (hb _ (by rw [h2]) (zBG.1 h3.blk).1)⟩
 | .sets n ls lk,⟨vs,h⟩,hb=>⟨vs,h.out hb⟩
 | .rows f DU,⟨u,es,Ad,h⟩,hb=>⟨u,es,Ad,h.out hb⟩
 | .mit n mb es Ad rem Et,⟨h0,h1,h2,seen,h3,h4⟩,hb=>⟨h0,h1,h2,seen,(hb _ (by rw [h2]) (zBG.1 h3).1).trans h3,h4⟩
inductive DO where
 | cells (l:List DV)
 | ints (l:List Int)
 | bools (l:List Bool)
 | arr (m n:Nat) (f:Nat -> Nat -> DV)
 | iter (encs:List (Array Value))
 | mo (x:MX)
abbrev DH:=List (Option DO)
def MO (h:DH) (ρ:List AN) (b:Nat):Prop:=∃ (k:Nat) (o:DO) (p:AN),h[k]? =some (some o)/\ ρ[k]? =some p/\ p.foot b
def MS (N:Nat -> Prop) (h:DH) (ρ:List AN) (b:Nat):Prop:=N b∨MO h ρ b
def DD (P:Program) (M:Nat -> Prop) (w:World) (ρ:List AN) (p:AN):DO -> Prop
 | .cells l=>Ag w p l.length fun j u=>AQ M w (l.getD j .any) ρ u
 | .ints l=>Ag w p l.length fun j u=>u= .int .i64 (l.getD j 0)
 | .bools l=>Ag w p l.length fun j u=>u= .bool (l.getD j false)
 | .arr m n f=>Ag w p (n*m) fun j u=>AQ M w (f (j/m) (j % m)) [] u
 | .iter encs=>∃ gf lb Rd,(p.val= .func (.func gf) #[] lb/\ ∀ args W,(callFunc gf args).run P W= .ok (.enter gf args) W)/\ JI P gf lb encs p.foot Rd w/\ (∀ b,Rd b -> ¬ M b/\ b<w.heap.size)/\ ∀ b,p.foot b -> b<w.heap.size
 | .mo x=>MY w p x
def nR:Obj -> Bool
 | .cells .. =>true
 | .map .. =>true
 | .mapIter .. =>true
 | _=>false
abbrev EG (w:World) (b:Nat):Prop:=∃ (c:Obj) (_:nR c=true) (_:Unit),w.heap[b]? =some c
theorem EG.cells {w:World} {b:Nat} {c:Array Value} {t:TypeId} {z:Nat×Nat} (h:w.heap[b]? =some (.cells c t z)):EG w b:=⟨_,rfl,(),h⟩
structure A6 where
 ng:Nat
 gi:World -> Prop
 st: ∀ w w',gi w -> AV (fun b=>ng<=b) w w' -> gi w'
 lo: ∀ w,gi w -> ng<=w.heap.size
structure BX (P:Program) (Γ:A6) (N:Nat -> Prop) (h:DH) (ρ:List AN) (w:World):Prop where
 len:ρ.length=h.length
 obj: ∀ (k:Nat) (o:DO),h[k]? =some (some o) -> ∃ p:AN,ρ[k]? =some p/\ DD P (MS N h ρ) w ρ p o
 cel: ∀ (k:Nat) (o:DO) (p:AN) (b:Nat),h[k]? =some (some o) -> ρ[k]? =some p -> p.foot b -> Γ.ng<=b/\ ¬ N b/\ EG w b
 dis: ∀ (k k':Nat) (o o':DO) (p p':AN) (b:Nat),k≠k' -> h[k]? =some (some o) -> h[k']? =some (some o') -> ρ[k]? =some p -> ρ[k']? =some p' -> p.foot b -> p'.foot b -> False
 nlt: ∀ b,N b -> b<w.heap.size/\ Γ.ng<=b
 gi:Γ.gi w
structure St where
 fr:List DV
 h:DH
def CG (M:Nat -> Prop) (w:World) (ρ:List AN) (fr:List DV) (t:Array Value):Prop:=
 fr.length=t.size/\ ∀ i,i<fr.length -> AQ M w (fr.getD i .any) ρ (t.getD i undef)
structure An (P:Program) (Γ:A6) (N:Nat -> Prop) (S:St) (ρ:List AN) (a:Act) (w:World):Prop where
 hr:BX P Γ N S.h ρ w
 fr:CG (MS N S.h ρ) w ρ S.fr a.tmps
structure BL (h:DH) (ρ:List AN) (w:World) (h':DH) (ρ':List AN) (w':World):Prop where
 upd:AV (MO h ρ) w w'
 grow: ∀ b,MO h' ρ' b -> MO h ρ b∨w.heap.size<=b
theorem BL.refl (h:DH) (ρ:List AN) (w:World):BL h ρ w h ρ w:=⟨AV.refl _ _,fun _ h=>.inl h⟩
theorem BL.trans {h h' Tj:DH} {ρ ρ' ρ'':List AN} {w w' CX:World} (x:BL h ρ w h' ρ' w') (y:BL h' ρ' w' Tj ρ'' CX):BL h ρ w Tj ρ'' CX:=
 ⟨x.upd.comp y.upd fun i hi hm=>(x.grow i hm).resolve_right (by omega),fun b hb=>(y.grow b hb).elim (fun h=>x.grow b h) (fun h=>.inr (zBO x.upd.size h))⟩
structure Ew (h:DH) (ρ:List AN) (w:World) (h':DH) (ρ':List AN) (w':World):Prop where
 st:BL h ρ w h' ρ' w'
 pl: ∀ (k:Nat) (p:AN),ρ[k]? =some p -> ρ'[k]? =some p
theorem Ew.refl (h:DH) (ρ:List AN) (w:World):Ew h ρ w h ρ w:=⟨BL.refl _ _ _,fun _ _ h=>h⟩
theorem Ew.trans {h h' Tj:DH} {ρ ρ' ρ'':List AN} {w w' CX:World} (x:Ew h ρ w h' ρ' w') (y:Ew h' ρ' w' Tj ρ'' CX):Ew h ρ w Tj ρ'' CX:=
 ⟨x.st.trans y.st,fun k p hk=>y.pl k p (x.pl k p hk)⟩
structure Ba (M:Nat -> Prop) (w:World) (ρ:List AN) (M':Nat -> Prop) (w':World) (ρ':List AN):Prop where
 blk: ∀ b,b<w.heap.size -> ¬ M b -> (∃ c t z,w.heap[b]? =some (.cells c t z)) -> w'.heap[b]? =w.heap[b]?
 m: ∀ b,M' b -> M b∨w.heap.size<=b
 pl: ∀ (k:Nat) (p:AN),ρ[k]? =some p -> ρ'[k]? =some p
theorem zD2 {w:World} {b o:Nat} {u:Value} (h:w.cell? ⟨b,o,none⟩=some u): ∃ c t z,w.heap[b]? =some (.cells c t z):=by
 unfold World.cell? at h;split at h
 ·exact ⟨_,_,_,by assumption⟩
 ·cases h
theorem Ba.nil {M M':Nat -> Prop} {w w':World} {ρ ρ':List AN} (h:Ba M w ρ M' w' ρ'):Ba M w [] M' w' []:=⟨h.blk,h.m,fun k p hk=>by simp at hk⟩
theorem pL {w w':World} {b o:Nat} (h:w'.heap[b]? =w.heap[b]?):w'.cell? ⟨b,o,none⟩=w.cell? ⟨b,o,none⟩:=by
 unfold World.cell?;rw [h]
theorem Ba.cell {M M':Nat -> Prop} {w w':World} {ρ ρ':List AN} (h:Ba M w ρ M' w' ρ') {b o:Nat} {u:Value} (hM: ¬ M b) (hc:w.cell? ⟨b,o,none⟩=some u):w'.cell? ⟨b,o,none⟩=some u/\ ¬ M' b:=by
 have AP:b<w.heap.size:=zFS w ⟨b,o,none⟩ hc;exact ⟨(pL (h.blk b AP hM (zD2 hc))).trans hc,fun hm=>(h.m b hm).elim hM (by omega)⟩
theorem AQ.out {M M':Nat -> Prop} {w w':World}: ∀ (d:DV) {ρ ρ':List AN} {v:Value},Ba M w ρ M' w' ρ' -> AQ M w d ρ v -> AQ M' w' d ρ' v:=by
 intro d
 induction d with
 | any=>intros;trivial
 | nils=>intro ρ ρ' v _ h;exact h
 | int k n=>intro ρ ρ' v _ h;exact h
 | bool b=>intro ρ ρ' v _ h;exact h
 | str s=>intro ρ ρ' v _ h;exact h
 | ints l=>
  rintro ρ ρ' v H ⟨a,cap,e,h1,h2,h3⟩;refine ⟨a,cap,e,h1,h2,fun j hj=>?_⟩;obtain ⟨b,o,ha,hM,hc⟩:=h3 j hj;obtain ⟨g1,g2⟩:=H.cell hM hc;exact ⟨b,o,ha,g2,g1⟩
 | bools l=>
  rintro ρ ρ' v H ⟨a,cap,e,h1,h2,h3⟩;refine ⟨a,cap,e,h1,h2,fun j hj=>?_⟩;obtain ⟨b,o,ha,hM,hc⟩:=h3 j hj;obtain ⟨g1,g2⟩:=H.cell hM hc;exact ⟨b,o,ha,g2,g1⟩
 | sl m n f ih=>
  rintro ρ ρ' v H ⟨a,cap,e,h1,h2,h3⟩;refine ⟨a,cap,e,h1,h2,fun i j hi hj=>?_⟩;obtain ⟨b,o,u,ha,hM,hc,hr⟩:=h3 i j hi hj;obtain ⟨g1,g2⟩:=H.cell hM hc;exact ⟨b,o,u,ha,g2,g1,ih i j H.nil hr⟩
 | fp m f ih=>
  rintro ρ ρ' v H ⟨b,o,e,h⟩;refine ⟨b,o,e,fun j hj=>?_⟩;obtain ⟨hM,u,hc,hr⟩:=h j hj;obtain ⟨g1,g2⟩:=H.cell hM hc;exact ⟨g2,u,g1,ih j H.nil hr⟩
 | agg m f ih=>
  rintro ρ ρ' v H ⟨cs,e,hs,h⟩;exact ⟨cs,e,hs,fun j hj=>let ⟨u,h1,h2⟩:=h j hj;⟨u,h1,ih j H h2⟩⟩
 | tup m f ih=>
  rintro ρ ρ' v H ⟨cs,e,hs,h⟩;exact ⟨cs,e,hs,fun j hj=>let ⟨u,h1,h2⟩:=h j hj;⟨u,h1,ih j H h2⟩⟩
 | ref k j=>rintro ρ ρ' v H ⟨p,h,e⟩;exact ⟨p,H.pl _ _ h,e⟩
 | msl k m off n=>rintro ρ ρ' v H ⟨p,cap,h,r⟩;exact ⟨p,cap,H.pl _ _ h,r⟩
 | mp k m i j=>rintro ρ ρ' v H ⟨p,h,e⟩;exact ⟨p,H.pl _ _ h,e⟩
 | fn g m c ih=>
  rintro ρ ρ' v H ⟨cs,e,hs,h⟩;exact ⟨cs,e,hs,fun j hj=>let ⟨u,h1,h2⟩:=h j hj;⟨u,h1,ih j H h2⟩⟩
 | it k=>rintro ρ ρ' v H ⟨p,h,e⟩;exact ⟨p,H.pl _ _ h,e⟩
 | yl l=>intro ρ ρ' v _ h;exact h
 | mse k m off n=>rintro ρ ρ' v H ⟨p,a,cap,h,r⟩;exact ⟨p,a,cap,H.pl _ _ h,r⟩
 | mri k i=>rintro ρ ρ' v H ⟨p,vs,h,r⟩;exact ⟨p,vs,H.pl _ _ h,r⟩
 | cst u=>intro ρ ρ' v _ h;exact h
theorem CG.out {M M':Nat -> Prop} {w w':World} {ρ ρ':List AN} {fr:List DV} {t:Array Value} (h:CG M w ρ fr t) (H:Ba M w ρ M' w' ρ'):CG M' w' ρ' fr t:=
 ⟨h.1,fun i hi=>(h.2 i hi).out _ H⟩
theorem CG.at {M:Nat -> Prop} {w:World} {ρ:List AN} {fr:List DV} {t:Array Value} (h:CG M w ρ fr t) (i:Nat):AQ M w (fr.getD i .any) ρ (t.getD i undef):=by
 rcases zFQ i fr.length with hi | hi
 ·exact h.2 i hi
 ·have:fr.getD i .any= .any:=by rw [u8,zCP hi];rfl
  rw [this];trivial
theorem CG.set {M:Nat -> Prop} {w:World} {ρ:List AN} {fr:List DV} {t:Array Value} (h:CG M w ρ fr t) (i:Nat) {d:DV} {v:Value} (hv:AQ M w d ρ v):CG M w ρ (fr.set i d) (t.setIfInBounds i v):=by
 refine ⟨by simp [h.1],fun j hj=>?_⟩;rw [zBo] at hj;have BI:j<t.size:=by rw [←h.1];exact hj
 have h0:=h.2 j hj;simp only [u8,zFK,zCb,zFO] at h0 ⊢
 by_cases e:i=j
 ·subst e;simp [hj,BI,hv]
 ·rw [zBP e,zBP e];exact h0
theorem JI.later {P:Program} {g:Nat} {lb:Array Value} {encs:List (Array Value)} {G0 Rd:Nat -> Prop} {w w':World} (h:JI P g lb encs G0 Rd w) {S:Nat -> Prop} (hu:AV S w w') (hs: ∀ b,b<w.heap.size -> S b -> ¬ (G0 b∨Rd b)):JI P g lb encs G0 Rd w':=
 fun l J Jx G W h1 h2 h3=>h l J Jx G W h1 h2 (hu.mono (fun i hi hx=>hs i hi hx) |>.trans h3)
theorem Ag.out {w w':World} {p:AN} {n:Nat} {R R':Nat -> Value -> Prop} (h:Ag w p n R) (hb:w'.heap[p.blk]? =w.heap[p.blk]?) (hR: ∀ j u,j<n -> R j u -> R' j u):Ag w' p n R':=by
 obtain ⟨h1,cs,t,h2,h3,h4,h5⟩:=h;exact ⟨h1,cs,t,hb.trans h2,h3,h4,fun j hj=>let ⟨u,g1,g2⟩:=h5 j hj;⟨u,g1,hR j u hj g2⟩⟩
theorem Ag.cell {w:World} {p:AN} {n:Nat} {R:Nat -> Value -> Prop} (h:Ag w p n R) {j:Nat} (hj:j<n): ∃ u,w.cell? ⟨p.blk,p.off+j,none⟩=some u/\ R j u:=by
 obtain ⟨h1,cs,t,h2,h3,h4,h5⟩:=h;obtain ⟨u,g1,g2⟩:=h5 j hj;exact ⟨u,by unfold World.cell?;simp [h2,g1],g2⟩
theorem Ag.frozen {w:World} {p:AN} {n:Nat} {R:Nat -> Value -> Prop} (h:Ag w p n R) (o:Nat):w.frozen? ⟨p.blk,o,none⟩=false:=by
 obtain ⟨h1,cs,t,h2,_⟩:=h;unfold World.frozen?;simp [h2]
theorem DD.out {P:Program} {M M':Nat -> Prop} {w w':World} {ρ ρ':List AN} {p:AN} {o:DO} (h:DD P M w ρ p o) (H:Ba M w ρ M' w' ρ') {S:Nat -> Prop} (hu:AV S w w') (hS: ∀ b,S b -> M b) (hf: ∀ b,b<w.heap.size -> p.foot b -> ¬ S b):DD P M' w' ρ' p o:=by
 have hb: ∀ {n R},Ag w p n R -> w'.heap[p.blk]? =w.heap[p.blk]? :=fun {n R} hr=>by
  obtain ⟨h1,cs,t,h2,_⟩:=hr;have AP:=(zBG.1 h2).1;exact hu.block _ AP (hf _ AP (by rw [h1]))
 cases o with
 | cells l=>exact Ag.out h (hb h) fun j u _ hr=>AQ.out _ H hr
 | ints l=>exact Ag.out h (hb h) fun j u _ hr=>hr
 | bools l=>exact Ag.out h (hb h) fun j u _ hr=>hr
 | arr m n f=>exact Ag.out h (hb h) fun j u _ hr=>AQ.out _ H.nil hr
 | iter encs=>
  obtain ⟨gf,lb,Rd,h1,h2,h3,h4⟩:=h;refine ⟨gf,lb,Rd,h1,h2.later hu (fun b hb hs hx=>?_),fun b hb=>⟨fun hm=>(H.m b hm).elim (h3 b hb).1 (by have:=(h3 b hb).2;omega),zBY (h3 b hb).2 hu.size⟩,fun b hb=>zBY (h4 b hb) hu.size⟩;rcases hx with hx | hx
  ·exact hf b hb hx hs
  ·exact (h3 b hx).1 (hS b hs)
 | mo x=>exact MY.out h fun b hb AP=>hu.block b AP (hf b AP hb)
section
variable {P:Program} {Γ:A6} {N:Nat -> Prop} {h:DH} {ρ:List AN} {w:World}
theorem MO.unset {k:Nat} {b:Nat} (hm:MO (h.set k none) ρ b):MO h ρ b:=by
 obtain ⟨i,o,p,h1,h2,h3⟩:=hm;rw [zCb] at h1
 by_cases e:k=i
 ·rw [zAE e] at h1;split at h1 <;> cases h1
 ·rw [zBP e] at h1;exact ⟨i,o,p,h1,h2,h3⟩
theorem BX.lt (H:BX P Γ N h ρ w) {b:Nat} (hb:MS N h ρ b):b<w.heap.size:=by
 rcases hb with hb | ⟨k,o,p,h1,h2,h3⟩
 ·exact (H.nlt b hb).1
 ·obtain ⟨_,_,c,t,z,h4⟩:=H.cel k o p b h1 h2 h3;exact (zBG.1 h4).1
theorem BX.low (H:BX P Γ N h ρ w) {b:Nat} (hb:MO h ρ b):Γ.ng<=b:=by
 obtain ⟨k,o,p,h1,h2,h3⟩:=hb;exact (H.cel k o p b h1 h2 h3).1
theorem BX.lt2 (H:BX P Γ N h ρ w) {b:Nat} (hb:MS N h ρ b):b<w.heap.size/\ Γ.ng<=b:=⟨H.lt hb,hb.elim (fun h=>(H.nlt b h).2) H.low⟩
theorem BX.ext (H:BX P Γ N h ρ w) {w':World} (hE:A4 w w'):BX P Γ N h ρ w':=by
 have O:Ba (MS N h ρ) w ρ (MS N h ρ) w' ρ:=⟨fun b hb _ _=>zGY hE b hb,fun b h=>.inl h,fun _ _ h=>h⟩;refine ⟨H.len,fun k o hk=>?_,fun k o p b h1 h2 h3=>?_,H.dis,fun b hb=>⟨zBY (H.nlt b hb).1 hE.size,(H.nlt b hb).2⟩,Γ.st _ _ H.gi (AV.ofExt hE)⟩
 ·obtain ⟨p,hp,ho⟩:=H.obj k o hk;exact ⟨p,hp,ho.out O (S:=fun _=>False) (AV.ofExt hE) (fun _ h=>h.elim) (fun _ _ _ h=>h)⟩
 ·obtain ⟨g1,g2,c,t,z,g3⟩:=H.cel k o p b h1 h2 h3;exact ⟨g1,g2,c,t,z,(zGY hE b (zBG.1 g3).1).trans g3⟩
theorem Ba.ext {M:Nat -> Prop} {w w':World} (ρ:List AN) (hE:A4 w w'):Ba M w ρ M w' ρ:=⟨fun b hb _ _=>zGY hE b hb,fun b h=>.inl h,fun _ _ h=>h⟩
theorem BL.ext {w w':World} (hE:A4 w w'):BL h ρ w h ρ w':=⟨AV.ofExt hE,fun _ h=>.inl h⟩
theorem DT {α:Type} {l:List α} {x y:α} {k:Nat} (hk:(l++[x])[k]? =some y):(k<l.length/\ l[k]? =some y)∨(k=l.length/\ x=y):=by
 rcases zGb k l.length with hl | hl | hl
 ·rw [zBq hl] at hk;exact .inl ⟨hl,hk⟩
 ·subst hl;simp at hk;exact .inr ⟨rfl,hk⟩
 ·rw [zCF (by omega)] at hk;have:k-l.length≠0:=by omega
  cases e:k-l.length with
  | zero=>omega
  | succ m=>rw [e] at hk;simp at hk
theorem D9 {α:Type} {l:List α} {x y:α} {k:Nat} (hk:l[k]? =some y):(l++[x])[k]? =some y:=by
 rw [zBq (zBN.1 hk).1];exact hk
theorem MO.snoc (H:BX P Γ N h ρ w) {o:DO} {p:AN} {b:Nat} (hb:MO (h++[some o]) (ρ++[p]) b):MO h ρ b∨p.foot b:=by
 obtain ⟨k,o',p',h1,h2,h3⟩:=hb;rcases DT h1 with ⟨hl,h1⟩ | ⟨hl,h1⟩
 ·rcases DT h2 with ⟨_,h2⟩ | ⟨Ch,_⟩
  ·exact .inl ⟨k,o',p',h1,h2,h3⟩
  ·rw [Ch,H.len] at hl;omega
 ·rcases DT h2 with ⟨Ch,_⟩ | ⟨_,h2⟩
  ·rw [H.len,←hl] at Ch;omega
  ·subst h2;exact .inr h3
theorem BX.snoc (H:BX P Γ N h ρ w) {w':World} (hE:A4 w w') {o:DO} {p:AN} (hf: ∀ b,p.foot b -> w.heap.size<=b/\ EG w' b)
 (ho:DD P (MS N (h++[some o]) (ρ++[p])) w' (ρ++[p]) p o):BX P Γ N (h++[some o]) (ρ++[p]) w':=by
 have O:Ba (MS N h ρ) w ρ (MS N (h++[some o]) (ρ++[p])) w' (ρ++[p]):=by
  refine ⟨fun b hb _ _=>zGY hE b hb,fun b hb=>?_,fun k q hk=>D9 hk⟩;rcases hb with hb | hb
  ·exact .inl (.inl hb)
  ·rcases MO.snoc H hb with hb | hb
   ·exact .inl (.inr hb)
   ·exact .inr (hf b hb).1
 refine ⟨by simp [H.len],fun k o' hk=>?_,fun k o' p' b h1 h2 h3=>?_,fun k k' o1 o2 p1 p2 b AY h1 h2 h3 h4 h5 h6=>?_,fun b hb=>⟨zBY (H.nlt b hb).1 hE.size,(H.nlt b hb).2⟩,Γ.st _ _ H.gi (AV.ofExt hE)⟩
 ·rcases DT hk with ⟨hl,hk⟩ | ⟨hl,hk⟩
  ·obtain ⟨p',hp,hr⟩:=H.obj k o' hk;exact ⟨p',D9 hp,hr.out O (S:=fun _=>False) (AV.ofExt hE) (fun _ h=>h.elim) (fun _ _ _ h=>h)⟩
  ·cases hk;exact ⟨p,by rw [hl,←H.len];simp,ho⟩
 ·rcases DT h1 with ⟨hl,h1⟩ | ⟨hl,h1⟩
  ·rcases DT h2 with ⟨_,h2⟩ | ⟨Ch,_⟩
   ·obtain ⟨g1,g2,c,t,z,g3⟩:=H.cel k o' p' b h1 h2 h3;exact ⟨g1,g2,c,t,z,(zGY hE b (zBG.1 g3).1).trans g3⟩
   ·rw [Ch,H.len] at hl;omega
  ·rcases DT h2 with ⟨Ch,_⟩ | ⟨_,h2⟩
   ·rw [H.len,←hl] at Ch;omega
   ·subst h2;obtain ⟨g1,g2⟩:=hf b h3;exact ⟨zBO (Γ.lo _ H.gi) g1,fun hn=>by have:=H.nlt b hn;omega,g2⟩
 ·have FK: ∀ {k:Nat} {o':DO} {p':AN},(h++[some o])[k]? =some (some o') -> (ρ++[p])[k]? =some p' -> p'.foot b -> k≠h.length -> b<w.heap.size:=by
   intro k o' p' h1 h2 h3 AY;rcases DT h1 with ⟨hl,h1⟩ | ⟨hl,h1⟩
   ·rcases DT h2 with ⟨_,h2⟩ | ⟨Ch,_⟩
    ·exact H.lt (.inr ⟨k,o',p',h1,h2,h3⟩)
    ·rw [Ch,H.len] at hl;omega
   ·exact absurd hl AY
  have lL: ∀ {k:Nat} {o':DO} {p':AN},(h++[some o])[k]? =some (some o') -> (ρ++[p])[k]? =some p' -> p'.foot b -> k=h.length -> w.heap.size<=b:=by
   intro k o' p' h1 h2 h3 he;rcases DT h2 with ⟨Ch,_⟩ | ⟨_,h2⟩
   ·rw [H.len,←he] at Ch;omega
   ·subst h2;exact (hf b h3).1
  by_cases e1:k=h.length
  ·by_cases e2:k'=h.length
   ·exact AY (e1.trans e2.symm)
   ·have:=lL h1 h3 h5 e1;have:=FK h2 h4 h6 e2;omega
  ·by_cases e2:k'=h.length
   ·have:=FK h1 h3 h5 e1;have:=lL h2 h4 h6 e2;omega
   ·rcases DT h1 with ⟨_,h1⟩ | ⟨hl,_⟩
    ·rcases DT h2 with ⟨_,h2⟩ | ⟨hl,_⟩
     ·rcases DT h3 with ⟨_,h3⟩ | ⟨hl,_⟩
      ·rcases DT h4 with ⟨_,h4⟩ | ⟨hl,_⟩
       ·exact H.dis k k' o1 o2 p1 p2 b AY h1 h2 h3 h4 h5 h6
       ·rw [H.len] at hl;exact e2 hl
      ·rw [H.len] at hl;exact e1 hl
     ·exact e2 hl
    ·exact e1 hl
theorem Ba.snoc (H:BX P Γ N h ρ w) {w':World} (hE:A4 w w') {o:DO} {p:AN} (hf: ∀ b,p.foot b -> w.heap.size<=b):Ba (MS N h ρ) w ρ (MS N (h++[some o]) (ρ++[p])) w' (ρ++[p]):=by
 refine ⟨fun b hb _ _=>zGY hE b hb,fun b hb=>?_,fun k q hk=>D9 hk⟩;rcases hb with hb | hb
 ·exact .inl (.inl hb)
 ·rcases MO.snoc H hb with hb | hb
  ·exact .inl (.inr hb)
  ·exact .inr (hf b hb)
theorem BL.snoc (H:BX P Γ N h ρ w) {w':World} (hE:A4 w w') {o:DO} {p:AN} (hf: ∀ b,p.foot b -> w.heap.size<=b):BL h ρ w (h++[some o]) (ρ++[p]) w':=
 ⟨AV.ofExt hE,fun b hb=>(MO.snoc H hb).imp id (hf b)⟩
theorem MO.set {k:Nat} {o o':DO} (hk:h[k]? =some (some o)) {b:Nat}:MO (h.set k (some o')) ρ b↔MO h ρ b:=by
 have hl:=(zBN.1 hk).1;constructor
 ·rintro ⟨i,o1,p,h1,h2,h3⟩;rw [zCb] at h1
  by_cases e:k=i
  ·subst e;exact ⟨k,o,p,hk,h2,h3⟩
  ·rw [zBP e] at h1;exact ⟨i,o1,p,h1,h2,h3⟩
 ·rintro ⟨i,o1,p,h1,h2,h3⟩
  by_cases e:k=i
  ·subst e;exact ⟨k,o',p,by simp [hl],h2,h3⟩
  ·exact ⟨i,o1,p,by rw [zCb,zBP e];exact h1,h2,h3⟩
theorem MS.set {k:Nat} {o o':DO} (hk:h[k]? =some (some o)) {b:Nat}:MS N (h.set k (some o')) ρ b↔MS N h ρ b:=by unfold MS;rw [MO.set hk]
theorem BX.write (H:BX P Γ N h ρ w) {w':World} {k:Nat} {o o':DO} {p:AN} (hk:h[k]? =some (some o)) (hp:ρ[k]? =some p) (hu:AV p.foot w w')
 (hc: ∀ b,p.foot b -> EG w' b) (ho:DD P (MS N (h.set k (some o')) ρ) w' ρ p o'):BX P Γ N (h.set k (some o')) ρ w':=by
 have hl:=(zBN.1 hk).1;have hM: ∀ b,p.foot b -> MS N h ρ b:=fun b hb=>.inr ⟨k,o,p,hk,hp,hb⟩
 have O:Ba (MS N h ρ) w ρ (MS N (h.set k (some o')) ρ) w' ρ:=⟨fun b hb hm _=>hu.block b hb fun hx=>hm (hM b hx),fun b hb=>.inl ((MS.set hk).1 hb),fun _ _ h=>h⟩;have Is: ∀ {i:Nat} {o1:DO},i≠k -> (h.set k (some o'))[i]? =some (some o1) -> h[i]? =some (some o1):=fun {i} {o1} AY h1=>by rw [zCb,zBP (zGK AY)] at h1;exact h1
 refine ⟨by simp [H.len],fun i o1 hi=>?_,fun i o1 p1 b h1 h2 h3=>?_,fun i i' o1 o2 p1 p2 b AY h1 h2 h3 h4 h5 h6=>?_,fun b hb=>⟨zBY (H.nlt b hb).1 hu.size,(H.nlt b hb).2⟩,Γ.st _ _ H.gi (hu.mono fun b _ hb=>(H.cel k o p b hk hp hb).1)⟩
 ·by_cases e:i=k
  ·subst e;have:o'=o1:=by simp [hl] at hi;exact hi
   subst this;exact ⟨p,hp,ho⟩
  ·obtain ⟨p1,Lw,hr⟩:=H.obj i o1 (Is e hi);exact ⟨p1,Lw,hr.out O hu hM fun b _ h1 h2=>H.dis i k o1 o p1 p b e (Is e hi) hk Lw hp h1 h2⟩
 ·by_cases e:i=k
  ·subst e;have:p=p1:=zBK (hp.symm.trans h2);subst this;obtain ⟨g1,g2,_⟩:=H.cel i o p b hk hp h3;exact ⟨g1,g2,hc b h3⟩
  ·obtain ⟨g1,g2,c,t,z,g3⟩:=H.cel i o1 p1 b (Is e h1) h2 h3;refine ⟨g1,g2,c,t,z,(hu.block b (zBG.1 g3).1 fun hx=>H.dis i k o1 o p1 p b e (Is e h1) hk h2 hp h3 hx).trans g3⟩
 ·have FK: ∀ {i:Nat} {o1:DO},(h.set k (some o'))[i]? =some (some o1) -> ∃ o2,h[i]? =some (some o2):=fun {i} {o1} h1=>by
   by_cases e:i=k
   ·subst e;exact ⟨o,hk⟩
   ·exact ⟨o1,Is e h1⟩
  obtain ⟨q1,g1⟩:=FK h1;obtain ⟨q2,g2⟩:=FK h2;exact H.dis i i' q1 q2 p1 p2 b AY g1 g2 h3 h4 h5 h6
theorem Ba.write (hN:True) {w':World} {k:Nat} {o o':DO} {p:AN} (hk:h[k]? =some (some o)) (hp:ρ[k]? =some p) (hu:AV p.foot w w'):Ba (MS N h ρ) w ρ (MS N (h.set k (some o')) ρ) w' ρ:=
 ⟨fun b hb hm _=>hu.block b hb fun hx=>hm (.inr ⟨k,o,p,hk,hp,hx⟩),fun b hb=>.inl ((MS.set hk).1 hb),fun _ _ h=>h⟩
theorem BL.write {w':World} {k:Nat} {o o':DO} {p:AN} (hk:h[k]? =some (some o)) (hp:ρ[k]? =some p) (hu:AV p.foot w w'):BL h ρ w (h.set k (some o')) ρ w':=
 ⟨hu.mono fun b _ hb=>⟨k,o,p,hk,hp,hb⟩,fun b hb=>.inl ((MO.set hk).1 hb)⟩
end
end Go.Proofs.YtekkngkphejfcaaGreatDoor
namespace Go.Proofs.YtekkngkphejfcaaGreatDoor
abbrev zBW:=@Nat.not_lt_zero
abbrev zBh:=@Bool.not_eq_true'
abbrev zCK:=@decide_eq_true_eq
abbrev zDE:=@Go.run_underlying
abbrev zDG:=@Nat.add_assoc
abbrev zFC:=@Option.some.injEq
abbrev zFT:=@Nat.mul_le_mul_right
abbrev zFX:=@bne_iff_ne
abbrev zFg:=@Prod.mk.injEq
abbrev zFj:=@Nat.add_mul
abbrev zFn:=@Nat.mul_comm
abbrev zF2:=@Array.eq_empty_of_size_eq_zero
abbrev zF5:=@Nat.add_zero
abbrev zGL:=@Nat.succ_mul
abbrev zGM:=@Nat.mod_eq_of_lt
abbrev zGN:=@Go.Sem.run_pure
end Go.Proofs.YtekkngkphejfcaaGreatDoor
namespace Go.Proofs.YtekkngkphejfcaaGreatDoor
open Go.RowKit
def Fg:Value -> DV
 | .int k n=>.int k n
 | .bool b=>.bool b
 | .string s=>.str s
 | .slice none 0 0=>.nils
 | v=>if v.oneCell' then .cst v else .any
def Ao (fr:List DV):Operand -> DV
 | .tmp t=>fr.getD t .any
 | .const v=>Fg v
 | .global _=>.any
 | .func f=>.fn f 0 fun _=>.any
def Ik (P:Program) (t:TypeId):Bool:=match P.underlying t with
 | some (.struct _)=>true
 | some (.array _ _)=>true
 | _=>false
def OO (P:Program) (t:TypeId) (m:Nat):Bool:=match P.underlying t with
 | some (.slice e)=>match P.info? e with
  | some i=>i.size==m&&m != 0
  | none=>false
 | _=>false
def Gf (P:Program) (t:TypeId):Bool:=(P.underlying t).isSome&&!Ik P t
def Uc (P:Program) (t:TypeId) (m:Nat):Bool:=Ik P t&&(match P.info? t with | some i=>i.size==m | none=>false)
def Xt (P:Program) (s:TypeId) (f:Nat):Option (Nat×Nat):=match P.underlying s with
 | some (.struct fs)=>match fs[f]? with
  | some fd=>match P.info? fd.type with
   | some i=>if i.size=0 then none else some (fd.offset,i.size)
   | none=>none
  | none=>none
 | _=>none
def UX (P:Program) (t:TypeId):Option (Nat×Nat):=match P.underlying t with
 | some (.array n e)=>match P.info? e with
  | some i=>if n<=1 then none else some (n,i.size)
  | none=>none
 | _=>none
def bN (P:Program) (t:TypeId):Option IntKind:=match P.underlying t with
 | some (.int k)=>some k
 | _=>none
def YO (op:BinOp) (k:IntKind) (a b:Int):Option (DV×Prop):=match op with
 | .add=>some (.int k (k.wrap (a+b)),True)
 | .sub=>some (.int k (k.wrap (a-b)),True)
 | .mul=>some (.int k (k.wrap (a*b)),True)
 | .and=>some (.int k (bits .and k a b),True)
 | .or=>some (.int k (bits .or k a b),True)
 | .xor=>some (.int k (bits .xor k a b),True)
 | .andNot=>some (.int k (bits .andNot k a b),True)
 | .eql=>some (.bool (a==b),True)
 | .neq=>some (.bool (a != b),True)
 | .lss=>some (.bool (decide (a<b)),True)
 | .leq=>some (.bool (decide (a<=b)),True)
 | .gtr=>some (.bool (decide (a>b)),True)
 | .geq=>some (.bool (decide (a>=b)),True)
 | _=>none
def Qb (P:Program) (t:TypeId):Nat:=match P.underlying t with
 | some .bool=>1
 | some (.slice _)=>2
 | _=>0
def YP (bt:Nat) (op:BinOp) (x y:DV):Option (DV×Prop):=match op,x,y with
 | .eql,.bool a,.bool b=>if bt=1 then some (.bool (a==b),True) else none
 | .neq,.bool a,.bool b=>if bt=1 then some (.bool (!(a==b)),True) else none
 | .eql,.ints l,.nils=>if bt=2 then some (.bool false,0<l.length) else none
 | .eql,.bools l,.nils=>if bt=2 then some (.bool false,0<l.length) else none
 | .neq,.ints l,.nils=>if bt=2 then some (.bool true,0<l.length) else none
 | .shl,.int k a,.int _ b=>some (.int k (k.wrap (a*2 ^ b.toNat)),0<=b/\ b<=k.bits)
 | .shr,.int k a,.int _ b=>some (.int k (a/2 ^ b.toNat),0<=b/\ b<=k.bits)
 | .quo,.int k a,.int k' b=>if k=k' then some (.int k (k.wrap (a.tdiv b)),b≠0) else none
 | .rem,.int k a,.int k' b=>if k=k' then some (.int k (a.tmod b),b≠0) else none
 | op,.int k a,.int k' b=>if k=k' then YO op k a b else none
 | _,_,_=>none
def Nb (P:Program) (S:St) (t:TypeId):DV -> Option (DV×Prop)
 | .fp m f=>if Gf P t then (if m=0 then none else some (f 0,True)) else if Uc P t m then some (.agg m f,True) else none
 | .ref k j=>match S.h[k]? with
  | some (some (.cells l))=>if Gf P t then (if j<l.length then some (l.getD j .any,True) else none)
   else match P.info? t with
    | some i=>if Ik P t&&decide (j+i.size<=l.length) then some (.agg i.size (Ga i.size fun c=>l.getD (j+c) .any),True) else none
    | none=>none
  | _=>none
 | .mp k m i j=>match S.h[k]? with
  | some (some (.ints l))=>if Gf P t&&(m==1)&&(j==0) then some (.int .i64 (l.getD i 0),i<l.length) else none
  | some (some (.bools l))=>if Gf P t&&(m==1)&&(j==0) then some (.bool (l.getD i false),i<l.length) else none
  | some (some (.arr m' n f))=>if Gf P t&&(m==m')&&decide (j<m) then some (f i j,i<n)
   else if Uc P t m&&(m==m')&&(j==0) then some (.agg m (f i),i<n) else none
  | some (some (.mo (.sets _ ls _)))=>if Gf P t&&(m==1)&&(j==0) then some (.mri k i,i<ls.length) else none
  | _=>none
 | _=>none
def bS (P:Program) (t:TypeId) (x:DV) (n:Int):Option (DV×Prop):=match x with
 | .ints l=>if OO P t 1 then some (.fp 1 (fun _=>.int .i64 (l.getD n.toNat 0)),0<=n/\ n<l.length) else none
 | .bools l=>if OO P t 1 then some (.fp 1 (fun _=>.bool (l.getD n.toNat false)),0<=n/\ n<l.length) else none
 | .sl m c f=>if OO P t m then some (.fp m (f n.toNat),0<=n/\ n<c) else none
 | .msl k m off c=>if OO P t m then some (.mp k m (off+n.toNat) 0,0<=n/\ n<c) else none
 | .ref k j=>match UX P t with
  | some (len,sz)=>some (.ref k (j+n.toNat*sz),0<=n/\ n<len)
  | none=>none
 | .mp k m i 0=>match UX P t with
  | some (len,sz)=>if sz=m then some (.mp k m (i+n.toNat) 0,0<=n/\ n<len) else none
  | none=>none
 | .fp m f=>match UX P t with
  | some (len,sz)=>if n.toNat*sz+sz<=m then some (.fp sz (Ga sz fun j=>f (n.toNat*sz+j)),0<=n/\ n<len) else none
  | none=>none
 | _=>none
def Wg (P:Program) (t:TypeId) (d:DV):Option (DV×Prop):=match P.underlying t,d with
 | some (.slice _),.nils=>some (.int .i64 0,True)
 | some (.slice _),.ints l=>some (.int .i64 l.length,True)
 | some (.slice _),.bools l=>some (.int .i64 l.length,True)
 | some (.slice _),.sl _ n _=>some (.int .i64 n,True)
 | some (.slice _),.msl _ _ _ n=>some (.int .i64 n,True)
 | some .string,.str s=>some (.int .i64 s.size,True)
 | _,_=>none
def af (x y:DV):Option (DV×Prop):=match x,y with
 | .int k a,.int _ b=>some (.int k (if b>a then b else a),True)
 | _,_=>none
def ae (x y:DV):Option (DV×Prop):=match x,y with
 | .int k a,.int _ b=>some (.int k (if b<a then b else a),True)
 | _,_=>none
def YL (P:Program) (S:St) (b:Builtin) (args:List Operand) (qq:List TypeId):Option (DV×Prop):=match b with
 | .len=>match args with
  | [x]=>match qq with
   | [t]=>Wg P t (Ao S.fr x)
   | _=>none
  | _=>none
 | .max=>match args with
  | [x,y]=>af (Ao S.fr x) (Ao S.fr y)
  | _=>none
 | .min=>match args with
  | [x,y]=>ae (Ao S.fr x) (Ao S.fr y)
  | _=>none
 | _=>none
def pop (P:Program) (S:St):Op -> Option (DV×Prop)
 | .move x=>some (Ao S.fr x,True)
 | .assign x=>some (Ao S.fr x,True)
 | .pick c a b=>match Ao S.fr c with
  | .bool true=>some (Ao S.fr a,True)
  | .bool false=>some (Ao S.fr b,True)
  | _=>none
 | .load t x=>Nb P S t (Ao S.fr x)
 | .binOp op t x y _=>YP (Qb P t) op (Ao S.fr x) (Ao S.fr y)
 | .unOp op _ x=>match op,Ao S.fr x with
  | .not,.bool b=>some (.bool !b,True)
  | .neg,.int k n=>some (.int k (k.wrap (0-n)),True)
  | .xor,.int k n=>some (.int k (bits .xor k (if k.signed then-1 else k.max) n),True)
  | _,_=>none
 | .convert s d x=>match P.underlying s,bN P d,Ao S.fr x with
  | some _,some k,.int _ n=>some (.int k (k.wrap n),True)
  | _,_,_=>none
 | .nilCheck x=>match Ao S.fr x with
  | .fp m f=>some (.fp m f,True)
  | .ref k j=>some (.ref k j,True)
  | .mp k m i j=>some (.mp k m i j,True)
  | .fn g m c=>some (.fn g m c,True)
  | _=>none
 | .fieldAddr s x f=>match Xt P s f with
  | some (off,sz)=>match Ao S.fr x with
   | .fp m g=>if off+sz<=m then some (.fp sz (Ga sz fun j=>g (off+j)),True) else none
   | .ref k j=>some (.ref k (j+off),True)
   | .mp k m i j=>some (.mp k m i (j+off),True)
   | _=>none
  | none=>none
 | .indexAddr t x i=>match Ao S.fr i with
  | .int _ n=>bS P t (Ao S.fr x) n
  | _=>none
 | .extract x i=>match Ao S.fr x with
  | .tup m f=>if i<m then some (f i,True) else none
  | _=>none
 | .makeFunc (.func g) first c=>if first.size=0 then some (.fn g c.size (Ga c.size fun j=>Ao S.fr (c.getD j (.const undef))),True) else none
 | .call c=>match c.callee with
  | .builtin b=>YL P S b c.args.toList c.argTypes.toList
  | _=>none
 | _=>none
section
variable {P:Program} {Γ:A6} {N:Nat -> Prop} {S:St} {ρ:List AN} {a:Act} {w:World}
theorem Sq {M:Nat -> Prop} (v:Value):AQ M w (Fg v) ρ v:=by
 unfold Fg;split
 ·rfl
 ·rfl
 ·rfl
 ·rfl
 ·split
  ·exact ⟨rfl,by assumption⟩
  ·trivial
theorem Bx (R:An P Γ N S ρ a w) (x:Operand):AQ (MS N S.h ρ) w (Ao S.fr x) ρ (a.eval x):=by
 cases x with
 | tmp t=>exact R.fr.at t
 | const v=>exact Sq v
 | global g=>trivial
 | func f=>exact ⟨#[],rfl,rfl,fun j hj=>absurd hj (zBW j)⟩
theorem RV {t:TypeId} {d:TypeDesc} (h:P.underlying t=some d):(isAgg t).run P w= .ok (Ik P t) w:=by
 unfold isAgg Ik;rw [zBx,zDE h];simp only [Result.andThen,h];cases d <;> rfl
theorem JS {t:TypeId} {i:TypeInfo} (h:P.info? t=some i):(sizeOf t).run P w= .ok i.size w:=by
 rw [run_sizeOf w h];unfold Program.cellsOf;rw [h];rfl
theorem tj {t:TypeId} {b:Addr} {u:Value} (h:Gf P t=true) (hc:w.cell? b=some u):(loadVar t b).run P w= .ok u w:=by
 unfold Gf at h;simp only [zBE,Option.isSome_iff_exists,zBh] at h;obtain ⟨⟨d,hd⟩,hn⟩:=h;unfold loadVar;rw [zBx,RV hd];simp only [Result.andThen,hn,zCQ,zFo];simp [load,Sem.run,hc]
theorem mL {t:TypeId} (h:Ik P t=true): ∃ d,P.underlying t=some d:=by
 unfold Ik at h;split at h
 ·exact ⟨_,by assumption⟩
 ·exact ⟨_,by assumption⟩
 ·cases h
theorem tk {t:TypeId} {b o:Nat} {i:TypeInfo} (h:Ik P t=true) (hi:P.info? t=some i) (g:Nat -> Value) (hc: ∀ j,j<i.size -> w.cell? ⟨b,o+j,none⟩=some (g j)):
 (loadVar t ⟨b,o,none⟩).run P w= .ok (.agg ((List.range i.size).map g).toArray) w:=by
 obtain ⟨d,hd⟩:=mL h;unfold loadVar;rw [zBx,RV hd];simp only [Result.andThen,h,zDH];rw [zBx,JS hi];simp only [Result.andThen]
 rw [zBx,run_loadCells w ⟨b,o,none⟩ i.size g (fun j hj=>by
  have:=hc j hj;unfold Addr.add
  by_cases e:j=0
  ·subst e;simpa using this
  ·simpa [e] using this)]
 simp [Result.andThen]
def Keep (N:Nat -> Prop) (w W:World):Prop:=∀ b o u,¬ N b -> w.cell? ⟨b,o,none⟩=some u -> W.cell? ⟨b,o,none⟩=some u
theorem Keep.ofExt {N:Nat -> Prop} {w W:World} (h:A4 w W):Keep N w W:=fun _ _ _ _ hc=>h.cell hc
def Yl (P:Program) (N:Nat -> Prop) (w:World) (M:Nat -> Prop) (ρ:List AN) (s:Sem Value) (d:DV):Prop:=∃ v,(∀ W,Keep N w W -> s.run P W= .ok v W)/\ AQ M w d ρ v
theorem Ox {k:Nat} {o:DO} {p:AN} {n:Nat} {Rw:Nat -> Value -> Prop} (R:An P Γ N S ρ a w) (hk:S.h[k]? =some (some o)) (hp:ρ[k]? =some p) (hr:Ag w p n Rw): ¬ N p.blk:=(R.hr.cel k o p p.blk hk hp (by rw [hr.1])).2.1
theorem Xk {M:Nat -> Prop} {m:Nat} {f:Nat -> DV} {v:Value} (h:AQ M w (.fp m f) ρ v): ∃ b o,v= .pointer (some ⟨b,o,none⟩)/\ ∀ j,j<m -> ¬ M b/\ ∃ u,w.cell? ⟨b,o+j,none⟩=some u/\ AQ M w (f j) [] u:=h
theorem O0 {M:Nat -> Prop} {d:DV} {v:Value} (h:AQ M w d [] v):AQ M w d ρ v:=h.out d ⟨fun _ _ _ _=>rfl,fun _ h=>.inl h,fun k p hk=>by simp at hk⟩
theorem ZU {t:TypeId} {b:Addr} {W:World}:(Instr.loadAt t (.pointer (some b))).run P W=(loadVar t b).run P W:=rfl
theorem PZ {M:Nat -> Prop} {t:TypeId} {b o:Nat} {u:Value} {d:DV} (hN: ¬ N b) (h1:Gf P t=true) (hc:w.cell? ⟨b,o,none⟩=some u) (hr:AQ M w d ρ u):Yl P N w M ρ (Instr.loadAt t (.pointer (some ⟨b,o,none⟩))) d:=
 ⟨u,fun W hE=>by rw [ZU];exact tj h1 (hE _ _ _ hN hc),hr⟩
theorem ap {M:Nat -> Prop} {t:TypeId} {i:TypeInfo} {b o:Nat} {f:Nat -> DV} (hN:0<i.size -> ¬ N b) (h1:Ik P t=true) (hi:P.info? t=some i) (h: ∀ j,j<i.size -> ∃ u,w.cell? ⟨b,o+j,none⟩=some u/\ AQ M w (f j) ρ u):
 Yl P N w M ρ (Instr.loadAt t (.pointer (some ⟨b,o,none⟩))) (.agg i.size f):=by
 obtain ⟨g,hg⟩: ∃ g:Nat -> Value,∀ j,j<i.size -> w.cell? ⟨b,o+j,none⟩=some (g j)/\ AQ M w (f j) ρ (g j):=by
  refine ⟨fun j=>(w.cell? ⟨b,o+j,none⟩).getD undef,fun j hj=>?_⟩;obtain ⟨u,h1,h2⟩:=h j hj;simp [h1,h2]
 refine ⟨_,fun W hE=>by rw [ZU];exact tk h1 hi g fun j hj=>hE _ _ _ (hN (by omega)) (hg j hj).1,_,rfl,by simp,fun j hj=>?_⟩;exact ⟨g j,by simp [hj],(hg j hj).2⟩
theorem eL {t:TypeId} {m:Nat} (h:Uc P t m=true):Ik P t=true/\ ∃ i,P.info? t=some i/\ i.size=m:=by
 unfold Uc at h;simp only [zBE] at h;refine ⟨h.1,?_⟩;have h2:=h.2;split at h2
 ·exact ⟨_,by assumption,by simpa using h2⟩
 ·cases h2
theorem lj (R:An P Γ N S ρ a w) {t:TypeId} {x d:DV} {vc:Prop} {v:Value} (hx:AQ (MS N S.h ρ) w x ρ v) (h:Nb P S t x=some (d,vc)) (hv:vc):
 Yl P N w (MS N S.h ρ) ρ (Instr.loadAt t v) d:=by
 unfold Nb at h;split at h
 ·rename_i m f;obtain ⟨b,o,rfl,hc⟩:=Xk hx;split at h
  ·rename_i h1;split at h
   ·cases h
   ·cases h;obtain ⟨hM,u,g1,g2⟩:=hc 0 (by omega);exact PZ (fun h=>hM (.inl h)) h1 g1 (O0 g2)
  ·split at h
   ·rename_i h2;cases h;obtain ⟨h3,i,hi,rfl⟩:=eL h2;exact ap (fun hp h=>(hc 0 hp).1 (.inl h)) h3 hi fun j hj=>let ⟨_,u,g1,g2⟩:=hc j hj;⟨u,g1,O0 g2⟩
   ·cases h
 ·rename_i k j;obtain ⟨p,hp,rfl⟩:=hx;split at h
  ·rename_i l hk;obtain ⟨p',BE,hr⟩:=R.hr.obj k _ hk;have e:p'=p:=zBK (BE.symm.trans hp);subst e;split at h
   ·rename_i h1;split at h
    ·rename_i hj;cases h;obtain ⟨u,g1,g2⟩:=Ag.cell hr hj;exact PZ (Ox R hk hp hr) h1 g1 g2
    ·cases h
   ·split at h
    ·rename_i i hi;split at h
     ·rename_i h2;cases h;simp only [zBE,zCK] at h2;refine ap (fun _=>Ox R hk hp hr) h2.1 hi fun c hc=>?_
      obtain ⟨u,g1,g2⟩:=Ag.cell hr (j:=j+c) (by omega);exact ⟨u,by rw [zDG];exact g1,zIO hc g2⟩
     ·cases h
    ·cases h
  ·cases h
 ·rename_i k m i j;obtain ⟨p,hp,rfl⟩:=hx;split at h
  ·rename_i l hk;obtain ⟨p',BE,hr⟩:=R.hr.obj k _ hk;have e:p'=p:=zBK (BE.symm.trans hp);subst e;split at h
   ·rename_i h1;cases h;simp only [zBE,zBf] at h1;obtain ⟨⟨h1,rfl⟩,rfl⟩:=h1;obtain ⟨u,g1,g2⟩:=Ag.cell hr hv;exact PZ (Ox R hk hp hr) h1 (by simpa using g1) g2
   ·cases h
  ·rename_i l hk;obtain ⟨p',BE,hr⟩:=R.hr.obj k _ hk;have e:p'=p:=zBK (BE.symm.trans hp);subst e;split at h
   ·rename_i h1;cases h;simp only [zBE,zBf] at h1;obtain ⟨⟨h1,rfl⟩,rfl⟩:=h1;obtain ⟨u,g1,g2⟩:=Ag.cell hr hv;exact PZ (Ox R hk hp hr) h1 (by simpa using g1) g2
   ·cases h
  ·rename_i m' n f hk;obtain ⟨p',BE,hr⟩:=R.hr.obj k _ hk;have e:p'=p:=zBK (BE.symm.trans hp);subst e
   have bR: ∀ {i j:Nat},i<n -> j<m' -> i*m'+j<n*m':=fun {i j} hi hj=>by
    have:(i+1)*m'<=n*m':=zFT _ hi;rw [zGL] at this;omega
   have dv: ∀ {i j:Nat},j<m' -> (i*m'+j)/m'=i/\ (i*m'+j) % m'=j:=fun {i j} hj=>by
    have hm:0<m':=by omega
    constructor
    ·rw [zFn,Nat.mul_add_div hm,Nat.div_eq_of_lt hj,zF5]
    ·rw [zFn,Nat.mul_add_mod,zGM hj]
   split at h
   ·rename_i h1;cases h;simp only [zBE,zBf,zCK] at h1;obtain ⟨⟨h1,rfl⟩,hj⟩:=h1;obtain ⟨u,g1,g2⟩:=Ag.cell hr (bR hv hj);rw [(dv hj).1,(dv hj).2] at g2;exact PZ (Ox R hk hp hr) h1 g1 (O0 g2)
   ·split at h
    ·rename_i h2;cases h;simp only [zBE,zBf] at h2;obtain ⟨⟨h2,rfl⟩,rfl⟩:=h2;obtain ⟨h3,ti,hi,rfl⟩:=eL h2;refine ap (fun _=>Ox R hk hp hr) h3 hi fun c hc=>?_
     obtain ⟨u,g1,g2⟩:=Ag.cell hr (bR hv hc);rw [(dv hc).1,(dv hc).2] at g2;exact ⟨u,by simpa [zDG] using g1,O0 g2⟩
    ·cases h
  ·rename_i n ls lk hk;obtain ⟨p',BE,vs,hS⟩:=R.hr.obj k _ hk;have e:p'=p:=zBK (BE.symm.trans hp);subst e;split at h
   ·rename_i h1;cases h;simp only [zBE,zBf] at h1;obtain ⟨⟨h1,rfl⟩,rfl⟩:=h1;obtain ⟨cs,tt,q1,q2,q3,q4⟩:=hS.row;have hi:i<vs.size:=by rw [hS.size];exact hv
    have q5:=q4 i hv;rw [zE9 hi] at q5;refine PZ (u:=vs[i]) (R.hr.cel k _ p' p'.blk hk hp hS.blk).2.1 h1 ?_ ⟨p',vs,hp,hS.val,zE9 hi⟩;unfold World.cell?;simp [q1,q5]
   ·cases h
  ·cases h
 ·cases h
theorem Yl.pure {M:Nat -> Prop} {s:Sem Value} {d:DV} {v:Value} (h: ∀ W,s.run P W= .ok v W) (hr:AQ M w d ρ v):Yl P N w M ρ s d:=⟨v,fun W _=>h W,hr⟩
theorem og {t:TypeId} {m:Nat} (h:OO P t m=true):P.underlying t=some (.slice (P.elem t))/\ (∃ i,P.info? (P.elem t)=some i/\ i.size=m)/\ m≠0:=by
 unfold OO at h;split at h
 ·rename_i e he;have:P.elem t=e:=by unfold Program.elem;rw [he]
  rw [this];refine ⟨he,?_⟩;split at h
  ·simp only [zBE,zBf,zFX] at h;exact ⟨⟨_,by assumption,h.1⟩,h.2⟩
  ·cases h
 ·cases h
theorem d6 {t:TypeId} {n m:Nat} (h:UX P t=some (n,m)):P.underlying t=some (.array (P.arrayLen t) (P.elem t))/\ P.arrayLen t=n/\ ∃ i,P.info? (P.elem t)=some i/\ i.size=m:=by
 unfold UX at h;split at h
 ·rename_i n' e he;have h1:P.elem t=e:=by unfold Program.elem;rw [he]
  have h2:P.arrayLen t=n':=by unfold Program.arrayLen;rw [he]
  rw [h1,h2];split at h
  ·split at h
   ·cases h
   ·cases h;exact ⟨he,rfl,_,by assumption,rfl⟩
  ·cases h
 ·cases h
theorem JH (b o n:Nat):Addr.add ⟨b,o,none⟩ n=⟨b,o+n,none⟩:=by
 unfold Addr.add
 by_cases h:n=0
 ·subst h;rfl
 ·simp [h]
theorem VJ {t:TypeId} {m b o len cap:Nat} {k:IntKind} {n:Int} (h:OO P t m=true) (h1:0<=n) (h2:n<len) (W:World):
 (Instr.indexAt t (.slice (some ⟨b,o,none⟩) len cap) (.int k n)).run P W= .ok (.pointer (some ⟨b,o+n.toNat*m,none⟩)) W:=by
 obtain ⟨hu,⟨i,hi,rfl⟩,_⟩:=og h;rw [run_indexAt_slice W t _ len cap k n hu,zAE ⟨h1,h2⟩,JS hi];simp only [Result.andThen,JH]
theorem zN (R:An P Γ N S ρ a w) {t:TypeId} {x d:DV} {vc:Prop} {v:Value} {k:IntKind} {n:Int} (hx:AQ (MS N S.h ρ) w x ρ v) (h:bS P t x n=some (d,vc)) (hv:vc):
 Yl P N w (MS N S.h ρ) ρ (Instr.indexAt t v (.int k n)) d:=by
 unfold bS at h;split at h
 ·rename_i l;obtain ⟨ad,cap,rfl,h1,h2,h3⟩:=hx;split at h
  ·rename_i he;cases h;obtain ⟨b,o,rfl,hM,hc⟩:=h3 n.toNat (by omega);refine Yl.pure (fun W=>VJ he hv.1 hv.2 W) ⟨b,o+n.toNat*1,rfl,fun j hj=>⟨hM,_,?_,rfl⟩⟩;have:j=0:=by omega
   subst this;simpa using hc
  ·cases h
 ·rename_i l;obtain ⟨ad,cap,rfl,h1,h2,h3⟩:=hx;split at h
  ·rename_i he;cases h;obtain ⟨b,o,rfl,hM,hc⟩:=h3 n.toNat (by omega);refine Yl.pure (fun W=>VJ he hv.1 hv.2 W) ⟨b,o+n.toNat*1,rfl,fun j hj=>⟨hM,_,?_,rfl⟩⟩;have:j=0:=by omega
   subst this;simpa using hc
  ·cases h
 ·rename_i m c f;obtain ⟨ad,cap,rfl,h1,h2,h3⟩:=hx;split at h
  ·rename_i he;cases h;have hm:=(og he).2;obtain ⟨b,o,u,rfl,hM,hc,hr⟩:=h3 n.toNat 0 (by omega) (by omega);refine Yl.pure (fun W=>VJ he hv.1 hv.2 W) ⟨b,o+n.toNat*m,rfl,fun j hj=>?_⟩;obtain ⟨b',o',u',e,hM',H9,C7⟩:=h3 n.toNat j (by omega) hj;cases e;exact ⟨hM',u',by rw [zDG];exact H9,C7⟩
  ·cases h
 ·rename_i k' m off c;obtain ⟨p,cap,hp,rfl,h1,h2,h3⟩:=hx;split at h
  ·rename_i he;cases h;exact Yl.pure (fun W=>VJ he hv.1 hv.2 W) ⟨p,hp,by rw [zDG,←zFj];rfl⟩
  ·cases h
 ·rename_i k' j;obtain ⟨p,hp,rfl⟩:=hx;split at h
  ·rename_i len sz ha;cases h;obtain ⟨hu,hl,i,hi,rfl⟩:=d6 ha;refine Yl.pure (fun W=>?_) ⟨p,hp,rfl⟩;rw [run_indexAt_array W t _ k n hu,zAE ⟨hv.1,by rw [hl];exact hv.2⟩,JS hi];simp only [Result.andThen,JH,zDG]
  ·cases h
 ·rename_i k' m i0;obtain ⟨p,hp,rfl⟩:=hx;split at h
  ·rename_i len sz ha;split at h
   ·rename_i A9;subst A9;cases h;obtain ⟨hu,hl,i,hi,rfl⟩:=d6 ha;refine Yl.pure (fun W=>?_) ⟨p,hp,rfl⟩;rw [run_indexAt_array W t _ k n hu,zAE ⟨hv.1,by rw [hl];exact hv.2⟩,JS hi];simp only [Result.andThen,JH,zDG,zFj,zBj,zF5]
   ·cases h
  ·cases h
 ·rename_i m f;obtain ⟨b,o,rfl,hc⟩:=Xk hx;split at h
  ·rename_i len sz ha;split at h
   ·rename_i A9;cases h;obtain ⟨hu,hl,i,hi,rfl⟩:=d6 ha;refine Yl.pure (fun W=>?_) ⟨b,o+n.toNat*i.size,rfl,fun j hj=>?_⟩
    ·rw [run_indexAt_array W t _ k n hu,zAE ⟨hv.1,by rw [hl];exact hv.2⟩,JS hi];simp only [Result.andThen,JH]
    ·obtain ⟨hM,u,h1,h2⟩:=hc (n.toNat*i.size+j) (by omega);exact ⟨hM,u,by rw [zDG];exact h1,zIO hj h2⟩
   ·cases h
  ·cases h
 ·cases h
theorem tv {op:BinOp} {k:IntKind} {x y:Int} {d:DV} {vc:Prop} (t:TypeId) (h:YO op k x y=some (d,vc)) (M:Nat -> Prop):Yl P N w M ρ (binOp op t (.int k x) (.int k y)) d:=by
 cases op <;> simp only [YO,zFC,zFg,reduceCtorEq] at h <;> obtain ⟨rfl,-⟩:=h
 ·exact Yl.pure (fun W=>by rw [binOp_add];rfl) rfl
 ·exact Yl.pure (fun W=>by rw [binOp_sub];rfl) rfl
 ·exact Yl.pure (fun W=>by rw [binOp_mul];rfl) rfl
 ·exact Yl.pure (fun W=>by rw [binOp_and];rfl) rfl
 ·exact Yl.pure (fun W=>by rw [binOp_or];rfl) rfl
 ·exact Yl.pure (fun W=>by rw [binOp_xor];rfl) rfl
 ·exact Yl.pure (fun W=>by rw [binOp_andNot];rfl) rfl
 ·exact Yl.pure (fun W=>by rw [binOp_eql];rfl) rfl
 ·exact Yl.pure (fun W=>by rw [binOp_neq];rfl) rfl
 ·exact Yl.pure (fun W=>by rw [binOp_lss];rfl) rfl
 ·exact Yl.pure (fun W=>by rw [binOp_leq];rfl) rfl
 ·exact Yl.pure (fun W=>by rw [binOp_gtr];rfl) rfl
 ·exact Yl.pure (fun W=>by rw [binOp_geq];rfl) rfl
theorem zDA {op:BinOp} {t:TypeId} {x y:Operand} {k:IntKind} {n:Int} {v:Value}:eqGuard op t x y (.int k n) v=pure ():=by
 cases op <;> rfl
theorem zEG {M:Nat -> Prop} {op:BinOp} {t:TypeId} {x y:DV} {vx vy:Value} {d:DV} {vc:Prop} (ox oy:Operand) (hx:AQ M w x ρ vx) (hy:AQ M w y ρ vy) (h:YP (Qb P t) op x y=some (d,vc)) (hv:vc):
 Yl P N w M ρ (do eqGuard op t ox oy vx vy;binOp op t vx vy) d:=by
 have key: ∀ {k k':IntKind} {n n':Int},vx= .int k n -> vy= .int k' n' -> Yl P N w M ρ (binOp op t (.int k n) (.int k' n')) d -> Yl P N w M ρ (do eqGuard op t ox oy vx vy;binOp op t vx vy) d:=by
  intro k k' n n' e1 e2 hY;subst e1;subst e2;rw [zDA];exact hY
 have hb:Qb P t=1 -> P.underlying t=some .bool:=fun h=>by
  unfold Qb at h;split at h
  ·assumption
  ·cases h
  ·cases h
 have bx:Qb P t=2 -> ∃ e,P.underlying t=some (.slice e):=fun h=>by
  unfold Qb at h;split at h
  ·cases h
  ·exact ⟨_,by assumption⟩
  ·cases h
 have oW: ∀ {e:TypeId} {a:Addr} {l c:Nat} (W:World),P.underlying t=some (.slice e) -> (do eqGuard .eql t ox oy (.slice (some a) l c) (.slice none 0 0);binOp .eql t (.slice (some a) l c) (.slice none 0 0):Sem Value).run P W= .ok (.bool false) W:=by
  intro e a l c W hu;have h1:eqGuard .eql t ox oy (.slice (some a) l c) (.slice none 0 0)=pure ():=rfl;rw [h1]
  show (binOp .eql t (.slice (some a) l c) (.slice none 0 0)).run P W=_
  simp only [binOp];simp [run_equal_slice_nil W t e (some a) l c hu]
 have xc: ∀ {e:TypeId} {a:Addr} {l c:Nat} (W:World),P.underlying t=some (.slice e) -> (do eqGuard .neq t ox oy (.slice (some a) l c) (.slice none 0 0);binOp .neq t (.slice (some a) l c) (.slice none 0 0):Sem Value).run P W= .ok (.bool true) W:=by
  intro e a l c W hu;have h1:eqGuard .neq t ox oy (.slice (some a) l c) (.slice none 0 0)=pure ():=rfl;rw [h1]
  show (binOp .neq t (.slice (some a) l c) (.slice none 0 0)).run P W=_
  simp only [binOp];simp [run_equal_slice_nil W t e (some a) l c hu]
 unfold YP at h;split at h
 ·split at h
  ·rename_i e;cases h;have e1:vx= .bool _:=hx;have e2:vy= .bool _:=hy;subst e1;subst e2;exact Yl.pure (fun W=>run_eql_bool W t _ _ (hb e)) rfl
  ·cases h
 ·split at h
  ·rename_i e;cases h;have e1:vx= .bool _:=hx;have e2:vy= .bool _:=hy;subst e1;subst e2;exact Yl.pure (fun W=>run_neq_bool W t _ _ (hb e)) rfl
  ·cases h
 ·split at h
  ·rename_i e;cases h;obtain ⟨e0,he⟩:=bx e;obtain ⟨ad,cap,rfl,h1,h2,h3⟩:=hx;obtain ⟨b,o,rfl,_⟩:=h3 0 hv;have e2:vy= .slice none 0 0:=hy;subst e2;exact Yl.pure (fun W=>oW W he) rfl
  ·cases h
 ·split at h
  ·rename_i e;cases h;obtain ⟨e0,he⟩:=bx e;obtain ⟨ad,cap,rfl,h1,h2,h3⟩:=hx;obtain ⟨b,o,rfl,_⟩:=h3 0 hv;have e2:vy= .slice none 0 0:=hy;subst e2;exact Yl.pure (fun W=>oW W he) rfl
  ·cases h
 ·split at h
  ·rename_i e;cases h;obtain ⟨e0,he⟩:=bx e;obtain ⟨ad,cap,rfl,h1,h2,h3⟩:=hx;obtain ⟨b,o,rfl,_⟩:=h3 0 hv;have e2:vy= .slice none 0 0:=hy;subst e2;exact Yl.pure (fun W=>xc W he) rfl
  ·cases h
 ·cases h;refine key hx hy ?_;exact Yl.pure (fun W=>by rw [binOp_shl,shift_shl _ _ _ _ hv.1 hv.2];rfl) rfl
 ·cases h;refine key hx hy ?_;exact Yl.pure (fun W=>by rw [binOp_shr,shift_shr _ _ _ _ hv.1 hv.2];rfl) rfl
 ·split at h
  ·rename_i e;subst e;cases h;exact key hx hy (Yl.pure (fun W=>by rw [binOp_quo,Op.intDiv,zBP hv];rfl) rfl)
  ·cases h
 ·split at h
  ·rename_i e;subst e;cases h;exact key hx hy (Yl.pure (fun W=>by rw [binOp_rem,Op.intDiv,zBP hv];rfl) rfl)
  ·cases h
 ·split at h
  ·rename_i e;subst e;exact key hx hy (tv t h M)
  ·cases h
 ·cases h
theorem HQ {ρ':Operand -> Value} {o:Oper} {s:Sem Value} {M:Nat -> Prop} {d:DV} (he:execOp ρ' o=(do pure (.value (←s)))) (h:Yl P N w M ρ s d): ∃ v,(∀ W,Keep N w W -> (execOp ρ' o).run P W= .ok (.value v) W)/\ AQ M w d ρ v:=by
 obtain ⟨v,h1,h2⟩:=h;refine ⟨v,fun W hE=>?_,h2⟩;rw [he,zBx,h1 W hE];rfl
theorem zCx {s:TypeId} {f off sz:Nat} (h:Xt P s f=some (off,sz)): ∃ fs fd i,P.underlying s=some (.struct fs)/\ fs[f]? =some fd/\ fd.offset=off/\ P.info? fd.type=some i/\ i.size=sz/\ sz≠0:=by
 unfold Xt at h;split at h
 ·rename_i fs hs;split at h
  ·rename_i fd hf;split at h
   ·rename_i i hi;split at h
    ·cases h
    ·cases h;exact ⟨fs,fd,i,hs,hf,rfl,hi,rfl,by assumption⟩
   ·cases h
  ·cases h
 ·cases h
theorem ZV {s:TypeId} {f off sz b o:Nat} (h:Xt P s f=some (off,sz)) (W:World):(Instr.fieldAt s (.pointer (some ⟨b,o,none⟩)) f).run P W= .ok (.pointer (some ⟨b,o+off,none⟩)) W:=by
 obtain ⟨fs,fd,i,h1,h2,rfl,h4,rfl,h6⟩:=zCx h;unfold Instr.fieldAt;rw [zBx,zDE h1];simp only [Result.andThen,h2,Instr.sureAddr];simp only [zBx,zGN,Result.andThen,fieldPlace,JS h4,zBP h6,JH]
theorem ym {t:TypeId} {k:IntKind} (h:bN P t=some k):P.underlying t=some (.int k):=by
 unfold bN at h;split at h
 ·cases h;assumption
 ·cases h
theorem RU {t ty:TypeId} {e:TypeId} {ad:Option Addr} {n c:Nat} (h:P.underlying t=some (.slice e)) (W:World):(Builtin.len_ #[t] ty #[.slice ad n c]).run P W= .ok (.int .i64 n) W:=by
 simp [Builtin.len_,zDE h,goInt]
theorem tm {t ty:TypeId} {s:ByteArray} (h:P.underlying t=some .string) (W:World):(Builtin.len_ #[t] ty #[.string s]).run P W= .ok (.int .i64 s.size) W:=by
 simp [Builtin.len_,zDE h,goInt]
theorem dV {M:Nat -> Prop} {ρ':Operand -> Value} {o:Oper} {c:Call} {b:Builtin} {d:DV} {s:Sem Value} (ho:o.op= .call c) (hc:c.callee= .builtin b)
 (hb:builtin b c.argTypes o.type (c.args.map fun | .const _=>true | _=>false) (c.args.map ρ')=(do pure (.value (←s)))) (h:Yl P N w M ρ s d):
 ∃ v,(∀ W,Keep N w W -> (execOp ρ' o).run P W= .ok (.value v) W)/\ AQ M w d ρ v:=by
 refine HQ (s:=s) ?_ h;rw [←hb];unfold execOp;rw [ho]
 show (resolve ρ' c o.type>>=fun d=>invoke d.target d.args)=_
 unfold resolve;rw [hc];rfl
theorem yF {M:Nat -> Prop} {t ty:TypeId} {x d:DV} {vc:Prop} {v:Value} (hx:AQ M w x ρ v) (h:Wg P t x=some (d,vc)):Yl P N w M ρ (Builtin.len_ #[t] ty #[v]) d:=by
 unfold Wg at h;split at h
 ·rename_i e' hu;cases h;rw [show v=_ from hx];exact Yl.pure (fun W=>RU hu W) rfl
 ·rename_i e' l hu;cases h;obtain ⟨ad,cap,rfl,_⟩:=hx;exact Yl.pure (fun W=>RU hu W) rfl
 ·rename_i e' l hu;cases h;obtain ⟨ad,cap,rfl,_⟩:=hx;exact Yl.pure (fun W=>RU hu W) rfl
 ·rename_i e' m n f hu;cases h;obtain ⟨ad,cap,rfl,_⟩:=hx;exact Yl.pure (fun W=>RU hu W) rfl
 ·rename_i e' k m off n hu;cases h;obtain ⟨p,cap,_,rfl,_⟩:=hx;exact Yl.pure (fun W=>RU hu W) rfl
 ·rename_i s hu;cases h;rw [show v=_ from hx];exact Yl.pure (fun W=>tm hu W) rfl
 ·cases h
theorem fa {α:Type} {l:Array α} {x:α} (h:l.toList= [x]):l= #[x]:=by cases l;simp at h;rw [h]
theorem Uw {α:Type} {l:Array α} {x y:α} (h:l.toList= [x,y]):l= #[x,y]:=by cases l;simp at h;rw [h]
theorem zD9 (R:An P Γ N S ρ a w) (o:Oper) {c:Call} {b:Builtin} {d:DV} {vc:Prop} (ho:o.op= .call c) (hc:c.callee= .builtin b) (h:YL P S b c.args.toList c.argTypes.toList=some (d,vc)):
 ∃ v,(∀ W,Keep N w W -> (execOp a.eval o).run P W= .ok (.value v) W)/\ AQ (MS N S.h ρ) w d ρ v:=by
 have D4:=fun x=>Bx R x
 unfold YL at h;split at h
 ·split at h
  ·rename_i x ha;split at h
   ·rename_i t ht;exact dV (s:=Builtin.len_ #[t] o.type #[a.eval x]) ho hc (by rw [fa ha,fa ht];simp [builtin]) (yF (D4 x) h)
   ·cases h
  ·cases h
 ·split at h
  ·rename_i x y ha;have hx:=D4 x;have hy:=D4 y;unfold af at h;split at h
   ·rename_i k n k' n' e1 e2;cases h;rw [e1] at hx;rw [e2] at hy;refine dV (s:=Builtin.max_ c.argTypes o.type #[a.eval x,a.eval y]) ho hc (by rw [Uw ha];simp [builtin]) ?_;rw [show a.eval x=_ from hx,show a.eval y=_ from hy];exact Yl.pure (fun W=>by simp [Builtin.max_,Builtin.max2]) rfl
   ·cases h
  ·cases h
 ·split at h
  ·rename_i x y ha;have hx:=D4 x;have hy:=D4 y;unfold ae at h;split at h
   ·rename_i k n k' n' e1 e2;cases h;rw [e1] at hx;rw [e2] at hy;refine dV (s:=Builtin.min_ c.argTypes o.type #[a.eval x,a.eval y]) ho hc (by rw [Uw ha];simp [builtin]) ?_;rw [show a.eval x=_ from hx,show a.eval y=_ from hy];exact Yl.pure (fun W=>by simp [Builtin.min_,Builtin.min2]) rfl
   ·cases h
  ·cases h
 ·cases h
theorem kE (R:An P Γ N S ρ a w) (o:Oper) {d:DV} {vc:Prop} (h:pop P S o.op=some (d,vc)) (hv:vc):
 ∃ v,(∀ W,Keep N w W -> (execOp a.eval o).run P W= .ok (.value v) W)/\ AQ (MS N S.h ρ) w d ρ v:=by
 have D4:=fun x=>Bx R x
 unfold pop at h;split at h
 ·rename_i x ho;cases h;exact ⟨a.eval x,fun W _=>by unfold execOp;rw [ho];rfl,D4 x⟩
 ·rename_i x ho;cases h;exact ⟨a.eval x,fun W _=>by unfold execOp;rw [ho];rfl,D4 x⟩
 ·rename_i c x y ho;have hc:=D4 c;split at h
  ·rename_i e;cases h;rw [e] at hc;exact ⟨a.eval x,fun W _=>by unfold execOp;rw [ho];simp only [show a.eval c= .bool true from hc];rfl,D4 x⟩
  ·rename_i e;cases h;rw [e] at hc;exact ⟨a.eval y,fun W _=>by unfold execOp;rw [ho];simp only [show a.eval c= .bool false from hc];rfl,D4 y⟩
  ·cases h
 ·rename_i t x ho;exact HQ (by unfold execOp;rw [ho]) (lj R (D4 x) h hv)
 ·rename_i op t x y t' ho;exact HQ (by unfold execOp;rw [ho]) (zEG x y (D4 x) (D4 y) h hv)
 ·rename_i op t x ho;have hx:=D4 x;refine HQ (s:=Op.unary op (a.eval x)) (by unfold execOp;rw [ho]) ?_;split at h
  ·rename_i b e;cases h;rw [e] at hx;rw [show a.eval x= .bool b from hx];exact Yl.pure (fun W=>rfl) rfl
  ·rename_i k n e;cases h;rw [e] at hx;rw [show a.eval x= .int k n from hx];exact Yl.pure (fun W=>rfl) rfl
  ·rename_i k n e;cases h;rw [e] at hx;rw [show a.eval x= .int k n from hx];exact Yl.pure (fun W=>rfl) rfl
  ·cases h
 ·rename_i ts td x ho;have hx:=D4 x;split at h
  ·rename_i dd k k' n hs hd e;cases h;rw [e] at hx;refine HQ (s:=convert ts td (a.eval x)) (by unfold execOp;rw [ho]) ?_;rw [show a.eval x= .int k' n from hx];refine Yl.pure (v:=.int k (k.wrap n)) (fun W=>?_) rfl;simp [convert,zDE hs,zDE (ym hd),Conv.intToInt]
  ·cases h
 ·rename_i x ho;have hx:=D4 x;split at h
  ·rename_i m f e;cases h;rw [e] at hx;obtain ⟨b,oo,hb,hr⟩:=Xk hx;exact ⟨_,fun W _=>by unfold execOp;rw [ho];simp only [hb];rfl,b,oo,rfl,hr⟩
  ·rename_i k j e;cases h;rw [e] at hx;obtain ⟨p,hp,hb⟩:=hx;exact ⟨_,fun W _=>by unfold execOp;rw [ho];simp only [hb];rfl,p,hp,rfl⟩
  ·rename_i k m i j e;cases h;rw [e] at hx;obtain ⟨p,hp,hb⟩:=hx;exact ⟨_,fun W _=>by unfold execOp;rw [ho];simp only [hb];rfl,p,hp,rfl⟩
  ·rename_i g m c e;cases h;rw [e] at hx;obtain ⟨lb,hb,hr⟩:=hx;exact ⟨_,fun W _=>by unfold execOp;rw [ho];simp only [hb];rfl,lb,rfl,hr⟩
  ·cases h
 ·rename_i st x f ho;have hx:=D4 x;split at h
  ·rename_i off sz hf;refine HQ (s:=Instr.fieldAt st (a.eval x) f) (by unfold execOp;rw [ho]) ?_;split at h
   ·rename_i m g e;split at h
    ·cases h;rw [e] at hx;obtain ⟨b,oo,hb,hr⟩:=Xk hx;rw [hb];refine Yl.pure (fun W=>ZV hf W) ⟨b,_,rfl,fun j hj=>?_⟩;obtain ⟨g1,u,g2,g3⟩:=hr (off+j) (by omega);exact ⟨g1,u,by rw [zDG];exact g2,zIO hj g3⟩
    ·cases h
   ·rename_i k j e;cases h;rw [e] at hx;obtain ⟨p,hp,hb⟩:=hx;rw [hb];exact Yl.pure (fun W=>ZV hf W) ⟨p,hp,by rw [zDG]⟩
   ·rename_i k m i j e;cases h;rw [e] at hx;obtain ⟨p,hp,hb⟩:=hx;rw [hb];exact Yl.pure (fun W=>ZV hf W) ⟨p,hp,by rw [zDG,zDG]⟩
   ·cases h
  ·cases h
 ·rename_i t x i ho;have hi:=D4 i;split at h
  ·rename_i k n e;rw [e] at hi;refine HQ (s:=Instr.indexAt t (a.eval x) (a.eval i)) (by unfold execOp;rw [ho]) ?_;rw [show a.eval i= .int k n from hi];exact zN R (D4 x) h hv
  ·cases h
 ·rename_i x i ho;have hx:=D4 x;split at h
  ·rename_i m f e;split at h
   ·rename_i hi;cases h;rw [e] at hx;obtain ⟨cs,hb,hs,hr⟩:=hx;obtain ⟨u,g1,g2⟩:=hr i hi;refine HQ (s:=Instr.extract (a.eval x) i) (by unfold execOp;rw [ho]) ?_;rw [hb];exact Yl.pure (fun W=>by simp [Instr.extract,g1]) g2
   ·cases h
  ·cases h
 ·rename_i g first c ho
  split at h
  ·rename_i hf;cases h;refine ⟨.func (.func g) #[] (c.map a.eval),fun W _=>?_,c.map a.eval,rfl,by simp,fun j hj=>?_⟩
   ·unfold execOp;rw [ho];have:first= #[]:=zF2 hf
    subst this;simp [Instr.makeFunc]
   ·refine ⟨a.eval (c.getD j (.const undef)),by simp [hj],zIO hj (D4 _)⟩
  ·cases h
 ·rename_i c ho;split at h
  ·rename_i b hc;exact zD9 R o ho hc h
  ·cases h
 ·cases h
end
end Go.Proofs.YtekkngkphejfcaaGreatDoor
namespace Go.Proofs.YtekkngkphejfcaaGreatDoor
abbrev zA9:=@Option.bind_some
abbrev zBD:=@List.getElem?_eq_getElem
abbrev zBn:=@List.getElem?_map
abbrev zCC:=@List.length_append
abbrev zCD:=@List.length_replicate
abbrev zCH:=@Int.le_refl
abbrev zCL:=@Option.map_some
abbrev zEz:=@List.getElem_of_mem
abbrev zE0:=@Nat.mul_one
abbrev zE4:=@List.length_map
abbrev zE5:=@List.eq_nil_of_length_eq_zero
abbrev zFB:=@List.length_cons
abbrev zFr:=@List.getElem?_range
abbrev zFs:=@Option.getD_some
abbrev zFu:=@Nat.div_lt_iff_lt_mul
abbrev zF3:=@Go.heap_alloc_new
abbrev zGc:=@List.flatMap_cons
abbrev zGd:=@List.size_toArray
abbrev zGu:=@Nat.le_of_eq
abbrev zGx:=@Nat.mod_lt
end Go.Proofs.YtekkngkphejfcaaGreatDoor
namespace Go.Proofs.YtekkngkphejfcaaGreatDoor
open Go.RowKit
def NQ:DV -> Bool
 | .any=>false
 | .agg .. =>false
 | .tup .. =>false
 | .it _=>false
 | .yl _=>false
 | .mri .. =>false
 | _=>true
def I8:DV -> Option (List DV)
 | .agg m f=>some ((List.range m).map f)
 | .any=>none
 | .tup .. =>none
 | .it _=>none
 | .yl _=>none
 | .mri .. =>none
 | d=>some [d]
def PH:DV -> Bool
 | .int .. =>true
 | .bool _=>true
 | .str _=>true
 | .nils=>true
 | .ints _=>true
 | .bools _=>true
 | .sl .. =>true
 | _=>false
section
variable {P:Program} {Γ:A6} {N:Nat -> Prop} {S:St} {ρ:List AN} {a:Act} {w:World}
theorem WR {M:Nat -> Prop} {d:DV} {v:Value} (h:NQ d=true) (hr:AQ M w d ρ v):v.oneCell'=true/\ v.cells= #[v]:=by
 have key:(∀ cs,v≠.agg cs) -> (∀ cs,v≠.tuple cs) -> v.oneCell'=true/\ v.cells= #[v]:=fun h1 h2=>by
  cases v <;> first | exact ⟨rfl,rfl⟩ | exact absurd rfl (h1 _) | exact absurd rfl (h2 _)
 cases d with
 | any=>cases h
 | agg m f=>cases h
 | tup m f=>cases h
 | nils=>exact key (fun cs e=>by rw [hr] at e;cases e) (fun cs e=>by rw [hr] at e;cases e)
 | int k n=>exact key (fun cs e=>by rw [hr] at e;cases e) (fun cs e=>by rw [hr] at e;cases e)
 | bool b=>exact key (fun cs e=>by rw [hr] at e;cases e) (fun cs e=>by rw [hr] at e;cases e)
 | str s=>exact key (fun cs e=>by rw [hr] at e;cases e) (fun cs e=>by rw [hr] at e;cases e)
 | ints l=>obtain ⟨_,_,rfl,_⟩:=hr;exact ⟨rfl,rfl⟩
 | bools l=>obtain ⟨_,_,rfl,_⟩:=hr;exact ⟨rfl,rfl⟩
 | sl m n f=>obtain ⟨_,_,rfl,_⟩:=hr;exact ⟨rfl,rfl⟩
 | fp m f=>obtain ⟨_,_,rfl,_⟩:=hr;exact ⟨rfl,rfl⟩
 | ref k j=>obtain ⟨_,_,rfl⟩:=hr;exact ⟨rfl,rfl⟩
 | msl k m off n=>obtain ⟨_,_,_,rfl,_⟩:=hr;exact ⟨rfl,rfl⟩
 | mp k m i j=>obtain ⟨_,_,rfl⟩:=hr;exact ⟨rfl,rfl⟩
 | fn g m c=>obtain ⟨_,rfl,_⟩:=hr;exact ⟨rfl,rfl⟩
 | it k=>cases h
 | yl l=>cases h
 | mse k m o n=>obtain ⟨_,_,_,_,rfl,_⟩:=hr;exact ⟨rfl,rfl⟩
 | mri k i=>cases h
 | cst u=>obtain ⟨rfl,hu⟩:=hr;cases v <;> first | exact ⟨rfl,rfl⟩ | (cases hu;done)
theorem T7 {M:Nat -> Prop} {d:DV} {v:Value} {l:List DV} (h:I8 d=some l) (hr:AQ M w d ρ v):v.cells.size=l.length/\ ∀ j,j<l.length -> ∃ u,v.cells[j]? =some u/\ AQ M w (l.getD j .any) ρ u:=by
 have one:NQ d=true -> l= [d] -> v.cells.size=l.length/\ ∀ j,j<l.length -> ∃ u,v.cells[j]? =some u/\ AQ M w (l.getD j .any) ρ u:=by
  intro h1 h2;subst h2;rw [(WR h1 hr).2];refine ⟨rfl,fun j hj=>?_⟩;have:j=0:=by simpa using hj
  subst this;exact ⟨v,rfl,hr⟩
 cases d with
 | any=>cases h
 | tup m f=>cases h
 | it k=>cases h
 | yl l=>cases h
 | mse k m o n=>cases h;exact one rfl rfl
 | mri k i=>cases h
 | cst u=>exact one rfl (zBK h).symm
 | agg m f=>
  cases h;obtain ⟨cs,rfl,hs,hc⟩:=hr;refine ⟨by simpa [Value.cells] using hs,fun j hj=>?_⟩;have BI:j<m:=by simpa using hj
  obtain ⟨u,h1,h2⟩:=hc j BI;exact ⟨u,h1,by simpa [BI] using h2⟩
 | nils=>cases h;exact one rfl rfl
 | int k n=>cases h;exact one rfl rfl
 | bool b=>cases h;exact one rfl rfl
 | str s=>cases h;exact one rfl rfl
 | ints l=>cases h;exact one rfl rfl
 | bools l=>cases h;exact one rfl rfl
 | sl m n f=>cases h;exact one rfl rfl
 | fp m f=>cases h;exact one rfl rfl
 | ref k j=>cases h;exact one rfl rfl
 | msl k m off n=>cases h;exact one rfl rfl
 | mp k m i j=>cases h;exact one rfl rfl
 | fn g m c=>cases h;exact one rfl rfl
theorem aJ {M:Nat -> Prop} {d:DV} {v:Value} (h:PH d=true) (hr:AQ M w d ρ v):AQ M w d [] v:=by
 cases d <;> first | exact hr | (cases h;done)
structure DY (P:Program) (Γ:A6) (N:Nat -> Prop) (h:DH) (ρ:List AN) (w:World) (ext:Bool) (d:DV) (h':DH) (v:Value) (w':World):Prop where
 ex: ∃ ρ',BX P Γ N h' ρ' w'/\ AQ (MS N h' ρ') w' d ρ' v/\ BL h ρ w h' ρ' w'/\ (∀ (k:Nat) (p:AN),ρ[k]? =some p -> ρ'[k]? =some p)
 ext:ext=true -> A4 w w'
def Bb (P:Program) (s:Sem Next) (w:World) (G:Value -> World -> Prop):Prop:=
 (∃ v w',s.run P w= .ok (.value v) w'/\ G v w')∨(∃ w',s.run P w= .ok .skip w'/\ G undef w')∨
 (∃ f args w',s.run P w= .ok (.enter f args) w'/\ Calls P f args w' fun e CX=>∃ v,e= .returned v/\ G v CX)
theorem Bb.value {G:Value -> World -> Prop} {ρ':Operand -> Value} {o:Oper} {s:Sem Value} {v:Value} {w':World} (he:execOp ρ' o=(do pure (.value (←s)))) (h:s.run P w= .ok v w') (hG:G v w'):Bb P (execOp ρ' o) w G:=
 .inl ⟨v,w',by rw [he,zBx,h];rfl,hG⟩
theorem Bb.skip {G:Value -> World -> Prop} {ρ':Operand -> Value} {o:Oper} {s:Sem Unit} {w':World} (he:execOp ρ' o=(do s;pure .skip)) (h:s.run P w= .ok () w') (hG:G undef w'):Bb P (execOp ρ' o) w G:=
 .inr (.inl ⟨w',by rw [he,zBx,h];rfl,hG⟩)
def D5 (w:World) (room:Nat):AN:=⟨w.heap.size,0,room,undef,fun b=>b=w.heap.size⟩
theorem QA (H:BX P Γ N S.h ρ w) {cs:Array Value} {t:TypeId} {o:DO} {d:DV} {v:Value} {w1:World} (TJ:A4 w w1/\ w1.heap.size=w.heap.size)
 (ho: ∀ M ρ',Ba (MS N S.h ρ) w ρ M (w1.alloc (.cells cs t)) ρ' -> DD P M (w1.alloc (.cells cs t)) ρ' (D5 w cs.size) o)
 (hv: ∀ M ρ',ρ'[S.h.length]? =some (D5 w cs.size) -> AQ M (w1.alloc (.cells cs t)) d ρ' v) (ext:Bool):
 DY P Γ N S.h ρ w ext d (S.h++[some o]) v (w1.alloc (.cells cs t)):=by
 have hE:A4 w (w1.alloc (.cells cs t)):=TJ.1.allocR _;have hf: ∀ b,(D5 w cs.size).foot b -> w.heap.size<=b:=fun b hb=>zGu (Eq.symm hb)
 have hb:(w1.alloc (.cells cs t)).heap[w.heap.size]? =some (.cells cs t (0,0)):=by rw [←TJ.2];exact zF3 w1 _
 refine ⟨⟨ρ++[D5 w cs.size],H.snoc hE (fun b hx=>⟨hf b hx,.cells (c:=cs) (t:=t) (z:=(0,0)) (by rw [show b=w.heap.size from hx];exact hb)⟩) (ho _ _ (Ba.snoc H hE hf)),?_,BL.snoc H hE hf,fun k p hk=>D9 hk⟩,fun _=>hE⟩;exact hv _ _ (by rw [←H.len];simp)
theorem Mw {cs:Array Value} {t:TypeId} {w1:World} (hs:w1.heap.size=w.heap.size) {n:Nat} {R:Nat -> Value -> Prop} (hn:n<=cs.size) (hR: ∀ j,j<n -> ∃ u,cs[j]? =some u/\ R j u):Ag (w1.alloc (.cells cs t)) (D5 w cs.size) n R:=by
 refine ⟨rfl,cs,t,?_,by simpa [D5] using hn,zBa _,fun j hj=>by simpa [D5] using hR j hj⟩
 show (w1.alloc (.cells cs t)).heap[w.heap.size]? =_
 rw [←hs];exact zF3 w1 _
theorem zEC (R:An P Γ N S ρ a w) {x:Operand} {t:TypeId} {l:List DV} (h:I8 (Ao S.fr x)=some l) (o:Oper) (ho:o.op= .box t x) (ext:Bool):
 Bb P (execOp a.eval o) w (DY P Γ N S.h ρ w ext (.ref S.h.length 0) (S.h++[some (.cells l)])):=by
 obtain ⟨h1,h2⟩:=T7 h (Bx R x);refine Bb.value (s:=Instr.box t (a.eval x)) (by unfold execOp;rw [ho]) (v:=.pointer (some ⟨w.heap.size,0,none⟩)) (w':=w.alloc (.cells (a.eval x).cells t)) ?_ ?_
 ·rfl
 ·refine QA (d:=.ref S.h.length 0) R.hr ⟨A4.refl w,rfl⟩ (fun M ρ' O=>?_) (fun M ρ' hp=>⟨_,hp,rfl⟩) ext;refine Mw rfl (by omega) fun j hj=>?_
  obtain ⟨u,g1,g2⟩:=h2 j hj;exact ⟨u,g1,g2.out _ O⟩
theorem zEf (R:An P Γ N S ρ a w) {t:TypeId} {i:TypeInfo} {z:Value} (hi:P.info? t=some i) (hz:i.zero=some z) (o:Oper) (ho:o.op= .alloc t) (ext:Bool):
 Bb P (execOp a.eval o) w (DY P Γ N S.h ρ w ext (.ref S.h.length 0) (S.h++[some (.cells (z.cells.toList.map Fg))])):=by
 refine Bb.value (s:=Instr.alloc t true (.tuple #[])) (by unfold execOp;rw [ho]) (v:=.pointer (some ⟨w.heap.size,0,none⟩)) (w':=w.alloc (.cells z.cells t)) ?_ ?_
 ·simp [Instr.alloc,zeroValue,typeInfo,hi,hz,newVar,newRow,newObj];rfl
 ·refine QA (d:=.ref S.h.length 0) R.hr ⟨A4.refl w,rfl⟩ (fun M ρ' O=>?_) (fun M ρ' hp=>⟨_,hp,rfl⟩) ext;refine Mw rfl (by simp) fun j hj=>?_
  have BI:j<z.cells.size:=by simpa using hj
  refine ⟨z.cells[j],by simp [BI],?_⟩;have:(z.cells.toList.map Fg).getD j .any=Fg z.cells[j]:=by simp [BI]
  rw [this];exact Sq _
def oR:Value -> Bool
 | .bool false=>true
 | _=>false
def Ye (z:Value):Bool:=decide (2<z.cells.size)&&z.cells.toList.all oR
theorem zEg (R:An P Γ N S ρ a w) {t:TypeId} {i:TypeInfo} {z:Value} (hi:P.info? t=some i) (hz:i.zero=some z) (hb:Ye z=true) (o:Oper) (ho:o.op= .alloc t) (ext:Bool):
 Bb P (execOp a.eval o) w (DY P Γ N S.h ρ w ext (.mp S.h.length 1 0 0) (S.h++[some (.bools (List.replicate z.cells.size false))])):=by
 refine Bb.value (s:=Instr.alloc t true (.tuple #[])) (by unfold execOp;rw [ho]) (v:=.pointer (some ⟨w.heap.size,0,none⟩)) (w':=w.alloc (.cells z.cells t)) ?_ ?_
 ·simp [Instr.alloc,zeroValue,typeInfo,hi,hz,newVar,newRow,newObj];rfl
 ·refine QA (d:=.mp S.h.length 1 0 0) R.hr ⟨A4.refl w,rfl⟩ (fun M ρ' O=>?_) (fun M ρ' hp=>⟨_,hp,rfl⟩) ext;refine Mw rfl (by simp) fun j hj=>?_
  have BI:j<z.cells.size:=by simpa using hj
  refine ⟨z.cells[j],by simp [BI],?_⟩;simp only [Ye,zBE,zBT] at hb;have:=hb.2 z.cells[j] (by simp);unfold oR at this;split at this
  ·rename_i e;rw [e];simp [BI]
  ·cases this
inductive EK where
 | ints
 | bools
 | gen (m:Nat)
def MH (P:Program) (t:TypeId):Option (EK×TypeId×TypeInfo×Value):=match P.underlying t with
 | some (.slice e)=>match P.info? e with
  | some i=>match i.zero with
   | some z=>if i.size=0 then none else if z.cells.size≠i.size then none else match P.underlying e with
    | some (.int .i64)=>if i.size=1 then (match z with | .int .i64 0=>some (.ints,e,i,z) | _=>none) else none
    | some .bool=>if i.size=1 then (match z with | .bool false=>some (.bools,e,i,z) | _=>none) else none
    | _=>some (.gen i.size,e,i,z)
   | none=>none
  | none=>none
 | _=>none
def EK.cells:EK -> Nat
 | .ints=>1
 | .bools=>1
 | .gen m=>m
theorem X1 {t:TypeId} {k:EK} {e:TypeId} {i:TypeInfo} {z:Value} (h:MH P t=some (k,e,i,z)):P.underlying t=some (.slice e)/\ P.info? e=some i/\ i.zero=some z/\ i.size≠0/\ z.cells.size=i.size/\ k.cells=i.size/\
 (k= .ints -> z= .int .i64 0)/\ (k= .bools -> z= .bool false):=by
 unfold MH at h
 repeat' (split at h)
 all_goals first
  | (cases h;done)
  | skip
 all_goals
  simp only [zFC,zFg] at h;obtain ⟨rfl,rfl,rfl,rfl⟩:=h;refine ⟨by assumption,by assumption,by assumption,by assumption,by simp_all,?_,?_,?_⟩
  ·simp_all [EK.cells]
  ·intro hk;first | rfl | cases hk
  ·intro hk;first | rfl | cases hk
theorem dM {s:Nat} (hs:0<s): ∀ (vs:List Value),(∀ v∈vs,v.cells.size=s) -> ∀ i j,i<vs.length -> j<s -> (vs.flatMap fun v=>v.cells.toList)[i*s+j]? =(vs[i]?).bind (fun v=>v.cells[j]?)
 | [],_,i,j,hi,_=>absurd hi (zBW i)
 | v::vs,hv,i,j,hi,hj=>by
  have H3:v.cells.toList.length=s:=by simpa using hv v (by simp)
  rw [zGc];cases i with
  | zero=>rw [Nat.zero_mul,zBj,zBq (by omega)];simp
  | succ i=>
   rw [zCF (by rw [H3,zGL];omega),H3,show (i+1)*s+j-s=i*s+j by rw [zGL];omega];rw [dM hs vs (fun v h=>hv v (by simp [h])) i j (by simpa using hi) hj];simp
def H2:DV -> Int
 | .int _ n=>n
 | _=>0
def UO:DV -> Bool
 | .bool b=>b
 | _=>false
def Kk:DV -> Bool
 | .int .i64 _=>true
 | _=>false
def bK:DV -> Bool
 | .bool _=>true
 | _=>false
def Qa (k:EK) (ds:List DV):Option DO:=match k with
 | .ints=>if ds.all Kk then some (.ints (ds.map H2)) else none
 | .bools=>if ds.all bK then some (.bools (ds.map UO)) else none
 | .gen m=>if ds.all fun d=>(match I8 d with | some l=>l.length==m&&l.all PH | none=>false) then
  some (.arr m ds.length (fun i j=>match I8 (ds.getD i .any) with | some l=>l.getD j .any | none=>.any)) else none
theorem bI {M:Nat -> Prop} {d:DV} {v:Value} (h:Kk d=true) (hr:AQ M w d ρ v):v= .int .i64 (H2 d):=by
 unfold Kk at h;split at h
 ·exact hr
 ·cases h
theorem yj {M:Nat -> Prop} {d:DV} {v:Value} (h:bK d=true) (hr:AQ M w d ρ v):v= .bool (UO d):=by
 unfold bK at h;split at h
 ·exact hr
 ·cases h
theorem zEB {M:Nat -> Prop} {k:EK} {ds:List DV} {o:DO} {vs:List Value} (hk:0<k.cells) (h:Qa k ds=some o) (hl:vs.length=ds.length) (hv: ∀ i,i<ds.length -> AQ M w (ds.getD i .any) ρ (vs.getD i undef)):
 (∀ v∈vs,v.cells.size=k.cells)/\ ∀ M' (w':World) ρ',Ba M w ρ M' w' ρ' -> ∀ (cs:Array Value) (t:TypeId) (p:AN),cs.toList=(vs.flatMap fun v=>v.cells.toList) -> Ag w' p (ds.length*k.cells) (fun j u=>cs[j]? =some u) -> DD P M' w' ρ' p o:=by
 have one: ∀ {j:Nat},k.cells=1 -> j<ds.length*k.cells -> (∀ v∈vs,v.cells.size=k.cells) -> ∀ {u},(vs.flatMap fun v=>v.cells.toList)[j]? =some u -> (vs[j]?).bind (fun v=>v.cells[0]?)=some u:=fun {j} h1 hj hs {u} hu=>by
  rw [h1] at hj hs;have:=dM (s:=1) (by omega) vs hs j 0 (by omega) (by omega);rw [zE0,zF5] at this;rw [←this];exact hu
 have mem: ∀ v∈vs,∃ i,i<ds.length/\ v=vs.getD i undef/\ vs[i]? =some v:=fun v hv=>by
  obtain ⟨i,hi,rfl⟩:=zEz hv;exact ⟨i,by omega,by simp [hi],by simp [hi]⟩
 have dZ: ∀ i,i<ds.length -> ds.getD i .any∈ds:=fun i hi=>by simp [hi]
 cases k with
 | ints=>
  simp only [Qa] at h;split at h
  ·rename_i ha;cases h;have hI: ∀ i,i<ds.length -> vs.getD i undef= .int .i64 (H2 (ds.getD i .any)):=fun i hi=>bI (zBT.1 ha _ (dZ i hi)) (hv i hi)
   have hs: ∀ v∈vs,v.cells.size=EK.ints.cells:=fun v GR=>by obtain ⟨i,hi,e,_⟩:=mem v GR;rw [e,hI i hi];rfl
   refine ⟨hs,fun M' w' ρ' O cs t p D8 hr=>?_⟩;have hn:ds.length*EK.ints.cells=(ds.map H2).length:=by simp [EK.cells]
   rw [hn] at hr;refine Ag.out hr rfl fun j u hj hu=>?_
   have BI:j<ds.length:=by simpa using hj
   have h2:=one rfl (by simpa [EK.cells] using BI) hs (u:=u) (by rw [←D8];simpa using hu);rw [zBD (by omega)] at h2;have h3:=hI j BI;have h4:vs.getD j undef=vs[j]:=by simp [hl,BI]
   rw [h4] at h3;simp only [zA9,h3] at h2;have:u=Value.int .i64 (H2 (ds.getD j .any)):=by simpa [Value.cells] using h2.symm
   rw [this];simp [BI]
  ·cases h
 | bools=>
  simp only [Qa] at h;split at h
  ·rename_i ha;cases h;have hI: ∀ i,i<ds.length -> vs.getD i undef= .bool (UO (ds.getD i .any)):=fun i hi=>yj (zBT.1 ha _ (dZ i hi)) (hv i hi)
   have hs: ∀ v∈vs,v.cells.size=EK.bools.cells:=fun v GR=>by obtain ⟨i,hi,e,_⟩:=mem v GR;rw [e,hI i hi];rfl
   refine ⟨hs,fun M' w' ρ' O cs t p D8 hr=>?_⟩;have hn:ds.length*EK.bools.cells=(ds.map UO).length:=by simp [EK.cells]
   rw [hn] at hr;refine Ag.out hr rfl fun j u hj hu=>?_
   have BI:j<ds.length:=by simpa using hj
   have h2:=one rfl (by simpa [EK.cells] using BI) hs (u:=u) (by rw [←D8];simpa using hu);rw [zBD (by omega)] at h2;have h3:=hI j BI;have h4:vs.getD j undef=vs[j]:=by simp [hl,BI]
   rw [h4] at h3;simp only [zA9,h3] at h2;have:u=Value.bool (UO (ds.getD j .any)):=by simpa [Value.cells] using h2.symm
   rw [this];simp [BI]
  ·cases h
 | gen m=>
  simp only [Qa] at h;split at h
  ·rename_i ha;cases h;have hm:0<m:=hk
   have hI: ∀ i,i<ds.length -> ∃ l,I8 (ds.getD i .any)=some l/\ l.length=m/\ (∀ d∈l,PH d=true):=fun i hi=>by
    have:=zBT.1 ha _ (dZ i hi);split at this
    ·rename_i l hl;simp only [zBE,zBf] at this;exact ⟨l,hl,this.1,fun d hd=>zBT.1 this.2 d hd⟩
    ·cases this
   have hs: ∀ v∈vs,v.cells.size=(EK.gen m).cells:=fun v GR=>by
    obtain ⟨i,hi,e,_⟩:=mem v GR;obtain ⟨l,h1,h2,_⟩:=hI i hi;rw [e,(T7 h1 (hv i hi)).1,h2];rfl
   refine ⟨hs,fun M' w' ρ' O cs t p D8 hr=>?_⟩;refine Ag.out hr rfl fun j u hj hu=>?_
   have hj0:j<ds.length*m:=hj;have hi:j/m<ds.length:=by rw [zFu hm];exact hj0
   have hc:j % m<m:=zGx _ hm;obtain ⟨l,h1,h2,h3⟩:=hI (j/m) hi;have h4:=dM (s:=m) hm vs hs (j/m) (j % m) (by omega) hc;rw [show j/m*m+j % m=j by rw [zFn];exact Nat.div_add_mod j m] at h4;obtain ⟨_,h5⟩:=T7 h1 (hv (j/m) hi);obtain ⟨u',g1,g2⟩:=h5 (j % m) (by omega);have h6:vs.getD (j/m) undef=vs[j/m]'(by omega):=by simp [hl,hi]
   have AP:j/m<vs.length:=by omega
   rw [zBD AP] at h4;rw [h6] at g1
   have:u=u':=by
    have Bc:(vs.flatMap fun v=>v.cells.toList)[j]? =some u:=by rw [←D8];simpa using hu
    rw [h4] at Bc;simp only [zA9] at Bc;rw [g1] at Bc;exact (zBK Bc).symm
   subst this;simp only [h1];refine AQ.out _ O.nil (aJ (h3 _ ?_) g2);simp [h2,hc]
  ·cases h
theorem ZX {cs:Array Value} {t:TypeId} {w1:World} (hs:w1.heap.size=w.heap.size) {n:Nat} (hn:cs.size=n):Ag (w1.alloc (.cells cs t)) (D5 w n) n (fun j u=>cs[j]? =some u):=by
 subst hn;exact Mw hs (zBa _) fun j hj=>⟨cs[j],by simp [hj],by simp [hj]⟩
def X6 (parts:List (Nat×Operand)) (len:Nat):Bool:=parts.map (·.1)==List.range len
theorem zDT {parts:List (Nat×Operand)} {len:Nat} (h:X6 parts len=true) (f:Operand -> Value):parts.length=len/\ (parts.map fun x=>(x.1,f x.2))=((parts.map fun x=>f x.2).zipIdx 0).map fun x=>(x.2,x.1):=by
 simp only [X6,zBf] at h;have hl:parts.length=len:=by have:=congrArg List.length h;simpa using this
 refine ⟨hl,List.ext_getElem? fun i=>?_⟩
 by_cases hi:i<parts.length
 ·have h1:parts[i].1=i:=by
   have h2:=congrArg (fun l:List Nat=>l[i]?) h;have h3:(List.range len)[i]? =some i:=zFr (by omega);simp only [zBn,zBD hi,zCL,h3] at h2;exact zBK h2
  simp [hi,h1]
 ·rw [zCP (by simpa using hi),zCP (by simpa using hi)]
theorem zEA (R:An P Γ N S ρ a w) {t:TypeId} {len:Nat} {parts:Array (Nat×Operand)} {k:EK} {e:TypeId} {i:TypeInfo} {z:Value} {ob:DO} (hk:MH P t=some (k,e,i,z)) (hd:X6 parts.toList len=true) (Ak:len<=65536/\ k.cells<=64)
 (hb:Qa k (parts.toList.map fun x=>Ao S.fr x.2)=some ob) (o:Oper) (ho:o.op= .buildSlice t len parts) (ext:Bool):
 Bb P (execOp a.eval o) w (DY P Γ N S.h ρ w ext (.msl S.h.length k.cells 0 len) (S.h++[some ob])):=by
 obtain ⟨hu,hi,hz,h0,DL,Em,_,_⟩:=X1 hk;obtain ⟨Fj,hpe⟩:=zDT hd a.eval;have zBS:=Ak.1;have zBR:=Ak.2;have H5:0<k.cells:=by omega
 obtain ⟨hs,Jq⟩:=zEB (w:=w) (M:=MS N S.h ρ) (ρ:=ρ) (vs:=parts.toList.map fun x=>a.eval x.2) H5 hb (by simp) (fun j hj=>by
  have BI:j<parts.toList.length:=by simpa using hj
  have:=Bx R parts.toList[j].2;simp only [u8,zBn,zBD BI,zCL,zFs];exact this)
 have Dt:(parts.toList.map fun x=>a.eval x.2).length=len:=by simpa using Fj
 have BU:((parts.toList.map fun x=>a.eval x.2).flatMap fun v=>v.cells.toList).toArray.size=len*k.cells:=by
  have: ∀ (l:List Value),(∀ v∈l,v.cells.size=k.cells) -> (l.flatMap fun v=>v.cells.toList).length=l.length*k.cells:=by
   intro l
   induction l with
   | nil=>intro _;simp
   | cons v l ih=>intro h;rw [zGc,zCC,ih (fun v hv=>h v (by simp [hv])),zFB,zGL];have:=h v (by simp);simp [this];omega
  simp only [zGd];rw [this _ hs,Dt]
 refine Bb.value (s:=Instr.buildSlice t len (parts.map fun (i,x)=>(i,a.eval x))) (by unfold execOp;rw [ho]) (v:=.slice (some ⟨w.heap.size,0,none⟩) len len) (w':=w.alloc (.cells ((parts.toList.map fun x=>a.eval x.2).flatMap fun v=>v.cells.toList).toArray e)) ?_ ?_
 ·have zm: ¬ len*i.size>2 ^ 24:=by
   have:len*i.size<=65536*64:=Nat.mul_le_mul zBS (by omega);omega
  by_cases N5:len=0
  ·subst N5
   have hp:parts= #[]:=by
    have:parts.toList= []:=zE5 Fj;cases parts;simp at this;simp [this]
   subst hp;have C6:Array.map (fun (x:Nat)=>(default:Value)) (Array.range 0)= #[]:=by simp [Array.range_zero']
   simp [Instr.buildSlice,zDE hu,sizeOf,typeInfo,hi,newRow,Instr.fill,Array.range_zero']
  ·have hp0: ¬ len*i.size=0:=by rw [Nat.mul_eq_zero];omega
   refine run_buildSlice w t e len _ _ i z hu hi hz zm hp0 ?_;have e1:(parts.map fun (i,x)=>(i,a.eval x)).toList=parts.toList.map fun x=>(x.1,a.eval x.2):=by simp
   rw [e1,hpe];exact Great.fill_whole (s:=i.size) (by omega) _ _ (fun v hv=>by rw [hs v hv,Em]) (by rw [Dt,Array.size_map,Array.size_range])
 ·have:=QA (d:=.msl S.h.length k.cells 0 len) (o:=ob) (v:=.slice (some ⟨w.heap.size,0,none⟩) len len) (cs:=((parts.toList.map fun x=>a.eval x.2).flatMap fun v=>v.cells.toList).toArray) (t:=e) R.hr ⟨A4.refl w,rfl⟩
   (fun M ρ' O=>Jq _ _ _ O ((parts.toList.map fun x=>a.eval x.2).flatMap fun v=>v.cells.toList).toArray e _ rfl (by rw [BU,zE4,Fj];exact ZX (w:=w) (w1:=w) (t:=e) rfl BU))
   (fun M ρ' hp=>⟨_,len,hp,by simp [D5],zBa _,by unfold LB;omega,by simp only [D5];rw [BU];omega⟩) ext
  exact this
def ld (k:EK) (n:Nat) (z:Value):DO:=match k with
 | .ints=>.ints (List.replicate n 0)
 | .bools=>.bools (List.replicate n false)
 | .gen m=>.arr m n (fun _ j=>(z.cells.toList.map Fg).getD j .any)
theorem xk (R:An P Γ N S ρ a w) {t:TypeId} {x y:Operand} {k:EK} {e:TypeId} {i:TypeInfo} {z:Value} {kx ky:IntKind} {n:Int} (hk:MH P t=some (k,e,i,z)) (hx:Ao S.fr x= .int kx n) (hy:Ao S.fr y= .int ky n)
 (hn:0<=n/\ n<=1000000000000) (E6:i.bytes<=128) (o:Oper) (ho:o.op= .makeSlice t x y) (ext:Bool):
 Bb P (execOp a.eval o) w (DY P Γ N S.h ρ w ext (.msl S.h.length k.cells 0 n.toNat) (S.h++[some (ld k n.toNat z)])):=by
 obtain ⟨hu,hi,hz,h0,DL,Em,zO,bU⟩:=X1 hk;have H7:=hn.1;have Jr:=hn.2;have rx:=Bx R x;have ry:=Bx R y;rw [hx] at rx;rw [hy] at ry;have D8:(madeCells z.cells (n.toNat*i.size)).size=n.toNat*k.cells:=by rw [size_madeCells,Em]
 refine Bb.value (s:=Instr.makeSlice t (a.eval x) (a.eval y)) (by unfold execOp;rw [ho]) (v:=.slice (some ⟨w.heap.size,0,none⟩) n.toNat n.toNat) (w':=w.alloc (.cells (madeCells z.cells (n.toNat*i.size)) e)) ?_ ?_
 ·rw [show a.eval x=_ from rx,show a.eval y=_ from ry];refine run_make w t e i z hu hi hz kx ky n n H7 (zCH _) ?_ (by omega);have:(i.bytes:Int)*n<=128*1000000000000:=Int.mul_le_mul (by omega) Jr H7 (by omega);omega
 ·refine QA (d:=.msl S.h.length k.cells 0 n.toNat) R.hr ⟨A4.refl w,rfl⟩ (fun M ρ' O=>?_) (fun M ρ' hp=>⟨_,n.toNat,hp,by simp [D5],zBa _,by unfold LB;omega,by simp only [D5];rw [D8];omega⟩) ext;have hr:=ZX (w:=w) (w1:=w) (t:=e) rfl D8;rw [D8]
  have DS: ∀ j u,j<n.toNat*k.cells -> (madeCells z.cells (n.toNat*i.size))[j]? =some u -> z.cells[j % z.cells.size]? =some u:=by
   intro j u hj Bc;have AP:j % z.cells.size<z.cells.size:=zGx _ (by omega);simp only [madeCells] at Bc;have BI:j<n.toNat*i.size:=by rw [←Em];exact hj
   simp [BI] at Bc;rw [←Bc];simp [AP]
  cases k with
  | ints=>
   have TE:=zO rfl;subst TE
   show Ag _ _ (List.replicate n.toNat (0:Int)).length _
   rw [zCD];simp only [EK.cells,zE0] at hr DS ⊢;refine Ag.out hr rfl fun j u hj Bc=>?_
   have:=DS j u hj Bc;have e1:j % (Value.cells (.int .i64 0)).size=0:=by simp [Value.cells,Nat.mod_one]
   rw [e1] at this;simp [Value.cells] at this;rw [←this];simp [hj]
  | bools=>
   have TE:=bU rfl;subst TE
   show Ag _ _ (List.replicate n.toNat false).length _
   rw [zCD];simp only [EK.cells,zE0] at hr DS ⊢;refine Ag.out hr rfl fun j u hj Bc=>?_
   have:=DS j u hj Bc;have e1:j % (Value.cells (.bool false)).size=0:=by simp [Value.cells,Nat.mod_one]
   rw [e1] at this;simp [Value.cells] at this;rw [←this];simp [hj]
  | gen m=>
   refine Ag.out hr rfl fun j u hj Bc=>?_
   have h1:=DS j u hj Bc;have hm:m=z.cells.size:=by rw [DL];exact Em
   have h2:j % m<z.cells.toList.length:=by rw [hm];simpa using zGx _ (by omega)
   have h3:(z.cells.toList.map Fg).getD (j % m) .any=Fg u:=by
    rw [u8,zBn];have:z.cells.toList[j % m]? =some u:=by rw [←h1,hm];simp
    rw [this];rfl
   show AQ M _ ((z.cells.toList.map Fg).getD (j % m) .any) [] u
   rw [h3];exact Sq u
end
end Go.Proofs.YtekkngkphejfcaaGreatDoor
namespace Go.Proofs.YtekkngkphejfcaaGreatDoor
abbrev zFD:=@List.nil_append
abbrev zFG:=@List.foldl_cons
abbrev zFh:=@Array.getElem?_append_left
abbrev zFq:=@List.length_range
abbrev zFv:=@Array.getElem?_modify
abbrev zGO:=@Nat.sub_self
abbrev zGh:=@List.getElem?_toArray
end Go.Proofs.YtekkngkphejfcaaGreatDoor
namespace Go.Proofs.YtekkngkphejfcaaGreatDoor
open Go.RowKit
section
variable {P:Program} {Γ:A6} {N:Nat -> Prop} {S:St} {ρ:List AN} {a:Act} {w:World} {h:DH}
theorem Td (b:Nat) (t:TypeId) (z:Nat×Nat): ∀ (vs:List Value) (o:Nat) (w:World) (Et:Array Value),w.heap[b]? =some (.cells Et t z) -> o+vs.length<=Et.size ->
 ∃ T8,(w.setCells b o vs).heap[b]? =some (.cells T8 t z)/\ T8.size=Et.size/\ ∀ k,T8[k]? =if o<=k/\ k<o+vs.length then vs[k-o]? else Et[k]?
 | [],o,w,Et,hb,_=>⟨Et,hb,rfl,fun k=>by rw [zBP];simp only [zFF];omega⟩
 | v::vs,o,w,Et,hb,hl=>by
  have Ck:o+(vs.length+1)<=Et.size:=hl;obtain ⟨T8,h1,h2,h3⟩:=Td b t z vs (o+1) (w.setCell ⟨b,o,none⟩ v) (Et.setIfInBounds o v) (by simp [World.setCell,zFv,hb]) (by simp;omega);refine ⟨T8,h1,by simpa using h2,fun k=>?_⟩;rw [h3 k,zFB]
  by_cases e:k=o
  ·subst e;rw [zBP (by omega),zAE (by omega),zFO,zAE rfl,zAE (by omega),zGO];rfl
  ·by_cases e2:o+1<=k/\ k<o+1+vs.length
   ·rw [zAE e2,zAE (by omega),show k-o=(k-(o+1))+1 by omega];simp
   ·rw [zBP e2,zBP (by omega)];rw [zFO,zBP (by omega)]
theorem Qv (b:Nat): ∀ (vs:List Value) (o:Nat) (w:World),AV (fun k=>k=b) w (w.setCells b o vs)
 | [],_,w=>AV.refl _ w
 | v::vs,o,w=>((AV.refl (fun k=>k=b) w).setCell (p:=⟨b,o,none⟩) (fun _=>rfl) v).trans (Qv b vs (o+1) (w.setCell ⟨b,o,none⟩ v))
theorem Ag.writes {p:AN} {n:Nat} {R R':Nat -> Value -> Prop} (hr:Ag w p n R) {o:Nat} {vs:List Value} (hl:o+vs.length<=n) (h1: ∀ i v,vs[i]? =some v -> R' (o+i) v)
 (h2: ∀ i u,i<n -> (i<o∨o+vs.length<=i) -> R i u -> R' i u):Ag (w.setCells p.blk (p.off+o) vs) p n R':=by
 obtain ⟨g1,cs,t,g2,g3,g4,g5⟩:=hr;obtain ⟨E9,e1,e2,e3⟩:=Td p.blk t (0,0) vs (p.off+o) w cs g2 (by omega);refine ⟨g1,E9,t,e1,by omega,by omega,fun j hj=>?_⟩;rw [e3]
 by_cases e:p.off+o<=p.off+j/\ p.off+j<p.off+o+vs.length
 ·rw [zAE e];have hi:p.off+j-(p.off+o)<vs.length:=by omega
  refine ⟨vs[p.off+j-(p.off+o)],by simp [hi],?_⟩;have:=h1 (p.off+j-(p.off+o)) _ (by simp [hi]:vs[p.off+j-(p.off+o)]? =some vs[p.off+j-(p.off+o)])
  rwa [show o+(p.off+j-(p.off+o))=j by omega] at this
 ·rw [zBP e];obtain ⟨u,e4,e5⟩:=g5 j hj;exact ⟨u,e4,h2 j u hj (by omega) e5⟩
def Mn (l:List DV) (o:Nat) (ds:List DV):List DV:=(ds.zipIdx).foldl (fun cs x=>cs.set (o+x.2) x.1) l
theorem ZB: ∀ (ds:List DV) (k o:Nat) (l:List DV),((ds.zipIdx k).foldl (fun cs x=>cs.set (o+x.2) x.1) l).length=l.length/\
 ∀ j,j<l.length -> ((ds.zipIdx k).foldl (fun cs x=>cs.set (o+x.2) x.1) l).getD j .any=if o+k<=j/\ j<o+k+ds.length then ds.getD (j-(o+k)) .any else l.getD j .any
 | [],k,o,l=>⟨rfl,fun j _=>by
  rw [zBP]
  ·rfl
  ·simp only [zFF];omega⟩
 | d::ds,k,o,l=>by
  obtain ⟨h1,h2⟩:=ZB ds (k+1) o (l.set (o+k) d);rw [List.zipIdx_cons,zFG];refine ⟨by rw [h1];simp,fun j hj=>?_⟩;rw [h2 j (by simpa using hj),zFB]
  by_cases e:j=o+k
  ·subst e;rw [zBP (by omega),zAE (by omega)];simp [hj]
  ·by_cases e2:o+(k+1)<=j/\ j<o+(k+1)+ds.length
   ·rw [zAE e2,zAE (by omega),show j-(o+k)=(j-(o+(k+1)))+1 by omega];simp
   ·rw [zBP e2,zBP (by omega)];simp only [u8,zCb];rw [zBP (by omega)]
theorem ZA (l:List DV) (o:Nat) (ds:List DV):(Mn l o ds).length=l.length:=(ZB ds 0 o l).1
theorem ZC (l:List DV) (o:Nat) (ds:List DV) {j:Nat} (hj:j<l.length):(Mn l o ds).getD j .any=if o<=j/\ j<o+ds.length then ds.getD (j-o) .any else l.getD j .any:=by
 have:=(ZB ds 0 o l).2 j hj;simpa [Mn] using this
def Mi (P:Program) (S:St) (t:TypeId) (x d:DV):Option (DH×Prop):=match x with
 | .ref k j=>match S.h[k]? with
  | some (some (.cells l))=>match I8 d with
   | some ds=>if P.info? t |>.any (fun i=>i.size==ds.length) then (if ds.all NQ&&decide (j+ds.length<=l.length) then some (S.h.set k (some (.cells (Mn l j ds))),True) else none) else none
   | none=>none
  | _=>none
 | .mp k m i j=>if P.info? t |>.any (fun i=>i.size==1) then match S.h[k]? with
  | some (some (.ints l))=>match d with
   | .int .i64 n=>if m==1&&j==0 then some (S.h.set k (some (.ints (l.set i n))),i<l.length) else none
   | _=>none
  | some (some (.bools l))=>match d with
   | .bool b=>if m==1&&j==0 then some (S.h.set k (some (.bools (l.set i b))),i<l.length) else none
   | _=>none
  | some (some (.arr m' n f))=>if PH d&&(m==m')&&decide (j<m) then some (S.h.set k (some (.arr m n (fun i' j'=>if i'=i/\ j'=j then d else f i' j'))),i<n) else none
  | _=>none
  else none
 | _=>none
theorem wh {d:DV} (h:PH d=true):NQ d=true:=by cases d <;> first | rfl | cases h
theorem iP {t:TypeId} {i:TypeInfo} {b o:Nat} {v:Value} (hi:P.info? t=some i) (hs:v.cells.size=i.size) (hc: ∀ j,j<v.cells.size -> (w.cell? ⟨b,o+j,none⟩).isSome=true) (hf: ∀ j,w.frozen? ⟨b,j,none⟩=false) (h1: ∀ u∈v.cells.toList,u.oneCell'=true):
 (Instr.storeAt t (.pointer (some ⟨b,o,none⟩)) v).run P w= .ok () (w.setCells b o v.cells.toList):=by
 have E5:=run_storeCells_cells (P:=P) b o v.cells.toList 0 w (by simpa using hc) (by simpa using fun j _=>hf _) h1;simp only [zF5] at E5;simp [Instr.storeAt,Instr.sureAddr,storeVar,JS hi,hs,E5]
theorem Xb {α:Type} {l:List α} {i:Nat} {x d:α} (h:l[i]? =some x):l.getD i d=x:=by rw [u8,h];rfl
theorem U6 (R:An P Γ N S ρ a w) {k:Nat} {ob ob':DO} {p:AN} (hk:S.h[k]? =some (some ob)) (hp:ρ[k]? =some p) {n:Nat} {Rw:Nat -> Value -> Prop} (hr:Ag w p n Rw) {o':Nat} {v:Value} {t:TypeId} {i:TypeInfo}
 (hi:P.info? t=some i) (hs:v.cells.size=i.size) (hl:o'+v.cells.size<=n) (h1: ∀ u∈v.cells.toList,u.oneCell'=true)
 (H6: ∀ M ρ' w',Ba (MS N S.h ρ) w ρ M w' ρ' -> w'=w.setCells p.blk (p.off+o') v.cells.toList -> DD P M w' ρ' p ob')
 (o:Oper) (tx x:Operand) (ho:o.op= .store t tx x) (hx:a.eval tx= .pointer (some ⟨p.blk,p.off+o',none⟩)) (hv:a.eval x=v):
 Bb P (execOp a.eval o) w (DY P Γ N S.h ρ w false .any (S.h.set k (some ob'))):=by
 have D7:p.foot=fun b=>b=p.blk:=hr.1
 have hu:AV p.foot w (w.setCells p.blk (p.off+o') v.cells.toList):=by rw [D7];exact Qv _ _ _ _
 refine Bb.skip (s:=Instr.storeAt t (a.eval tx) (a.eval x)) (by unfold execOp;rw [ho]) (w':=w.setCells p.blk (p.off+o') v.cells.toList) ?_ ?_
 ·rw [hx,hv];refine iP hi hs (fun j hj=>?_) (fun j=>hr.frozen j) h1;obtain ⟨u,hc,_⟩:=hr.cell (j:=o'+j) (by omega);rw [zDG,hc];rfl
 ·have DS: ∀ b,p.foot b -> EG (w.setCells p.blk (p.off+o') v.cells.toList) b:=fun b hb=>by
   rw [D7] at hb;obtain ⟨_,cs,t',g2,g3,_⟩:=hr;obtain ⟨c,e1,_⟩:=Td p.blk t' (0,0) v.cells.toList (p.off+o') w cs g2 (by simp;omega);exact .cells (c:=c) (t:=t') (z:=(0,0)) (by rw [show b=p.blk from hb];exact e1)
  exact ⟨⟨ρ,R.hr.write hk hp hu DS (H6 _ _ _ (Ba.write trivial hk hp hu) rfl),trivial,BL.write hk hp hu,fun _ _ h=>h⟩,fun h=>by cases h⟩
theorem gY (R:An P Γ N S ρ a w) {t:TypeId} {tx x:Operand} {h':DH} {vc:Prop} (hd:Mi P S t (Ao S.fr tx) (Ao S.fr x)=some (h',vc)) (hv:vc) (o:Oper) (ho:o.op= .store t tx x):
 Bb P (execOp a.eval o) w (DY P Γ N S.h ρ w false .any h'):=by
 have rx:=Bx R tx;have rv:=Bx R x;unfold Mi at hd;split at hd
 ·rename_i k j e;rw [e] at rx;obtain ⟨p,hp,hx⟩:=rx;split at hd
  ·rename_i l hk;obtain ⟨p',BE,hr⟩:=R.hr.obj k _ hk;have e:p'=p:=zBK (BE.symm.trans hp);subst e;split at hd
   ·rename_i ds Fl;split at hd
    ·rename_i A9;split at hd
     ·rename_i hc;cases hd;simp only [zBE,zCK] at hc;cases hi:P.info? t with
      | none=>rw [hi] at A9;cases A9
      | some i=>
       rw [hi] at A9;have Pk:i.size=ds.length:=by simpa using A9
       obtain ⟨c1,c2⟩:=T7 Fl rv
       have zBB: ∀ u∈(a.eval x).cells.toList,u.oneCell'=true:=fun u hu=>by
        obtain ⟨q,hq,rfl⟩:=zEz hu;have Nv:q<ds.length:=by rw [←c1];simpa using hq
        obtain ⟨u,g1,g2⟩:=c2 q Nv;have h3:=zBT.1 hc.1 (ds.getD q .any) (by simp [Nv]);have h4:=(WR h3 g2).1
        have:(a.eval x).cells.toList[q]=u:=by
         have Gj:q<(a.eval x).cells.size:=by simpa using hq
         rw [zE9 Gj] at g1;simpa using zBK g1
        rw [this];exact h4
       refine U6 R hk hp hr hi (by omega) (o':=j) (by omega) zBB (fun M ρ' w' O Nq=>?_) o tx x ho hx rfl;subst Nq
       show Ag _ _ (Mn l j ds).length _
       rw [ZA];refine Ag.writes hr (by simp;omega) (fun q v hq=>?_) (fun q u hq Gj hu=>?_)
       ·have Pr:q<(a.eval x).cells.size:=by have:=(zBN.1 hq).1;simpa using this
        have Nv:q<ds.length:=by omega
        obtain ⟨u,g1,g2⟩:=c2 q Nv
        have:u=v:=by
         have:(a.eval x).cells[q]? =some v:=by simpa using hq
         rw [this] at g1;exact (zBK g1).symm
        subst this;rw [ZC l j ds (by omega),zAE (by omega),show j+q-j=q by omega];exact g2.out _ O
       ·rw [ZC l j ds hq,zBP (by simp at Gj;omega)];exact hu.out _ O
     ·cases hd
    ·cases hd
   ·cases hd
  ·cases hd
 ·rename_i k m i j e;rw [e] at rx;obtain ⟨p,hp,hx⟩:=rx;split at hd
  ·rename_i A9;cases hi:P.info? t with
   | none=>rw [hi] at A9;cases A9
   | some ti=>
    rw [hi] at A9;have Pk:ti.size=1:=by simpa using A9
    split at hd
    ·rename_i l hk;obtain ⟨p',BE,hr⟩:=R.hr.obj k _ hk;have e:p'=p:=zBK (BE.symm.trans hp);subst e;split at hd
     ·rename_i n ed;split at hd
      ·rename_i hm;cases hd;simp only [zBE,zBf] at hm;obtain ⟨rfl,rfl⟩:=hm;rw [ed] at rv;have ZR:a.eval x= .int .i64 n:=rv;refine U6 R hk hp hr hi (v:=.int .i64 n) (by rw [Pk];rfl) (o':=i) (by simp [Value.cells];omega) (by simp [Value.cells,Value.oneCell']) (fun M ρ' w' O Nq=>?_) o tx x ho (by simpa using hx) ZR;subst Nq
       show Ag _ _ (l.set i n).length _
       rw [zBo];refine Ag.writes hr (by simp [Value.cells];omega) (fun q v hq=>?_) (fun q u hq Gj hu=>?_)
       ·have:q=0:=by have:=(zBN.1 hq).1;simpa [Value.cells] using this
        subst this;have:v= .int .i64 n:=by simpa [Value.cells] using hq.symm
        rw [this];have Ct:i<l.length:=hv;simp [Ct]
       ·rw [hu];simp only [Value.cells,zFB,zFF] at Gj;rw [u8,u8,zCb,zBP (by simp at Gj;omega)]
      ·cases hd
     ·cases hd
    ·rename_i l hk;obtain ⟨p',BE,hr⟩:=R.hr.obj k _ hk;have e:p'=p:=zBK (BE.symm.trans hp);subst e;split at hd
     ·rename_i n ed;split at hd
      ·rename_i hm;cases hd;simp only [zBE,zBf] at hm;obtain ⟨rfl,rfl⟩:=hm;rw [ed] at rv;have ZR:a.eval x= .bool n:=rv;refine U6 R hk hp hr hi (v:=.bool n) (by rw [Pk];rfl) (o':=i) (by simp [Value.cells];omega) (by simp [Value.cells,Value.oneCell']) (fun M ρ' w' O Nq=>?_) o tx x ho (by simpa using hx) ZR;subst Nq
       show Ag _ _ (l.set i n).length _
       rw [zBo];refine Ag.writes hr (by simp [Value.cells];omega) (fun q v hq=>?_) (fun q u hq Gj hu=>?_)
       ·have:q=0:=by have:=(zBN.1 hq).1;simpa [Value.cells] using this
        subst this;have:v= .bool n:=by simpa [Value.cells] using hq.symm
        rw [this];have Ct:i<l.length:=hv;simp [Ct]
       ·rw [hu];simp only [Value.cells,zFB,zFF] at Gj;rw [u8,u8,zCb,zBP (by simp at Gj;omega)]
      ·cases hd
     ·cases hd
    ·rename_i m' n f hk;obtain ⟨p',BE,hr⟩:=R.hr.obj k _ hk;have e:p'=p:=zBK (BE.symm.trans hp);subst e;split at hd
     ·rename_i hm;cases hd;simp only [zBE,zBf,zCK] at hm;obtain ⟨⟨Fj,rfl⟩,hj⟩:=hm;have Ct:i<n:=hv;obtain ⟨o1,o2⟩:=WR (wh Fj) rv
      have bR:i*m+j<n*m:=by
       have:(i+1)*m<=n*m:=zFT _ Ct;rw [zGL] at this;omega
      have AB:0<m:=by omega
      refine U6 R hk hp hr hi (v:=a.eval x) (by rw [Pk,o2];rfl) (o':=i*m+j) (by rw [o2];simp;omega) (by rw [o2];simp [o1]) (fun M ρ' w' O Nq=>?_) o tx x ho hx rfl;subst Nq;refine Ag.writes hr (by rw [o2];simp;omega) (fun q v hq=>?_) (fun q u hq Gj hu=>?_)
      ·rw [o2] at hq;have:q=0:=by have:=(zBN.1 hq).1;simpa using this
       subst this;have:v=a.eval x:=by simpa using hq.symm
       rw [this,zF5];have e1:(i*m+j)/m=i:=by rw [zFn,Nat.mul_add_div AB,Nat.div_eq_of_lt hj,zF5]
       have e2:(i*m+j) % m=j:=by rw [zFn,Nat.mul_add_mod,zGM hj]
       show AQ M _ (if (i*m+j)/m=i/\ (i*m+j) % m=j then Ao S.fr x else f ((i*m+j)/m) ((i*m+j) % m)) [] _
       rw [zAE ⟨e1,e2⟩];exact AQ.out _ O.nil (aJ Fj rv)
      ·rw [o2] at Gj;simp at Gj
       have: ¬ (q/m=i/\ q % m=j):=fun ⟨e1,e2⟩=>by
        have:=Nat.div_add_mod q m;rw [e1,e2,zFn] at this;omega
       show AQ M _ (if q/m=i/\ q % m=j then Ao S.fr x else f (q/m) (q % m)) [] _
       rw [zBP this];exact AQ.out _ O.nil hu
     ·cases hd
    ·cases hd
  ·cases hd
 ·cases hd
theorem MO.kill {k:Nat} {b:Nat} (hb:MO (h.set k none) ρ b):MO h ρ b:=MO.unset hb
theorem F4 {k i:Nat} {o:DO} (hi:(h.set k none)[i]? =some (some o)):i≠k/\ h[i]? =some (some o):=by
 rw [zCb] at hi
 by_cases e:k=i
 ·rw [zAE e] at hi;split at hi <;> cases hi
 ·rw [zBP e] at hi;exact ⟨zGK e,hi⟩
theorem BX.kill (H:BX P Γ N h ρ w) (k:Nat):BX P Γ N (h.set k none) ρ w:=by
 have O:Ba (MS N h ρ) w ρ (MS N (h.set k none) ρ) w ρ:=⟨fun _ _ _ _=>rfl,fun b hb=>.inl (hb.imp id MO.kill),fun _ _ h=>h⟩;refine ⟨by simp [H.len],fun i o hi=>?_,fun i o p b h1 h2 h3=>H.cel i o p b (F4 h1).2 h2 h3,fun i i' o o' p p' b AY h1 h2 h3 h4 h5 h6=>H.dis i i' o o' p p' b AY (F4 h1).2 (F4 h2).2 h3 h4 h5 h6,H.nlt,H.gi⟩;obtain ⟨p,hp,hr⟩:=H.obj i o (F4 hi).2;exact ⟨p,hp,hr.out O (S:=fun _=>False) (AV.refl _ w) (fun _ h=>h.elim) (fun _ _ _ h=>h)⟩
theorem Ba.kill (k:Nat):Ba (MS N h ρ) w ρ (MS N (h.set k none) ρ) w ρ:=⟨fun _ _ _ _=>rfl,fun b hb=>.inl (hb.imp id MO.kill),fun _ _ h=>h⟩
theorem BL.kill (k:Nat):BL h ρ w (h.set k none) ρ w:=⟨AV.refl _ w,fun b hb=>.inl (MO.kill hb)⟩
theorem BX.regrow (H:BX P Γ N h ρ w) {w':World} {k:Nat} {o o':DO} {p p':AN} (hk:h[k]? =some (some o)) (hp:ρ[k]? =some p) (hu:AV p.foot w w') (hf: ∀ b,p'.foot b -> (p.foot b∨w.heap.size<=b)/\ EG w' b)
 (ho:DD P (MS N (h.set k none++[some o']) (ρ++[p'])) w' (ρ++[p']) p' o'):
 BX P Γ N (h.set k none++[some o']) (ρ++[p']) w'/\ BL h ρ w (h.set k none++[some o']) (ρ++[p']) w':=by
 have K:=H.kill k;have Ak:(h.set k none).length=h.length:=by simp
 have hM: ∀ b,p.foot b -> MO h ρ b:=fun b hb=>⟨k,o,p,hk,hp,hb⟩
 have Il: ∀ {i:Nat} {o1:DO} {p1:AN},(h.set k none++[some o'])[i]? =some (some o1) -> (ρ++[p'])[i]? =some p1 -> (i≠k/\ i<h.length/\ h[i]? =some (some o1)/\ ρ[i]? =some p1)∨(i=h.length/\ o1=o'/\ p1=p'):=by
  intro i o1 p1 h1 h2;rcases DT h1 with ⟨hl,h1⟩ | ⟨hl,h1⟩
  ·rw [Ak] at hl;rcases DT h2 with ⟨_,h2⟩ | ⟨Ch,_⟩
   ·exact .inl ⟨(F4 h1).1,hl,(F4 h1).2,h2⟩
   ·rw [H.len] at Ch;omega
  ·rw [Ak] at hl;rcases DT h2 with ⟨Ch,_⟩ | ⟨_,h2⟩
   ·rw [H.len] at Ch;omega
   ·cases h1;exact .inr ⟨hl,rfl,h2.symm⟩
 have grow: ∀ b,MO (h.set k none++[some o']) (ρ++[p']) b -> MO h ρ b∨w.heap.size<=b:=by
  rintro b ⟨i,o1,p1,h1,h2,h3⟩;rcases Il h1 h2 with ⟨_,_,g1,g2⟩ | ⟨_,_,rfl⟩
  ·exact .inl ⟨i,o1,p1,g1,g2,h3⟩
  ·exact (hf b h3).1.imp (hM b) id
 have O:Ba (MS N h ρ) w ρ (MS N (h.set k none++[some o']) (ρ++[p'])) w' (ρ++[p']):=by
  refine ⟨fun b hb hm _=>hu.block b hb fun hx=>hm (.inr (hM b hx)),fun b hb=>?_,fun i q hi=>D9 hi⟩;rcases hb with hb | hb
  ·exact .inl (.inl hb)
  ·exact (grow b hb).imp .inr id
 refine ⟨⟨by simp [H.len],fun i o1 hi=>?_,fun i o1 p1 b h1 h2 h3=>?_,fun i i' o1 o2 p1 p2 b AY h1 h2 h3 h4 h5 h6=>?_,fun b hb=>⟨zBY (H.nlt b hb).1 hu.size,(H.nlt b hb).2⟩,Γ.st _ _ H.gi (hu.mono fun b _ hb=>(H.cel k o p b hk hp hb).1)⟩,⟨hu.mono fun b _ hb=>hM b hb,grow⟩⟩
 ·rcases DT hi with ⟨hl,hi⟩ | ⟨hl,hi⟩
  ·obtain ⟨p1,Lw,hr⟩:=H.obj i o1 (F4 hi).2;refine ⟨p1,D9 Lw,hr.out O hu (fun b hb=>.inr (hM b hb)) fun b _ h1 h2=>H.dis i k o1 o p1 p b (F4 hi).1 (F4 hi).2 hk Lw hp h1 h2⟩
  ·cases hi;exact ⟨p',by rw [hl,Ak,←H.len];simp,ho⟩
 ·rcases Il h1 h2 with ⟨AY,_,g1,g2⟩ | ⟨_,_,rfl⟩
  ·obtain ⟨e1,e2,c,t,z,e3⟩:=H.cel i o1 p1 b g1 g2 h3;exact ⟨e1,e2,c,t,z,(hu.block b (zBG.1 e3).1 fun hx=>H.dis i k o1 o p1 p b AY g1 hk g2 hp h3 hx).trans e3⟩
  ·obtain ⟨e1,e2⟩:=hf b h3;rcases e1 with e1 | e1
   ·obtain ⟨q1,q2,_⟩:=H.cel k o p b hk hp e1;exact ⟨q1,q2,e2⟩
   ·exact ⟨zBO (Γ.lo _ H.gi) e1,fun hn=>by have:=H.nlt b hn;omega,e2⟩
 ·have key: ∀ {i o1 p1},i≠k -> h[i]? =some (some o1) -> ρ[i]? =some p1 -> p1.foot b -> p'.foot b -> False:=fun {i o1 p1} AY g1 g2 g3 g4=>by
   rcases (hf b g4).1 with e1 | e1
   ·exact H.dis i k o1 o p1 p b AY g1 hk g2 hp g3 e1
   ·have:=H.lt (.inr ⟨i,o1,p1,g1,g2,g3⟩);omega
  rcases Il h1 h3 with ⟨TQ,_,g1,g2⟩ | ⟨e1,_,rfl⟩
  ·rcases Il h2 h4 with ⟨_,_,g3,g4⟩ | ⟨_,_,rfl⟩
   ·exact H.dis i i' o1 o2 p1 p2 b AY g1 g3 g2 g4 h5 h6
   ·exact key TQ g1 g2 h5 h6
  ·rcases Il h2 h4 with ⟨Nw,_,g3,g4⟩ | ⟨e2,_,rfl⟩
   ·exact key Nw g3 g4 h6 h5
   ·exact AY (e1.trans e2.symm)
def IF (n:Nat) (R:Nat -> Value -> Prop) (Bt:List Value) (j:Nat) (u:Value):Prop:=if j<n then R j u else Bt[j-n]? =some u
theorem d7 {t ty e:TypeId} {i:TypeInfo} {z:Value} (hu:P.underlying t=some (.slice e)) (hi:P.info? e=some i) (hz:i.zero=some z) (XA:i.size≠0) (DL:z.cells.size=i.size) (E6:i.bytes<=128)
 {p:AN} {n cap:Nat} {R:Nat -> Value -> Prop} (hr:Ag w p (n*i.size) R) (L5:n<=cap) (XC:p.off+cap*i.size<=p.room)
 {vy:Value} {c:Nat} {Bt:List Value} (hy:Src P i.size t vy c Bt w) (hb:n+c<=1000000000000):
 ∃ w' p' CD,(Builtin.append_ #[t,t] ty #[.slice (some ⟨p.blk,p.off,none⟩) n cap,vy]).run P w= .ok (.slice (some ⟨p'.blk,p'.off,none⟩) (n+c) CD) w'/\ n+c<=CD/\ p'.off+CD*i.size<=p'.room/\
  AV p.foot w w'/\ (∀ b,p'.foot b -> p.foot b∨w.heap.size<=b)/\ Ag w' p' ((n+c)*i.size) (IF (n*i.size) R Bt):=by
 have F0:Bt.length=c*i.size:=hy.newsLen
 by_cases b5:n+c<=cap
 ·obtain ⟨g1,cs,tt,g2,g3,g4,g5⟩:=hr;have zBJ:(n+c)*i.size<=cap*i.size:=zFT _ b5;rw [zFj] at zBJ;have nM:p.off+n*i.size+Bt.length<=cs.size:=by omega
  refine ⟨w.setCells p.blk (p.off+n*i.size) Bt,p,cap,run_append_room_src w t t ty e i hu hi p.blk p.off n cap vy c Bt hy b5 (fun j hj=>?_) (fun j _=>by unfold World.frozen?;simp [g2]),b5,XC,?_,fun b hb=>.inl hb,?_⟩
  ·unfold World.cell?;simp only [g2];simp;omega
  ·rw [g1];exact Qv _ _ _ _
  ·obtain ⟨E9,e1,e2,e3⟩:=Td p.blk tt (0,0) Bt (p.off+n*i.size) w cs g2 nM;refine ⟨g1,E9,tt,e1,by rw [zFj];omega,by omega,fun j hj=>?_⟩;rw [zFj] at hj;rw [e3]
   by_cases Ks:j<n*i.size
   ·rw [zBP (by omega)];obtain ⟨u,q1,q2⟩:=g5 j Ks;exact ⟨u,q1,by unfold IF;rw [zAE Ks];exact q2⟩
   ·rw [zAE (by omega)];have AP:j-n*i.size<Bt.length:=by omega
    refine ⟨Bt[j-n*i.size],by rw [show p.off+j-(p.off+n*i.size)=j-n*i.size by omega];simp [AP],?_⟩;unfold IF;rw [zBP Ks];simp [AP]
 ·obtain ⟨g,hg⟩: ∃ g:Nat -> Value,∀ j,j<n*i.size -> w.cell? ⟨p.blk,p.off+j,none⟩=some (g j)/\ R j (g j):=by
   refine ⟨fun j=>(w.cell? ⟨p.blk,p.off+j,none⟩).getD undef,fun j hj=>?_⟩;obtain ⟨u,h1,h2⟩:=hr.cell hj;simp [h1,h2]
  have Iq:(Builtin.firstCells i.size n (.slice (some ⟨p.blk,p.off,none⟩) n cap)).run P w.drew= .ok (((List.range (n*i.size)).map g).toArray) w.drew:=by
   have:=run_loadCells (P:=P) w.drew ⟨p.blk,p.off,none⟩ (n*i.size) g (fun j hj=>by rw [JH];exact ((A4.toDrew w).cell (hg j hj).1));simpa [Builtin.firstCells] using this
  have zBI:(n+c)*i.bytes<=1000000000000*128:=Nat.mul_le_mul hb E6;have Pn:=run_append_grow_src (P:=P) w t t ty e i z hu hi hz (some ⟨p.blk,p.off,none⟩) n cap _ Iq vy c Bt hy (by omega) (by omega) (growslice_fits (by omega) (by omega));have XN:n+c<=grownCap w (n+c) cap e:=grownCap_ge w (n+c) cap e
  have D8:((((List.range (n*i.size)).map g)++Bt).toArray++Builtin.zeroCells z.cells (grownCap w (n+c) cap e-(n+c))).size=grownCap w (n+c) cap e*i.size:=by
   simp only [Array.size_append,zGd,zCC,zE4,zFq,F0,size_zeroCells,DL,←zFj]
   congr 1;omega
  refine ⟨_,D5 w (grownCap w (n+c) cap e*i.size),grownCap w (n+c) cap e,Pn,XN,by simp [D5],?_,fun b hb=>.inr (zGu (Eq.symm hb)),?_⟩
  ·exact AV.ofExt ((A4.toDrew w).allocR _)
  ·refine Ag.out (ZX (w:=w) (w1:=w.drew) (t:=e) (cs:=(((List.range (n*i.size)).map g)++Bt).toArray++Builtin.zeroCells z.cells (grownCap w (n+c) cap e-(n+c))) rfl D8 |>fun hr=>?_) rfl (R:=fun j u=>((((List.range (n*i.size)).map g)++Bt).toArray++Builtin.zeroCells z.cells (grownCap w (n+c) cap e-(n+c)))[j]? =some u) fun j u hj Bc=>?_
   ·obtain ⟨q1,cs,tt,q2,q3,q4,q5⟩:=hr;have BV:(n+c)*i.size<=grownCap w (n+c) cap e*i.size:=zFT _ XN;exact ⟨q1,cs,tt,q2,by omega,q4,fun j hj=>q5 j (by omega)⟩
   ·rw [zFj] at hj;unfold IF;have F1:j<(((List.range (n*i.size)).map g)++Bt).length:=by simp;omega
    rw [zFh (by simpa using F1)] at Bc
    by_cases Ks:j<n*i.size
    ·rw [zAE Ks]
     have:u=g j:=by
      simp only [zGh] at Bc;rw [zBq (by simpa using Ks)] at Bc;simp [Ks] at Bc;exact Bc.symm
     rw [this];exact (hg j Ks).2
    ·rw [zBP Ks];simp only [zGh] at Bc;rw [zCF (by simp;omega)] at Bc;simpa using Bc
theorem d9 (ad:Option Addr:=none) {t ty e:TypeId} {i:TypeInfo} {z:Value} (hu:P.underlying t=some (.slice e)) (hi:P.info? e=some i) (hz:i.zero=some z) (DL:z.cells.size=i.size) (E6:i.bytes<=128)
 {vy:Value} {c:Nat} {Bt:List Value} (hy:Src P i.size t vy c Bt w) (hc:0<c) (hb:c<=1000000000000):
 ∃ w' CD,(Builtin.append_ #[t,t] ty #[.slice ad 0 0,vy]).run P w= .ok (.slice (some ⟨w.heap.size,0,none⟩) c CD) w'/\ c<=CD/\ ∃ cs,w'=w.drew.alloc (.cells cs e)/\ cs.size=CD*i.size/\ ∀ j,j<c*i.size -> cs[j]? =Bt[j]? :=by
 have F0:Bt.length=c*i.size:=hy.newsLen;have Iq:(Builtin.firstCells i.size 0 (.slice ad 0 0)).run P w.drew= .ok (([]:List Value).toArray) w.drew:=by cases ad <;> simp [Builtin.firstCells,loadCells,loadCellsFrom]
 have zBI:c*i.bytes<=1000000000000*128:=Nat.mul_le_mul hb E6;have Pn:=run_append_grow_src (P:=P) w t t ty e i z hu hi hz ad 0 0 [] Iq vy c Bt hy (by omega) (by omega) (growslice_fits (by omega) (by rw [zBj];omega));rw [zBj] at Pn;have XN:c<=grownCap w c 0 e:=grownCap_ge w c 0 e;refine ⟨_,_,Pn,XN,_,rfl,?_,fun j hj=>?_⟩
 ·simp only [zFD,Array.size_append,zGd,F0,size_zeroCells,DL,←zFj]
  congr 1;omega
 ·rw [zFh (by simp;omega)];simp
end
end Go.Proofs.YtekkngkphejfcaaGreatDoor
namespace Go.Proofs.YtekkngkphejfcaaGreatDoor
abbrev zFA:=@List.mem_map
abbrev zGV:=@Nat.eq_zero_or_pos
abbrev zGm:=@Nat.le_of_not_lt
end Go.Proofs.YtekkngkphejfcaaGreatDoor
namespace Go.Proofs.YtekkngkphejfcaaGreatDoor
open Go.RowKit
def Wn (S:St):DV -> Option (List Int×Prop)
 | .nils=>some ([],True)
 | .ints l=>some (l,True)
 | .msl k m off n=>match S.h[k]? with
  | some (some (.ints l))=>if m==1 then some (l,off=0/\ n=l.length) else none
  | _=>none
 | _=>none
def du (S:St):DV -> Option (List Bool×Prop)
 | .nils=>some ([],True)
 | .bools l=>some (l,True)
 | .msl k m off n=>match S.h[k]? with
  | some (some (.bools l))=>if m==1 then some (l,off=0/\ n=l.length) else none
  | _=>none
 | _=>none
def dO (S:St) (m:Nat):DV -> Option (Nat×(Nat -> Nat -> DV)×Prop)
 | .nils=>some (0,(fun _ _=>.any),True)
 | .sl m' n f=>if m'==m then some (n,f,True) else none
 | .msl k m' off n=>match S.h[k]? with
  | some (some (.arr m2 n2 f))=>if m'==m&&m2==m then some (n2,f,off=0/\ n=n2) else none
  | _=>none
 | _=>none
def A7:Nat:=1000000000000
def eE (P:Program) (S:St) (t:TypeId) (x y:DV):Option (DV×DH×Prop):=match MH P t with
 | some (k,_,i,_)=>if 128<i.bytes then none else match k with
  | .ints=>match Wn S y with
   | some (ys,vy)=>match x with
    | .nils=>some (.msl S.h.length 1 0 ys.length,S.h++[some (.ints ys)],vy/\ 0<ys.length/\ ys.length<=A7)
    | .msl k m off n=>match S.h[k]? with
     | some (some (.ints xs))=>if m==1 then some (.msl S.h.length 1 0 (xs.length+ys.length),S.h.set k none++[some (.ints (xs++ys))],vy/\ (off=0/\ n=xs.length)/\ xs.length+ys.length<=A7) else none
     | _=>none
    | _=>none
   | none=>none
  | .bools=>match du S y with
   | some (ys,vy)=>match x with
    | .nils=>some (.msl S.h.length 1 0 ys.length,S.h++[some (.bools ys)],vy/\ 0<ys.length/\ ys.length<=A7)
    | .msl k m off n=>match S.h[k]? with
     | some (some (.bools xs))=>if m==1 then some (.msl S.h.length 1 0 (xs.length+ys.length),S.h.set k none++[some (.bools (xs++ys))],vy/\ (off=0/\ n=xs.length)/\ xs.length+ys.length<=A7) else none
     | _=>none
    | _=>none
   | none=>none
  | .gen m=>match dO S m y with
   | some (c,g,vy)=>match x with
    | .nils=>some (.msl S.h.length m 0 c,S.h++[some (.arr m c g)],(vy/\ ∀ i j,i<c -> j<m -> NQ (g i j)=true)/\ 0<c/\ c<=A7)
    | .msl k m' off n=>match S.h[k]? with
     | some (some (.arr m2 n2 f))=>if m'==m&&m2==m then some (.msl S.h.length m 0 (n2+c),S.h.set k none++[some (.arr m (n2+c) (fun i j=>if i<n2 then f i j else g (i-n2) j))],(vy/\ ∀ i j,i<c -> j<m -> NQ (g i j)=true)/\ (off=0/\ n=n2)/\ n2+c<=A7) else none
     | _=>none
    | _=>none
   | none=>none
 | none=>none
section
variable {P:Program} {Γ:A6} {N:Nat -> Prop} {S:St} {ρ:List AN} {a:Act} {w:World} {h:DH}
theorem Q9 {t e:TypeId} (hu:P.underlying t=some (.slice e)) {m:Nat} {ad:Option Addr} {c cap:Nat} {Bt:List Value} (hl:Bt.length=c*m) (hc: ∀ j u,Bt[j]? =some u -> ∃ b o,ad=some ⟨b,o,none⟩/\ w.cell? ⟨b,o+j,none⟩=some u)
 (h1: ∀ u∈Bt,u.oneCell'=true) (hm:0<m) (cS:ad=none -> c=0):Src P m t (.slice ad c cap) c Bt w:=by
 cases ad with
 | none=>
  have:=cS rfl;subst this;have:Bt= []:=zE5 (by simpa using hl);subst this;exact Src.ofNil w hu cap
 | some ad=>
  refine Src.ofSlice w hu ad c cap Bt hl (fun j u hj=>?_) h1;obtain ⟨b,o,e1,e2⟩:=hc j u hj;cases e1;rw [JH];exact e2
theorem Wm (R:An P Γ N S ρ a w) {t e:TypeId} (hu:P.underlying t=some (.slice e)) {y:DV} {v:Value} (hy:AQ (MS N S.h ρ) w y ρ v) {ys:List Int} {vy:Prop} (h:Wn S y=some (ys,vy)) (hv:vy):
 Src P 1 t v ys.length (ys.map (Value.int .i64)) w:=by
 have one: ∀ u∈ys.map (Value.int .i64),u.oneCell'=true:=fun u hu=>by obtain ⟨n,_,rfl⟩:=zFA.1 hu;rfl
 have val: ∀ {j:Nat} {u:Value},(ys.map (Value.int .i64))[j]? =some u -> j<ys.length/\ u= .int .i64 (ys.getD j 0):=fun {j u} hj=>by
  have AP:=(zBN.1 hj).1;have AP:j<ys.length:=by simpa using AP
  simp [AP] at hj;exact ⟨AP,by rw [←hj];simp [AP]⟩
 unfold Wn at h;split at h
 ·cases h;rw [show v=_ from hy];exact Src.ofNil w hu 0
 ·cases h;obtain ⟨ad,cap,rfl,h1,h2,h3⟩:=hy;refine Q9 hu (by simp) (fun j u hj=>?_) one (by omega) (fun e=>?_)
  ·obtain ⟨AP,rfl⟩:=val hj;obtain ⟨b,o,e1,_,e2⟩:=h3 j AP;exact ⟨b,o,e1,e2⟩
  ·rcases zGV ys.length with h0 | h0
   ·exact h0
   ·obtain ⟨b,o,e1,_⟩:=h3 0 h0;rw [e] at e1;cases e1
 ·rename_i k m off n;obtain ⟨p,cap,hp,rfl,h1,h2,h3⟩:=hy;split at h
  ·rename_i l hk;split at h
   ·rename_i hm;cases h;have CB:m=1:=by simpa using hm
    subst CB;obtain ⟨p',BE,hr⟩:=R.hr.obj k _ hk;have e:p'=p:=zBK (BE.symm.trans hp);subst e;obtain ⟨rfl,rfl⟩:=hv;refine Q9 hu (by simp) (fun j u hj=>?_) one (by omega) (fun e=>by cases e);obtain ⟨AP,rfl⟩:=val hj;obtain ⟨u,e1,e2⟩:=Ag.cell hr AP;exact ⟨p'.blk,p'.off,by simp,by rw [e1,e2]⟩
   ·cases h
  ·cases h
 ·cases h
theorem pS (R:An P Γ N S ρ a w) {t e:TypeId} (hu:P.underlying t=some (.slice e)) {y:DV} {v:Value} (hy:AQ (MS N S.h ρ) w y ρ v) {ys:List Bool} {vy:Prop} (h:du S y=some (ys,vy)) (hv:vy):
 Src P 1 t v ys.length (ys.map Value.bool) w:=by
 have one: ∀ u∈ys.map Value.bool,u.oneCell'=true:=fun u hu=>by obtain ⟨n,_,rfl⟩:=zFA.1 hu;rfl
 have val: ∀ {j:Nat} {u:Value},(ys.map Value.bool)[j]? =some u -> j<ys.length/\ u= .bool (ys.getD j false):=fun {j u} hj=>by
  have AP:=(zBN.1 hj).1;have AP:j<ys.length:=by simpa using AP
  simp [AP] at hj;exact ⟨AP,by rw [←hj];simp [AP]⟩
 unfold du at h;split at h
 ·cases h;rw [show v=_ from hy];exact Src.ofNil w hu 0
 ·cases h;obtain ⟨ad,cap,rfl,h1,h2,h3⟩:=hy;refine Q9 hu (by simp) (fun j u hj=>?_) one (by omega) (fun e=>?_)
  ·obtain ⟨AP,rfl⟩:=val hj;obtain ⟨b,o,e1,_,e2⟩:=h3 j AP;exact ⟨b,o,e1,e2⟩
  ·rcases zGV ys.length with h0 | h0
   ·exact h0
   ·obtain ⟨b,o,e1,_⟩:=h3 0 h0;rw [e] at e1;cases e1
 ·rename_i k m off n;obtain ⟨p,cap,hp,rfl,h1,h2,h3⟩:=hy;split at h
  ·rename_i l hk;split at h
   ·rename_i hm;cases h;have CB:m=1:=by simpa using hm
    subst CB;obtain ⟨p',BE,hr⟩:=R.hr.obj k _ hk;have e:p'=p:=zBK (BE.symm.trans hp);subst e;obtain ⟨rfl,rfl⟩:=hv;refine Q9 hu (by simp) (fun j u hj=>?_) one (by omega) (fun e=>by cases e);obtain ⟨AP,rfl⟩:=val hj;obtain ⟨u,e1,e2⟩:=Ag.cell hr AP;exact ⟨p'.blk,p'.off,by simp,by rw [e1,e2]⟩
   ·cases h
  ·cases h
 ·cases h
theorem Xy {ρ':Operand -> Value} {o:Oper} {c:Call} {x y:Operand} {t t2:TypeId} (ho:o.op= .call c) (hc:c.callee= .builtin .append) (ha:c.args.toList= [x,y]) (ht:c.argTypes.toList= [t,t2]):
 execOp ρ' o=(do pure (.value (←Builtin.append_ #[t,t2] o.type #[ρ' x,ρ' y]))):=by
 unfold execOp;rw [ho]
 show (resolve ρ' c o.type>>=fun d=>invoke d.target d.args)=_
 unfold resolve;rw [hc,Uw ha,Uw ht];simp;rfl
theorem d8 (R:An P Γ N S ρ a w) {t e:TypeId} {i:TypeInfo} {z:Value} (hu:P.underlying t=some (.slice e)) (hi:P.info? e=some i) (hz:i.zero=some z) (XA:i.size≠0) (DL:z.cells.size=i.size) (E6:i.bytes<=128)
 {k:Nat} {ob ob':DO} {p:AN} (hk:S.h[k]? =some (some ob)) (hp:ρ[k]? =some p) {n cap c:Nat} {Rw:Nat -> Value -> Prop} (hr:Ag w p (n*i.size) Rw) (L5:n<=cap) (XC:p.off+cap*i.size<=p.room)
 {vy:Value} {Bt:List Value} (hy:Src P i.size t vy c Bt w) (hb:n+c<=A7)
 (H6: ∀ M ρ' w' p',Ba (MS N S.h ρ) w ρ M w' ρ' -> Ag w' p' ((n+c)*i.size) (IF (n*i.size) Rw Bt) -> DD P M w' ρ' p' ob')
 (o:Oper) {cl:Call} {x y:Operand} (ho:o.op= .call cl) (hc:cl.callee= .builtin .append) (ha:cl.args.toList= [x,y]) (ht:cl.argTypes.toList= [t,t]) (hx:a.eval x= .slice (some ⟨p.blk,p.off,none⟩) n cap) (bo:a.eval y=vy):
 Bb P (execOp a.eval o) w (DY P Γ N S.h ρ w false (.msl S.h.length i.size 0 (n+c)) (S.h.set k none++[some ob'])):=by
 obtain ⟨w',p',CD,h1,h2,h3,h4,h5,h6⟩:=d7 (ty:=o.type) hu hi hz XA DL E6 hr L5 XC hy hb;refine Bb.value (Xy ho hc ha ht) (by rw [hx,bo];exact h1) ?_
 have zBz: ∀ b,p'.foot b -> EG w' b:=fun b hb=>by
  obtain ⟨e1,cs,tt,e2,_⟩:=h6;rw [e1] at hb;exact .cells (c:=cs) (t:=tt) (z:=(0,0)) (by rw [show b=p'.blk from hb];exact e2)
 have Ak:(S.h.set k none).length=S.h.length:=by simp
 have O:Ba (MS N S.h ρ) w ρ (MS N (S.h.set k none++[some ob']) (ρ++[p'])) w' (ρ++[p']):=by
  refine ⟨fun b hb hm _=>h4.block b hb fun hx=>hm (.inr ⟨k,ob,p,hk,hp,hx⟩),fun b hb=>?_,fun i q hi=>D9 hi⟩;rcases hb with hb | hb
  ·exact .inl (.inl hb)
  ·obtain ⟨i1,o1,p1,g1,g2,g3⟩:=hb;rcases DT g1 with ⟨hl,g1⟩ | ⟨hl,_⟩
   ·rcases DT g2 with ⟨_,g2⟩ | ⟨Ch,_⟩
    ·exact .inl (.inr ⟨i1,o1,p1,(F4 g1).2,g2,g3⟩)
    ·rw [Ak] at hl;rw [R.hr.len] at Ch;omega
   ·rcases DT g2 with ⟨Ch,_⟩ | ⟨_,rfl⟩
    ·rw [Ak] at hl;rw [R.hr.len] at Ch;omega
    ·exact (h5 b g3).imp (fun hx=>.inr ⟨k,ob,p,hk,hp,hx⟩) id
 obtain ⟨g1,g2⟩:=R.hr.regrow (o':=ob') hk hp h4 (fun b hb=>⟨h5 b hb,zBz b hb⟩) (H6 _ _ _ _ O h6);refine ⟨⟨ρ++[p'],g1,⟨p',CD,by rw [←R.hr.len];simp,by simp,h2,by unfold LB;unfold A7 at hb;omega,by simpa using h3⟩,g2,fun _ _ h=>D9 h⟩,fun h=>by cases h⟩
theorem eA (R:An P Γ N S ρ a w) {t e:TypeId} {i:TypeInfo} {z:Value} (hu:P.underlying t=some (.slice e)) (hi:P.info? e=some i) (hz:i.zero=some z) (DL:z.cells.size=i.size) (E6:i.bytes<=128)
 {ob':DO} {c:Nat} {vy:Value} {Bt:List Value} (hy:Src P i.size t vy c Bt w) (OG:0<c) (hb:c<=A7)
 (H6: ∀ M ρ' w' p',Ba (MS N S.h ρ) w ρ M w' ρ' -> Ag w' p' (c*i.size) (fun j u=>Bt[j]? =some u) -> DD P M w' ρ' p' ob') (ext:Bool)
 (o:Oper) {cl:Call} {x y:Operand} (ho:o.op= .call cl) (hc:cl.callee= .builtin .append) (ha:cl.args.toList= [x,y]) (ht:cl.argTypes.toList= [t,t]) (hx:a.eval x= .slice none 0 0) (bo:a.eval y=vy):
 Bb P (execOp a.eval o) w (DY P Γ N S.h ρ w ext (.msl S.h.length i.size 0 c) (S.h++[some ob'])):=by
 obtain ⟨w',CD,h1,h2,cs,rfl,h4,h5⟩:=d9 none (ty:=o.type) hu hi hz DL E6 hy OG hb;have F0:Bt.length=c*i.size:=hy.newsLen;refine Bb.value (Xy ho hc ha ht) (by rw [hx,bo];exact h1) ?_;have BV:c*i.size<=CD*i.size:=zFT _ h2;refine QA (d:=.msl S.h.length i.size 0 c) R.hr ⟨A4.toDrew w,rfl⟩ (fun M ρ' O=>H6 _ _ _ _ O ?_) (fun M ρ' hp=>⟨_,CD,hp,by simp [D5],h2,by unfold LB;unfold A7 at hb;omega,by simp only [D5];omega⟩) ext;refine Mw rfl (by omega) fun j hj=>?_
 rw [h5 j hj];exact ⟨Bt[j],by simp [F0,hj],by simp [F0,hj]⟩
theorem bL {xs ys:List Int} {M:Nat -> Prop} {w':World} {ρ':List AN} {p':AN} {s:Nat} (hs:s=1) (h:Ag w' p' ((xs.length+ys.length)*s) (IF (xs.length*s) (fun j u=>u= .int .i64 (xs.getD j 0)) (ys.map (Value.int .i64)))):DD P M w' ρ' p' (.ints (xs++ys)):=by
 subst hs
 show Ag _ _ (xs++ys).length _
 rw [zCC];rw [zE0,zE0] at h;refine Ag.out h rfl fun j u hj hu=>?_
 unfold IF at hu;split at hu
 ·rename_i AP;rw [hu];simp [u8,zBq AP]
 ·rename_i AP;have Gl:j-xs.length<ys.length:=by omega
  simp [Gl] at hu;rw [←hu];simp [u8,zCF (zGm AP),Gl]
theorem zED {xs ys:List Bool} {M:Nat -> Prop} {w':World} {ρ':List AN} {p':AN} {s:Nat} (hs:s=1) (h:Ag w' p' ((xs.length+ys.length)*s) (IF (xs.length*s) (fun j u=>u= .bool (xs.getD j false)) (ys.map Value.bool))):DD P M w' ρ' p' (.bools (xs++ys)):=by
 subst hs
 show Ag _ _ (xs++ys).length _
 rw [zCC];rw [zE0,zE0] at h;refine Ag.out h rfl fun j u hj hu=>?_
 unfold IF at hu;split at hu
 ·rename_i AP;rw [hu];simp [u8,zBq AP]
 ·rename_i AP;have Gl:j-xs.length<ys.length:=by omega
  simp [Gl] at hu;rw [←hu];simp [u8,zCF (zGm AP),Gl]
theorem n6 (R:An P Γ N S ρ a w) {t e:TypeId} (hu:P.underlying t=some (.slice e)) {y:DV} {v:Value} (hy:AQ (MS N S.h ρ) w y ρ v) {m c:Nat} (AB:0<m) {g:Nat -> Nat -> DV} {vy:Prop} (h:dO S m y=some (c,g,vy)) (hv:vy)
 (h1: ∀ i j,i<c -> j<m -> NQ (g i j)=true): ∃ Bt,Src P m t v c Bt w/\ ∀ j u,Bt[j]? =some u -> AQ (MS N S.h ρ) w (g (j/m) (j % m)) [] u:=by
 have dm: ∀ {j:Nat},j<c*m -> j/m<c/\ j % m<m/\ j/m*m+j % m=j:=fun {j} hj=>⟨by rw [zFu AB];exact hj,zGx _ AB,by rw [zFn];exact Nat.div_add_mod j m⟩
 have dc: ∀ (ad:Option Addr) (cap:Nat),(∀ j,j<c*m -> ∃ b o u,ad=some ⟨b,o,none⟩/\ w.cell? ⟨b,o+j,none⟩=some u/\ AQ (MS N S.h ρ) w (g (j/m) (j % m)) [] u) -> v= .slice ad c cap -> (ad=none -> c=0) ->
  ∃ Bt,Src P m t v c Bt w/\ ∀ j u,Bt[j]? =some u -> AQ (MS N S.h ρ) w (g (j/m) (j % m)) [] u:=by
  intro ad cap hc zb cS
  obtain ⟨f,hf⟩: ∃ f:Nat -> Value,∀ j,j<c*m -> ∃ b o,ad=some ⟨b,o,none⟩/\ w.cell? ⟨b,o+j,none⟩=some (f j)/\ AQ (MS N S.h ρ) w (g (j/m) (j % m)) [] (f j):=by
   refine ⟨fun j=>(match ad with | some a=>w.cell? ⟨a.block,a.off+j,none⟩ | none=>none).getD undef,fun j hj=>?_⟩;obtain ⟨b,o,u,rfl,e2,e3⟩:=hc j hj;exact ⟨b,o,rfl,by simp [e2],by simpa [e2] using e3⟩
  have val: ∀ {j:Nat} {u:Value},((List.range (c*m)).map f)[j]? =some u -> j<c*m/\ u=f j:=fun {j u} hj=>by
   have AP:=(zBN.1 hj).1;have AP:j<c*m:=by simpa using AP
   simp [AP] at hj;exact ⟨AP,hj.symm⟩
  refine ⟨(List.range (c*m)).map f,?_,fun j u hj=>?_⟩
  ·rw [zb];refine Q9 hu (by simp) (fun j u hj=>?_) (fun u Bc=>?_) AB cS
   ·obtain ⟨AP,rfl⟩:=val hj;obtain ⟨b,o,e1,e2,_⟩:=hf j AP;exact ⟨b,o,e1,e2⟩
   ·obtain ⟨j,hj,rfl⟩:=zFA.1 Bc;have AP:=zBc.1 hj;obtain ⟨_,_,_,_,e3⟩:=hf j AP;exact (WR (h1 _ _ (dm AP).1 (dm AP).2.1) e3).1
  ·obtain ⟨AP,rfl⟩:=val hj;obtain ⟨_,_,_,_,e3⟩:=hf j AP;exact e3
 unfold dO at h;split at h
 ·cases h;refine dc none 0 (fun j hj=>by rw [Nat.zero_mul] at hj;omega) hy (fun _=>rfl)
 ·rename_i m' n f;split at h
  ·rename_i hm;cases h;have CB:m'=m:=by simpa using hm
   subst CB;obtain ⟨ad,cap,rfl,g1,g2,g3⟩:=hy;refine dc ad cap (fun j hj=>?_) rfl (fun e=>?_)
   ·obtain ⟨b,o,u,e1,_,e2,e3⟩:=g3 _ _ (dm hj).1 (dm hj).2.1;exact ⟨b,o,u,e1,by rw [(dm hj).2.2] at e2;exact e2,e3⟩
   ·rcases zGV c with h0 | h0
    ·exact h0
    ·obtain ⟨b,o,u,e1,_⟩:=g3 0 0 h0 AB;rw [e] at e1;cases e1
  ·cases h
 ·rename_i k m' off n;obtain ⟨p,cap,hp,rfl,g1,g2,g3⟩:=hy;split at h
  ·rename_i m2 n2 f hk;split at h
   ·rename_i hm;cases h;simp only [zBE,zBf] at hm;obtain ⟨rfl,rfl⟩:=hm;obtain ⟨p',BE,hr⟩:=R.hr.obj k _ hk;have e:p'=p:=zBK (BE.symm.trans hp);subst e;obtain ⟨rfl,rfl⟩:=hv;refine dc (some ⟨p'.blk,p'.off+0*m2,none⟩) cap (fun j hj=>?_) rfl (fun e=>by cases e);obtain ⟨u,e1,e2⟩:=Ag.cell hr hj;exact ⟨p'.blk,p'.off,u,by simp,e1,e2⟩
   ·cases h
  ·cases h
 ·cases h
theorem zEY (R:An P Γ N S ρ a w) {t:TypeId} {x y:Operand} {d:DV} {h':DH} {vc:Prop} (hd:eE P S t (Ao S.fr x) (Ao S.fr y)=some (d,h',vc)) (hv:vc) (o:Oper) {cl:Call} (ho:o.op= .call cl) (hc:cl.callee= .builtin .append)
 (ha:cl.args.toList= [x,y]) (ht:cl.argTypes.toList= [t,t]):Bb P (execOp a.eval o) w (DY P Γ N S.h ρ w false d h'):=by
 have rx:=Bx R x;have ry:=Bx R y;unfold eE at hd;split at hd
 ·rename_i kk e i z hk;obtain ⟨hu,hi,hz,h0,DL,Em,hq1,Gj⟩:=X1 hk;clear hq1 Gj;split at hd
  ·cases hd
  ·rename_i E6;have P5:i.bytes<=128:=by omega
   split at hd
   ·have Cu:i.size=1:=Em.symm;split at hd
    ·rename_i ys vy hy;split at hd
     ·rename_i ex;cases hd;rw [ex] at rx
      have:=eA (ob':=.ints ys) R hu hi hz DL P5 (by rw [Cu];exact Wm R hu ry hy hv.1) hv.2.1 hv.2.2 (fun M ρ' w' p' O hr=>by
       have C7:=hr;rw [Cu,zE0] at C7;refine Ag.out C7 rfl fun j u hj Bc=>?_
       simp [hj] at Bc;rw [←Bc];simp [hj]) false o ho hc ha ht rx rfl
      rw [Cu] at this;exact this
     ·rename_i k m off n ex;rw [ex] at rx;obtain ⟨p,cap,hp,hx,g1,g2,g3⟩:=rx;split at hd
      ·rename_i xs Lx;split at hd
       ·rename_i hm;cases hd;have CB:m=1:=by simpa using hm
        subst CB;obtain ⟨q1,⟨rfl,rfl⟩,q3⟩:=hv;obtain ⟨p',BE,hr⟩:=R.hr.obj k _ Lx;have e:p'=p:=zBK (BE.symm.trans hp);subst e
        have:=d8 (ob':=.ints (xs++ys)) (n:=xs.length) (cap:=cap) (c:=ys.length) R hu hi hz h0 DL P5 Lx hp (Rw:=fun j u=>u= .int .i64 (xs.getD j 0)) (by rw [Cu,zE0];exact hr) g1 (by rw [Cu];simpa using g3) (by rw [Cu];exact Wm R hu ry hy q1) q3
         (fun M ρ' w' p' O hr=>bL Cu hr) o ho hc ha ht (by simpa using hx) rfl
        rw [Cu] at this;exact this
       ·cases hd
      ·cases hd
     ·cases hd
    ·cases hd
   ·have Cu:i.size=1:=Em.symm;split at hd
    ·rename_i ys vy hy;split at hd
     ·rename_i ex;cases hd;rw [ex] at rx
      have:=eA (ob':=.bools ys) R hu hi hz DL P5 (by rw [Cu];exact pS R hu ry hy hv.1) hv.2.1 hv.2.2 (fun M ρ' w' p' O hr=>by
       have C7:=hr;rw [Cu,zE0] at C7;refine Ag.out C7 rfl fun j u hj Bc=>?_
       simp [hj] at Bc;rw [←Bc];simp [hj]) false o ho hc ha ht rx rfl
      rw [Cu] at this;exact this
     ·rename_i k m off n ex;rw [ex] at rx;obtain ⟨p,cap,hp,hx,g1,g2,g3⟩:=rx;split at hd
      ·rename_i xs Lx;split at hd
       ·rename_i hm;cases hd;have CB:m=1:=by simpa using hm
        subst CB;obtain ⟨q1,⟨rfl,rfl⟩,q3⟩:=hv;obtain ⟨p',BE,hr⟩:=R.hr.obj k _ Lx;have e:p'=p:=zBK (BE.symm.trans hp);subst e
        have:=d8 (ob':=.bools (xs++ys)) (n:=xs.length) (cap:=cap) (c:=ys.length) R hu hi hz h0 DL P5 Lx hp (Rw:=fun j u=>u= .bool (xs.getD j false)) (by rw [Cu,zE0];exact hr) g1 (by rw [Cu];simpa using g3) (by rw [Cu];exact pS R hu ry hy q1) q3
         (fun M ρ' w' p' O hr=>zED Cu hr) o ho hc ha ht (by simpa using hx) rfl
        rw [Cu] at this;exact this
       ·cases hd
      ·cases hd
     ·cases hd
    ·cases hd
   ·rename_i m;have Ce:i.size=m:=Em.symm;have AB:0<m:=by omega
    split at hd
    ·rename_i c g vy hy;split at hd
     ·rename_i ex;cases hd;rw [ex] at rx;obtain ⟨Bt,bw,cT⟩:=n6 R hu ry AB hy hv.1.1 hv.1.2
      have:=eA (ob':=.arr m c g) R hu hi hz DL P5 (by rw [Ce];exact bw) hv.2.1 hv.2.2 (fun M ρ' w' p' O hr=>by
       rw [Ce] at hr;exact Ag.out hr rfl fun j u hj Bc=>AQ.out _ O.nil (cT j u Bc)) false o ho hc ha ht rx rfl
      rw [Ce] at this;exact this
     ·rename_i k m' off n ex;rw [ex] at rx;obtain ⟨p,cap,hp,hx,g1,g2,g3⟩:=rx;split at hd
      ·rename_i m2 n2 f Lx;split at hd
       ·rename_i hm;cases hd;simp only [zBE,zBf] at hm;obtain ⟨rfl,rfl⟩:=hm;obtain ⟨q1,⟨rfl,rfl⟩,q3⟩:=hv;obtain ⟨p',BE,hr⟩:=R.hr.obj k _ Lx;have e:p'=p:=zBK (BE.symm.trans hp);subst e;obtain ⟨Bt,bw,cT⟩:=n6 R hu ry AB hy q1.1 q1.2
        have:=d8 (ob':=.arr m2 (n+c) (fun i j=>if i<n then f i j else g (i-n) j)) (n:=n) (cap:=cap) (c:=c) R hu hi hz h0 DL P5 Lx hp (Rw:=fun j u=>AQ (MS N S.h ρ) w (f (j/m2) (j % m2)) [] u) (by rw [Ce];exact hr) g1 (by rw [Ce];simpa using g3) (by rw [Ce];exact bw) q3
         (fun M ρ' w' p' O hr=>by
          rw [Ce] at hr;refine Ag.out hr rfl fun j u hj Bc=>?_
          show AQ M w' (if j/m2<n then f (j/m2) (j % m2) else g (j/m2-n) (j % m2)) [] u
          unfold IF at Bc
          by_cases AP:j<n*m2
          ·rw [zAE AP] at Bc;rw [zAE (by rw [zFu AB];exact AP)];exact AQ.out _ O.nil Bc
          ·rw [zBP AP] at Bc;rw [zBP (by rw [zFu AB];exact AP)];have h1:=cT _ _ Bc;have e1:(j-n*m2)/m2=j/m2-n:=by rw [zFn n m2];exact Nat.sub_mul_div ..
           have e2:(j-n*m2) % m2=j % m2:=by
            have Gl:j=(j-n*m2)+n*m2:=by omega
            rw [Gl,Nat.add_mul_mod_self_right,Nat.add_sub_cancel]
           rw [e1,e2] at h1;exact AQ.out _ O.nil h1) o ho hc ha ht (by simpa using hx) rfl
        rw [Ce] at this;exact this
       ·cases hd
      ·cases hd
     ·cases hd
    ·cases hd
 ·cases hd
end
end Go.Proofs.YtekkngkphejfcaaGreatDoor
namespace Go.Proofs.YtekkngkphejfcaaGreatDoor
abbrev zCE:=@Bool.true_and
abbrev zCJ:=@Bool.not_true
abbrev zFa:=@List.map_cons
abbrev zFc:=@List.getElem?_drop
abbrev zGP:=@List.length_drop
abbrev zGs:=@Go.run_equalIn_int
end Go.Proofs.YtekkngkphejfcaaGreatDoor
namespace Go.Proofs.YtekkngkphejfcaaGreatDoor
open Go.RowKit
def Xs (If:Nat -> Option (Nat×Nat)) (cells:List DV):List (Nat×DV) -> Option (List DV)
 | []=>some cells
 | (i,d)::rest=>match If i with
  | none=>none
  | some (off,size)=>match I8 d with
   | none=>none
   | some l=>if l.length=size/\ off+l.length<=cells.length then Xs If (Mn cells off l) rest else none
def aK (P:Program) (t:TypeId):Option (Value×(Nat -> Option (Nat×Nat))):=match P.info? t with
 | some it=>match P.underlying t with
  | some (.array _ e)=>match it.zero with
   | some z=>match P.info? e with
    | some ie=>some (z,fun i=>some (i*ie.size,ie.size))
    | none=>none
   | none=>none
  | some (.struct zCw)=>match it.zero with
   | some z=>match zCw.toList.mapM (fun f=>(P.info? f.type).map fun i=>(f.offset,i.size)) with
    | some NG=>some (z,fun i=>NG.toArray[i]?)
    | none=>none
   | none=>none
  | _=>none
 | none=>none
def Wf (P:Program) (S:St) (t:TypeId) (parts:List (Nat×Operand)):Option (DV×Prop):=match aK P t with
 | some (z,If)=>match Xs If (z.cells.toList.map Fg) (parts.map fun x=>(x.1,Ao S.fr x.2)) with
  | some l=>some (.agg l.length (fun j=>l.getD j .any),True)
  | none=>none
 | none=>none
def NK (P:Program) (t:TypeId) (m:Nat) (f:Nat -> DV) (off size:Nat):Option DV:=
 if off+size<=m then (if Gf P t then (if size=1 then some (f off) else none) else if Uc P t size then some (.agg size (Ga size fun j=>f (off+j))) else none) else none
def bH (P:Program) (t:TypeId) (x:DV) (n:Int):Option (DV×Prop):=match x with
 | .agg m f=>match P.underlying t with
  | some (.array len e)=>match P.info? e with
   | some i=>if Gf P e&&i.size==1&&len==m then some (f n.toNat,0<=n/\ n<len) else none
   | none=>none
  | _=>none
 | _=>none
def Xm (P:Program) (t:TypeId) (x:DV) (fi:Nat):Option (DV×Prop):=match x with
 | .agg m f=>match P.underlying t with
  | some (.struct fs)=>match fs[fi]? with
   | some fd=>match P.info? fd.type with
    | some i=>match NK P fd.type m f fd.offset i.size with
     | some d=>some (d,True)
     | none=>none
    | none=>none
   | none=>none
  | _=>none
 | _=>none
def db (P:Program) (t:TypeId) (x:DV) (lo hi:Option Int):Option (DV×Prop):=match P.underlying t with
 | some (.slice e)=>match P.info? e with
  | some i=>match x with
   | .ints l=>if i.size=1 then some (.ints ((l.take (hi.getD l.length).toNat).drop (lo.getD 0).toNat),0<=lo.getD 0/\ lo.getD 0<=hi.getD l.length/\ hi.getD l.length<=l.length) else none
   | .bools l=>if i.size=1 then some (.bools ((l.take (hi.getD l.length).toNat).drop (lo.getD 0).toNat),0<=lo.getD 0/\ lo.getD 0<=hi.getD l.length/\ hi.getD l.length<=l.length) else none
   | .sl m n f=>if i.size=m then some (.sl m ((hi.getD n).toNat-(lo.getD 0).toNat) (fun i j=>f ((lo.getD 0).toNat+i) j),0<=lo.getD 0/\ lo.getD 0<=hi.getD n/\ hi.getD n<=n) else none
   | .msl k m off n=>if i.size=m then some (.mse k m (off+(lo.getD 0).toNat) ((hi.getD n).toNat-(lo.getD 0).toNat),0<=lo.getD 0/\ lo.getD 0<=hi.getD n/\ hi.getD n<=n) else none
   | _=>none
  | none=>none
 | _=>none
def Wo (S:St):Option Operand -> Option (Option Int)
 | none=>some none
 | some x=>match Ao S.fr x with
  | .int _ n=>some (some n)
  | _=>none
def QO (f g:Nat -> DV):List Nat -> Bool
 | []=>true
 | i::is=>(H2 (f i)==H2 (g i))&&QO f g is
def X0 (P:Program) (t:TypeId) (f g:Nat -> DV) (m m':Nat):Option (List Nat):=match P.underlying t with
 | some (.array n e)=>match P.info? e with
  | some i=>match P.underlying e with
   | some (.int _)=>if i.size==1&&Gf P e&&P.eqGuardType P.depth t==false&&n==m&&n==m'&&(List.range n).all (fun i=>Kk (f i)&&Kk (g i)) then some (List.range n) else none
   | _=>none
  | none=>none
 | _=>none
def Tx (P:Program) (op:BinOp) (t:TypeId) (x y:DV):Option (DV×Prop):=match op,x,y with
 | .eql,.agg m f,.agg m' g=>match X0 P t f g m m' with
  | some is=>some (.bool (QO f g is),True)
  | none=>none
 | .neq,.agg m f,.agg m' g=>match X0 P t f g m m' with
  | some is=>some (.bool (!(QO f g is)),True)
  | none=>none
 | _,_,_=>none
def Sd (P:Program) (S:St):Op -> Option (DV×Prop)
 | .build t parts=>Wf P S t parts.toList
 | .index t x i=>match Ao S.fr i with
  | .int _ n=>bH P t (Ao S.fr x) n
  | _=>none
 | .field t x f=>Xm P t (Ao S.fr x) f
 | .slice t x lo hi none=>match Wo S lo with
  | some l=>match Wo S hi with
   | some h=>db P t (Ao S.fr x) l h
   | none=>none
  | none=>none
 | .binOp op t x y t'=>match Tx P op t (Ao S.fr x) (Ao S.fr y) with
  | some r=>some r
  | none=>pop P S (.binOp op t x y t')
 | op=>pop P S op
section
variable {P:Program} {Γ:A6} {N:Nat -> Prop} {S:St} {ρ:List AN} {a:Act} {w:World}
def Yc (M:Nat -> Prop) (w:World) (ρ:List AN) (l:List DV) (cs:Array Value):Prop:=cs.size=l.length/\ ∀ j,j<l.length -> ∃ u,cs[j]? =some u/\ AQ M w (l.getD j .any) ρ u
theorem pm: ∀ (vs:List Value) (k off:Nat) (cs:Array Value),((vs.zipIdx k).foldl (fun (cs:Array Value) (x:Value×Nat)=>cs.setIfInBounds (off+x.2) x.1) cs).size=cs.size/\
 ∀ j,((vs.zipIdx k).foldl (fun (cs:Array Value) (x:Value×Nat)=>cs.setIfInBounds (off+x.2) x.1) cs)[j]? =if off+k<=j/\ j<off+k+vs.length/\ j<cs.size then vs[j-(off+k)]? else cs[j]?
 | [],k,off,cs=>⟨rfl,fun j=>by
  rw [zBP]
  ·rfl
  ·simp only [zFF];omega⟩
 | v::vs,k,off,cs=>by
  obtain ⟨h1,h2⟩:=pm vs (k+1) off (cs.setIfInBounds (off+k) v);rw [List.zipIdx_cons,zFG];refine ⟨by rw [h1];simp,fun j=>?_⟩;rw [h2 j,zFB];simp only [Array.size_setIfInBounds]
  by_cases e:j=off+k
  ·subst e;rw [zBP (by omega),zFO,zAE rfl]
   by_cases hs:off+k<cs.size
   ·rw [zAE hs,zAE (by omega),zGO];rfl
   ·rw [zBP hs,zBP (by omega),zGa (by omega)]
  ·by_cases e2:off+(k+1)<=j/\ j<off+(k+1)+vs.length/\ j<cs.size
   ·rw [zAE e2,zAE (by omega),show j-(off+k)=(j-(off+(k+1)))+1 by omega];simp
   ·rw [zBP e2,zBP (by omega),zFO,zBP (by omega)]
theorem oL {M:Nat -> Prop} {If:Nat -> Option (Nat×Nat)}: ∀ (parts:List (Nat×Operand)) (l:List DV) (cs:Array Value) (r:List DV),Yc M w ρ l cs -> (∀ x,AQ M w (Ao S.fr x) ρ (a.eval x)) ->
 Xs If l (parts.map fun x=>(x.1,Ao S.fr x.2))=some r -> ∃ rs,Instr.fill If cs (parts.map fun x=>(x.1,a.eval x.2))=some rs/\ Yc M w ρ r rs
 | [],l,cs,r,hc,_,h=>by cases h;exact ⟨cs,rfl,hc⟩
 | (i,x)::rest,l,cs,r,hc,hr,h=>by
  simp only [zFa,Xs] at h;split at h
  ·cases h
  ·rename_i off size Fj;split at h
   ·cases h
   ·rename_i ds Fl;split at h
    ·rename_i A9;obtain ⟨c1,c2⟩:=T7 Fl (hr x);have Ak:(a.eval x).cells.size=size:=by rw [c1,A9.1]
     have nM: ¬ (off+(a.eval x).cells.size>cs.size):=by rw [c1,hc.1];omega
     obtain ⟨s1,s2⟩:=pm (a.eval x).cells.toList 0 off cs
     have H6:Yc M w ρ (Mn l off ds) ((a.eval x).cells.zipIdx.foldl (fun cs (c,j)=>cs.setIfInBounds (off+j) c) cs):=by
      have e0:((a.eval x).cells.zipIdx.foldl (fun cs (c,j)=>cs.setIfInBounds (off+j) c) cs)=(((a.eval x).cells.toList.zipIdx 0).foldl (fun (cs:Array Value) (x:Value×Nat)=>cs.setIfInBounds (off+x.2) x.1) cs):=by
       rw [←Array.foldl_toList];simp
      rw [e0];refine ⟨by rw [s1,ZA,hc.1],fun j hj=>?_⟩;rw [ZA] at hj;rw [s2 j,ZC l off ds hj]
      by_cases e:off<=j/\ j<off+ds.length
      ·rw [zAE (by simp;rw [c1,hc.1];omega),zAE e];obtain ⟨u,g1,g2⟩:=c2 (j-off) (by omega);exact ⟨u,by simpa using g1,g2⟩
      ·rw [zBP (by simp;rw [c1];omega),zBP e];exact hc.2 j hj
     obtain ⟨rs,g1,g2⟩:=oL rest _ _ r H6 hr h;refine ⟨rs,?_,g2⟩;simp only [zFa,Instr.fill,Fj];rw [zBP (by simp only [zBg,zCK];omega)];exact g1
    ·cases h
theorem wi {t:TypeId} {z:Value} {If:Nat -> Option (Nat×Nat)} (h:aK P t=some (z,If)) (parts:List (Nat×Value)):P.built t parts=Instr.fill If z.cells parts:=by
 unfold aK at h;unfold Program.built
 repeat' (split at h)
 all_goals first
  | (cases h;done)
  | (cases h;simp_all)
theorem yD (R:An P Γ N S ρ a w) {t:TypeId} {parts:Array (Nat×Operand)} {d:DV} {vc:Prop} (h:Wf P S t parts.toList=some (d,vc)):Yl P N w (MS N S.h ρ) ρ (Instr.build t (parts.map fun (i,x)=>(i,a.eval x))) d:=by
 unfold Wf at h;split at h
 ·rename_i z If hp;split at h
  ·rename_i l hl;cases h
   have h0:Yc (MS N S.h ρ) w ρ (z.cells.toList.map Fg) z.cells:=⟨by simp,fun j hj=>by
    have BI:j<z.cells.size:=by simpa using hj
    exact ⟨z.cells[j],by simp [BI],by
     have:(z.cells.toList.map Fg).getD j .any=Fg z.cells[j]:=by simp [BI]
     rw [this];exact Sq _⟩⟩
   obtain ⟨rs,g1,g2,g3⟩:=oL parts.toList _ _ _ h0 (Bx R) hl;refine Yl.pure (v:=.agg rs) (fun W=>run_build W t _ rs ?_) ⟨rs,rfl,g2,g3⟩;rw [wi hp];have e1:(parts.map fun (i,x)=>(i,a.eval x)).toList=parts.toList.map fun x=>(x.1,a.eval x.2):=by simp
   rw [e1];exact g1
  ·cases h
 ·cases h
theorem ZT {t:TypeId} {cs:Array Value} {off size m:Nat} {f:Nat -> DV} {d:DV} {M:Nat -> Prop} {i:TypeInfo} (hi:P.info? t=some i) (A9:i.size=size) (D8:cs.size=m) (hr: ∀ j,j<m -> ∃ u,cs[j]? =some u/\ AQ M w (f j) ρ u) (h:NK P t m f off size=some d):Yl P N w M ρ (part t cs off) d:=by
 unfold NK at h;split at h
 ·rename_i BV;split at h
  ·rename_i h1;split at h
   ·rename_i hs;cases h;obtain ⟨u,g1,g2⟩:=hr off (by omega);unfold Gf at h1;simp only [zBE,Option.isSome_iff_exists,zBh] at h1;obtain ⟨⟨dd,hd⟩,hn⟩:=h1;refine Yl.pure (v:=u) (fun W=>?_) g2;unfold part;rw [zBx,RV hd];simp [Result.andThen,hn,g1]
   ·cases h
  ·split at h
   ·rename_i h2;cases h;obtain ⟨h3,i',A5,hs'⟩:=eL h2;have ei:i'=i:=zBK (A5.symm.trans hi);subst ei;obtain ⟨dd,hd⟩:=mL h3;refine Yl.pure (v:=.agg (cs.extract off (off+size))) (fun W=>?_) ⟨_,rfl,by simp;omega,fun j hj=>?_⟩
    ·unfold part;rw [zBx,RV hd];simp only [Result.andThen,h3,zDH];rw [zBx,JS hi,A9];rfl
    ·obtain ⟨u,g1,g2⟩:=hr (off+j) (by omega);refine ⟨u,?_,zIO hj g2⟩;rw [Array.getElem?_extract];rw [zAE (by omega)];exact g1
   ·cases h
 ·cases h
theorem yi (R:An P Γ N S ρ a w) {t:TypeId} {x d:DV} {vc:Prop} {v:Value} {k:IntKind} {n:Int} (hx:AQ (MS N S.h ρ) w x ρ v) (h:bH P t x n=some (d,vc)) (hv:vc):Yl P N w (MS N S.h ρ) ρ (Instr.index t v (.int k n)) d:=by
 unfold bH at h;split at h
 ·rename_i m f;obtain ⟨cs,rfl,hs,hr⟩:=hx;split at h
  ·rename_i len e hu;split at h
   ·rename_i i hi;split at h
    ·rename_i hc;cases h;simp only [zBE,zBf] at hc;obtain ⟨⟨h1,h2⟩,rfl⟩:=hc
     have hp:NK P e len f n.toNat 1=some (f n.toNat):=by
      unfold NK;rw [zAE (by omega),zAE h1,zAE rfl]
     obtain ⟨u,g1,g2⟩:=ZT (P:=P) hi h2 hs hr hp;refine ⟨u,fun W hE=>?_,g2⟩;unfold Instr.index;simp only [asIntOf,zBx,zGN,Result.andThen,zDE hu];rw [zAE ⟨hv.1,hv.2⟩];simp only [zBx,JS hi,Result.andThen,h2,zE0];exact g1 W hE
    ·cases h
   ·cases h
  ·cases h
 ·cases h
theorem zCf (R:An P Γ N S ρ a w) {t:TypeId} {x d:DV} {vc:Prop} {v:Value} {fi:Nat} (hx:AQ (MS N S.h ρ) w x ρ v) (h:Xm P t x fi=some (d,vc)):Yl P N w (MS N S.h ρ) ρ (Instr.field t v fi) d:=by
 unfold Xm at h;split at h
 ·rename_i m f;obtain ⟨cs,rfl,hs,hr⟩:=hx;split at h
  ·rename_i fs hu;split at h
   ·rename_i fd hf;split at h
    ·rename_i i hi;split at h
     ·rename_i d' hp;cases h;obtain ⟨u,g1,g2⟩:=ZT (P:=P) hi rfl hs hr hp;refine ⟨u,fun W hE=>?_,g2⟩;unfold Instr.field;simp only [zBx,zDE hu,Result.andThen,hf,asAgg,zGN];exact g1 W hE
     ·cases h
    ·cases h
   ·cases h
  ·cases h
 ·cases h
theorem tu {k:IntKind} {n:Int} {y:Nat} {c:BoundsCode} (h0:0<=n) (h1:n<=y) (W:World):(Instr.sliceBound (.int k n) y c).run P W= .ok n.toNat W:=by
 unfold Instr.sliceBound;simp only [asIntOf,zBx,zGN,Result.andThen];rw [zAE ⟨h0,h1⟩];rfl
theorem mM (R:An P Γ N S ρ a w) {o:Option Operand} {l:Option Int} (h:Wo S o=some l): ∃ k,o.map a.eval=l.map (Value.int k):=by
 cases o with
 | none=>cases h;exact ⟨.i64,rfl⟩
 | some x=>
  simp only [Wo] at h;split at h
  ·rename_i k n e;cases h;have:=Bx R x;rw [e] at this;exact ⟨k,by simp only [zCL];rw [show a.eval x=_ from this]⟩
  ·cases h
theorem VK {t e:TypeId} {i:TypeInfo} {ad:Option Addr} {len cap:Nat} {kl kh:IntKind} {lo hi:Option Int} (hu:P.underlying t=some (.slice e)) (A5:P.info? e=some i) (h0:0<=lo.getD 0) (h1:lo.getD 0<=hi.getD len) (h2:hi.getD len<=len) (h3:len<=cap) (W:World):
 (Instr.sliceAt t (.slice ad len cap) (lo.map (Value.int kl)) (hi.map (Value.int kh)) none).run P W=
  .ok (.slice (if cap=(lo.getD 0).toNat then ad else ad.map (·.add ((lo.getD 0).toNat*i.size))) ((hi.getD len).toNat-(lo.getD 0).toNat) (cap-(lo.getD 0).toNat)) W:=by
 have hb:(Instr.sliceBounds true len cap (lo.map (Value.int kl)) (hi.map (Value.int kh)) none).run P W= .ok ((lo.getD 0).toNat,(hi.getD len).toNat,cap) W:=by
  cases lo <;> cases hi <;> simp only [Option.map_none,zCL,Option.getD_none,zFs] at* <;>
   simp (disch:=omega) [Instr.sliceBounds,tu,zBx,Result.andThen]
 unfold Instr.sliceAt;simp only [zBx,zDE hu,Result.andThen];unfold Instr.slice;simp only [zBx,zDE hu,Result.andThen,hb,JS A5];rfl
theorem zDY (R:An P Γ N S ρ a w) {t:TypeId} {x d:DV} {vc:Prop} {v:Value} {kl kh:IntKind} {lo hi:Option Int} (hx:AQ (MS N S.h ρ) w x ρ v) (h:db P t x lo hi=some (d,vc)) (hv:vc):
 Yl P N w (MS N S.h ρ) ρ (Instr.sliceAt t v (lo.map (Value.int kl)) (hi.map (Value.int kh)) none) d:=by
 unfold db at h;split at h
 ·rename_i e hu;split at h
  ·rename_i i A5
   have gd: ∀ {α:Type} (l:List α) (q c j:Nat) (d:α),j<((l.take c).drop q).length -> ((l.take c).drop q).getD j d=l.getD (q+j) d:=fun l q c j d hj=>by
    simp only [zGP,List.length_take] at hj;simp only [u8,zFc,List.getElem?_take];rw [zAE (by omega)]
   split at h
   ·rename_i l;split at h
    ·rename_i hs;cases h;obtain ⟨ad,cap,rfl,g1,g2,g3⟩:=hx;obtain ⟨v1,v2,v3⟩:=hv;have hl:((l.take (hi.getD l.length).toNat).drop (lo.getD 0).toNat).length=(hi.getD l.length).toNat-(lo.getD 0).toNat:=by simp;omega
     refine Yl.pure (fun W=>VK hu A5 v1 v2 v3 g1 W) ⟨_,_,by rw [hl],by omega,by omega,fun j hj=>?_⟩;have BI:=hj;rw [hl] at BI;obtain ⟨b,o,rfl,q1,q2⟩:=g3 ((lo.getD 0).toNat+j) (by omega);refine ⟨b,o+(lo.getD 0).toNat,?_,q1,?_⟩
     ·rw [zBP (by omega)];simp only [zCL,JH,hs,zE0]
     ·rw [gd _ _ _ _ _ hj,zDG];exact q2
    ·cases h
   ·rename_i l;split at h
    ·rename_i hs;cases h;obtain ⟨ad,cap,rfl,g1,g2,g3⟩:=hx;obtain ⟨v1,v2,v3⟩:=hv;have hl:((l.take (hi.getD l.length).toNat).drop (lo.getD 0).toNat).length=(hi.getD l.length).toNat-(lo.getD 0).toNat:=by simp;omega
     refine Yl.pure (fun W=>VK hu A5 v1 v2 v3 g1 W) ⟨_,_,by rw [hl],by omega,by omega,fun j hj=>?_⟩;have BI:=hj;rw [hl] at BI;obtain ⟨b,o,rfl,q1,q2⟩:=g3 ((lo.getD 0).toNat+j) (by omega);refine ⟨b,o+(lo.getD 0).toNat,?_,q1,?_⟩
     ·rw [zBP (by omega)];simp only [zCL,JH,hs,zE0]
     ·rw [gd _ _ _ _ _ hj,zDG];exact q2
    ·cases h
   ·rename_i m n f;split at h
    ·rename_i hs;cases h;obtain ⟨ad,cap,rfl,g1,g2,g3⟩:=hx;obtain ⟨v1,v2,v3⟩:=hv;refine Yl.pure (fun W=>VK hu A5 v1 v2 v3 g1 W) ⟨_,_,rfl,by omega,by omega,fun i1 j hi1 hj=>?_⟩;obtain ⟨b,o,u,rfl,q1,q2,q3⟩:=g3 ((lo.getD 0).toNat+i1) j (by omega) hj;refine ⟨b,o+(lo.getD 0).toNat*m,u,?_,q1,?_,q3⟩
     ·rw [zBP (by omega)];simp only [zCL,JH,hs]
     ·rw [zFj,zDG] at q2;rw [zDG];exact q2
    ·cases h
   ·rename_i k m off n;split at h
    ·rename_i hs;cases h;obtain ⟨p,cap,hp,rfl,g1,g2,g3⟩:=hx;obtain ⟨v1,v2,v3⟩:=hv;have BV:(lo.getD 0).toNat<=cap:=by omega
     refine Yl.pure (fun W=>VK hu A5 v1 v2 v3 g1 W) ⟨p,_,cap-(lo.getD 0).toNat,hp,rfl,by omega,by omega,fun hc=>⟨?_,?_⟩⟩
     ·rw [zBP (by omega)];simp only [zCL,JH,hs,zFj,zDG]
     ·have:cap*m=(lo.getD 0).toNat*m+(cap-(lo.getD 0).toNat)*m:=by rw [←zFj];congr 1;omega
      rw [zFj];omega
    ·cases h
   ·cases h
  ·cases h
 ·cases h
theorem iS {e:TypeId} {k':IntKind} {i:TypeInfo} {n d:Nat} {xs ys:Array Value} {f g:Nat -> DV} {M:Nat -> Prop} (hi:P.info? e=some i) (hs:i.size=1) (h1:Gf P e=true) (hk:P.underlying e=some (.int k')) (hx:xs.size=n) (hy:ys.size=n)
 (rx: ∀ j,j<n -> ∃ u,xs[j]? =some u/\ AQ M w (f j) ρ u) (ry: ∀ j,j<n -> ∃ u,ys[j]? =some u/\ AQ M w (g j) ρ u) (hI: ∀ j,j<n -> Kk (f j)=true/\ Kk (g j)=true):
 ∀ (is:List Nat),(∀ j∈is,j<n) -> ∀ W,Keep N w W -> (Op.eqItems (d+1) e 1 xs ys is).run P W= .ok (QO f g is) W
 | [],_,W,_=>rfl
 | j::is,hb,W,hE=>by
  have hj:j<n:=hb j (by simp)
  have kO: ∀ {cs:Array Value} {f:Nat -> DV},cs.size=n -> (∀ j,j<n -> ∃ u,cs[j]? =some u/\ AQ M w (f j) ρ u) -> Kk (f j)=true -> (part e cs (j*1)).run P W= .ok (.int .i64 (H2 (f j))) W:=by
   intro cs f hc hr hf
   have hp:NK P e n f (j*1) 1=some (f j):=by
    unfold NK;rw [zAE (by omega),zAE h1,zAE rfl,zE0]
   obtain ⟨u,g1,g2⟩:=ZT (P:=P) hi hs hc hr hp;rw [g1 W hE,bI hf g2]
  simp only [Op.eqItems,zBx,kO hx rx (hI j hj).1,kO hy ry (hI j hj).2,Result.andThen,zGs W d e .i64 k' _ _ hk];unfold QO;cases hq:(H2 (f j)==H2 (g j)) with
  | false=>rfl
  | true=>
   simp only [zCJ,zCQ,zFo,zCE];exact iS hi hs h1 hk hx hy rx ry hI is (fun j hj=>hb j (by simp [hj])) W hE
theorem zC9 {M:Nat -> Prop} {op:BinOp} {t:TypeId} {x y:DV} {vx vy:Value} {d:DV} {vc:Prop} (ox oy:Operand) (hx:AQ M w x ρ vx) (hy:AQ M w y ρ vy) (h:Tx P op t x y=some (d,vc)):
 Yl P N w M ρ (do eqGuard op t ox oy vx vy;binOp op t vx vy) d:=by
 have key: ∀ {m m':Nat} {f g:Nat -> DV} {is:List Nat} {xs ys:Array Value},X0 P t f g m m'=some is -> xs.size=m -> ys.size=m' -> (∀ j,j<m -> ∃ u,xs[j]? =some u/\ AQ M w (f j) ρ u) -> (∀ j,j<m' -> ∃ u,ys[j]? =some u/\ AQ M w (g j) ρ u) ->
  P.eqGuardType P.depth t=false/\ ∀ W,Keep N w W -> (Op.equalIn 10000 t (.agg xs) (.agg ys)).run P W= .ok (QO f g is) W:=by
  intro m m' f g is xs ys hb sx sy rx ry;unfold X0 at hb;split at hb
  ·rename_i n e hu;split at hb
   ·rename_i i hi;split at hb
    ·rename_i k' hk;split at hb
     ·rename_i hc;cases hb;simp only [zBE,zBf,zBT,zBc] at hc;obtain ⟨⟨⟨⟨⟨c1,c2⟩,c3⟩,c4⟩,c5⟩,c6⟩:=hc;subst c4;subst c5;refine ⟨c3,fun W hE=>?_⟩;have DS:P.cellsOf e=1:=by unfold Program.cellsOf;rw [hi];exact c1
      rw [run_equalIn_array W 9999 xs ys hu hi,DS];exact iS (d:=9998) hi c1 c2 hk sx sy rx ry c6 _ (fun j hj=>zBc.1 hj) W hE
     ·cases hb
    ·cases hb
   ·cases hb
  ·cases hb
 unfold Tx at h;split at h
 ·rename_i m f m' g;split at h
  ·rename_i is hb;cases h;obtain ⟨xs,rfl,sx,rx⟩:=hx;obtain ⟨ys,rfl,sy,ry⟩:=hy;obtain ⟨k1,k2⟩:=key hb sx sy rx ry;refine ⟨.bool _,fun W hE=>?_,rfl⟩;simp only [zBx,run_eqGuard_agg W .eql t ox oy xs ys k1,Result.andThen,run_eql_struct,k2 W hE]
  ·cases h
 ·rename_i m f m' g;split at h
  ·rename_i is hb;cases h;obtain ⟨xs,rfl,sx,rx⟩:=hx;obtain ⟨ys,rfl,sy,ry⟩:=hy;obtain ⟨k1,k2⟩:=key hb sx sy rx ry;refine ⟨.bool _,fun W hE=>?_,rfl⟩;simp only [zBx,run_eqGuard_agg W .neq t ox oy xs ys k1,Result.andThen,run_neq_struct,k2 W hE]
  ·cases h
 ·cases h
theorem wf (R:An P Γ N S ρ a w) (o:Oper) {d:DV} {vc:Prop} (h:Sd P S o.op=some (d,vc)) (hv:vc):
 ∃ v,(∀ W,Keep N w W -> (execOp a.eval o).run P W= .ok (.value v) W)/\ AQ (MS N S.h ρ) w d ρ v:=by
 unfold Sd at h;split at h
 ·rename_i t parts ho;exact HQ (by unfold execOp;rw [ho]) (yD R h)
 ·rename_i t x i ho;have hi:=Bx R i;split at h
  ·rename_i k n e;rw [e] at hi;refine HQ (s:=Instr.index t (a.eval x) (a.eval i)) (by unfold execOp;rw [ho]) ?_;rw [show a.eval i=_ from hi];exact yi R (Bx R x) h hv
  ·cases h
 ·rename_i t x f ho;exact HQ (s:=Instr.field t (a.eval x) f) (by unfold execOp;rw [ho]) (zCf R (Bx R x) h)
 ·rename_i t x lo hi ho;split at h
  ·rename_i l hl;split at h
   ·rename_i hh hhh;obtain ⟨k1,e1⟩:=mM R hl;obtain ⟨k2,e2⟩:=mM R hhh;refine HQ (s:=Instr.sliceAt t (a.eval x) (lo.map a.eval) (hi.map a.eval) none) (by unfold execOp;rw [ho];rfl) ?_;rw [e1,e2];exact zDY R (Bx R x) h hv
   ·cases h
  ·cases h
 ·rename_i op t x y t' ho;split at h
  ·rename_i r hr;cases h;exact HQ (by unfold execOp;rw [ho]) (zC9 x y (Bx R x) (Bx R y) hr)
  ·rw [←ho] at h;exact kE R o h hv
 ·exact kE R o h hv
end
end Go.Proofs.YtekkngkphejfcaaGreatDoor
namespace Go.Proofs.YtekkngkphejfcaaGreatDoor
abbrev zGe:=@or_congr
end Go.Proofs.YtekkngkphejfcaaGreatDoor
namespace Go.Proofs.YtekkngkphejfcaaGreatDoor
open Go.RowKit
def Bo:List Prop -> Prop
 | []=>True
 | p::ps=>p/\ Bo ps
theorem DM {l l':List Prop}:Bo (l++l')↔Bo l/\ Bo l':=by
 induction l with
 | nil=>simp [Bo]
 | cons p ps ih=>simp [Bo,ih,and_assoc]
def AS (d d':DV):Prop:=∀ (M:Nat -> Prop) (w:World) (ρ:List AN) (v:Value),AQ M w d ρ v -> AQ M w d' ρ v
section
variable {P:Program} {Γ:A6} {N:Nat -> Prop}
theorem DR {w:World} {M M':Nat -> Prop} (h: ∀ b,M' b -> M b) (ρ:List AN):Ba M w ρ M' w ρ:=⟨fun _ _ _ _=>rfl,fun b hb=>.inl (h b hb),fun _ _ h=>h⟩
def Xh:DO -> Option (Nat×Nat×DV)
 | .ints l=>some (1,l.length,.ints l)
 | .bools l=>some (1,l.length,.bools l)
 | .arr m n f=>some (m,n,.sl m n f)
 | _=>none
def L9 (k m:Nat) (v:DV):DV -> DV
 | .msl k' m' off n=>if k'=k/\ m'=m/\ off=0 then v else .msl k' m' off n
 | d=>d
def Tq (k m n:Nat):DV -> List Prop
 | .msl k' m' off n'=>if k'=k/\ m'=m/\ off=0 then [n'=n] else []
 | _=>[]
def Xi (k m:Nat) (v:DV):Option DO -> Option DO
 | some (.cells l)=>some (.cells (l.map (L9 k m v)))
 | o=>o
def oC (k m n:Nat):Option DO -> List Prop
 | some (.cells l)=>l.flatMap (Tq k m n)
 | _=>[]
def I5 (k m:Nat) (v:DV) (S:St):St:=⟨S.fr.map (L9 k m v),(S.h.set k none).map (Xi k m v)⟩
theorem py {l:List DV} {f:DV -> List Prop} (h:Bo (l.flatMap f)) {d:DV} (hd:d∈l):Bo (f d):=by
 induction l with
 | nil=>simp at hd
 | cons x l ih=>
  rw [zGc] at h;obtain ⟨h1,h2⟩:=DM.1 h;rcases zCB.1 hd with rfl | hd
  ·exact h1
  ·exact ih h2 hd
theorem zEj {l:List (Option DO)} {f:Option DO -> List Prop} (h:Bo (l.flatMap f)) {d:Option DO} (hd:d∈l):Bo (f d):=by
 induction l with
 | nil=>simp at hd
 | cons x l ih=>
  rw [zGc] at h;obtain ⟨h1,h2⟩:=DM.1 h;rcases zCB.1 hd with rfl | hd
  ·exact h1
  ·exact ih h2 hd
theorem zCY {M M':Nat -> Prop} {w:World} {ρ:List AN} {p:AN} {o:DO} {m n:Nat} {v:DV} (ho:Xh o=some (m,n,v)) (hr:DD P M w ρ p o) (hN: ¬ M' p.blk) (hM: ∀ b,M' b -> M b) {u:Value} {cap:Nat} (hu:u= .slice (some ⟨p.blk,p.off+0*m,none⟩) n cap) (h1:n<=cap) (h2:n<=LB):AQ M' w v ρ u:=by
 cases o with
 | cells l=>cases ho
 | iter e=>cases ho
 | mo x=>cases ho
 | ints l=>
  cases ho;refine ⟨_,cap,hu,h1,h2,fun j hj=>⟨p.blk,p.off,by simp,hN,?_⟩⟩;obtain ⟨x,e1,e2⟩:=Ag.cell hr hj;rw [e1,e2]
 | bools l=>
  cases ho;refine ⟨_,cap,hu,h1,h2,fun j hj=>⟨p.blk,p.off,by simp,hN,?_⟩⟩;obtain ⟨x,e1,e2⟩:=Ag.cell hr hj;rw [e1,e2]
 | arr m n f=>
  cases ho;refine ⟨_,cap,hu,h1,h2,fun i j hi hj=>?_⟩;have AP:i*m+j<n*m:=zBY (by rw [zGL];omega:i*m+j<(i+1)*m) (zFT m hi);obtain ⟨x,e1,e2⟩:=Ag.cell hr AP;have hm:0<m:=by omega
  have d1:(i*m+j)/m=i:=by rw [zFn,Nat.mul_add_div hm];simp [Nat.div_eq_of_lt hj]
  have d2:(i*m+j) % m=j:=by rw [zFn,Nat.mul_add_mod];exact zGM hj
  rw [d1,d2] at e2;exact ⟨p.blk,p.off,x,by simp,hN,e1,AQ.out _ (DR hM []) e2⟩
theorem zCZ {M:Nat -> Prop} {w:World} {ρ:List AN} {p:AN} {o:DO} {m n:Nat} {v:DV} (ho:Xh o=some (m,n,v)) (hr:DD P M w ρ p o):p.foot=fun b=>b=p.blk:=by
 cases o with
 | cells l=>cases ho
 | iter e=>cases ho
 | mo x=>cases ho
 | ints l=>exact hr.1
 | bools l=>exact hr.1
 | arr m n f=>exact hr.1
theorem To {k m:Nat} {v:DV} {h:DH} {i:Nat} {o':DO} (hi:((h.set k none).map (Xi k m v))[i]? =some (some o')):i≠k/\ ∃ o,h[i]? =some (some o)/\ Xi k m v (some o)=some o':=by
 rw [zBn] at hi;cases hx:(h.set k none)[i]? with
 | none=>rw [hx] at hi;cases hi
 | some x=>
  rw [hx] at hi;have hi:Xi k m v x=some o':=zBK hi;cases x with
  | none=>cases hi
  | some o=>exact ⟨(F4 hx).1,o,(F4 hx).2,hi⟩
def Dn (S S':St):Prop:=∀ (P:Program) (Γ:A6) (N:Nat -> Prop) (ρ:List AN) (a:Act) (w:World),An P Γ N S ρ a w -> An P Γ N S' ρ a w/\ BL S.h ρ w S'.h ρ w
theorem Dn.frz {S:St} (k:Nat) {o:DO} {m n:Nat} {v:DV} (hk:S.h[k]? =some (some o)) (ho:Xh o=some (m,n,v)) (hc:Bo (S.fr.flatMap (Tq k m n))) (Iv:Bo (S.h.flatMap (oC k m n))):Dn S (I5 k m v S):=fun P Γ N ρ a w R=>by
 obtain ⟨p,hp,hr⟩:=R.hr.obj k _ hk;have D7:p.foot=fun b=>b=p.blk:=zCZ ho hr
 have dD: ∀ b,MO (I5 k m v S).h ρ b -> ∃ i o p',i≠k/\ S.h[i]? =some (some o)/\ ρ[i]? =some p'/\ p'.foot b:=by
  rintro b ⟨i,o',p',g1,g2,g3⟩;obtain ⟨e1,o2,e2,_⟩:=To g1;exact ⟨i,o2,p',e1,e2,g2,g3⟩
 have hN: ¬ MS N (I5 k m v S).h ρ p.blk:=by
  rintro (hn | hb)
  ·exact (R.hr.cel k _ p p.blk hk hp (by rw [D7])).2.1 hn
  ·obtain ⟨i,o2,p',e1,e2,g2,g3⟩:=dD _ hb;exact R.hr.dis i k _ _ p' p p.blk e1 e2 hk g2 hp g3 (by rw [D7])
 have hM: ∀ b,MS N (I5 k m v S).h ρ b -> MS N S.h ρ b:=fun b hb=>hb.imp id fun hb=>by
  obtain ⟨i,o2,p',_,e2,g2,g3⟩:=dD _ hb;exact ⟨i,o2,p',e2,g2,g3⟩
 have conv: ∀ (d:DV) (u:Value),Bo (Tq k m n d) -> AQ (MS N S.h ρ) w d ρ u -> AQ (MS N (I5 k m v S).h ρ) w (L9 k m v d) ρ u:=by
  intro d u cq hd;cases d with
  | msl k' m' off n'=>
   simp only [Tq,L9] at cq ⊢;split at cq
   ·rename_i e;obtain ⟨rfl,rfl,rfl⟩:=e;rw [zAE ⟨rfl,rfl,rfl⟩];obtain ⟨p',cap,BE,e,g1,g2,_⟩:=hd;have ep:p'=p:=zBK (BE.symm.trans hp);subst ep;have en:=cq.1;subst en;exact zCY ho hr hN hM e g1 g2
   ·rename_i e;rw [zBP e];exact AQ.out _ (DR hM ρ) hd
  | _=>exact AQ.out _ (DR hM ρ) hd
 refine ⟨⟨⟨by simp [I5,R.hr.len],fun i o' hi=>?_,fun i o' p' b g1 g2 g3=>?_,fun i i' o1 o2 p1 p2 b AY g1 g2 g3 g4 g5 g6=>?_,R.hr.nlt,R.hr.gi⟩,⟨by simp [I5,R.fr.1],fun i hi=>?_⟩⟩,⟨AV.refl _ w,fun b hb=>.inl ?_⟩⟩
 ·obtain ⟨e1,o2,e2,e3⟩:=To hi;obtain ⟨p',BE,C7⟩:=R.hr.obj i o2 e2;refine ⟨p',BE,?_⟩;cases o2 with
  | cells l=>
   cases e3
   show Ag w p' (l.map (L9 k m v)).length _
   rw [zE4];refine Ag.out C7 rfl fun j u hj hu=>?_
   have:(l.map (L9 k m v)).getD j .any=L9 k m v (l.getD j .any):=by simp [hj]
   rw [this];refine conv _ _ ?_ hu
   have AR:some (DO.cells l)∈S.h:=zCc e2;have:=zEj Iv AR;exact py (l:=l) this (by simp [hj])
  | ints l=>cases e3;exact Ag.out C7 rfl fun j u _ hu=>hu
  | bools l=>cases e3;exact Ag.out C7 rfl fun j u _ hu=>hu
  | arr m n f=>cases e3;exact Ag.out C7 rfl fun j u _ hu=>AQ.out _ (DR hM []) hu
  | iter encs=>
   cases e3;obtain ⟨gf,lb,Rd,q1,q2,q3,q4⟩:=C7;exact ⟨gf,lb,Rd,q1,q2,fun b hb=>⟨fun hm=>(q3 b hb).1 (hM b hm),(q3 b hb).2⟩,q4⟩
  | mo x=>cases e3;exact C7
 ·obtain ⟨e1,o2,e2,e3⟩:=To g1;obtain ⟨q1,q2,q3⟩:=R.hr.cel i o2 p' b e2 g2 g3;exact ⟨q1,q2,q3⟩
 ·obtain ⟨e1,o3,e2,_⟩:=To g1;obtain ⟨QQ,o4,T0,_⟩:=To g2;exact R.hr.dis i i' o3 o4 p1 p2 b AY e2 T0 g3 g4 g5 g6
 ·have A5:i<S.fr.length:=by simpa [I5] using hi
  have:(I5 k m v S).fr.getD i .any=L9 k m v (S.fr.getD i .any):=by simp [I5,A5]
  rw [this];refine conv _ _ (py hc (by simp [A5])) (R.fr.2 i A5)
 ·obtain ⟨i,o2,p',_,e2,g2,g3⟩:=dD _ hb;exact ⟨i,o2,p',e2,g2,g3⟩
def Tp (k:Nat) (S:St):Option (St×List Prop):=match S.h.getD k none with
 | some o=>match Xh o with
  | some (m,n,v)=>some (I5 k m v S,S.fr.flatMap (Tq k m n)++S.h.flatMap (oC k m n))
  | none=>none
 | none=>none
theorem Dn.frzE {S:St} (k:Nat) (S':St) (vs:List Prop) (h:Tp k S=some (S',vs)) (hv:Bo vs):Dn S S':=by
 unfold Tp at h;split at h
 ·rename_i o ho;split at h
  ·rename_i m n v hf;cases h;obtain ⟨h1,h2⟩:=DM.1 hv;refine Dn.frz k ?_ hf h1 h2;rw [u8] at ho;cases hx:S.h[k]? with
   | none=>rw [hx] at ho;cases ho
   | some x=>rw [hx] at ho;exact congrArg some ho
  ·cases h
 ·cases h
theorem Dn.refl (S:St):Dn S S:=fun _ _ _ _ _ _ R=>⟨R,BL.refl _ _ _⟩
theorem Dn.trans {A B C:St} (h:Dn A B) (k:Dn B C):Dn A C:=fun P Γ N ρ a w R=>by
 obtain ⟨R1,s1⟩:=h P Γ N ρ a w R;obtain ⟨R2,s2⟩:=k P Γ N ρ a w R1;exact ⟨R2,s1.trans s2⟩
theorem MO.put {h:DH} {ρ:List AN} {k:Nat} {o o':DO} (hk:h[k]? =some (some o)) {b:Nat}:MO (h.set k (some o')) ρ b↔MO h ρ b:=by
 have AP:=(zBN.1 hk).1;constructor
 ·rintro ⟨i,x,p,h1,h2,h3⟩;rw [zCb] at h1
  by_cases e:k=i
  ·subst e;exact ⟨k,o,p,hk,h2,h3⟩
  ·rw [zBP e] at h1;exact ⟨i,x,p,h1,h2,h3⟩
 ·rintro ⟨i,x,p,h1,h2,h3⟩
  by_cases e:k=i
  ·subst e;exact ⟨k,o',p,by simp [AP],h2,h3⟩
  ·exact ⟨i,x,p,by rw [zCb,zBP e];exact h1,h2,h3⟩
theorem Dn.obj {S:St} {k:Nat} {o o':DO} (hk:S.h[k]? =some (some o)) (hO: ∀ (P:Program) (M:Nat -> Prop) (w:World) (ρ:List AN) (p:AN),DD P M w ρ p o -> DD P M w ρ p o'):Dn S ⟨S.fr,S.h.set k (some o')⟩:=fun P Γ N ρ a w R=>by
 have hM: ∀ b,MS N (S.h.set k (some o')) ρ b↔MS N S.h ρ b:=fun b=>zGe Iff.rfl (MO.put hk)
 have back: ∀ {i:Nat} {x:DO},(S.h.set k (some o'))[i]? =some (some x) -> ∃ y,S.h[i]? =some (some y)/\ (i=k/\ x=o'∨y=x):=by
  intro i x hi;rw [zCb] at hi
  by_cases e:k=i
  ·subst e;rw [zAE rfl,zAE (zBN.1 hk).1] at hi;cases hi;exact ⟨o,hk,.inl ⟨rfl,rfl⟩⟩
  ·rw [zBP e] at hi;exact ⟨x,hi,.inr rfl⟩
 have O:Ba (MS N S.h ρ) w ρ (MS N (S.h.set k (some o')) ρ) w ρ:=DR (fun b hb=>(hM b).1 hb) ρ;refine ⟨⟨⟨by simp [R.hr.len],fun i x hi=>?_,fun i x p b g1 g2 g3=>?_,fun i i' o1 o2 p1 p2 b AY g1 g2 g3 g4 g5 g6=>?_,R.hr.nlt,R.hr.gi⟩,R.fr.out O⟩,⟨AV.refl _ w,fun b hb=>.inl ((MO.put hk).1 hb)⟩⟩
 ·rw [zCb] at hi
  by_cases e:k=i
  ·subst e;rw [zAE rfl,zAE (zBN.1 hk).1] at hi;cases hi;obtain ⟨p,hp,hr⟩:=R.hr.obj k o hk;exact ⟨p,hp,hO P _ w ρ p (hr.out O (S:=fun _=>False) (AV.refl _ _) (fun _ h=>h.elim) fun _ _ _ h=>h)⟩
  ·rw [zBP e] at hi;obtain ⟨p,hp,hr⟩:=R.hr.obj i x hi;exact ⟨p,hp,hr.out O (S:=fun _=>False) (AV.refl _ _) (fun _ h=>h.elim) fun _ _ _ h=>h⟩
 ·obtain ⟨y,e,_⟩:=back g1;exact R.hr.cel i y p b e g2 g3
 ·obtain ⟨y1,e1,_⟩:=back g1;obtain ⟨y2,e2,_⟩:=back g2;exact R.hr.dis i i' y1 y2 p1 p2 b AY e1 e2 g3 g4 g5 g6
inductive Fz where
 | frz (k:Nat)
 | arr (k n:Nat) (f:Nat -> Nat -> DV)
 | unf (k:Nat)
def pn (k n':Nat) (f':Nat -> Nat -> DV) (S:St):Option (St×List Prop):=match S.h.getD k none with
 | some (.arr m n f)=>some (⟨S.fr,S.h.set k (some (.arr m n' f'))⟩,[n=n'/\ ∀ i j,i<n -> j<m -> AS (f i j) (f' i j)])
 | _=>none
def Xf:Fz -> St -> Option (St×List Prop)
 | .frz k,S=>Tp k S
 | .arr k n f,S=>pn k n f S
 | .unf k,S=>match S.h.getD k none with
  | some (.mo (.rows f (some (_,_,false))))=>some (⟨S.fr,S.h.set k (some (.mo (.rows f none)))⟩,[])
  | _=>none
theorem Ed.unf {w:World} {p:AN} {f:Int -> List Int} {x:Int} {L:List Int} {u:Value} {es:Array MapEntry} {Ad:Nat} (h:Ed w p f (some (x,L,false)) u es Ad):Ed w p f none u es Ad:=
 { h with
  key:=fun e he=>let ⟨k,h1,h2⟩:=h.key e he;⟨k,h1,fun _=>h2 fun L e=>by cases e⟩
  inHand:=fun k L g e=>by cases e }
theorem getD_some {h:DH} {k:Nat} {o:DO} (ho:h.getD k none=some o):h[k]? =some (some o):=by
 rw [u8] at ho;cases hx:h[k]? with
 | none=>rw [hx] at ho;cases ho
 | some x=>rw [hx] at ho;exact congrArg some ho
theorem Dn.fz {S:St} (z:Fz) (S':St) (vs:List Prop) (h:Xf z S=some (S',vs)) (hv:Bo vs):Dn S S':=by
 cases z with
 | frz k=>exact Dn.frzE k S' vs h hv
 | arr k n' f'=>
  simp only [Xf,pn] at h;split at h
  ·rename_i m n f ho;cases h;obtain ⟨⟨rfl,hd⟩,_⟩:=hv;refine Dn.obj (getD_some ho) fun P M w ρ p hr=>?_
   refine Ag.out hr rfl fun j u hj hu=>?_
   have hm:0<m:=by
    rcases zGV m with e | e
    ·subst e;omega
    ·exact e
   exact hd _ _ ((zFu hm).2 hj) (zGx _ hm) M w [] u hu
  ·cases h
 | unf k=>
  simp only [Xf] at h;split at h
  ·rename_i f x L ho;cases h;exact Dn.obj (getD_some ho) fun P M w ρ p ⟨u,es,Ad,hA⟩=>⟨u,es,Ad,hA.unf⟩
  ·cases h
def Xg:List (Nat×Fz) -> Option Nat -> St -> Option (St×List Prop×List (Nat×Fz))
 | [],_,S=>some (S,[],[])
 | (t,z)::rest,dst,S=>if dst=some t then match Xf z S with
  | some (S',vs)=>match Xg rest dst S' with
   | some (Cn,Bz,r)=>some (Cn,vs++Bz,r)
   | none=>none
  | none=>none
  else some (S,[],(t,z)::rest)
theorem dS: ∀ (l:List (Nat×Fz)) {dst:Option Nat} {S S':St} {vs:List Prop} {r:List (Nat×Fz)},Xg l dst S=some (S',vs,r) -> Bo vs -> Dn S S'
 | [],dst,S,S',vs,r,h,_=>by cases h;exact Dn.refl S
 | (t,z)::rest,dst,S,S',vs,r,h,hv=>by
  simp only [Xg] at h;split at h
  ·split at h
   ·rename_i S1 C1 h1;split at h
    ·rename_i S2 FW r2 h2;cases h;obtain ⟨Bn,CT⟩:=DM.1 hv;exact (Dn.fz z S1 C1 h1 Bn).trans (dS rest h2 CT)
    ·cases h
   ·cases h
  ·cases h;exact Dn.refl S
abbrev VQ {α:Type} [Inhabited α] (enc:α -> Nat -> DV) (L:List α):Nat -> Nat -> DV:=fun i j=>enc (L.getD i default) j
theorem uD {α:Type} [Inhabited α] {enc:α -> Nat -> DV} {n m:Nat} {x:α} {g:Nat -> Nat -> DV} (hg: ∀ i j,j<m -> AS (g i j) (enc x j)):n=(List.replicate n x).length/\ ∀ i j,i<n -> j<m -> AS (g i j) (VQ enc (List.replicate n x) i j):=by
 refine ⟨by simp,fun i j hi hj=>?_⟩;have:(List.replicate n x).getD i default=x:=by simp [u8,hi]
 rw [VQ,this];exact hg i j hj
theorem BQ {d:DV}:AS d d:=fun _ _ _ _ h=>h
def K2:List DV -> List DV -> Prop
 | [],[]=>True
 | d::ds,e::es=>AS d e/\ K2 ds es
 | _,_=>False
theorem Ub: ∀ {l l':List DV},K2 l l' -> l.length=l'.length/\ ∀ j,j<l.length -> AS (l.getD j .any) (l'.getD j .any)
 | [],[],_=>⟨rfl,fun j hj=>absurd hj (zBW j)⟩
 | d::ds,e::es,⟨h1,h2⟩=>by
  obtain ⟨q1,q2⟩:=Ub h2;refine ⟨by simp [q1],fun j hj=>?_⟩;cases j with
  | zero=>exact h1
  | succ j=>exact q2 j (by simpa using hj)
 | [],_::_,h=>h.elim
 | _::_,[],h=>h.elim
theorem pz {l l':List DV} (h:K2 l l') (j:Nat):AS (l.getD j .any) (l'.getD j .any):=by
 obtain ⟨h1,h2⟩:=Ub h
 by_cases hj:j<l.length
 ·exact h2 j hj
 ·rw [u8,u8,zCP (by omega),zCP (by omega)];exact BQ
def ZY:List DV -> List (List DV) -> Prop
 | [],[]=>True
 | v::vs,c::cs=>(∃ l,I8 v=some l/\ K2 l c)/\ ZY vs cs
 | _,_=>False
theorem iY: ∀ {vs:List DV} {cs:List (List DV)},ZY vs cs -> vs.length=cs.length/\ ∀ i,i<vs.length -> ∃ l,I8 (vs.getD i .any)=some l/\ K2 l (cs.getD i [])
 | [],[],_=>⟨rfl,fun i hi=>absurd hi (zBW i)⟩
 | v::vs,c::cs,⟨h1,h2⟩=>by
  obtain ⟨q1,q2⟩:=iY h2;refine ⟨by simp [q1],fun i hi=>?_⟩;cases i with
  | zero=>exact h1
  | succ i=>exact q2 i (by simpa using hi)
 | [],_::_,h=>h.elim
 | _::_,[],h=>h.elim
theorem ZW {α:Type} [Inhabited α] {c:α -> List DV} {L:List α} {vals:List DV} {m n:Nat} (hn:n=vals.length) (h:ZY vals (L.map c)):n=L.length/\ ∀ i j,i<n -> j<m -> AS (match I8 (vals.getD i .any) with | some l=>l.getD j .any | none=>.any) (VQ (fun x j=>(c x).getD j .any) L i j):=by
 subst hn;obtain ⟨h1,h2⟩:=iY h;rw [zE4] at h1;refine ⟨h1,fun i j hi _=>?_⟩;obtain ⟨l,e,hl⟩:=h2 i hi;rw [e];have:(L.map c).getD i []=c (L.getD i default):=by simp [u8,h1▸hi]
 rw [this] at hl;exact pz hl j
theorem uE {α:Type} [Inhabited α] {c:α -> List DV} {x:α} {l:List DV} {n m:Nat} (h:K2 l (c x)):n=(List.replicate n x).length/\ ∀ i j,i<n -> j<m -> AS (l.getD j .any) (VQ (fun x j=>(c x).getD j .any) (List.replicate n x) i j):=
 uD fun _ j _=>pz h j
end
end Go.Proofs.YtekkngkphejfcaaGreatDoor
namespace Go.Proofs.YtekkngkphejfcaaGreatDoor
abbrev zB5:=@List.mem_append
abbrev zCM:=@Bool.eq_iff_iff
abbrev zFM:=@Go.MapKept.run_getObj_map
abbrev zFW:=@beq_self_eq_true
abbrev zFe:=@List.not_mem_nil
abbrev zF6:=@Go.MapKept.run_setObj_map
abbrev zGR:=@Go.MapKept.run_findKey
abbrev zGU:=@List.nodup_cons
abbrev zGf:=@List.Perm.refl
end Go.Proofs.YtekkngkphejfcaaGreatDoor
namespace Go.Proofs.YtekkngkphejfcaaGreatDoor
open Go.RowKit
def TB (P:Program) (t:TypeId):Bool:=match P.underlying t with
 | some (.int .i64)=>true
 | _=>false
theorem bM {P:Program} {t:TypeId} (h:TB P t=true):P.underlying t=some (.int .i64):=by
 unfold TB at h;split at h
 ·assumption
 ·cases h
def GN (P:Program) (t:TypeId):Option Nat:=match P.underlying t with
 | some (.int .i64)=>some 1
 | some (.struct fs)=>match fs.toList with
  | [f,g]=>if f.name != "_" &&g.name != "_" &&decide (f.offset=0)&&decide (g.offset=1)&&TB P f.type&&TB P g.type&&!P.stoodInHeld t then some 2 else none
  | _=>none
 | _=>none
section
variable {P:Program} {w:World} {t:TypeId}
theorem Pd {n:Nat} (h:GN P t=some n):(n=1/\ P.underlying t=some (.int .i64))∨∃ f g fs,n=2/\ P.underlying t=some (.struct fs)/\ fs.toList= [f,g]/\ f.name≠ "_" /\ g.name≠ "_" /\ f.offset=0/\ g.offset=1/\ P.underlying f.type=some (.int .i64)/\ P.underlying g.type=some (.int .i64)/\ P.stoodInHeld t=false:=by
 unfold GN at h;split at h
 ·exact .inl ⟨(zBK h).symm,by assumption⟩
 ·rename_i fs hu;split at h
  ·rename_i f g hf;split at h
   ·rename_i hc;simp only [zBE,zFX,ne_eq,zCK,zBh] at hc;obtain ⟨⟨⟨⟨⟨⟨h1,h2⟩,h3⟩,h4⟩,h5⟩,h6⟩,h7⟩:=hc;exact .inr ⟨f,g,fs,(zBK h).symm,hu,hf,h1,h2,h3,h4,bM h5,bM h6,h7⟩
   ·cases h
  ·cases h
 ·cases h
theorem Ow {t:TypeId} (h:P.underlying t=some (.int .i64)) (cs:Array Value) (o:Nat) (v:Value) (hv:cs[o]? =some v):(part t cs o).run P w= .ok v w:=by
 unfold part;rw [zBx,RV h];simp [Result.andThen,Ik,h,hv]
theorem Wk {x:List Int} (h:x.length=2): ∃ a b,x= [a,b]:=by
 match x,h with
 | [a,b],_=>exact ⟨a,b,rfl⟩
theorem Nf {x:List Int} (h:x.length=1): ∃ a,x= [a]:=by
 match x,h with
 | [a],_=>exact ⟨a,rfl⟩
theorem Pc {n:Nat} (hk:GN P t=some n) {x:List Int} (hx:x.length=n) (e:Bool):(Instr.checkKey e 10000 t (BH x)).run P w= .ok () w:=by
 rcases Pd hk with ⟨rfl,hu⟩ | ⟨f,g,fs,rfl,hu,hf,n1,n2,o1,o2,t1,t2,_⟩
 ·obtain ⟨a,rfl⟩:=Nf hx;exact MapKept.run_checkKey hu (by trivial) e 9999
 ·obtain ⟨a,b,rfl⟩:=Wk hx
  show (Instr.checkKey e (9999+1) t (.agg #[.int .i64 a,.int .i64 b])).run P w=_
  unfold Instr.checkKey;have c1: ∀ a,(Instr.checkKey e 9999 f.type (.int .i64 a)).run P w= .ok () w:=fun a=>MapKept.run_checkKey t1 (by trivial) e 9998
  have c2: ∀ a,(Instr.checkKey e 9999 g.type (.int .i64 a)).run P w= .ok () w:=fun a=>MapKept.run_checkKey t2 (by trivial) e 9998
  simp only [zBx,zDE hu,Result.andThen];rw [←Array.forIn_toList,hf];simp only [List.forIn_cons,List.forIn_nil,n1,n2,ne_eq,not_false_eq_true,zDH,o1,o2,zBx];rw [Ow t1 _ 0 (.int .i64 a) rfl];simp only [Result.andThen,c1,zGN,zBx];rw [Ow t2 _ 1 (.int .i64 b) rfl];simp only [Result.andThen,c2,zGN]
theorem ya {n:Nat} (hk:GN P t=some n) {x y:List Int} (hx:x.length=n) (hy:y.length=n):(Op.equal t (BH x) (BH y)).run P w= .ok (x==y) w:=by
 rcases Pd hk with ⟨rfl,hu⟩ | ⟨f,g,fs,rfl,hu,hf,n1,n2,o1,o2,t1,t2,hs⟩
 ·obtain ⟨a,rfl⟩:=Nf hx;obtain ⟨b,rfl⟩:=Nf hy
  show (Op.equalIn (9999+1) t (.int .i64 a) (.int .i64 b)).run P w=_
  rw [zGs w 9999 t .i64 .i64 a b hu]
  congr 1
  rw [zCM];simp
 ·obtain ⟨a,b,rfl⟩:=Wk hx;obtain ⟨c,d,rfl⟩:=Wk hy;have hF:P.fieldsOf t=fs:=by unfold Program.fieldsOf;rw [hu]
  show (Op.equalIn (9999+1) t (.agg #[.int .i64 a,.int .i64 b]) (.agg #[.int .i64 c,.int .i64 d])).run P w=_
  rw [run_equalIn_struct w 9999 t _ _ (by rw [hF];exact hu) hs,hF,hf];have e1: ∀ a c:Int,(Op.equalIn 9999 f.type (.int .i64 a) (.int .i64 c)).run P w= .ok (a==c) w:=fun a c=>zGs w 9998 f.type .i64 .i64 a c t1
  have e2: ∀ a c:Int,(Op.equalIn 9999 g.type (.int .i64 a) (.int .i64 c)).run P w= .ok (a==c) w:=fun a c=>zGs w 9998 g.type .i64 .i64 a c t2
  simp only [Op.eqFields,n1,n2,ne_eq,not_false_eq_true,zDH,o1,o2,zBx];rw [Ow t1 _ 0 (.int .i64 a) rfl];simp only [Result.andThen];rw [Ow t1 _ 0 (.int .i64 c) rfl];simp only [Result.andThen,e1,Sem.run_ite]
  by_cases h1:a=c
  ·subst h1;simp only [zFW,zCJ,zCQ,zFo,zBx];rw [Ow t2 _ 1 (.int .i64 b) rfl];simp only [Result.andThen];rw [Ow t2 _ 1 (.int .i64 d) rfl];simp only [Result.andThen,e2,Sem.run_ite]
   by_cases h2:b=d
   ·subst h2;simp
   ·have:([a,b]== [a,d])=false:=by simp [h2]
    have L6:(b==d)=false:=by simp [h2]
    simp [L6,h2]
  ·have XY:(a==c)=false:=by simp [h1]
   simp [XY,h1]
theorem yZ {n:Nat} (hk:GN P t=some n) {x:List Int} (hx:x.length=n) {ks:KS} (Em: ∀ y∈ks,y.length=n) {es:List MapEntry} (he: ∀ e∈es,∃ y∈ks,e.key=BH y):
 ((Instr.findKey t (BH x) es).run P w= .ok none w/\ ∀ e∈es,e.key≠BH x)∨∃ j e,(Instr.findKey t (BH x) es).run P w= .ok (some (j,e.val)) w/\ es[j]? =some e/\ e.key=BH x:=by
 have ask: ∀ (es:List MapEntry) (i:Nat),(∀ e∈es,∃ y∈ks,e.key=BH y) -> ((Instr.findAsking t (BH x) es i).run P w= .ok none w/\ ∀ e∈es,e.key≠BH x)∨∃ j e,(Instr.findAsking t (BH x) es i).run P w= .ok (some (i+j,e.val)) w/\ es[j]? =some e/\ e.key=BH x:=by
  intro es
  induction es with
  | nil=>intro i _;exact .inl ⟨rfl,fun e he=>by cases he⟩
  | cons e es ih=>
   intro i he;obtain ⟨y,hy,CF⟩:=he e (by simp);have h1:(Op.equal t (BH x) e.key).run P w= .ok (x==y) w:=by rw [CF];exact ya hk hx (Em y hy)
   by_cases bg:x=y
   ·subst bg;exact .inr ⟨0,e,by simp [Instr.findAsking,h1,Result.andThen],rfl,CF⟩
   ·have hf:(x==y)=false:=by simp [bg]
    rcases ih (i+1) (fun e HN=>he e (by simp [HN])) with ⟨g1,g2⟩ | ⟨j,e',g1,g2,g3⟩
    ·refine .inl ⟨by simp [Instr.findAsking,h1,hf,Result.andThen,g1],fun e' HN=>?_⟩;rcases zCB.1 HN with rfl | HN
     ·rw [CF];exact fun h=>bg (mG h).symm
     ·exact g2 e' HN
    ·exact .inr ⟨j+1,e',by simp [Instr.findAsking,h1,hf,Result.andThen,g1];omega,by simpa using g2,g3⟩
 rcases Pd hk with ⟨rfl,hu⟩ | ⟨f,g,fs,rfl,hu,_⟩
 ·obtain ⟨a,rfl⟩:=Nf hx
  rcases MapKept.findNow_spec (d:=.int .i64) (k:=.int .i64 a) (by trivial) es 0 (fun e hm=>by
   obtain ⟨y,hy,CF⟩:=he e hm;obtain ⟨b,rfl⟩:=Nf (Em y hy);rw [CF];trivial) with ⟨h1,h2⟩ | ⟨j,e,h1,h2,h3⟩
  ·exact .inl ⟨zGR hu h1,h2⟩
  ·exact .inr ⟨j,e,by have:=zGR (w:=w) hu h1;rw [zBj] at this;exact this,h2,h3⟩
 ·have hn: ∀ es:List MapEntry,(∀ e∈es,∃ y∈ks,e.key=BH y) -> (Instr.findKey t (BH x) es).run P w=(match es with | []=>.ok none w | _=>(Instr.findAsking t (BH x) es 0).run P w):=fun es he=>by
   cases es with
   | nil=>simp [Instr.findKey,zDE hu,Instr.findNow,Result.andThen]
   | cons e es=>
    have:Instr.findNow (.struct fs) (BH x) (e::es) 0=none:=by
     simp [Instr.findNow,Instr.sameNow]
    simp [Instr.findKey,zDE hu,this,Result.andThen]
  rw [hn es he];cases es with
  | nil=>exact .inl ⟨rfl,fun e he=>by cases he⟩
  | cons e es=>
   rcases ask (e::es) 0 he with h | ⟨j,e',g1,g2⟩
   ·exact .inl h
   ·exact .inr ⟨j,e',by simpa using g1,g2⟩
theorem yY {n:Nat} (hk:GN P t=some n) {x:List Int} (hx:x.length=n):(Instr.keyThatStays (BH x) (BH x)).run P w= .ok (BH x) w:=by
 rcases Pd hk with ⟨rfl,hu⟩ | ⟨f,g,fs,rfl,hu,_⟩
 ·obtain ⟨a,rfl⟩:=Nf hx;exact MapKept.run_keyThatStays (d:=.int .i64) (by trivial)
 ·obtain ⟨a,b,rfl⟩:=Wk hx
  have:Instr.sameBits 10000 (BH [a,b]) (BH [a,b])=true:=by
   show Instr.sameBits (9998+1+1) (.agg #[.int .i64 a,.int .i64 b]) (.agg #[.int .i64 a,.int .i64 b])=true
   simp [Instr.sameBits]
  simp [Instr.keyThatStays,this]
end
/-! ### Sets in order-/
def lf:List Int -> List Int -> Bool
 | _,[]=>false
 | [],_::_=>true
 | a::r,b::s=>decide (a<b)||(a==b&&lf r s)
def Wp (x:List Int):KS -> KS
 | []=>[x]
 | y::r=>if lf x y then x::y::r else y::Wp x r
def CL (x:List Int) (l:KS):KS:=if l.contains x then l else Wp x l
theorem mN (x:List Int): ∀ l:KS,(Wp x l).Perm (x::l)
 | []=>zGf _
 | y::r=>by
  unfold Wp;split
  ·exact zGf _
  ·exact ((mN x r).cons y).trans (List.Perm.swap x y r)
theorem j6 {x:List Int} {l:KS} (h:x∈l):CL x l=l:=by unfold CL;simp [h]
theorem aC {x:List Int} {l:KS} (h:x∉l):(CL x l).Perm (x::l):=by unfold CL;simp [h];exact mN x l
theorem NY {x y:List Int} {l:KS}:y∈CL x l↔y=x∨y∈l:=by
 by_cases h:x∈l
 ·rw [j6 h];exact ⟨.inr,fun h'=>h'.elim (fun e=>e▸h) id⟩
 ·rw [(aC h).mem_iff];simp
section
variable {P:Program} {w:World} {b n:Nat} {l:KS} {es:Array MapEntry} {Ad:Nat}
theorem Ez.key (h:Ez w b n l es Ad): ∀ e∈es.toList,∃ y∈l,e.key=BH y:=fun e he=>by
 have:e.key∈es.toList.map (·.key):=zFA.2 ⟨e,he,rfl⟩;obtain ⟨y,h1,h2⟩:=zFA.1 (h.keys.mem_iff.1 this);exact ⟨y,h1,h2.symm⟩
theorem Ez.has (h:Ez w b n l es Ad) {x:List Int}:x∈l↔∃ e∈es.toList,e.key=BH x:=by
 constructor
 ·intro hx;have:BH x∈l.map BH:=zFA.2 ⟨x,hx,rfl⟩;obtain ⟨e,h1,h2⟩:=zFA.1 (h.keys.mem_iff.2 this);exact ⟨e,h1,h2⟩
 ·rintro ⟨e,h1,h2⟩;obtain ⟨y,h3,h4⟩:=h.key e h1;exact mG (h2.symm.trans h4)▸h3
theorem Ez.find (h:Ez w b n l es Ad) {t:TypeId} (hk:GN P t=some n) {x:List Int} (hx:x.length=n):
 (x∉l/\ (Instr.findKey t (BH x) es.toList).run P w= .ok none w)∨(x∈l/\ ∃ j e,(Instr.findKey t (BH x) es.toList).run P w= .ok (some (j,.bool true)) w/\ es[j]? =some e/\ e.key=BH x/\ e.val= .bool true):=by
 rcases yZ (w:=w) hk hx h.len h.key with ⟨h1,h2⟩ | ⟨j,e,h1,h2,h3⟩
 ·exact .inl ⟨fun hx=>by obtain ⟨e,g1,g2⟩:=h.has.1 hx;exact h2 e g1 g2,h1⟩
 ·have hm:e∈es.toList:=zCc h2;have hv:=h.tru e hm;exact .inr ⟨h.has.2 ⟨e,hm,h3⟩,j,e,by rw [←hv];exact h1,by simpa using h2,h3,hv⟩
theorem Qu {w:World} {b:Nat} (o:Obj):AV (fun k=>k=b) w { w with heap:=w.heap.setIfInBounds b o }:=
 ⟨rfl,rfl,rfl,by simp,fun k _ AY=>by simp [zGK AY]⟩
theorem Ez.put (h:Ez w b n l es Ad) {mt kt et:TypeId} (hm:P.underlying mt=some (.map kt et)) (hk:GN P kt=some n) {x:List Int} (hx:x.length=n):
 ∃ w' Dw Eu,(Instr.mapUpdate mt (.map (some b)) (BH x) (.bool true)).run P w= .ok () w'/\ AV (fun k=>k=b) w w'/\ Ez w' b n (CL x l) Dw Eu:=by
 have AP:b<w.heap.size:=(zBG.1 h.blk).1;rcases h.find hk hx with ⟨h1,h2⟩ | ⟨h1,j,e,h2,h3,h4,h5⟩
 ·refine ⟨{ w with heap:=w.heap.setIfInBounds b (.map (es.push { key:=BH x,val:=.bool true,born:=Ad }) (Ad+1)) },es.push { key:=BH x,val:=.bool true,born:=Ad },Ad+1,?_,Qu _,?_⟩
  ·simp [Instr.mapUpdate,zDE hm,zFM h.blk,Pc hk hx,h2,zF6 _ h.blk,Result.andThen]
  ·refine ⟨by simp [AP],?_,((aC h1).nodup_iff).2 (zGU.2 ⟨h1,h.nd⟩),fun y hy=>?_,fun e he=>?_,fun e he=>?_,?_⟩
   ·have e1:((es.push { key:=BH x,val:=.bool true,born:=Ad }).toList.map (·.key))=es.toList.map (·.key)++[BH x]:=by simp
    rw [e1];refine (List.perm_append_comm).trans ?_
    show (BH x::es.toList.map (·.key)).Perm _
    exact (h.keys.cons (BH x)).trans (((aC h1).map BH).symm)
   ·rcases NY.1 hy with rfl | hy
    ·exact hx
    ·exact h.len y hy
   ·simp only [Array.toList_push,zB5,zBm] at he;rcases he with he | rfl
    ·exact h.tru e he
    ·rfl
   ·simp only [Array.toList_push,zB5,zBm] at he;rcases he with he | rfl
    ·exact Nat.lt_succ_of_lt (h.born e he)
    ·exact Nat.lt_succ_self _
   ·have e1:((es.push { key:=BH x,val:=.bool true,born:=Ad }).toList.map (·.born))=es.toList.map (·.born)++[Ad]:=by simp
    rw [e1];refine List.nodup_append.2 ⟨h.stamps,by simp,fun a ha c hc=>?_⟩;obtain ⟨e,g1,g2⟩:=zFA.1 ha;have:=h.born e g1;simp at hc;omega
 ·have hj:j<es.size:=(zBG.1 h3).1
  have hme:(es.modify j fun e=>{ e with key:=BH x,val:=.bool true })=es:=by
   apply Array.ext_getElem?;intro i;rw [zFv];split
   ·rename_i TY;subst TY;rw [h3]
    show some ({ e with key:=BH x,val:=.bool true }:MapEntry)=some e
    rw [←h4,←h5]
   ·rfl
  refine ⟨{ w with heap:=w.heap.setIfInBounds b (.map es Ad) },es,Ad,?_,Qu _,?_⟩
  ·have Em:((es[j]?).map (·.key)).getD (BH x)=BH x:=by rw [h3];exact h4
   simp [Instr.mapUpdate,zDE hm,zFM h.blk,Pc hk hx,h2,Em,yY hk hx,zF6 _ h.blk,Result.andThen,hme]
  ·rw [j6 h1];exact { h with blk:=by simp [AP] }
theorem Ez.look (h:Ez w b n l es Ad) {mt kt et:TypeId} (hm:P.underlying mt=some (.map kt et)) (hk:GN P kt=some n) {x:List Int} (hx:x.length=n) (hz:(zeroValue et).run P w= .ok (.bool false) w):
 (Instr.lookup mt (.map (some b)) (BH x) false).run P w= .ok (.bool (l.contains x)) w:=by
 rcases h.find hk hx with ⟨h1,h2⟩ | ⟨h1,j,e,h2,h3,h4,h5⟩
 ·have:l.contains x=false:=by simpa using h1
  simp [Instr.lookup,zDE hm,zFM h.blk,Pc hk hx,h2,hz,Result.andThen,this,h1]
 ·have:l.contains x=true:=by simpa using h1
  simp [Instr.lookup,zDE hm,zFM h.blk,Pc hk hx,h2,Result.andThen,this,h1]
end
/-! ### On fc view-/
def We (lk:Option (Nat×Nat×Array MapEntry×Nat)) (i:Nat):Prop:=∀ y,lk=some y -> y.1≠i
section
variable {P:Program} {w w':World} {p:AN} {n:Nat} {ls:List (Option KS)} {lk:Option (Nat×Nat×Array MapEntry×Nat)} {vs:Array Value}
theorem FC.lies (h:FC w p n ls lk vs) {b:Nat} (hb:p.foot b):EG w b:=by
 rcases h.foot b hb with rfl | ⟨j,l,h1,h2⟩
 ·obtain ⟨cs,t,h3,_⟩:=h.row;exact .cells h3
 ·obtain ⟨b',g1,_,_,es,Ad,g2,_⟩:=h.has j l h1;have:b'=b:=by rw [g1] at h2;cases h2;rfl
  subst this;exact ⟨_,rfl,(),g2.blk⟩
theorem FC.put (h:FC w p n ls lk vs) {i b:Nat} {l l':KS} {es:Array MapEntry} {Ad:Nat} (hi:ls[i]? =some (some l)) (hb:vs[i]? =some (Value.map (some b))) (hu:AV (fun k=>k=b) w w') (hm:Ez w' b n l' es Ad) (cQ:We lk i):FC w' p n (ls.set i (some l')) lk vs:=by
 have CK:i<ls.length:=(zBN.1 hi).1;obtain ⟨b0,g1,g2,g3,_⟩:=h.has i l hi;have:b0=b:=by rw [g1] at hb;cases hb;rfl
 subst this
 have I3: ∀ {j:Nat} {x:Option KS},(ls.set i (some l'))[j]? =some x -> (j=i/\ x=some l')∨(j≠i/\ ls[j]? =some x):=fun {j x} hj=>by
  rw [zCb] at hj
  by_cases e:i=j
  ·subst e;simp [CK] at hj;exact .inl ⟨rfl,hj.symm⟩
  ·rw [zBP e] at hj;exact .inr ⟨zGK e,hj⟩
 refine ⟨h.val,by simp [h.size],?_,h.blk,fun j l1 hj=>?_,fun j hj=>?_,fun b' C9=>?_,h.inj⟩
 ·obtain ⟨cs,t,k1,k2⟩:=h.row;exact ⟨cs,t,(hu.block _ (zBG.1 k1).1 (fun e=>g2 e.symm)).trans k1,by simpa using k2⟩
 ·rcases I3 hj with ⟨rfl,e⟩ | ⟨AY,hj⟩
  ·cases e;exact ⟨b0,hb,g2,g3,es,Ad,hm,fun y hy e=>absurd e (cQ y hy)⟩
  ·obtain ⟨b1,k1,k2,k3,ID,c1,k4,k5⟩:=h.has j l1 hj;refine ⟨b1,k1,k2,k3,ID,c1,k4.out (hu.block _ (zBG.1 k4.blk).1 fun e=>AY ?_),k5⟩;subst e;exact h.inj j i b1 k1 hb
 ·rcases I3 hj with ⟨rfl,e⟩ | ⟨AY,hj⟩
  ·cases e
  ·exact h.nil j hj
 ·rcases h.foot b' C9 with e | ⟨j,l1,k1,k2⟩
  ·exact .inl e
  ·by_cases e:j=i
   ·subst e;exact .inr ⟨j,l',by simp [CK],k2⟩
   ·exact .inr ⟨j,l1,by rw [zCb,zBP (zGK e)];exact k1,k2⟩
end
def Wl (n:Nat) (d:DV):Option (List Int):=match d with
 | .int .i64 a=>if n=1 then some [a] else none
 | .agg m f=>if m=n/\ n≠1 then if (List.range m).all fun j=>Kk (f j) then some ((List.range m).map fun j=>H2 (f j)) else none else none
 | _=>none
def a8 (n:Nat) (x:List Int):DV:=if n=1 then .int .i64 (x.getD 0 0) else .agg n (Ga n fun j=>.int .i64 (x.getD j 0))
section
variable {P:Program} {w:World} {ρ:List AN} {M:Nat -> Prop}
theorem mH {x:List Int} (h:x.length≠1):BH x= .agg (x.map fun a=>.int .i64 a).toArray:=by
 unfold BH;split
 ·simp at h
 ·rfl
theorem mI {n:Nat} {d:DV} {x:List Int} {v:Value} (h:Wl n d=some x) (hr:AQ M w d ρ v):v=BH x/\ x.length=n:=by
 unfold Wl at h;split at h
 ·split at h
  ·cases h;exact ⟨hr,by simp;omega⟩
  ·cases h
 ·rename_i m f;split at h
  ·rename_i hm;split at h
   ·rename_i ha;cases h;have hl:((List.range m).map fun j=>H2 (f j)).length=m:=by simp
    refine ⟨?_,by rw [hl];exact hm.1⟩;obtain ⟨cs,rfl,hs,hc⟩:=hr;rw [mH (by rw [hl];omega)]
    congr 1
    apply Array.ext_getElem?;intro j
    by_cases hj:j<m
    ·obtain ⟨u,e1,e2⟩:=hc j hj;have:=bI (zBT.1 ha j (zBc.2 hj)) e2;rw [e1,this];simp [hj]
    ·rw [zGa (by omega)];simp [hj]
   ·cases h
  ·cases h
 ·cases h
theorem yb {n:Nat} {x:List Int} (h:x.length=n):AQ M w (a8 n x) ρ (BH x):=by
 unfold a8;split
 ·rename_i e;subst e;obtain ⟨a,rfl⟩:=Nf h;rfl
 ·rename_i e;rw [mH (by omega)];refine ⟨_,rfl,by simp [h],fun j hj=>?_⟩;rw [U1 hj];have BI:j<x.length:=by omega
  exact ⟨.int .i64 (x.getD j 0),by simp [BI],rfl⟩
end
def Xr:Nat -> DH -> Option (Nat×Nat×List (Option KS)×Nat×Nat×Array MapEntry×Nat)
 | _,[]=>none
 | k,some (.mo (.sets n ls (some y)))::_=>some (k,n,ls,y)
 | k,_::r=>Xr (k+1) r
theorem zCu {n:Nat} {ls:List (Option KS)} {y:Nat×Nat×Array MapEntry×Nat} {k:Nat}: ∀ (h:DH) (k0:Nat),Xr k0 h=some (k,n,ls,y) -> k0<=k/\ h[k-k0]? =some (some (.mo (.sets n ls (some y)))):=by
 intro h
 induction h with
 | nil=>intro k0 e;cases e
 | cons x r ih=>
  intro k0 e
  have step:Xr (k0+1) r=some (k,n,ls,y) -> k0<=k/\ (x::r)[k-k0]? =some (some (.mo (.sets n ls (some y)))):=fun e=>by
   obtain ⟨h1,h2⟩:=ih (k0+1) e;refine ⟨by omega,?_⟩;have:k-k0=k-(k0+1)+1:=by omega
   rw [this];simpa using h2
  match x,e with
  | none,e=>exact step e
  | some (.cells _),e=>exact step e
  | some (.ints _),e=>exact step e
  | some (.bools _),e=>exact step e
  | some (.arr _ _ _),e=>exact step e
  | some (.iter _),e=>exact step e
  | some (.mo (.set _ _)),e=>exact step e
  | some (.mo (.mit _ _ _ _ _ _)),e=>exact step e
  | some (.mo (.rows _ _)),e=>exact step e
  | some (.mo (.sets _ _ none)),e=>exact step e
  | some (.mo (.sets _ _ (some _))),e=>cases e;exact ⟨zBa _,by simp⟩
def NZ (P:Program) (t:TypeId):Option (Nat×TypeId):=match P.underlying t with
 | some (.map k e)=>match GN P k with
  | some n=>match P.info? e with
   | some i=>match i.zero with
    | some (.bool false)=>some (n,k)
    | _=>none
   | none=>none
  | none=>none
 | _=>none
theorem aj {P:Program} {t k:TypeId} {n:Nat} (h:NZ P t=some (n,k)): ∃ e,P.underlying t=some (.map k e)/\ GN P k=some n/\ ∀ w,(zeroValue e).run P w= .ok (.bool false) w:=by
 unfold NZ at h;split at h
 ·rename_i k' e hu;split at h
  ·rename_i n' hk;split at h
   ·rename_i i hi;split at h
    ·rename_i hz;cases h;exact ⟨e,hu,hk,fun w=>by simp [zeroValue,typeInfo,hi,hz]⟩
    ·cases h
   ·cases h
  ·cases h
 ·cases h
def V5 (P:Program) (S:St) (t:TypeId) (m k x:DV):Option (DV×DH×List Prop×Bool):=match NZ P t with
 | some (n,_)=>match Wl n k,x with
  | some x,.bool true=>match m with
   | .it j=>match S.h[j]? with
    | some (some (.mo (.set n' l)))=>if n'=n then some (.any,S.h.set j (some (.mo (.set n (CL x l)))),[],false) else none
    | _=>none
   | .mri j i=>match S.h[j]? with
    | some (some (.mo (.sets n' ls lk)))=>if n'=n then some (.any,S.h.set j (some (.mo (.sets n (ls.set i (some (CL x ((ls.getD i none).getD [])))) lk))),[(ls.getD i none).isSome=true,We lk i],false) else none
    | _=>none
   | _=>none
  | _,_=>none
 | none=>none
def ak (P:Program) (S:St):Op -> Option (DV×DH×List Prop×Bool)
 | .makeMap t none=>match NZ P t with
  | some (n,_)=>some (.it S.h.length,S.h++[some (.mo (.set n []))],[],true)
  | none=>none
 | .mapUpdate t m k x=>V5 P S t (Ao S.fr m) (Ao S.fr k) (Ao S.fr x)
 | .insert t m k x=>V5 P S t (Ao S.fr m) (Ao S.fr k) (Ao S.fr x)
 | .lookup t m k false=>match NZ P t with
  | some (n,_)=>match Wl n (Ao S.fr k) with
   | some x=>match Ao S.fr m with
    | .it j=>match S.h[j]? with
     | some (some (.mo (.set n' l)))=>if n'=n then some (.bool (l.contains x),S.h,[],true) else none
     | _=>none
    | .mri j i=>match S.h[j]? with
     | some (some (.mo (.sets n' ls _)))=>if n'=n then some (.bool (((ls.getD i none).getD []).contains x),S.h,[(ls.getD i none).isSome=true],true) else none
     | _=>none
    | _=>none
   | none=>none
  | none=>none
 | .range t m=>match NZ P t with
  | some (n,_)=>match Ao S.fr m with
   | .mri j i=>match S.h[j]? with
    | some (some (.mo (.sets n' ls (some (i',mb,es,Ad)))))=>if n'=n then some (.it S.h.length,S.h++[some (.mo (.mit n mb es Ad ((ls.getD i none).getD []) none))],[(ls.getD i none).isSome=true,i'=i],true) else none
    | _=>none
   | _=>none
  | none=>none
 | .entry m=>match Ao S.fr m with
  | .it j=>match S.h[j]? with
   | some (some (.mo (.mit n mb es Ad _ (some x))))=>match Xr 0 S.h with
    | some (_,_,ls,i,lU,Dw,Eu)=>some (.tup 2 (Ga 2 fun c=>if c=0 then a8 n x else .bool true),S.h,[(ls.getD i none).isSome=true,lU=mb,Dw=es,Eu=Ad],true)
    | none=>none
   | _=>none
  | _=>none
 | _=>none
section
variable {P:Program} {Γ:A6} {N:Nat -> Prop} {S:St} {ρ:List AN} {a:Act} {w:World}
theorem QF {ls:List (Option KS)} {i:Nat} (h:(ls.getD i none).isSome=true):ls[i]? =some (some ((ls.getD i none).getD [])):=by
 rw [u8] at h ⊢;cases hx:ls[i]? with
 | none=>rw [hx] at h;cases h
 | some x=>
  rw [hx] at h;cases x with
  | none=>cases h
  | some l=>simp
theorem ZI (R:An P Γ N S ρ a w) {j n:Nat} {l:KS} {v:Value} (hk:S.h[j]? =some (some (.mo (.set n l)))) (hv:AQ (MS N S.h ρ) w (.it j) ρ v): ∃ p es Ad,ρ[j]? =some p/\ v= .map (some p.blk)/\ p.foot=(fun b=>b=p.blk)/\ p.val=Value.map (some p.blk)/\ Ez w p.blk n l es Ad:=by
 obtain ⟨p,hp,rfl⟩:=hv;obtain ⟨p',BE,h1,h2,es,Ad,h3⟩:=R.hr.obj j _ hk;have:p'=p:=zBK (BE.symm.trans hp);subst this;exact ⟨p',es,Ad,hp,h1,h2,h1,h3⟩
theorem ZG (R:An P Γ N S ρ a w) {j i n:Nat} {ls:List (Option KS)} {lk:Option (Nat×Nat×Array MapEntry×Nat)} {v:Value} (hk:S.h[j]? =some (some (.mo (.sets n ls lk)))) (hv:AQ (MS N S.h ρ) w (.mri j i) ρ v) (hs:(ls.getD i none).isSome=true):
 ∃ p vs b es Ad,ρ[j]? =some p/\ FC w p n ls lk vs/\ v= .map (some b)/\ vs[i]? =some (Value.map (some b))/\ p.foot b/\ Ez w b n ((ls.getD i none).getD []) es Ad/\ ∀ y,lk=some y -> y.1=i -> y.2=(b,es,Ad):=by
 obtain ⟨p,vs,hp,FP,Dg⟩:=hv;obtain ⟨p',BE,Bz,h1⟩:=R.hr.obj j _ hk;have:p'=p:=zBK (BE.symm.trans hp);subst this;have:Bz=vs:=by have:=h1.val.symm.trans FP;cases this;rfl
 subst this;obtain ⟨b,g1,g2,g3,es,Ad,g4,g5⟩:=h1.has i _ (QF hs);have:v= .map (some b):=by rw [g1] at Dg;exact (zBK Dg).symm
 exact ⟨p',Bz,b,es,Ad,hp,h1,this,g1,g3,g4,g5⟩
theorem ZK (R:An P Γ N S ρ a w) {d:DV} {v:Value} (hv:AQ (MS N S.h ρ) w d ρ v):DY P Γ N S.h ρ w true d S.h v w:=⟨⟨ρ,R.hr,hv,BL.refl _ _ _,fun _ _ h=>h⟩,fun _=>A4.refl w⟩
theorem Xa (H:BX P Γ N S.h ρ w) {ob:Obj} (C8:nR ob=true) {pl:AN} (D7:pl.foot=fun b=>b=w.heap.size) {o:DO} {d:DV} {v:Value} (ho: ∀ M ρ',DD P M (w.alloc ob) ρ' pl o)
 (hv: ∀ M ρ',ρ'[S.h.length]? =some pl -> AQ M (w.alloc ob) d ρ' v) (ext:Bool):DY P Γ N S.h ρ w ext d (S.h++[some o]) v (w.alloc ob):=by
 have hE:A4 w (w.alloc ob):=(A4.refl w).allocR _;have hf: ∀ b,pl.foot b -> w.heap.size<=b:=fun b hb=>by rw [D7] at hb;exact zGu (Eq.symm hb)
 have hb:(w.alloc ob).heap[w.heap.size]? =some ob:=zF3 w _;refine ⟨⟨ρ++[pl],H.snoc hE (fun b hx=>⟨hf b hx,ob,C8,(),by rw [D7] at hx;rw [show b=w.heap.size from hx];exact hb⟩) (ho _ _),?_,BL.snoc H hE hf,fun k p hk=>D9 hk⟩,fun _=>hE⟩;exact hv _ _ (by rw [←H.len];simp)
theorem j7 (R:An P Γ N S ρ a w) {t:TypeId} {m k x:Operand} {d:DV} {h':DH} {vs:List Prop} {ext:Bool} (hd:V5 P S t (Ao S.fr m) (Ao S.fr k) (Ao S.fr x)=some (d,h',vs,ext)) (hv:Bo vs):
 ∃ w',(Instr.mapUpdate t (a.eval m) (a.eval k) (a.eval x)).run P w= .ok () w'/\ DY P Γ N S.h ρ w ext d h' undef w':=by
 have rm:=Bx R m;have rk:=Bx R k;have rx:=Bx R x;unfold V5 at hd;split at hd
 ·rename_i n kt hT;obtain ⟨e,hu,hk,hz⟩:=aj hT;split at hd
  ·rename_i xs hK hX;obtain ⟨ek,el⟩:=mI hK rk;rw [hX] at rx;have ex:a.eval x= .bool true:=rx;rw [ek,ex];split at hd
   ·rename_i j hM;split at hd
    ·rename_i n' l hO;split at hd
     ·rename_i hn;cases hd;subst hn;rw [hM] at rm;obtain ⟨p,es,Ad,hp,ev,D7,FP,hA⟩:=ZI R hO rm;rw [ev];obtain ⟨w',Dw,Eu,h1,h2,h3⟩:=hA.put hu hk el;have Ls:AV p.foot w w':=by rw [D7];exact h2
      refine ⟨w',h1,⟨ρ,R.hr.write hO hp Ls (fun b hb=>?_) ⟨FP,D7,Dw,Eu,h3⟩,trivial,BL.write hO hp Ls,fun _ _ h=>h⟩,fun h=>by cases h⟩;rw [D7] at hb;exact ⟨_,rfl,(),by rw [show b=p.blk from hb];exact h3.blk⟩
     ·cases hd
    ·cases hd
   ·rename_i j i hM;split at hd
    ·rename_i n' ls lk hO;split at hd
     ·rename_i hn;cases hd;subst hn;obtain ⟨hs,cQ,_⟩:=hv;rw [hM] at rm;obtain ⟨p,vs,b,es,Ad,hp,hS,ev,Dg,GT,hA,_⟩:=ZG R hO rm hs;rw [ev];obtain ⟨w',Dw,Eu,h1,h2,h3⟩:=hA.put hu hk el;have Ls:AV p.foot w w':=h2.mono fun c _ hc=>by rw [show c=b from hc];exact GT
      have XW:=hS.put (QF hs) Dg h2 h3 cQ;exact ⟨w',h1,⟨ρ,R.hr.write hO hp Ls (fun b hb=>XW.lies hb) ⟨vs,XW⟩,trivial,BL.write hO hp Ls,fun _ _ h=>h⟩,fun h=>by cases h⟩
     ·cases hd
    ·cases hd
   ·cases hd
  ·cases hd
 ·cases hd
theorem yG (es:Array MapEntry):leftOf es #[]=es:=by
 unfold leftOf;refine Array.filter_eq_self.2 fun x hx=>by simp
theorem tp {r bm IS Ad:Nat} {seen:Array Nat} {es:Array MapEntry} {e:MapEntry} (hr:w.heap[r]? =some (.mapIter (some bm) IS seen Ad)) (hs:seen.back? =some e.born) (hb:w.heap[bm]? =some (.map es Ad)) (he:e∈es.toList) (hn:(es.toList.map (·.born)).Nodup):
 (Instr.entry (.pointer (some ⟨r,0,none⟩))).run P w= .ok (.tuple #[e.key,e.val]) w:=by
 have hf:es.find? (·.born==e.born)=some e:=by rw [←Array.find?_toList];exact find_born e es.toList hn he
 simp only [Instr.entry,getObj,zBx,Sem.run,hr,hb,Result.andThen,hs,bne_self_eq_false,zCQ,zFo,hf];rfl
theorem xj (R:An P Γ N S ρ a w) (o:Oper) {d:DV} {h':DH} {vs:List Prop} {ext:Bool} (hd:ak P S o.op=some (d,h',vs,ext)) (hv:Bo vs):Bb P (execOp a.eval o) w (DY P Γ N S.h ρ w ext d h'):=by
 unfold ak at hd;split at hd
 ·rename_i t ho;split at hd
  ·rename_i n kt hT;cases hd;refine Bb.value (s:=Instr.makeMap t none) (by unfold execOp;rw [ho];rfl) (v:=.map (some w.heap.size)) (w':=w.alloc (.map #[] 0)) (by simp [Instr.makeMap,newObj];rfl) ?_;refine Xa (ob:=.map #[] 0) (o:=.mo (.set n [])) (d:=.it S.h.length) (v:=.map (some w.heap.size)) (pl:=⟨w.heap.size,0,0,.map (some w.heap.size),fun b=>b=w.heap.size⟩) R.hr rfl rfl (fun M ρ'=>⟨rfl,rfl,#[],0,⟨zF3 w _,by simp,List.nodup_nil,fun y hy=>absurd hy zFe,fun e he=>absurd he (by simp),fun e he=>absurd he (by simp),by simp⟩⟩) (fun M ρ' hp=>⟨_,hp,rfl⟩) true
  ·cases hd
 ·rename_i t m k x ho;obtain ⟨w',h1,h2⟩:=j7 R hd hv;exact Bb.skip (s:=Instr.mapUpdate t (a.eval m) (a.eval k) (a.eval x)) (by unfold execOp;rw [ho]) h1 h2
 ·rename_i t m k x ho;obtain ⟨w',h1,h2⟩:=j7 R hd hv;exact Bb.skip (s:=Instr.mapUpdate t (a.eval m) (a.eval k) (a.eval x)) (by unfold execOp;rw [ho]) h1 h2
 ·rename_i t m k ho;have rm:=Bx R m;have rk:=Bx R k;split at hd
  ·rename_i n kt hT;obtain ⟨e,hu,hk,hz⟩:=aj hT;split at hd
   ·rename_i xs hK;obtain ⟨ek,el⟩:=mI hK rk;split at hd
    ·rename_i j hM;split at hd
     ·rename_i n' l hO;split at hd
      ·rename_i hn;cases hd;subst hn;rw [hM] at rm;obtain ⟨p,es,Ad,hp,ev,D7,FP,hA⟩:=ZI R hO rm;exact Bb.value (s:=Instr.lookup t (a.eval m) (a.eval k) false) (by unfold execOp;rw [ho]) (by rw [ek,ev];exact hA.look hu hk el (hz w)) (ZK R rfl)
      ·cases hd
     ·cases hd
    ·rename_i j i hM;split at hd
     ·rename_i n' ls lk hO;split at hd
      ·rename_i hn;cases hd;subst hn;rw [hM] at rm;obtain ⟨p,vs,b,es,Ad,hp,hS,ev,Dg,GT,hA,_⟩:=ZG R hO rm hv.1;exact Bb.value (s:=Instr.lookup t (a.eval m) (a.eval k) false) (by unfold execOp;rw [ho]) (by rw [ek,ev];exact hA.look hu hk el (hz w)) (ZK R rfl)
      ·cases hd
     ·cases hd
    ·cases hd
   ·cases hd
  ·cases hd
 ·rename_i t m ho;have rm:=Bx R m;split at hd
  ·rename_i n kt hT;obtain ⟨e,hu,hk,hz⟩:=aj hT;split at hd
   ·rename_i j i hM;split at hd
    ·rename_i n' ls i' mb es Ad hO;split at hd
     ·rename_i hn;cases hd;subst hn;obtain ⟨hs,hi,_⟩:=hv;subst hi;rw [hM] at rm;obtain ⟨p,vs,b,ID,YI,hp,hS,ev,Dg,GT,hA,hL⟩:=ZG R hO rm hs;have hL:=hL _ rfl rfl;cases hL;refine Bb.value (s:=Instr.range t (a.eval m)) (by unfold execOp;rw [ho]) (by rw [ev];exact run_range_map w t _ _ _ _ _ hu hA.blk) ?_;refine Xa (ob:=.mapIter (some mb) Ad #[] Ad) (o:=.mo (.mit n' mb es Ad ((ls.getD i' none).getD []) none)) (d:=.it S.h.length) (v:=.pointer (some ⟨w.heap.size,0,none⟩)) (pl:=⟨w.heap.size,0,0,.pointer (some ⟨w.heap.size,0,none⟩),fun b=>b=w.heap.size⟩) R.hr rfl rfl (fun M ρ'=>⟨fun x hx=>hx.elim (hA.len x) (fun e=>by cases e),rfl,rfl,#[],zF3 w _,by rw [yG];exact hA.keys,fun x hx=>by cases hx⟩) (fun M ρ' hp=>⟨_,hp,rfl⟩) true
     ·cases hd
    ·cases hd
   ·cases hd
  ·cases hd
 ·rename_i m ho;have rm:=Bx R m;split at hd
  ·rename_i j hM;split at hd
   ·rename_i n mb es Ad rem x hO;split at hd
    ·rename_i k n' ls i lU Dw Eu hF;cases hd;obtain ⟨hs,e1,e2,e3,_⟩:=hv;subst e1 e2 e3;rw [hM] at rm;obtain ⟨p,hp,ev⟩:=rm;obtain ⟨p',BE,h0,h1,h2,seen,h3,h4,h5⟩:=R.hr.obj j _ hO;have:p'=p:=zBK (BE.symm.trans hp);subst this;obtain ⟨e,g1,g2,g3⟩:=h5 x rfl;have hF:=(zCu _ _ hF).2;obtain ⟨q,hq,vs,hS⟩:=R.hr.obj _ _ hF;obtain ⟨b,k1,k2,k3,ID,YI,k4,k5⟩:=hS.has i _ (QF hs);have k5:=k5 _ rfl rfl;cases k5;refine Bb.value (s:=Instr.entry (a.eval m)) (by unfold execOp;rw [ho]) (by rw [ev,h1];exact tp h3 g3 k4.blk g1 k4.stamps) (ZK R ?_);refine ⟨_,rfl,rfl,fun c hc=>?_⟩;rw [U1 hc,g2,k4.tru e g1]
     match c,hc with
     | 0,_=>exact ⟨BH x,rfl,yb (h0 x (.inr rfl))⟩
     | 1,_=>exact ⟨.bool true,rfl,rfl⟩
    ·cases hd
   ·cases hd
  ·cases hd
 ·cases hd
end
end Go.Proofs.YtekkngkphejfcaaGreatDoor
