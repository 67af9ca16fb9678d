/- Part 1 of 7 of what the proofs of these laws stand on. -/
import Derived.WalkKit
import Derived.WalkSpells
import Derived.WalkLawsBesides
import Derived.Lib.Hide
import Derived.OrdersHeld
import Derived.Deep.RegionHeld
import Derived.BigQuiet
import Derived.OrdersIn
import Derived.TacticsIn
import Derived.RangeFuncOwn
import Derived.RangeFuncNested
import Derived.RangeFuncCalls
import Derived.Laws.IdiomRangeMap
import Derived.Laws.Cells
import Derived.Laws.Cover3
import Derived.Laws.StructEq
import Derived.ChangeKeysEq
import Derived.RowKit
import Derived.Deep.AppendSrc
import Derived.Laws.MakeOwn
import Derived.Great.BuildSlice
import Derived.Sort.LoopGhostIn
import Derived.MapKept
set_option linter.all false
namespace Go.Proofs.YtgkhhfnhacibcaaGreatDoor
abbrev zC6:=@Nat.le_refl
abbrev zD4:=@Go.World.block_lt_of_cell?
end Go.Proofs.YtgkhhfnhacibcaaGreatDoor
namespace Go.Proofs.YtgkhhfnhacibcaaGreatDoor
open Go.RowKit
def Ar (w w':World):Prop:=Below w.heap.size w w'
theorem Ar.refl (w:World):Ar w w:=Below.refl _ _
theorem Ar.trans {a b c:World} (h:Ar a b) (k:Ar b c):Ar a c:=Below.trans h (Below.mono k h.size)
theorem Ar.alloc (w:World) (o:Obj):Ar w (w.alloc o):=(Below.refl _ _).alloc (zC6 _) o
theorem Ar.allocR {w w':World} (h:Ar w w') (o:Obj):Ar w (w'.alloc o):=h.trans (Ar.alloc w' o)
theorem Ar.drewR {w w':World} (h:Ar w w'):Ar w w'.drew:=Below.drew h
theorem Ar.size {w w':World} (h:Ar w w'):w.heap.size<=w'.heap.size:=Below.size h
theorem Ar.cells {w w':World} (h:Ar w w'): ∀ b o,b<w.heap.size -> w'.cell? ⟨b,o,none⟩=w.cell? ⟨b,o,none⟩:=
 fun b o hb=>Below.cell h (p:=⟨b,o,none⟩) hb
theorem Ar.cell {w w':World} (h:Ar w w') {b o:Nat} {u:Value} (hc:w.cell? ⟨b,o,none⟩=some u):w'.cell? ⟨b,o,none⟩=some u:=by
 rw [h.cells b o (zD4 w ⟨b,o,none⟩ hc)];exact hc
def Cq (b:Bool) (e:Int):Int:=if b then 0 else e
theorem zAS (e:Int):Cq true e=0:=rfl
structure AB where
 kind:Int
 cells:List Int
 set:Int
 other:Int
 lo:Int
 hi:Int
 runs:List Int
 rule:Int
 spot:Int
 deriving DecidableEq,Inhabited
structure AA where
 cells:Int
 symbols:Int
 values:List Int
 nbrs:List (List Int)
 cons:List AB
 deriving DecidableEq,Inhabited
end Go.Proofs.YtgkhhfnhacibcaaGreatDoor
namespace Go.Proofs.YtgkhhfnhacibcaaGreatDoor
abbrev zB3:=@if_pos
abbrev zCp:=@Bool.and_eq_true
abbrev zCq:=@Option.some.inj
abbrev zCt:=@if_neg
abbrev zC3:=@Go.Sem.run_bind
abbrev zC7:=@Bool.or_eq_true
abbrev zDB:=@beq_iff_eq
abbrev zDU:=@Bool.false_eq_true
abbrev zD3:=@Nat.lt_or_ge
abbrev zEw:=@Go.mem_ready
abbrev zFF:=@Array.getElem?_eq_none
end Go.Proofs.YtgkhhfnhacibcaaGreatDoor
namespace Go.Proofs.YtgkhhfnhacibcaaGreatDoor
open Go.RowKit
def Q0:Op -> Bool
 | .move _ | .assign _ | .pick .. | .load .. | .binOp .. | .unOp .. | .convert .. | .makeFunc .. | .slice .. | .fieldAddr .. | .field .. | .indexAddr .. | .index .. | .extract .. | .build .. | .lookup .. | .makeInterface .. | .nilCheck _=>true
 | .call c=>match c.callee with
  | .builtin .len | .builtin .cap | .builtin .min | .builtin .max=>true
  | _=>false
 | _=>false
theorem XI {P:Program} {w w':World} {α:Type} {s:Sem α} {f:α -> Value} {n:Next} (h:(s>>=fun x=>(pure (.value (f x)):Sem Next)).run P w= .ok n w'): ∃ v,n= .value v:=by
 rw [zC3] at h;cases hs:s.run P w with
 | ok v w1=>rw [hs] at h;simp only [Result.andThen] at h;cases h;exact ⟨_,rfl⟩
 | halt x w1=>rw [hs] at h;simp only [Result.andThen] at h;cases h
theorem sw {P:Program} {ρ:Operand -> Value} {o:Oper} {w w':World} {n:Next} (hp:Q0 o.op=true) (h:(execOp ρ o).run P w= .ok n w'): ∃ v,n= .value v:=by
 unfold execOp at h;cases ho:o.op <;> rw [ho] at hp h <;> simp only [Q0,zDU] at hp
 all_goals first | exact XI (f:=fun x=>x) h | (cases h;exact ⟨_,rfl⟩) | skip
 ·rename_i c x y;exact XI (s:=asBool (ρ c)) (f:=fun b=>if b then ρ x else ρ y) h
 ·rename_i x
  have hb: ∀ {α:Type} (s:Sem α) (f:α -> Sem Next) (w0:World),(∀ a w1,(f a).run P w1= .ok n w' -> ∃ v,n= .value v) -> (s>>=f).run P w0= .ok n w' -> ∃ v,n= .value v:=by
   intro α s f w0 hf hr;rw [zC3] at hr;cases hs:s.run P w0 with
   | ok v w1=>rw [hs] at hr;exact hf _ _ hr
   | halt x w1=>rw [hs] at hr;simp only [Result.andThen] at hr;cases hr
  have Vg:(runtimePanic .nilDeref:Sem Next).run P w= .ok n w' -> ∃ v,n= .value v:=by
   intro he;unfold runtimePanic at he;refine hb _ _ _ ?_ he;intro a w1 h1;cases h1
  simp only at h;split at h
  ·exact Vg h
  ·exact Vg h
  ·exact Vg h
  ·split at h
   ·exact Vg h
   ·refine hb _ _ _ ?_ h;intro p w1 h1;refine hb _ _ _ ?_ h1;intro q w2 h2;split at h2
    ·refine hb _ _ _ ?_ h2;intro r w3 h3;cases h3;exact ⟨_,rfl⟩
    ·cases h2;exact ⟨_,rfl⟩
   ·cases h;exact ⟨_,rfl⟩
  ·cases h;exact ⟨_,rfl⟩
 ·rename_i c;replace h:((resolve ρ c o.type)>>=fun d=>invoke d.target d.args).run P w= .ok n w':=h;rw [zC3] at h;unfold resolve at h;cases hc:c.callee with
  | value f=>rw [hc] at hp;simp at hp
  | invoke r m=>rw [hc] at hp;simp at hp
  | builtin b=>
   rw [hc] at hp h;have e: ∀ d:Deferred,(pure d:Sem Deferred).run P w= .ok d w:=fun _=>rfl
   simp only [e,Result.andThen] at h;unfold invoke at h;cases b <;> simp at hp <;> exact XI (f:=fun x=>x) h
structure TP (w:World) where
 W:World
 le:Ar w W
def Pm (w:World):World -> Prop:=fun w'=>∃ x:TP w,w'=x.W
theorem Pm.iff {w w':World}:Pm w w'↔Ar w w':=⟨fun ⟨x,e⟩=>e▸x.le,fun h=>⟨⟨w',h⟩,rfl⟩⟩
theorem Ar.toDrew (w:World):Ar w w.drew:=Ar.drewR (Ar.refl w)
section
variable {P:Program} {ops:Array Oper} {Q:Exit -> Act -> World -> Prop}
theorem m4 {w:World} {o:Oper} {a:Act} {v:Value} (hp:Q0 o.op=true) (hw:Region.wanted o (yielded ops a.tmps)=true)
 (h: ∀ w',Pm w w' -> o.quietAt P a (Pm w) w' v):YieldsIf P ops (Ar w) o v a:=by
 refine .inl ⟨hw,fun w' hE=>?_⟩;have:=h w' (Pm.iff.2 hE);unfold Oper.quietAt at this;cases hr:(execOp a.eval o).run P w' with
 | halt x w1=>rw [hr] at this;simp [Oper.quietUpon] at this
 | ok n w1=>
  obtain ⟨u,rfl⟩:=sw hp hr;rw [hr] at this;obtain ⟨rfl,rfl⟩:=this;rfl
def NP (Q:Exit -> Act -> World -> Prop):Exit -> Act -> World -> Prop
 | .panic _,_,_=>False
 | e,a,w=>Q e a w
theorem NP.put (c:List PanicEntry) (a:Act) (d:Option Tmp) (v:Value) (w:World) (h:NP Q (.panic c) (a.put d v) w):NP Q (.panic c) a w:=h.elim
def F4 (ops:Array Oper) (AV:Array Bool):Prop:=∀ (j:Nat) (oj:Oper),ops[j]? =some oj -> AV.getD j false=true -> ∀ e∈oj.after,Region.binds .any e=true -> AV.getD e.on false=true
theorem F4.set {AV:Array Bool} {i:Nat} (h:F4 ops AV) (hi:i∈Region.ready .any ops AV):F4 ops (AV.setIfInBounds i true):=by
 obtain ⟨_,oi,yJ,Hs⟩:=zEw.1 hi;intro j oj hj hl e he hb
 by_cases O1:i=j
 ·subst O1;have:oj=oi:=zCq (hj.symm.trans yJ);subst this;exact getD_set_true (Hs e he hb)
 ·rw [getD_set_ne false O1] at hl;exact getD_set_true (h j oj hj hl e he hb)
def F7 (ops:Array Oper):Nat -> Nat -> Nat -> Bool
 | 0,_,_=>false
 | n+1,t,i=>match ops[t]? with
  | none=>false
  | some o=>o.after.any fun e=>Region.binds .any e&&(e.on==i||F7 ops n e.on i)
theorem XH {AV:Array Bool} (hc:F4 ops AV): ∀ (n t i:Nat) (o:Oper),ops[t]? =some o -> (∀ e∈o.after,Region.binds .any e=true -> AV.getD e.on false=true) -> F7 ops n t i=true -> AV.getD i false=true
 | 0,_,_,_,_,_,h=>by simp [F7] at h
 | n+1,t,i,o,ho,Hs,h=>by
  simp only [F7,ho] at h;obtain ⟨e,he,hb⟩:=Array.any_eq_true'.1 h;simp only [zCp,zC7,zDB] at hb;obtain ⟨hb,h1 | h1⟩:=hb
  ·rw [←h1];exact Hs e he hb
  ·cases aI:ops[e.on]? with
   | none=>cases n <;> simp [F7,aI] at h1
   | some o2=>exact XH hc n e.on i o2 aI (hc e.on o2 aI (Hs e he hb)) h1
theorem V3 {AV:Array Bool} {i:Nat} (h:AV.getD i true=false):AV.getD i false=false:=by
 rcases zD3 i AV.size with h' | h'
 ·simp [h'] at h ⊢;exact h
 ·simp [zFF h'] at h
def FY (ops:Array Oper):List Nat -> List Oper
 | []=>[]
 | i::l=>match ops[i]? with | some o=>o::FY ops l | none=>FY ops l
def QK (ops:Array Oper) (Cx:Nat -> Bool):List Nat -> Array Bool -> Bool
 | [],_=>true
 | i::l,AV=>(Region.ready .any ops AV).contains i&&Region.free .any ops AV i&&(match ops[i]? with | some o=>Q0 o.op | none=>false)&&
  ((List.range ops.size).all fun j=>!Cx j||F7 ops ops.size j i)&&QK ops Cx l (AV.setIfInBounds i true)
def Jq (l:List Nat) (AV:Array Bool):Array Bool:=l.foldl (fun s i=>s.setIfInBounds i true) AV
def P6 (ops:Array Oper):List Nat -> Array Bool -> Bool
 | [],AV=>(Region.ready .any ops AV).isEmpty
 | t::ts,AV=>Region.ready .any ops AV== [t]&&P6 ops ts (AV.setIfInBounds t true)
def QL (ops:Array Oper) (Cx:Nat -> Bool):List (List Nat×Nat) -> List Nat -> List Nat -> Array Bool -> Bool
 | [],Bc,tail,AV=>QK ops Cx Bc AV&&((List.range ops.size).all fun j=>Cx j||(Jq Bc AV).getD j true)&&P6 ops tail (Jq Bc AV)
 | (Ct,i)::Ez,Bc,tail,AV=>QK ops Cx Ct AV&&(Region.ready .any ops (Jq Ct AV)== [i])&&QL ops Cx Ez Bc tail ((Jq Ct AV).setIfInBounds i true)
def O6:List (List Nat×Nat) -> List Nat -> Nat
 | [],Bc=>Bc.length
 | (Ct,_)::Ez,Bc=>Ct.length+(1+O6 Ez Bc)
def Xm (ops:Array Oper) (Eh:List (List Nat×Nat)) (Bc tail:List Nat):Bool:=
 Region.noSelect ops&&O6 Eh Bc+tail.length==ops.size&&QL ops (fun j=>tail.contains j) Eh Bc tail (Array.replicate ops.size false)
theorem XD {C:World -> Prop}: ∀ (l:List Oper) (a:Act) (K K':Act -> Prop),(∀ a,K a -> K' a) -> wpQuiet P ops C K l a -> wpQuiet P ops C K' l a
 | [],a,K,K',hk,h=>hk a h
 | o::l,a,K,K',hk,h=>by
  unfold wpQuiet at*
  by_cases hw:Region.wanted o (yielded ops a.tmps)=true
  ·rw [zB3 hw] at h ⊢;exact Oper.quiet_mono (fun a h=>XD l a K K' hk h) h
  ·rw [zCt hw] at h ⊢;exact XD l _ K K' hk h
end
end Go.Proofs.YtgkhhfnhacibcaaGreatDoor
namespace Go.Proofs.YtgkhhfnhacibcaaGreatDoor
abbrev zCl:=@Array.getElem?_eq_some_iff
abbrev zCs:=@List.all_eq_true
abbrev zCy:=@List.mem_range
abbrev zC2:=@List.mem_singleton
abbrev zC4:=@Nat.zero_add
abbrev zDQ:=@Array.getElem?_eq_getElem
abbrev zDj:=@if_true
abbrev zDx:=@List.length_nil
abbrev zER:=@if_false
abbrev zEU:=@Array.mem_of_getElem?
abbrev zEj:=@Go.Oper.semAt_eq
abbrev zEq:=@Go.wpOpIn_mono
abbrev zEx:=@Go.Act.put_comm
abbrev zEy:=@Ne.symm
end Go.Proofs.YtgkhhfnhacibcaaGreatDoor
namespace Go.Proofs.YtgkhhfnhacibcaaGreatDoor
open Go.RowKit
def EB (ops:Array Oper):Bool:=ops.all fun o=>match o.op with
 | .defer _=>false
 | _=>true
theorem IS {ops:Array Oper} (h:EB ops=true) {j:Nat} {o:Oper} (hj:ops[j]? =some o): ∀ c,o.op≠.defer c:=by
 intro c hc;have hm:o∈ops:=zEU hj;have:=Array.all_eq_true'.1 h o hm;rw [hc] at this;cases this
section
variable {F:Fence} {n:Nat} {P:Program} {ops:Array Oper} {Q:Exit -> Act -> World -> Prop}
theorem TR {S:World -> Prop} {i:Nat} {o:Oper} {v:Value} {a:Act} (hF: ∀ f,F.fn f) (hd: ∀ c,o.op≠.defer c) (hi:ops[i]? =some o) (hy:YieldsIf P ops S o v a)
 {K:Act -> World -> Prop} {w:World} (hS:S w) (h:K (a.put o.dst v) w):wpOpIn F n P ops Q i K a w:=by
 unfold Go.wpOpIn;simp only [hi];rcases hy with ⟨hw,hv⟩ | ⟨hw,rfl⟩
 ·simp only [hw,zDj,Oper.wpIn,zEj _ _ _ hd,hv w hS,Oper.uponIn];exact ⟨fun f _=>hF f,h⟩
 ·simp only [hw,zDU,zER];exact ⟨fun f _=>hF f,h⟩
theorem cS {S:World -> Prop} {j:Nat} {oi oj:Oper} {v:Value} (hF: ∀ f,F.fn f) (jl: ∀ c,oj.op≠.defer c) (hj:ops[j]? =some oj) (aV:oi.apart ops oj=true)
 (wd: ∀ cs b,oi.op≠.select cs b) (wc: ∀ cs b,oj.op≠.select cs b)
 (hQ: ∀ c a w,Q (.panic c) (a.put oi.dst v) w -> Q (.panic c) a w) {K:Act -> World -> Prop} {a:Act} {w:World}
 (hy:YieldsIf P ops S oi v a) (h:wpOpIn F n P ops Q j K (a.put oi.dst v) w):
 wpOpIn F n P ops Q j (fun a' w'=>YieldsIf P ops S oi v a'/\ K (a'.put oi.dst v) w') a w:=by
 obtain ⟨h1,h2,h3⟩:=Oper.apart_spec aV
 have keep: ∀ (a:Act),YieldsIf P ops S oi v a -> ∀ u,YieldsIf P ops S oi v (a.put oj.dst u):=fun a hy u=>
  hy.of_same (execOp_put oi wd a oj.dst u h3) (wanted_put oi a oj.dst u h3)
 have vD: ∀ d,YieldsIf P ops S oi v { a with defers:=d::a.defers }:=fun d=>hy.of_same rfl rfl
 unfold wpOpIn at*;simp only [hj] at*;rw [wanted_put oj a oi.dst v h1] at h;split
 ·rename_i hw;simp only [hw,zDj] at h;unfold Oper.wpIn at*;refine ⟨fun f _=>hF f,?_⟩;have h:=h.2;rw [zEj _ _ _ jl,execOp_put oj wc a oi.dst v h1] at h;rw [zEj _ _ _ jl]
  generalize (execOp a.eval oj).run P w=r at*
  cases r with
  | ok x w'=>
   cases x <;> simp only [Oper.uponIn] at h ⊢
   case value u=>exact ⟨keep a hy u,by rw [←zEx a v u h2];exact h⟩
   case skip=>exact ⟨keep a hy _,by rw [←zEx a v undef h2];exact h⟩
   case defer d=>
    refine ⟨keep _ (vD d) _,?_⟩;rw [←zEx _ v undef h2,←Act.put_defers];exact h
   case enter f args=>
    refine ⟨h.1,CallsIn.mono h.2 fun e CF he=>?_⟩;cases e with
    | returned u=>exact ⟨keep a hy u,by rw [←zEx a v u h2];exact he⟩
    | panicked c=>exact hQ _ _ _ he
    | outgrown=>exact he
   case row row args=>exact ⟨h.1,RowsIn.mono h.2 fun u CF he=>⟨keep a hy u,by rw [←zEx a v u h2];exact he⟩⟩
   case round l f tmps assign body=>
    refine ⟨h.1,RoundIn.mono h.2 fun e CF he=>?_⟩;cases e with
    | returned u=>exact ⟨keep a hy u,by rw [←zEx a v u h2];exact he⟩
    | panicked c=>exact hQ _ _ _ he
    | outgrown=>exact he
  | halt x w'=>
   cases x <;> simp only [Oper.uponIn] at h ⊢
   case panic u=>exact hQ _ _ _ h
 ·rename_i hw;simp only [hw] at h;exact ⟨fun f _=>hF f,keep a hy _,by rw [←zEx a v undef h2];exact h.2⟩
theorem cT {i:Nat} {K:Act -> World -> Prop} {a:Act} {w:World} (h:wpOpIn F n P ops (NP Q) i K a w):wpOpIn F n P ops Q i K a w:=by
 unfold wpOpIn at*;split
 ·rename_i ho;simp only [ho] at h;exact h
 ·rename_i o ho;simp only [ho] at h;have hl:LetsOut (NP Q) -> LetsOut Q:=fun ⟨a,w,h⟩=>⟨a,w,h⟩
  by_cases hw:Region.wanted o (yielded ops a.tmps)=true
  ·rw [zB3 hw] at h ⊢;unfold Oper.wpIn at*;refine ⟨h.1,?_⟩;have h:=h.2
   generalize (o.semAt F.round a.eval).run P w=r at*
   cases r with
   | ok x w'=>
    cases x <;> simp only [Oper.uponIn] at h ⊢ <;> first | exact h | skip
    ·refine ⟨h.1,CallsIn.mono h.2 fun e CF he=>?_⟩;cases e with
     | returned v=>exact he
     | panicked c=>exact he.elim
     | outgrown=>exact hl he
    ·refine ⟨h.1,RoundIn.mono h.2 fun e CF he=>?_⟩;cases e with
     | returned v=>exact he
     | panicked c=>exact he.elim
     | outgrown=>exact hl he
   | halt x w'=>cases x <;> simp only [Oper.uponIn] at h ⊢;exact h.elim
  ·rw [zCt hw] at h ⊢;exact h
def Iz (F:Fence) (n:Nat) (P:Program) (ops:Array Oper) (Q:Exit -> Act -> World -> Prop) (Cx:Nat -> Bool) (g:Nat) (S:World -> Prop):Nat -> Array Bool -> Act -> World -> Prop
 | 0,AV,a,w=>(∀ j,j<ops.size -> Cx j=false -> AV.getD j true=true)/\ wpAnyIn F n P .any ops Q g AV a w
 | m+1,AV,a,w=>Region.ready .any ops AV≠[]/\ ∀ i∈Region.ready .any ops AV,wpOpIn F n P ops (NP Q) i (fun a' w'=>S w'/\ Iz F n P ops Q Cx g S m (AV.setIfInBounds i true) a' w') a w
theorem XE {Cx:Nat -> Bool} {g:Nat} {S S':World -> Prop} (hS: ∀ w,S' w -> S w): ∀ (m:Nat) (AV:Array Bool) (a:Act) (w:World),
 Iz F n P ops Q Cx g S' m AV a w -> Iz F n P ops Q Cx g S m AV a w
 | 0,_,_,_,h=>h
 | m+1,_,_,_,h=>⟨h.1,fun i hi=>zEq (fun _ _ h'=>⟨hS _ h'.1,XE hS m _ _ _ h'.2⟩) (h.2 i hi)⟩
theorem cV {Cx:Nat -> Bool} {g:Nat} {S:World -> Prop}: ∀ (m:Nat) (AV:Array Bool) (a:Act) (w:World),Iz F n P ops Q Cx g S m AV a w -> wpAnyIn F n P .any ops Q (m+g) AV a w
 | 0,_,_,_,h=>by rw [zC4];exact h.2
 | m+1,_,_,_,h=>by
  rw [show m+1+g=(m+g)+1 by omega];exact ⟨fun h0=>absurd h0 h.1,fun i hi=>zEq (fun a' w' h'=>cV m _ a' w' h'.2) (cT (h.2 i hi))⟩
theorem cU (hF: ∀ f,F.fn f) (A5:EB ops=true) {Cx:Nat -> Bool} {g:Nat} {S:World -> Prop} {i k:Nat} {oi:Oper} {v:Value} (hi:ops[i]? =some oi) (Rq: ∀ (j:Nat) (o:Oper) cs b,ops[j]? =some o -> o.op≠.select cs b)
 (hT: ∀ j,j<ops.size -> Cx j=true -> F7 ops k j i=true):
 ∀ (m:Nat) (AV:Array Bool) (a:Act) (w:World),F4 ops AV ->
  (∀ j oj,ops[j]? =some oj -> j≠i -> AV.getD j true=false -> (∀ e∈oj.after,Region.binds .any e=true -> e.on≠i) -> oi.apart ops oj=true) ->
  i∈Region.ready .any ops AV -> YieldsIf P ops S oi v a -> S w ->
  Iz F n P ops Q Cx g S m (AV.setIfInBounds i true) (a.put oi.dst v) w -> Iz F n P ops Q Cx g S (m+1) AV a w:=by
 intro m
 induction m with
 | zero=>
  intro AV a w BQ _ hr hy hS H;have ND:=(zEw.1 hr).1;refine ⟨fun h=>(by rw [h] at hr;cases hr),fun j hj=>?_⟩
  by_cases Ek:j=i
  ·subst Ek;exact TR hF (IS A5 hi) hi hy hS ⟨hS,H⟩
  ·exfalso
   obtain ⟨JN,oj,Fw,Hs⟩:=zEw.1 hj;have O0:=(zCl.1 Fw).1;cases ht:Cx j with
   | true=>
    have:=XH BQ k j i oj Fw Hs (hT j O0 ht);rw [V3 ND] at this;cases this
   | false=>
    have:=H.1 j O0 ht;rw [getD_set_ne true (zEy Ek),JN] at this;cases this
 | succ m ih=>
  intro AV a w BQ R7 hr hy hS H;have ND:=(zEw.1 hr).1;refine ⟨fun h=>(by rw [h] at hr;cases hr),fun j hj=>?_⟩
  by_cases Ek:j=i
  ·subst Ek;exact TR hF (IS A5 hi) hi hy hS ⟨hS,H⟩
  ·have h1:=H.2 j (ready_mono hj Ek);obtain ⟨JN,oj,Fw,Hs⟩:=zEw.1 hj
   have Z5: ∀ e∈oj.after,Region.binds .any e=true -> e.on≠i:=fun e he hb O3=>by
    have h1:=Hs e he hb;rw [O3,V3 ND] at h1;cases h1
   have h2:=cS hF (IS A5 Fw) Fw (R7 j oj Fw Ek JN Z5) (fun cs b=>Rq i oi cs b hi) (fun cs b=>Rq j oj cs b Fw) (fun c a w h=>NP.put c a _ _ w h) hy h1
   have yk: ∀ k ok,ops[k]? =some ok -> k≠i -> (AV.setIfInBounds j true).getD k true=false ->
    (∀ e∈ok.after,Region.binds .any e=true -> e.on≠i) -> oi.apart ops ok=true:=fun k ok hk Ry IY KG=>by
    refine R7 k ok hk Ry ?_ KG
    by_cases R5:j=k
    ·subst R5;exact JN
    ·rw [getD_set_ne true R5] at IY;exact IY
   refine zEq (fun a' w' h3=>⟨h3.2.1,ih (AV.setIfInBounds j true) a' w' (BQ.set hj) yk (ready_mono hr (zEy Ek)) h3.1 h3.2.1 ?_⟩) h2;rw [Array.setIfInBounds_comm _ _ Ek];exact h3.2.2
def Nx (F:Fence) (n:Nat) (P:Program) (ops:Array Oper) (Q:Exit -> Act -> World -> Prop):List Nat -> Act -> World -> Prop
 | [],a,w=>Q .normal a w
 | t::ts,a,w=>wpOpIn F n P ops Q t (Nx F n P ops Q ts) a w
def bw (Ct:List Nat) (b w:World):World:=match Ct with
 | []=>b
 | _=>w
def O4 (F:Fence) (n:Nat) (P:Program) (ops:Array Oper) (Q:Exit -> Act -> World -> Prop):World -> List (List Nat×Nat) -> List Nat -> List Nat -> Act -> World -> Prop
 | _,[],Bc,tail,a,w=>wpQuiet P ops (fun w'=>∃ x:TP w,w'=x.W) (fun a'=>Nx F n P ops Q tail a' w) (FY ops Bc) a
 | b,(Ct,i)::Ez,Bc,tail,a,w=>wpQuiet P ops (fun w'=>∃ x:TP w,w'=x.W) (fun a'=>wpOpIn F n P ops (NP Q) i (fun Fj CF=>Ar (bw Ct b w) CF/\ O4 F n P ops Q (bw Ct b w) Ez Bc tail Fj CF) a' w) (FY ops Ct) a
theorem dL: ∀ (tail:List Nat) (AV:Array Bool) (a:Act) (w:World),P6 ops tail AV=true -> Nx F n P ops Q tail a w -> wpAnyIn F n P .any ops Q tail.length AV a w
 | [],AV,a,w,hk,h=>⟨by simpa [P6] using hk,h⟩
 | t::ts,AV,a,w,hk,h=>by
  simp only [P6,zCp,zDB] at hk;refine ⟨fun h0=>(by rw [hk.1] at h0;cases h0),fun i hi=>?_⟩;rw [hk.1,zC2] at hi;subst hi;exact zEq (fun a' w' h'=>dL ts _ a' w' hk.2 h') h
theorem Tq (hF: ∀ f,F.fn f) (A5:EB ops=true) {w:World} {Cx:Nat -> Bool} {g:Nat} (hs:Region.noSelect ops=true) {next:Act -> Prop} {m:Nat}:
 ∀ (l:List Nat) (AV:Array Bool) (a:Act),F4 ops AV -> QK ops Cx l AV=true -> wpQuiet P ops (Pm w) next (FY ops l) a ->
  (∀ a',F4 ops (Jq l AV) -> next a' -> Iz F n P ops Q Cx g (Ar w) m (Jq l AV) a' w) -> Iz F n P ops Q Cx g (Ar w) (l.length+m) AV a w
 | [],AV,a,BQ,_,h,hn=>by
  simp only [zDx,zC4];exact hn a BQ h
 | i::l,AV,a,BQ,hk,h,hn=>by
  simp only [QK,zCp] at hk;obtain ⟨⟨⟨⟨hr,hf⟩,hp⟩,hT⟩,Cv⟩:=hk;have Cy:i∈Region.ready .any ops AV:=by simpa using hr
  have jy: ∀ j,j<ops.size -> Cx j=true -> F7 ops ops.size j i=true:=fun j hj ht=>by
   have:=zCs.1 hT j (zCy.2 hj);simpa [ht] using this
  have LY:(i::l).length+m=(l.length+m)+1:=by simp;omega
  rw [LY];cases hi:ops[i]? with
  | none=>rw [hi] at hp;simp at hp
  | some o=>
   rw [hi] at hp;simp only [FY,hi] at h;unfold wpQuiet at h
   by_cases hw:Region.wanted o (yielded ops a.tmps)=true
   ·rw [zB3 hw] at h;obtain ⟨v,h1,h2⟩:=h;exact cU hF A5 hi (Region.noSelect_spec hs) jy _ AV a w BQ (Region.free_spec hi hf) Cy (m4 hp hw h1) (Ar.refl _) (Tq hF A5 hs l _ _ (BQ.set Cy) Cv h2 hn)
   ·rw [zCt hw] at h;exact cU hF A5 hi (Region.noSelect_spec hs) jy _ AV a w BQ (Region.free_spec hi hf) Cy (.inr ⟨by simpa using hw,rfl⟩) (Ar.refl _) (Tq hF A5 hs l _ _ (BQ.set Cy) Cv h hn)
theorem jh (hF: ∀ f,F.fn f) (A5:EB ops=true) {Cx:Nat -> Bool} (hs:Region.noSelect ops=true):
 ∀ (Eh:List (List Nat×Nat)) (Bc tail:List Nat) (AV:Array Bool) (a:Act) (b w:World),Ar b w -> F4 ops AV -> QL ops Cx Eh Bc tail AV=true -> O4 F n P ops Q b Eh Bc tail a w ->
  Iz F n P ops Q Cx tail.length (Ar b) (O6 Eh Bc) AV a w
 | [],Bc,tail,AV,a,b,w,hb,BQ,hk,h=>by
  simp only [QL,zCp] at hk;obtain ⟨⟨h1,h2⟩,h3⟩:=hk
  have:=Tq (m:=0) hF A5 hs Bc AV a BQ h1 h (fun a' _ hq=>⟨fun j hj ht=>by
   have:=zCs.1 h2 j (zCy.2 hj);simpa [ht] using this,dL tail _ a' w h3 hq⟩)
  refine XE (fun W hW=>hb.trans hW) _ _ _ _ ?_;simpa [O6] using this
 | (Ct,i)::Ez,Bc,tail,AV,a,b,w,hb,BQ,hk,h=>by
  simp only [QL,zCp,zDB] at hk;obtain ⟨⟨h1,h2⟩,h3⟩:=hk
  have one: ∀ (a':Act) (b':World),Ar b' w -> F4 ops (Jq Ct AV) -> wpOpIn F n P ops (NP Q) i (fun Fj CF=>Ar b' CF/\ O4 F n P ops Q b' Ez Bc tail Fj CF) a' w ->
   Iz F n P ops Q Cx tail.length (Ar b') (O6 Ez Bc+1) (Jq Ct AV) a' w:=fun a' b' C4 aO hq=>by
   refine ⟨fun h0=>(by rw [h2] at h0;cases h0),fun j hj=>?_⟩;have A3:=hj;rw [h2,zC2] at hj;subst hj;refine zEq (fun Fj CF h'=>⟨h'.1,?_⟩) hq;exact jh hF A5 hs Ez Bc tail _ Fj b' CF h'.1 (aO.set A3) h3 h'.2
  cases Ct with
  | nil=>
   have:=one a b hb BQ h;simpa [O6,Nat.add_comm,Jq] using this
  | cons s0 ss=>
   refine XE (fun W hW=>hb.trans hW) _ _ _ _ ?_;refine Tq hF A5 hs (s0::ss) AV a BQ h1 h fun a' aO hq=>?_
   rw [Nat.add_comm 1];exact one a' w (Ar.refl w) aO hq
theorem nA {id:Nat} {a:Act} {w:World} (hF: ∀ f,F.fn f) (Eh:List (List Nat×Nat)) (Bc tail:List Nat) (hm:P.follows .mixedOrders=true) (hB:(Xm ops Eh Bc tail&&EB ops)=true)
 (h:O4 F n P ops Q w.drew Eh Bc tail a w.drew):(Code.region id ops true).wpIn F n P Q a w:=by
 simp only [Xm,zCp,zDB] at hB;obtain ⟨⟨⟨h1,h2⟩,h3⟩,h4⟩:=hB
 have BQ:F4 ops (Array.replicate ops.size false):=fun j oj _ hl=>by
  exfalso
  rcases zD3 j ops.size with h | h
  ·simp [h] at hl
  ·simp [h] at hl
 have:=cV _ _ _ _ (jh hF h4 h1 Eh Bc tail _ a w.drew w.drew (Ar.refl _) BQ h3 h);rw [h2] at this;exact wpIn_region_any hm this
theorem dM: ∀ (tail:List Nat) (a:Act) (w:World),(∀ t∈tail,t<ops.size) -> wpListIn F n P ops Q (FY ops tail) a w -> Nx F n P ops Q tail a w
 | [],_,_,_,h=>h
 | t::ts,a,w,hl,h=>by
  have ht:ops[t]? =some (ops[t]'(hl t (by simp))):=zDQ _;simp only [FY,ht] at h;unfold Nx wpOpIn;simp only [ht];unfold wpListIn at h;have hm: ∀ a w,wpListIn F n P ops Q (FY ops ts) a w -> Nx F n P ops Q ts a w:=fun a w h=>dM ts a w (fun t ht=>hl t (by simp [ht])) h
  by_cases hw:Region.wanted (ops[t]'(hl t (by simp))) (yielded ops a.tmps)=true
  ·rw [zB3 hw] at h ⊢;exact Oper.wpIn_mono hm h
  ·rw [zCt hw] at h ⊢;exact ⟨h.1,hm _ _ h.2⟩
theorem yq {Bc tail:List Nat} {a:Act} {b w:World} (ht:(tail.all fun t=>decide (t<ops.size))=true)
 (h:wpQuiet P ops (fun w'=>∃ x:TP w,w'=x.W) (fun a'=>wpListIn F n P ops Q (FY ops tail) a' w) (FY ops Bc) a):
 O4 F n P ops Q b [] Bc tail a w:=by
 refine XD _ _ _ _ (fun a' h=>?_) h;exact dM tail a' w (fun t h=>by simpa using zCs.1 ht t h) h
end
end Go.Proofs.YtgkhhfnhacibcaaGreatDoor
namespace Go.Proofs.YtgkhhfnhacibcaaGreatDoor
abbrev zCu:=@Nat.lt_of_lt_of_le
abbrev zCv:=@Nat.le_trans
abbrev zDF:=@List.mem_cons
abbrev zDN:=@List.mem_of_getElem?
abbrev zDt:=@Go.World.putObj_heap_other
abbrev zEe:=@Go.wpIn_mono
abbrev zFE:=@Go.RowKit.Below.block
end Go.Proofs.YtgkhhfnhacibcaaGreatDoor
namespace Go.Proofs.YtgkhhfnhacibcaaGreatDoor
open Go.RowKit
structure AO (S:Nat -> Prop) (w w':World):Prop where
 os:w'.os=w.os
 tape:w'.tape=w.tape
 output:w'.output=w.output
 size:w.heap.size<=w'.heap.size
 block: ∀ k,k<w.heap.size -> ¬ S k -> w'.heap[k]? =w.heap[k]?
theorem AO.refl (S:Nat -> Prop) (w:World):AO S w w:=⟨rfl,rfl,rfl,zC6 _,fun _ _ _=>rfl⟩
theorem AO.comp {S S':Nat -> Prop} {a b c:World} (h:AO S a b) (k:AO S' b c) (hs: ∀ i,i<a.heap.size -> S' i -> S i):AO S a c:=
 ⟨k.os.trans h.os,k.tape.trans h.tape,k.output.trans h.output,zCv h.size k.size,
  fun i hi hn=>(k.block i (zCu hi h.size) (fun hx=>hn (hs i hi hx))).trans (h.block i hi hn)⟩
theorem AO.trans {S:Nat -> Prop} {a b c:World} (h:AO S a b) (k:AO S b c):AO S a c:=h.comp k fun _ _ h=>h
theorem AO.mono {S S':Nat -> Prop} {a b:World} (h:AO S a b) (hs: ∀ i,i<a.heap.size -> S i -> S' i):AO S' a b:=
 ⟨h.os,h.tape,h.output,h.size,fun i hi hn=>h.block i hi fun hx=>hn (hs i hi hx)⟩
theorem AO.ofExt {S:Nat -> Prop} {a b:World} (h:Ar a b):AO S a b:=⟨Below.os h,Below.tape h,Below.output h,Below.size h,fun i hi _=>zFE h i hi⟩
theorem AO.toExt {S:Nat -> Prop} {a b:World} (h:AO S a b) (hs: ∀ i,i<a.heap.size -> ¬ S i):Ar a b:=⟨h.os,h.tape,h.output,h.size,fun i hi=>h.block i hi (hs i hi)⟩
theorem AO.alloc {S:Nat -> Prop} {a b:World} (h:AO S a b) (o:Obj):AO S a (b.alloc o):=h.trans (AO.ofExt (Ar.alloc b o))
theorem AO.setCell {S:Nat -> Prop} {a b:World} (h:AO S a b) {p:Addr} (hp:p.block<a.heap.size -> S p.block) (u:Value):AO S a (b.setCell p u):=by
 refine h.comp (S':=fun k=>k=p.block) ⟨rfl,rfl,rfl,?_,fun k _ hk=>?_⟩ (fun i hi e=>by cases e;exact hp hi)
 ·show b.heap.size<=(b.heap.modify _ _).size
  rw [Array.size_modify];exact zC6 _
 ·exact Below.heap_setCell b p u k hk
theorem AO.putObj {S:Nat -> Prop} {a b:World} (h:AO S a b) {l:Nat} (hl:l<a.heap.size -> S l) (o:Obj):AO S a (b.putObj l o):=by
 refine h.comp (S':=fun k=>k=l) ⟨rfl,rfl,rfl,by simp,fun k _ hk=>zDt hk⟩ (fun i hi e=>by cases e;exact hl hi)
theorem AO.cell {S:Nat -> Prop} {a b:World} (h:AO S a b) {p:Addr} {u:Value} (hs: ¬ S p.block) (hc:a.cell? p=some u):b.cell? p=some u:=by
 rw [World.cell?_of_block (h.block p.block (zD4 a p hc) hs)];exact hc
def E6 (I:(Nat -> Prop) -> World -> Prop):Prop:=
 ∀ (G G':Nat -> Prop) (A B:World),I G A -> AO G A B -> (∀ k,G' k -> G k∨A.heap.size<=k) -> (∀ k,G' k -> k<B.heap.size) -> I G' B
def T7 (Keep:Nat -> Prop) (I:World -> Prop) (Ix:Code -> World -> Prop) (W:World):Exit -> Act -> World -> Prop
 | .normal,_,W'=>AO (fun k=>¬ Keep k) W W'/\ I W'
 | .ret,_,W'=>AO (fun k=>¬ Keep k) W W'/\ Ix .ret W'
 | .exit id,_,W'=>AO (fun k=>¬ Keep k) W W'/\ Ix (.exit id) W'
 | .goto t,_,W'=>AO (fun k=>¬ Keep k) W W'/\ Ix (.goto t) W'
 | .panic _,_,_=>False
 | .outgrown,_,_=>False
def Iv (P:Program) (g:Nat) (lb:Array Value) (encs:List (Array Value)) (G0 Rd:Nat -> Prop) (w:World):Prop:=
 ∀ (l:Nat) (J:Nat -> (Nat -> Prop) -> World -> Prop) (Jx:(Nat -> Prop) -> World -> Prop) (G:Nat -> Prop) (W:World),
  (∀ i,E6 (J i)) -> E6 Jx -> AO (fun k=>¬ (G0 k∨Rd k)) w W -> (∀ k,G0 k -> G k) -> (∀ k,G k -> k<W.heap.size) ->
  (∀ i args G W1,encs[i]? =some args -> J i G W1 -> YieldAt Fence.wide 0 P l args W1 fun e W'=>
   AO (fun k=>¬ (G k∨Rd k)) W1 W'/\ ((e= .returned (.bool true)/\ J (i+1) G W')∨(e= .returned (.bool false)/\ Jx G W'))) ->
  J 0 G W ->
  CallsIn Fence.wide 0 P g (#[.func (.yield l) #[] #[]]++lb) W fun e W'=>(∃ v,e= .returned v)/\ ((∃ G',J encs.length G' W')∨(∃ G',Jx G' W'))
section
variable {P:Program}
theorem fZ {ps:Array Tmp} {assign body:Code} {a:Act} {gf:Nat} {lb:Array Value} {encs:List (Array Value)} {G0 Rd:Nat -> Prop} {w0 W1:World} {l D dd:Nat} {fn:FuncId} {loose:Bool}
 (hseq:Iv P gf lb encs G0 Rd w0) (aT:AO (fun k=>¬ (G0 k∨Rd k)) w0 W1) (JV: ∀ k,G0 k -> k<l/\ k≠D) (JT: ∀ k,Rd k -> k≠l) (EF: ∀ x∈encs,x.size=ps.size)
 (Ca:LoopState -> Option Code -> Loop) (FK: ∀ st pe,Ca st pe= { state:=st,pending:=pe,fn,tmps:=a.tmps,params:=ps,assign,body,defers:=dd })
 (FL:W1.heap[l]? =some (.loop (Ca .ready none))) (zc:loose=false -> W1.heap[D]? =some (.deferred (some []))) (jP:D≠l)
 (I:Nat -> (Nat -> Prop) -> World -> Prop) (Ix:Code -> (Nat -> Prop) -> World -> Prop) (hI: ∀ i,E6 (I i)) (JU: ∀ c,E6 (Ix c)) (own:Nat -> Prop) (KF: ∀ k,own k -> k=l∨(loose=false/\ k=D)) (Ib:own l) (Vj:loose=false -> own D)
 (h0:I 0 (fun k=>G0 k∨own k) W1)
 (Dn: ∀ (G:Nat -> Prop) (i:Nat) (x:Array Value) (W:World),encs[i]? =some x -> I i G W -> (∃ r,W.heap[l]? =some (.loop r)) -> G l ->
  assign.wpIn (Fence.wide.inRound l) 0 P (Exit.then (fun a₁ W₁=>∃ K:(Nat -> Prop) -> World -> Prop,E6 K/\ AO (fun k=>¬ (G k∨Rd k)) W W₁/\ K G W₁/\ ∀ W₂,K G W₂ -> (∃ r,W₂.heap[l]? =some (.loop r)) ->
   body.wpIn (Fence.wide.inRound l) 0 P (T7 (fun k=>G k∨Rd k) (I (i+1) G) (fun c=>Ix c G) W₂) a₁ W₂) (fun _ _ _=>False)) { tmps:=(ps.zip x).foldl (fun t (p,v)=>t.setIfInBounds p v) a.tmps,defers:=[] } W):
 CallsIn Fence.wide 0 P gf (#[.func (.yield l) #[] #[]]++lb) W1 fun e W2=>(∃ v,e= .returned v)/\
  ((∃ G,I encs.length G W2/\ (∀ k,G k -> k<W2.heap.size)/\ G l/\ (loose=false -> G D)/\ W2.heap[l]? =some (.loop (Ca .ready none))/\ (loose=false -> W2.heap[D]? =some (.deferred (some []))))∨
   (∃ c G,Ix c G W2/\ (∀ k,G k -> k<W2.heap.size)/\ G l/\ (loose=false -> G D)/\ W2.heap[l]? =some (.loop (Ca .done (some c)))/\ (loose=false -> W2.heap[D]? =some (.deferred (some []))))):=by
 have nG: ∀ (G G':Nat -> Prop) (A:World) (k:Nat) (o:Obj),¬ G k -> A.heap[k]? =some o -> (∀ k,G' k -> G k∨A.heap.size<=k) -> ¬ G' k:=fun G G' A k o hn hk hg hx=>by
  have AL:=(zCl.1 hk).1;rcases hg k hx with h | h
  ·exact hn h
  ·omega
 have kept: ∀ (G:Nat -> Prop) (A B:World) (k:Nat) (o:Obj),¬ G k -> A.heap[k]? =some o -> AO G A B -> B.heap[k]? =some o:=fun G A B k o hn hk hu=>
  (hu.block k (zCl.1 hk).1 hn).trans hk
 have Df: ∀ (Φ:(Nat -> Prop) -> World -> Prop) (r:Loop),E6 Φ -> E6 (fun G W=>Φ (fun k=>G k∨own k) W/\ ¬ G l/\ (loose=false -> ¬ G D)/\ W.heap[l]? =some (.loop r)/\ (loose=false -> W.heap[D]? =some (.deferred (some [])))/\ ∀ k,G k -> k<W.heap.size):=by
  intro Φ r hΦ G G' A B ⟨h1,h2,h3,h4,h5,h6⟩ hu hg El;refine ⟨hΦ _ _ A B h1 (hu.mono fun i _ h=>.inl h) (fun k hk=>?_) (fun k hk=>hk.elim (El k) fun ho=>zCu ((KF k ho).elim (fun e=>e▸(zCl.1 h4).1) (fun e=>e.2▸(zCl.1 (h5 e.1)).1)) hu.size),nG G G' A l _ h2 h4 hg,fun hl=>nG G G' A D _ (h3 hl) (h5 hl) hg,kept G A B l _ h2 h4 hu,fun hl=>kept G A B D _ (h3 hl) (h5 hl) hu,El⟩;rcases hk with hk | hk
  ·exact (hg k hk).imp .inl id
  ·exact .inl (.inr hk)
 refine (hseq l
  (fun i G W=>I i (fun k=>G k∨own k) W/\ ¬ G l/\ (loose=false -> ¬ G D)/\ W.heap[l]? =some (.loop (Ca .ready none))/\ (loose=false -> W.heap[D]? =some (.deferred (some [])))/\ ∀ k,G k -> k<W.heap.size)
  (fun G W=>∃ c,Ix c (fun k=>G k∨own k) W/\ ¬ G l/\ (loose=false -> ¬ G D)/\ W.heap[l]? =some (.loop (Ca .done (some c)))/\ (loose=false -> W.heap[D]? =some (.deferred (some [])))/\ ∀ k,G k -> k<W.heap.size)
  G0 W1 (fun i=>Df (I i) _ (hI i)) (fun G G' A B ⟨c,h⟩ hu hg El=>⟨c,Df (Ix c) _ (JU c) G G' A B h hu hg El⟩) aT (fun _ h=>h) (fun k h=>Nat.lt_trans (JV k h).1 (zCl.1 FL).1) ?_
  ⟨h0,fun h=>by have:=(JV l h).1;omega,fun _ h=>(JV D h).2 rfl,FL,zc,fun k h=>Nat.lt_trans (JV k h).1 (zCl.1 FL).1⟩).mono ?_
 ·rintro i x G W hx ⟨hi,Fx,A5,hl,hd,El⟩;have Mz:x∈encs:=zDN hx;have AL:l<W.heap.size:=(zCl.1 hl).1;have DC: ∀ k,(G k∨own k) -> k<W.heap.size:=fun k hk=>hk.elim (El k) fun ho=>(KF k ho).elim (fun e=>e▸AL) (fun e=>e.2▸(zCl.1 (hd e.1)).1)
  have hy:=run_yield (P:=P) (args:=x) hl (by rw [FK];exact EF x Mz);rw [FK] at hy;refine ⟨fn,_,assign,body,hy,roundIn_of_wpIn trivial (zEe (Dn _ i x W hx hi ⟨_,hl⟩ (.inr Ib)) ?_)⟩;rintro e a1 H2 hq;cases e <;> first | exact hq.elim | skip
  obtain ⟨K,hK,G8,yb,hb⟩:=hq;have Vb:AO (fun k=>¬ (G k∨Rd k)) W H2:=G8.mono fun k _ h hx=>h (hx.imp .inl id)
  have hl:=(G8.block l AL (fun h=>h (.inl (.inr Ib)))).trans hl;have hd:loose=false -> H2.heap[D]? =some (.deferred (some [])):=fun h=>(G8.block D (zCl.1 (hd h)).1 (fun hx=>hx (.inl (.inr (Vj h))))).trans (hd h)
  have AL:l<H2.heap.size:=zCu AL G8.size;have El: ∀ k,G k -> k<H2.heap.size:=fun k h=>zCu (El k h) G8.size
  have DC: ∀ k,(G k∨own k) -> k<H2.heap.size:=fun k h=>zCu (DC k h) G8.size
  refine ⟨_,run_beginRound hl (by rw [FK]),?_⟩;have Cd:(H2.putObj l (.loop { Ca .ready none with state:=.busy })).heap[l]? =some (.loop { Ca .ready none with state:=.busy }):=World.putObj_heap_same AL;have zA:loose=false -> (H2.putObj l (.loop { Ca .ready none with state:=.busy })).heap[D]? =some (.deferred (some [])):=fun h=>(zDt jP).trans (hd h)
  have Hn:AO (fun k=>G k∨own k) H2 (H2.putObj l (.loop { Ca .ready none with state:=.busy })):=(AO.refl _ H2).putObj (fun _=>.inr Ib) _;refine zEe (hb _ (hK _ _ _ _ yb Hn (fun k h=>.inl h) (fun k h=>zCu (DC k h) Hn.size)) ⟨_,Cd⟩) ?_
  have fin: ∀ (Ft:Option Code) (W3:World),AO (fun k=>¬ ((G k∨own k)∨Rd k)) (H2.putObj l (.loop { Ca .ready none with state:=.busy })) W3 ->
   (Instr.endRound l Ft).run P W3= .ok (.bool Ft.isNone) (W3.putObj l (.loop (Ca (if Ft.isNone then .ready else .done) Ft)))/\
   W3.heap[l]? =some (.loop { Ca .ready none with state:=.busy })/\
   (W3.putObj l (.loop (Ca (if Ft.isNone then .ready else .done) Ft))).heap[l]? =some (.loop (Ca (if Ft.isNone then .ready else .done) Ft))/\
   (loose=false -> (W3.putObj l (.loop (Ca (if Ft.isNone then .ready else .done) Ft))).heap[D]? =some (.deferred (some [])))/\
   AO (fun k=>¬ (G k∨Rd k)) H2 (W3.putObj l (.loop (Ca (if Ft.isNone then .ready else .done) Ft)))/\
   AO (fun k=>G k∨own k) W3 (W3.putObj l (.loop (Ca (if Ft.isNone then .ready else .done) Ft))):=fun Ft W3 Dw=>by
   have NC:W3.heap[l]? =some (.loop { Ca .ready none with state:=.busy }):=(Dw.block l (by simpa using AL) (fun h=>h (.inl (.inr Ib)))).trans Cd;have:=run_endRound (P:=P) Ft NC;refine ⟨by rw [FK] at this ⊢;exact this,NC,World.putObj_heap_same (zCl.1 NC).1,fun h=>(zDt jP).trans ((Dw.block D ?_ (fun hx=>hx (.inl (.inr (Vj h))))).trans (zA h)),?_,(AO.refl _ W3).putObj (fun _=>.inr Ib) _⟩
   ·simpa using (zCl.1 (hd h)).1
   ·refine ⟨Dw.os,Dw.tape,Dw.output,by simpa using Dw.size,fun k hk hn=>?_⟩;have j7:G k∨Rd k:=Classical.not_not.1 hn
    by_cases Br:k=l
    ·subst Br;exact (j7.elim Fx (fun h=>JT k h rfl)).elim
    ·rw [zDt Br,Dw.block k (by simpa using hk) (fun hx=>hx (j7.imp .inl id)),zDt Br]
  rintro e a3 W3 hp;cases e with
  | normal=>
   obtain ⟨Dw,NE⟩:=hp;obtain ⟨hr,NC,NB,NH,M3,GM⟩:=fin none W3 Dw;exact ⟨_,_,hr,Vb.comp M3 (fun _ _ h=>h),.inl ⟨rfl,hI _ _ _ _ _ NE GM (fun k h=>.inl h) (fun k h=>zCu (DC k h) (zCv Hn.size (zCv Dw.size GM.size))),Fx,A5,NB,NH,fun k h=>zCu (El k h) (zCv Hn.size (zCv Dw.size GM.size))⟩⟩
  | ret=>
   obtain ⟨Dw,NE⟩:=hp;obtain ⟨hr,NC,NB,NH,M3,GM⟩:=fin (some .ret) W3 Dw;exact ⟨_,_,hr,Vb.comp M3 (fun _ _ h=>h),.inr ⟨rfl,.ret,JU _ _ _ _ _ NE GM (fun k h=>.inl h) (fun k h=>zCu (DC k h) (zCv Hn.size (zCv Dw.size GM.size))),Fx,A5,NB,NH,fun k h=>zCu (El k h) (zCv Hn.size (zCv Dw.size GM.size))⟩⟩
  | exit id=>
   obtain ⟨Dw,NE⟩:=hp;obtain ⟨hr,NC,NB,NH,M3,GM⟩:=fin (some (.exit id)) W3 Dw;exact ⟨_,_,hr,Vb.comp M3 (fun _ _ h=>h),.inr ⟨rfl,.exit id,JU _ _ _ _ _ NE GM (fun k h=>.inl h) (fun k h=>zCu (DC k h) (zCv Hn.size (zCv Dw.size GM.size))),Fx,A5,NB,NH,fun k h=>zCu (El k h) (zCv Hn.size (zCv Dw.size GM.size))⟩⟩
  | goto t=>
   obtain ⟨Dw,NE⟩:=hp;obtain ⟨hr,NC,NB,NH,M3,GM⟩:=fin (some (.goto t)) W3 Dw;exact ⟨_,_,hr,Vb.comp M3 (fun _ _ h=>h),.inr ⟨rfl,.goto t,JU _ _ _ _ _ NE GM (fun k h=>.inl h) (fun k h=>zCu (DC k h) (zCv Hn.size (zCv Dw.size GM.size))),Fx,A5,NB,NH,fun k h=>zCu (El k h) (zCv Hn.size (zCv Dw.size GM.size))⟩⟩
  | panic ch=>exact hp.elim
  | outgrown=>exact hp.elim
 ·have ob: ∀ (G:Nat -> Prop) (W2:World) (r:Loop),W2.heap[l]? =some (.loop r) -> (loose=false -> W2.heap[D]? =some (.deferred (some []))) -> (∀ k,G k -> k<W2.heap.size) -> ∀ k,(G k∨own k) -> k<W2.heap.size:=fun G W2 r h4 h5 h6 k hk=>
   hk.elim (h6 k) fun ho=>(KF k ho).elim (fun e=>e▸(zCl.1 h4).1) (fun e=>e.2▸(zCl.1 (h5 e.1)).1)
  rintro e W2 ⟨hv,(⟨G,h1,h2,h3,h4,h5,h6⟩ | ⟨G,c,h1,h2,h3,h4,h5,h6⟩)⟩
  ·exact ⟨hv,.inl ⟨_,h1,ob _ _ _ h4 h5 h6,.inr Ib,fun h=>.inr (Vj h),h4,h5⟩⟩
  ·exact ⟨hv,.inr ⟨c,_,h1,ob _ _ _ h4 h5 h6,.inr Ib,fun h=>.inr (Vj h),h4,h5⟩⟩
theorem nC {g:Operand} {ps:Array Tmp} {assign body:Code} {Q:Exit -> Act -> World -> Prop} {a:Act} {w:World}
 {gf:Nat} {lb:Array Value} (hg:a.eval g= .func (.func gf) #[] lb) (eg: ∀ args w,(callFunc gf args).run P w= .ok (.enter gf args) w)
 {encs:List (Array Value)} {G0 Rd:Nat -> Prop} (hseq:Iv P gf lb encs G0 Rd w) (JV: ∀ k,G0 k -> k<w.heap.size) (JT: ∀ k,Rd k -> k<w.heap.size) (EF: ∀ x∈encs,x.size=ps.size)
 (I:Nat -> (Nat -> Prop) -> World -> Prop) (Ix:Code -> (Nat -> Prop) -> World -> Prop) (hI: ∀ i,E6 (I i)) (JU: ∀ c,E6 (Ix c)) (h0:I 0 G0 w)
 (Dn: ∀ (l:Nat) (G:Nat -> Prop) (i:Nat) (x:Array Value) (W:World),encs[i]? =some x -> I i G W -> (∃ r,W.heap[l]? =some (.loop r)) -> G l ->
  assign.wpIn (Fence.wide.inRound l) 0 P (Exit.then (fun a₁ W₁=>∃ K:(Nat -> Prop) -> World -> Prop,E6 K/\ AO (fun k=>¬ (G k∨Rd k)) W W₁/\ K G W₁/\ ∀ W₂,K G W₂ -> (∃ r,W₂.heap[l]? =some (.loop r)) ->
   body.wpIn (Fence.wide.inRound l) 0 P (T7 (fun k=>G k∨Rd k) (I (i+1) G) (fun c=>Ix c G) W₂) a₁ W₂) (fun _ _ _=>False)) { tmps:=(ps.zip x).foldl (fun t (p,v)=>t.setIfInBounds p v) a.tmps,defers:=[] } W)
 (Ea: ∀ (D:Nat) (G:Nat -> Prop) (W:World),I encs.length G W -> W.heap[D]? =some (.deferred (some [])) -> G D -> w.heap.size<=D ->
  Q .normal { a with defers:={ target:=.collected D,args:=#[] }::a.defers } W)
 (Om: ∀ (D:Nat) (c:Code) (G:Nat -> Prop) (W:World),Ix c G W -> W.heap[D]? =some (.deferred (some [])) -> G D -> w.heap.size<=D ->
  c.wpIn Fence.wide 0 P Q { a with defers:={ target:=.collected D,args:=#[] }::a.defers } W):
 (Code.rangeFunc g ps assign body).wpIn Fence.wide 0 P Q a w:=by
 refine wpIn_rangeFunc ?_;intro fn _;have Ho:(w.alloc (.deferred (some []))).heap.size=w.heap.size+1:=World.size_alloc _ _;obtain ⟨Ca,FK⟩: ∃ Ca:LoopState -> Option Code -> Loop,∀ st pe,Ca st pe= { state:=st,pending:=pe,fn,tmps:=a.tmps,params:=ps,assign,body,defers:=w.heap.size }:=⟨_,fun _ _=>rfl⟩;obtain ⟨W1,Ie⟩: ∃ W1,(w.alloc (.deferred (some []))).alloc (.loop (Ca .ready none))=W1:=⟨_,rfl⟩
 have KN:W1.heap[w.heap.size+1]? =some (.loop (Ca .ready none)):=by
  rw [←Ie];have:=World.alloc_heap_new (w.alloc (.deferred (some []))) (.loop (Ca .ready none));rwa [World.size_alloc] at this
 have zX:W1.heap[w.heap.size]? =some (.deferred (some [])):=by
  rw [←Ie];exact (Below.heap_alloc _ _ _ (by simp)).trans (World.alloc_heap_new w _)
 have hu: ∀ S,AO S w W1:=fun S=>by rw [←Ie];exact ((AO.refl S w).alloc _).alloc _
 refine ⟨w.heap.size+1,[{ target:=.collected w.heap.size,args:=#[] }],W1,{ target:=.fn (.func gf) lb,args:=#[.func (.yield (w.heap.size+1)) #[] #[]] },W1,gf,
  #[.func (.yield (w.heap.size+1)) #[] #[]]++lb,W1,?_,?_,fun _ _=>trivial,?_,(fun h=>by cases h),?_⟩
 ·rw [←Ie,FK];exact run_enterLoop_outer _ _ _ _ _
 ·simp only [resolve,hg];simp [go_sem]
 ·simp [invoke,go_sem,eg]
 ·refine (fZ (loose:=false) (D:=w.heap.size) hseq (hu _) (fun k h=>by have:=JV k h;omega) (fun k h=>by have:=JT k h;omega) EF Ca FK KN (fun _=>zX) (by omega)
   I Ix hI JU (fun k=>k=w.heap.size+1∨k=w.heap.size) (fun k h=>h.imp id fun h=>⟨rfl,h⟩) (.inl rfl) (fun _=>.inr rfl)
   (hI 0 _ _ _ _ h0 (hu _) (fun k h=>h.imp id (by omega)) (fun k h=>by have h2:=(zCl.1 KN).1;rcases h with h | h | h <;> first | omega | (have:=JV k h;omega))) (Dn _)).mono ?_
  rintro e W2 ⟨⟨v,rfl⟩,(⟨G,hi,El,_,aF,hl,hk⟩ | ⟨c,G,hi,El,DQ,aF,hl,hk⟩)⟩
  ·exact ⟨none,_,by have:=run_endLoop (P:=P) hl (by rw [FK];simp);rw [FK] at this;exact this,
    Ea _ _ _ (hI _ _ _ _ _ hi ((AO.refl _ W2).putObj (fun _=>by assumption) _) (fun k h=>.inl h) (fun k h=>by simpa using El k h)) ((zDt (by omega)).trans (hk rfl)) (aF rfl) (zC6 _)⟩
  ·exact ⟨some c,_,by have:=run_endLoop (P:=P) hl (by rw [FK];simp);rw [FK] at this;exact this,
    Om _ c _ _ (JU _ _ _ _ _ hi ((AO.refl _ W2).putObj (fun _=>DQ) _) (fun k h=>.inl h) (fun k h=>by simpa using El k h)) ((zDt (by omega)).trans (hk rfl)) (aF rfl) (zC6 _)⟩
theorem nD {l0:Nat} {g:Operand} {ps:Array Tmp} {assign body:Code} {Q:Exit -> Act -> World -> Prop} {a:Act} {w:World}
 {gf:Nat} {lb:Array Value} (hg:a.eval g= .func (.func gf) #[] lb) (eg: ∀ args w,(callFunc gf args).run P w= .ok (.enter gf args) w) (Z8: ∃ r,w.heap[l0]? =some (.loop r))
 {encs:List (Array Value)} {G0 Rd:Nat -> Prop} (hseq:Iv P gf lb encs G0 Rd w) (JV: ∀ k,G0 k -> k<w.heap.size) (JT: ∀ k,Rd k -> k<w.heap.size) (EF: ∀ x∈encs,x.size=ps.size)
 (I:Nat -> (Nat -> Prop) -> World -> Prop) (Ix:Code -> (Nat -> Prop) -> World -> Prop) (hI: ∀ i,E6 (I i)) (JU: ∀ c,E6 (Ix c)) (h0:I 0 G0 w)
 (Dn: ∀ (l:Nat) (G:Nat -> Prop) (i:Nat) (x:Array Value) (W:World),encs[i]? =some x -> I i G W -> (∃ r,W.heap[l]? =some (.loop r)) -> G l ->
  assign.wpIn (Fence.wide.inRound l) 0 P (Exit.then (fun a₁ W₁=>∃ K:(Nat -> Prop) -> World -> Prop,E6 K/\ AO (fun k=>¬ (G k∨Rd k)) W W₁/\ K G W₁/\ ∀ W₂,K G W₂ -> (∃ r,W₂.heap[l]? =some (.loop r)) ->
   body.wpIn (Fence.wide.inRound l) 0 P (T7 (fun k=>G k∨Rd k) (I (i+1) G) (fun c=>Ix c G) W₂) a₁ W₂) (fun _ _ _=>False)) { tmps:=(ps.zip x).foldl (fun t (p,v)=>t.setIfInBounds p v) a.tmps,defers:=[] } W)
 (Ea: ∀ (G:Nat -> Prop) (W:World),I encs.length G W -> Q .normal a W)
 (Om: ∀ (c:Code) (G:Nat -> Prop) (W:World),Ix c G W -> c.wpIn (Fence.wide.inRound l0) 0 P Q a W):
 (Code.rangeFunc g ps assign body).wpIn (Fence.wide.inRound l0) 0 P Q a w:=by
 refine wpIn_rangeFunc ?_;intro fn _;obtain ⟨r0,Du⟩:=Z8;obtain ⟨Ca,FK⟩: ∃ Ca:LoopState -> Option Code -> Loop,∀ st pe,Ca st pe= { state:=st,pending:=pe,fn,tmps:=a.tmps,params:=ps,assign,body,defers:=r0.defers }:=⟨_,fun _ _=>rfl⟩;obtain ⟨W1,Ie⟩: ∃ W1,w.alloc (.loop (Ca .ready none))=W1:=⟨_,rfl⟩
 have KN:W1.heap[w.heap.size]? =some (.loop (Ca .ready none)):=by
  rw [←Ie];exact World.alloc_heap_new w _
 have hu: ∀ S,AO S w W1:=fun S=>by rw [←Ie];exact (AO.refl S w).alloc _
 refine ⟨w.heap.size,[],W1,{ target:=.fn (.func gf) lb,args:=#[.func (.yield w.heap.size) #[] #[]] },W1,gf,
  #[.func (.yield w.heap.size) #[] #[]]++lb,W1,?_,?_,fun _ _=>trivial,?_,(fun h=>by cases h),?_⟩
 ·rw [←Ie,FK];exact run_enterLoop_inner Du _ _ _ _ _
 ·simp only [resolve,hg];simp [go_sem]
 ·simp [invoke,go_sem,eg]
 ·refine CallsIn.inRound _ ((fZ (loose:=true) (D:=w.heap.size+1) (G0:=G0) hseq (hu _) (fun k h=>by have:=JV k h;omega) (fun k h=>by have:=JT k h;omega) EF Ca FK KN (fun h=>by cases h) (by omega)
   I Ix hI JU (fun k=>k=w.heap.size) (fun k h=>.inl h) rfl (fun h=>by cases h)
   (hI 0 _ _ _ _ h0 (hu _) (fun k h=>h.imp id (by omega)) (fun k h=>by have h2:=(zCl.1 KN).1;rcases h with h | h <;> first | omega | (have:=JV k h;omega))) (Dn _)).mono ?_)
  rintro e W2 ⟨⟨v,rfl⟩,(⟨G,hi,El,DQ,_,hl,_⟩ | ⟨c,G,hi,El,DQ,_,hl,_⟩)⟩
  ·exact ⟨none,_,by have:=run_endLoop (P:=P) hl (by rw [FK];simp);rw [FK] at this;exact this,
    Ea _ _ (hI _ _ _ _ _ hi ((AO.refl _ W2).putObj (fun _=>DQ) _) (fun k h=>.inl h) (fun k h=>by simpa using El k h))⟩
  ·exact ⟨some c,_,by have:=run_endLoop (P:=P) hl (by rw [FK];simp);rw [FK] at this;exact this,
    Om c _ _ (JU _ _ _ _ _ hi ((AO.refl _ W2).putObj (fun _=>DQ) _) (fun k h=>.inl h) (fun k h=>by simpa using El k h))⟩
end
def Ee (B:Nat):List Deferred -> World -> Prop
 | [],_=>True
 | d::ds,w=>∃ D,d= { target:=.collected D,args:=#[] }/\ B<=D/\ w.heap[D]? =some (.deferred (some []))/\ (∀ d'∈ds,d'.target≠.collected D)/\ Ee B ds w
theorem Ee.upd {B:Nat} {S:Nat -> Prop} {w w':World} (hu:AO S w w'): ∀ {ds:List Deferred},Ee B ds w -> (∀ k,B<=k -> S k -> w.heap[k]? ≠some (.deferred (some []))) -> Ee B ds w'
 | [],_,_=>trivial
 | _::_,⟨D,h1,h2,h3,h4,h5⟩,hs=>⟨D,h1,h2,(hu.block D (zCl.1 h3).1 (fun hx=>hs D h2 hx h3)).trans h3,h4,Ee.upd hu h5 hs⟩
theorem Ee.lt {B:Nat} {w:World}: ∀ {ds:List Deferred} (_:Ee B ds w) {d:Deferred} {D:Nat},d∈ds -> d.target= .collected D -> D<w.heap.size
 | _::_,⟨D,h1,h2,h3,h4,h5⟩,d,D',hm,ht=>by
  rcases zDF.1 hm with rfl | hm
  ·subst h1;cases ht;exact (zCl.1 h3).1
  ·exact Ee.lt h5 hm ht
def TO (B:Nat) (w W:World):Prop:=AO (fun k=>B<=k/\ w.heap[k]? =some (.deferred (some []))) w W
def sr (B:Nat) (P:Program) (fn:Func) (R:Ending -> World -> Prop):Exit -> Act -> World -> Prop
 | .normal,a,w | .ret,a,w=>Ee B a.defers w/\ ∀ W,TO B w W -> ∃ v,(results fn a.tmps).run P W= .ok v W/\ R (.returned v) W
 | _,_,_=>False
theorem iM {B:Nat} {P:Program} {fn:Func} {tmps:Array Value} {R:Ending -> World -> Prop}: ∀ (ds:List Deferred) (w:World),Ee B ds w ->
 (∀ W,TO B w W -> ∃ v,(results fn tmps).run P W= .ok v W/\ R (.returned v) W) -> LeavesInM Fence.wide 0 P fn tmps R ds .returning w
 | [],w,_,h=>h w (AO.refl _ w)
 | _::ds,w,⟨D,h1,h2,h3,h4,h5⟩,h=>by
  refine ⟨by simp,.inl ⟨D,_,by rw [h1],run_takeDeferred h3,?_⟩⟩;have hu:AO (fun k=>k=D) w (w.putObj D (.deferred none)):=(AO.refl (fun k=>k=D) w).putObj (fun _=>rfl) _
  have AY: ∀ {ds:List Deferred},(∀ d'∈ds,d'.target≠.collected D) -> Ee B ds w -> Ee B ds (w.putObj D (.deferred none)):=by
   intro ds
   induction ds with
   | nil=>intro _ _;trivial
   | cons d ds ih=>
    intro hd ⟨D',g1,g2,g3,g4,g5⟩;refine ⟨D',g1,g2,?_,g4,ih (fun d' hm=>hd d' (by simp [hm])) g5⟩;rw [zDt (fun e=>hd d (by simp) (by rw [g1,e]))];exact g3
  refine iM ds _ (AY h4 h5) fun W hW=>h W ?_
  refine hu.mono (S':=fun k=>B<=k/\ w.heap[k]? =some (.deferred (some []))) (fun i _ e=>by cases e;exact ⟨h2,h3⟩) |>.comp hW fun i hi hx=>⟨hx.1,?_⟩
  by_cases e:i=D
  ·rw [e];exact h3
  ·rw [←zDt (o:=.deferred none) e];exact hx.2
theorem zBm (B:Nat) {P:Program} {f:FuncId} {fn:Func} {c:Code} {args:Array Value} {w:World} {R:Ending -> World -> Prop}
 (hf:P.funcs[f]? =some fn) (hb:fn.body=some c)
 (h:c.wp P (sr B P fn R) { tmps:=args++Array.replicate (fn.ntmps-args.size) undef,defers:=[] } w):Calls P f args w R:=by
 refine (callsIn_wide (n:=0)).1 (callsIn_of_wp_marks hf hb trivial ?_);refine zEe (wpIn_wide.2 h) fun e a' w' hq=>?_
 cases e <;> first | exact iM _ _ hq.1 hq.2 | exact hq.elim
end Go.Proofs.YtgkhhfnhacibcaaGreatDoor
namespace Go.Proofs.YtgkhhfnhacibcaaGreatDoor
abbrev u8:=@List.getD_eq_getElem?_getD
abbrev zCr:=@List.getElem?_eq_some_iff
abbrev zC8:=@List.getElem?_append_left
abbrev zDA:=@Array.getD_eq_getD_getElem?
abbrev zDE:=@List.length_set
abbrev zDJ:=@List.getElem?_append_right
abbrev zDO:=@List.getElem?_eq_none
abbrev zDP:=@List.getElem?_set
abbrev zDa:=@Array.getElem?_setIfInBounds
end Go.Proofs.YtgkhhfnhacibcaaGreatDoor
namespace Go.Proofs.YtgkhhfnhacibcaaGreatDoor
open Go.RowKit
inductive DV where
 | any
 | nils
 | int (k:IntKind) (n:Int)
 | bool (b:Bool)
 | str (s:ByteArray)
 | ints (l:List Int)
 | bools (l:List Bool)
 | sl (m n:Nat) (f:Nat -> Nat -> DV)
 | fp (m:Nat) (f:Nat -> DV)
 | agg (m:Nat) (f:Nat -> DV)
 | tup (m:Nat) (f:Nat -> DV)
 | ref (k j:Nat)
 | msl (k m off n:Nat)
 | mp (k m i j:Nat)
 | fn (g:Nat) (m:Nat) (c:Nat -> DV)
 | it (k:Nat)
 | yl (l:Nat)
 | mse (k m off n:Nat)
 | mri (k i:Nat)
 | cst (u:Value)
structure AJ where
 blk:Nat
 off:Nat
 room:Nat
 val:Value
 foot:Nat -> Prop
def GU (m:Nat) (f:Nat -> DV):Nat -> DV:=fun j=>((List.range m).map f).getD j .any
theorem Tg {m:Nat} {f:Nat -> DV} {j:Nat} (h:j<m):GU m f j=f j:=by simp [GU,h]
def LB:Nat:=140737488355328
def AK (M:Nat -> Prop) (w:World):DV -> List AJ -> Value -> Prop
 | .any,_,_=>True
 | .nils,_,v=>v= .slice none 0 0
 | .int k n,_,v=>v= .int k n
 | .bool b,_,v=>v= .bool b
 | .str s,_,v=>v= .string s
 | .ints l,_,v=>∃ (a:Option Addr) (cap:Nat),v= .slice a l.length cap/\ l.length<=cap/\ l.length<=LB/\
  ∀ j,j<l.length -> ∃ b o,a=some ⟨b,o,none⟩/\ ¬ M b/\ w.cell? ⟨b,o+j,none⟩=some (.int .i64 (l.getD j 0))
 | .bools l,_,v=>∃ (a:Option Addr) (cap:Nat),v= .slice a l.length cap/\ l.length<=cap/\ l.length<=LB/\
  ∀ j,j<l.length -> ∃ b o,a=some ⟨b,o,none⟩/\ ¬ M b/\ w.cell? ⟨b,o+j,none⟩=some (.bool (l.getD j false))
 | .sl m n f,_,v=>∃ (a:Option Addr) (cap:Nat),v= .slice a n cap/\ n<=cap/\ n<=LB/\
  ∀ i j,i<n -> j<m -> ∃ b o u,a=some ⟨b,o,none⟩/\ ¬ M b/\ w.cell? ⟨b,o+(i*m+j),none⟩=some u/\ AK M w (f i j) [] u
 | .fp m f,_,v=>∃ b o,v= .pointer (some ⟨b,o,none⟩)/\ ∀ j,j<m -> ¬ M b/\ ∃ u,w.cell? ⟨b,o+j,none⟩=some u/\ AK M w (f j) [] u
 | .agg m f,ρ,v=>∃ cs,v= .agg cs/\ cs.size=m/\ ∀ j,j<m -> ∃ u,cs[j]? =some u/\ AK M w (f j) ρ u
 | .tup m f,ρ,v=>∃ cs,v= .tuple cs/\ cs.size=m/\ ∀ j,j<m -> ∃ u,cs[j]? =some u/\ AK M w (f j) ρ u
 | .ref k j,ρ,v=>∃ p:AJ,ρ[k]? =some p/\ v= .pointer (some ⟨p.blk,p.off+j,none⟩)
 | .msl k m off n,ρ,v=>∃ (p:AJ) (cap:Nat),ρ[k]? =some p/\ v= .slice (some ⟨p.blk,p.off+off*m,none⟩) n cap/\ n<=cap/\ n<=LB/\ p.off+off*m+cap*m<=p.room
 | .mp k m i j,ρ,v=>∃ p:AJ,ρ[k]? =some p/\ v= .pointer (some ⟨p.blk,p.off+(i*m+j),none⟩)
 | .fn g m c,ρ,v=>∃ lb,v= .func (.func g) #[] lb/\ lb.size=m/\ ∀ j,j<m -> ∃ u,lb[j]? =some u/\ AK M w (c j) ρ u
 | .it k,ρ,v=>∃ p:AJ,ρ[k]? =some p/\ v=p.val
 | .yl l,_,v=>v= .func (.yield l) #[] #[]
 | .cst u,_,v=>v=u/\ u.oneCell'=true
 | .mri k i,ρ,v=>∃ (p:AJ) (vs:Array Value),ρ[k]? =some p/\ p.val= .tuple vs/\ vs[i]? =some v
 | .mse k m off n,ρ,v=>∃ (p:AJ) (a:Option Addr) (cap:Nat),ρ[k]? =some p/\ v= .slice a n cap/\ n<=cap/\ n<=LB/\ (0<cap -> a=some ⟨p.blk,p.off+off*m,none⟩/\ p.off+off*m+cap*m<=p.room)
theorem IA {M:Nat -> Prop} {w:World} {ρ:List AJ} {m:Nat} {f:Nat -> DV} {j:Nat} {v:Value} (h:j<m) (hr:AK M w (f j) ρ v):AK M w (GU m f j) ρ v:=by rw [Tg h];exact hr
def Ab (w:World) (p:AJ) (n:Nat) (R:Nat -> Value -> Prop):Prop:=
 p.foot=(fun b=>b=p.blk)/\ ∃ cs t,w.heap[p.blk]? =some (.cells cs t (0,0))/\ p.off+n<=cs.size/\ p.room<=cs.size/\ ∀ j,j<n -> ∃ u,cs[p.off+j]? =some u/\ R j u
/-! ### Rows that an object owns-/
def HK (w:World) (F:Nat -> Prop) (u:Value) (L:List Int):Prop:=
 (L= []/\ u= .slice none 0 0)∨∃ (q:AJ) (cap:Nat),u= .slice (some ⟨q.blk,q.off,none⟩) L.length cap/\ L.length<=cap/\ q.off+cap<=q.room/\ L.length<=LB/\ F q.blk/\ Ab w q L.length fun j x=>x= .int .i64 (L.getD j 0)
def C8:Value -> Option Nat
 | .slice (some a) _ _=>some a.block
 | _=>none
theorem HK.blk {w:World} {F:Nat -> Prop} {u:Value} {L:List Int} {b:Nat} (h:HK w F u L) (hb:C8 u=some b):F b/\ b<w.heap.size:=by
 rcases h with ⟨_,rfl⟩ | ⟨q,cap,rfl,_,_,_,h5,_,cs,t,h6,_⟩
 ·cases hb
 ·cases hb;exact ⟨h5,(zCl.1 h6).1⟩
theorem HK.out {w w':World} {F F':Nat -> Prop} {u:Value} {L:List Int} (h:HK w F u L) (hb: ∀ b,F b -> C8 u=some b -> b<w.heap.size -> w'.heap[b]? =w.heap[b]?) (hF: ∀ b,F b -> C8 u=some b -> F' b):HK w' F' u L:=by
 rcases h with h | ⟨q,cap,h1,h2,h3,h4,h5,h6⟩
 ·exact .inl h
 ·refine .inr ⟨q,cap,h1,h2,h3,h4,hF _ h5 (by rw [h1];rfl),?_⟩;obtain ⟨g1,cs,t,g2,g3⟩:=h6;exact ⟨g1,cs,t,(hb _ h5 (by rw [h1];rfl) (zCl.1 g2).1).trans g2,g3⟩
structure Ed (w:World) (p:AJ) (f:Int -> List Int) (Bu:Option (Int×List Int×Bool)) (u:Value) (es:Array MapEntry) (AX:Nat):Prop where
 val:p.val= .tuple #[Value.map (some p.blk),u]
 blk:w.heap[p.blk]? =some (.map es AX)
 own:p.foot p.blk
 key: ∀ e∈es.toList,∃ k,e.key= .int .i64 k/\ ((∀ L,Bu≠some (k,L,true)) -> HK w (fun b=>p.foot b/\ b≠p.blk) e.val (f k))
 no: ∀ k,(∀ e∈es.toList,e.key≠.int .i64 k) -> f k= []
 nd:(es.toList.map (·.key)).Nodup
 apart: ∀ e∈es.toList,∀ e'∈es.toList,∀ b,C8 e.val=some b -> C8 e'.val=some b -> e.key=e'.key
 born: ∀ e∈es.toList,e.born<AX
 stamps:(es.toList.map (·.born)).Nodup
 inHand: ∀ k L g,Bu=some (k,L,g) -> HK w (fun b=>p.foot b/\ b≠p.blk) u L/\ ∀ e∈es.toList,∀ b,C8 u=some b -> C8 e.val=some b -> e.key= .int .i64 k
theorem Ed.out {w w':World} {p:AJ} {f:Int -> List Int} {Bu:Option (Int×List Int×Bool)} {u:Value} {es:Array MapEntry} {AX:Nat} (h:Ed w p f Bu u es AX) (hb: ∀ b,p.foot b -> b<w.heap.size -> w'.heap[b]? =w.heap[b]?):Ed w' p f Bu u es AX:=
 { h with
  blk:=(hb _ h.own (zCl.1 h.blk).1).trans h.blk
  key:=fun e he=>let ⟨k,h1,h2⟩:=h.key e he;⟨k,h1,fun hh=>(h2 hh).out (fun b hf _ hl=>hb b hf.1 hl) fun _ h _=>h⟩
  inHand:=fun k L g e=>let ⟨h1,h2⟩:=h.inHand k L g e;⟨h1.out (fun b hf _ hl=>hb b hf.1 hl) fun _ h _=>h,h2⟩ }
/-! ### Maps:sets of keys-/
abbrev KS:=List (List Int)
def BG:List Int -> Value
 | [a]=>.int .i64 a
 | l=>.agg (l.map fun a=>.int .i64 a).toArray
theorem iT: ∀ {a b:List Int},BG a=BG b -> a=b:=by
 have ai: ∀ {l m:List Int},(l.map fun a=>Value.int .i64 a).toArray=(m.map fun a=>Value.int .i64 a).toArray -> l=m:=fun {l m} h=>by
  have h:=Array.toList_inj.2 h;simp only at h;exact List.map_inj_right (fun x y e=>by cases e;rfl) |>.1 h
 intro a b h
 match a,b with
 | [x],[y]=>cases h;rfl
 | [],[]=>rfl
 | [x],[]=>cases h
 | [],[y]=>cases h
 | [x],y::y'::m=>cases h
 | x::x'::l,[y]=>cases h
 | x::x'::l,[]=>exact ai (Value.agg.inj h)
 | [],y::y'::m=>exact ai (Value.agg.inj h)
 | x::x'::l,y::y'::m=>exact ai (Value.agg.inj h)
structure Et (w:World) (b n:Nat) (l:KS) (es:Array MapEntry) (AX:Nat):Prop where
 blk:w.heap[b]? =some (.map es AX)
 keys:(es.toList.map (·.key)).Perm (l.map BG)
 nd:l.Nodup
 len: ∀ y∈l,y.length=n
 tru: ∀ e∈es.toList,e.val= .bool true
 born: ∀ e∈es.toList,e.born<AX
 stamps:(es.toList.map (·.born)).Nodup
theorem Et.out {w w':World} {b n:Nat} {l:KS} {es:Array MapEntry} {AX:Nat} (h:Et w b n l es AX) (hb:w'.heap[b]? =w.heap[b]?):Et w' b n l es AX:={ h with blk:=hb.trans h.blk }
inductive MX where
 | set (n:Nat) (l:KS)
 | sets (n:Nat) (ls:List (Option KS)) (lk:Option (Nat×Nat×Array MapEntry×Nat))
 | mit (n mb:Nat) (es:Array MapEntry) (AX:Nat) (rem:KS) (En:Option (List Int))
 | rows (f:Int -> List Int) (Bu:Option (Int×List Int×Bool))
 | rws (ls:List (List Int)) (Bu:Option (Nat×List Int))
structure JZ (w:World) (p:AJ) (ls:List (List Int)) (Bu:Option (Nat×List Int)) (vs:Array Value):Prop where
 val:p.val= .tuple vs
 size:vs.size=ls.length+1
 row: ∃ cs t,w.heap[p.blk]? =some (.cells cs t (0,0))/\ p.off+ls.length<=cs.size/\ p.room<=cs.size/\ ∀ j,j<ls.length -> cs[p.off+j]? =vs[j+1]?
 blk:p.foot p.blk
 has: ∀ j,j<ls.length -> (∀ L,Bu≠some (j,L)) -> HK w (fun b=>p.foot b/\ b≠p.blk) (vs.getD (j+1) undef) (ls.getD j default)
 apart: ∀ (i j b:Nat),i<ls.length -> j<ls.length -> (∀ L,Bu≠some (i,L)) -> (∀ L,Bu≠some (j,L)) -> C8 (vs.getD (i+1) undef)=some b -> C8 (vs.getD (j+1) undef)=some b -> i=j
 inHand: ∀ k L,Bu=some (k,L) -> HK w (fun b=>p.foot b/\ b≠p.blk) (vs.getD 0 undef) L/\ ∀ (j b:Nat),j<ls.length -> C8 (vs.getD 0 undef)=some b -> C8 (vs.getD (j+1) undef)=some b -> j=k
theorem JZ.out {w w':World} {p:AJ} {ls:List (List Int)} {Bu:Option (Nat×List Int)} {vs:Array Value} (h:JZ w p ls Bu vs) (hb: ∀ b,p.foot b -> b<w.heap.size -> w'.heap[b]? =w.heap[b]?):JZ w' p ls Bu vs:=
 { h with
  row:=let ⟨cs,t,h1,h2⟩:=h.row;⟨cs,t,(hb _ h.blk (zCl.1 h1).1).trans h1,h2⟩
  has:=fun j hj hh=>(h.has j hj hh).out (fun b hf _ hl=>hb b hf.1 hl) fun _ h _=>h
  inHand:=fun k L e=>let ⟨h1,h2⟩:=h.inHand k L e;⟨h1.out (fun b hf _ hl=>hb b hf.1 hl) fun _ h _=>h,h2⟩ }
structure E7 (w:World) (p:AJ) (n:Nat) (ls:List (Option KS)) (lk:Option (Nat×Nat×Array MapEntry×Nat)) (vs:Array Value):Prop where
 val:p.val= .tuple vs
 size:vs.size=ls.length
 row: ∃ cs t,w.heap[p.blk]? =some (.cells cs t (0,0))/\ p.off+ls.length<=cs.size/\ p.room<=cs.size/\ ∀ j,j<ls.length -> cs[p.off+j]? =vs[j]?
 blk:p.foot p.blk
 has: ∀ (j:Nat) (l:KS),ls[j]? =some (some l) -> ∃ b:Nat,vs[j]? =some (Value.map (some b))/\ b≠p.blk/\ p.foot b/\ ∃ es AX,Et w b n l es AX/\ ∀ x,lk=some x -> x.1=j -> x.2=(b,es,AX)
 nil: ∀ (j:Nat),ls[j]? =some none -> vs[j]? =some (Value.map none)
 foot: ∀ b,p.foot b -> b=p.blk∨∃ (j:Nat) (l:KS),ls[j]? =some (some l)/\ vs[j]? =some (Value.map (some b))
 inj: ∀ (i j b:Nat),vs[i]? =some (Value.map (some b)) -> vs[j]? =some (Value.map (some b)) -> i=j
theorem E7.out {w w':World} {p:AJ} {n:Nat} {ls:List (Option KS)} {lk:Option (Nat×Nat×Array MapEntry×Nat)} {vs:Array Value} (h:E7 w p n ls lk vs) (hb: ∀ b,p.foot b -> b<w.heap.size -> w'.heap[b]? =w.heap[b]?):E7 w' p n ls lk vs:=by
 have Ba: ∀ {b o},p.foot b -> w.heap[b]? =some o -> w'.heap[b]? =some o:=fun {b o} hf ho=>(hb b hf (zCl.1 ho).1).trans ho
 refine { h with row:=?_,has:=fun j l hl=>?_ }
 ·obtain ⟨cs,t,h1,h2⟩:=h.row;exact ⟨cs,t,Ba h.blk h1,h2⟩
 ·obtain ⟨b,h1,h2,h3,es,AX,h4,h5⟩:=h.has j l hl;exact ⟨b,h1,h2,h3,es,AX,{ h4 with blk:=Ba h3 h4.blk },h5⟩
def Ly (w:World) (p:AJ):MX -> Prop
 | .set n l=>p.val=Value.map (some p.blk)/\ p.foot=(fun b=>b=p.blk)/\ ∃ es AX,Et w p.blk n l es AX
 | .sets n ls lk=>∃ vs,E7 w p n ls lk vs
 | .mit n mb es AX rem En=>(∀ x,(x∈rem∨En=some x) -> x.length=n)/\ p.val= .pointer (some ⟨p.blk,0,none⟩)/\ p.foot=(fun b=>b=p.blk)/\ ∃ seen,w.heap[p.blk]? =some (.mapIter (some mb) AX seen AX)/\ ((leftOf es seen).toList.map (·.key)).Perm (rem.map BG)/\
  ∀ x,En=some x -> ∃ e∈es.toList,e.key=BG x/\ seen.back? =some e.born
 | .rows f Bu=>∃ u es AX,Ed w p f Bu u es AX
 | .rws ls Bu=>∃ vs,JZ w p ls Bu vs
theorem Ly.out {w w':World} {p:AJ}: ∀ {x:MX},Ly w p x -> (∀ b,p.foot b -> b<w.heap.size -> w'.heap[b]? =w.heap[b]?) -> Ly w' p x
 | .set n l,⟨h1,h2,es,AX,h3⟩,hb=>⟨h1,h2,es,AX,h3.out (hb _ (by rw [h2]) (zCl.1 h3.blk).1)⟩
 | .sets n ls lk,⟨vs,h⟩,hb=>⟨vs,h.out hb⟩
 | .rows f Bu,⟨u,es,AX,h⟩,hb=>⟨u,es,AX,h.out hb⟩
 | .rws ls Bu,⟨vs,h⟩,hb=>⟨vs,h.out hb⟩
 | .mit n mb es AX rem En,⟨h0,h1,h2,seen,h3,h4⟩,hb=>⟨h0,h1,h2,seen,(hb _ (by rw [h2]) (zCl.1 h3).1).trans h3,h4⟩
inductive DO where
 | cells (l:List DV)
 | ints (l:List Int)
 | bools (l:List Bool)
 | arr (m n:Nat) (f:Nat -> Nat -> DV)
 | iter (encs:List (Array Value))
 | mo (x:MX)
abbrev DH:=List (Option DO)
def MO (h:DH) (ρ:List AJ) (b:Nat):Prop:=∃ (k:Nat) (o:DO) (p:AJ),h[k]? =some (some o)/\ ρ[k]? =some p/\ p.foot b
def MS (N:Nat -> Prop) (h:DH) (ρ:List AJ) (b:Nat):Prop:=N b∨MO h ρ b
def DU (P:Program) (M:Nat -> Prop) (w:World) (ρ:List AJ) (p:AJ):DO -> Prop
 | .cells l=>Ab w p l.length fun j u=>AK M w (l.getD j .any) ρ u
 | .ints l=>Ab w p l.length fun j u=>u= .int .i64 (l.getD j 0)
 | .bools l=>Ab w p l.length fun j u=>u= .bool (l.getD j false)
 | .arr m n f=>Ab w p (n*m) fun j u=>AK M w (f (j/m) (j % m)) [] u
 | .iter encs=>∃ gf lb Rd,(p.val= .func (.func gf) #[] lb/\ ∀ args W,(callFunc gf args).run P W= .ok (.enter gf args) W)/\ Iv P gf lb encs p.foot Rd w/\ (∀ b,Rd b -> ¬ M b/\ b<w.heap.size)/\ ∀ b,p.foot b -> b<w.heap.size
 | .mo x=>Ly w p x
def ji:Obj -> Bool
 | .cells .. =>true
 | .map .. =>true
 | .mapIter .. =>true
 | _=>false
abbrev DW (w:World) (b:Nat):Prop:=∃ (c:Obj) (_:ji c=true) (_:Unit),w.heap[b]? =some c
theorem DW.cells {w:World} {b:Nat} {c:Array Value} {t:TypeId} {z:Nat×Nat} (h:w.heap[b]? =some (.cells c t z)):DW w b:=⟨_,rfl,(),h⟩
structure A1 where
 ng:Nat
 gi:World -> Prop
 st: ∀ w w',gi w -> AO (fun b=>ng<=b) w w' -> gi w'
 lo: ∀ w,gi w -> ng<=w.heap.size
structure BP (P:Program) (Γ:A1) (N:Nat -> Prop) (h:DH) (ρ:List AJ) (w:World):Prop where
 len:ρ.length=h.length
 obj: ∀ (k:Nat) (o:DO),h[k]? =some (some o) -> ∃ p:AJ,ρ[k]? =some p/\ DU P (MS N h ρ) w ρ p o
 cel: ∀ (k:Nat) (o:DO) (p:AJ) (b:Nat),h[k]? =some (some o) -> ρ[k]? =some p -> p.foot b -> Γ.ng<=b/\ ¬ N b/\ DW w b
 dis: ∀ (k k':Nat) (o o':DO) (p p':AJ) (b:Nat),k≠k' -> h[k]? =some (some o) -> h[k']? =some (some o') -> ρ[k]? =some p -> ρ[k']? =some p' -> p.foot b -> p'.foot b -> False
 nlt: ∀ b,N b -> b<w.heap.size/\ Γ.ng<=b
 gi:Γ.gi w
structure St where
 fr:List DV
 h:DH
def CA (M:Nat -> Prop) (w:World) (ρ:List AJ) (fr:List DV) (t:Array Value):Prop:=
 fr.length=t.size/\ ∀ i,i<fr.length -> AK M w (fr.getD i .any) ρ (t.getD i undef)
structure Ac (P:Program) (Γ:A1) (N:Nat -> Prop) (S:St) (ρ:List AJ) (a:Act) (w:World):Prop where
 hr:BP P Γ N S.h ρ w
 fr:CA (MS N S.h ρ) w ρ S.fr a.tmps
structure BH (h:DH) (ρ:List AJ) (w:World) (h':DH) (ρ':List AJ) (w':World):Prop where
 upd:AO (MO h ρ) w w'
 grow: ∀ b,MO h' ρ' b -> MO h ρ b∨w.heap.size<=b
theorem BH.refl (h:DH) (ρ:List AJ) (w:World):BH h ρ w h ρ w:=⟨AO.refl _ _,fun _ h=>.inl h⟩
theorem BH.trans {h h' SE:DH} {ρ ρ' ρ'':List AJ} {w w' CF:World} (x:BH h ρ w h' ρ' w') (y:BH h' ρ' w' SE ρ'' CF):BH h ρ w SE ρ'' CF:=
 ⟨x.upd.comp y.upd fun i hi hm=>(x.grow i hm).resolve_right (by omega),fun b hb=>(y.grow b hb).elim (fun h=>x.grow b h) (fun h=>.inr (zCv x.upd.size h))⟩
structure C5 (h:DH) (ρ:List AJ) (w:World) (h':DH) (ρ':List AJ) (w':World):Prop where
 st:BH h ρ w h' ρ' w'
 pl: ∀ (k:Nat) (p:AJ),ρ[k]? =some p -> ρ'[k]? =some p
theorem C5.refl (h:DH) (ρ:List AJ) (w:World):C5 h ρ w h ρ w:=⟨BH.refl _ _ _,fun _ _ h=>h⟩
theorem C5.trans {h h' SE:DH} {ρ ρ' ρ'':List AJ} {w w' CF:World} (x:C5 h ρ w h' ρ' w') (y:C5 h' ρ' w' SE ρ'' CF):C5 h ρ w SE ρ'' CF:=
 ⟨x.st.trans y.st,fun k p hk=>y.pl k p (x.pl k p hk)⟩
structure BV (M:Nat -> Prop) (w:World) (ρ:List AJ) (M':Nat -> Prop) (w':World) (ρ':List AJ):Prop where
 blk: ∀ b,b<w.heap.size -> ¬ M b -> (∃ c t z,w.heap[b]? =some (.cells c t z)) -> w'.heap[b]? =w.heap[b]?
 m: ∀ b,M' b -> M b∨w.heap.size<=b
 pl: ∀ (k:Nat) (p:AJ),ρ[k]? =some p -> ρ'[k]? =some p
theorem zBj {w:World} {b o:Nat} {u:Value} (h:w.cell? ⟨b,o,none⟩=some u): ∃ c t z,w.heap[b]? =some (.cells c t z):=by
 unfold World.cell? at h;split at h
 ·exact ⟨_,_,_,by assumption⟩
 ·cases h
theorem BV.nil {M M':Nat -> Prop} {w w':World} {ρ ρ':List AJ} (h:BV M w ρ M' w' ρ'):BV M w [] M' w' []:=⟨h.blk,h.m,fun k p hk=>by simp at hk⟩
theorem lU {w w':World} {b o:Nat} (h:w'.heap[b]? =w.heap[b]?):w'.cell? ⟨b,o,none⟩=w.cell? ⟨b,o,none⟩:=by
 unfold World.cell?;rw [h]
theorem BV.cell {M M':Nat -> Prop} {w w':World} {ρ ρ':List AJ} (h:BV M w ρ M' w' ρ') {b o:Nat} {u:Value} (hM: ¬ M b) (hc:w.cell? ⟨b,o,none⟩=some u):w'.cell? ⟨b,o,none⟩=some u/\ ¬ M' b:=by
 have AL:b<w.heap.size:=zD4 w ⟨b,o,none⟩ hc;exact ⟨(lU (h.blk b AL hM (zBj hc))).trans hc,fun hm=>(h.m b hm).elim hM (by omega)⟩
theorem AK.out {M M':Nat -> Prop} {w w':World}: ∀ (d:DV) {ρ ρ':List AJ} {v:Value},BV M w ρ M' w' ρ' -> AK M w d ρ v -> AK M' w' d ρ' v:=by
 intro d
 induction d with
 | any=>intros;trivial
 | nils=>intro ρ ρ' v _ h;exact h
 | int k n=>intro ρ ρ' v _ h;exact h
 | bool b=>intro ρ ρ' v _ h;exact h
 | str s=>intro ρ ρ' v _ h;exact h
 | ints l=>
  rintro ρ ρ' v H ⟨a,cap,e,h1,h2,h3⟩;refine ⟨a,cap,e,h1,h2,fun j hj=>?_⟩;obtain ⟨b,o,ha,hM,hc⟩:=h3 j hj;obtain ⟨g1,g2⟩:=H.cell hM hc;exact ⟨b,o,ha,g2,g1⟩
 | bools l=>
  rintro ρ ρ' v H ⟨a,cap,e,h1,h2,h3⟩;refine ⟨a,cap,e,h1,h2,fun j hj=>?_⟩;obtain ⟨b,o,ha,hM,hc⟩:=h3 j hj;obtain ⟨g1,g2⟩:=H.cell hM hc;exact ⟨b,o,ha,g2,g1⟩
 | sl m n f ih=>
  rintro ρ ρ' v H ⟨a,cap,e,h1,h2,h3⟩;refine ⟨a,cap,e,h1,h2,fun i j hi hj=>?_⟩;obtain ⟨b,o,u,ha,hM,hc,hr⟩:=h3 i j hi hj;obtain ⟨g1,g2⟩:=H.cell hM hc;exact ⟨b,o,u,ha,g2,g1,ih i j H.nil hr⟩
 | fp m f ih=>
  rintro ρ ρ' v H ⟨b,o,e,h⟩;refine ⟨b,o,e,fun j hj=>?_⟩;obtain ⟨hM,u,hc,hr⟩:=h j hj;obtain ⟨g1,g2⟩:=H.cell hM hc;exact ⟨g2,u,g1,ih j H.nil hr⟩
 | agg m f ih=>
  rintro ρ ρ' v H ⟨cs,e,hs,h⟩;exact ⟨cs,e,hs,fun j hj=>let ⟨u,h1,h2⟩:=h j hj;⟨u,h1,ih j H h2⟩⟩
 | tup m f ih=>
  rintro ρ ρ' v H ⟨cs,e,hs,h⟩;exact ⟨cs,e,hs,fun j hj=>let ⟨u,h1,h2⟩:=h j hj;⟨u,h1,ih j H h2⟩⟩
 | ref k j=>rintro ρ ρ' v H ⟨p,h,e⟩;exact ⟨p,H.pl _ _ h,e⟩
 | msl k m off n=>rintro ρ ρ' v H ⟨p,cap,h,r⟩;exact ⟨p,cap,H.pl _ _ h,r⟩
 | mp k m i j=>rintro ρ ρ' v H ⟨p,h,e⟩;exact ⟨p,H.pl _ _ h,e⟩
 | fn g m c ih=>
  rintro ρ ρ' v H ⟨cs,e,hs,h⟩;exact ⟨cs,e,hs,fun j hj=>let ⟨u,h1,h2⟩:=h j hj;⟨u,h1,ih j H h2⟩⟩
 | it k=>rintro ρ ρ' v H ⟨p,h,e⟩;exact ⟨p,H.pl _ _ h,e⟩
 | yl l=>intro ρ ρ' v _ h;exact h
 | mse k m off n=>rintro ρ ρ' v H ⟨p,a,cap,h,r⟩;exact ⟨p,a,cap,H.pl _ _ h,r⟩
 | mri k i=>rintro ρ ρ' v H ⟨p,vs,h,r⟩;exact ⟨p,vs,H.pl _ _ h,r⟩
 | cst u=>intro ρ ρ' v _ h;exact h
theorem CA.out {M M':Nat -> Prop} {w w':World} {ρ ρ':List AJ} {fr:List DV} {t:Array Value} (h:CA M w ρ fr t) (H:BV M w ρ M' w' ρ'):CA M' w' ρ' fr t:=
 ⟨h.1,fun i hi=>(h.2 i hi).out _ H⟩
theorem CA.at {M:Nat -> Prop} {w:World} {ρ:List AJ} {fr:List DV} {t:Array Value} (h:CA M w ρ fr t) (i:Nat):AK M w (fr.getD i .any) ρ (t.getD i undef):=by
 rcases zD3 i fr.length with hi | hi
 ·exact h.2 i hi
 ·have:fr.getD i .any= .any:=by rw [u8,zDO hi];rfl
  rw [this];trivial
theorem CA.set {M:Nat -> Prop} {w:World} {ρ:List AJ} {fr:List DV} {t:Array Value} (h:CA M w ρ fr t) (i:Nat) {d:DV} {v:Value} (hv:AK M w d ρ v):CA M w ρ (fr.set i d) (t.setIfInBounds i v):=by
 refine ⟨by simp [h.1],fun j hj=>?_⟩;rw [zDE] at hj;have A3:j<t.size:=by rw [←h.1];exact hj
 have h0:=h.2 j hj;simp only [u8,zDA,zDP,zDa] at h0 ⊢
 by_cases e:i=j
 ·subst e;simp [hj,A3,hv]
 ·rw [zCt e,zCt e];exact h0
theorem Iv.later {P:Program} {g:Nat} {lb:Array Value} {encs:List (Array Value)} {G0 Rd:Nat -> Prop} {w w':World} (h:Iv P g lb encs G0 Rd w) {S:Nat -> Prop} (hu:AO S w w') (hs: ∀ b,b<w.heap.size -> S b -> ¬ (G0 b∨Rd b)):Iv P g lb encs G0 Rd w':=
 fun l J Jx G W h1 h2 h3=>h l J Jx G W h1 h2 (hu.mono (fun i hi hx=>hs i hi hx) |>.trans h3)
theorem Ab.out {w w':World} {p:AJ} {n:Nat} {R R':Nat -> Value -> Prop} (h:Ab w p n R) (hb:w'.heap[p.blk]? =w.heap[p.blk]?) (hR: ∀ j u,j<n -> R j u -> R' j u):Ab w' p n R':=by
 obtain ⟨h1,cs,t,h2,h3,h4,h5⟩:=h;exact ⟨h1,cs,t,hb.trans h2,h3,h4,fun j hj=>let ⟨u,g1,g2⟩:=h5 j hj;⟨u,g1,hR j u hj g2⟩⟩
theorem Ab.cell {w:World} {p:AJ} {n:Nat} {R:Nat -> Value -> Prop} (h:Ab w p n R) {j:Nat} (hj:j<n): ∃ u,w.cell? ⟨p.blk,p.off+j,none⟩=some u/\ R j u:=by
 obtain ⟨h1,cs,t,h2,h3,h4,h5⟩:=h;obtain ⟨u,g1,g2⟩:=h5 j hj;exact ⟨u,by unfold World.cell?;simp [h2,g1],g2⟩
theorem Ab.frozen {w:World} {p:AJ} {n:Nat} {R:Nat -> Value -> Prop} (h:Ab w p n R) (o:Nat):w.frozen? ⟨p.blk,o,none⟩=false:=by
 obtain ⟨h1,cs,t,h2,_⟩:=h;unfold World.frozen?;simp [h2]
theorem DU.out {P:Program} {M M':Nat -> Prop} {w w':World} {ρ ρ':List AJ} {p:AJ} {o:DO} (h:DU P M w ρ p o) (H:BV M w ρ M' w' ρ') {S:Nat -> Prop} (hu:AO S w w') (hS: ∀ b,S b -> M b) (hf: ∀ b,b<w.heap.size -> p.foot b -> ¬ S b):DU P M' w' ρ' p o:=by
 have hb: ∀ {n R},Ab w p n R -> w'.heap[p.blk]? =w.heap[p.blk]? :=fun {n R} hr=>by
  obtain ⟨h1,cs,t,h2,_⟩:=hr;have AL:=(zCl.1 h2).1;exact hu.block _ AL (hf _ AL (by rw [h1]))
 cases o with
 | cells l=>exact Ab.out h (hb h) fun j u _ hr=>AK.out _ H hr
 | ints l=>exact Ab.out h (hb h) fun j u _ hr=>hr
 | bools l=>exact Ab.out h (hb h) fun j u _ hr=>hr
 | arr m n f=>exact Ab.out h (hb h) fun j u _ hr=>AK.out _ H.nil hr
 | iter encs=>
  obtain ⟨gf,lb,Rd,h1,h2,h3,h4⟩:=h;refine ⟨gf,lb,Rd,h1,h2.later hu (fun b hb hs hx=>?_),fun b hb=>⟨fun hm=>(H.m b hm).elim (h3 b hb).1 (by have:=(h3 b hb).2;omega),zCu (h3 b hb).2 hu.size⟩,fun b hb=>zCu (h4 b hb) hu.size⟩;rcases hx with hx | hx
  ·exact hf b hb hx hs
  ·exact (h3 b hx).1 (hS b hs)
 | mo x=>exact Ly.out h fun b hb AL=>hu.block b AL (hf b AL hb)
section
variable {P:Program} {Γ:A1} {N:Nat -> Prop} {h:DH} {ρ:List AJ} {w:World}
theorem MO.unset {k:Nat} {b:Nat} (hm:MO (h.set k none) ρ b):MO h ρ b:=by
 obtain ⟨i,o,p,h1,h2,h3⟩:=hm;rw [zDP] at h1
 by_cases e:k=i
 ·rw [zB3 e] at h1;split at h1 <;> cases h1
 ·rw [zCt e] at h1;exact ⟨i,o,p,h1,h2,h3⟩
theorem BP.lt (H:BP P Γ N h ρ w) {b:Nat} (hb:MS N h ρ b):b<w.heap.size:=by
 rcases hb with hb | ⟨k,o,p,h1,h2,h3⟩
 ·exact (H.nlt b hb).1
 ·obtain ⟨_,_,c,t,z,h4⟩:=H.cel k o p b h1 h2 h3;exact (zCl.1 h4).1
theorem BP.low (H:BP P Γ N h ρ w) {b:Nat} (hb:MO h ρ b):Γ.ng<=b:=by
 obtain ⟨k,o,p,h1,h2,h3⟩:=hb;exact (H.cel k o p b h1 h2 h3).1
theorem BP.lt2 (H:BP P Γ N h ρ w) {b:Nat} (hb:MS N h ρ b):b<w.heap.size/\ Γ.ng<=b:=⟨H.lt hb,hb.elim (fun h=>(H.nlt b h).2) H.low⟩
theorem BP.ext (H:BP P Γ N h ρ w) {w':World} (hE:Ar w w'):BP P Γ N h ρ w':=by
 have O:BV (MS N h ρ) w ρ (MS N h ρ) w' ρ:=⟨fun b hb _ _=>zFE hE b hb,fun b h=>.inl h,fun _ _ h=>h⟩;refine ⟨H.len,fun k o hk=>?_,fun k o p b h1 h2 h3=>?_,H.dis,fun b hb=>⟨zCu (H.nlt b hb).1 hE.size,(H.nlt b hb).2⟩,Γ.st _ _ H.gi (AO.ofExt hE)⟩
 ·obtain ⟨p,hp,ho⟩:=H.obj k o hk;exact ⟨p,hp,ho.out O (S:=fun _=>False) (AO.ofExt hE) (fun _ h=>h.elim) (fun _ _ _ h=>h)⟩
 ·obtain ⟨g1,g2,c,t,z,g3⟩:=H.cel k o p b h1 h2 h3;exact ⟨g1,g2,c,t,z,(zFE hE b (zCl.1 g3).1).trans g3⟩
theorem BV.ext {M:Nat -> Prop} {w w':World} (ρ:List AJ) (hE:Ar w w'):BV M w ρ M w' ρ:=⟨fun b hb _ _=>zFE hE b hb,fun b h=>.inl h,fun _ _ h=>h⟩
theorem BH.ext {w w':World} (hE:Ar w w'):BH h ρ w h ρ w':=⟨AO.ofExt hE,fun _ h=>.inl h⟩
theorem Dd {α:Type} {l:List α} {x y:α} {k:Nat} (hk:(l++[x])[k]? =some y):(k<l.length/\ l[k]? =some y)∨(k=l.length/\ x=y):=by
 rcases Nat.lt_trichotomy k l.length with hl | hl | hl
 ·rw [zC8 hl] at hk;exact .inl ⟨hl,hk⟩
 ·subst hl;simp at hk;exact .inr ⟨rfl,hk⟩
 ·rw [zDJ (by omega)] at hk;have:k-l.length≠0:=by omega
  cases e:k-l.length with
  | zero=>omega
  | succ m=>rw [e] at hk;simp at hk
theorem Dz {α:Type} {l:List α} {x y:α} {k:Nat} (hk:l[k]? =some y):(l++[x])[k]? =some y:=by
 rw [zC8 (zCr.1 hk).1];exact hk
theorem MO.snoc (H:BP P Γ N h ρ w) {o:DO} {p:AJ} {b:Nat} (hb:MO (h++[some o]) (ρ++[p]) b):MO h ρ b∨p.foot b:=by
 obtain ⟨k,o',p',h1,h2,h3⟩:=hb;rcases Dd h1 with ⟨hl,h1⟩ | ⟨hl,h1⟩
 ·rcases Dd h2 with ⟨_,h2⟩ | ⟨Cd,_⟩
  ·exact .inl ⟨k,o',p',h1,h2,h3⟩
  ·rw [Cd,H.len] at hl;omega
 ·rcases Dd h2 with ⟨Cd,_⟩ | ⟨_,h2⟩
  ·rw [H.len,←hl] at Cd;omega
  ·subst h2;exact .inr h3
theorem BP.snoc (H:BP P Γ N h ρ w) {w':World} (hE:Ar w w') {o:DO} {p:AJ} (hf: ∀ b,p.foot b -> w.heap.size<=b/\ DW w' b)
 (ho:DU P (MS N (h++[some o]) (ρ++[p])) w' (ρ++[p]) p o):BP P Γ N (h++[some o]) (ρ++[p]) w':=by
 have O:BV (MS N h ρ) w ρ (MS N (h++[some o]) (ρ++[p])) w' (ρ++[p]):=by
  refine ⟨fun b hb _ _=>zFE hE b hb,fun b hb=>?_,fun k q hk=>Dz hk⟩;rcases hb with hb | hb
  ·exact .inl (.inl hb)
  ·rcases MO.snoc H hb with hb | hb
   ·exact .inl (.inr hb)
   ·exact .inr (hf b hb).1
 refine ⟨by simp [H.len],fun k o' hk=>?_,fun k o' p' b h1 h2 h3=>?_,fun k k' o1 o2 p1 p2 b AY h1 h2 h3 h4 h5 h6=>?_,fun b hb=>⟨zCu (H.nlt b hb).1 hE.size,(H.nlt b hb).2⟩,Γ.st _ _ H.gi (AO.ofExt hE)⟩
 ·rcases Dd hk with ⟨hl,hk⟩ | ⟨hl,hk⟩
  ·obtain ⟨p',hp,hr⟩:=H.obj k o' hk;exact ⟨p',Dz hp,hr.out O (S:=fun _=>False) (AO.ofExt hE) (fun _ h=>h.elim) (fun _ _ _ h=>h)⟩
  ·cases hk;exact ⟨p,by rw [hl,←H.len];simp,ho⟩
 ·rcases Dd h1 with ⟨hl,h1⟩ | ⟨hl,h1⟩
  ·rcases Dd h2 with ⟨_,h2⟩ | ⟨Cd,_⟩
   ·obtain ⟨g1,g2,c,t,z,g3⟩:=H.cel k o' p' b h1 h2 h3;exact ⟨g1,g2,c,t,z,(zFE hE b (zCl.1 g3).1).trans g3⟩
   ·rw [Cd,H.len] at hl;omega
  ·rcases Dd h2 with ⟨Cd,_⟩ | ⟨_,h2⟩
   ·rw [H.len,←hl] at Cd;omega
   ·subst h2;obtain ⟨g1,g2⟩:=hf b h3;exact ⟨zCv (Γ.lo _ H.gi) g1,fun hn=>by have:=H.nlt b hn;omega,g2⟩
 ·have FF: ∀ {k:Nat} {o':DO} {p':AJ},(h++[some o])[k]? =some (some o') -> (ρ++[p])[k]? =some p' -> p'.foot b -> k≠h.length -> b<w.heap.size:=by
   intro k o' p' h1 h2 h3 AY;rcases Dd h1 with ⟨hl,h1⟩ | ⟨hl,h1⟩
   ·rcases Dd h2 with ⟨_,h2⟩ | ⟨Cd,_⟩
    ·exact H.lt (.inr ⟨k,o',p',h1,h2,h3⟩)
    ·rw [Cd,H.len] at hl;omega
   ·exact absurd hl AY
  have gm: ∀ {k:Nat} {o':DO} {p':AJ},(h++[some o])[k]? =some (some o') -> (ρ++[p])[k]? =some p' -> p'.foot b -> k=h.length -> w.heap.size<=b:=by
   intro k o' p' h1 h2 h3 he;rcases Dd h2 with ⟨Cd,_⟩ | ⟨_,h2⟩
   ·rw [H.len,←he] at Cd;omega
   ·subst h2;exact (hf b h3).1
  by_cases e1:k=h.length
  ·by_cases e2:k'=h.length
   ·exact AY (e1.trans e2.symm)
   ·have:=gm h1 h3 h5 e1;have:=FF h2 h4 h6 e2;omega
  ·by_cases e2:k'=h.length
   ·have:=FF h1 h3 h5 e1;have:=gm h2 h4 h6 e2;omega
   ·rcases Dd h1 with ⟨_,h1⟩ | ⟨hl,_⟩
    ·rcases Dd h2 with ⟨_,h2⟩ | ⟨hl,_⟩
     ·rcases Dd h3 with ⟨_,h3⟩ | ⟨hl,_⟩
      ·rcases Dd h4 with ⟨_,h4⟩ | ⟨hl,_⟩
       ·exact H.dis k k' o1 o2 p1 p2 b AY h1 h2 h3 h4 h5 h6
       ·rw [H.len] at hl;exact e2 hl
      ·rw [H.len] at hl;exact e1 hl
     ·exact e2 hl
    ·exact e1 hl
theorem BV.snoc (H:BP P Γ N h ρ w) {w':World} (hE:Ar w w') {o:DO} {p:AJ} (hf: ∀ b,p.foot b -> w.heap.size<=b):BV (MS N h ρ) w ρ (MS N (h++[some o]) (ρ++[p])) w' (ρ++[p]):=by
 refine ⟨fun b hb _ _=>zFE hE b hb,fun b hb=>?_,fun k q hk=>Dz hk⟩;rcases hb with hb | hb
 ·exact .inl (.inl hb)
 ·rcases MO.snoc H hb with hb | hb
  ·exact .inl (.inr hb)
  ·exact .inr (hf b hb)
theorem BH.snoc (H:BP P Γ N h ρ w) {w':World} (hE:Ar w w') {o:DO} {p:AJ} (hf: ∀ b,p.foot b -> w.heap.size<=b):BH h ρ w (h++[some o]) (ρ++[p]) w':=
 ⟨AO.ofExt hE,fun b hb=>(MO.snoc H hb).imp id (hf b)⟩
theorem MO.set {k:Nat} {o o':DO} (hk:h[k]? =some (some o)) {b:Nat}:MO (h.set k (some o')) ρ b↔MO h ρ b:=by
 have hl:=(zCr.1 hk).1;constructor
 ·rintro ⟨i,o1,p,h1,h2,h3⟩;rw [zDP] at h1
  by_cases e:k=i
  ·subst e;exact ⟨k,o,p,hk,h2,h3⟩
  ·rw [zCt e] at h1;exact ⟨i,o1,p,h1,h2,h3⟩
 ·rintro ⟨i,o1,p,h1,h2,h3⟩
  by_cases e:k=i
  ·subst e;exact ⟨k,o',p,by simp [hl],h2,h3⟩
  ·exact ⟨i,o1,p,by rw [zDP,zCt e];exact h1,h2,h3⟩
theorem MS.set {k:Nat} {o o':DO} (hk:h[k]? =some (some o)) {b:Nat}:MS N (h.set k (some o')) ρ b↔MS N h ρ b:=by unfold MS;rw [MO.set hk]
theorem BP.write (H:BP P Γ N h ρ w) {w':World} {k:Nat} {o o':DO} {p:AJ} (hk:h[k]? =some (some o)) (hp:ρ[k]? =some p) (hu:AO p.foot w w')
 (hc: ∀ b,p.foot b -> DW w' b) (ho:DU P (MS N (h.set k (some o')) ρ) w' ρ p o'):BP P Γ N (h.set k (some o')) ρ w':=by
 have hl:=(zCr.1 hk).1;have hM: ∀ b,p.foot b -> MS N h ρ b:=fun b hb=>.inr ⟨k,o,p,hk,hp,hb⟩
 have O:BV (MS N h ρ) w ρ (MS N (h.set k (some o')) ρ) w' ρ:=⟨fun b hb hm _=>hu.block b hb fun hx=>hm (hM b hx),fun b hb=>.inl ((MS.set hk).1 hb),fun _ _ h=>h⟩;have Ic: ∀ {i:Nat} {o1:DO},i≠k -> (h.set k (some o'))[i]? =some (some o1) -> h[i]? =some (some o1):=fun {i} {o1} AY h1=>by rw [zDP,zCt (zEy AY)] at h1;exact h1
 refine ⟨by simp [H.len],fun i o1 hi=>?_,fun i o1 p1 b h1 h2 h3=>?_,fun i i' o1 o2 p1 p2 b AY h1 h2 h3 h4 h5 h6=>?_,fun b hb=>⟨zCu (H.nlt b hb).1 hu.size,(H.nlt b hb).2⟩,Γ.st _ _ H.gi (hu.mono fun b _ hb=>(H.cel k o p b hk hp hb).1)⟩
 ·by_cases e:i=k
  ·subst e;have:o'=o1:=by simp [hl] at hi;exact hi
   subst this;exact ⟨p,hp,ho⟩
  ·obtain ⟨p1,LU,hr⟩:=H.obj i o1 (Ic e hi);exact ⟨p1,LU,hr.out O hu hM fun b _ h1 h2=>H.dis i k o1 o p1 p b e (Ic e hi) hk LU hp h1 h2⟩
 ·by_cases e:i=k
  ·subst e;have:p=p1:=zCq (hp.symm.trans h2);subst this;obtain ⟨g1,g2,_⟩:=H.cel i o p b hk hp h3;exact ⟨g1,g2,hc b h3⟩
  ·obtain ⟨g1,g2,c,t,z,g3⟩:=H.cel i o1 p1 b (Ic e h1) h2 h3;refine ⟨g1,g2,c,t,z,(hu.block b (zCl.1 g3).1 fun hx=>H.dis i k o1 o p1 p b e (Ic e h1) hk h2 hp h3 hx).trans g3⟩
 ·have FF: ∀ {i:Nat} {o1:DO},(h.set k (some o'))[i]? =some (some o1) -> ∃ o2,h[i]? =some (some o2):=fun {i} {o1} h1=>by
   by_cases e:i=k
   ·subst e;exact ⟨o,hk⟩
   ·exact ⟨o1,Ic e h1⟩
  obtain ⟨q1,g1⟩:=FF h1;obtain ⟨q2,g2⟩:=FF h2;exact H.dis i i' q1 q2 p1 p2 b AY g1 g2 h3 h4 h5 h6
theorem BV.write (hN:True) {w':World} {k:Nat} {o o':DO} {p:AJ} (hk:h[k]? =some (some o)) (hp:ρ[k]? =some p) (hu:AO p.foot w w'):BV (MS N h ρ) w ρ (MS N (h.set k (some o')) ρ) w' ρ:=
 ⟨fun b hb hm _=>hu.block b hb fun hx=>hm (.inr ⟨k,o,p,hk,hp,hx⟩),fun b hb=>.inl ((MS.set hk).1 hb),fun _ _ h=>h⟩
theorem BH.write {w':World} {k:Nat} {o o':DO} {p:AJ} (hk:h[k]? =some (some o)) (hp:ρ[k]? =some p) (hu:AO p.foot w w'):BH h ρ w (h.set k (some o')) ρ w':=
 ⟨hu.mono fun b _ hb=>⟨k,o,p,hk,hp,hb⟩,fun b hb=>.inl ((MO.set hk).1 hb)⟩
end
end Go.Proofs.YtgkhhfnhacibcaaGreatDoor
namespace Go.Proofs.YtgkhhfnhacibcaaGreatDoor
abbrev zCz:=@Nat.not_lt_zero
abbrev zDH:=@decide_eq_true_eq
abbrev zDT:=@Bool.not_eq_true'
abbrev zDY:=@Go.run_underlying
abbrev zDb:=@Nat.add_assoc
abbrev zDm:=@Option.some.injEq
abbrev zDz:=@bne_iff_ne
abbrev zD5:=@Nat.mul_le_mul_right
abbrev zD7:=@Prod.mk.injEq
abbrev zEF:=@Nat.add_mul
abbrev zEL:=@Nat.mul_comm
abbrev zEZ:=@Nat.add_zero
abbrev zEf:=@Array.eq_empty_of_size_eq_zero
abbrev zEz:=@Nat.succ_mul
abbrev zE0:=@Nat.mod_eq_of_lt
abbrev zE1:=@Go.Sem.run_pure
abbrev zE7:=@Option.isSome_iff_exists
end Go.Proofs.YtgkhhfnhacibcaaGreatDoor
namespace Go.Proofs.YtgkhhfnhacibcaaGreatDoor
open Go.RowKit
def FZ:Value -> DV
 | .int k n=>.int k n
 | .bool b=>.bool b
 | .string s=>.str s
 | .slice none 0 0=>.nils
 | v=>if v.oneCell' then .cst v else .any
def Aa (fr:List DV):Operand -> DV
 | .tmp t=>fr.getD t .any
 | .const v=>FZ v
 | .global _=>.any
 | .func f=>.fn f 0 fun _=>.any
def IU (P:Program) (t:TypeId):Bool:=match P.underlying t with
 | some (.struct _)=>true
 | some (.array _ _)=>true
 | _=>false
def NT (P:Program) (t:TypeId) (m:Nat):Bool:=match P.underlying t with
 | some (.slice e)=>match P.info? e with
  | some i=>i.size==m&&m != 0
  | none=>false
 | _=>false
def GE (P:Program) (t:TypeId):Bool:=(P.underlying t).isSome&&!IU P t
def TL (P:Program) (t:TypeId) (m:Nat):Bool:=IU P t&&(match P.info? t with | some i=>i.size==m | none=>false)
def WI (P:Program) (s:TypeId) (f:Nat):Option (Nat×Nat):=match P.underlying s with
 | some (.struct fs)=>match fs[f]? with
  | some fd=>match P.info? fd.type with
   | some i=>if i.size=0 then none else some (fd.offset,i.size)
   | none=>none
  | none=>none
 | _=>none
def TE (P:Program) (t:TypeId):Option (Nat×Nat):=match P.underlying t with
 | some (.array n e)=>match P.info? e with
  | some i=>if n<=1 then none else some (n,i.size)
  | none=>none
 | _=>none
def ZH (P:Program) (t:TypeId):Option IntKind:=match P.underlying t with
 | some (.int k)=>some k
 | _=>none
def Wq (op:BinOp) (k:IntKind) (a b:Int):Option (DV×Prop):=match op with
 | .add=>some (.int k (k.wrap (a+b)),True)
 | .sub=>some (.int k (k.wrap (a-b)),True)
 | .mul=>some (.int k (k.wrap (a*b)),True)
 | .and=>some (.int k (bits .and k a b),True)
 | .or=>some (.int k (bits .or k a b),True)
 | .xor=>some (.int k (bits .xor k a b),True)
 | .andNot=>some (.int k (bits .andNot k a b),True)
 | .eql=>some (.bool (a==b),True)
 | .neq=>some (.bool (a != b),True)
 | .lss=>some (.bool (decide (a<b)),True)
 | .leq=>some (.bool (decide (a<=b)),True)
 | .gtr=>some (.bool (decide (a>b)),True)
 | .geq=>some (.bool (decide (a>=b)),True)
 | _=>none
def Pc (P:Program) (t:TypeId):Nat:=match P.underlying t with
 | some .bool=>1
 | some (.slice _)=>2
 | _=>0
def Wr (bt:Nat) (op:BinOp) (x y:DV):Option (DV×Prop):=match op,x,y with
 | .eql,.bool a,.bool b=>if bt=1 then some (.bool (a==b),True) else none
 | .neq,.bool a,.bool b=>if bt=1 then some (.bool (!(a==b)),True) else none
 | .eql,.ints l,.nils=>if bt=2 then some (.bool false,0<l.length) else none
 | .eql,.bools l,.nils=>if bt=2 then some (.bool false,0<l.length) else none
 | .neq,.ints l,.nils=>if bt=2 then some (.bool true,0<l.length) else none
 | .shl,.int k a,.int _ b=>some (.int k (k.wrap (a*2 ^ b.toNat)),0<=b/\ b<=k.bits)
 | .shr,.int k a,.int _ b=>some (.int k (a/2 ^ b.toNat),0<=b/\ b<=k.bits)
 | .quo,.int k a,.int k' b=>if k=k' then some (.int k (k.wrap (a.tdiv b)),b≠0) else none
 | .rem,.int k a,.int k' b=>if k=k' then some (.int k (a.tmod b),b≠0) else none
 | op,.int k a,.int k' b=>if k=k' then Wq op k a b else none
 | _,_,_=>none
def Mr (P:Program) (S:St) (t:TypeId):DV -> Option (DV×Prop)
 | .fp m f=>if GE P t then (if m=0 then none else some (f 0,True)) else if TL P t m then some (.agg m f,True) else none
 | .ref k j=>match S.h[k]? with
  | some (some (.cells l))=>if GE P t then (if j<l.length then some (l.getD j .any,True) else none)
   else match P.info? t with
    | some i=>if IU P t&&decide (j+i.size<=l.length) then some (.agg i.size (GU i.size fun c=>l.getD (j+c) .any),True) else none
    | none=>none
  | _=>none
 | .mp k m i j=>match S.h[k]? with
  | some (some (.ints l))=>if GE P t&&(m==1)&&(j==0) then some (.int .i64 (l.getD i 0),i<l.length) else none
  | some (some (.bools l))=>if GE P t&&(m==1)&&(j==0) then some (.bool (l.getD i false),i<l.length) else none
  | some (some (.arr m' n f))=>if GE P t&&(m==m')&&decide (j<m) then some (f i j,i<n)
   else if TL P t m&&(m==m')&&(j==0) then some (.agg m (f i),i<n) else none
  | some (some (.mo (.sets _ ls _)))=>if GE P t&&(m==1)&&(j==0) then some (.mri k i,i<ls.length) else none
  | some (some (.mo (.rws ls none)))=>if GE P t&&(m==1)&&(j==0) then some (.mri k (i+1),i<ls.length) else none
  | _=>none
 | _=>none
def ZP (P:Program) (t:TypeId) (x:DV) (n:Int):Option (DV×Prop):=match x with
 | .ints l=>if NT P t 1 then some (.fp 1 (fun _=>.int .i64 (l.getD n.toNat 0)),0<=n/\ n<l.length) else none
 | .bools l=>if NT P t 1 then some (.fp 1 (fun _=>.bool (l.getD n.toNat false)),0<=n/\ n<l.length) else none
 | .sl m c f=>if NT P t m then some (.fp m (f n.toNat),0<=n/\ n<c) else none
 | .msl k m off c=>if NT P t m then some (.mp k m (off+n.toNat) 0,0<=n/\ n<c) else none
 | .ref k j=>match TE P t with
  | some (len,sz)=>some (.ref k (j+n.toNat*sz),0<=n/\ n<len)
  | none=>none
 | .mp k m i 0=>match TE P t with
  | some (len,sz)=>if sz=m then some (.mp k m (i+n.toNat) 0,0<=n/\ n<len) else none
  | none=>none
 | .fp m f=>match TE P t with
  | some (len,sz)=>if n.toNat*sz+sz<=m then some (.fp sz (GU sz fun j=>f (n.toNat*sz+j)),0<=n/\ n<len) else none
  | none=>none
 | _=>none
def U9 (P:Program) (t:TypeId) (d:DV):Option (DV×Prop):=match P.underlying t,d with
 | some (.slice _),.nils=>some (.int .i64 0,True)
 | some (.slice _),.ints l=>some (.int .i64 l.length,True)
 | some (.slice _),.bools l=>some (.int .i64 l.length,True)
 | some (.slice _),.sl _ n _=>some (.int .i64 n,True)
 | some (.slice _),.msl _ _ _ n=>some (.int .i64 n,True)
 | some .string,.str s=>some (.int .i64 s.size,True)
 | _,_=>none
def Yk (x y:DV):Option (DV×Prop):=match x,y with
 | .int k a,.int _ b=>some (.int k (if b>a then b else a),True)
 | _,_=>none
def Yj (x y:DV):Option (DV×Prop):=match x,y with
 | .int k a,.int _ b=>some (.int k (if b<a then b else a),True)
 | _,_=>none
def Wo (P:Program) (S:St) (b:Builtin) (args:List Operand) (nj:List TypeId):Option (DV×Prop):=match b with
 | .len=>match args with
  | [x]=>match nj with
   | [t]=>U9 P t (Aa S.fr x)
   | _=>none
  | _=>none
 | .max=>match args with
  | [x,y]=>Yk (Aa S.fr x) (Aa S.fr y)
  | _=>none
 | .min=>match args with
  | [x,y]=>Yj (Aa S.fr x) (Aa S.fr y)
  | _=>none
 | _=>none
def pop (P:Program) (S:St):Op -> Option (DV×Prop)
 | .move x=>some (Aa S.fr x,True)
 | .assign x=>some (Aa S.fr x,True)
 | .pick c a b=>match Aa S.fr c with
  | .bool true=>some (Aa S.fr a,True)
  | .bool false=>some (Aa S.fr b,True)
  | _=>none
 | .load t x=>Mr P S t (Aa S.fr x)
 | .binOp op t x y _=>Wr (Pc P t) op (Aa S.fr x) (Aa S.fr y)
 | .unOp op _ x=>match op,Aa S.fr x with
  | .not,.bool b=>some (.bool !b,True)
  | .neg,.int k n=>some (.int k (k.wrap (0-n)),True)
  | .xor,.int k n=>some (.int k (bits .xor k (if k.signed then-1 else k.max) n),True)
  | _,_=>none
 | .convert s d x=>match P.underlying s,ZH P d,Aa S.fr x with
  | some _,some k,.int _ n=>some (.int k (k.wrap n),True)
  | _,_,_=>none
 | .nilCheck x=>match Aa S.fr x with
  | .fp m f=>some (.fp m f,True)
  | .ref k j=>some (.ref k j,True)
  | .mp k m i j=>some (.mp k m i j,True)
  | .fn g m c=>some (.fn g m c,True)
  | _=>none
 | .fieldAddr s x f=>match WI P s f with
  | some (off,sz)=>match Aa S.fr x with
   | .fp m g=>if off+sz<=m then some (.fp sz (GU sz fun j=>g (off+j)),True) else none
   | .ref k j=>some (.ref k (j+off),True)
   | .mp k m i j=>some (.mp k m i (j+off),True)
   | _=>none
  | none=>none
 | .indexAddr t x i=>match Aa S.fr i with
  | .int _ n=>ZP P t (Aa S.fr x) n
  | _=>none
 | .extract x i=>match Aa S.fr x with
  | .tup m f=>if i<m then some (f i,True) else none
  | _=>none
 | .makeFunc (.func g) first c=>if first.size=0 then some (.fn g c.size (GU c.size fun j=>Aa S.fr (c.getD j (.const undef))),True) else none
 | .call c=>match c.callee with
  | .builtin b=>Wo P S b c.args.toList c.argTypes.toList
  | _=>none
 | _=>none
section
variable {P:Program} {Γ:A1} {N:Nat -> Prop} {S:St} {ρ:List AJ} {a:Act} {w:World}
theorem RA {M:Nat -> Prop} (v:Value):AK M w (FZ v) ρ v:=by
 unfold FZ;split
 ·rfl
 ·rfl
 ·rfl
 ·rfl
 ·split
  ·exact ⟨rfl,by assumption⟩
  ·trivial
theorem Bo (R:Ac P Γ N S ρ a w) (x:Operand):AK (MS N S.h ρ) w (Aa S.fr x) ρ (a.eval x):=by
 cases x with
 | tmp t=>exact R.fr.at t
 | const v=>exact RA v
 | global g=>trivial
 | func f=>exact ⟨#[],rfl,rfl,fun j hj=>absurd hj (zCz j)⟩
theorem QX {t:TypeId} {d:TypeDesc} (h:P.underlying t=some d):(isAgg t).run P w= .ok (IU P t) w:=by
 unfold isAgg IU;rw [zC3,zDY h];simp only [Result.andThen,h];cases d <;> rfl
theorem I4 {t:TypeId} {i:TypeInfo} (h:P.info? t=some i):(sizeOf t).run P w= .ok i.size w:=by
 rw [run_sizeOf w h];unfold Program.cellsOf;rw [h];rfl
theorem qp {t:TypeId} {b:Addr} {u:Value} (h:GE P t=true) (hc:w.cell? b=some u):(loadVar t b).run P w= .ok u w:=by
 unfold GE at h;simp only [zCp,zE7,zDT] at h;obtain ⟨⟨d,hd⟩,hn⟩:=h;unfold loadVar;rw [zC3,QX hd];simp only [Result.andThen,hn,zDU,zER];simp [load,Sem.run,hc]
theorem ib {t:TypeId} (h:IU P t=true): ∃ d,P.underlying t=some d:=by
 unfold IU at h;split at h
 ·exact ⟨_,by assumption⟩
 ·exact ⟨_,by assumption⟩
 ·cases h
theorem qq {t:TypeId} {b o:Nat} {i:TypeInfo} (h:IU P t=true) (hi:P.info? t=some i) (g:Nat -> Value) (hc: ∀ j,j<i.size -> w.cell? ⟨b,o+j,none⟩=some (g j)):
 (loadVar t ⟨b,o,none⟩).run P w= .ok (.agg ((List.range i.size).map g).toArray) w:=by
 obtain ⟨d,hd⟩:=ib h;unfold loadVar;rw [zC3,QX hd];simp only [Result.andThen,h,zDj];rw [zC3,I4 hi];simp only [Result.andThen]
 rw [zC3,run_loadCells w ⟨b,o,none⟩ i.size g (fun j hj=>by
  have:=hc j hj;unfold Addr.add
  by_cases e:j=0
  ·subst e;simpa using this
  ·simpa [e] using this)]
 simp [Result.andThen]
def Keep (N:Nat -> Prop) (w W:World):Prop:=∀ b o u,¬ N b -> w.cell? ⟨b,o,none⟩=some u -> W.cell? ⟨b,o,none⟩=some u
theorem Keep.ofExt {N:Nat -> Prop} {w W:World} (h:Ar w W):Keep N w W:=fun _ _ _ _ hc=>h.cell hc
def Yl (P:Program) (N:Nat -> Prop) (w:World) (M:Nat -> Prop) (ρ:List AJ) (s:Sem Value) (d:DV):Prop:=∃ v,(∀ W,Keep N w W -> s.run P W= .ok v W)/\ AK M w d ρ v
theorem OE {k:Nat} {o:DO} {p:AJ} {n:Nat} {Rw:Nat -> Value -> Prop} (R:Ac P Γ N S ρ a w) (hk:S.h[k]? =some (some o)) (hp:ρ[k]? =some p) (hr:Ab w p n Rw): ¬ N p.blk:=(R.hr.cel k o p p.blk hk hp (by rw [hr.1])).2.1
theorem V9 {M:Nat -> Prop} {m:Nat} {f:Nat -> DV} {v:Value} (h:AK M w (.fp m f) ρ v): ∃ b o,v= .pointer (some ⟨b,o,none⟩)/\ ∀ j,j<m -> ¬ M b/\ ∃ u,w.cell? ⟨b,o+j,none⟩=some u/\ AK M w (f j) [] u:=h
theorem OJ {M:Nat -> Prop} {d:DV} {v:Value} (h:AK M w d [] v):AK M w d ρ v:=h.out d ⟨fun _ _ _ _=>rfl,fun _ h=>.inl h,fun k p hk=>by simp at hk⟩
theorem Xz {t:TypeId} {b:Addr} {W:World}:(Instr.loadAt t (.pointer (some b))).run P W=(loadVar t b).run P W:=rfl
theorem Mq {M:Nat -> Prop} {t:TypeId} {b o:Nat} {u:Value} {d:DV} (hN: ¬ N b) (h1:GE P t=true) (hc:w.cell? ⟨b,o,none⟩=some u) (hr:AK M w d ρ u):Yl P N w M ρ (Instr.loadAt t (.pointer (some ⟨b,o,none⟩))) d:=
 ⟨u,fun W hE=>by rw [Xz];exact qp h1 (hE _ _ _ hN hc),hr⟩
theorem Yt {M:Nat -> Prop} {t:TypeId} {i:TypeInfo} {b o:Nat} {f:Nat -> DV} (hN:0<i.size -> ¬ N b) (h1:IU P t=true) (hi:P.info? t=some i) (h: ∀ j,j<i.size -> ∃ u,w.cell? ⟨b,o+j,none⟩=some u/\ AK M w (f j) ρ u):
 Yl P N w M ρ (Instr.loadAt t (.pointer (some ⟨b,o,none⟩))) (.agg i.size f):=by
 obtain ⟨g,hg⟩: ∃ g:Nat -> Value,∀ j,j<i.size -> w.cell? ⟨b,o+j,none⟩=some (g j)/\ AK M w (f j) ρ (g j):=by
  refine ⟨fun j=>(w.cell? ⟨b,o+j,none⟩).getD undef,fun j hj=>?_⟩;obtain ⟨u,h1,h2⟩:=h j hj;simp [h1,h2]
 refine ⟨_,fun W hE=>by rw [Xz];exact qq h1 hi g fun j hj=>hE _ _ _ (hN (by omega)) (hg j hj).1,_,rfl,by simp,fun j hj=>?_⟩;exact ⟨g j,by simp [hj],(hg j hj).2⟩
theorem b7 {t:TypeId} {m:Nat} (h:TL P t m=true):IU P t=true/\ ∃ i,P.info? t=some i/\ i.size=m:=by
 unfold TL at h;simp only [zCp] at h;refine ⟨h.1,?_⟩;have h2:=h.2;split at h2
 ·exact ⟨_,by assumption,by simpa using h2⟩
 ·cases h2
theorem iH (R:Ac P Γ N S ρ a w) {t:TypeId} {x d:DV} {vc:Prop} {v:Value} (hx:AK (MS N S.h ρ) w x ρ v) (h:Mr P S t x=some (d,vc)) (hv:vc):
 Yl P N w (MS N S.h ρ) ρ (Instr.loadAt t v) d:=by
 unfold Mr at h;split at h
 ·rename_i m f;obtain ⟨b,o,rfl,hc⟩:=V9 hx;split at h
  ·rename_i h1;split at h
   ·cases h
   ·cases h;obtain ⟨hM,u,g1,g2⟩:=hc 0 (by omega);exact Mq (fun h=>hM (.inl h)) h1 g1 (OJ g2)
  ·split at h
   ·rename_i h2;cases h;obtain ⟨h3,i,hi,rfl⟩:=b7 h2;exact Yt (fun hp h=>(hc 0 hp).1 (.inl h)) h3 hi fun j hj=>let ⟨_,u,g1,g2⟩:=hc j hj;⟨u,g1,OJ g2⟩
   ·cases h
 ·rename_i k j;obtain ⟨p,hp,rfl⟩:=hx;split at h
  ·rename_i l hk;obtain ⟨p',A2,hr⟩:=R.hr.obj k _ hk;have e:p'=p:=zCq (A2.symm.trans hp);subst e;split at h
   ·rename_i h1;split at h
    ·rename_i hj;cases h;obtain ⟨u,g1,g2⟩:=Ab.cell hr hj;exact Mq (OE R hk hp hr) h1 g1 g2
    ·cases h
   ·split at h
    ·rename_i i hi;split at h
     ·rename_i h2;cases h;simp only [zCp,zDH] at h2;refine Yt (fun _=>OE R hk hp hr) h2.1 hi fun c hc=>?_
      obtain ⟨u,g1,g2⟩:=Ab.cell hr (j:=j+c) (by omega);exact ⟨u,by rw [zDb];exact g1,IA hc g2⟩
     ·cases h
    ·cases h
  ·cases h
 ·rename_i k m i j;obtain ⟨p,hp,rfl⟩:=hx;split at h
  ·rename_i l hk;obtain ⟨p',A2,hr⟩:=R.hr.obj k _ hk;have e:p'=p:=zCq (A2.symm.trans hp);subst e;split at h
   ·rename_i h1;cases h;simp only [zCp,zDB] at h1;obtain ⟨⟨h1,rfl⟩,rfl⟩:=h1;obtain ⟨u,g1,g2⟩:=Ab.cell hr hv;exact Mq (OE R hk hp hr) h1 (by simpa using g1) g2
   ·cases h
  ·rename_i l hk;obtain ⟨p',A2,hr⟩:=R.hr.obj k _ hk;have e:p'=p:=zCq (A2.symm.trans hp);subst e;split at h
   ·rename_i h1;cases h;simp only [zCp,zDB] at h1;obtain ⟨⟨h1,rfl⟩,rfl⟩:=h1;obtain ⟨u,g1,g2⟩:=Ab.cell hr hv;exact Mq (OE R hk hp hr) h1 (by simpa using g1) g2
   ·cases h
  ·rename_i m' n f hk;obtain ⟨p',A2,hr⟩:=R.hr.obj k _ hk;have e:p'=p:=zCq (A2.symm.trans hp);subst e
   have ZN: ∀ {i j:Nat},i<n -> j<m' -> i*m'+j<n*m':=fun {i j} hi hj=>by
    have:(i+1)*m'<=n*m':=zD5 _ hi;rw [zEz] at this;omega
   have dv: ∀ {i j:Nat},j<m' -> (i*m'+j)/m'=i/\ (i*m'+j) % m'=j:=fun {i j} hj=>by
    have hm:0<m':=by omega
    constructor
    ·rw [zEL,Nat.mul_add_div hm,Nat.div_eq_of_lt hj,zEZ]
    ·rw [zEL,Nat.mul_add_mod,zE0 hj]
   split at h
   ·rename_i h1;cases h;simp only [zCp,zDB,zDH] at h1;obtain ⟨⟨h1,rfl⟩,hj⟩:=h1;obtain ⟨u,g1,g2⟩:=Ab.cell hr (ZN hv hj);rw [(dv hj).1,(dv hj).2] at g2;exact Mq (OE R hk hp hr) h1 g1 (OJ g2)
   ·split at h
    ·rename_i h2;cases h;simp only [zCp,zDB] at h2;obtain ⟨⟨h2,rfl⟩,rfl⟩:=h2;obtain ⟨h3,ti,hi,rfl⟩:=b7 h2;refine Yt (fun _=>OE R hk hp hr) h3 hi fun c hc=>?_
     obtain ⟨u,g1,g2⟩:=Ab.cell hr (ZN hv hc);rw [(dv hc).1,(dv hc).2] at g2;exact ⟨u,by simpa [zDb] using g1,OJ g2⟩
    ·cases h
  ·rename_i n ls lk hk;obtain ⟨p',A2,vs,hS⟩:=R.hr.obj k _ hk;have e:p'=p:=zCq (A2.symm.trans hp);subst e;split at h
   ·rename_i h1;cases h;simp only [zCp,zDB] at h1;obtain ⟨⟨h1,rfl⟩,rfl⟩:=h1;obtain ⟨cs,tt,q1,q2,q3,q4⟩:=hS.row;have hi:i<vs.size:=by rw [hS.size];exact hv
    have q5:=q4 i hv;rw [zDQ hi] at q5;refine Mq (u:=vs[i]) (R.hr.cel k _ p' p'.blk hk hp hS.blk).2.1 h1 ?_ ⟨p',vs,hp,hS.val,zDQ hi⟩;unfold World.cell?;simp [q1,q5]
   ·cases h
  ·rename_i ls hk;obtain ⟨p',A2,vs,hS⟩:=R.hr.obj k _ hk;have e:p'=p:=zCq (A2.symm.trans hp);subst e;split at h
   ·rename_i h1;cases h;simp only [zCp,zDB] at h1;obtain ⟨⟨h1,rfl⟩,rfl⟩:=h1;obtain ⟨cs,tt,q1,q2,q3,q4⟩:=hS.row;have hi:i+1<vs.size:=by rw [hS.size];omega
    have q5:=q4 i hv;rw [zDQ hi] at q5;refine Mq (u:=vs[i+1]) (R.hr.cel k _ p' p'.blk hk hp hS.blk).2.1 h1 ?_ ⟨p',vs,hp,hS.val,zDQ hi⟩;unfold World.cell?;simp [q1,q5]
   ·cases h
  ·cases h
 ·cases h
theorem Yl.pure {M:Nat -> Prop} {s:Sem Value} {d:DV} {v:Value} (h: ∀ W,s.run P W= .ok v W) (hr:AK M w d ρ v):Yl P N w M ρ s d:=⟨v,fun W _=>h W,hr⟩
theorem ko {t:TypeId} {m:Nat} (h:NT P t m=true):P.underlying t=some (.slice (P.elem t))/\ (∃ i,P.info? (P.elem t)=some i/\ i.size=m)/\ m≠0:=by
 unfold NT at h;split at h
 ·rename_i e he;have:P.elem t=e:=by unfold Program.elem;rw [he]
  rw [this];refine ⟨he,?_⟩;split at h
  ·simp only [zCp,zDB,zDz] at h;exact ⟨⟨_,by assumption,h.1⟩,h.2⟩
  ·cases h
 ·cases h
theorem bc {t:TypeId} {n m:Nat} (h:TE P t=some (n,m)):P.underlying t=some (.array (P.arrayLen t) (P.elem t))/\ P.arrayLen t=n/\ ∃ i,P.info? (P.elem t)=some i/\ i.size=m:=by
 unfold TE at h;split at h
 ·rename_i n' e he;have h1:P.elem t=e:=by unfold Program.elem;rw [he]
  have h2:P.arrayLen t=n':=by unfold Program.arrayLen;rw [he]
  rw [h1,h2];split at h
  ·split at h
   ·cases h
   ·cases h;exact ⟨he,rfl,_,by assumption,rfl⟩
  ·cases h
 ·cases h
theorem Iu (b o n:Nat):Addr.add ⟨b,o,none⟩ n=⟨b,o+n,none⟩:=by
 unfold Addr.add
 by_cases h:n=0
 ·subst h;rfl
 ·simp [h]
theorem T0 {t:TypeId} {m b o len cap:Nat} {k:IntKind} {n:Int} (h:NT P t m=true) (h1:0<=n) (h2:n<len) (W:World):
 (Instr.indexAt t (.slice (some ⟨b,o,none⟩) len cap) (.int k n)).run P W= .ok (.pointer (some ⟨b,o+n.toNat*m,none⟩)) W:=by
 obtain ⟨hu,⟨i,hi,rfl⟩,_⟩:=ko h;rw [run_indexAt_slice W t _ len cap k n hu,zB3 ⟨h1,h2⟩,I4 hi];simp only [Result.andThen,Iu]
theorem v7 (R:Ac P Γ N S ρ a w) {t:TypeId} {x d:DV} {vc:Prop} {v:Value} {k:IntKind} {n:Int} (hx:AK (MS N S.h ρ) w x ρ v) (h:ZP P t x n=some (d,vc)) (hv:vc):
 Yl P N w (MS N S.h ρ) ρ (Instr.indexAt t v (.int k n)) d:=by
 unfold ZP at h;split at h
 ·rename_i l;obtain ⟨ad,cap,rfl,h1,h2,h3⟩:=hx;split at h
  ·rename_i he;cases h;obtain ⟨b,o,rfl,hM,hc⟩:=h3 n.toNat (by omega);refine Yl.pure (fun W=>T0 he hv.1 hv.2 W) ⟨b,o+n.toNat*1,rfl,fun j hj=>⟨hM,_,?_,rfl⟩⟩;have:j=0:=by omega
   subst this;simpa using hc
  ·cases h
 ·rename_i l;obtain ⟨ad,cap,rfl,h1,h2,h3⟩:=hx;split at h
  ·rename_i he;cases h;obtain ⟨b,o,rfl,hM,hc⟩:=h3 n.toNat (by omega);refine Yl.pure (fun W=>T0 he hv.1 hv.2 W) ⟨b,o+n.toNat*1,rfl,fun j hj=>⟨hM,_,?_,rfl⟩⟩;have:j=0:=by omega
   subst this;simpa using hc
  ·cases h
 ·rename_i m c f;obtain ⟨ad,cap,rfl,h1,h2,h3⟩:=hx;split at h
  ·rename_i he;cases h;have hm:=(ko he).2;obtain ⟨b,o,u,rfl,hM,hc,hr⟩:=h3 n.toNat 0 (by omega) (by omega);refine Yl.pure (fun W=>T0 he hv.1 hv.2 W) ⟨b,o+n.toNat*m,rfl,fun j hj=>?_⟩;obtain ⟨b',o',u',e,zU,Hr,Cy⟩:=h3 n.toNat j (by omega) hj;cases e;exact ⟨zU,u',by rw [zDb];exact Hr,Cy⟩
  ·cases h
 ·rename_i k' m off c;obtain ⟨p,cap,hp,rfl,h1,h2,h3⟩:=hx;split at h
  ·rename_i he;cases h;exact Yl.pure (fun W=>T0 he hv.1 hv.2 W) ⟨p,hp,by rw [zDb,←zEF];rfl⟩
  ·cases h
 ·rename_i k' j;obtain ⟨p,hp,rfl⟩:=hx;split at h
  ·rename_i len sz ha;cases h;obtain ⟨hu,hl,i,hi,rfl⟩:=bc ha;refine Yl.pure (fun W=>?_) ⟨p,hp,rfl⟩;rw [run_indexAt_array W t _ k n hu,zB3 ⟨hv.1,by rw [hl];exact hv.2⟩,I4 hi];simp only [Result.andThen,Iu,zDb]
  ·cases h
 ·rename_i k' m i0;obtain ⟨p,hp,rfl⟩:=hx;split at h
  ·rename_i len sz ha;split at h
   ·rename_i Az;subst Az;cases h;obtain ⟨hu,hl,i,hi,rfl⟩:=bc ha;refine Yl.pure (fun W=>?_) ⟨p,hp,rfl⟩;rw [run_indexAt_array W t _ k n hu,zB3 ⟨hv.1,by rw [hl];exact hv.2⟩,I4 hi];simp only [Result.andThen,Iu,zDb,zEF,zC4,zEZ]
   ·cases h
  ·cases h
 ·rename_i m f;obtain ⟨b,o,rfl,hc⟩:=V9 hx;split at h
  ·rename_i len sz ha;split at h
   ·rename_i Az;cases h;obtain ⟨hu,hl,i,hi,rfl⟩:=bc ha;refine Yl.pure (fun W=>?_) ⟨b,o+n.toNat*i.size,rfl,fun j hj=>?_⟩
    ·rw [run_indexAt_array W t _ k n hu,zB3 ⟨hv.1,by rw [hl];exact hv.2⟩,I4 hi];simp only [Result.andThen,Iu]
    ·obtain ⟨hM,u,h1,h2⟩:=hc (n.toNat*i.size+j) (by omega);exact ⟨hM,u,by rw [zDb];exact h1,IA hj h2⟩
   ·cases h
  ·cases h
 ·cases h
theorem qx {op:BinOp} {k:IntKind} {x y:Int} {d:DV} {vc:Prop} (t:TypeId) (h:Wq op k x y=some (d,vc)) (M:Nat -> Prop):Yl P N w M ρ (binOp op t (.int k x) (.int k y)) d:=by
 cases op <;> simp only [Wq,zDm,zD7,reduceCtorEq] at h <;> obtain ⟨rfl,-⟩:=h
 ·exact Yl.pure (fun W=>by rw [binOp_add];rfl) rfl
 ·exact Yl.pure (fun W=>by rw [binOp_sub];rfl) rfl
 ·exact Yl.pure (fun W=>by rw [binOp_mul];rfl) rfl
 ·exact Yl.pure (fun W=>by rw [binOp_and];rfl) rfl
 ·exact Yl.pure (fun W=>by rw [binOp_or];rfl) rfl
 ·exact Yl.pure (fun W=>by rw [binOp_xor];rfl) rfl
 ·exact Yl.pure (fun W=>by rw [binOp_andNot];rfl) rfl
 ·exact Yl.pure (fun W=>by rw [binOp_eql];rfl) rfl
 ·exact Yl.pure (fun W=>by rw [binOp_neq];rfl) rfl
 ·exact Yl.pure (fun W=>by rw [binOp_lss];rfl) rfl
 ·exact Yl.pure (fun W=>by rw [binOp_leq];rfl) rfl
 ·exact Yl.pure (fun W=>by rw [binOp_gtr];rfl) rfl
 ·exact Yl.pure (fun W=>by rw [binOp_geq];rfl) rfl
theorem zAY {op:BinOp} {t:TypeId} {x y:Operand} {k:IntKind} {n:Int} {v:Value}:eqGuard op t x y (.int k n) v=pure ():=by
 cases op <;> rfl
theorem zBx {M:Nat -> Prop} {op:BinOp} {t:TypeId} {x y:DV} {vx vy:Value} {d:DV} {vc:Prop} (ox oy:Operand) (hx:AK M w x ρ vx) (hy:AK M w y ρ vy) (h:Wr (Pc P t) op x y=some (d,vc)) (hv:vc):
 Yl P N w M ρ (do eqGuard op t ox oy vx vy;binOp op t vx vy) d:=by
 have key: ∀ {k k':IntKind} {n n':Int},vx= .int k n -> vy= .int k' n' -> Yl P N w M ρ (binOp op t (.int k n) (.int k' n')) d -> Yl P N w M ρ (do eqGuard op t ox oy vx vy;binOp op t vx vy) d:=by
  intro k k' n n' e1 e2 hY;subst e1;subst e2;rw [zAY];exact hY
 have hb:Pc P t=1 -> P.underlying t=some .bool:=fun h=>by
  unfold Pc at h;split at h
  ·assumption
  ·cases h
  ·cases h
 have Zf:Pc P t=2 -> ∃ e,P.underlying t=some (.slice e):=fun h=>by
  unfold Pc at h;split at h
  ·cases h
  ·exact ⟨_,by assumption⟩
  ·cases h
 have kb: ∀ {e:TypeId} {a:Addr} {l c:Nat} (W:World),P.underlying t=some (.slice e) -> (do eqGuard .eql t ox oy (.slice (some a) l c) (.slice none 0 0);binOp .eql t (.slice (some a) l c) (.slice none 0 0):Sem Value).run P W= .ok (.bool false) W:=by
  intro e a l c W hu;have h1:eqGuard .eql t ox oy (.slice (some a) l c) (.slice none 0 0)=pure ():=rfl;rw [h1]
  show (binOp .eql t (.slice (some a) l c) (.slice none 0 0)).run P W=_
  simp only [binOp];simp [run_equal_slice_nil W t e (some a) l c hu]
 have t7: ∀ {e:TypeId} {a:Addr} {l c:Nat} (W:World),P.underlying t=some (.slice e) -> (do eqGuard .neq t ox oy (.slice (some a) l c) (.slice none 0 0);binOp .neq t (.slice (some a) l c) (.slice none 0 0):Sem Value).run P W= .ok (.bool true) W:=by
  intro e a l c W hu;have h1:eqGuard .neq t ox oy (.slice (some a) l c) (.slice none 0 0)=pure ():=rfl;rw [h1]
  show (binOp .neq t (.slice (some a) l c) (.slice none 0 0)).run P W=_
  simp only [binOp];simp [run_equal_slice_nil W t e (some a) l c hu]
 unfold Wr at h;split at h
 ·split at h
  ·rename_i e;cases h;have e1:vx= .bool _:=hx;have e2:vy= .bool _:=hy;subst e1;subst e2;exact Yl.pure (fun W=>run_eql_bool W t _ _ (hb e)) rfl
  ·cases h
 ·split at h
  ·rename_i e;cases h;have e1:vx= .bool _:=hx;have e2:vy= .bool _:=hy;subst e1;subst e2;exact Yl.pure (fun W=>run_neq_bool W t _ _ (hb e)) rfl
  ·cases h
 ·split at h
  ·rename_i e;cases h;obtain ⟨e0,he⟩:=Zf e;obtain ⟨ad,cap,rfl,h1,h2,h3⟩:=hx;obtain ⟨b,o,rfl,_⟩:=h3 0 hv;have e2:vy= .slice none 0 0:=hy;subst e2;exact Yl.pure (fun W=>kb W he) rfl
  ·cases h
 ·split at h
  ·rename_i e;cases h;obtain ⟨e0,he⟩:=Zf e;obtain ⟨ad,cap,rfl,h1,h2,h3⟩:=hx;obtain ⟨b,o,rfl,_⟩:=h3 0 hv;have e2:vy= .slice none 0 0:=hy;subst e2;exact Yl.pure (fun W=>kb W he) rfl
  ·cases h
 ·split at h
  ·rename_i e;cases h;obtain ⟨e0,he⟩:=Zf e;obtain ⟨ad,cap,rfl,h1,h2,h3⟩:=hx;obtain ⟨b,o,rfl,_⟩:=h3 0 hv;have e2:vy= .slice none 0 0:=hy;subst e2;exact Yl.pure (fun W=>t7 W he) rfl
  ·cases h
 ·cases h;refine key hx hy ?_;exact Yl.pure (fun W=>by rw [binOp_shl,shift_shl _ _ _ _ hv.1 hv.2];rfl) rfl
 ·cases h;refine key hx hy ?_;exact Yl.pure (fun W=>by rw [binOp_shr,shift_shr _ _ _ _ hv.1 hv.2];rfl) rfl
 ·split at h
  ·rename_i e;subst e;cases h;exact key hx hy (Yl.pure (fun W=>by rw [binOp_quo,Op.intDiv,zCt hv];rfl) rfl)
  ·cases h
 ·split at h
  ·rename_i e;subst e;cases h;exact key hx hy (Yl.pure (fun W=>by rw [binOp_rem,Op.intDiv,zCt hv];rfl) rfl)
  ·cases h
 ·split at h
  ·rename_i e;subst e;exact key hx hy (qx t h M)
  ·cases h
 ·cases h
theorem HF {ρ':Operand -> Value} {o:Oper} {s:Sem Value} {M:Nat -> Prop} {d:DV} (he:execOp ρ' o=(do pure (.value (←s)))) (h:Yl P N w M ρ s d): ∃ v,(∀ W,Keep N w W -> (execOp ρ' o).run P W= .ok (.value v) W)/\ AK M w d ρ v:=by
 obtain ⟨v,h1,h2⟩:=h;refine ⟨v,fun W hE=>?_,h2⟩;rw [he,zC3,h1 W hE];rfl
theorem zAJ {s:TypeId} {f off sz:Nat} (h:WI P s f=some (off,sz)): ∃ fs fd i,P.underlying s=some (.struct fs)/\ fs[f]? =some fd/\ fd.offset=off/\ P.info? fd.type=some i/\ i.size=sz/\ sz≠0:=by
 unfold WI at h;split at h
 ·rename_i fs hs;split at h
  ·rename_i fd hf;split at h
   ·rename_i i hi;split at h
    ·cases h
    ·cases h;exact ⟨fs,fd,i,hs,hf,rfl,hi,rfl,by assumption⟩
   ·cases h
  ·cases h
 ·cases h
theorem X0 {s:TypeId} {f off sz b o:Nat} (h:WI P s f=some (off,sz)) (W:World):(Instr.fieldAt s (.pointer (some ⟨b,o,none⟩)) f).run P W= .ok (.pointer (some ⟨b,o+off,none⟩)) W:=by
 obtain ⟨fs,fd,i,h1,h2,rfl,h4,rfl,h6⟩:=zAJ h;unfold Instr.fieldAt;rw [zC3,zDY h1];simp only [Result.andThen,h2,Instr.sureAddr];simp only [zC3,zE1,Result.andThen,fieldPlace,I4 h4,zCt h6,Iu]
theorem vM {t:TypeId} {k:IntKind} (h:ZH P t=some k):P.underlying t=some (.int k):=by
 unfold ZH at h;split at h
 ·cases h;assumption
 ·cases h
theorem QW {t ty:TypeId} {e:TypeId} {ad:Option Addr} {n c:Nat} (h:P.underlying t=some (.slice e)) (W:World):(Builtin.len_ #[t] ty #[.slice ad n c]).run P W= .ok (.int .i64 n) W:=by
 simp [Builtin.len_,zDY h,goInt]
theorem qr {t ty:TypeId} {s:ByteArray} (h:P.underlying t=some .string) (W:World):(Builtin.len_ #[t] ty #[.string s]).run P W= .ok (.int .i64 s.size) W:=by
 simp [Builtin.len_,zDY h,goInt]
theorem av {M:Nat -> Prop} {ρ':Operand -> Value} {o:Oper} {c:Call} {b:Builtin} {d:DV} {s:Sem Value} (ho:o.op= .call c) (hc:c.callee= .builtin b)
 (hb:builtin b c.argTypes o.type (c.args.map fun | .const _=>true | _=>false) (c.args.map ρ')=(do pure (.value (←s)))) (h:Yl P N w M ρ s d):
 ∃ v,(∀ W,Keep N w W -> (execOp ρ' o).run P W= .ok (.value v) W)/\ AK M w d ρ v:=by
 refine HF (s:=s) ?_ h;rw [←hb];unfold execOp;rw [ho]
 show (resolve ρ' c o.type>>=fun d=>invoke d.target d.args)=_
 unfold resolve;rw [hc];rfl
theorem ue {M:Nat -> Prop} {t ty:TypeId} {x d:DV} {vc:Prop} {v:Value} (hx:AK M w x ρ v) (h:U9 P t x=some (d,vc)):Yl P N w M ρ (Builtin.len_ #[t] ty #[v]) d:=by
 unfold U9 at h;split at h
 ·rename_i e' hu;cases h;rw [show v=_ from hx];exact Yl.pure (fun W=>QW hu W) rfl
 ·rename_i e' l hu;cases h;obtain ⟨ad,cap,rfl,_⟩:=hx;exact Yl.pure (fun W=>QW hu W) rfl
 ·rename_i e' l hu;cases h;obtain ⟨ad,cap,rfl,_⟩:=hx;exact Yl.pure (fun W=>QW hu W) rfl
 ·rename_i e' m n f hu;cases h;obtain ⟨ad,cap,rfl,_⟩:=hx;exact Yl.pure (fun W=>QW hu W) rfl
 ·rename_i e' k m off n hu;cases h;obtain ⟨p,cap,_,rfl,_⟩:=hx;exact Yl.pure (fun W=>QW hu W) rfl
 ·rename_i s hu;cases h;rw [show v=_ from hx];exact Yl.pure (fun W=>qr hu W) rfl
 ·cases h
theorem cu {α:Type} {l:Array α} {x:α} (h:l.toList= [x]):l= #[x]:=by cases l;simp at h;rw [h]
theorem Ta {α:Type} {l:Array α} {x y:α} (h:l.toList= [x,y]):l= #[x,y]:=by cases l;simp at h;rw [h]
theorem zBp (R:Ac P Γ N S ρ a w) (o:Oper) {c:Call} {b:Builtin} {d:DV} {vc:Prop} (ho:o.op= .call c) (hc:c.callee= .builtin b) (h:Wo P S b c.args.toList c.argTypes.toList=some (d,vc)):
 ∃ v,(∀ W,Keep N w W -> (execOp a.eval o).run P W= .ok (.value v) W)/\ AK (MS N S.h ρ) w d ρ v:=by
 have EA:=fun x=>Bo R x
 unfold Wo at h;split at h
 ·split at h
  ·rename_i x ha;split at h
   ·rename_i t ht;exact av (s:=Builtin.len_ #[t] o.type #[a.eval x]) ho hc (by rw [cu ha,cu ht];simp [builtin]) (ue (EA x) h)
   ·cases h
  ·cases h
 ·split at h
  ·rename_i x y ha;have hx:=EA x;have hy:=EA y;unfold Yk at h;split at h
   ·rename_i k n k' n' e1 e2;cases h;rw [e1] at hx;rw [e2] at hy;refine av (s:=Builtin.max_ c.argTypes o.type #[a.eval x,a.eval y]) ho hc (by rw [Ta ha];simp [builtin]) ?_;rw [show a.eval x=_ from hx,show a.eval y=_ from hy];exact Yl.pure (fun W=>by simp [Builtin.max_,Builtin.max2]) rfl
   ·cases h
  ·cases h
 ·split at h
  ·rename_i x y ha;have hx:=EA x;have hy:=EA y;unfold Yj at h;split at h
   ·rename_i k n k' n' e1 e2;cases h;rw [e1] at hx;rw [e2] at hy;refine av (s:=Builtin.min_ c.argTypes o.type #[a.eval x,a.eval y]) ho hc (by rw [Ta ha];simp [builtin]) ?_;rw [show a.eval x=_ from hx,show a.eval y=_ from hy];exact Yl.pure (fun W=>by simp [Builtin.min_,Builtin.min2]) rfl
   ·cases h
  ·cases h
 ·cases h
theorem fm (R:Ac P Γ N S ρ a w) (o:Oper) {d:DV} {vc:Prop} (h:pop P S o.op=some (d,vc)) (hv:vc):
 ∃ v,(∀ W,Keep N w W -> (execOp a.eval o).run P W= .ok (.value v) W)/\ AK (MS N S.h ρ) w d ρ v:=by
 have EA:=fun x=>Bo R x
 unfold pop at h;split at h
 ·rename_i x ho;cases h;exact ⟨a.eval x,fun W _=>by unfold execOp;rw [ho];rfl,EA x⟩
 ·rename_i x ho;cases h;exact ⟨a.eval x,fun W _=>by unfold execOp;rw [ho];rfl,EA x⟩
 ·rename_i c x y ho;have hc:=EA c;split at h
  ·rename_i e;cases h;rw [e] at hc;exact ⟨a.eval x,fun W _=>by unfold execOp;rw [ho];simp only [show a.eval c= .bool true from hc];rfl,EA x⟩
  ·rename_i e;cases h;rw [e] at hc;exact ⟨a.eval y,fun W _=>by unfold execOp;rw [ho];simp only [show a.eval c= .bool false from hc];rfl,EA y⟩
  ·cases h
 ·rename_i t x ho;exact HF (by unfold execOp;rw [ho]) (iH R (EA x) h hv)
 ·rename_i op t x y t' ho;exact HF (by unfold execOp;rw [ho]) (zBx x y (EA x) (EA y) h hv)
 ·rename_i op t x ho;have hx:=EA x;refine HF (s:=Op.unary op (a.eval x)) (by unfold execOp;rw [ho]) ?_;split at h
  ·rename_i b e;cases h;rw [e] at hx;rw [show a.eval x= .bool b from hx];exact Yl.pure (fun W=>rfl) rfl
  ·rename_i k n e;cases h;rw [e] at hx;rw [show a.eval x= .int k n from hx];exact Yl.pure (fun W=>rfl) rfl
  ·rename_i k n e;cases h;rw [e] at hx;rw [show a.eval x= .int k n from hx];exact Yl.pure (fun W=>rfl) rfl
  ·cases h
 ·rename_i ts td x ho;have hx:=EA x;split at h
  ·rename_i dd k k' n hs hd e;cases h;rw [e] at hx;refine HF (s:=convert ts td (a.eval x)) (by unfold execOp;rw [ho]) ?_;rw [show a.eval x= .int k' n from hx];refine Yl.pure (v:=.int k (k.wrap n)) (fun W=>?_) rfl;simp [convert,zDY hs,zDY (vM hd),Conv.intToInt]
  ·cases h
 ·rename_i x ho;have hx:=EA x;split at h
  ·rename_i m f e;cases h;rw [e] at hx;obtain ⟨b,oo,hb,hr⟩:=V9 hx;exact ⟨_,fun W _=>by unfold execOp;rw [ho];simp only [hb];rfl,b,oo,rfl,hr⟩
  ·rename_i k j e;cases h;rw [e] at hx;obtain ⟨p,hp,hb⟩:=hx;exact ⟨_,fun W _=>by unfold execOp;rw [ho];simp only [hb];rfl,p,hp,rfl⟩
  ·rename_i k m i j e;cases h;rw [e] at hx;obtain ⟨p,hp,hb⟩:=hx;exact ⟨_,fun W _=>by unfold execOp;rw [ho];simp only [hb];rfl,p,hp,rfl⟩
  ·rename_i g m c e;cases h;rw [e] at hx;obtain ⟨lb,hb,hr⟩:=hx;exact ⟨_,fun W _=>by unfold execOp;rw [ho];simp only [hb];rfl,lb,rfl,hr⟩
  ·cases h
 ·rename_i st x f ho;have hx:=EA x;split at h
  ·rename_i off sz hf;refine HF (s:=Instr.fieldAt st (a.eval x) f) (by unfold execOp;rw [ho]) ?_;split at h
   ·rename_i m g e;split at h
    ·cases h;rw [e] at hx;obtain ⟨b,oo,hb,hr⟩:=V9 hx;rw [hb];refine Yl.pure (fun W=>X0 hf W) ⟨b,_,rfl,fun j hj=>?_⟩;obtain ⟨g1,u,g2,g3⟩:=hr (off+j) (by omega);exact ⟨g1,u,by rw [zDb];exact g2,IA hj g3⟩
    ·cases h
   ·rename_i k j e;cases h;rw [e] at hx;obtain ⟨p,hp,hb⟩:=hx;rw [hb];exact Yl.pure (fun W=>X0 hf W) ⟨p,hp,by rw [zDb]⟩
   ·rename_i k m i j e;cases h;rw [e] at hx;obtain ⟨p,hp,hb⟩:=hx;rw [hb];exact Yl.pure (fun W=>X0 hf W) ⟨p,hp,by rw [zDb,zDb]⟩
   ·cases h
  ·cases h
 ·rename_i t x i ho;have hi:=EA i;split at h
  ·rename_i k n e;rw [e] at hi;refine HF (s:=Instr.indexAt t (a.eval x) (a.eval i)) (by unfold execOp;rw [ho]) ?_;rw [show a.eval i= .int k n from hi];exact v7 R (EA x) h hv
  ·cases h
 ·rename_i x i ho;have hx:=EA x;split at h
  ·rename_i m f e;split at h
   ·rename_i hi;cases h;rw [e] at hx;obtain ⟨cs,hb,hs,hr⟩:=hx;obtain ⟨u,g1,g2⟩:=hr i hi;refine HF (s:=Instr.extract (a.eval x) i) (by unfold execOp;rw [ho]) ?_;rw [hb];exact Yl.pure (fun W=>by simp [Instr.extract,g1]) g2
   ·cases h
  ·cases h
 ·rename_i g first c ho
  split at h
  ·rename_i hf;cases h;refine ⟨.func (.func g) #[] (c.map a.eval),fun W _=>?_,c.map a.eval,rfl,by simp,fun j hj=>?_⟩
   ·unfold execOp;rw [ho];have:first= #[]:=zEf hf
    subst this;simp [Instr.makeFunc]
   ·refine ⟨a.eval (c.getD j (.const undef)),by simp [hj],IA hj (EA _)⟩
  ·cases h
 ·rename_i c ho;split at h
  ·rename_i b hc;exact zBp R o ho hc h
  ·cases h
 ·cases h
end
end Go.Proofs.YtgkhhfnhacibcaaGreatDoor
namespace Go.Proofs.YtgkhhfnhacibcaaGreatDoor
abbrev zAe:=@List.getElem?_eq_getElem
abbrev zCj:=@Option.bind_some
abbrev zC0:=@List.length_replicate
abbrev zC1:=@List.getElem?_map
abbrev zDC:=@List.length_append
abbrev zDI:=@Option.map_some
abbrev zDZ:=@Int.le_refl
abbrev zDe:=@List.length_map
abbrev zDf:=@Nat.mul_one
abbrev zDl:=@List.eq_nil_of_length_eq_zero
abbrev zDn:=@List.length_cons
abbrev zDq:=@List.getElem_of_mem
abbrev zEB:=@Option.getD_some
abbrev zEO:=@List.getElem?_range
abbrev zES:=@Go.heap_alloc_new
abbrev zEV:=@Nat.div_lt_iff_lt_mul
abbrev zFG:=@List.flatMap_cons
abbrev zFH:=@List.size_toArray
abbrev zFW:=@Nat.le_of_eq
abbrev zFY:=@Nat.mod_lt
end Go.Proofs.YtgkhhfnhacibcaaGreatDoor
namespace Go.Proofs.YtgkhhfnhacibcaaGreatDoor
open Go.RowKit
def Mf:DV -> Bool
 | .any=>false
 | .agg .. =>false
 | .tup .. =>false
 | .it _=>false
 | .yl _=>false
 | .mri .. =>false
 | _=>true
def In:DV -> Option (List DV)
 | .agg m f=>some ((List.range m).map f)
 | .any=>none
 | .tup .. =>none
 | .it _=>none
 | .yl _=>none
 | .mri .. =>none
 | d=>some [d]
def OO:DV -> Bool
 | .int .. =>true
 | .bool _=>true
 | .str _=>true
 | .nils=>true
 | .ints _=>true
 | .bools _=>true
 | .sl .. =>true
 | _=>false
section
variable {P:Program} {Γ:A1} {N:Nat -> Prop} {S:St} {ρ:List AJ} {a:Act} {w:World}
theorem Us {M:Nat -> Prop} {d:DV} {v:Value} (h:Mf d=true) (hr:AK M w d ρ v):v.oneCell'=true/\ v.cells= #[v]:=by
 have key:(∀ cs,v≠.agg cs) -> (∀ cs,v≠.tuple cs) -> v.oneCell'=true/\ v.cells= #[v]:=fun h1 h2=>by
  cases v <;> first | exact ⟨rfl,rfl⟩ | exact absurd rfl (h1 _) | exact absurd rfl (h2 _)
 cases d with
 | any=>cases h
 | agg m f=>cases h
 | tup m f=>cases h
 | nils=>exact key (fun cs e=>by rw [hr] at e;cases e) (fun cs e=>by rw [hr] at e;cases e)
 | int k n=>exact key (fun cs e=>by rw [hr] at e;cases e) (fun cs e=>by rw [hr] at e;cases e)
 | bool b=>exact key (fun cs e=>by rw [hr] at e;cases e) (fun cs e=>by rw [hr] at e;cases e)
 | str s=>exact key (fun cs e=>by rw [hr] at e;cases e) (fun cs e=>by rw [hr] at e;cases e)
 | ints l=>obtain ⟨_,_,rfl,_⟩:=hr;exact ⟨rfl,rfl⟩
 | bools l=>obtain ⟨_,_,rfl,_⟩:=hr;exact ⟨rfl,rfl⟩
 | sl m n f=>obtain ⟨_,_,rfl,_⟩:=hr;exact ⟨rfl,rfl⟩
 | fp m f=>obtain ⟨_,_,rfl,_⟩:=hr;exact ⟨rfl,rfl⟩
 | ref k j=>obtain ⟨_,_,rfl⟩:=hr;exact ⟨rfl,rfl⟩
 | msl k m off n=>obtain ⟨_,_,_,rfl,_⟩:=hr;exact ⟨rfl,rfl⟩
 | mp k m i j=>obtain ⟨_,_,rfl⟩:=hr;exact ⟨rfl,rfl⟩
 | fn g m c=>obtain ⟨_,rfl,_⟩:=hr;exact ⟨rfl,rfl⟩
 | it k=>cases h
 | yl l=>cases h
 | mse k m o n=>obtain ⟨_,_,_,_,rfl,_⟩:=hr;exact ⟨rfl,rfl⟩
 | mri k i=>cases h
 | cst u=>obtain ⟨rfl,hu⟩:=hr;cases v <;> first | exact ⟨rfl,rfl⟩ | (cases hu;done)
theorem Sf {M:Nat -> Prop} {d:DV} {v:Value} {l:List DV} (h:In d=some l) (hr:AK M w d ρ v):v.cells.size=l.length/\ ∀ j,j<l.length -> ∃ u,v.cells[j]? =some u/\ AK M w (l.getD j .any) ρ u:=by
 have one:Mf d=true -> l= [d] -> v.cells.size=l.length/\ ∀ j,j<l.length -> ∃ u,v.cells[j]? =some u/\ AK M w (l.getD j .any) ρ u:=by
  intro h1 h2;subst h2;rw [(Us h1 hr).2];refine ⟨rfl,fun j hj=>?_⟩;have:j=0:=by simpa using hj
  subst this;exact ⟨v,rfl,hr⟩
 cases d with
 | any=>cases h
 | tup m f=>cases h
 | it k=>cases h
 | yl l=>cases h
 | mse k m o n=>cases h;exact one rfl rfl
 | mri k i=>cases h
 | cst u=>exact one rfl (zCq h).symm
 | agg m f=>
  cases h;obtain ⟨cs,rfl,hs,hc⟩:=hr;refine ⟨by simpa [Value.cells] using hs,fun j hj=>?_⟩;have A3:j<m:=by simpa using hj
  obtain ⟨u,h1,h2⟩:=hc j A3;exact ⟨u,h1,by simpa [A3] using h2⟩
 | nils=>cases h;exact one rfl rfl
 | int k n=>cases h;exact one rfl rfl
 | bool b=>cases h;exact one rfl rfl
 | str s=>cases h;exact one rfl rfl
 | ints l=>cases h;exact one rfl rfl
 | bools l=>cases h;exact one rfl rfl
 | sl m n f=>cases h;exact one rfl rfl
 | fp m f=>cases h;exact one rfl rfl
 | ref k j=>cases h;exact one rfl rfl
 | msl k m off n=>cases h;exact one rfl rfl
 | mp k m i j=>cases h;exact one rfl rfl
 | fn g m c=>cases h;exact one rfl rfl
theorem YK {M:Nat -> Prop} {d:DV} {v:Value} (h:OO d=true) (hr:AK M w d ρ v):AK M w d [] v:=by
 cases d <;> first | exact hr | (cases h;done)
structure DJ (P:Program) (Γ:A1) (N:Nat -> Prop) (h:DH) (ρ:List AJ) (w:World) (ext:Bool) (d:DV) (h':DH) (v:Value) (w':World):Prop where
 ex: ∃ ρ',BP P Γ N h' ρ' w'/\ AK (MS N h' ρ') w' d ρ' v/\ BH h ρ w h' ρ' w'/\ (∀ (k:Nat) (p:AJ),ρ[k]? =some p -> ρ'[k]? =some p)
 ext:ext=true -> Ar w w'
def BM (P:Program) (s:Sem Next) (w:World) (G:Value -> World -> Prop):Prop:=
 (∃ v w',s.run P w= .ok (.value v) w'/\ G v w')∨(∃ w',s.run P w= .ok .skip w'/\ G undef w')∨
 (∃ f args w',s.run P w= .ok (.enter f args) w'/\ Calls P f args w' fun e CF=>∃ v,e= .returned v/\ G v CF)
theorem BM.value {G:Value -> World -> Prop} {ρ':Operand -> Value} {o:Oper} {s:Sem Value} {v:Value} {w':World} (he:execOp ρ' o=(do pure (.value (←s)))) (h:s.run P w= .ok v w') (hG:G v w'):BM P (execOp ρ' o) w G:=
 .inl ⟨v,w',by rw [he,zC3,h];rfl,hG⟩
theorem BM.skip {G:Value -> World -> Prop} {ρ':Operand -> Value} {o:Oper} {s:Sem Unit} {w':World} (he:execOp ρ' o=(do s;pure .skip)) (h:s.run P w= .ok () w') (hG:G undef w'):BM P (execOp ρ' o) w G:=
 .inr (.inl ⟨w',by rw [he,zC3,h];rfl,hG⟩)
def EC (w:World) (room:Nat):AJ:=⟨w.heap.size,0,room,undef,fun b=>b=w.heap.size⟩
theorem PB (H:BP P Γ N S.h ρ w) {cs:Array Value} {t:TypeId} {o:DO} {d:DV} {v:Value} {w1:World} (Rn:Ar w w1/\ w1.heap.size=w.heap.size)
 (ho: ∀ M ρ',BV (MS N S.h ρ) w ρ M (w1.alloc (.cells cs t)) ρ' -> DU P M (w1.alloc (.cells cs t)) ρ' (EC w cs.size) o)
 (hv: ∀ M ρ',ρ'[S.h.length]? =some (EC w cs.size) -> AK M (w1.alloc (.cells cs t)) d ρ' v) (ext:Bool):
 DJ P Γ N S.h ρ w ext d (S.h++[some o]) v (w1.alloc (.cells cs t)):=by
 have hE:Ar w (w1.alloc (.cells cs t)):=Rn.1.allocR _;have hf: ∀ b,(EC w cs.size).foot b -> w.heap.size<=b:=fun b hb=>zFW (Eq.symm hb)
 have hb:(w1.alloc (.cells cs t)).heap[w.heap.size]? =some (.cells cs t (0,0)):=by rw [←Rn.2];exact zES w1 _
 refine ⟨⟨ρ++[EC w cs.size],H.snoc hE (fun b hx=>⟨hf b hx,.cells (c:=cs) (t:=t) (z:=(0,0)) (by rw [show b=w.heap.size from hx];exact hb)⟩) (ho _ _ (BV.snoc H hE hf)),?_,BH.snoc H hE hf,fun k p hk=>Dz hk⟩,fun _=>hE⟩;exact hv _ _ (by rw [←H.len];simp)
theorem MM {cs:Array Value} {t:TypeId} {w1:World} (hs:w1.heap.size=w.heap.size) {n:Nat} {R:Nat -> Value -> Prop} (hn:n<=cs.size) (hR: ∀ j,j<n -> ∃ u,cs[j]? =some u/\ R j u):Ab (w1.alloc (.cells cs t)) (EC w cs.size) n R:=by
 refine ⟨rfl,cs,t,?_,by simpa [EC] using hn,zC6 _,fun j hj=>by simpa [EC] using hR j hj⟩
 show (w1.alloc (.cells cs t)).heap[w.heap.size]? =_
 rw [←hs];exact zES w1 _
theorem zBs (R:Ac P Γ N S ρ a w) {x:Operand} {t:TypeId} {l:List DV} (h:In (Aa S.fr x)=some l) (o:Oper) (ho:o.op= .box t x) (ext:Bool):
 BM P (execOp a.eval o) w (DJ P Γ N S.h ρ w ext (.ref S.h.length 0) (S.h++[some (.cells l)])):=by
 obtain ⟨h1,h2⟩:=Sf h (Bo R x);refine BM.value (s:=Instr.box t (a.eval x)) (by unfold execOp;rw [ho]) (v:=.pointer (some ⟨w.heap.size,0,none⟩)) (w':=w.alloc (.cells (a.eval x).cells t)) ?_ ?_
 ·rfl
 ·refine PB (d:=.ref S.h.length 0) R.hr ⟨Ar.refl w,rfl⟩ (fun M ρ' O=>?_) (fun M ρ' hp=>⟨_,hp,rfl⟩) ext;refine MM rfl (by omega) fun j hj=>?_
  obtain ⟨u,g1,g2⟩:=h2 j hj;exact ⟨u,g1,g2.out _ O⟩
theorem zCR (R:Ac P Γ N S ρ a w) {t:TypeId} {i:TypeInfo} {z:Value} (hi:P.info? t=some i) (hz:i.zero=some z) (o:Oper) (ho:o.op= .alloc t) (ext:Bool):
 BM P (execOp a.eval o) w (DJ P Γ N S.h ρ w ext (.ref S.h.length 0) (S.h++[some (.cells (z.cells.toList.map FZ))])):=by
 refine BM.value (s:=Instr.alloc t true (.tuple #[])) (by unfold execOp;rw [ho]) (v:=.pointer (some ⟨w.heap.size,0,none⟩)) (w':=w.alloc (.cells z.cells t)) ?_ ?_
 ·simp [Instr.alloc,zeroValue,typeInfo,hi,hz,newVar,newRow,newObj];rfl
 ·refine PB (d:=.ref S.h.length 0) R.hr ⟨Ar.refl w,rfl⟩ (fun M ρ' O=>?_) (fun M ρ' hp=>⟨_,hp,rfl⟩) ext;refine MM rfl (by simp) fun j hj=>?_
  have A3:j<z.cells.size:=by simpa using hj
  refine ⟨z.cells[j],by simp [A3],?_⟩;have:(z.cells.toList.map FZ).getD j .any=FZ z.cells[j]:=by simp [A3]
  rw [this];exact RA _
def kX:Value -> Bool
 | .bool false=>true
 | _=>false
def XA (z:Value):Bool:=decide (2<z.cells.size)&&z.cells.toList.all kX
theorem zCS (R:Ac P Γ N S ρ a w) {t:TypeId} {i:TypeInfo} {z:Value} (hi:P.info? t=some i) (hz:i.zero=some z) (hb:XA z=true) (o:Oper) (ho:o.op= .alloc t) (ext:Bool):
 BM P (execOp a.eval o) w (DJ P Γ N S.h ρ w ext (.mp S.h.length 1 0 0) (S.h++[some (.bools (List.replicate z.cells.size false))])):=by
 refine BM.value (s:=Instr.alloc t true (.tuple #[])) (by unfold execOp;rw [ho]) (v:=.pointer (some ⟨w.heap.size,0,none⟩)) (w':=w.alloc (.cells z.cells t)) ?_ ?_
 ·simp [Instr.alloc,zeroValue,typeInfo,hi,hz,newVar,newRow,newObj];rfl
 ·refine PB (d:=.mp S.h.length 1 0 0) R.hr ⟨Ar.refl w,rfl⟩ (fun M ρ' O=>?_) (fun M ρ' hp=>⟨_,hp,rfl⟩) ext;refine MM rfl (by simp) fun j hj=>?_
  have A3:j<z.cells.size:=by simpa using hj
  refine ⟨z.cells[j],by simp [A3],?_⟩;simp only [XA,zCp,zCs] at hb;have:=hb.2 z.cells[j] (by simp);unfold kX at this;split at this
  ·rename_i e;rw [e];simp [A3]
  ·cases this
inductive EK where
 | ints
 | bools
 | gen (m:Nat)
def KU (P:Program) (t:TypeId):Option (EK×TypeId×TypeInfo×Value):=match P.underlying t with
 | some (.slice e)=>match P.info? e with
  | some i=>match i.zero with
   | some z=>if i.size=0 then none else if z.cells.size≠i.size then none else match P.underlying e with
    | some (.int .i64)=>if i.size=1 then (match z with | .int .i64 0=>some (.ints,e,i,z) | _=>none) else none
    | some .bool=>if i.size=1 then (match z with | .bool false=>some (.bools,e,i,z) | _=>none) else none
    | _=>some (.gen i.size,e,i,z)
   | none=>none
  | none=>none
 | _=>none
def EK.cells:EK -> Nat
 | .ints=>1
 | .bools=>1
 | .gen m=>m
theorem SX {t:TypeId} {k:EK} {e:TypeId} {i:TypeInfo} {z:Value} (h:KU P t=some (k,e,i,z)):P.underlying t=some (.slice e)/\ P.info? e=some i/\ i.zero=some z/\ i.size≠0/\ z.cells.size=i.size/\ k.cells=i.size/\
 (k= .ints -> z= .int .i64 0)/\ (k= .bools -> z= .bool false):=by
 unfold KU at h
 repeat' (split at h)
 all_goals first
  | (cases h;done)
  | skip
 all_goals
  simp only [zDm,zD7] at h;obtain ⟨rfl,rfl,rfl,rfl⟩:=h;refine ⟨by assumption,by assumption,by assumption,by assumption,by simp_all,?_,?_,?_⟩
  ·simp_all [EK.cells]
  ·intro hk;first | rfl | cases hk
  ·intro hk;first | rfl | cases hk
theorem aj {s:Nat} (hs:0<s): ∀ (vs:List Value),(∀ v∈vs,v.cells.size=s) -> ∀ i j,i<vs.length -> j<s -> (vs.flatMap fun v=>v.cells.toList)[i*s+j]? =(vs[i]?).bind (fun v=>v.cells[j]?)
 | [],_,i,j,hi,_=>absurd hi (zCz i)
 | v::vs,hv,i,j,hi,hj=>by
  have Hl:v.cells.toList.length=s:=by simpa using hv v (by simp)
  rw [zFG];cases i with
  | zero=>rw [Nat.zero_mul,zC4,zC8 (by omega)];simp
  | succ i=>
   rw [zDJ (by rw [Hl,zEz];omega),Hl,show (i+1)*s+j-s=i*s+j by rw [zEz];omega];rw [aj hs vs (fun v h=>hv v (by simp [h])) i j (by simpa using hi) hj];simp
def Hk:DV -> Int
 | .int _ n=>n
 | _=>0
def S5:DV -> Bool
 | .bool b=>b
 | _=>false
def J7:DV -> Bool
 | .int .i64 _=>true
 | _=>false
def ZE:DV -> Bool
 | .bool _=>true
 | _=>false
def Pa (k:EK) (ds:List DV):Option DO:=match k with
 | .ints=>if ds.all J7 then some (.ints (ds.map Hk)) else none
 | .bools=>if ds.all ZE then some (.bools (ds.map S5)) else none
 | .gen m=>if ds.all fun d=>(match In d with | some l=>l.length==m&&l.all OO | none=>false) then
  some (.arr m ds.length (fun i j=>match In (ds.getD i .any) with | some l=>l.getD j .any | none=>.any)) else none
theorem ZC {M:Nat -> Prop} {d:DV} {v:Value} (h:J7 d=true) (hr:AK M w d ρ v):v= .int .i64 (Hk d):=by
 unfold J7 at h;split at h
 ·exact hr
 ·cases h
theorem vK {M:Nat -> Prop} {d:DV} {v:Value} (h:ZE d=true) (hr:AK M w d ρ v):v= .bool (S5 d):=by
 unfold ZE at h;split at h
 ·exact hr
 ·cases h
theorem zBr {M:Nat -> Prop} {k:EK} {ds:List DV} {o:DO} {vs:List Value} (hk:0<k.cells) (h:Pa k ds=some o) (hl:vs.length=ds.length) (hv: ∀ i,i<ds.length -> AK M w (ds.getD i .any) ρ (vs.getD i undef)):
 (∀ v∈vs,v.cells.size=k.cells)/\ ∀ M' (w':World) ρ',BV M w ρ M' w' ρ' -> ∀ (cs:Array Value) (t:TypeId) (p:AJ),cs.toList=(vs.flatMap fun v=>v.cells.toList) -> Ab w' p (ds.length*k.cells) (fun j u=>cs[j]? =some u) -> DU P M' w' ρ' p o:=by
 have one: ∀ {j:Nat},k.cells=1 -> j<ds.length*k.cells -> (∀ v∈vs,v.cells.size=k.cells) -> ∀ {u},(vs.flatMap fun v=>v.cells.toList)[j]? =some u -> (vs[j]?).bind (fun v=>v.cells[0]?)=some u:=fun {j} h1 hj hs {u} hu=>by
  rw [h1] at hj hs;have:=aj (s:=1) (by omega) vs hs j 0 (by omega) (by omega);rw [zDf,zEZ] at this;rw [←this];exact hu
 have mem: ∀ v∈vs,∃ i,i<ds.length/\ v=vs.getD i undef/\ vs[i]? =some v:=fun v hv=>by
  obtain ⟨i,hi,rfl⟩:=zDq hv;exact ⟨i,by omega,by simp [hi],by simp [hi]⟩
 have a7: ∀ i,i<ds.length -> ds.getD i .any∈ds:=fun i hi=>by simp [hi]
 cases k with
 | ints=>
  simp only [Pa] at h;split at h
  ·rename_i ha;cases h;have hI: ∀ i,i<ds.length -> vs.getD i undef= .int .i64 (Hk (ds.getD i .any)):=fun i hi=>ZC (zCs.1 ha _ (a7 i hi)) (hv i hi)
   have hs: ∀ v∈vs,v.cells.size=EK.ints.cells:=fun v M2=>by obtain ⟨i,hi,e,_⟩:=mem v M2;rw [e,hI i hi];rfl
   refine ⟨hs,fun M' w' ρ' O cs t p DR hr=>?_⟩;have hn:ds.length*EK.ints.cells=(ds.map Hk).length:=by simp [EK.cells]
   rw [hn] at hr;refine Ab.out hr rfl fun j u hj hu=>?_
   have A3:j<ds.length:=by simpa using hj
   have h2:=one rfl (by simpa [EK.cells] using A3) hs (u:=u) (by rw [←DR];simpa using hu);rw [zAe (by omega)] at h2;have h3:=hI j A3;have h4:vs.getD j undef=vs[j]:=by simp [hl,A3]
   rw [h4] at h3;simp only [zCj,h3] at h2;have:u=Value.int .i64 (Hk (ds.getD j .any)):=by simpa [Value.cells] using h2.symm
   rw [this];simp [A3]
  ·cases h
 | bools=>
  simp only [Pa] at h;split at h
  ·rename_i ha;cases h;have hI: ∀ i,i<ds.length -> vs.getD i undef= .bool (S5 (ds.getD i .any)):=fun i hi=>vK (zCs.1 ha _ (a7 i hi)) (hv i hi)
   have hs: ∀ v∈vs,v.cells.size=EK.bools.cells:=fun v M2=>by obtain ⟨i,hi,e,_⟩:=mem v M2;rw [e,hI i hi];rfl
   refine ⟨hs,fun M' w' ρ' O cs t p DR hr=>?_⟩;have hn:ds.length*EK.bools.cells=(ds.map S5).length:=by simp [EK.cells]
   rw [hn] at hr;refine Ab.out hr rfl fun j u hj hu=>?_
   have A3:j<ds.length:=by simpa using hj
   have h2:=one rfl (by simpa [EK.cells] using A3) hs (u:=u) (by rw [←DR];simpa using hu);rw [zAe (by omega)] at h2;have h3:=hI j A3;have h4:vs.getD j undef=vs[j]:=by simp [hl,A3]
   rw [h4] at h3;simp only [zCj,h3] at h2;have:u=Value.bool (S5 (ds.getD j .any)):=by simpa [Value.cells] using h2.symm
   rw [this];simp [A3]
  ·cases h
 | gen m=>
  simp only [Pa] at h;split at h
  ·rename_i ha;cases h;have hm:0<m:=hk
   have hI: ∀ i,i<ds.length -> ∃ l,In (ds.getD i .any)=some l/\ l.length=m/\ (∀ d∈l,OO d=true):=fun i hi=>by
    have:=zCs.1 ha _ (a7 i hi);split at this
    ·rename_i l hl;simp only [zCp,zDB] at this;exact ⟨l,hl,this.1,fun d hd=>zCs.1 this.2 d hd⟩
    ·cases this
   have hs: ∀ v∈vs,v.cells.size=(EK.gen m).cells:=fun v M2=>by
    obtain ⟨i,hi,e,_⟩:=mem v M2;obtain ⟨l,h1,h2,_⟩:=hI i hi;rw [e,(Sf h1 (hv i hi)).1,h2];rfl
   refine ⟨hs,fun M' w' ρ' O cs t p DR hr=>?_⟩;refine Ab.out hr rfl fun j u hj hu=>?_
   have yd:j<ds.length*m:=hj;have hi:j/m<ds.length:=by rw [zEV hm];exact yd
   have hc:j % m<m:=zFY _ hm;obtain ⟨l,h1,h2,h3⟩:=hI (j/m) hi;have h4:=aj (s:=m) hm vs hs (j/m) (j % m) (by omega) hc;rw [show j/m*m+j % m=j by rw [zEL];exact Nat.div_add_mod j m] at h4;obtain ⟨_,h5⟩:=Sf h1 (hv (j/m) hi);obtain ⟨u',g1,g2⟩:=h5 (j % m) (by omega);have h6:vs.getD (j/m) undef=vs[j/m]'(by omega):=by simp [hl,hi]
   have AL:j/m<vs.length:=by omega
   rw [zAe AL] at h4;rw [h6] at g1
   have:u=u':=by
    have Be:(vs.flatMap fun v=>v.cells.toList)[j]? =some u:=by rw [←DR];simpa using hu
    rw [h4] at Be;simp only [zCj] at Be;rw [g1] at Be;exact (zCq Be).symm
   subst this;simp only [h1];refine AK.out _ O.nil (YK (h3 _ ?_) g2);simp [h2,hc]
  ·cases h
theorem X1 {cs:Array Value} {t:TypeId} {w1:World} (hs:w1.heap.size=w.heap.size) {n:Nat} (hn:cs.size=n):Ab (w1.alloc (.cells cs t)) (EC w n) n (fun j u=>cs[j]? =some u):=by
 subst hn;exact MM hs (zC6 _) fun j hj=>⟨cs[j],by simp [hj],by simp [hj]⟩
def WW (parts:List (Nat×Operand)) (len:Nat):Bool:=parts.map (·.1)==List.range len
theorem zAw {parts:List (Nat×Operand)} {len:Nat} (h:WW parts len=true) (f:Operand -> Value):parts.length=len/\ (parts.map fun x=>(x.1,f x.2))=((parts.map fun x=>f x.2).zipIdx 0).map fun x=>(x.2,x.1):=by
 simp only [WW,zDB] at h;have hl:parts.length=len:=by have:=congrArg List.length h;simpa using this
 refine ⟨hl,List.ext_getElem? fun i=>?_⟩
 by_cases hi:i<parts.length
 ·have h1:parts[i].1=i:=by
   have h2:=congrArg (fun l:List Nat=>l[i]?) h;have h3:(List.range len)[i]? =some i:=zEO (by omega);simp only [zC1,zAe hi,zDI,h3] at h2;exact zCq h2
  simp [hi,h1]
 ·rw [zDO (by simpa using hi),zDO (by simpa using hi)]
theorem zBq (R:Ac P Γ N S ρ a w) {t:TypeId} {len:Nat} {parts:Array (Nat×Operand)} {k:EK} {e:TypeId} {i:TypeInfo} {z:Value} {ob:DO} (hk:KU P t=some (k,e,i,z)) (hd:WW parts.toList len=true) (Ah:len<=65536/\ k.cells<=64)
 (hb:Pa k (parts.toList.map fun x=>Aa S.fr x.2)=some ob) (o:Oper) (ho:o.op= .buildSlice t len parts) (ext:Bool):
 BM P (execOp a.eval o) w (DJ P Γ N S.h ρ w ext (.msl S.h.length k.cells 0 len) (S.h++[some ob])):=by
 obtain ⟨hu,hi,hz,h0,Cb,EG,_,_⟩:=SX hk;obtain ⟨EZ,w6⟩:=zAw hd a.eval;have yV:=Ah.1;have yU:=Ah.2;have Ia:0<k.cells:=by omega
 obtain ⟨hs,M5⟩:=zBr (w:=w) (M:=MS N S.h ρ) (ρ:=ρ) (vs:=parts.toList.map fun x=>a.eval x.2) Ia hb (by simp) (fun j hj=>by
  have A3:j<parts.toList.length:=by simpa using hj
  have:=Bo R parts.toList[j].2;simp only [u8,zC1,zAe A3,zDI,zEB];exact this)
 have FJ:(parts.toList.map fun x=>a.eval x.2).length=len:=by simpa using EZ
 have BQ:((parts.toList.map fun x=>a.eval x.2).flatMap fun v=>v.cells.toList).toArray.size=len*k.cells:=by
  have: ∀ (l:List Value),(∀ v∈l,v.cells.size=k.cells) -> (l.flatMap fun v=>v.cells.toList).length=l.length*k.cells:=by
   intro l
   induction l with
   | nil=>intro _;simp
   | cons v l ih=>intro h;rw [zFG,zDC,ih (fun v hv=>h v (by simp [hv])),zDn,zEz];have:=h v (by simp);simp [this];omega
  simp only [zFH];rw [this _ hs,FJ]
 refine BM.value (s:=Instr.buildSlice t len (parts.map fun (i,x)=>(i,a.eval x))) (by unfold execOp;rw [ho]) (v:=.slice (some ⟨w.heap.size,0,none⟩) len len) (w':=w.alloc (.cells ((parts.toList.map fun x=>a.eval x.2).flatMap fun v=>v.cells.toList).toArray e)) ?_ ?_
 ·have wb: ¬ len*i.size>2 ^ 24:=by
   have:len*i.size<=65536*64:=Nat.mul_le_mul yV (by omega);omega
  by_cases Z8:len=0
  ·subst Z8
   have hp:parts= #[]:=by
    have:parts.toList= []:=zDl EZ;cases parts;simp at this;simp [this]
   subst hp;have Du:Array.map (fun (x:Nat)=>(default:Value)) (Array.range 0)= #[]:=by simp [Array.range_zero']
   simp [Instr.buildSlice,zDY hu,sizeOf,typeInfo,hi,newRow,Instr.fill,Array.range_zero']
  ·have yG: ¬ len*i.size=0:=by rw [Nat.mul_eq_zero];omega
   refine run_buildSlice w t e len _ _ i z hu hi hz wb yG ?_;have e1:(parts.map fun (i,x)=>(i,a.eval x)).toList=parts.toList.map fun x=>(x.1,a.eval x.2):=by simp
   rw [e1,w6];exact Great.fill_whole (s:=i.size) (by omega) _ _ (fun v hv=>by rw [hs v hv,EG]) (by rw [FJ,Array.size_map,Array.size_range])
 ·have:=PB (d:=.msl S.h.length k.cells 0 len) (o:=ob) (v:=.slice (some ⟨w.heap.size,0,none⟩) len len) (cs:=((parts.toList.map fun x=>a.eval x.2).flatMap fun v=>v.cells.toList).toArray) (t:=e) R.hr ⟨Ar.refl w,rfl⟩
   (fun M ρ' O=>M5 _ _ _ O ((parts.toList.map fun x=>a.eval x.2).flatMap fun v=>v.cells.toList).toArray e _ rfl (by rw [BQ,zDe,EZ];exact X1 (w:=w) (w1:=w) (t:=e) rfl BQ))
   (fun M ρ' hp=>⟨_,len,hp,by simp [EC],zC6 _,by unfold LB;omega,by simp only [EC];rw [BQ];omega⟩) ext
  exact this
def iC (k:EK) (n:Nat) (z:Value):DO:=match k with
 | .ints=>.ints (List.replicate n 0)
 | .bools=>.bools (List.replicate n false)
 | .gen m=>.arr m n (fun _ j=>(z.cells.toList.map FZ).getD j .any)
theorem uI (R:Ac P Γ N S ρ a w) {t:TypeId} {x y:Operand} {k:EK} {e:TypeId} {i:TypeInfo} {z:Value} {kx ky:IntKind} {n:Int} (hk:KU P t=some (k,e,i,z)) (hx:Aa S.fr x= .int kx n) (hy:Aa S.fr y= .int ky n)
 (hn:0<=n/\ n<=1000000000000) (Dc:i.bytes<=128) (o:Oper) (ho:o.op= .makeSlice t x y) (ext:Bool):
 BM P (execOp a.eval o) w (DJ P Γ N S.h ρ w ext (.msl S.h.length k.cells 0 n.toNat) (S.h++[some (iC k n.toNat z)])):=by
 obtain ⟨hu,hi,hz,h0,Cb,EG,v8,ZR⟩:=SX hk;have GN:=hn.1;have Hq:=hn.2;have rx:=Bo R x;have ry:=Bo R y;rw [hx] at rx;rw [hy] at ry;have DR:(madeCells z.cells (n.toNat*i.size)).size=n.toNat*k.cells:=by rw [size_madeCells,EG]
 refine BM.value (s:=Instr.makeSlice t (a.eval x) (a.eval y)) (by unfold execOp;rw [ho]) (v:=.slice (some ⟨w.heap.size,0,none⟩) n.toNat n.toNat) (w':=w.alloc (.cells (madeCells z.cells (n.toNat*i.size)) e)) ?_ ?_
 ·rw [show a.eval x=_ from rx,show a.eval y=_ from ry];refine run_make w t e i z hu hi hz kx ky n n GN (zDZ _) ?_ (by omega);have:(i.bytes:Int)*n<=128*1000000000000:=Int.mul_le_mul (by omega) Hq GN (by omega);omega
 ·refine PB (d:=.msl S.h.length k.cells 0 n.toNat) R.hr ⟨Ar.refl w,rfl⟩ (fun M ρ' O=>?_) (fun M ρ' hp=>⟨_,n.toNat,hp,by simp [EC],zC6 _,by unfold LB;omega,by simp only [EC];rw [DR];omega⟩) ext;have hr:=X1 (w:=w) (w1:=w) (t:=e) rfl DR;rw [DR]
  have C3: ∀ j u,j<n.toNat*k.cells -> (madeCells z.cells (n.toNat*i.size))[j]? =some u -> z.cells[j % z.cells.size]? =some u:=by
   intro j u hj Be;have AL:j % z.cells.size<z.cells.size:=zFY _ (by omega);simp only [madeCells] at Be;have A3:j<n.toNat*i.size:=by rw [←EG];exact hj
   simp [A3] at Be;rw [←Be];simp [AL]
  cases k with
  | ints=>
   have Rk:=v8 rfl;subst Rk
   show Ab _ _ (List.replicate n.toNat (0:Int)).length _
   rw [zC0];simp only [EK.cells,zDf] at hr C3 ⊢;refine Ab.out hr rfl fun j u hj Be=>?_
   have:=C3 j u hj Be;have e1:j % (Value.cells (.int .i64 0)).size=0:=by simp [Value.cells,Nat.mod_one]
   rw [e1] at this;simp [Value.cells] at this;rw [←this];simp [hj]
  | bools=>
   have Rk:=ZR rfl;subst Rk
   show Ab _ _ (List.replicate n.toNat false).length _
   rw [zC0];simp only [EK.cells,zDf] at hr C3 ⊢;refine Ab.out hr rfl fun j u hj Be=>?_
   have:=C3 j u hj Be;have e1:j % (Value.cells (.bool false)).size=0:=by simp [Value.cells,Nat.mod_one]
   rw [e1] at this;simp [Value.cells] at this;rw [←this];simp [hj]
  | gen m=>
   refine Ab.out hr rfl fun j u hj Be=>?_
   have h1:=C3 j u hj Be;have hm:m=z.cells.size:=by rw [Cb];exact EG
   have h2:j % m<z.cells.toList.length:=by rw [hm];simpa using zFY _ (by omega)
   have h3:(z.cells.toList.map FZ).getD (j % m) .any=FZ u:=by
    rw [u8,zC1];have:z.cells.toList[j % m]? =some u:=by rw [←h1,hm];simp
    rw [this];rfl
   show AK M _ ((z.cells.toList.map FZ).getD (j % m) .any) [] u
   rw [h3];exact RA u
end
end Go.Proofs.YtgkhhfnhacibcaaGreatDoor
namespace Go.Proofs.YtgkhhfnhacibcaaGreatDoor
abbrev zDy:=@List.foldl_cons
abbrev zD2:=@List.nil_append
abbrev zED:=@Array.getElem?_append_left
abbrev zEM:=@List.length_range
abbrev zEW:=@Array.getElem?_modify
abbrev zFK:=@List.getElem?_toArray
end Go.Proofs.YtgkhhfnhacibcaaGreatDoor
namespace Go.Proofs.YtgkhhfnhacibcaaGreatDoor
open Go.RowKit
section
variable {P:Program} {Γ:A1} {N:Nat -> Prop} {S:St} {ρ:List AJ} {a:Act} {w:World} {h:DH}
theorem O5 (b:Nat) (t:TypeId) (z:Nat×Nat): ∀ (vs:List Value) (o:Nat) (w:World) (En:Array Value),w.heap[b]? =some (.cells En t z) -> o+vs.length<=En.size ->
 ∃ Sh,(w.setCells b o vs).heap[b]? =some (.cells Sh t z)/\ Sh.size=En.size/\ ∀ k,Sh[k]? =if o<=k/\ k<o+vs.length then vs[k-o]? else En[k]?
 | [],o,w,En,hb,_=>⟨En,hb,rfl,fun k=>by rw [zCt];simp only [zDx];omega⟩
 | v::vs,o,w,En,hb,hl=>by
  have Dv:o+(vs.length+1)<=En.size:=hl;obtain ⟨Sh,h1,h2,h3⟩:=O5 b t z vs (o+1) (w.setCell ⟨b,o,none⟩ v) (En.setIfInBounds o v) (by simp [World.setCell,zEW,hb]) (by simp;omega);refine ⟨Sh,h1,by simpa using h2,fun k=>?_⟩;rw [h3 k,zDn]
  by_cases e:k=o
  ·subst e;rw [zCt (by omega),zB3 (by omega),zDa,zB3 rfl,zB3 (by omega),Nat.sub_self];rfl
  ·by_cases e2:o+1<=k/\ k<o+1+vs.length
   ·rw [zB3 e2,zB3 (by omega),show k-o=(k-(o+1))+1 by omega];simp
   ·rw [zCt e2,zCt (by omega)];rw [zDa,zCt (by omega)]
theorem Nt (b:Nat): ∀ (vs:List Value) (o:Nat) (w:World),AO (fun k=>k=b) w (w.setCells b o vs)
 | [],_,w=>AO.refl _ w
 | v::vs,o,w=>((AO.refl (fun k=>k=b) w).setCell (p:=⟨b,o,none⟩) (fun _=>rfl) v).trans (Nt b vs (o+1) (w.setCell ⟨b,o,none⟩ v))
theorem Ab.writes {p:AJ} {n:Nat} {R R':Nat -> Value -> Prop} (hr:Ab w p n R) {o:Nat} {vs:List Value} (hl:o+vs.length<=n) (h1: ∀ i v,vs[i]? =some v -> R' (o+i) v)
 (h2: ∀ i u,i<n -> (i<o∨o+vs.length<=i) -> R i u -> R' i u):Ab (w.setCells p.blk (p.off+o) vs) p n R':=by
 obtain ⟨g1,cs,t,g2,g3,g4,g5⟩:=hr;obtain ⟨EM,e1,e2,e3⟩:=O5 p.blk t (0,0) vs (p.off+o) w cs g2 (by omega);refine ⟨g1,EM,t,e1,by omega,by omega,fun j hj=>?_⟩;rw [e3]
 by_cases e:p.off+o<=p.off+j/\ p.off+j<p.off+o+vs.length
 ·rw [zB3 e];have hi:p.off+j-(p.off+o)<vs.length:=by omega
  refine ⟨vs[p.off+j-(p.off+o)],by simp [hi],?_⟩;have:=h1 (p.off+j-(p.off+o)) _ (by simp [hi]:vs[p.off+j-(p.off+o)]? =some vs[p.off+j-(p.off+o)])
  rwa [show o+(p.off+j-(p.off+o))=j by omega] at this
 ·rw [zCt e];obtain ⟨u,e4,e5⟩:=g5 j hj;exact ⟨u,e4,h2 j u hj (by omega) e5⟩
def MD (l:List DV) (o:Nat) (ds:List DV):List DV:=(ds.zipIdx).foldl (fun cs x=>cs.set (o+x.2) x.1) l
theorem Xe: ∀ (ds:List DV) (k o:Nat) (l:List DV),((ds.zipIdx k).foldl (fun cs x=>cs.set (o+x.2) x.1) l).length=l.length/\
 ∀ j,j<l.length -> ((ds.zipIdx k).foldl (fun cs x=>cs.set (o+x.2) x.1) l).getD j .any=if o+k<=j/\ j<o+k+ds.length then ds.getD (j-(o+k)) .any else l.getD j .any
 | [],k,o,l=>⟨rfl,fun j _=>by
  rw [zCt]
  ·rfl
  ·simp only [zDx];omega⟩
 | d::ds,k,o,l=>by
  obtain ⟨h1,h2⟩:=Xe ds (k+1) o (l.set (o+k) d);rw [List.zipIdx_cons,zDy];refine ⟨by rw [h1];simp,fun j hj=>?_⟩;rw [h2 j (by simpa using hj),zDn]
  by_cases e:j=o+k
  ·subst e;rw [zCt (by omega),zB3 (by omega)];simp [hj]
  ·by_cases e2:o+(k+1)<=j/\ j<o+(k+1)+ds.length
   ·rw [zB3 e2,zB3 (by omega),show j-(o+k)=(j-(o+(k+1)))+1 by omega];simp
   ·rw [zCt e2,zCt (by omega)];simp only [u8,zDP];rw [zCt (by omega)]
theorem Xd (l:List DV) (o:Nat) (ds:List DV):(MD l o ds).length=l.length:=(Xe ds 0 o l).1
theorem Xf (l:List DV) (o:Nat) (ds:List DV) {j:Nat} (hj:j<l.length):(MD l o ds).getD j .any=if o<=j/\ j<o+ds.length then ds.getD (j-o) .any else l.getD j .any:=by
 have:=(Xe ds 0 o l).2 j hj;simpa [MD] using this
def MA (P:Program) (S:St) (t:TypeId) (x d:DV):Option (DH×Prop):=match x with
 | .ref k j=>match S.h[k]? with
  | some (some (.cells l))=>match In d with
   | some ds=>if P.info? t |>.any (fun i=>i.size==ds.length) then (if ds.all Mf&&decide (j+ds.length<=l.length) then some (S.h.set k (some (.cells (MD l j ds))),True) else none) else none
   | none=>none
  | _=>none
 | .mp k m i j=>if P.info? t |>.any (fun i=>i.size==1) then match S.h[k]? with
  | some (some (.ints l))=>match d with
   | .int .i64 n=>if m==1&&j==0 then some (S.h.set k (some (.ints (l.set i n))),i<l.length) else none
   | _=>none
  | some (some (.bools l))=>match d with
   | .bool b=>if m==1&&j==0 then some (S.h.set k (some (.bools (l.set i b))),i<l.length) else none
   | _=>none
  | some (some (.arr m' n f))=>if OO d&&(m==m')&&decide (j<m) then some (S.h.set k (some (.arr m n (fun i' j'=>if i'=i/\ j'=j then d else f i' j'))),i<n) else none
  | _=>none
  else none
 | _=>none
theorem s3 {d:DV} (h:OO d=true):Mf d=true:=by cases d <;> first | rfl | cases h
theorem Xx {t:TypeId} {i:TypeInfo} {b o:Nat} {v:Value} (hi:P.info? t=some i) (hs:v.cells.size=i.size) (hc: ∀ j,j<v.cells.size -> (w.cell? ⟨b,o+j,none⟩).isSome=true) (hf: ∀ j,w.frozen? ⟨b,j,none⟩=false) (h1: ∀ u∈v.cells.toList,u.oneCell'=true):
 (Instr.storeAt t (.pointer (some ⟨b,o,none⟩)) v).run P w= .ok () (w.setCells b o v.cells.toList):=by
 have EY:=run_storeCells_cells (P:=P) b o v.cells.toList 0 w (by simpa using hc) (by simpa using fun j _=>hf _) h1;simp only [zEZ] at EY;simp [Instr.storeAt,Instr.sureAddr,storeVar,I4 hi,hs,EY]
theorem V1 {α:Type} {l:List α} {i:Nat} {x d:α} (h:l[i]? =some x):l.getD i d=x:=by rw [u8,h];rfl
theorem Tm (R:Ac P Γ N S ρ a w) {k:Nat} {ob ob':DO} {p:AJ} (hk:S.h[k]? =some (some ob)) (hp:ρ[k]? =some p) {n:Nat} {Rw:Nat -> Value -> Prop} (hr:Ab w p n Rw) {o':Nat} {v:Value} {t:TypeId} {i:TypeInfo}
 (hi:P.info? t=some i) (hs:v.cells.size=i.size) (hl:o'+v.cells.size<=n) (h1: ∀ u∈v.cells.toList,u.oneCell'=true)
 (Hp: ∀ M ρ' w',BV (MS N S.h ρ) w ρ M w' ρ' -> w'=w.setCells p.blk (p.off+o') v.cells.toList -> DU P M w' ρ' p ob')
 (o:Oper) (tx x:Operand) (ho:o.op= .store t tx x) (hx:a.eval tx= .pointer (some ⟨p.blk,p.off+o',none⟩)) (hv:a.eval x=v):
 BM P (execOp a.eval o) w (DJ P Γ N S.h ρ w false .any (S.h.set k (some ob'))):=by
 have E1:p.foot=fun b=>b=p.blk:=hr.1
 have hu:AO p.foot w (w.setCells p.blk (p.off+o') v.cells.toList):=by rw [E1];exact Nt _ _ _ _
 refine BM.skip (s:=Instr.storeAt t (a.eval tx) (a.eval x)) (by unfold execOp;rw [ho]) (w':=w.setCells p.blk (p.off+o') v.cells.toList) ?_ ?_
 ·rw [hx,hv];refine Xx hi hs (fun j hj=>?_) (fun j=>hr.frozen j) h1;obtain ⟨u,hc,_⟩:=hr.cell (j:=o'+j) (by omega);rw [zDb,hc];rfl
 ·have C3: ∀ b,p.foot b -> DW (w.setCells p.blk (p.off+o') v.cells.toList) b:=fun b hb=>by
   rw [E1] at hb;obtain ⟨_,cs,t',g2,g3,_⟩:=hr;obtain ⟨c,e1,_⟩:=O5 p.blk t' (0,0) v.cells.toList (p.off+o') w cs g2 (by simp;omega);exact .cells (c:=c) (t:=t') (z:=(0,0)) (by rw [show b=p.blk from hb];exact e1)
  exact ⟨⟨ρ,R.hr.write hk hp hu C3 (Hp _ _ _ (BV.write trivial hk hp hu) rfl),trivial,BH.write hk hp hu,fun _ _ h=>h⟩,fun h=>by cases h⟩
theorem dl (R:Ac P Γ N S ρ a w) {t:TypeId} {tx x:Operand} {h':DH} {vc:Prop} (hd:MA P S t (Aa S.fr tx) (Aa S.fr x)=some (h',vc)) (hv:vc) (o:Oper) (ho:o.op= .store t tx x):
 BM P (execOp a.eval o) w (DJ P Γ N S.h ρ w false .any h'):=by
 have rx:=Bo R tx;have rv:=Bo R x;unfold MA at hd;split at hd
 ·rename_i k j e;rw [e] at rx;obtain ⟨p,hp,hx⟩:=rx;split at hd
  ·rename_i l hk;obtain ⟨p',A2,hr⟩:=R.hr.obj k _ hk;have e:p'=p:=zCq (A2.symm.trans hp);subst e;split at hd
   ·rename_i ds Ff;split at hd
    ·rename_i Az;split at hd
     ·rename_i hc;cases hd;simp only [zCp,zDH] at hc;cases hi:P.info? t with
      | none=>rw [hi] at Az;cases Az
      | some i=>
       rw [hi] at Az;have Ol:i.size=ds.length:=by simpa using Az
       obtain ⟨c1,c2⟩:=Sf Ff rv
       have yI: ∀ u∈(a.eval x).cells.toList,u.oneCell'=true:=fun u hu=>by
        obtain ⟨q,hq,rfl⟩:=zDq hu;have M6:q<ds.length:=by rw [←c1];simpa using hq
        obtain ⟨u,g1,g2⟩:=c2 q M6;have h3:=zCs.1 hc.1 (ds.getD q .any) (by simp [M6]);have h4:=(Us h3 g2).1
        have:(a.eval x).cells.toList[q]=u:=by
         have Ga:q<(a.eval x).cells.size:=by simpa using hq
         rw [zDQ Ga] at g1;simpa using zCq g1
        rw [this];exact h4
       refine Tm R hk hp hr hi (by omega) (o':=j) (by omega) yI (fun M ρ' w' O M1=>?_) o tx x ho hx rfl;subst M1
       show Ab _ _ (MD l j ds).length _
       rw [Xd];refine Ab.writes hr (by simp;omega) (fun q v hq=>?_) (fun q u hq Ga hu=>?_)
       ·have Ov:q<(a.eval x).cells.size:=by have:=(zCr.1 hq).1;simpa using this
        have M6:q<ds.length:=by omega
        obtain ⟨u,g1,g2⟩:=c2 q M6
        have:u=v:=by
         have:(a.eval x).cells[q]? =some v:=by simpa using hq
         rw [this] at g1;exact (zCq g1).symm
        subst this;rw [Xf l j ds (by omega),zB3 (by omega),show j+q-j=q by omega];exact g2.out _ O
       ·rw [Xf l j ds hq,zCt (by simp at Ga;omega)];exact hu.out _ O
     ·cases hd
    ·cases hd
   ·cases hd
  ·cases hd
 ·rename_i k m i j e;rw [e] at rx;obtain ⟨p,hp,hx⟩:=rx;split at hd
  ·rename_i Az;cases hi:P.info? t with
   | none=>rw [hi] at Az;cases Az
   | some ti=>
    rw [hi] at Az;have Ol:ti.size=1:=by simpa using Az
    split at hd
    ·rename_i l hk;obtain ⟨p',A2,hr⟩:=R.hr.obj k _ hk;have e:p'=p:=zCq (A2.symm.trans hp);subst e;split at hd
     ·rename_i n ed;split at hd
      ·rename_i hm;cases hd;simp only [zCp,zDB] at hm;obtain ⟨rfl,rfl⟩:=hm;rw [ed] at rv;have Xu:a.eval x= .int .i64 n:=rv;refine Tm R hk hp hr hi (v:=.int .i64 n) (by rw [Ol];rfl) (o':=i) (by simp [Value.cells];omega) (by simp [Value.cells,Value.oneCell']) (fun M ρ' w' O M1=>?_) o tx x ho (by simpa using hx) Xu;subst M1
       show Ab _ _ (l.set i n).length _
       rw [zDE];refine Ab.writes hr (by simp [Value.cells];omega) (fun q v hq=>?_) (fun q u hq Ga hu=>?_)
       ·have:q=0:=by have:=(zCr.1 hq).1;simpa [Value.cells] using this
        subst this;have:v= .int .i64 n:=by simpa [Value.cells] using hq.symm
        rw [this];have Cu:i<l.length:=hv;simp [Cu]
       ·rw [hu];simp only [Value.cells,zDn,zDx] at Ga;rw [u8,u8,zDP,zCt (by simp at Ga;omega)]
      ·cases hd
     ·cases hd
    ·rename_i l hk;obtain ⟨p',A2,hr⟩:=R.hr.obj k _ hk;have e:p'=p:=zCq (A2.symm.trans hp);subst e;split at hd
     ·rename_i n ed;split at hd
      ·rename_i hm;cases hd;simp only [zCp,zDB] at hm;obtain ⟨rfl,rfl⟩:=hm;rw [ed] at rv;have Xu:a.eval x= .bool n:=rv;refine Tm R hk hp hr hi (v:=.bool n) (by rw [Ol];rfl) (o':=i) (by simp [Value.cells];omega) (by simp [Value.cells,Value.oneCell']) (fun M ρ' w' O M1=>?_) o tx x ho (by simpa using hx) Xu;subst M1
       show Ab _ _ (l.set i n).length _
       rw [zDE];refine Ab.writes hr (by simp [Value.cells];omega) (fun q v hq=>?_) (fun q u hq Ga hu=>?_)
       ·have:q=0:=by have:=(zCr.1 hq).1;simpa [Value.cells] using this
        subst this;have:v= .bool n:=by simpa [Value.cells] using hq.symm
        rw [this];have Cu:i<l.length:=hv;simp [Cu]
       ·rw [hu];simp only [Value.cells,zDn,zDx] at Ga;rw [u8,u8,zDP,zCt (by simp at Ga;omega)]
      ·cases hd
     ·cases hd
    ·rename_i m' n f hk;obtain ⟨p',A2,hr⟩:=R.hr.obj k _ hk;have e:p'=p:=zCq (A2.symm.trans hp);subst e;split at hd
     ·rename_i hm;cases hd;simp only [zCp,zDB,zDH] at hm;obtain ⟨⟨EZ,rfl⟩,hj⟩:=hm;have Cu:i<n:=hv;obtain ⟨o1,o2⟩:=Us (s3 EZ) rv
      have ZN:i*m+j<n*m:=by
       have:(i+1)*m<=n*m:=zD5 _ Cu;rw [zEz] at this;omega
      have AC:0<m:=by omega
      refine Tm R hk hp hr hi (v:=a.eval x) (by rw [Ol,o2];rfl) (o':=i*m+j) (by rw [o2];simp;omega) (by rw [o2];simp [o1]) (fun M ρ' w' O M1=>?_) o tx x ho hx rfl;subst M1;refine Ab.writes hr (by rw [o2];simp;omega) (fun q v hq=>?_) (fun q u hq Ga hu=>?_)
      ·rw [o2] at hq;have:q=0:=by have:=(zCr.1 hq).1;simpa using this
       subst this;have:v=a.eval x:=by simpa using hq.symm
       rw [this,zEZ];have e1:(i*m+j)/m=i:=by rw [zEL,Nat.mul_add_div AC,Nat.div_eq_of_lt hj,zEZ]
       have e2:(i*m+j) % m=j:=by rw [zEL,Nat.mul_add_mod,zE0 hj]
       show AK M _ (if (i*m+j)/m=i/\ (i*m+j) % m=j then Aa S.fr x else f ((i*m+j)/m) ((i*m+j) % m)) [] _
       rw [zB3 ⟨e1,e2⟩];exact AK.out _ O.nil (YK EZ rv)
      ·rw [o2] at Ga;simp at Ga
       have: ¬ (q/m=i/\ q % m=j):=fun ⟨e1,e2⟩=>by
        have:=Nat.div_add_mod q m;rw [e1,e2,zEL] at this;omega
       show AK M _ (if q/m=i/\ q % m=j then Aa S.fr x else f (q/m) (q % m)) [] _
       rw [zCt this];exact AK.out _ O.nil hu
     ·cases hd
    ·cases hd
  ·cases hd
 ·cases hd
theorem MO.kill {k:Nat} {b:Nat} (hb:MO (h.set k none) ρ b):MO h ρ b:=MO.unset hb
theorem F0 {k i:Nat} {o:DO} (hi:(h.set k none)[i]? =some (some o)):i≠k/\ h[i]? =some (some o):=by
 rw [zDP] at hi
 by_cases e:k=i
 ·rw [zB3 e] at hi;split at hi <;> cases hi
 ·rw [zCt e] at hi;exact ⟨zEy e,hi⟩
theorem BP.kill (H:BP P Γ N h ρ w) (k:Nat):BP P Γ N (h.set k none) ρ w:=by
 have O:BV (MS N h ρ) w ρ (MS N (h.set k none) ρ) w ρ:=⟨fun _ _ _ _=>rfl,fun b hb=>.inl (hb.imp id MO.kill),fun _ _ h=>h⟩;refine ⟨by simp [H.len],fun i o hi=>?_,fun i o p b h1 h2 h3=>H.cel i o p b (F0 h1).2 h2 h3,fun i i' o o' p p' b AY h1 h2 h3 h4 h5 h6=>H.dis i i' o o' p p' b AY (F0 h1).2 (F0 h2).2 h3 h4 h5 h6,H.nlt,H.gi⟩;obtain ⟨p,hp,hr⟩:=H.obj i o (F0 hi).2;exact ⟨p,hp,hr.out O (S:=fun _=>False) (AO.refl _ w) (fun _ h=>h.elim) (fun _ _ _ h=>h)⟩
theorem BV.kill (k:Nat):BV (MS N h ρ) w ρ (MS N (h.set k none) ρ) w ρ:=⟨fun _ _ _ _=>rfl,fun b hb=>.inl (hb.imp id MO.kill),fun _ _ h=>h⟩
theorem BH.kill (k:Nat):BH h ρ w (h.set k none) ρ w:=⟨AO.refl _ w,fun b hb=>.inl (MO.kill hb)⟩
theorem BP.regrow (H:BP P Γ N h ρ w) {w':World} {k:Nat} {o o':DO} {p p':AJ} (hk:h[k]? =some (some o)) (hp:ρ[k]? =some p) (hu:AO p.foot w w') (hf: ∀ b,p'.foot b -> (p.foot b∨w.heap.size<=b)/\ DW w' b)
 (ho:DU P (MS N (h.set k none++[some o']) (ρ++[p'])) w' (ρ++[p']) p' o'):
 BP P Γ N (h.set k none++[some o']) (ρ++[p']) w'/\ BH h ρ w (h.set k none++[some o']) (ρ++[p']) w':=by
 have K:=H.kill k;have Ah:(h.set k none).length=h.length:=by simp
 have hM: ∀ b,p.foot b -> MO h ρ b:=fun b hb=>⟨k,o,p,hk,hp,hb⟩
 have IV: ∀ {i:Nat} {o1:DO} {p1:AJ},(h.set k none++[some o'])[i]? =some (some o1) -> (ρ++[p'])[i]? =some p1 -> (i≠k/\ i<h.length/\ h[i]? =some (some o1)/\ ρ[i]? =some p1)∨(i=h.length/\ o1=o'/\ p1=p'):=by
  intro i o1 p1 h1 h2;rcases Dd h1 with ⟨hl,h1⟩ | ⟨hl,h1⟩
  ·rw [Ah] at hl;rcases Dd h2 with ⟨_,h2⟩ | ⟨Cd,_⟩
   ·exact .inl ⟨(F0 h1).1,hl,(F0 h1).2,h2⟩
   ·rw [H.len] at Cd;omega
  ·rw [Ah] at hl;rcases Dd h2 with ⟨Cd,_⟩ | ⟨_,h2⟩
   ·rw [H.len] at Cd;omega
   ·cases h1;exact .inr ⟨hl,rfl,h2.symm⟩
 have grow: ∀ b,MO (h.set k none++[some o']) (ρ++[p']) b -> MO h ρ b∨w.heap.size<=b:=by
  rintro b ⟨i,o1,p1,h1,h2,h3⟩;rcases IV h1 h2 with ⟨_,_,g1,g2⟩ | ⟨_,_,rfl⟩
  ·exact .inl ⟨i,o1,p1,g1,g2,h3⟩
  ·exact (hf b h3).1.imp (hM b) id
 have O:BV (MS N h ρ) w ρ (MS N (h.set k none++[some o']) (ρ++[p'])) w' (ρ++[p']):=by
  refine ⟨fun b hb hm _=>hu.block b hb fun hx=>hm (.inr (hM b hx)),fun b hb=>?_,fun i q hi=>Dz hi⟩;rcases hb with hb | hb
  ·exact .inl (.inl hb)
  ·exact (grow b hb).imp .inr id
 refine ⟨⟨by simp [H.len],fun i o1 hi=>?_,fun i o1 p1 b h1 h2 h3=>?_,fun i i' o1 o2 p1 p2 b AY h1 h2 h3 h4 h5 h6=>?_,fun b hb=>⟨zCu (H.nlt b hb).1 hu.size,(H.nlt b hb).2⟩,Γ.st _ _ H.gi (hu.mono fun b _ hb=>(H.cel k o p b hk hp hb).1)⟩,⟨hu.mono fun b _ hb=>hM b hb,grow⟩⟩
 ·rcases Dd hi with ⟨hl,hi⟩ | ⟨hl,hi⟩
  ·obtain ⟨p1,LU,hr⟩:=H.obj i o1 (F0 hi).2;refine ⟨p1,Dz LU,hr.out O hu (fun b hb=>.inr (hM b hb)) fun b _ h1 h2=>H.dis i k o1 o p1 p b (F0 hi).1 (F0 hi).2 hk LU hp h1 h2⟩
  ·cases hi;exact ⟨p',by rw [hl,Ah,←H.len];simp,ho⟩
 ·rcases IV h1 h2 with ⟨AY,_,g1,g2⟩ | ⟨_,_,rfl⟩
  ·obtain ⟨e1,e2,c,t,z,e3⟩:=H.cel i o1 p1 b g1 g2 h3;exact ⟨e1,e2,c,t,z,(hu.block b (zCl.1 e3).1 fun hx=>H.dis i k o1 o p1 p b AY g1 hk g2 hp h3 hx).trans e3⟩
  ·obtain ⟨e1,e2⟩:=hf b h3;rcases e1 with e1 | e1
   ·obtain ⟨q1,q2,_⟩:=H.cel k o p b hk hp e1;exact ⟨q1,q2,e2⟩
   ·exact ⟨zCv (Γ.lo _ H.gi) e1,fun hn=>by have:=H.nlt b hn;omega,e2⟩
 ·have key: ∀ {i o1 p1},i≠k -> h[i]? =some (some o1) -> ρ[i]? =some p1 -> p1.foot b -> p'.foot b -> False:=fun {i o1 p1} AY g1 g2 g3 g4=>by
   rcases (hf b g4).1 with e1 | e1
   ·exact H.dis i k o1 o p1 p b AY g1 hk g2 hp g3 e1
   ·have:=H.lt (.inr ⟨i,o1,p1,g1,g2,g3⟩);omega
  rcases IV h1 h3 with ⟨Rt,_,g1,g2⟩ | ⟨e1,_,rfl⟩
  ·rcases IV h2 h4 with ⟨_,_,g3,g4⟩ | ⟨_,_,rfl⟩
   ·exact H.dis i i' o1 o2 p1 p2 b AY g1 g3 g2 g4 h5 h6
   ·exact key Rt g1 g2 h5 h6
  ·rcases IV h2 h4 with ⟨M9,_,g3,g4⟩ | ⟨e2,_,rfl⟩
   ·exact key M9 g3 g4 h6 h5
   ·exact AY (e1.trans e2.symm)
def Hx (n:Nat) (R:Nat -> Value -> Prop) (Bw:List Value) (j:Nat) (u:Value):Prop:=if j<n then R j u else Bw[j-n]? =some u
theorem be {t ty e:TypeId} {i:TypeInfo} {z:Value} (hu:P.underlying t=some (.slice e)) (hi:P.info? e=some i) (hz:i.zero=some z) (IZ:i.size≠0) (Cb:z.cells.size=i.size) (Dc:i.bytes<=128)
 {p:AJ} {n cap:Nat} {R:Nat -> Value -> Prop} (hr:Ab w p (n*i.size) R) (La:n<=cap) (Ve:p.off+cap*i.size<=p.room)
 {vy:Value} {c:Nat} {Bw:List Value} (hy:Src P i.size t vy c Bw w) (hb:n+c<=1000000000000):
 ∃ w' p' By,(Builtin.append_ #[t,t] ty #[.slice (some ⟨p.blk,p.off,none⟩) n cap,vy]).run P w= .ok (.slice (some ⟨p'.blk,p'.off,none⟩) (n+c) By) w'/\ n+c<=By/\ p'.off+By*i.size<=p'.room/\
  AO p.foot w w'/\ (∀ b,p'.foot b -> p.foot b∨w.heap.size<=b)/\ Ab w' p' ((n+c)*i.size) (Hx (n*i.size) R Bw):=by
 have Fx:Bw.length=c*i.size:=hy.newsLen
 by_cases Zj:n+c<=cap
 ·obtain ⟨g1,cs,tt,g2,g3,g4,g5⟩:=hr;have yQ:(n+c)*i.size<=cap*i.size:=zD5 _ Zj;rw [zEF] at yQ;have jd:p.off+n*i.size+Bw.length<=cs.size:=by omega
  refine ⟨w.setCells p.blk (p.off+n*i.size) Bw,p,cap,run_append_room_src w t t ty e i hu hi p.blk p.off n cap vy c Bw hy Zj (fun j hj=>?_) (fun j _=>by unfold World.frozen?;simp [g2]),Zj,Ve,?_,fun b hb=>.inl hb,?_⟩
  ·unfold World.cell?;simp only [g2];simp;omega
  ·rw [g1];exact Nt _ _ _ _
  ·obtain ⟨EM,e1,e2,e3⟩:=O5 p.blk tt (0,0) Bw (p.off+n*i.size) w cs g2 jd;refine ⟨g1,EM,tt,e1,by rw [zEF];omega,by omega,fun j hj=>?_⟩;rw [zEF] at hj;rw [e3]
   by_cases KL:j<n*i.size
   ·rw [zCt (by omega)];obtain ⟨u,q1,q2⟩:=g5 j KL;exact ⟨u,q1,by unfold Hx;rw [zB3 KL];exact q2⟩
   ·rw [zB3 (by omega)];have AL:j-n*i.size<Bw.length:=by omega
    refine ⟨Bw[j-n*i.size],by rw [show p.off+j-(p.off+n*i.size)=j-n*i.size by omega];simp [AL],?_⟩;unfold Hx;rw [zCt KL];simp [AL]
 ·obtain ⟨g,hg⟩: ∃ g:Nat -> Value,∀ j,j<n*i.size -> w.cell? ⟨p.blk,p.off+j,none⟩=some (g j)/\ R j (g j):=by
   refine ⟨fun j=>(w.cell? ⟨p.blk,p.off+j,none⟩).getD undef,fun j hj=>?_⟩;obtain ⟨u,h1,h2⟩:=hr.cell hj;simp [h1,h2]
  have LV:(Builtin.firstCells i.size n (.slice (some ⟨p.blk,p.off,none⟩) n cap)).run P w.drew= .ok (((List.range (n*i.size)).map g).toArray) w.drew:=by
   have:=run_loadCells (P:=P) w.drew ⟨p.blk,p.off,none⟩ (n*i.size) g (fun j hj=>by rw [Iu];exact ((Ar.toDrew w).cell (hg j hj).1));simpa [Builtin.firstCells] using this
  have yP:(n+c)*i.bytes<=1000000000000*128:=Nat.mul_le_mul hb Dc;have Oo:=run_append_grow_src (P:=P) w t t ty e i z hu hi hz (some ⟨p.blk,p.off,none⟩) n cap _ LV vy c Bw hy (by omega) (by omega) (growslice_fits (by omega) (by omega));have Vp:n+c<=grownCap w (n+c) cap e:=grownCap_ge w (n+c) cap e
  have DR:((((List.range (n*i.size)).map g)++Bw).toArray++Builtin.zeroCells z.cells (grownCap w (n+c) cap e-(n+c))).size=grownCap w (n+c) cap e*i.size:=by
   simp only [Array.size_append,zFH,zDC,zDe,zEM,Fx,size_zeroCells,Cb,←zEF]
   congr 1;omega
  refine ⟨_,EC w (grownCap w (n+c) cap e*i.size),grownCap w (n+c) cap e,Oo,Vp,by simp [EC],?_,fun b hb=>.inr (zFW (Eq.symm hb)),?_⟩
  ·exact AO.ofExt ((Ar.toDrew w).allocR _)
  ·refine Ab.out (X1 (w:=w) (w1:=w.drew) (t:=e) (cs:=(((List.range (n*i.size)).map g)++Bw).toArray++Builtin.zeroCells z.cells (grownCap w (n+c) cap e-(n+c))) rfl DR |>fun hr=>?_) rfl (R:=fun j u=>((((List.range (n*i.size)).map g)++Bw).toArray++Builtin.zeroCells z.cells (grownCap w (n+c) cap e-(n+c)))[j]? =some u) fun j u hj Be=>?_
   ·obtain ⟨q1,cs,tt,q2,q3,q4,q5⟩:=hr;have Bx:(n+c)*i.size<=grownCap w (n+c) cap e*i.size:=zD5 _ Vp;exact ⟨q1,cs,tt,q2,by omega,q4,fun j hj=>q5 j (by omega)⟩
   ·rw [zEF] at hj;unfold Hx;have FL:j<(((List.range (n*i.size)).map g)++Bw).length:=by simp;omega
    rw [zED (by simpa using FL)] at Be
    by_cases KL:j<n*i.size
    ·rw [zB3 KL]
     have:u=g j:=by
      simp only [zFK] at Be;rw [zC8 (by simpa using KL)] at Be;simp [KL] at Be;exact Be.symm
     rw [this];exact (hg j KL).2
    ·rw [zCt KL];simp only [zFK] at Be;rw [zDJ (by simp;omega)] at Be;simpa using Be
theorem bg (ad:Option Addr:=none) {t ty e:TypeId} {i:TypeInfo} {z:Value} (hu:P.underlying t=some (.slice e)) (hi:P.info? e=some i) (hz:i.zero=some z) (Cb:z.cells.size=i.size) (Dc:i.bytes<=128)
 {vy:Value} {c:Nat} {Bw:List Value} (hy:Src P i.size t vy c Bw w) (hc:0<c) (hb:c<=1000000000000):
 ∃ w' By,(Builtin.append_ #[t,t] ty #[.slice ad 0 0,vy]).run P w= .ok (.slice (some ⟨w.heap.size,0,none⟩) c By) w'/\ c<=By/\ ∃ cs,w'=w.drew.alloc (.cells cs e)/\ cs.size=By*i.size/\ ∀ j,j<c*i.size -> cs[j]? =Bw[j]? :=by
 have Fx:Bw.length=c*i.size:=hy.newsLen;have LV:(Builtin.firstCells i.size 0 (.slice ad 0 0)).run P w.drew= .ok (([]:List Value).toArray) w.drew:=by cases ad <;> simp [Builtin.firstCells,loadCells,loadCellsFrom]
 have yP:c*i.bytes<=1000000000000*128:=Nat.mul_le_mul hb Dc;have Oo:=run_append_grow_src (P:=P) w t t ty e i z hu hi hz ad 0 0 [] LV vy c Bw hy (by omega) (by omega) (growslice_fits (by omega) (by rw [zC4];omega));rw [zC4] at Oo;have Vp:c<=grownCap w c 0 e:=grownCap_ge w c 0 e;refine ⟨_,_,Oo,Vp,_,rfl,?_,fun j hj=>?_⟩
 ·simp only [zD2,Array.size_append,zFH,Fx,size_zeroCells,Cb,←zEF]
  congr 1;omega
 ·rw [zED (by simp;omega)];simp
end
end Go.Proofs.YtgkhhfnhacibcaaGreatDoor
namespace Go.Proofs.YtgkhhfnhacibcaaGreatDoor
abbrev zDr:=@List.mem_map
abbrev zEJ:=@Nat.eq_zero_or_pos
abbrev zFN:=@Nat.le_of_not_lt
end Go.Proofs.YtgkhhfnhacibcaaGreatDoor
namespace Go.Proofs.YtgkhhfnhacibcaaGreatDoor
open Go.RowKit
def Rb (S:St):DV -> Option (List Int×Prop)
 | .nils=>some ([],True)
 | .ints l=>some (l,True)
 | .msl k m off n=>match S.h[k]? with
  | some (some (.ints l))=>if m==1 then some (l,off=0/\ n=l.length) else none
  | _=>none
 | _=>none
def bS (S:St):DV -> Option (List Bool×Prop)
 | .nils=>some ([],True)
 | .bools l=>some (l,True)
 | .msl k m off n=>match S.h[k]? with
  | some (some (.bools l))=>if m==1 then some (l,off=0/\ n=l.length) else none
  | _=>none
 | _=>none
def al (S:St) (m:Nat):DV -> Option (Nat×(Nat -> Nat -> DV)×Prop)
 | .nils=>some (0,(fun _ _=>.any),True)
 | .sl m' n f=>if m'==m then some (n,f,True) else none
 | .msl k m' off n=>match S.h[k]? with
  | some (some (.arr m2 n2 f))=>if m'==m&&m2==m then some (n2,f,off=0/\ n=n2) else none
  | _=>none
 | _=>none
def BE:Nat:=1000000000000
def br (P:Program) (S:St) (t:TypeId) (x y:DV):Option (DV×DH×Prop):=match KU P t with
 | some (k,_,i,_)=>if 128<i.bytes then none else match k with
  | .ints=>match Rb S y with
   | some (ys,vy)=>match x with
    | .nils=>some (.msl S.h.length 1 0 ys.length,S.h++[some (.ints ys)],vy/\ 0<ys.length/\ ys.length<=BE)
    | .msl k m off n=>match S.h[k]? with
     | some (some (.ints xs))=>if m==1 then some (.msl S.h.length 1 0 (xs.length+ys.length),S.h.set k none++[some (.ints (xs++ys))],vy/\ (off=0/\ n=xs.length)/\ xs.length+ys.length<=BE) else none
     | _=>none
    | _=>none
   | none=>none
  | .bools=>match bS S y with
   | some (ys,vy)=>match x with
    | .nils=>some (.msl S.h.length 1 0 ys.length,S.h++[some (.bools ys)],vy/\ 0<ys.length/\ ys.length<=BE)
    | .msl k m off n=>match S.h[k]? with
     | some (some (.bools xs))=>if m==1 then some (.msl S.h.length 1 0 (xs.length+ys.length),S.h.set k none++[some (.bools (xs++ys))],vy/\ (off=0/\ n=xs.length)/\ xs.length+ys.length<=BE) else none
     | _=>none
    | _=>none
   | none=>none
  | .gen m=>match al S m y with
   | some (c,g,vy)=>match x with
    | .nils=>some (.msl S.h.length m 0 c,S.h++[some (.arr m c g)],(vy/\ ∀ i j,i<c -> j<m -> Mf (g i j)=true)/\ 0<c/\ c<=BE)
    | .msl k m' off n=>match S.h[k]? with
     | some (some (.arr m2 n2 f))=>if m'==m&&m2==m then some (.msl S.h.length m 0 (n2+c),S.h.set k none++[some (.arr m (n2+c) (fun i j=>if i<n2 then f i j else g (i-n2) j))],(vy/\ ∀ i j,i<c -> j<m -> Mf (g i j)=true)/\ (off=0/\ n=n2)/\ n2+c<=BE) else none
     | _=>none
    | _=>none
   | none=>none
 | none=>none
section
variable {P:Program} {Γ:A1} {N:Nat -> Prop} {S:St} {ρ:List AJ} {a:Act} {w:World} {h:DH}
theorem QD {t e:TypeId} (hu:P.underlying t=some (.slice e)) {m:Nat} {ad:Option Addr} {c cap:Nat} {Bw:List Value} (hl:Bw.length=c*m) (hc: ∀ j u,Bw[j]? =some u -> ∃ b o,ad=some ⟨b,o,none⟩/\ w.cell? ⟨b,o+j,none⟩=some u)
 (h1: ∀ u∈Bw,u.oneCell'=true) (hm:0<m) (Z6:ad=none -> c=0):Src P m t (.slice ad c cap) c Bw w:=by
 cases ad with
 | none=>
  have:=Z6 rfl;subst this;have:Bw= []:=zDl (by simpa using hl);subst this;exact Src.ofNil w hu cap
 | some ad=>
  refine Src.ofSlice w hu ad c cap Bw hl (fun j u hj=>?_) h1;obtain ⟨b,o,e1,e2⟩:=hc j u hj;cases e1;rw [Iu];exact e2
theorem Ra (R:Ac P Γ N S ρ a w) {t e:TypeId} (hu:P.underlying t=some (.slice e)) {y:DV} {v:Value} (hy:AK (MS N S.h ρ) w y ρ v) {ys:List Int} {vy:Prop} (h:Rb S y=some (ys,vy)) (hv:vy):
 Src P 1 t v ys.length (ys.map (Value.int .i64)) w:=by
 have one: ∀ u∈ys.map (Value.int .i64),u.oneCell'=true:=fun u hu=>by obtain ⟨n,_,rfl⟩:=zDr.1 hu;rfl
 have val: ∀ {j:Nat} {u:Value},(ys.map (Value.int .i64))[j]? =some u -> j<ys.length/\ u= .int .i64 (ys.getD j 0):=fun {j u} hj=>by
  have AL:=(zCr.1 hj).1;have AL:j<ys.length:=by simpa using AL
  simp [AL] at hj;exact ⟨AL,by rw [←hj];simp [AL]⟩
 unfold Rb at h;split at h
 ·cases h;rw [show v=_ from hy];exact Src.ofNil w hu 0
 ·cases h;obtain ⟨ad,cap,rfl,h1,h2,h3⟩:=hy;refine QD hu (by simp) (fun j u hj=>?_) one (by omega) (fun e=>?_)
  ·obtain ⟨AL,rfl⟩:=val hj;obtain ⟨b,o,e1,_,e2⟩:=h3 j AL;exact ⟨b,o,e1,e2⟩
  ·rcases zEJ ys.length with h0 | h0
   ·exact h0
   ·obtain ⟨b,o,e1,_⟩:=h3 0 h0;rw [e] at e1;cases e1
 ·rename_i k m off n;obtain ⟨p,cap,hp,rfl,h1,h2,h3⟩:=hy;split at h
  ·rename_i l hk;split at h
   ·rename_i hm;cases h;have CE:m=1:=by simpa using hm
    subst CE;obtain ⟨p',A2,hr⟩:=R.hr.obj k _ hk;have e:p'=p:=zCq (A2.symm.trans hp);subst e;obtain ⟨rfl,rfl⟩:=hv;refine QD hu (by simp) (fun j u hj=>?_) one (by omega) (fun e=>by cases e);obtain ⟨AL,rfl⟩:=val hj;obtain ⟨u,e1,e2⟩:=Ab.cell hr AL;exact ⟨p'.blk,p'.off,by simp,by rw [e1,e2]⟩
   ·cases h
  ·cases h
 ·cases h
theorem lj (R:Ac P Γ N S ρ a w) {t e:TypeId} (hu:P.underlying t=some (.slice e)) {y:DV} {v:Value} (hy:AK (MS N S.h ρ) w y ρ v) {ys:List Bool} {vy:Prop} (h:bS S y=some (ys,vy)) (hv:vy):
 Src P 1 t v ys.length (ys.map Value.bool) w:=by
 have one: ∀ u∈ys.map Value.bool,u.oneCell'=true:=fun u hu=>by obtain ⟨n,_,rfl⟩:=zDr.1 hu;rfl
 have val: ∀ {j:Nat} {u:Value},(ys.map Value.bool)[j]? =some u -> j<ys.length/\ u= .bool (ys.getD j false):=fun {j u} hj=>by
  have AL:=(zCr.1 hj).1;have AL:j<ys.length:=by simpa using AL
  simp [AL] at hj;exact ⟨AL,by rw [←hj];simp [AL]⟩
 unfold bS at h;split at h
 ·cases h;rw [show v=_ from hy];exact Src.ofNil w hu 0
 ·cases h;obtain ⟨ad,cap,rfl,h1,h2,h3⟩:=hy;refine QD hu (by simp) (fun j u hj=>?_) one (by omega) (fun e=>?_)
  ·obtain ⟨AL,rfl⟩:=val hj;obtain ⟨b,o,e1,_,e2⟩:=h3 j AL;exact ⟨b,o,e1,e2⟩
  ·rcases zEJ ys.length with h0 | h0
   ·exact h0
   ·obtain ⟨b,o,e1,_⟩:=h3 0 h0;rw [e] at e1;cases e1
 ·rename_i k m off n;obtain ⟨p,cap,hp,rfl,h1,h2,h3⟩:=hy;split at h
  ·rename_i l hk;split at h
   ·rename_i hm;cases h;have CE:m=1:=by simpa using hm
    subst CE;obtain ⟨p',A2,hr⟩:=R.hr.obj k _ hk;have e:p'=p:=zCq (A2.symm.trans hp);subst e;obtain ⟨rfl,rfl⟩:=hv;refine QD hu (by simp) (fun j u hj=>?_) one (by omega) (fun e=>by cases e);obtain ⟨AL,rfl⟩:=val hj;obtain ⟨u,e1,e2⟩:=Ab.cell hr AL;exact ⟨p'.blk,p'.off,by simp,by rw [e1,e2]⟩
   ·cases h
  ·cases h
 ·cases h
theorem SR {ρ':Operand -> Value} {o:Oper} {c:Call} {x y:Operand} {t t2:TypeId} (ho:o.op= .call c) (hc:c.callee= .builtin .append) (ha:c.args.toList= [x,y]) (ht:c.argTypes.toList= [t,t2]):
 execOp ρ' o=(do pure (.value (←Builtin.append_ #[t,t2] o.type #[ρ' x,ρ' y]))):=by
 unfold execOp;rw [ho]
 show (resolve ρ' c o.type>>=fun d=>invoke d.target d.args)=_
 unfold resolve;rw [hc,Ta ha,Ta ht];simp;rfl
theorem bf (R:Ac P Γ N S ρ a w) {t e:TypeId} {i:TypeInfo} {z:Value} (hu:P.underlying t=some (.slice e)) (hi:P.info? e=some i) (hz:i.zero=some z) (IZ:i.size≠0) (Cb:z.cells.size=i.size) (Dc:i.bytes<=128)
 {k:Nat} {ob ob':DO} {p:AJ} (hk:S.h[k]? =some (some ob)) (hp:ρ[k]? =some p) {n cap c:Nat} {Rw:Nat -> Value -> Prop} (hr:Ab w p (n*i.size) Rw) (La:n<=cap) (Ve:p.off+cap*i.size<=p.room)
 {vy:Value} {Bw:List Value} (hy:Src P i.size t vy c Bw w) (hb:n+c<=BE)
 (Hp: ∀ M ρ' w' p',BV (MS N S.h ρ) w ρ M w' ρ' -> Ab w' p' ((n+c)*i.size) (Hx (n*i.size) Rw Bw) -> DU P M w' ρ' p' ob')
 (o:Oper) {cl:Call} {x y:Operand} (ho:o.op= .call cl) (hc:cl.callee= .builtin .append) (ha:cl.args.toList= [x,y]) (ht:cl.argTypes.toList= [t,t]) (hx:a.eval x= .slice (some ⟨p.blk,p.off,none⟩) n cap) (Za:a.eval y=vy):
 BM P (execOp a.eval o) w (DJ P Γ N S.h ρ w false (.msl S.h.length i.size 0 (n+c)) (S.h.set k none++[some ob'])):=by
 obtain ⟨w',p',By,h1,h2,h3,h4,h5,h6⟩:=be (ty:=o.type) hu hi hz IZ Cb Dc hr La Ve hy hb;refine BM.value (SR ho hc ha ht) (by rw [hx,Za];exact h1) ?_
 have zB: ∀ b,p'.foot b -> DW w' b:=fun b hb=>by
  obtain ⟨e1,cs,tt,e2,_⟩:=h6;rw [e1] at hb;exact .cells (c:=cs) (t:=tt) (z:=(0,0)) (by rw [show b=p'.blk from hb];exact e2)
 have Ah:(S.h.set k none).length=S.h.length:=by simp
 have O:BV (MS N S.h ρ) w ρ (MS N (S.h.set k none++[some ob']) (ρ++[p'])) w' (ρ++[p']):=by
  refine ⟨fun b hb hm _=>h4.block b hb fun hx=>hm (.inr ⟨k,ob,p,hk,hp,hx⟩),fun b hb=>?_,fun i q hi=>Dz hi⟩;rcases hb with hb | hb
  ·exact .inl (.inl hb)
  ·obtain ⟨i1,o1,p1,g1,g2,g3⟩:=hb;rcases Dd g1 with ⟨hl,g1⟩ | ⟨hl,_⟩
   ·rcases Dd g2 with ⟨_,g2⟩ | ⟨Cd,_⟩
    ·exact .inl (.inr ⟨i1,o1,p1,(F0 g1).2,g2,g3⟩)
    ·rw [Ah] at hl;rw [R.hr.len] at Cd;omega
   ·rcases Dd g2 with ⟨Cd,_⟩ | ⟨_,rfl⟩
    ·rw [Ah] at hl;rw [R.hr.len] at Cd;omega
    ·exact (h5 b g3).imp (fun hx=>.inr ⟨k,ob,p,hk,hp,hx⟩) id
 obtain ⟨g1,g2⟩:=R.hr.regrow (o':=ob') hk hp h4 (fun b hb=>⟨h5 b hb,zB b hb⟩) (Hp _ _ _ _ O h6);refine ⟨⟨ρ++[p'],g1,⟨p',By,by rw [←R.hr.len];simp,by simp,h2,by unfold LB;unfold BE at hb;omega,by simpa using h3⟩,g2,fun _ _ h=>Dz h⟩,fun h=>by cases h⟩
theorem bk (R:Ac P Γ N S ρ a w) {t e:TypeId} {i:TypeInfo} {z:Value} (hu:P.underlying t=some (.slice e)) (hi:P.info? e=some i) (hz:i.zero=some z) (Cb:z.cells.size=i.size) (Dc:i.bytes<=128)
 {ob':DO} {c:Nat} {vy:Value} {Bw:List Value} (hy:Src P i.size t vy c Bw w) (NJ:0<c) (hb:c<=BE)
 (Hp: ∀ M ρ' w' p',BV (MS N S.h ρ) w ρ M w' ρ' -> Ab w' p' (c*i.size) (fun j u=>Bw[j]? =some u) -> DU P M w' ρ' p' ob') (ext:Bool)
 (o:Oper) {cl:Call} {x y:Operand} (ho:o.op= .call cl) (hc:cl.callee= .builtin .append) (ha:cl.args.toList= [x,y]) (ht:cl.argTypes.toList= [t,t]) (hx:a.eval x= .slice none 0 0) (Za:a.eval y=vy):
 BM P (execOp a.eval o) w (DJ P Γ N S.h ρ w ext (.msl S.h.length i.size 0 c) (S.h++[some ob'])):=by
 obtain ⟨w',By,h1,h2,cs,rfl,h4,h5⟩:=bg none (ty:=o.type) hu hi hz Cb Dc hy NJ hb;have Fx:Bw.length=c*i.size:=hy.newsLen;refine BM.value (SR ho hc ha ht) (by rw [hx,Za];exact h1) ?_;have Bx:c*i.size<=By*i.size:=zD5 _ h2;refine PB (d:=.msl S.h.length i.size 0 c) R.hr ⟨Ar.toDrew w,rfl⟩ (fun M ρ' O=>Hp _ _ _ _ O ?_) (fun M ρ' hp=>⟨_,By,hp,by simp [EC],h2,by unfold LB;unfold BE at hb;omega,by simp only [EC];omega⟩) ext;refine MM rfl (by omega) fun j hj=>?_
 rw [h5 j hj];exact ⟨Bw[j],by simp [Fx,hj],by simp [Fx,hj]⟩
theorem ZF {xs ys:List Int} {M:Nat -> Prop} {w':World} {ρ':List AJ} {p':AJ} {s:Nat} (hs:s=1) (h:Ab w' p' ((xs.length+ys.length)*s) (Hx (xs.length*s) (fun j u=>u= .int .i64 (xs.getD j 0)) (ys.map (Value.int .i64)))):DU P M w' ρ' p' (.ints (xs++ys)):=by
 subst hs
 show Ab _ _ (xs++ys).length _
 rw [zDC];rw [zDf,zDf] at h;refine Ab.out h rfl fun j u hj hu=>?_
 unfold Hx at hu;split at hu
 ·rename_i AL;rw [hu];simp [u8,zC8 AL]
 ·rename_i AL;have Fy:j-xs.length<ys.length:=by omega
  simp [Fy] at hu;rw [←hu];simp [u8,zDJ (zFN AL),Fy]
theorem zBt {xs ys:List Bool} {M:Nat -> Prop} {w':World} {ρ':List AJ} {p':AJ} {s:Nat} (hs:s=1) (h:Ab w' p' ((xs.length+ys.length)*s) (Hx (xs.length*s) (fun j u=>u= .bool (xs.getD j false)) (ys.map Value.bool))):DU P M w' ρ' p' (.bools (xs++ys)):=by
 subst hs
 show Ab _ _ (xs++ys).length _
 rw [zDC];rw [zDf,zDf] at h;refine Ab.out h rfl fun j u hj hu=>?_
 unfold Hx at hu;split at hu
 ·rename_i AL;rw [hu];simp [u8,zC8 AL]
 ·rename_i AL;have Fy:j-xs.length<ys.length:=by omega
  simp [Fy] at hu;rw [←hu];simp [u8,zDJ (zFN AL),Fy]
theorem kF (R:Ac P Γ N S ρ a w) {t e:TypeId} (hu:P.underlying t=some (.slice e)) {y:DV} {v:Value} (hy:AK (MS N S.h ρ) w y ρ v) {m c:Nat} (AC:0<m) {g:Nat -> Nat -> DV} {vy:Prop} (h:al S m y=some (c,g,vy)) (hv:vy)
 (h1: ∀ i j,i<c -> j<m -> Mf (g i j)=true): ∃ Bw,Src P m t v c Bw w/\ ∀ j u,Bw[j]? =some u -> AK (MS N S.h ρ) w (g (j/m) (j % m)) [] u:=by
 have dm: ∀ {j:Nat},j<c*m -> j/m<c/\ j % m<m/\ j/m*m+j % m=j:=fun {j} hj=>⟨by rw [zEV AC];exact hj,zFY _ AC,by rw [zEL];exact Nat.div_add_mod j m⟩
 have bB: ∀ (ad:Option Addr) (cap:Nat),(∀ j,j<c*m -> ∃ b o u,ad=some ⟨b,o,none⟩/\ w.cell? ⟨b,o+j,none⟩=some u/\ AK (MS N S.h ρ) w (g (j/m) (j % m)) [] u) -> v= .slice ad c cap -> (ad=none -> c=0) ->
  ∃ Bw,Src P m t v c Bw w/\ ∀ j u,Bw[j]? =some u -> AK (MS N S.h ρ) w (g (j/m) (j % m)) [] u:=by
  intro ad cap hc wP Z6
  obtain ⟨f,hf⟩: ∃ f:Nat -> Value,∀ j,j<c*m -> ∃ b o,ad=some ⟨b,o,none⟩/\ w.cell? ⟨b,o+j,none⟩=some (f j)/\ AK (MS N S.h ρ) w (g (j/m) (j % m)) [] (f j):=by
   refine ⟨fun j=>(match ad with | some a=>w.cell? ⟨a.block,a.off+j,none⟩ | none=>none).getD undef,fun j hj=>?_⟩;obtain ⟨b,o,u,rfl,e2,e3⟩:=hc j hj;exact ⟨b,o,rfl,by simp [e2],by simpa [e2] using e3⟩
  have val: ∀ {j:Nat} {u:Value},((List.range (c*m)).map f)[j]? =some u -> j<c*m/\ u=f j:=fun {j u} hj=>by
   have AL:=(zCr.1 hj).1;have AL:j<c*m:=by simpa using AL
   simp [AL] at hj;exact ⟨AL,hj.symm⟩
  refine ⟨(List.range (c*m)).map f,?_,fun j u hj=>?_⟩
  ·rw [wP];refine QD hu (by simp) (fun j u hj=>?_) (fun u Be=>?_) AC Z6
   ·obtain ⟨AL,rfl⟩:=val hj;obtain ⟨b,o,e1,e2,_⟩:=hf j AL;exact ⟨b,o,e1,e2⟩
   ·obtain ⟨j,hj,rfl⟩:=zDr.1 Be;have AL:=zCy.1 hj;obtain ⟨_,_,_,_,e3⟩:=hf j AL;exact (Us (h1 _ _ (dm AL).1 (dm AL).2.1) e3).1
  ·obtain ⟨AL,rfl⟩:=val hj;obtain ⟨_,_,_,_,e3⟩:=hf j AL;exact e3
 unfold al at h;split at h
 ·cases h;refine bB none 0 (fun j hj=>by rw [Nat.zero_mul] at hj;omega) hy (fun _=>rfl)
 ·rename_i m' n f;split at h
  ·rename_i hm;cases h;have CE:m'=m:=by simpa using hm
   subst CE;obtain ⟨ad,cap,rfl,g1,g2,g3⟩:=hy;refine bB ad cap (fun j hj=>?_) rfl (fun e=>?_)
   ·obtain ⟨b,o,u,e1,_,e2,e3⟩:=g3 _ _ (dm hj).1 (dm hj).2.1;exact ⟨b,o,u,e1,by rw [(dm hj).2.2] at e2;exact e2,e3⟩
   ·rcases zEJ c with h0 | h0
    ·exact h0
    ·obtain ⟨b,o,u,e1,_⟩:=g3 0 0 h0 AC;rw [e] at e1;cases e1
  ·cases h
 ·rename_i k m' off n;obtain ⟨p,cap,hp,rfl,g1,g2,g3⟩:=hy;split at h
  ·rename_i m2 n2 f hk;split at h
   ·rename_i hm;cases h;simp only [zCp,zDB] at hm;obtain ⟨rfl,rfl⟩:=hm;obtain ⟨p',A2,hr⟩:=R.hr.obj k _ hk;have e:p'=p:=zCq (A2.symm.trans hp);subst e;obtain ⟨rfl,rfl⟩:=hv;refine bB (some ⟨p'.blk,p'.off+0*m2,none⟩) cap (fun j hj=>?_) rfl (fun e=>by cases e);obtain ⟨u,e1,e2⟩:=Ab.cell hr hj;exact ⟨p'.blk,p'.off,u,by simp,e1,e2⟩
   ·cases h
  ·cases h
 ·cases h
theorem zCJ (R:Ac P Γ N S ρ a w) {t:TypeId} {x y:Operand} {d:DV} {h':DH} {vc:Prop} (hd:br P S t (Aa S.fr x) (Aa S.fr y)=some (d,h',vc)) (hv:vc) (o:Oper) {cl:Call} (ho:o.op= .call cl) (hc:cl.callee= .builtin .append)
 (ha:cl.args.toList= [x,y]) (ht:cl.argTypes.toList= [t,t]):BM P (execOp a.eval o) w (DJ P Γ N S.h ρ w false d h'):=by
 have rx:=Bo R x;have ry:=Bo R y;unfold br at hd;split at hd
 ·rename_i kk e i z hk;obtain ⟨hu,hi,hz,h0,Cb,EG,wz,Ga⟩:=SX hk;clear wz Ga;split at hd
  ·cases hd
  ·rename_i Dc;have O7:i.bytes<=128:=by omega
   split at hd
   ·have Co:i.size=1:=EG.symm;split at hd
    ·rename_i ys vy hy;split at hd
     ·rename_i ex;cases hd;rw [ex] at rx
      have:=bk (ob':=.ints ys) R hu hi hz Cb O7 (by rw [Co];exact Ra R hu ry hy hv.1) hv.2.1 hv.2.2 (fun M ρ' w' p' O hr=>by
       have Cy:=hr;rw [Co,zDf] at Cy;refine Ab.out Cy rfl fun j u hj Be=>?_
       simp [hj] at Be;rw [←Be];simp [hj]) false o ho hc ha ht rx rfl
      rw [Co] at this;exact this
     ·rename_i k m off n ex;rw [ex] at rx;obtain ⟨p,cap,hp,hx,g1,g2,g3⟩:=rx;split at hd
      ·rename_i xs LW;split at hd
       ·rename_i hm;cases hd;have CE:m=1:=by simpa using hm
        subst CE;obtain ⟨q1,⟨rfl,rfl⟩,q3⟩:=hv;obtain ⟨p',A2,hr⟩:=R.hr.obj k _ LW;have e:p'=p:=zCq (A2.symm.trans hp);subst e
        have:=bf (ob':=.ints (xs++ys)) (n:=xs.length) (cap:=cap) (c:=ys.length) R hu hi hz h0 Cb O7 LW hp (Rw:=fun j u=>u= .int .i64 (xs.getD j 0)) (by rw [Co,zDf];exact hr) g1 (by rw [Co];simpa using g3) (by rw [Co];exact Ra R hu ry hy q1) q3
         (fun M ρ' w' p' O hr=>ZF Co hr) o ho hc ha ht (by simpa using hx) rfl
        rw [Co] at this;exact this
       ·cases hd
      ·cases hd
     ·cases hd
    ·cases hd
   ·have Co:i.size=1:=EG.symm;split at hd
    ·rename_i ys vy hy;split at hd
     ·rename_i ex;cases hd;rw [ex] at rx
      have:=bk (ob':=.bools ys) R hu hi hz Cb O7 (by rw [Co];exact lj R hu ry hy hv.1) hv.2.1 hv.2.2 (fun M ρ' w' p' O hr=>by
       have Cy:=hr;rw [Co,zDf] at Cy;refine Ab.out Cy rfl fun j u hj Be=>?_
       simp [hj] at Be;rw [←Be];simp [hj]) false o ho hc ha ht rx rfl
      rw [Co] at this;exact this
     ·rename_i k m off n ex;rw [ex] at rx;obtain ⟨p,cap,hp,hx,g1,g2,g3⟩:=rx;split at hd
      ·rename_i xs LW;split at hd
       ·rename_i hm;cases hd;have CE:m=1:=by simpa using hm
        subst CE;obtain ⟨q1,⟨rfl,rfl⟩,q3⟩:=hv;obtain ⟨p',A2,hr⟩:=R.hr.obj k _ LW;have e:p'=p:=zCq (A2.symm.trans hp);subst e
        have:=bf (ob':=.bools (xs++ys)) (n:=xs.length) (cap:=cap) (c:=ys.length) R hu hi hz h0 Cb O7 LW hp (Rw:=fun j u=>u= .bool (xs.getD j false)) (by rw [Co,zDf];exact hr) g1 (by rw [Co];simpa using g3) (by rw [Co];exact lj R hu ry hy q1) q3
         (fun M ρ' w' p' O hr=>zBt Co hr) o ho hc ha ht (by simpa using hx) rfl
        rw [Co] at this;exact this
       ·cases hd
      ·cases hd
     ·cases hd
    ·cases hd
   ·rename_i m;have Cn:i.size=m:=EG.symm;have AC:0<m:=by omega
    split at hd
    ·rename_i c g vy hy;split at hd
     ·rename_i ex;cases hd;rw [ex] at rx;obtain ⟨Bw,Ze,Z7⟩:=kF R hu ry AC hy hv.1.1 hv.1.2
      have:=bk (ob':=.arr m c g) R hu hi hz Cb O7 (by rw [Cn];exact Ze) hv.2.1 hv.2.2 (fun M ρ' w' p' O hr=>by
       rw [Cn] at hr;exact Ab.out hr rfl fun j u hj Be=>AK.out _ O.nil (Z7 j u Be)) false o ho hc ha ht rx rfl
      rw [Cn] at this;exact this
     ·rename_i k m' off n ex;rw [ex] at rx;obtain ⟨p,cap,hp,hx,g1,g2,g3⟩:=rx;split at hd
      ·rename_i m2 n2 f LW;split at hd
       ·rename_i hm;cases hd;simp only [zCp,zDB] at hm;obtain ⟨rfl,rfl⟩:=hm;obtain ⟨q1,⟨rfl,rfl⟩,q3⟩:=hv;obtain ⟨p',A2,hr⟩:=R.hr.obj k _ LW;have e:p'=p:=zCq (A2.symm.trans hp);subst e;obtain ⟨Bw,Ze,Z7⟩:=kF R hu ry AC hy q1.1 q1.2
        have:=bf (ob':=.arr m2 (n+c) (fun i j=>if i<n then f i j else g (i-n) j)) (n:=n) (cap:=cap) (c:=c) R hu hi hz h0 Cb O7 LW hp (Rw:=fun j u=>AK (MS N S.h ρ) w (f (j/m2) (j % m2)) [] u) (by rw [Cn];exact hr) g1 (by rw [Cn];simpa using g3) (by rw [Cn];exact Ze) q3
         (fun M ρ' w' p' O hr=>by
          rw [Cn] at hr;refine Ab.out hr rfl fun j u hj Be=>?_
          show AK M w' (if j/m2<n then f (j/m2) (j % m2) else g (j/m2-n) (j % m2)) [] u
          unfold Hx at Be
          by_cases AL:j<n*m2
          ·rw [zB3 AL] at Be;rw [zB3 (by rw [zEV AC];exact AL)];exact AK.out _ O.nil Be
          ·rw [zCt AL] at Be;rw [zCt (by rw [zEV AC];exact AL)];have h1:=Z7 _ _ Be;have e1:(j-n*m2)/m2=j/m2-n:=by rw [zEL n m2];exact Nat.sub_mul_div ..
           have e2:(j-n*m2) % m2=j % m2:=by
            have Fy:j=(j-n*m2)+n*m2:=by omega
            rw [Fy,Nat.add_mul_mod_self_right,Nat.add_sub_cancel]
           rw [e1,e2] at h1;exact AK.out _ O.nil h1) o ho hc ha ht (by simpa using hx) rfl
        rw [Cn] at this;exact this
       ·cases hd
      ·cases hd
     ·cases hd
    ·cases hd
 ·cases hd
end
end Go.Proofs.YtgkhhfnhacibcaaGreatDoor
namespace Go.Proofs.YtgkhhfnhacibcaaGreatDoor
abbrev zDG:=@Bool.true_and
abbrev zDR:=@Bool.not_true
abbrev zD8:=@List.map_cons
abbrev zEA:=@List.getElem?_drop
abbrev zE2:=@List.length_drop
abbrev zFU:=@Go.run_equalIn_int
end Go.Proofs.YtgkhhfnhacibcaaGreatDoor
namespace Go.Proofs.YtgkhhfnhacibcaaGreatDoor
open Go.RowKit
def WH (IQ:Nat -> Option (Nat×Nat)) (cells:List DV):List (Nat×DV) -> Option (List DV)
 | []=>some cells
 | (i,d)::rest=>match IQ i with
  | none=>none
  | some (off,size)=>match In d with
   | none=>none
   | some l=>if l.length=size/\ off+l.length<=cells.length then WH IQ (MD cells off l) rest else none
def YL (P:Program) (t:TypeId):Option (Value×(Nat -> Option (Nat×Nat))):=match P.info? t with
 | some it=>match P.underlying t with
  | some (.array _ e)=>match it.zero with
   | some z=>match P.info? e with
    | some ie=>some (z,fun i=>some (i*ie.size,ie.size))
    | none=>none
   | none=>none
  | some (.struct zAI)=>match it.zero with
   | some z=>match zAI.toList.mapM (fun f=>(P.info? f.type).map fun i=>(f.offset,i.size)) with
    | some Ua=>some (z,fun i=>Ua.toArray[i]?)
    | none=>none
   | none=>none
  | _=>none
 | none=>none
def U7 (P:Program) (S:St) (t:TypeId) (parts:List (Nat×Operand)):Option (DV×Prop):=match YL P t with
 | some (z,IQ)=>match WH IQ (z.cells.toList.map FZ) (parts.map fun x=>(x.1,Aa S.fr x.2)) with
  | some l=>some (.agg l.length (fun j=>l.getD j .any),True)
  | none=>none
 | none=>none
def Md (P:Program) (t:TypeId) (m:Nat) (f:Nat -> DV) (off size:Nat):Option DV:=
 if off+size<=m then (if GE P t then (if size=1 then some (f off) else none) else if TL P t size then some (.agg size (GU size fun j=>f (off+j))) else none) else none
def ZB (P:Program) (t:TypeId) (x:DV) (n:Int):Option (DV×Prop):=match x with
 | .agg m f=>match P.underlying t with
  | some (.array len e)=>match P.info? e with
   | some i=>if GE P e&&i.size==1&&len==m then some (f n.toNat,0<=n/\ n<len) else none
   | none=>none
  | _=>none
 | _=>none
def WC (P:Program) (t:TypeId) (x:DV) (fi:Nat):Option (DV×Prop):=match x with
 | .agg m f=>match P.underlying t with
  | some (.struct fs)=>match fs[fi]? with
   | some fd=>match P.info? fd.type with
    | some i=>match Md P fd.type m f fd.offset i.size with
     | some d=>some (d,True)
     | none=>none
    | none=>none
   | none=>none
  | _=>none
 | _=>none
def bA (P:Program) (t:TypeId) (x:DV) (lo hi:Option Int):Option (DV×Prop):=match P.underlying t with
 | some (.slice e)=>match P.info? e with
  | some i=>match x with
   | .ints l=>if i.size=1 then some (.ints ((l.take (hi.getD l.length).toNat).drop (lo.getD 0).toNat),0<=lo.getD 0/\ lo.getD 0<=hi.getD l.length/\ hi.getD l.length<=l.length) else none
   | .bools l=>if i.size=1 then some (.bools ((l.take (hi.getD l.length).toNat).drop (lo.getD 0).toNat),0<=lo.getD 0/\ lo.getD 0<=hi.getD l.length/\ hi.getD l.length<=l.length) else none
   | .sl m n f=>if i.size=m then some (.sl m ((hi.getD n).toNat-(lo.getD 0).toNat) (fun i j=>f ((lo.getD 0).toNat+i) j),0<=lo.getD 0/\ lo.getD 0<=hi.getD n/\ hi.getD n<=n) else none
   | .msl k m off n=>if i.size=m then some (.mse k m (off+(lo.getD 0).toNat) ((hi.getD n).toNat-(lo.getD 0).toNat),0<=lo.getD 0/\ lo.getD 0<=hi.getD n/\ hi.getD n<=n) else none
   | _=>none
  | none=>none
 | _=>none
def VH (S:St):Option Operand -> Option (Option Int)
 | none=>some none
 | some x=>match Aa S.fr x with
  | .int _ n=>some (some n)
  | _=>none
def PP (f g:Nat -> DV):List Nat -> Bool
 | []=>true
 | i::is=>(Hk (f i)==Hk (g i))&&PP f g is
def WN (P:Program) (t:TypeId) (f g:Nat -> DV) (m m':Nat):Option (List Nat):=match P.underlying t with
 | some (.array n e)=>match P.info? e with
  | some i=>match P.underlying e with
   | some (.int _)=>if i.size==1&&GE P e&&P.eqGuardType P.depth t==false&&n==m&&n==m'&&(List.range n).all (fun i=>J7 (f i)&&J7 (g i)) then some (List.range n) else none
   | _=>none
  | none=>none
 | _=>none
def SU (P:Program) (op:BinOp) (t:TypeId) (x y:DV):Option (DV×Prop):=match op,x,y with
 | .eql,.agg m f,.agg m' g=>match WN P t f g m m' with
  | some is=>some (.bool (PP f g is),True)
  | none=>none
 | .neq,.agg m f,.agg m' g=>match WN P t f g m m' with
  | some is=>some (.bool (!(PP f g is)),True)
  | none=>none
 | _,_,_=>none
def Qz (P:Program) (S:St):Op -> Option (DV×Prop)
 | .build t parts=>U7 P S t parts.toList
 | .index t x i=>match Aa S.fr i with
  | .int _ n=>ZB P t (Aa S.fr x) n
  | _=>none
 | .field t x f=>WC P t (Aa S.fr x) f
 | .slice t x lo hi none=>match VH S lo with
  | some l=>match VH S hi with
   | some h=>bA P t (Aa S.fr x) l h
   | none=>none
  | none=>none
 | .binOp op t x y t'=>match SU P op t (Aa S.fr x) (Aa S.fr y) with
  | some r=>some r
  | none=>pop P S (.binOp op t x y t')
 | op=>pop P S op
section
variable {P:Program} {Γ:A1} {N:Nat -> Prop} {S:St} {ρ:List AJ} {a:Act} {w:World}
def W8 (M:Nat -> Prop) (w:World) (ρ:List AJ) (l:List DV) (cs:Array Value):Prop:=cs.size=l.length/\ ∀ j,j<l.length -> ∃ u,cs[j]? =some u/\ AK M w (l.getD j .any) ρ u
theorem mI: ∀ (vs:List Value) (k off:Nat) (cs:Array Value),((vs.zipIdx k).foldl (fun (cs:Array Value) (x:Value×Nat)=>cs.setIfInBounds (off+x.2) x.1) cs).size=cs.size/\
 ∀ j,((vs.zipIdx k).foldl (fun (cs:Array Value) (x:Value×Nat)=>cs.setIfInBounds (off+x.2) x.1) cs)[j]? =if off+k<=j/\ j<off+k+vs.length/\ j<cs.size then vs[j-(off+k)]? else cs[j]?
 | [],k,off,cs=>⟨rfl,fun j=>by
  rw [zCt]
  ·rfl
  ·simp only [zDx];omega⟩
 | v::vs,k,off,cs=>by
  obtain ⟨h1,h2⟩:=mI vs (k+1) off (cs.setIfInBounds (off+k) v);rw [List.zipIdx_cons,zDy];refine ⟨by rw [h1];simp,fun j=>?_⟩;rw [h2 j,zDn];simp only [Array.size_setIfInBounds]
  by_cases e:j=off+k
  ·subst e;rw [zCt (by omega),zDa,zB3 rfl]
   by_cases hs:off+k<cs.size
   ·rw [zB3 hs,zB3 (by omega),Nat.sub_self];rfl
   ·rw [zCt hs,zCt (by omega),zFF (by omega)]
  ·by_cases e2:off+(k+1)<=j/\ j<off+(k+1)+vs.length/\ j<cs.size
   ·rw [zB3 e2,zB3 (by omega),show j-(off+k)=(j-(off+(k+1)))+1 by omega];simp
   ·rw [zCt e2,zCt (by omega),zDa,zCt (by omega)]
theorem kS {M:Nat -> Prop} {IQ:Nat -> Option (Nat×Nat)}: ∀ (parts:List (Nat×Operand)) (l:List DV) (cs:Array Value) (r:List DV),W8 M w ρ l cs -> (∀ x,AK M w (Aa S.fr x) ρ (a.eval x)) ->
 WH IQ l (parts.map fun x=>(x.1,Aa S.fr x.2))=some r -> ∃ rs,Instr.fill IQ cs (parts.map fun x=>(x.1,a.eval x.2))=some rs/\ W8 M w ρ r rs
 | [],l,cs,r,hc,_,h=>by cases h;exact ⟨cs,rfl,hc⟩
 | (i,x)::rest,l,cs,r,hc,hr,h=>by
  simp only [zD8,WH] at h;split at h
  ·cases h
  ·rename_i off size EZ;split at h
   ·cases h
   ·rename_i ds Ff;split at h
    ·rename_i Az;obtain ⟨c1,c2⟩:=Sf Ff (hr x);have Ah:(a.eval x).cells.size=size:=by rw [c1,Az.1]
     have jd: ¬ (off+(a.eval x).cells.size>cs.size):=by rw [c1,hc.1];omega
     obtain ⟨s1,s2⟩:=mI (a.eval x).cells.toList 0 off cs
     have Hp:W8 M w ρ (MD l off ds) ((a.eval x).cells.zipIdx.foldl (fun cs (c,j)=>cs.setIfInBounds (off+j) c) cs):=by
      have e0:((a.eval x).cells.zipIdx.foldl (fun cs (c,j)=>cs.setIfInBounds (off+j) c) cs)=(((a.eval x).cells.toList.zipIdx 0).foldl (fun (cs:Array Value) (x:Value×Nat)=>cs.setIfInBounds (off+x.2) x.1) cs):=by
       rw [←Array.foldl_toList];simp
      rw [e0];refine ⟨by rw [s1,Xd,hc.1],fun j hj=>?_⟩;rw [Xd] at hj;rw [s2 j,Xf l off ds hj]
      by_cases e:off<=j/\ j<off+ds.length
      ·rw [zB3 (by simp;rw [c1,hc.1];omega),zB3 e];obtain ⟨u,g1,g2⟩:=c2 (j-off) (by omega);exact ⟨u,by simpa using g1,g2⟩
      ·rw [zCt (by simp;rw [c1];omega),zCt e];exact hc.2 j hj
     obtain ⟨rs,g1,g2⟩:=kS rest _ _ r Hp hr h;refine ⟨rs,?_,g2⟩;simp only [zD8,Instr.fill,EZ];rw [zCt (by simp only [zC7,zDH];omega)];exact g1
    ·cases h
theorem s5 {t:TypeId} {z:Value} {IQ:Nat -> Option (Nat×Nat)} (h:YL P t=some (z,IQ)) (parts:List (Nat×Value)):P.built t parts=Instr.fill IQ z.cells parts:=by
 unfold YL at h;unfold Program.built
 repeat' (split at h)
 all_goals first
  | (cases h;done)
  | (cases h;simp_all)
theorem ub (R:Ac P Γ N S ρ a w) {t:TypeId} {parts:Array (Nat×Operand)} {d:DV} {vc:Prop} (h:U7 P S t parts.toList=some (d,vc)):Yl P N w (MS N S.h ρ) ρ (Instr.build t (parts.map fun (i,x)=>(i,a.eval x))) d:=by
 unfold U7 at h;split at h
 ·rename_i z IQ hp;split at h
  ·rename_i l hl;cases h
   have h0:W8 (MS N S.h ρ) w ρ (z.cells.toList.map FZ) z.cells:=⟨by simp,fun j hj=>by
    have A3:j<z.cells.size:=by simpa using hj
    exact ⟨z.cells[j],by simp [A3],by
     have:(z.cells.toList.map FZ).getD j .any=FZ z.cells[j]:=by simp [A3]
     rw [this];exact RA _⟩⟩
   obtain ⟨rs,g1,g2,g3⟩:=kS parts.toList _ _ _ h0 (Bo R) hl;refine Yl.pure (v:=.agg rs) (fun W=>run_build W t _ rs ?_) ⟨rs,rfl,g2,g3⟩;rw [s5 hp];have e1:(parts.map fun (i,x)=>(i,a.eval x)).toList=parts.toList.map fun x=>(x.1,a.eval x.2):=by simp
   rw [e1];exact g1
  ·cases h
 ·cases h
theorem Xy {t:TypeId} {cs:Array Value} {off size m:Nat} {f:Nat -> DV} {d:DV} {M:Nat -> Prop} {i:TypeInfo} (hi:P.info? t=some i) (Az:i.size=size) (DR:cs.size=m) (hr: ∀ j,j<m -> ∃ u,cs[j]? =some u/\ AK M w (f j) ρ u) (h:Md P t m f off size=some d):Yl P N w M ρ (part t cs off) d:=by
 unfold Md at h;split at h
 ·rename_i Bx;split at h
  ·rename_i h1;split at h
   ·rename_i hs;cases h;obtain ⟨u,g1,g2⟩:=hr off (by omega);unfold GE at h1;simp only [zCp,zE7,zDT] at h1;obtain ⟨⟨dd,hd⟩,hn⟩:=h1;refine Yl.pure (v:=u) (fun W=>?_) g2;unfold part;rw [zC3,QX hd];simp [Result.andThen,hn,g1]
   ·cases h
  ·split at h
   ·rename_i h2;cases h;obtain ⟨h3,i',BD,hs'⟩:=b7 h2;have ei:i'=i:=zCq (BD.symm.trans hi);subst ei;obtain ⟨dd,hd⟩:=ib h3;refine Yl.pure (v:=.agg (cs.extract off (off+size))) (fun W=>?_) ⟨_,rfl,by simp;omega,fun j hj=>?_⟩
    ·unfold part;rw [zC3,QX hd];simp only [Result.andThen,h3,zDj];rw [zC3,I4 hi,Az];rfl
    ·obtain ⟨u,g1,g2⟩:=hr (off+j) (by omega);refine ⟨u,?_,IA hj g2⟩;rw [Array.getElem?_extract];rw [zB3 (by omega)];exact g1
   ·cases h
 ·cases h
theorem vJ (R:Ac P Γ N S ρ a w) {t:TypeId} {x d:DV} {vc:Prop} {v:Value} {k:IntKind} {n:Int} (hx:AK (MS N S.h ρ) w x ρ v) (h:ZB P t x n=some (d,vc)) (hv:vc):Yl P N w (MS N S.h ρ) ρ (Instr.index t v (.int k n)) d:=by
 unfold ZB at h;split at h
 ·rename_i m f;obtain ⟨cs,rfl,hs,hr⟩:=hx;split at h
  ·rename_i len e hu;split at h
   ·rename_i i hi;split at h
    ·rename_i hc;cases h;simp only [zCp,zDB] at hc;obtain ⟨⟨h1,h2⟩,rfl⟩:=hc
     have hp:Md P e len f n.toNat 1=some (f n.toNat):=by
      unfold Md;rw [zB3 (by omega),zB3 h1,zB3 rfl]
     obtain ⟨u,g1,g2⟩:=Xy (P:=P) hi h2 hs hr hp;refine ⟨u,fun W hE=>?_,g2⟩;unfold Instr.index;simp only [asIntOf,zC3,zE1,Result.andThen,zDY hu];rw [zB3 ⟨hv.1,hv.2⟩];simp only [zC3,I4 hi,Result.andThen,h2,zDf];exact g1 W hE
    ·cases h
   ·cases h
  ·cases h
 ·cases h
theorem z6 (R:Ac P Γ N S ρ a w) {t:TypeId} {x d:DV} {vc:Prop} {v:Value} {fi:Nat} (hx:AK (MS N S.h ρ) w x ρ v) (h:WC P t x fi=some (d,vc)):Yl P N w (MS N S.h ρ) ρ (Instr.field t v fi) d:=by
 unfold WC at h;split at h
 ·rename_i m f;obtain ⟨cs,rfl,hs,hr⟩:=hx;split at h
  ·rename_i fs hu;split at h
   ·rename_i fd hf;split at h
    ·rename_i i hi;split at h
     ·rename_i d' hp;cases h;obtain ⟨u,g1,g2⟩:=Xy (P:=P) hi rfl hs hr hp;refine ⟨u,fun W hE=>?_,g2⟩;unfold Instr.field;simp only [zC3,zDY hu,Result.andThen,hf,asAgg,zE1];exact g1 W hE
     ·cases h
    ·cases h
   ·cases h
  ·cases h
 ·cases h
theorem qw {k:IntKind} {n:Int} {y:Nat} {c:BoundsCode} (h0:0<=n) (h1:n<=y) (W:World):(Instr.sliceBound (.int k n) y c).run P W= .ok n.toNat W:=by
 unfold Instr.sliceBound;simp only [asIntOf,zC3,zE1,Result.andThen];rw [zB3 ⟨h0,h1⟩];rfl
theorem ic (R:Ac P Γ N S ρ a w) {o:Option Operand} {l:Option Int} (h:VH S o=some l): ∃ k,o.map a.eval=l.map (Value.int k):=by
 cases o with
 | none=>cases h;exact ⟨.i64,rfl⟩
 | some x=>
  simp only [VH] at h;split at h
  ·rename_i k n e;cases h;have:=Bo R x;rw [e] at this;exact ⟨k,by simp only [zDI];rw [show a.eval x=_ from this]⟩
  ·cases h
theorem T3 {t e:TypeId} {i:TypeInfo} {ad:Option Addr} {len cap:Nat} {kl kh:IntKind} {lo hi:Option Int} (hu:P.underlying t=some (.slice e)) (BD:P.info? e=some i) (h0:0<=lo.getD 0) (h1:lo.getD 0<=hi.getD len) (h2:hi.getD len<=len) (h3:len<=cap) (W:World):
 (Instr.sliceAt t (.slice ad len cap) (lo.map (Value.int kl)) (hi.map (Value.int kh)) none).run P W=
  .ok (.slice (if cap=(lo.getD 0).toNat then ad else ad.map (·.add ((lo.getD 0).toNat*i.size))) ((hi.getD len).toNat-(lo.getD 0).toNat) (cap-(lo.getD 0).toNat)) W:=by
 have hb:(Instr.sliceBounds true len cap (lo.map (Value.int kl)) (hi.map (Value.int kh)) none).run P W= .ok ((lo.getD 0).toNat,(hi.getD len).toNat,cap) W:=by
  cases lo <;> cases hi <;> simp only [Option.map_none,zDI,Option.getD_none,zEB] at* <;>
   simp (disch:=omega) [Instr.sliceBounds,qw,zC3,Result.andThen]
 unfold Instr.sliceAt;simp only [zC3,zDY hu,Result.andThen];unfold Instr.slice;simp only [zC3,zDY hu,Result.andThen,hb,I4 BD];rfl
theorem zA1 (R:Ac P Γ N S ρ a w) {t:TypeId} {x d:DV} {vc:Prop} {v:Value} {kl kh:IntKind} {lo hi:Option Int} (hx:AK (MS N S.h ρ) w x ρ v) (h:bA P t x lo hi=some (d,vc)) (hv:vc):
 Yl P N w (MS N S.h ρ) ρ (Instr.sliceAt t v (lo.map (Value.int kl)) (hi.map (Value.int kh)) none) d:=by
 unfold bA at h;split at h
 ·rename_i e hu;split at h
  ·rename_i i BD
   have gd: ∀ {α:Type} (l:List α) (q c j:Nat) (d:α),j<((l.take c).drop q).length -> ((l.take c).drop q).getD j d=l.getD (q+j) d:=fun l q c j d hj=>by
    simp only [zE2,List.length_take] at hj;simp only [u8,zEA,List.getElem?_take];rw [zB3 (by omega)]
   split at h
   ·rename_i l;split at h
    ·rename_i hs;cases h;obtain ⟨ad,cap,rfl,g1,g2,g3⟩:=hx;obtain ⟨v1,v2,v3⟩:=hv;have hl:((l.take (hi.getD l.length).toNat).drop (lo.getD 0).toNat).length=(hi.getD l.length).toNat-(lo.getD 0).toNat:=by simp;omega
     refine Yl.pure (fun W=>T3 hu BD v1 v2 v3 g1 W) ⟨_,_,by rw [hl],by omega,by omega,fun j hj=>?_⟩;have A3:=hj;rw [hl] at A3;obtain ⟨b,o,rfl,q1,q2⟩:=g3 ((lo.getD 0).toNat+j) (by omega);refine ⟨b,o+(lo.getD 0).toNat,?_,q1,?_⟩
     ·rw [zCt (by omega)];simp only [zDI,Iu,hs,zDf]
     ·rw [gd _ _ _ _ _ hj,zDb];exact q2
    ·cases h
   ·rename_i l;split at h
    ·rename_i hs;cases h;obtain ⟨ad,cap,rfl,g1,g2,g3⟩:=hx;obtain ⟨v1,v2,v3⟩:=hv;have hl:((l.take (hi.getD l.length).toNat).drop (lo.getD 0).toNat).length=(hi.getD l.length).toNat-(lo.getD 0).toNat:=by simp;omega
     refine Yl.pure (fun W=>T3 hu BD v1 v2 v3 g1 W) ⟨_,_,by rw [hl],by omega,by omega,fun j hj=>?_⟩;have A3:=hj;rw [hl] at A3;obtain ⟨b,o,rfl,q1,q2⟩:=g3 ((lo.getD 0).toNat+j) (by omega);refine ⟨b,o+(lo.getD 0).toNat,?_,q1,?_⟩
     ·rw [zCt (by omega)];simp only [zDI,Iu,hs,zDf]
     ·rw [gd _ _ _ _ _ hj,zDb];exact q2
    ·cases h
   ·rename_i m n f;split at h
    ·rename_i hs;cases h;obtain ⟨ad,cap,rfl,g1,g2,g3⟩:=hx;obtain ⟨v1,v2,v3⟩:=hv;refine Yl.pure (fun W=>T3 hu BD v1 v2 v3 g1 W) ⟨_,_,rfl,by omega,by omega,fun i1 j hi1 hj=>?_⟩;obtain ⟨b,o,u,rfl,q1,q2,q3⟩:=g3 ((lo.getD 0).toNat+i1) j (by omega) hj;refine ⟨b,o+(lo.getD 0).toNat*m,u,?_,q1,?_,q3⟩
     ·rw [zCt (by omega)];simp only [zDI,Iu,hs]
     ·rw [zEF,zDb] at q2;rw [zDb];exact q2
    ·cases h
   ·rename_i k m off n;split at h
    ·rename_i hs;cases h;obtain ⟨p,cap,hp,rfl,g1,g2,g3⟩:=hx;obtain ⟨v1,v2,v3⟩:=hv;have Bx:(lo.getD 0).toNat<=cap:=by omega
     refine Yl.pure (fun W=>T3 hu BD v1 v2 v3 g1 W) ⟨p,_,cap-(lo.getD 0).toNat,hp,rfl,by omega,by omega,fun hc=>⟨?_,?_⟩⟩
     ·rw [zCt (by omega)];simp only [zDI,Iu,hs,zEF,zDb]
     ·have:cap*m=(lo.getD 0).toNat*m+(cap-(lo.getD 0).toNat)*m:=by rw [←zEF];congr 1;omega
      rw [zEF];omega
    ·cases h
   ·cases h
  ·cases h
 ·cases h
theorem eZ {e:TypeId} {k':IntKind} {i:TypeInfo} {n d:Nat} {xs ys:Array Value} {f g:Nat -> DV} {M:Nat -> Prop} (hi:P.info? e=some i) (hs:i.size=1) (h1:GE P e=true) (hk:P.underlying e=some (.int k')) (hx:xs.size=n) (hy:ys.size=n)
 (rx: ∀ j,j<n -> ∃ u,xs[j]? =some u/\ AK M w (f j) ρ u) (ry: ∀ j,j<n -> ∃ u,ys[j]? =some u/\ AK M w (g j) ρ u) (hI: ∀ j,j<n -> J7 (f j)=true/\ J7 (g j)=true):
 ∀ (is:List Nat),(∀ j∈is,j<n) -> ∀ W,Keep N w W -> (Op.eqItems (d+1) e 1 xs ys is).run P W= .ok (PP f g is) W
 | [],_,W,_=>rfl
 | j::is,hb,W,hE=>by
  have hj:j<n:=hb j (by simp)
  have f6: ∀ {cs:Array Value} {f:Nat -> DV},cs.size=n -> (∀ j,j<n -> ∃ u,cs[j]? =some u/\ AK M w (f j) ρ u) -> J7 (f j)=true -> (part e cs (j*1)).run P W= .ok (.int .i64 (Hk (f j))) W:=by
   intro cs f hc hr hf
   have hp:Md P e n f (j*1) 1=some (f j):=by
    unfold Md;rw [zB3 (by omega),zB3 h1,zB3 rfl,zDf]
   obtain ⟨u,g1,g2⟩:=Xy (P:=P) hi hs hc hr hp;rw [g1 W hE,ZC hf g2]
  simp only [Op.eqItems,zC3,f6 hx rx (hI j hj).1,f6 hy ry (hI j hj).2,Result.andThen,zFU W d e .i64 k' _ _ hk];unfold PP;cases hq:(Hk (f j)==Hk (g j)) with
  | false=>rfl
  | true=>
   simp only [zDR,zDU,zER,zDG];exact eZ hi hs h1 hk hx hy rx ry hI is (fun j hj=>hb j (by simp [hj])) W hE
theorem zAX {M:Nat -> Prop} {op:BinOp} {t:TypeId} {x y:DV} {vx vy:Value} {d:DV} {vc:Prop} (ox oy:Operand) (hx:AK M w x ρ vx) (hy:AK M w y ρ vy) (h:SU P op t x y=some (d,vc)):
 Yl P N w M ρ (do eqGuard op t ox oy vx vy;binOp op t vx vy) d:=by
 have key: ∀ {m m':Nat} {f g:Nat -> DV} {is:List Nat} {xs ys:Array Value},WN P t f g m m'=some is -> xs.size=m -> ys.size=m' -> (∀ j,j<m -> ∃ u,xs[j]? =some u/\ AK M w (f j) ρ u) -> (∀ j,j<m' -> ∃ u,ys[j]? =some u/\ AK M w (g j) ρ u) ->
  P.eqGuardType P.depth t=false/\ ∀ W,Keep N w W -> (Op.equalIn 10000 t (.agg xs) (.agg ys)).run P W= .ok (PP f g is) W:=by
  intro m m' f g is xs ys hb sx sy rx ry;unfold WN at hb;split at hb
  ·rename_i n e hu;split at hb
   ·rename_i i hi;split at hb
    ·rename_i k' hk;split at hb
     ·rename_i hc;cases hb;simp only [zCp,zDB,zCs,zCy] at hc;obtain ⟨⟨⟨⟨⟨c1,c2⟩,c3⟩,c4⟩,c5⟩,c6⟩:=hc;subst c4;subst c5;refine ⟨c3,fun W hE=>?_⟩;have C3:P.cellsOf e=1:=by unfold Program.cellsOf;rw [hi];exact c1
      rw [run_equalIn_array W 9999 xs ys hu hi,C3];exact eZ (d:=9998) hi c1 c2 hk sx sy rx ry c6 _ (fun j hj=>zCy.1 hj) W hE
     ·cases hb
    ·cases hb
   ·cases hb
  ·cases hb
 unfold SU at h;split at h
 ·rename_i m f m' g;split at h
  ·rename_i is hb;cases h;obtain ⟨xs,rfl,sx,rx⟩:=hx;obtain ⟨ys,rfl,sy,ry⟩:=hy;obtain ⟨k1,k2⟩:=key hb sx sy rx ry;refine ⟨.bool _,fun W hE=>?_,rfl⟩;simp only [zC3,run_eqGuard_agg W .eql t ox oy xs ys k1,Result.andThen,run_eql_struct,k2 W hE]
  ·cases h
 ·rename_i m f m' g;split at h
  ·rename_i is hb;cases h;obtain ⟨xs,rfl,sx,rx⟩:=hx;obtain ⟨ys,rfl,sy,ry⟩:=hy;obtain ⟨k1,k2⟩:=key hb sx sy rx ry;refine ⟨.bool _,fun W hE=>?_,rfl⟩;simp only [zC3,run_eqGuard_agg W .neq t ox oy xs ys k1,Result.andThen,run_neq_struct,k2 W hE]
  ·cases h
 ·cases h
theorem su (R:Ac P Γ N S ρ a w) (o:Oper) {d:DV} {vc:Prop} (h:Qz P S o.op=some (d,vc)) (hv:vc):
 ∃ v,(∀ W,Keep N w W -> (execOp a.eval o).run P W= .ok (.value v) W)/\ AK (MS N S.h ρ) w d ρ v:=by
 unfold Qz at h;split at h
 ·rename_i t parts ho;exact HF (by unfold execOp;rw [ho]) (ub R h)
 ·rename_i t x i ho;have hi:=Bo R i;split at h
  ·rename_i k n e;rw [e] at hi;refine HF (s:=Instr.index t (a.eval x) (a.eval i)) (by unfold execOp;rw [ho]) ?_;rw [show a.eval i=_ from hi];exact vJ R (Bo R x) h hv
  ·cases h
 ·rename_i t x f ho;exact HF (s:=Instr.field t (a.eval x) f) (by unfold execOp;rw [ho]) (z6 R (Bo R x) h)
 ·rename_i t x lo hi ho;split at h
  ·rename_i l hl;split at h
   ·rename_i hh yh;obtain ⟨k1,e1⟩:=ic R hl;obtain ⟨k2,e2⟩:=ic R yh;refine HF (s:=Instr.sliceAt t (a.eval x) (lo.map a.eval) (hi.map a.eval) none) (by unfold execOp;rw [ho];rfl) ?_;rw [e1,e2];exact zA1 R (Bo R x) h hv
   ·cases h
  ·cases h
 ·rename_i op t x y t' ho;split at h
  ·rename_i r hr;cases h;exact HF (by unfold execOp;rw [ho]) (zAX x y (Bo R x) (Bo R y) hr)
  ·rw [←ho] at h;exact fm R o h hv
 ·exact fm R o h hv
end
end Go.Proofs.YtgkhhfnhacibcaaGreatDoor
namespace Go.Proofs.YtgkhhfnhacibcaaGreatDoor
open Go.RowKit
def Bm:List Prop -> Prop
 | []=>True
 | p::ps=>p/\ Bm ps
theorem Cz {l l':List Prop}:Bm (l++l')↔Bm l/\ Bm l':=by
 induction l with
 | nil=>simp [Bm]
 | cons p ps ih=>simp [Bm,ih,and_assoc]
def AQ (d d':DV):Prop:=∀ (M:Nat -> Prop) (w:World) (ρ:List AJ) (v:Value),AK M w d ρ v -> AK M w d' ρ v
section
variable {P:Program} {Γ:A1} {N:Nat -> Prop}
theorem Db {w:World} {M M':Nat -> Prop} (h: ∀ b,M' b -> M b) (ρ:List AJ):BV M w ρ M' w ρ:=⟨fun _ _ _ _=>rfl,fun b hb=>.inl (h b hb),fun _ _ h=>h⟩
def ao:DO -> Option (Nat×Nat×DV)
 | .ints l=>some (1,l.length,.ints l)
 | .bools l=>some (1,l.length,.bools l)
 | .arr m n f=>some (m,n,.sl m n f)
 | .mo (.rws ls none)=>some (1,ls.length,.sl 1 ls.length fun i j=>([.ints (ls.getD i default)]:List DV).getD j .any)
 | _=>none
def Lf (k m:Nat) (v:DV):DV -> DV
 | .msl k' m' off n=>if k'=k/\ m'=m/\ off=0 then v else .msl k' m' off n
 | d=>d
def SM (k m n:Nat):DV -> List Prop
 | .msl k' m' off n'=>if k'=k/\ m'=m/\ off=0 then [n'=n] else []
 | _=>[]
def V7 (k m:Nat) (v:DV):Option DO -> Option DO
 | some (.cells l)=>some (.cells (l.map (Lf k m v)))
 | o=>o
def kL (k m n:Nat):Option DO -> List Prop
 | some (.cells l)=>l.flatMap (SM k m n)
 | _=>[]
def Ii (k m:Nat) (v:DV) (S:St):St:=⟨S.fr.map (Lf k m v),(S.h.set k none).map (V7 k m v)⟩
theorem mU {l:List DV} {f:DV -> List Prop} (h:Bm (l.flatMap f)) {d:DV} (hd:d∈l):Bm (f d):=by
 induction l with
 | nil=>simp at hd
 | cons x l ih=>
  rw [zFG] at h;obtain ⟨h1,h2⟩:=Cz.1 h;rcases zDF.1 hd with rfl | hd
  ·exact h1
  ·exact ih h2 hd
theorem zCU {l:List (Option DO)} {f:Option DO -> List Prop} (h:Bm (l.flatMap f)) {d:Option DO} (hd:d∈l):Bm (f d):=by
 induction l with
 | nil=>simp at hd
 | cons x l ih=>
  rw [zFG] at h;obtain ⟨h1,h2⟩:=Cz.1 h;rcases zDF.1 hd with rfl | hd
  ·exact h1
  ·exact ih h2 hd
theorem zv {M M':Nat -> Prop} {w:World} {ρ:List AJ} {p:AJ} {o:DO} {m n:Nat} {v:DV} (ho:ao o=some (m,n,v)) (hr:DU P M w ρ p o) (hN: ∀ b,p.foot b -> ¬ M' b) (hM: ∀ b,M' b -> M b) {u:Value} {cap:Nat} (hu:u= .slice (some ⟨p.blk,p.off+0*m,none⟩) n cap) (h1:n<=cap) (h2:n<=LB):AK M' w v ρ u:=by
 cases o with
 | cells l=>cases ho
 | iter e=>cases ho
 | mo x=>
  cases x with
  | rws ls Bu=>
   cases Bu with
   | some y=>cases ho
   | none=>
    cases ho;obtain ⟨vs,hS⟩:=hr;obtain ⟨cs,t,e1,e2,e3,e4⟩:=hS.row;refine ⟨_,cap,hu,h1,h2,fun i j hi hj=>?_⟩;obtain rfl:j=0:=by omega
    have BD:i+1<vs.size:=by rw [hS.size];omega
    have e5:=e4 i hi;rw [zDQ BD] at e5;refine ⟨p.blk,p.off,vs[i+1],by simp,hN _ hS.blk,by unfold World.cell?;simp [e1,e5],?_⟩;have hs:=hS.has i hi fun L e=>by cases e
    rw [show vs.getD (i+1) undef=vs[i+1] by simp [BD]] at hs;rcases hs with ⟨e,e'⟩ | ⟨q,c,e,g1,g2,g3,g4,g5⟩
    ·rw [e']
     show AK M' w (.ints (ls.getD i default)) [] _
     rw [e];exact ⟨none,0,rfl,zC6 _,by decide,fun j hj=>absurd hj (zCz j)⟩
    ·rw [e];refine ⟨_,c,rfl,g1,g3,fun k hk=>⟨q.blk,q.off,rfl,hN _ g4.1,?_⟩⟩;obtain ⟨x,k1,k2⟩:=g5.cell hk;rw [k1,k2]
  | _=>cases ho
 | ints l=>
  cases ho;have hN:=hN p.blk (by rw [hr.1]);refine ⟨_,cap,hu,h1,h2,fun j hj=>⟨p.blk,p.off,by simp,hN,?_⟩⟩;obtain ⟨x,e1,e2⟩:=Ab.cell hr hj;rw [e1,e2]
 | bools l=>
  cases ho;have hN:=hN p.blk (by rw [hr.1]);refine ⟨_,cap,hu,h1,h2,fun j hj=>⟨p.blk,p.off,by simp,hN,?_⟩⟩;obtain ⟨x,e1,e2⟩:=Ab.cell hr hj;rw [e1,e2]
 | arr m n f=>
  cases ho;have hN:=hN p.blk (by rw [hr.1]);refine ⟨_,cap,hu,h1,h2,fun i j hi hj=>?_⟩;have AL:i*m+j<n*m:=zCu (by rw [zEz];omega:i*m+j<(i+1)*m) (zD5 m hi);obtain ⟨x,e1,e2⟩:=Ab.cell hr AL;have hm:0<m:=by omega
  have d1:(i*m+j)/m=i:=by rw [zEL,Nat.mul_add_div hm];simp [Nat.div_eq_of_lt hj]
  have d2:(i*m+j) % m=j:=by rw [zEL,Nat.mul_add_mod];exact zE0 hj
  rw [d1,d2] at e2;exact ⟨p.blk,p.off,x,by simp,hN,e1,AK.out _ (Db hM []) e2⟩
theorem SK {k m:Nat} {v:DV} {h:DH} {i:Nat} {o':DO} (hi:((h.set k none).map (V7 k m v))[i]? =some (some o')):i≠k/\ ∃ o,h[i]? =some (some o)/\ V7 k m v (some o)=some o':=by
 rw [zC1] at hi;cases hx:(h.set k none)[i]? with
 | none=>rw [hx] at hi;cases hi
 | some x=>
  rw [hx] at hi;have hi:V7 k m v x=some o':=zCq hi;cases x with
  | none=>cases hi
  | some o=>exact ⟨(F0 hx).1,o,(F0 hx).2,hi⟩
def Dq (S S':St):Prop:=∀ (P:Program) (Γ:A1) (N:Nat -> Prop) (ρ:List AJ) (a:Act) (w:World),Ac P Γ N S ρ a w -> Ac P Γ N S' ρ a w/\ BH S.h ρ w S'.h ρ w
theorem Dq.frz {S:St} (k:Nat) {o:DO} {m n:Nat} {v:DV} (hk:S.h[k]? =some (some o)) (ho:ao o=some (m,n,v)) (hc:Bm (S.fr.flatMap (SM k m n))) (Id:Bm (S.h.flatMap (kL k m n))):Dq S (Ii k m v S):=fun P Γ N ρ a w R=>by
 obtain ⟨p,hp,hr⟩:=R.hr.obj k _ hk
 have aZ: ∀ b,MO (Ii k m v S).h ρ b -> ∃ i o p',i≠k/\ S.h[i]? =some (some o)/\ ρ[i]? =some p'/\ p'.foot b:=by
  rintro b ⟨i,o',p',g1,g2,g3⟩;obtain ⟨e1,o2,e2,_⟩:=SK g1;exact ⟨i,o2,p',e1,e2,g2,g3⟩
 have hN: ∀ b,p.foot b -> ¬ MS N (Ii k m v S).h ρ b:=by
  rintro b hf (hn | hb)
  ·exact (R.hr.cel k _ p b hk hp hf).2.1 hn
  ·obtain ⟨i,o2,p',e1,e2,g2,g3⟩:=aZ _ hb;exact R.hr.dis i k _ _ p' p b e1 e2 hk g2 hp g3 hf
 have hM: ∀ b,MS N (Ii k m v S).h ρ b -> MS N S.h ρ b:=fun b hb=>hb.imp id fun hb=>by
  obtain ⟨i,o2,p',_,e2,g2,g3⟩:=aZ _ hb;exact ⟨i,o2,p',e2,g2,g3⟩
 have conv: ∀ (d:DV) (u:Value),Bm (SM k m n d) -> AK (MS N S.h ρ) w d ρ u -> AK (MS N (Ii k m v S).h ρ) w (Lf k m v d) ρ u:=by
  intro d u aP hd;cases d with
  | msl k' m' off n'=>
   simp only [SM,Lf] at aP ⊢;split at aP
   ·rename_i e;obtain ⟨rfl,rfl,rfl⟩:=e;rw [zB3 ⟨rfl,rfl,rfl⟩];obtain ⟨p',cap,A2,e,g1,g2,_⟩:=hd;have ep:p'=p:=zCq (A2.symm.trans hp);subst ep;have en:=aP.1;subst en;exact zv ho hr hN hM e g1 g2
   ·rename_i e;rw [zCt e];exact AK.out _ (Db hM ρ) hd
  | _=>exact AK.out _ (Db hM ρ) hd
 refine ⟨⟨⟨by simp [Ii,R.hr.len],fun i o' hi=>?_,fun i o' p' b g1 g2 g3=>?_,fun i i' o1 o2 p1 p2 b AY g1 g2 g3 g4 g5 g6=>?_,R.hr.nlt,R.hr.gi⟩,⟨by simp [Ii,R.fr.1],fun i hi=>?_⟩⟩,⟨AO.refl _ w,fun b hb=>.inl ?_⟩⟩
 ·obtain ⟨e1,o2,e2,e3⟩:=SK hi;obtain ⟨p',A2,Cy⟩:=R.hr.obj i o2 e2;refine ⟨p',A2,?_⟩;cases o2 with
  | cells l=>
   cases e3
   show Ab w p' (l.map (Lf k m v)).length _
   rw [zDe];refine Ab.out Cy rfl fun j u hj hu=>?_
   have:(l.map (Lf k m v)).getD j .any=Lf k m v (l.getD j .any):=by simp [hj]
   rw [this];refine conv _ _ ?_ hu
   have Am:some (DO.cells l)∈S.h:=zDN e2;have:=zCU Id Am;exact mU (l:=l) this (by simp [hj])
  | ints l=>cases e3;exact Ab.out Cy rfl fun j u _ hu=>hu
  | bools l=>cases e3;exact Ab.out Cy rfl fun j u _ hu=>hu
  | arr m n f=>cases e3;exact Ab.out Cy rfl fun j u _ hu=>AK.out _ (Db hM []) hu
  | iter encs=>
   cases e3;obtain ⟨gf,lb,Rd,q1,q2,q3,q4⟩:=Cy;exact ⟨gf,lb,Rd,q1,q2,fun b hb=>⟨fun hm=>(q3 b hb).1 (hM b hm),(q3 b hb).2⟩,q4⟩
  | mo x=>cases e3;exact Cy
 ·obtain ⟨e1,o2,e2,e3⟩:=SK g1;obtain ⟨q1,q2,q3⟩:=R.hr.cel i o2 p' b e2 g2 g3;exact ⟨q1,q2,q3⟩
 ·obtain ⟨e1,o3,e2,_⟩:=SK g1;obtain ⟨PS,o4,SY,_⟩:=SK g2;exact R.hr.dis i i' o3 o4 p1 p2 b AY e2 SY g3 g4 g5 g6
 ·have BD:i<S.fr.length:=by simpa [Ii] using hi
  have:(Ii k m v S).fr.getD i .any=Lf k m v (S.fr.getD i .any):=by simp [Ii,BD]
  rw [this];refine conv _ _ (mU hc (by simp [BD])) (R.fr.2 i BD)
 ·obtain ⟨i,o2,p',_,e2,g2,g3⟩:=aZ _ hb;exact ⟨i,o2,p',e2,g2,g3⟩
def SL (k:Nat) (S:St):Option (St×List Prop):=match S.h.getD k none with
 | some o=>match ao o with
  | some (m,n,v)=>some (Ii k m v S,S.fr.flatMap (SM k m n)++S.h.flatMap (kL k m n))
  | none=>none
 | none=>none
theorem Dq.frzE {S:St} (k:Nat) (S':St) (vs:List Prop) (h:SL k S=some (S',vs)) (hv:Bm vs):Dq S S':=by
 unfold SL at h;split at h
 ·rename_i o ho;split at h
  ·rename_i m n v hf;cases h;obtain ⟨h1,h2⟩:=Cz.1 hv;refine Dq.frz k ?_ hf h1 h2;rw [u8] at ho;cases hx:S.h[k]? with
   | none=>rw [hx] at ho;cases ho
   | some x=>rw [hx] at ho;exact congrArg some ho
  ·cases h
 ·cases h
theorem Dq.refl (S:St):Dq S S:=fun _ _ _ _ _ _ R=>⟨R,BH.refl _ _ _⟩
theorem Dq.trans {A B C:St} (h:Dq A B) (k:Dq B C):Dq A C:=fun P Γ N ρ a w R=>by
 obtain ⟨R1,s1⟩:=h P Γ N ρ a w R;obtain ⟨R2,s2⟩:=k P Γ N ρ a w R1;exact ⟨R2,s1.trans s2⟩
theorem MO.put {h:DH} {ρ:List AJ} {k:Nat} {o o':DO} (hk:h[k]? =some (some o)) {b:Nat}:MO (h.set k (some o')) ρ b↔MO h ρ b:=by
 have AL:=(zCr.1 hk).1;constructor
 ·rintro ⟨i,x,p,h1,h2,h3⟩;rw [zDP] at h1
  by_cases e:k=i
  ·subst e;exact ⟨k,o,p,hk,h2,h3⟩
  ·rw [zCt e] at h1;exact ⟨i,x,p,h1,h2,h3⟩
 ·rintro ⟨i,x,p,h1,h2,h3⟩
  by_cases e:k=i
  ·subst e;exact ⟨k,o',p,by simp [AL],h2,h3⟩
  ·exact ⟨i,x,p,by rw [zDP,zCt e];exact h1,h2,h3⟩
theorem Dq.obj {S:St} {k:Nat} {o o':DO} (hk:S.h[k]? =some (some o)) (hO: ∀ (P:Program) (M:Nat -> Prop) (w:World) (ρ:List AJ) (p:AJ),DU P M w ρ p o -> DU P M w ρ p o'):Dq S ⟨S.fr,S.h.set k (some o')⟩:=fun P Γ N ρ a w R=>by
 have hM: ∀ b,MS N (S.h.set k (some o')) ρ b↔MS N S.h ρ b:=fun b=>or_congr Iff.rfl (MO.put hk)
 have back: ∀ {i:Nat} {x:DO},(S.h.set k (some o'))[i]? =some (some x) -> ∃ y,S.h[i]? =some (some y)/\ (i=k/\ x=o'∨y=x):=by
  intro i x hi;rw [zDP] at hi
  by_cases e:k=i
  ·subst e;rw [zB3 rfl,zB3 (zCr.1 hk).1] at hi;cases hi;exact ⟨o,hk,.inl ⟨rfl,rfl⟩⟩
  ·rw [zCt e] at hi;exact ⟨x,hi,.inr rfl⟩
 have O:BV (MS N S.h ρ) w ρ (MS N (S.h.set k (some o')) ρ) w ρ:=Db (fun b hb=>(hM b).1 hb) ρ;refine ⟨⟨⟨by simp [R.hr.len],fun i x hi=>?_,fun i x p b g1 g2 g3=>?_,fun i i' o1 o2 p1 p2 b AY g1 g2 g3 g4 g5 g6=>?_,R.hr.nlt,R.hr.gi⟩,R.fr.out O⟩,⟨AO.refl _ w,fun b hb=>.inl ((MO.put hk).1 hb)⟩⟩
 ·rw [zDP] at hi
  by_cases e:k=i
  ·subst e;rw [zB3 rfl,zB3 (zCr.1 hk).1] at hi;cases hi;obtain ⟨p,hp,hr⟩:=R.hr.obj k o hk;exact ⟨p,hp,hO P _ w ρ p (hr.out O (S:=fun _=>False) (AO.refl _ _) (fun _ h=>h.elim) fun _ _ _ h=>h)⟩
  ·rw [zCt e] at hi;obtain ⟨p,hp,hr⟩:=R.hr.obj i x hi;exact ⟨p,hp,hr.out O (S:=fun _=>False) (AO.refl _ _) (fun _ h=>h.elim) fun _ _ _ h=>h⟩
 ·obtain ⟨y,e,_⟩:=back g1;exact R.hr.cel i y p b e g2 g3
 ·obtain ⟨y1,e1,_⟩:=back g1;obtain ⟨y2,e2,_⟩:=back g2;exact R.hr.dis i i' y1 y2 p1 p2 b AY e1 e2 g3 g4 g5 g6
inductive Fz where
 | frz (k:Nat)
 | arr (k n:Nat) (f:Nat -> Nat -> DV)
 | unf (k:Nat)
 | rws
def mJ (k n':Nat) (f':Nat -> Nat -> DV) (S:St):Option (St×List Prop):=match S.h.getD k none with
 | some (.arr m n f)=>some (⟨S.fr,S.h.set k (some (.arr m n' f'))⟩,[n=n'/\ ∀ i j,i<n -> j<m -> AQ (f i j) (f' i j)])
 | _=>none
def V5:Fz -> St -> Option (St×List Prop)
 | .frz k,S=>SL k S
 | .arr k n f,S=>mJ k n f S
 | .unf k,S=>match S.h.getD k none with
  | some (.mo (.rows f (some (_,_,false))))=>some (⟨S.fr,S.h.set k (some (.mo (.rows f none)))⟩,[])
  | _=>none
 | .rws,_=>none
theorem Ed.unf {w:World} {p:AJ} {f:Int -> List Int} {x:Int} {L:List Int} {u:Value} {es:Array MapEntry} {AX:Nat} (h:Ed w p f (some (x,L,false)) u es AX):Ed w p f none u es AX:=
 { h with
  key:=fun e he=>let ⟨k,h1,h2⟩:=h.key e he;⟨k,h1,fun _=>h2 fun L e=>by cases e⟩
  inHand:=fun k L g e=>by cases e }
theorem getD_some {h:DH} {k:Nat} {o:DO} (ho:h.getD k none=some o):h[k]? =some (some o):=by
 rw [u8] at ho;cases hx:h[k]? with
 | none=>rw [hx] at ho;cases ho
 | some x=>rw [hx] at ho;exact congrArg some ho
theorem Dq.fz {S:St} (z:Fz) (S':St) (vs:List Prop) (h:V5 z S=some (S',vs)) (hv:Bm vs):Dq S S':=by
 cases z with
 | frz k=>exact Dq.frzE k S' vs h hv
 | arr k n' f'=>
  simp only [V5,mJ] at h;split at h
  ·rename_i m n f ho;cases h;obtain ⟨⟨rfl,hd⟩,_⟩:=hv;refine Dq.obj (getD_some ho) fun P M w ρ p hr=>?_
   refine Ab.out hr rfl fun j u hj hu=>?_
   have hm:0<m:=by
    rcases zEJ m with e | e
    ·subst e;omega
    ·exact e
   exact hd _ _ ((zEV hm).2 hj) (zFY _ hm) M w [] u hu
  ·cases h
 | unf k=>
  simp only [V5] at h;split at h
  ·rename_i f x L ho;cases h;exact Dq.obj (getD_some ho) fun P M w ρ p ⟨u,es,AX,hA⟩=>⟨u,es,AX,hA.unf⟩
  ·cases h
 | rws=>cases h
def SJ:List (Nat×Fz) -> Option Nat -> St -> Option (St×List Prop×List (Nat×Fz))
 | [],_,S=>some (S,[],[])
 | (t,z)::rest,dst,S=>if dst=some t then match V5 z S with
  | some (S',vs)=>match SJ rest dst S' with
   | some (Cs,BY,r)=>some (Cs,vs++BY,r)
   | none=>none
  | none=>none
  else some (S,[],(t,z)::rest)
theorem V6: ∀ (l:List (Nat×Fz)) {dst:Option Nat} {S S':St} {vs:List Prop} {r:List (Nat×Fz)},SJ l dst S=some (S',vs,r) -> Bm vs -> Dq S S'
 | [],dst,S,S',vs,r,h,_=>by cases h;exact Dq.refl S
 | (t,z)::rest,dst,S,S',vs,r,h,hv=>by
  simp only [SJ] at h;split at h
  ·split at h
   ·rename_i S1 Cw h1;split at h
    ·rename_i S2 FS r2 h2;cases h;obtain ⟨BZ,CG⟩:=Cz.1 hv;exact (Dq.fz z S1 Cw h1 BZ).trans (V6 rest h2 CG)
    ·cases h
   ·cases h
  ·cases h;exact Dq.refl S
abbrev T6 {α:Type} [Inhabited α] (enc:α -> Nat -> DV) (L:List α):Nat -> Nat -> DV:=fun i j=>enc (L.getD i default) j
theorem rB {α:Type} [Inhabited α] {enc:α -> Nat -> DV} {n m:Nat} {x:α} {g:Nat -> Nat -> DV} (hg: ∀ i j,j<m -> AQ (g i j) (enc x j)):n=(List.replicate n x).length/\ ∀ i j,i<n -> j<m -> AQ (g i j) (T6 enc (List.replicate n x) i j):=by
 refine ⟨by simp,fun i j hi hj=>?_⟩;have:(List.replicate n x).getD i default=x:=by simp [u8,hi]
 rw [T6,this];exact hg i j hj
theorem Bh {d:DV}:AQ d d:=fun _ _ _ _ h=>h
def Kc:List DV -> List DV -> Prop
 | [],[]=>True
 | d::ds,e::es=>AQ d e/\ Kc ds es
 | _,_=>False
theorem TJ: ∀ {l l':List DV},Kc l l' -> l.length=l'.length/\ ∀ j,j<l.length -> AQ (l.getD j .any) (l'.getD j .any)
 | [],[],_=>⟨rfl,fun j hj=>absurd hj (zCz j)⟩
 | d::ds,e::es,⟨h1,h2⟩=>by
  obtain ⟨q1,q2⟩:=TJ h2;refine ⟨by simp [q1],fun j hj=>?_⟩;cases j with
  | zero=>exact h1
  | succ j=>exact q2 j (by simpa using hj)
 | [],_::_,h=>h.elim
 | _::_,[],h=>h.elim
theorem mV {l l':List DV} (h:Kc l l') (j:Nat):AQ (l.getD j .any) (l'.getD j .any):=by
 obtain ⟨h1,h2⟩:=TJ h
 by_cases hj:j<l.length
 ·exact h2 j hj
 ·rw [u8,u8,zDO (by omega),zDO (by omega)];exact Bh
def X2:List DV -> List (List DV) -> Prop
 | [],[]=>True
 | v::vs,c::cs=>(∃ l,In v=some l/\ Kc l c)/\ X2 vs cs
 | _,_=>False
theorem e9: ∀ {vs:List DV} {cs:List (List DV)},X2 vs cs -> vs.length=cs.length/\ ∀ i,i<vs.length -> ∃ l,In (vs.getD i .any)=some l/\ Kc l (cs.getD i [])
 | [],[],_=>⟨rfl,fun i hi=>absurd hi (zCz i)⟩
 | v::vs,c::cs,⟨h1,h2⟩=>by
  obtain ⟨q1,q2⟩:=e9 h2;refine ⟨by simp [q1],fun i hi=>?_⟩;cases i with
  | zero=>exact h1
  | succ i=>exact q2 i (by simpa using hi)
 | [],_::_,h=>h.elim
 | _::_,[],h=>h.elim
theorem Qa {α:Type} [Inhabited α] {c:α -> List DV} {L:List α} {vals:List DV} {m n:Nat} (hn:n=vals.length) (h:X2 vals (L.map c)):n=L.length/\ ∀ i j,i<n -> j<m -> AQ (match In (vals.getD i .any) with | some l=>l.getD j .any | none=>.any) (T6 (fun x j=>(c x).getD j .any) L i j):=by
 subst hn;obtain ⟨h1,h2⟩:=e9 h;rw [zDe] at h1;refine ⟨h1,fun i j hi _=>?_⟩;obtain ⟨l,e,hl⟩:=h2 i hi;rw [e];have:(L.map c).getD i []=c (L.getD i default):=by simp [u8,h1▸hi]
 rw [this] at hl;exact mV hl j
theorem rC {α:Type} [Inhabited α] {c:α -> List DV} {x:α} {l:List DV} {n m:Nat} (h:Kc l (c x)):n=(List.replicate n x).length/\ ∀ i j,i<n -> j<m -> AQ (l.getD j .any) (T6 (fun x j=>(c x).getD j .any) (List.replicate n x) i j):=
 rB fun _ j _=>mV h j
end
end Go.Proofs.YtgkhhfnhacibcaaGreatDoor
namespace Go.Proofs.YtgkhhfnhacibcaaGreatDoor
abbrev zC9:=@List.mem_append
abbrev zDp:=@Bool.eq_iff_iff
abbrev zD1:=@Go.MapKept.run_getObj_map
abbrev zEP:=@List.not_mem_nil
abbrev zEg:=@Go.MapKept.run_setObj_map
abbrev zE6:=@Go.MapKept.run_findKey
abbrev zFA:=@List.nodup_cons
abbrev zFI:=@List.Perm.refl
end Go.Proofs.YtgkhhfnhacibcaaGreatDoor
namespace Go.Proofs.YtgkhhfnhacibcaaGreatDoor
open Go.RowKit
def Re (P:Program) (t:TypeId):Bool:=match P.underlying t with
 | some (.int .i64)=>true
 | _=>false
theorem ZG {P:Program} {t:TypeId} (h:Re P t=true):P.underlying t=some (.int .i64):=by
 unfold Re at h;split at h
 ·assumption
 ·cases h
def GI (P:Program) (t:TypeId):Option Nat:=match P.underlying t with
 | some (.int .i64)=>some 1
 | some (.struct fs)=>match fs.toList with
  | [f,g]=>if f.name != "_" &&g.name != "_" &&decide (f.offset=0)&&decide (g.offset=1)&&Re P f.type&&Re P g.type&&!P.stoodInHeld t then some 2 else none
  | _=>none
 | _=>none
section
variable {P:Program} {w:World} {t:TypeId}
theorem Oc {n:Nat} (h:GI P t=some n):(n=1/\ P.underlying t=some (.int .i64))∨∃ f g fs,n=2/\ P.underlying t=some (.struct fs)/\ fs.toList= [f,g]/\ f.name≠ "_" /\ g.name≠ "_" /\ f.offset=0/\ g.offset=1/\ P.underlying f.type=some (.int .i64)/\ P.underlying g.type=some (.int .i64)/\ P.stoodInHeld t=false:=by
 unfold GI at h;split at h
 ·exact .inl ⟨(zCq h).symm,by assumption⟩
 ·rename_i fs hu;split at h
  ·rename_i f g hf;split at h
   ·rename_i hc;simp only [zCp,zDz,ne_eq,zDH,zDT] at hc;obtain ⟨⟨⟨⟨⟨⟨h1,h2⟩,h3⟩,h4⟩,h5⟩,h6⟩,h7⟩:=hc;exact .inr ⟨f,g,fs,(zCq h).symm,hu,hf,h1,h2,h3,h4,ZG h5,ZG h6,h7⟩
   ·cases h
  ·cases h
 ·cases h
theorem OD {t:TypeId} (h:P.underlying t=some (.int .i64)) (cs:Array Value) (o:Nat) (v:Value) (hv:cs[o]? =some v):(part t cs o).run P w= .ok v w:=by
 unfold part;rw [zC3,QX h];simp [Result.andThen,IU,h,hv]
theorem VE {x:List Int} (h:x.length=2): ∃ a b,x= [a,b]:=by
 match x,h with
 | [a,b],_=>exact ⟨a,b,rfl⟩
theorem Mu {x:List Int} (h:x.length=1): ∃ a,x= [a]:=by
 match x,h with
 | [a],_=>exact ⟨a,rfl⟩
theorem Ob {n:Nat} (hk:GI P t=some n) {x:List Int} (hx:x.length=n) (e:Bool):(Instr.checkKey e 10000 t (BG x)).run P w= .ok () w:=by
 rcases Oc hk with ⟨rfl,hu⟩ | ⟨f,g,fs,rfl,hu,hf,n1,n2,o1,o2,t1,t2,_⟩
 ·obtain ⟨a,rfl⟩:=Mu hx;exact MapKept.run_checkKey hu (by trivial) e 9999
 ·obtain ⟨a,b,rfl⟩:=VE hx
  show (Instr.checkKey e (9999+1) t (.agg #[.int .i64 a,.int .i64 b])).run P w=_
  unfold Instr.checkKey;have c1: ∀ a,(Instr.checkKey e 9999 f.type (.int .i64 a)).run P w= .ok () w:=fun a=>MapKept.run_checkKey t1 (by trivial) e 9998
  have c2: ∀ a,(Instr.checkKey e 9999 g.type (.int .i64 a)).run P w= .ok () w:=fun a=>MapKept.run_checkKey t2 (by trivial) e 9998
  simp only [zC3,zDY hu,Result.andThen];rw [←Array.forIn_toList,hf];simp only [List.forIn_cons,List.forIn_nil,n1,n2,ne_eq,not_false_eq_true,zDj,o1,o2,zC3];rw [OD t1 _ 0 (.int .i64 a) rfl];simp only [Result.andThen,c1,zE1,zC3];rw [OD t2 _ 1 (.int .i64 b) rfl];simp only [Result.andThen,c2,zE1]
theorem u9 {n:Nat} (hk:GI P t=some n) {x y:List Int} (hx:x.length=n) (hy:y.length=n):(Op.equal t (BG x) (BG y)).run P w= .ok (x==y) w:=by
 rcases Oc hk with ⟨rfl,hu⟩ | ⟨f,g,fs,rfl,hu,hf,n1,n2,o1,o2,t1,t2,hs⟩
 ·obtain ⟨a,rfl⟩:=Mu hx;obtain ⟨b,rfl⟩:=Mu hy
  show (Op.equalIn (9999+1) t (.int .i64 a) (.int .i64 b)).run P w=_
  rw [zFU w 9999 t .i64 .i64 a b hu]
  congr 1
  rw [zDp];simp
 ·obtain ⟨a,b,rfl⟩:=VE hx;obtain ⟨c,d,rfl⟩:=VE hy;have hF:P.fieldsOf t=fs:=by unfold Program.fieldsOf;rw [hu]
  show (Op.equalIn (9999+1) t (.agg #[.int .i64 a,.int .i64 b]) (.agg #[.int .i64 c,.int .i64 d])).run P w=_
  rw [run_equalIn_struct w 9999 t _ _ (by rw [hF];exact hu) hs,hF,hf];have e1: ∀ a c:Int,(Op.equalIn 9999 f.type (.int .i64 a) (.int .i64 c)).run P w= .ok (a==c) w:=fun a c=>zFU w 9998 f.type .i64 .i64 a c t1
  have e2: ∀ a c:Int,(Op.equalIn 9999 g.type (.int .i64 a) (.int .i64 c)).run P w= .ok (a==c) w:=fun a c=>zFU w 9998 g.type .i64 .i64 a c t2
  simp only [Op.eqFields,n1,n2,ne_eq,not_false_eq_true,zDj,o1,o2,zC3];rw [OD t1 _ 0 (.int .i64 a) rfl];simp only [Result.andThen];rw [OD t1 _ 0 (.int .i64 c) rfl];simp only [Result.andThen,e1,Sem.run_ite]
  by_cases h1:a=c
  ·subst h1;simp only [beq_self_eq_true,zDR,zDU,zER,zC3];rw [OD t2 _ 1 (.int .i64 b) rfl];simp only [Result.andThen];rw [OD t2 _ 1 (.int .i64 d) rfl];simp only [Result.andThen,e2,Sem.run_ite]
   by_cases h2:b=d
   ·subst h2;simp
   ·have:([a,b]== [a,d])=false:=by simp [h2]
    have Lc:(b==d)=false:=by simp [h2]
    simp [Lc,h2]
  ·have Vx:(a==c)=false:=by simp [h1]
   simp [Vx,h1]
theorem u7 {n:Nat} (hk:GI P t=some n) {x:List Int} (hx:x.length=n) {ks:KS} (EG: ∀ y∈ks,y.length=n) {es:List MapEntry} (he: ∀ e∈es,∃ y∈ks,e.key=BG y):
 ((Instr.findKey t (BG x) es).run P w= .ok none w/\ ∀ e∈es,e.key≠BG x)∨∃ j e,(Instr.findKey t (BG x) es).run P w= .ok (some (j,e.val)) w/\ es[j]? =some e/\ e.key=BG x:=by
 have ask: ∀ (es:List MapEntry) (i:Nat),(∀ e∈es,∃ y∈ks,e.key=BG y) -> ((Instr.findAsking t (BG x) es i).run P w= .ok none w/\ ∀ e∈es,e.key≠BG x)∨∃ j e,(Instr.findAsking t (BG x) es i).run P w= .ok (some (i+j,e.val)) w/\ es[j]? =some e/\ e.key=BG x:=by
  intro es
  induction es with
  | nil=>intro i _;exact .inl ⟨rfl,fun e he=>by cases he⟩
  | cons e es ih=>
   intro i he;obtain ⟨y,hy,Bt⟩:=he e (by simp);have h1:(Op.equal t (BG x) e.key).run P w= .ok (x==y) w:=by rw [Bt];exact u9 hk hx (EG y hy)
   by_cases VW:x=y
   ·subst VW;exact .inr ⟨0,e,by simp [Instr.findAsking,h1,Result.andThen],rfl,Bt⟩
   ·have hf:(x==y)=false:=by simp [VW]
    rcases ih (i+1) (fun e HA=>he e (by simp [HA])) with ⟨g1,g2⟩ | ⟨j,e',g1,g2,g3⟩
    ·refine .inl ⟨by simp [Instr.findAsking,h1,hf,Result.andThen,g1],fun e' HA=>?_⟩;rcases zDF.1 HA with rfl | HA
     ·rw [Bt];exact fun h=>VW (iT h).symm
     ·exact g2 e' HA
    ·exact .inr ⟨j+1,e',by simp [Instr.findAsking,h1,hf,Result.andThen,g1];omega,by simpa using g2,g3⟩
 rcases Oc hk with ⟨rfl,hu⟩ | ⟨f,g,fs,rfl,hu,_⟩
 ·obtain ⟨a,rfl⟩:=Mu hx
  rcases MapKept.findNow_spec (d:=.int .i64) (k:=.int .i64 a) (by trivial) es 0 (fun e hm=>by
   obtain ⟨y,hy,Bt⟩:=he e hm;obtain ⟨b,rfl⟩:=Mu (EG y hy);rw [Bt];trivial) with ⟨h1,h2⟩ | ⟨j,e,h1,h2,h3⟩
  ·exact .inl ⟨zE6 hu h1,h2⟩
  ·exact .inr ⟨j,e,by have:=zE6 (w:=w) hu h1;rw [zC4] at this;exact this,h2,h3⟩
 ·have hn: ∀ es:List MapEntry,(∀ e∈es,∃ y∈ks,e.key=BG y) -> (Instr.findKey t (BG x) es).run P w=(match es with | []=>.ok none w | _=>(Instr.findAsking t (BG x) es 0).run P w):=fun es he=>by
   cases es with
   | nil=>simp [Instr.findKey,zDY hu,Instr.findNow,Result.andThen]
   | cons e es=>
    have:Instr.findNow (.struct fs) (BG x) (e::es) 0=none:=by
     simp [Instr.findNow,Instr.sameNow]
    simp [Instr.findKey,zDY hu,this,Result.andThen]
  rw [hn es he];cases es with
  | nil=>exact .inl ⟨rfl,fun e he=>by cases he⟩
  | cons e es=>
   rcases ask (e::es) 0 he with h | ⟨j,e',g1,g2⟩
   ·exact .inl h
   ·exact .inr ⟨j,e',by simpa using g1,g2⟩
theorem u6 {n:Nat} (hk:GI P t=some n) {x:List Int} (hx:x.length=n):(Instr.keyThatStays (BG x) (BG x)).run P w= .ok (BG x) w:=by
 rcases Oc hk with ⟨rfl,hu⟩ | ⟨f,g,fs,rfl,hu,_⟩
 ·obtain ⟨a,rfl⟩:=Mu hx;exact MapKept.run_keyThatStays (d:=.int .i64) (by trivial)
 ·obtain ⟨a,b,rfl⟩:=VE hx
  have:Instr.sameBits 10000 (BG [a,b]) (BG [a,b])=true:=by
   show Instr.sameBits (9998+1+1) (.agg #[.int .i64 a,.int .i64 b]) (.agg #[.int .i64 a,.int .i64 b])=true
   simp [Instr.sameBits]
  simp [Instr.keyThatStays,this]
end
/-! ### Sets in tU-/
def iD:List Int -> List Int -> Bool
 | _,[]=>false
 | [],_::_=>true
 | a::r,b::s=>decide (a<b)||(a==b&&iD r s)
def VI (x:List Int):KS -> KS
 | []=>[x]
 | y::r=>if iD x y then x::y::r else y::VI x r
def CN (x:List Int) (l:KS):KS:=if l.contains x then l else VI x l
theorem ig (x:List Int): ∀ l:KS,(VI x l).Perm (x::l)
 | []=>zFI _
 | y::r=>by
  unfold VI;split
  ·exact zFI _
  ·exact ((ig x r).cons y).trans (List.Perm.swap x y r)
theorem fe {x:List Int} {l:KS} (h:x∈l):CN x l=l:=by unfold CN;simp [h]
theorem YD {x:List Int} {l:KS} (h:x∉l):(CN x l).Perm (x::l):=by unfold CN;simp [h];exact ig x l
theorem Mm {x y:List Int} {l:KS}:y∈CN x l↔y=x∨y∈l:=by
 by_cases h:x∈l
 ·rw [fe h];exact ⟨.inr,fun h'=>h'.elim (fun e=>e▸h) id⟩
 ·rw [(YD h).mem_iff];simp
section
variable {P:Program} {w:World} {b n:Nat} {l:KS} {es:Array MapEntry} {AX:Nat}
theorem Et.key (h:Et w b n l es AX): ∀ e∈es.toList,∃ y∈l,e.key=BG y:=fun e he=>by
 have:e.key∈es.toList.map (·.key):=zDr.2 ⟨e,he,rfl⟩;obtain ⟨y,h1,h2⟩:=zDr.1 (h.keys.mem_iff.1 this);exact ⟨y,h1,h2.symm⟩
theorem Et.has (h:Et w b n l es AX) {x:List Int}:x∈l↔∃ e∈es.toList,e.key=BG x:=by
 constructor
 ·intro hx;have:BG x∈l.map BG:=zDr.2 ⟨x,hx,rfl⟩;obtain ⟨e,h1,h2⟩:=zDr.1 (h.keys.mem_iff.2 this);exact ⟨e,h1,h2⟩
 ·rintro ⟨e,h1,h2⟩;obtain ⟨y,h3,h4⟩:=h.key e h1;exact iT (h2.symm.trans h4)▸h3
theorem Et.find (h:Et w b n l es AX) {t:TypeId} (hk:GI P t=some n) {x:List Int} (hx:x.length=n):
 (x∉l/\ (Instr.findKey t (BG x) es.toList).run P w= .ok none w)∨(x∈l/\ ∃ j e,(Instr.findKey t (BG x) es.toList).run P w= .ok (some (j,.bool true)) w/\ es[j]? =some e/\ e.key=BG x/\ e.val= .bool true):=by
 rcases u7 (w:=w) hk hx h.len h.key with ⟨h1,h2⟩ | ⟨j,e,h1,h2,h3⟩
 ·exact .inl ⟨fun hx=>by obtain ⟨e,g1,g2⟩:=h.has.1 hx;exact h2 e g1 g2,h1⟩
 ·have hm:e∈es.toList:=zDN h2;have hv:=h.tru e hm;exact .inr ⟨h.has.2 ⟨e,hm,h3⟩,j,e,by rw [←hv];exact h1,by simpa using h2,h3,hv⟩
theorem Px {w:World} {b:Nat} (o:Obj):AO (fun k=>k=b) w { w with heap:=w.heap.setIfInBounds b o }:=
 ⟨rfl,rfl,rfl,by simp,fun k _ AY=>by simp [zEy AY]⟩
theorem Et.put (h:Et w b n l es AX) {mt kt et:TypeId} (hm:P.underlying mt=some (.map kt et)) (hk:GI P kt=some n) {x:List Int} (hx:x.length=n):
 ∃ w' D0 Eo,(Instr.mapUpdate mt (.map (some b)) (BG x) (.bool true)).run P w= .ok () w'/\ AO (fun k=>k=b) w w'/\ Et w' b n (CN x l) D0 Eo:=by
 have AL:b<w.heap.size:=(zCl.1 h.blk).1;rcases h.find hk hx with ⟨h1,h2⟩ | ⟨h1,j,e,h2,h3,h4,h5⟩
 ·refine ⟨{ w with heap:=w.heap.setIfInBounds b (.map (es.push { key:=BG x,val:=.bool true,born:=AX }) (AX+1)) },es.push { key:=BG x,val:=.bool true,born:=AX },AX+1,?_,Px _,?_⟩
  ·simp [Instr.mapUpdate,zDY hm,zD1 h.blk,Ob hk hx,h2,zEg _ h.blk,Result.andThen]
  ·refine ⟨by simp [AL],?_,((YD h1).nodup_iff).2 (zFA.2 ⟨h1,h.nd⟩),fun y hy=>?_,fun e he=>?_,fun e he=>?_,?_⟩
   ·have e1:((es.push { key:=BG x,val:=.bool true,born:=AX }).toList.map (·.key))=es.toList.map (·.key)++[BG x]:=by simp
    rw [e1];refine (List.perm_append_comm).trans ?_
    show (BG x::es.toList.map (·.key)).Perm _
    exact (h.keys.cons (BG x)).trans (((YD h1).map BG).symm)
   ·rcases Mm.1 hy with rfl | hy
    ·exact hx
    ·exact h.len y hy
   ·simp only [Array.toList_push,zC9,zC2] at he;rcases he with he | rfl
    ·exact h.tru e he
    ·rfl
   ·simp only [Array.toList_push,zC9,zC2] at he;rcases he with he | rfl
    ·exact Nat.lt_succ_of_lt (h.born e he)
    ·exact Nat.lt_succ_self _
   ·have e1:((es.push { key:=BG x,val:=.bool true,born:=AX }).toList.map (·.born))=es.toList.map (·.born)++[AX]:=by simp
    rw [e1];refine List.nodup_append.2 ⟨h.stamps,by simp,fun a ha c hc=>?_⟩;obtain ⟨e,g1,g2⟩:=zDr.1 ha;have:=h.born e g1;simp at hc;omega
 ·have hj:j<es.size:=(zCl.1 h3).1
  have yS:(es.modify j fun e=>{ e with key:=BG x,val:=.bool true })=es:=by
   apply Array.ext_getElem?;intro i;rw [zEW];split
   ·rename_i O1;subst O1;rw [h3]
    show some ({ e with key:=BG x,val:=.bool true }:MapEntry)=some e
    rw [←h4,←h5]
   ·rfl
  refine ⟨{ w with heap:=w.heap.setIfInBounds b (.map es AX) },es,AX,?_,Px _,?_⟩
  ·have EG:((es[j]?).map (·.key)).getD (BG x)=BG x:=by rw [h3];exact h4
   simp [Instr.mapUpdate,zDY hm,zD1 h.blk,Ob hk hx,h2,EG,u6 hk hx,zEg _ h.blk,Result.andThen,yS]
  ·rw [fe h1];exact { h with blk:=by simp [AL] }
theorem Et.look (h:Et w b n l es AX) {mt kt et:TypeId} (hm:P.underlying mt=some (.map kt et)) (hk:GI P kt=some n) {x:List Int} (hx:x.length=n) (hz:(zeroValue et).run P w= .ok (.bool false) w):
 (Instr.lookup mt (.map (some b)) (BG x) false).run P w= .ok (.bool (l.contains x)) w:=by
 rcases h.find hk hx with ⟨h1,h2⟩ | ⟨h1,j,e,h2,h3,h4,h5⟩
 ·have:l.contains x=false:=by simpa using h1
  simp [Instr.lookup,zDY hm,zD1 h.blk,Ob hk hx,h2,hz,Result.andThen,this,h1]
 ·have:l.contains x=true:=by simpa using h1
  simp [Instr.lookup,zDY hm,zD1 h.blk,Ob hk hx,h2,Result.andThen,this,h1]
end
/-! ### On cv view-/
def U6 (lk:Option (Nat×Nat×Array MapEntry×Nat)) (i:Nat):Prop:=∀ y,lk=some y -> y.1≠i
section
variable {P:Program} {w w':World} {p:AJ} {n:Nat} {ls:List (Option KS)} {lk:Option (Nat×Nat×Array MapEntry×Nat)} {vs:Array Value}
theorem E7.lies (h:E7 w p n ls lk vs) {b:Nat} (hb:p.foot b):DW w b:=by
 rcases h.foot b hb with rfl | ⟨j,l,h1,h2⟩
 ·obtain ⟨cs,t,h3,_⟩:=h.row;exact .cells h3
 ·obtain ⟨b',g1,_,_,es,AX,g2,_⟩:=h.has j l h1;have:b'=b:=by rw [g1] at h2;cases h2;rfl
  subst this;exact ⟨_,rfl,(),g2.blk⟩
theorem E7.put (h:E7 w p n ls lk vs) {i b:Nat} {l l':KS} {es:Array MapEntry} {AX:Nat} (hi:ls[i]? =some (some l)) (hb:vs[i]? =some (Value.map (some b))) (hu:AO (fun k=>k=b) w w') (hm:Et w' b n l' es AX) (Z3:U6 lk i):E7 w' p n (ls.set i (some l')) lk vs:=by
 have Cp:i<ls.length:=(zCr.1 hi).1;obtain ⟨b0,g1,g2,g3,_⟩:=h.has i l hi;have:b0=b:=by rw [g1] at hb;cases hb;rfl
 subst this
 have Ig: ∀ {j:Nat} {x:Option KS},(ls.set i (some l'))[j]? =some x -> (j=i/\ x=some l')∨(j≠i/\ ls[j]? =some x):=fun {j x} hj=>by
  rw [zDP] at hj
  by_cases e:i=j
  ·subst e;simp [Cp] at hj;exact .inl ⟨rfl,hj.symm⟩
  ·rw [zCt e] at hj;exact .inr ⟨zEy e,hj⟩
 refine ⟨h.val,by simp [h.size],?_,h.blk,fun j l1 hj=>?_,fun j hj=>?_,fun b' C4=>?_,h.inj⟩
 ·obtain ⟨cs,t,k1,k2⟩:=h.row;exact ⟨cs,t,(hu.block _ (zCl.1 k1).1 (fun e=>g2 e.symm)).trans k1,by simpa using k2⟩
 ·rcases Ig hj with ⟨rfl,e⟩ | ⟨AY,hj⟩
  ·cases e;exact ⟨b0,hb,g2,g3,es,AX,hm,fun y hy e=>absurd e (Z3 y hy)⟩
  ·obtain ⟨b1,k1,k2,k3,Hv,c1,k4,k5⟩:=h.has j l1 hj;refine ⟨b1,k1,k2,k3,Hv,c1,k4.out (hu.block _ (zCl.1 k4.blk).1 fun e=>AY ?_),k5⟩;subst e;exact h.inj j i b1 k1 hb
 ·rcases Ig hj with ⟨rfl,e⟩ | ⟨AY,hj⟩
  ·cases e
  ·exact h.nil j hj
 ·rcases h.foot b' C4 with e | ⟨j,l1,k1,k2⟩
  ·exact .inl e
  ·by_cases e:j=i
   ·subst e;exact .inr ⟨j,l',by simp [Cp],k2⟩
   ·exact .inr ⟨j,l1,by rw [zDP,zCt (zEy e)];exact k1,k2⟩
end
def VF (n:Nat) (d:DV):Option (List Int):=match d with
 | .int .i64 a=>if n=1 then some [a] else none
 | .agg m f=>if m=n/\ n≠1 then if (List.range m).all fun j=>J7 (f j) then some ((List.range m).map fun j=>Hk (f j)) else none else none
 | _=>none
def Y1 (n:Nat) (x:List Int):DV:=if n=1 then .int .i64 (x.getD 0 0) else .agg n (GU n fun j=>.int .i64 (x.getD j 0))
section
variable {P:Program} {w:World} {ρ:List AJ} {M:Nat -> Prop}
theorem iU {x:List Int} (h:x.length≠1):BG x= .agg (x.map fun a=>.int .i64 a).toArray:=by
 unfold BG;split
 ·simp at h
 ·rfl
theorem iV {n:Nat} {d:DV} {x:List Int} {v:Value} (h:VF n d=some x) (hr:AK M w d ρ v):v=BG x/\ x.length=n:=by
 unfold VF at h;split at h
 ·split at h
  ·cases h;exact ⟨hr,by simp;omega⟩
  ·cases h
 ·rename_i m f;split at h
  ·rename_i hm;split at h
   ·rename_i ha;cases h;have hl:((List.range m).map fun j=>Hk (f j)).length=m:=by simp
    refine ⟨?_,by rw [hl];exact hm.1⟩;obtain ⟨cs,rfl,hs,hc⟩:=hr;rw [iU (by rw [hl];omega)]
    congr 1
    apply Array.ext_getElem?;intro j
    by_cases hj:j<m
    ·obtain ⟨u,e1,e2⟩:=hc j hj;have:=ZC (zCs.1 ha j (zCy.2 hj)) e2;rw [e1,this];simp [hj]
    ·rw [zFF (by omega)];simp [hj]
   ·cases h
  ·cases h
 ·cases h
theorem vA {n:Nat} {x:List Int} (h:x.length=n):AK M w (Y1 n x) ρ (BG x):=by
 unfold Y1;split
 ·rename_i e;subst e;obtain ⟨a,rfl⟩:=Mu h;rfl
 ·rename_i e;rw [iU (by omega)];refine ⟨_,rfl,by simp [h],fun j hj=>?_⟩;rw [Tg hj];have A3:j<x.length:=by omega
  exact ⟨.int .i64 (x.getD j 0),by simp [A3],rfl⟩
end
def WG:Nat -> DH -> Option (Nat×Nat×List (Option KS)×Nat×Nat×Array MapEntry×Nat)
 | _,[]=>none
 | k,some (.mo (.sets n ls (some y)))::_=>some (k,n,ls,y)
 | k,_::r=>WG (k+1) r
theorem zAG {n:Nat} {ls:List (Option KS)} {y:Nat×Nat×Array MapEntry×Nat} {k:Nat}: ∀ (h:DH) (k0:Nat),WG k0 h=some (k,n,ls,y) -> k0<=k/\ h[k-k0]? =some (some (.mo (.sets n ls (some y)))):=by
 intro h
 induction h with
 | nil=>intro k0 e;cases e
 | cons x r ih=>
  intro k0 e
  have step:WG (k0+1) r=some (k,n,ls,y) -> k0<=k/\ (x::r)[k-k0]? =some (some (.mo (.sets n ls (some y)))):=fun e=>by
   obtain ⟨h1,h2⟩:=ih (k0+1) e;refine ⟨by omega,?_⟩;have:k-k0=k-(k0+1)+1:=by omega
   rw [this];simpa using h2
  match x,e with
  | none,e=>exact step e
  | some (.cells _),e=>exact step e
  | some (.ints _),e=>exact step e
  | some (.bools _),e=>exact step e
  | some (.arr _ _ _),e=>exact step e
  | some (.iter _),e=>exact step e
  | some (.mo (.set _ _)),e=>exact step e
  | some (.mo (.mit _ _ _ _ _ _)),e=>exact step e
  | some (.mo (.rows _ _)),e=>exact step e
  | some (.mo (.rws _ _)),e=>exact step e
  | some (.mo (.sets _ _ none)),e=>exact step e
  | some (.mo (.sets _ _ (some _))),e=>cases e;exact ⟨zC6 _,by simp⟩
def Mn (P:Program) (t:TypeId):Option (Nat×TypeId):=match P.underlying t with
 | some (.map k e)=>match GI P k with
  | some n=>match P.info? e with
   | some i=>match i.zero with
    | some (.bool false)=>some (n,k)
    | _=>none
   | none=>none
  | none=>none
 | _=>none
theorem Yo {P:Program} {t k:TypeId} {n:Nat} (h:Mn P t=some (n,k)): ∃ e,P.underlying t=some (.map k e)/\ GI P k=some n/\ ∀ w,(zeroValue e).run P w= .ok (.bool false) w:=by
 unfold Mn at h;split at h
 ·rename_i k' e hu;split at h
  ·rename_i n' hk;split at h
   ·rename_i i hi;split at h
    ·rename_i hz;cases h;exact ⟨e,hu,hk,fun w=>by simp [zeroValue,typeInfo,hi,hz]⟩
    ·cases h
   ·cases h
  ·cases h
 ·cases h
def US (P:Program) (S:St) (t:TypeId) (m k x:DV):Option (DV×DH×List Prop×Bool):=match Mn P t with
 | some (n,_)=>match VF n k,x with
  | some x,.bool true=>match m with
   | .it j=>match S.h[j]? with
    | some (some (.mo (.set n' l)))=>if n'=n then some (.any,S.h.set j (some (.mo (.set n (CN x l)))),[],false) else none
    | _=>none
   | .mri j i=>match S.h[j]? with
    | some (some (.mo (.sets n' ls lk)))=>if n'=n then some (.any,S.h.set j (some (.mo (.sets n (ls.set i (some (CN x ((ls.getD i none).getD [])))) lk))),[(ls.getD i none).isSome=true,U6 lk i],false) else none
    | _=>none
   | _=>none
  | _,_=>none
 | none=>none
def Yp (P:Program) (S:St):Op -> Option (DV×DH×List Prop×Bool)
 | .makeMap t none=>match Mn P t with
  | some (n,_)=>some (.it S.h.length,S.h++[some (.mo (.set n []))],[],true)
  | none=>none
 | .mapUpdate t m k x=>US P S t (Aa S.fr m) (Aa S.fr k) (Aa S.fr x)
 | .insert t m k x=>US P S t (Aa S.fr m) (Aa S.fr k) (Aa S.fr x)
 | .lookup t m k false=>match Mn P t with
  | some (n,_)=>match VF n (Aa S.fr k) with
   | some x=>match Aa S.fr m with
    | .it j=>match S.h[j]? with
     | some (some (.mo (.set n' l)))=>if n'=n then some (.bool (l.contains x),S.h,[],true) else none
     | _=>none
    | .mri j i=>match S.h[j]? with
     | some (some (.mo (.sets n' ls _)))=>if n'=n then some (.bool (((ls.getD i none).getD []).contains x),S.h,[(ls.getD i none).isSome=true],true) else none
     | _=>none
    | _=>none
   | none=>none
  | none=>none
 | .range t m=>match Mn P t with
  | some (n,_)=>match Aa S.fr m with
   | .mri j i=>match S.h[j]? with
    | some (some (.mo (.sets n' ls (some (i',mb,es,AX)))))=>if n'=n then some (.it S.h.length,S.h++[some (.mo (.mit n mb es AX ((ls.getD i none).getD []) none))],[(ls.getD i none).isSome=true,i'=i],true) else none
    | _=>none
   | _=>none
  | none=>none
 | .entry m=>match Aa S.fr m with
  | .it j=>match S.h[j]? with
   | some (some (.mo (.mit n mb es AX _ (some x))))=>match WG 0 S.h with
    | some (_,_,ls,i,g8,D0,Eo)=>some (.tup 2 (GU 2 fun c=>if c=0 then Y1 n x else .bool true),S.h,[(ls.getD i none).isSome=true,g8=mb,D0=es,Eo=AX],true)
    | none=>none
   | _=>none
  | _=>none
 | _=>none
section
variable {P:Program} {Γ:A1} {N:Nat -> Prop} {S:St} {ρ:List AJ} {a:Act} {w:World}
theorem PF {ls:List (Option KS)} {i:Nat} (h:(ls.getD i none).isSome=true):ls[i]? =some (some ((ls.getD i none).getD [])):=by
 rw [u8] at h ⊢;cases hx:ls[i]? with
 | none=>rw [hx] at h;cases h
 | some x=>
  rw [hx] at h;cases x with
  | none=>cases h
  | some l=>simp
theorem Xl (R:Ac P Γ N S ρ a w) {j n:Nat} {l:KS} {v:Value} (hk:S.h[j]? =some (some (.mo (.set n l)))) (hv:AK (MS N S.h ρ) w (.it j) ρ v): ∃ p es AX,ρ[j]? =some p/\ v= .map (some p.blk)/\ p.foot=(fun b=>b=p.blk)/\ p.val=Value.map (some p.blk)/\ Et w p.blk n l es AX:=by
 obtain ⟨p,hp,rfl⟩:=hv;obtain ⟨p',A2,h1,h2,es,AX,h3⟩:=R.hr.obj j _ hk;have:p'=p:=zCq (A2.symm.trans hp);subst this;exact ⟨p',es,AX,hp,h1,h2,h1,h3⟩
theorem Xk (R:Ac P Γ N S ρ a w) {j i n:Nat} {ls:List (Option KS)} {lk:Option (Nat×Nat×Array MapEntry×Nat)} {v:Value} (hk:S.h[j]? =some (some (.mo (.sets n ls lk)))) (hv:AK (MS N S.h ρ) w (.mri j i) ρ v) (hs:(ls.getD i none).isSome=true):
 ∃ p vs b es AX,ρ[j]? =some p/\ E7 w p n ls lk vs/\ v= .map (some b)/\ vs[i]? =some (Value.map (some b))/\ p.foot b/\ Et w b n ((ls.getD i none).getD []) es AX/\ ∀ y,lk=some y -> y.1=i -> y.2=(b,es,AX):=by
 obtain ⟨p,vs,hp,Fv,Cc⟩:=hv;obtain ⟨p',A2,BY,h1⟩:=R.hr.obj j _ hk;have:p'=p:=zCq (A2.symm.trans hp);subst this;have:BY=vs:=by have:=h1.val.symm.trans Fv;cases this;rfl
 subst this;obtain ⟨b,g1,g2,g3,es,AX,g4,g5⟩:=h1.has i _ (PF hs);have:v= .map (some b):=by rw [g1] at Cc;exact (zCq Cc).symm
 exact ⟨p',BY,b,es,AX,hp,h1,this,g1,g3,g4,g5⟩
theorem Xo (R:Ac P Γ N S ρ a w) {d:DV} {v:Value} (hv:AK (MS N S.h ρ) w d ρ v):DJ P Γ N S.h ρ w true d S.h v w:=⟨⟨ρ,R.hr,hv,BH.refl _ _ _,fun _ _ h=>h⟩,fun _=>Ar.refl w⟩
theorem SH (H:BP P Γ N S.h ρ w) {ob:Obj} (DC:ji ob=true) {pl:AJ} (E1:pl.foot=fun b=>b=w.heap.size) {o:DO} {d:DV} {v:Value} (ho: ∀ M ρ',DU P M (w.alloc ob) ρ' pl o)
 (hv: ∀ M ρ',ρ'[S.h.length]? =some pl -> AK M (w.alloc ob) d ρ' v) (ext:Bool):DJ P Γ N S.h ρ w ext d (S.h++[some o]) v (w.alloc ob):=by
 have hE:Ar w (w.alloc ob):=(Ar.refl w).allocR _;have hf: ∀ b,pl.foot b -> w.heap.size<=b:=fun b hb=>by rw [E1] at hb;exact zFW (Eq.symm hb)
 have hb:(w.alloc ob).heap[w.heap.size]? =some ob:=zES w _;refine ⟨⟨ρ++[pl],H.snoc hE (fun b hx=>⟨hf b hx,ob,DC,(),by rw [E1] at hx;rw [show b=w.heap.size from hx];exact hb⟩) (ho _ _),?_,BH.snoc H hE hf,fun k p hk=>Dz hk⟩,fun _=>hE⟩;exact hv _ _ (by rw [←H.len];simp)
theorem ff (R:Ac P Γ N S ρ a w) {t:TypeId} {m k x:Operand} {d:DV} {h':DH} {vs:List Prop} {ext:Bool} (hd:US P S t (Aa S.fr m) (Aa S.fr k) (Aa S.fr x)=some (d,h',vs,ext)) (hv:Bm vs):
 ∃ w',(Instr.mapUpdate t (a.eval m) (a.eval k) (a.eval x)).run P w= .ok () w'/\ DJ P Γ N S.h ρ w ext d h' undef w':=by
 have rm:=Bo R m;have rk:=Bo R k;have rx:=Bo R x;unfold US at hd;split at hd
 ·rename_i n kt hT;obtain ⟨e,hu,hk,hz⟩:=Yo hT;split at hd
  ·rename_i xs hK hX;obtain ⟨ek,el⟩:=iV hK rk;rw [hX] at rx;have ex:a.eval x= .bool true:=rx;rw [ek,ex];split at hd
   ·rename_i j hM;split at hd
    ·rename_i n' l hO;split at hd
     ·rename_i hn;cases hd;subst hn;rw [hM] at rm;obtain ⟨p,es,AX,hp,ev,E1,Fv,hA⟩:=Xl R hO rm;rw [ev];obtain ⟨w',D0,Eo,h1,h2,h3⟩:=hA.put hu hk el;have LS:AO p.foot w w':=by rw [E1];exact h2
      refine ⟨w',h1,⟨ρ,R.hr.write hO hp LS (fun b hb=>?_) ⟨Fv,E1,D0,Eo,h3⟩,trivial,BH.write hO hp LS,fun _ _ h=>h⟩,fun h=>by cases h⟩;rw [E1] at hb;exact ⟨_,rfl,(),by rw [show b=p.blk from hb];exact h3.blk⟩
     ·cases hd
    ·cases hd
   ·rename_i j i hM;split at hd
    ·rename_i n' ls lk hO;split at hd
     ·rename_i hn;cases hd;subst hn;obtain ⟨hs,Z3,_⟩:=hv;rw [hM] at rm;obtain ⟨p,vs,b,es,AX,hp,hS,ev,Cc,GO,hA,_⟩:=Xk R hO rm hs;rw [ev];obtain ⟨w',D0,Eo,h1,h2,h3⟩:=hA.put hu hk el;have LS:AO p.foot w w':=h2.mono fun c _ hc=>by rw [show c=b from hc];exact GO
      have Lb:=hS.put (PF hs) Cc h2 h3 Z3;exact ⟨w',h1,⟨ρ,R.hr.write hO hp LS (fun b hb=>Lb.lies hb) ⟨vs,Lb⟩,trivial,BH.write hO hp LS,fun _ _ h=>h⟩,fun h=>by cases h⟩
     ·cases hd
    ·cases hd
   ·cases hd
  ·cases hd
 ·cases hd
theorem uf (es:Array MapEntry):leftOf es #[]=es:=by
 unfold leftOf;refine Array.filter_eq_self.2 fun x hx=>by simp
theorem qs {r bm IE AX:Nat} {seen:Array Nat} {es:Array MapEntry} {e:MapEntry} (hr:w.heap[r]? =some (.mapIter (some bm) IE seen AX)) (hs:seen.back? =some e.born) (hb:w.heap[bm]? =some (.map es AX)) (he:e∈es.toList) (hn:(es.toList.map (·.born)).Nodup):
 (Instr.entry (.pointer (some ⟨r,0,none⟩))).run P w= .ok (.tuple #[e.key,e.val]) w:=by
 have hf:es.find? (·.born==e.born)=some e:=by rw [←Array.find?_toList];exact find_born e es.toList hn he
 simp only [Instr.entry,getObj,zC3,Sem.run,hr,hb,Result.andThen,hs,bne_self_eq_false,zDU,zER,hf];rfl
theorem uH (R:Ac P Γ N S ρ a w) (o:Oper) {d:DV} {h':DH} {vs:List Prop} {ext:Bool} (hd:Yp P S o.op=some (d,h',vs,ext)) (hv:Bm vs):BM P (execOp a.eval o) w (DJ P Γ N S.h ρ w ext d h'):=by
 unfold Yp at hd;split at hd
 ·rename_i t ho;split at hd
  ·rename_i n kt hT;cases hd;refine BM.value (s:=Instr.makeMap t none) (by unfold execOp;rw [ho];rfl) (v:=.map (some w.heap.size)) (w':=w.alloc (.map #[] 0)) (by simp [Instr.makeMap,newObj];rfl) ?_;refine SH (ob:=.map #[] 0) (o:=.mo (.set n [])) (d:=.it S.h.length) (v:=.map (some w.heap.size)) (pl:=⟨w.heap.size,0,0,.map (some w.heap.size),fun b=>b=w.heap.size⟩) R.hr rfl rfl (fun M ρ'=>⟨rfl,rfl,#[],0,⟨zES w _,by simp,List.nodup_nil,fun y hy=>absurd hy zEP,fun e he=>absurd he (by simp),fun e he=>absurd he (by simp),by simp⟩⟩) (fun M ρ' hp=>⟨_,hp,rfl⟩) true
  ·cases hd
 ·rename_i t m k x ho;obtain ⟨w',h1,h2⟩:=ff R hd hv;exact BM.skip (s:=Instr.mapUpdate t (a.eval m) (a.eval k) (a.eval x)) (by unfold execOp;rw [ho]) h1 h2
 ·rename_i t m k x ho;obtain ⟨w',h1,h2⟩:=ff R hd hv;exact BM.skip (s:=Instr.mapUpdate t (a.eval m) (a.eval k) (a.eval x)) (by unfold execOp;rw [ho]) h1 h2
 ·rename_i t m k ho;have rm:=Bo R m;have rk:=Bo R k;split at hd
  ·rename_i n kt hT;obtain ⟨e,hu,hk,hz⟩:=Yo hT;split at hd
   ·rename_i xs hK;obtain ⟨ek,el⟩:=iV hK rk;split at hd
    ·rename_i j hM;split at hd
     ·rename_i n' l hO;split at hd
      ·rename_i hn;cases hd;subst hn;rw [hM] at rm;obtain ⟨p,es,AX,hp,ev,E1,Fv,hA⟩:=Xl R hO rm;exact BM.value (s:=Instr.lookup t (a.eval m) (a.eval k) false) (by unfold execOp;rw [ho]) (by rw [ek,ev];exact hA.look hu hk el (hz w)) (Xo R rfl)
      ·cases hd
     ·cases hd
    ·rename_i j i hM;split at hd
     ·rename_i n' ls lk hO;split at hd
      ·rename_i hn;cases hd;subst hn;rw [hM] at rm;obtain ⟨p,vs,b,es,AX,hp,hS,ev,Cc,GO,hA,_⟩:=Xk R hO rm hv.1;exact BM.value (s:=Instr.lookup t (a.eval m) (a.eval k) false) (by unfold execOp;rw [ho]) (by rw [ek,ev];exact hA.look hu hk el (hz w)) (Xo R rfl)
      ·cases hd
     ·cases hd
    ·cases hd
   ·cases hd
  ·cases hd
 ·rename_i t m ho;have rm:=Bo R m;split at hd
  ·rename_i n kt hT;obtain ⟨e,hu,hk,hz⟩:=Yo hT;split at hd
   ·rename_i j i hM;split at hd
    ·rename_i n' ls i' mb es AX hO;split at hd
     ·rename_i hn;cases hd;subst hn;obtain ⟨hs,hi,_⟩:=hv;subst hi;rw [hM] at rm;obtain ⟨p,vs,b,Hv,Wm,hp,hS,ev,Cc,GO,hA,hL⟩:=Xk R hO rm hs;have hL:=hL _ rfl rfl;cases hL;refine BM.value (s:=Instr.range t (a.eval m)) (by unfold execOp;rw [ho]) (by rw [ev];exact run_range_map w t _ _ _ _ _ hu hA.blk) ?_;refine SH (ob:=.mapIter (some mb) AX #[] AX) (o:=.mo (.mit n' mb es AX ((ls.getD i' none).getD []) none)) (d:=.it S.h.length) (v:=.pointer (some ⟨w.heap.size,0,none⟩)) (pl:=⟨w.heap.size,0,0,.pointer (some ⟨w.heap.size,0,none⟩),fun b=>b=w.heap.size⟩) R.hr rfl rfl (fun M ρ'=>⟨fun x hx=>hx.elim (hA.len x) (fun e=>by cases e),rfl,rfl,#[],zES w _,by rw [uf];exact hA.keys,fun x hx=>by cases hx⟩) (fun M ρ' hp=>⟨_,hp,rfl⟩) true
     ·cases hd
    ·cases hd
   ·cases hd
  ·cases hd
 ·rename_i m ho;have rm:=Bo R m;split at hd
  ·rename_i j hM;split at hd
   ·rename_i n mb es AX rem x hO;split at hd
    ·rename_i k n' ls i g8 D0 Eo hF;cases hd;obtain ⟨hs,e1,e2,e3,_⟩:=hv;subst e1 e2 e3;rw [hM] at rm;obtain ⟨p,hp,ev⟩:=rm;obtain ⟨p',A2,h0,h1,h2,seen,h3,h4,h5⟩:=R.hr.obj j _ hO;have:p'=p:=zCq (A2.symm.trans hp);subst this;obtain ⟨e,g1,g2,g3⟩:=h5 x rfl;have hF:=(zAG _ _ hF).2;obtain ⟨q,hq,vs,hS⟩:=R.hr.obj _ _ hF;obtain ⟨b,k1,k2,k3,Hv,Wm,k4,k5⟩:=hS.has i _ (PF hs);have k5:=k5 _ rfl rfl;cases k5;refine BM.value (s:=Instr.entry (a.eval m)) (by unfold execOp;rw [ho]) (by rw [ev,h1];exact qs h3 g3 k4.blk g1 k4.stamps) (Xo R ?_);refine ⟨_,rfl,rfl,fun c hc=>?_⟩;rw [Tg hc,g2,k4.tru e g1]
     match c,hc with
     | 0,_=>exact ⟨BG x,rfl,vA (h0 x (.inr rfl))⟩
     | 1,_=>exact ⟨.bool true,rfl,rfl⟩
    ·cases hd
   ·cases hd
  ·cases hd
 ·cases hd
end
end Go.Proofs.YtgkhhfnhacibcaaGreatDoor
