/- Part 1 of 7 of what the proofs of these laws stand on. -/
import Derived.WalkKit
import Derived.WalkSpells
import Derived.WalkLawsBesides
import Derived.Lib.Hide
import Derived.OrdersHeld
import Derived.Deep.RegionHeld
import Derived.BigQuiet
import Derived.OrdersIn
import Derived.TacticsIn
import Derived.RangeFuncOwn
import Derived.RangeFuncNested
import Derived.RangeFuncCalls
import Derived.Laws.IdiomRangeMap
import Derived.Laws.Cells
import Derived.Laws.Cover3
import Derived.Laws.StructEq
import Derived.ChangeKeysEq
import Derived.RowKit
import Derived.Deep.AppendSrc
import Derived.Laws.MakeOwn
import Derived.Great.BuildSlice
import Derived.Sort.LoopGhostIn
set_option linter.all false
namespace Go.Proofs.YtodinaconebmdaaGreatDoor
abbrev zBl:=@Nat.le_refl
abbrev zFX:=@Go.World.block_lt_of_cell?
open Go.RowKit
def Am (w w':World):Prop:=Below w.heap.size w w'
theorem Am.refl (w:World):Am w w:=Below.refl _ _
theorem Am.trans {a b c:World}(h:Am a b)(k:Am b c):Am a c:=Below.trans h (Below.mono k h.size)
theorem Am.alloc (w:World)(o:Obj):Am w (w.alloc o):=(Below.refl _ _).alloc (zBl _) o
theorem Am.allocR {w w':World}(h:Am w w')(o:Obj):Am w (w'.alloc o):=h.trans (Am.alloc w' o)
theorem Am.drewR {w w':World}(h:Am w w'):Am w w'.drew:=Below.drew h
theorem Am.size {w w':World}(h:Am w w'):w.heap.size<=w'.heap.size:=Below.size h
theorem Am.cells {w w':World}(h:Am w w'): ∀ b o,b<w.heap.size -> w'.cell? ⟨b,o,none⟩=w.cell? ⟨b,o,none⟩:=
 fun b o hb=>Below.cell h (p:=⟨b,o,none⟩) hb
theorem Am.cell {w w':World}(h:Am w w'){b o:Nat}{u:Value}(hc:w.cell? ⟨b,o,none⟩=some u):w'.cell? ⟨b,o,none⟩=some u:=by
 rw [h.cells b o (zFX w ⟨b,o,none⟩ hc)];exact hc
def F5 (b:Bool)(e:Int):Int:=if b then 0 else e
theorem zDV (e:Int):F5 true e=0:=rfl
structure AB where
 kind:Int
 cells:List Int
 set:Int
 other:Int
 lo:Int
 hi:Int
 runs:List Int
 rule:Int
 spot:Int
 deriving DecidableEq,Inhabited
structure AA where
 cells:Int
 symbols:Int
 values:List Int
 nbrs:List (List Int)
 cons:List AB
 deriving DecidableEq,Inhabited
abbrev zAA:=@if_pos
abbrev zAO:=@Bool.and_eq_true
abbrev zAV:=@Option.some.inj
abbrev zAY:=@if_neg
abbrev zBx:=@Go.Sem.run_bind
abbrev zCL:=@Bool.or_eq_true
abbrev zCR:=@beq_iff_eq
abbrev zCZ:=@Bool.false_eq_true
abbrev zCb:=@Nat.lt_or_ge
abbrev zGg:=@Go.mem_ready
abbrev zG5:=@Array.getElem?_eq_none
def Tu:Op -> Bool
 | .move _ | .assign _ | .pick .. | .load .. | .binOp .. | .unOp .. | .convert .. | .makeFunc .. | .slice .. | .fieldAddr .. | .field .. | .indexAddr .. | .index .. | .extract .. | .build .. | .lookup .. | .makeInterface .. | .nilCheck _ | .typeAssert .. =>true
 | .call c=>match c.callee with
  | .builtin .len | .builtin .cap | .builtin .min | .builtin .max=>true
  | _=>false
 | _=>false
theorem QL {P:Program}{w w':World}{α:Type}{s:Sem α}{f:α -> Value}{n:Next}(h:(s>>=fun x=>(pure (.value (f x)):Sem Next)).run P w= .ok n w'): ∃ v,n= .value v:=by
 rw [zBx] at h;cases hs:s.run P w with
 | ok v w1=>rw [hs] at h;simp only [Result.andThen] at h;cases h;exact ⟨_,rfl⟩
 | halt x w1=>rw [hs] at h;simp only [Result.andThen] at h;cases h
theorem wj {P:Program}{ρ:Operand -> Value}{o:Oper}{w w':World}{n:Next}(hp:Tu o.op=true)(h:(execOp ρ o).run P w= .ok n w'): ∃ v,n= .value v:=by
 unfold execOp at h;cases ho:o.op <;> rw [ho] at hp h <;> simp only [Tu,zCZ] at hp
 all_goals first | exact QL (f:=fun x=>x) h | (cases h;exact ⟨_,rfl⟩) | skip
 ·rename_i c x y;exact QL (s:=asBool (ρ c)) (f:=fun b=>if b then ρ x else ρ y) h
 ·rename_i x
  have hb: ∀ {α:Type} (s:Sem α) (f:α -> Sem Next) (w0:World),(∀ a w1,(f a).run P w1= .ok n w' -> ∃ v,n= .value v) -> (s>>=f).run P w0= .ok n w' -> ∃ v,n= .value v:=by
   intro α s f w0 hf hr;rw [zBx] at hr;cases hs:s.run P w0 with
   | ok v w1=>rw [hs] at hr;exact hf _ _ hr
   | halt x w1=>rw [hs] at hr;simp only [Result.andThen] at hr;cases hr
  have RE:(runtimePanic .nilDeref:Sem Next).run P w= .ok n w' -> ∃ v,n= .value v:=by
   intro he;unfold runtimePanic at he;refine hb _ _ _ ?_ he;intro a w1 h1;cases h1
  simp only at h;split at h
  ·exact RE h
  ·exact RE h
  ·exact RE h
  ·split at h
   ·exact RE h
   ·refine hb _ _ _ ?_ h;intro p w1 h1;refine hb _ _ _ ?_ h1;intro q w2 h2;split at h2
    ·refine hb _ _ _ ?_ h2;intro r w3 h3;cases h3;exact ⟨_,rfl⟩
    ·cases h2;exact ⟨_,rfl⟩
   ·cases h;exact ⟨_,rfl⟩
  ·cases h;exact ⟨_,rfl⟩
 ·rename_i c;replace h:((resolve ρ c o.type)>>=fun d=>invoke d.target d.args).run P w= .ok n w':=h;rw [zBx] at h;unfold resolve at h;cases hc:c.callee with
  | value f=>rw [hc] at hp;simp at hp
  | invoke r m=>rw [hc] at hp;simp at hp
  | builtin b=>
   rw [hc] at hp h;have e: ∀ d:Deferred,(pure d:Sem Deferred).run P w= .ok d w:=fun _=>rfl
   simp only [e,Result.andThen] at h;unfold invoke at h;cases b <;> simp at hp <;> exact QL (f:=fun x=>x) h
structure V7 (w:World) where
 W:World
 le:Am w W
def SV (w:World):World -> Prop:=fun w'=>∃ x:V7 w,w'=x.W
theorem SV.iff {w w':World}:SV w w'↔Am w w':=⟨fun ⟨x,e⟩=>e▸x.le,fun h=>⟨⟨w',h⟩,rfl⟩⟩
theorem Am.toDrew (w:World):Am w w.drew:=Am.drewR (Am.refl w)
section
variable {P:Program} {ops:Array Oper} {Q:Exit -> Act -> World -> Prop}
theorem rI {w:World}{o:Oper}{a:Act}{v:Value}(hp:Tu o.op=true)(hw:Region.wanted o (yielded ops a.tmps)=true) 
 (h: ∀ w',SV w w' -> o.quietAt P a (SV w) w' v):YieldsIf P ops (Am w) o v a:=by
 refine .inl ⟨hw,fun w' hE=>?_⟩;have:=h w' (SV.iff.2 hE);unfold Oper.quietAt at this;cases hr:(execOp a.eval o).run P w' with
 | halt x w1=>rw [hr] at this;simp [Oper.quietUpon] at this
 | ok n w1=>
  obtain ⟨u,rfl⟩:=wj hp hr;rw [hr] at this;obtain ⟨rfl,rfl⟩:=this;rfl
def NP (Q:Exit -> Act -> World -> Prop):Exit -> Act -> World -> Prop
 | .panic _,_,_=>False
 | e,a,w=>Q e a w
theorem NP.put (c:List PanicEntry)(a:Act)(d:Option Tmp)(v:Value)(w:World)(h:NP Q (.panic c) (a.put d v) w):NP Q (.panic c) a w:=h.elim
def Ge (ops:Array Oper)(AV:Array Bool):Prop:=∀ (j:Nat) (oj:Oper),ops[j]? =some oj -> AV.getD j false=true -> ∀ e∈oj.after,Region.binds .any e=true -> AV.getD e.on false=true
theorem Ge.set {AV:Array Bool}{i:Nat}(h:Ge ops AV)(hi:i∈Region.ready .any ops AV):Ge ops (AV.setIfInBounds i true):=by
 obtain ⟨_,oi,hoi,H5⟩:=zGg.1 hi;intro j oj hj hl e he hb
 by_cases Ut:i=j
 ·subst Ut;have:oj=oi:=zAV (hj.symm.trans hoi);subst this;exact getD_set_true (H5 e he hb)
 ·rw [getD_set_ne false Ut] at hl;exact getD_set_true (h j oj hj hl e he hb)
def Fn (ops:Array Oper):Nat -> Nat -> Nat -> Bool
 | 0,_,_=>false
 | n+1,t,i=>match ops[t]? with
  | none=>false
  | some o=>o.after.any fun e=>Region.binds .any e&&(e.on==i||Fn ops n e.on i)
theorem WG {AV:Array Bool}(hc:Ge ops AV): ∀ (n t i:Nat) (o:Oper),ops[t]? =some o -> (∀ e∈o.after,Region.binds .any e=true -> AV.getD e.on false=true) -> Fn ops n t i=true -> AV.getD i false=true
 | 0,_,_,_,_,_,h=>by simp [Fn] at h
 | n+1,t,i,o,ho,H5,h=>by
  simp only [Fn,ho] at h;obtain ⟨e,he,hb⟩:=Array.any_eq_true'.1 h;simp only [zAO,zCL,zCR] at hb;obtain ⟨hb,h1 | h1⟩:=hb
  ·rw [←h1];exact H5 e he hb
  ·cases db:ops[e.on]? with
   | none=>cases n <;> simp [Fn,db] at h1
   | some o2=>exact WG hc n e.on i o2 db (hc e.on o2 db (H5 e he hb)) h1
theorem VA {AV:Array Bool}{i:Nat}(h:AV.getD i true=false):AV.getD i false=false:=by
 rcases zCb i AV.size with h' | h'
 ·simp [h'] at h ⊢;exact h
 ·simp [zG5 h'] at h
def CB (ops:Array Oper):List Nat -> List Oper
 | []=>[]
 | i::l=>match ops[i]? with | some o=>o::CB ops l | none=>CB ops l
def TF (ops:Array Oper)(By:Nat -> Bool):List Nat -> Array Bool -> Bool
 | [],_=>true
 | i::l,AV=>(Region.ready .any ops AV).contains i&&Region.free .any ops AV i&&(match ops[i]? with | some o=>Tu o.op | none=>false)&&
  ((List.range ops.size).all fun j=>!By j||Fn ops ops.size j i)&&TF ops By l (AV.setIfInBounds i true)
def K1 (l:List Nat)(AV:Array Bool):Array Bool:=l.foldl (fun s i=>s.setIfInBounds i true) AV
def Sq (ops:Array Oper):List Nat -> Array Bool -> Bool
 | [],AV=>(Region.ready .any ops AV).isEmpty
 | t::ts,AV=>Region.ready .any ops AV== [t]&&Sq ops ts (AV.setIfInBounds t true)
def TG (ops:Array Oper)(By:Nat -> Bool):List (List Nat×Nat) -> List Nat -> List Nat -> Array Bool -> Bool
 | [],BV,tail,AV=>TF ops By BV AV&&((List.range ops.size).all fun j=>By j||(K1 BV AV).getD j true)&&Sq ops tail (K1 BV AV)
 | (C3,i)::Cv,BV,tail,AV=>TF ops By C3 AV&&(Region.ready .any ops (K1 C3 AV)== [i])&&TG ops By Cv BV tail ((K1 C3 AV).setIfInBounds i true)
def RQ:List (List Nat×Nat) -> List Nat -> Nat
 | [],BV=>BV.length
 | (C3,_)::Cv,BV=>C3.length+(1+RQ Cv BV)
def aD (ops:Array Oper)(Dj:List (List Nat×Nat))(BV tail:List Nat):Bool:= Region.noSelect ops&&RQ Dj BV+tail.length==ops.size&&TG ops (fun j=>tail.contains j) Dj BV tail (Array.replicate ops.size false)
theorem Zg {C:World -> Prop}: ∀ (l:List Oper) (a:Act) (K K':Act -> Prop),(∀ a,K a -> K' a) -> wpQuiet P ops C K l a -> wpQuiet P ops C K' l a
 | [],a,K,K',hk,h=>hk a h
 | o::l,a,K,K',hk,h=>by
  unfold wpQuiet at*
  by_cases hw:Region.wanted o (yielded ops a.tmps)=true
  ·rw [zAA hw] at h ⊢;exact Oper.quiet_mono (fun a h=>Zg l a K K' hk h) h
  ·rw [zAY hw] at h ⊢;exact Zg l _ K K' hk h
end
abbrev zAL:=@Array.getElem?_eq_some_iff
abbrev zAX:=@List.all_eq_true
abbrev zBf:=@List.mem_range
abbrev zBv:=@List.mem_singleton
abbrev zBy:=@Nat.zero_add
abbrev zCV:=@Array.getElem?_eq_getElem
abbrev zFV:=@if_true
abbrev zFd:=@List.length_nil
abbrev zFp:=@Go.Oper.semAt_eq
abbrev zF2:=@if_false
abbrev zGL:=@Array.mem_of_getElem?
abbrev zGb:=@Go.wpOpIn_mono
abbrev zGh:=@Go.Act.put_comm
abbrev zGi:=@Ne.symm
def Cu (ops:Array Oper):Bool:=ops.all fun o=>match o.op with
 | .defer _=>false
 | _=>true
theorem Hc {ops:Array Oper}(h:Cu ops=true){j:Nat}{o:Oper}(hj:ops[j]? =some o): ∀ c,o.op≠.defer c:=by
 intro c hc;have hm:o∈ops:=zGL hj;have:=Array.all_eq_true'.1 h o hm;rw [hc] at this;cases this
section
variable {F:Fence} {n:Nat} {P:Program} {ops:Array Oper} {Q:Exit -> Act -> World -> Prop}
theorem V8 {S:World -> Prop}{i:Nat}{o:Oper}{v:Value}{a:Act}(hF: ∀ f,F.fn f)(hd: ∀ c,o.op≠.defer c)(hi:ops[i]? =some o)(hy:YieldsIf P ops S o v a) 
 {K:Act -> World -> Prop} {w:World} (hS:S w) (h:K (a.put o.dst v) w):wpOpIn F n P ops Q i K a w:=by
 unfold Go.wpOpIn;simp only [hi];rcases hy with ⟨hw,hv⟩ | ⟨hw,rfl⟩
 ·simp only [hw,zFV,Oper.wpIn,zFp _ _ _ hd,hv w hS,Oper.uponIn];exact ⟨fun f _=>hF f,h⟩
 ·simp only [hw,zCZ,zF2];exact ⟨fun f _=>hF f,h⟩
theorem gP {S:World -> Prop}{j:Nat}{oi oj:Oper}{v:Value}(hF: ∀ f,F.fn f)(n7: ∀ c,oj.op≠.defer c)(hj:ops[j]? =some oj)(Lk:oi.apart ops oj=true) 
 (hsi: ∀ cs b,oi.op≠.select cs b) (hsj: ∀ cs b,oj.op≠.select cs b)
 (hQ: ∀ c a w,Q (.panic c) (a.put oi.dst v) w -> Q (.panic c) a w) {K:Act -> World -> Prop} {a:Act} {w:World}
 (hy:YieldsIf P ops S oi v a) (h:wpOpIn F n P ops Q j K (a.put oi.dst v) w):
 wpOpIn F n P ops Q j (fun a' w'=>YieldsIf P ops S oi v a'/\ K (a'.put oi.dst v) w') a w:=by
 obtain ⟨h1,h2,h3⟩:=Oper.apart_spec Lk
 have keep: ∀ (a:Act),YieldsIf P ops S oi v a -> ∀ u,YieldsIf P ops S oi v (a.put oj.dst u):=fun a hy u=>
  hy.of_same (execOp_put oi hsi a oj.dst u h3) (wanted_put oi a oj.dst u h3)
 have zJ: ∀ d,YieldsIf P ops S oi v { a with defers:=d::a.defers }:=fun d=>hy.of_same rfl rfl
 unfold wpOpIn at*;simp only [hj] at*;rw [wanted_put oj a oi.dst v h1] at h;split
 ·rename_i hw;simp only [hw,zFV] at h;unfold Oper.wpIn at*;refine ⟨fun f _=>hF f,?_⟩;have h:=h.2;rw [zFp _ _ _ n7,execOp_put oj hsj a oi.dst v h1] at h;rw [zFp _ _ _ n7]
  generalize (execOp a.eval oj).run P w=r at*
  cases r with
  | ok x w'=>
   cases x <;> simp only [Oper.uponIn] at h ⊢
   case value u=>exact ⟨keep a hy u,by rw [←zGh a v u h2];exact h⟩
   case skip=>exact ⟨keep a hy _,by rw [←zGh a v undef h2];exact h⟩
   case defer d=>
    refine ⟨keep _ (zJ d) _,?_⟩;rw [←zGh _ v undef h2,←Act.put_defers];exact h
   case enter f args=>
    refine ⟨h.1,CallsIn.mono h.2 fun e Bu he=>?_⟩;cases e with
    | returned u=>exact ⟨keep a hy u,by rw [←zGh a v u h2];exact he⟩
    | panicked c=>exact hQ _ _ _ he
    | outgrown=>exact he
   case row row args=>exact ⟨h.1,RowsIn.mono h.2 fun u Bu he=>⟨keep a hy u,by rw [←zGh a v u h2];exact he⟩⟩
   case round l f tmps assign body=>
    refine ⟨h.1,RoundIn.mono h.2 fun e Bu he=>?_⟩;cases e with
    | returned u=>exact ⟨keep a hy u,by rw [←zGh a v u h2];exact he⟩
    | panicked c=>exact hQ _ _ _ he
    | outgrown=>exact he
  | halt x w'=>
   cases x <;> simp only [Oper.uponIn] at h ⊢
   case panic u=>exact hQ _ _ _ h
 ·rename_i hw;simp only [hw] at h;exact ⟨fun f _=>hF f,keep a hy _,by rw [←zGh a v undef h2];exact h.2⟩
theorem rN {i:Nat}{K:Act -> World -> Prop}{a:Act}{w:World}(h:wpOpIn F n P ops (NP Q) i K a w):wpOpIn F n P ops Q i K a w:=by
 unfold wpOpIn at*;split
 ·rename_i ho;simp only [ho] at h;exact h
 ·rename_i o ho;simp only [ho] at h;have hl:LetsOut (NP Q) -> LetsOut Q:=fun ⟨a,w,h⟩=>⟨a,w,h⟩
  by_cases hw:Region.wanted o (yielded ops a.tmps)=true
  ·rw [zAA hw] at h ⊢;unfold Oper.wpIn at*;refine ⟨h.1,?_⟩;have h:=h.2
   generalize (o.semAt F.round a.eval).run P w=r at*
   cases r with
   | ok x w'=>
    cases x <;> simp only [Oper.uponIn] at h ⊢ <;> first | exact h | skip
    ·refine ⟨h.1,CallsIn.mono h.2 fun e Bu he=>?_⟩;cases e with
     | returned v=>exact he
     | panicked c=>exact he.elim
     | outgrown=>exact hl he
    ·refine ⟨h.1,RoundIn.mono h.2 fun e Bu he=>?_⟩;cases e with
     | returned v=>exact he
     | panicked c=>exact he.elim
     | outgrown=>exact hl he
   | halt x w'=>cases x <;> simp only [Oper.uponIn] at h ⊢;exact h.elim
  ·rw [zAY hw] at h ⊢;exact h
def J1 (F:Fence)(n:Nat)(P:Program)(ops:Array Oper)(Q:Exit -> Act -> World -> Prop)(By:Nat -> Bool)(g:Nat)(S:World -> Prop):Nat -> Array Bool -> Act -> World -> Prop
 | 0,AV,a,w=>(∀ j,j<ops.size -> By j=false -> AV.getD j true=true)/\ wpAnyIn F n P .any ops Q g AV a w
 | m+1,AV,a,w=>Region.ready .any ops AV≠[]/\ ∀ i∈Region.ready .any ops AV,wpOpIn F n P ops (NP Q) i (fun a' w'=>S w'/\ J1 F n P ops Q By g S m (AV.setIfInBounds i true) a' w') a w
theorem Zh {By:Nat -> Bool}{g:Nat}{S S':World -> Prop}(hS: ∀ w,S' w -> S w): ∀ (m:Nat) (AV:Array Bool) (a:Act) (w:World),
 J1 F n P ops Q By g S' m AV a w -> J1 F n P ops Q By g S m AV a w
 | 0,_,_,_,h=>h
 | m+1,_,_,_,h=>⟨h.1,fun i hi=>zGb (fun _ _ h'=>⟨hS _ h'.1,Zh hS m _ _ _ h'.2⟩) (h.2 i hi)⟩
theorem gW {By:Nat -> Bool}{g:Nat}{S:World -> Prop}: ∀ (m:Nat) (AV:Array Bool) (a:Act) (w:World),J1 F n P ops Q By g S m AV a w -> wpAnyIn F n P .any ops Q (m+g) AV a w
 | 0,_,_,_,h=>by rw [zBy];exact h.2
 | m+1,_,_,_,h=>by
  rw [show m+1+g=(m+g)+1 by omega];exact ⟨fun h0=>absurd h0 h.1,fun i hi=>zGb (fun a' w' h'=>gW m _ a' w' h'.2) (rN (h.2 i hi))⟩
theorem gV (hF: ∀ f,F.fn f)(As:Cu ops=true){By:Nat -> Bool}{g:Nat}{S:World -> Prop}{i k:Nat}{oi:Oper}{v:Value}(hi:ops[i]? =some oi)(Uh: ∀ (j:Nat) (o:Oper) cs b,ops[j]? =some o -> o.op≠.select cs b) 
 (hT: ∀ j,j<ops.size -> By j=true -> Fn ops k j i=true):
 ∀ (m:Nat) (AV:Array Bool) (a:Act) (w:World),Ge ops AV ->
  (∀ j oj,ops[j]? =some oj -> j≠i -> AV.getD j true=false -> (∀ e∈oj.after,Region.binds .any e=true -> e.on≠i) -> oi.apart ops oj=true) ->
  i∈Region.ready .any ops AV -> YieldsIf P ops S oi v a -> S w ->
  J1 F n P ops Q By g S m (AV.setIfInBounds i true) (a.put oi.dst v) w -> J1 F n P ops Q By g S (m+1) AV a w:=by
 intro m
 induction m with
 | zero=>
  intro AV a w BF _ hr hy hS H;have NC:=(zGg.1 hr).1;refine ⟨fun h=>(by rw [h] at hr;cases hr),fun j hj=>?_⟩
  by_cases E9:j=i
  ·subst E9;exact V8 hF (Hc As hi) hi hy hS ⟨hS,H⟩
  ·exfalso
   obtain ⟨Kc,oj,Fv,H5⟩:=zGg.1 hj;have PT:=(zAL.1 Fv).1;cases ht:By j with
   | true=>
    have:=WG BF k j i oj Fv H5 (hT j PT ht);rw [VA NC] at this;cases this
   | false=>
    have:=H.1 j PT ht;rw [getD_set_ne true (zGi E9),Kc] at this;cases this
 | succ m ih=>
  intro AV a w BF Uw hr hy hS H;have NC:=(zGg.1 hr).1;refine ⟨fun h=>(by rw [h] at hr;cases hr),fun j hj=>?_⟩
  by_cases E9:j=i
  ·subst E9;exact V8 hF (Hc As hi) hi hy hS ⟨hS,H⟩
  ·have h1:=H.2 j (ready_mono hj E9);obtain ⟨Kc,oj,Fv,H5⟩:=zGg.1 hj
   have dM: ∀ e∈oj.after,Region.binds .any e=true -> e.on≠i:=fun e he hb RO=>by
    have h1:=H5 e he hb;rw [RO,VA NC] at h1;cases h1
   have h2:=gP hF (Hc As Fv) Fv (Uw j oj Fv E9 Kc dM) (fun cs b=>Uh i oi cs b hi) (fun cs b=>Uh j oj cs b Fv) (fun c a w h=>NP.put c a _ _ w h) hy h1
   have zB4: ∀ k ok,ops[k]? =some ok -> k≠i -> (AV.setIfInBounds j true).getD k true=false ->
    (∀ e∈ok.after,Region.binds .any e=true -> e.on≠i) -> oi.apart ops ok=true:=fun k ok hk Uq Eg HA=>by
    refine Uw k ok hk Uq ?_ HA
    by_cases Us:j=k
    ·subst Us;exact Kc
    ·rw [getD_set_ne true Us] at Eg;exact Eg
   refine zGb (fun a' w' h3=>⟨h3.2.1,ih (AV.setIfInBounds j true) a' w' (BF.set hj) zB4 (ready_mono hr (zGi E9)) h3.1 h3.2.1 ?_⟩) h2;rw [Array.setIfInBounds_comm _ _ E9];exact h3.2.2
def QU (F:Fence)(n:Nat)(P:Program)(ops:Array Oper)(Q:Exit -> Act -> World -> Prop):List Nat -> Act -> World -> Prop
 | [],a,w=>Q .normal a w
 | t::ts,a,w=>wpOpIn F n P ops Q t (QU F n P ops Q ts) a w
def bw (C3:List Nat)(b w:World):World:=match C3 with
 | []=>b
 | _=>w
def PV (F:Fence)(n:Nat)(P:Program)(ops:Array Oper)(Q:Exit -> Act -> World -> Prop):World -> List (List Nat×Nat) -> List Nat -> List Nat -> Act -> World -> Prop
 | _,[],BV,tail,a,w=>wpQuiet P ops (fun w'=>∃ x:V7 w,w'=x.W) (fun a'=>QU F n P ops Q tail a' w) (CB ops BV) a
 | b,(C3,i)::Cv,BV,tail,a,w=>wpQuiet P ops (fun w'=>∃ x:V7 w,w'=x.W) (fun a'=>wpOpIn F n P ops (NP Q) i (fun GB Bu=>Am (bw C3 b w) Bu/\ PV F n P ops Q (bw C3 b w) Cv BV tail GB Bu) a' w) (CB ops C3) a
theorem iW: ∀ (tail:List Nat) (AV:Array Bool) (a:Act) (w:World),Sq ops tail AV=true -> QU F n P ops Q tail a w -> wpAnyIn F n P .any ops Q tail.length AV a w
 | [],AV,a,w,hk,h=>⟨by simpa [Sq] using hk,h⟩
 | t::ts,AV,a,w,hk,h=>by
  simp only [Sq,zAO,zCR] at hk;refine ⟨fun h0=>(by rw [hk.1] at h0;cases h0),fun i hi=>?_⟩;rw [hk.1,zBv] at hi;subst hi;exact zGb (fun a' w' h'=>iW ts _ a' w' hk.2 h') h
theorem Wd (hF: ∀ f,F.fn f)(As:Cu ops=true){w:World}{By:Nat -> Bool}{g:Nat}(hs:Region.noSelect ops=true){next:Act -> Prop}{m:Nat}:
 ∀ (l:List Nat) (AV:Array Bool) (a:Act),Ge ops AV -> TF ops By l AV=true -> wpQuiet P ops (SV w) next (CB ops l) a ->
  (∀ a',Ge ops (K1 l AV) -> next a' -> J1 F n P ops Q By g (Am w) m (K1 l AV) a' w) -> J1 F n P ops Q By g (Am w) (l.length+m) AV a w
 | [],AV,a,BF,_,h,hn=>by
  simp only [zFd,zBy];exact hn a BF h
 | i::l,AV,a,BF,hk,h,hn=>by
  simp only [TF,zAO] at hk;obtain ⟨⟨⟨⟨hr,hf⟩,hp⟩,hT⟩,Cz⟩:=hk;have CC:i∈Region.ready .any ops AV:=by simpa using hr
  have oG: ∀ j,j<ops.size -> By j=true -> Fn ops ops.size j i=true:=fun j hj ht=>by
   have:=zAX.1 hT j (zBf.2 hj);simpa [ht] using this
  have Io:(i::l).length+m=(l.length+m)+1:=by simp;omega
  rw [Io];cases hi:ops[i]? with
  | none=>rw [hi] at hp;simp at hp
  | some o=>
   rw [hi] at hp;simp only [CB,hi] at h;unfold wpQuiet at h
   by_cases hw:Region.wanted o (yielded ops a.tmps)=true
   ·rw [zAA hw] at h;obtain ⟨v,h1,h2⟩:=h;exact gV hF As hi (Region.noSelect_spec hs) oG _ AV a w BF (Region.free_spec hi hf) CC (rI hp hw h1) (Am.refl _) (Wd hF As hs l _ _ (BF.set CC) Cz h2 hn)
   ·rw [zAY hw] at h;exact gV hF As hi (Region.noSelect_spec hs) oG _ AV a w BF (Region.free_spec hi hf) CC (.inr ⟨by simpa using hw,rfl⟩) (Am.refl _) (Wd hF As hs l _ _ (BF.set CC) Cz h hn)
theorem n5 (hF: ∀ f,F.fn f)(As:Cu ops=true){By:Nat -> Bool}(hs:Region.noSelect ops=true):
 ∀ (Dj:List (List Nat×Nat)) (BV tail:List Nat) (AV:Array Bool) (a:Act) (b w:World),Am b w -> Ge ops AV -> TG ops By Dj BV tail AV=true -> PV F n P ops Q b Dj BV tail a w ->
  J1 F n P ops Q By tail.length (Am b) (RQ Dj BV) AV a w
 | [],BV,tail,AV,a,b,w,hb,BF,hk,h=>by
  simp only [TG,zAO] at hk;obtain ⟨⟨h1,h2⟩,h3⟩:=hk
  have:=Wd (m:=0) hF As hs BV AV a BF h1 h (fun a' _ hq=>⟨fun j hj ht=>by
   have:=zAX.1 h2 j (zBf.2 hj);simpa [ht] using this,iW tail _ a' w h3 hq⟩)
  refine Zh (fun W hW=>hb.trans hW) _ _ _ _ ?_;simpa [RQ] using this
 | (C3,i)::Cv,BV,tail,AV,a,b,w,hb,BF,hk,h=>by
  simp only [TG,zAO,zCR] at hk;obtain ⟨⟨h1,h2⟩,h3⟩:=hk
  have one: ∀ (a':Act) (b':World),Am b' w -> Ge ops (K1 C3 AV) -> wpOpIn F n P ops (NP Q) i (fun GB Bu=>Am b' Bu/\ PV F n P ops Q b' Cv BV tail GB Bu) a' w ->
   J1 F n P ops Q By tail.length (Am b') (RQ Cv BV+1) (K1 C3 AV) a' w:=fun a' b' DQ dq hq=>by
   refine ⟨fun h0=>(by rw [h2] at h0;cases h0),fun j hj=>?_⟩;have BM:=hj;rw [h2,zBv] at hj;subst hj;refine zGb (fun GB Bu h'=>⟨h'.1,?_⟩) hq;exact n5 hF As hs Cv BV tail _ GB b' Bu h'.1 (dq.set BM) h3 h'.2
  cases C3 with
  | nil=>
   have:=one a b hb BF h;simpa [RQ,Nat.add_comm,K1] using this
  | cons s0 ss=>
   refine Zh (fun W hW=>hb.trans hW) _ _ _ _ ?_;refine Wd hF As hs (s0::ss) AV a BF h1 h fun a' dq hq=>?_
   rw [Nat.add_comm 1];exact one a' w (Am.refl w) dq hq
theorem rQ {id:Nat}{a:Act}{w:World}(hF: ∀ f,F.fn f)(Dj:List (List Nat×Nat))(BV tail:List Nat)(hm:P.follows .mixedOrders=true)(hB:(aD ops Dj BV tail&&Cu ops)=true) 
 (h:PV F n P ops Q w.drew Dj BV tail a w.drew):(Code.region id ops true).wpIn F n P Q a w:=by
 simp only [aD,zAO,zCR] at hB;obtain ⟨⟨⟨h1,h2⟩,h3⟩,h4⟩:=hB
 have BF:Ge ops (Array.replicate ops.size false):=fun j oj _ hl=>by
  exfalso
  rcases zCb j ops.size with h | h
  ·simp [h] at hl
  ·simp [h] at hl
 have:=gW _ _ _ _ (n5 hF h4 h1 Dj BV tail _ a w.drew w.drew (Am.refl _) BF h3 h);rw [h2] at this;exact wpIn_region_any hm this
theorem iX: ∀ (tail:List Nat) (a:Act) (w:World),(∀ t∈tail,t<ops.size) -> wpListIn F n P ops Q (CB ops tail) a w -> QU F n P ops Q tail a w
 | [],_,_,_,h=>h
 | t::ts,a,w,hl,h=>by
  have ht:ops[t]? =some (ops[t]'(hl t (by simp))):=zCV _;simp only [CB,ht] at h;unfold QU wpOpIn;simp only [ht];unfold wpListIn at h;have hm: ∀ a w,wpListIn F n P ops Q (CB ops ts) a w -> QU F n P ops Q ts a w:=fun a w h=>iX ts a w (fun t ht=>hl t (by simp [ht])) h
  by_cases hw:Region.wanted (ops[t]'(hl t (by simp))) (yielded ops a.tmps)=true
  ·rw [zAA hw] at h ⊢;exact Oper.wpIn_mono hm h
  ·rw [zAY hw] at h ⊢;exact ⟨h.1,hm _ _ h.2⟩
theorem zCB {BV tail:List Nat}{a:Act}{b w:World}(ht:(tail.all fun t=>decide (t<ops.size))=true) 
 (h:wpQuiet P ops (fun w'=>∃ x:V7 w,w'=x.W) (fun a'=>wpListIn F n P ops Q (CB ops tail) a' w) (CB ops BV) a):
 PV F n P ops Q b [] BV tail a w:=by
 refine Zg _ _ _ _ (fun a' h=>?_) h;exact iX tail a' w (fun t h=>by simpa using zAX.1 ht t h) h
end
abbrev zAa:=@Nat.le_trans
abbrev zBa:=@Nat.lt_of_lt_of_le
abbrev zB9:=@List.mem_of_getElem?
abbrev zCC:=@List.mem_cons
abbrev zDh:=@Go.World.putObj_heap_other
abbrev zFf:=@Go.StepsIn.trans
abbrev zF7:=@Go.fenced_calm
abbrev zGE:=@Go.wpIn_mono
abbrev zGV:=@Go.stepR_block
abbrev zGj:=@Go.callsIn_wide
abbrev zG3:=@Go.RowKit.Below.block
abbrev zHP:=@Go.leaves_stepsInM
structure AN (S:Nat -> Prop)(w w':World):Prop where
 os:w'.os=w.os
 tape:w'.tape=w.tape
 output:w'.output=w.output
 size:w.heap.size<=w'.heap.size
 block: ∀ k,k<w.heap.size -> ¬ S k -> w'.heap[k]? =w.heap[k]?
theorem AN.refl (S:Nat -> Prop)(w:World):AN S w w:=⟨rfl,rfl,rfl,zBl _,fun _ _ _=>rfl⟩
theorem AN.comp {S S':Nat -> Prop}{a b c:World}(h:AN S a b)(k:AN S' b c)(hs: ∀ i,i<a.heap.size -> S' i -> S i):AN S a c:=
 ⟨k.os.trans h.os,k.tape.trans h.tape,k.output.trans h.output,zAa h.size k.size,
  fun i hi hn=>(k.block i (zBa hi h.size) (fun hx=>hn (hs i hi hx))).trans (h.block i hi hn)⟩
theorem AN.trans {S:Nat -> Prop}{a b c:World}(h:AN S a b)(k:AN S b c):AN S a c:=h.comp k fun _ _ h=>h
theorem AN.mono {S S':Nat -> Prop}{a b:World}(h:AN S a b)(hs: ∀ i,i<a.heap.size -> S i -> S' i):AN S' a b:=
 ⟨h.os,h.tape,h.output,h.size,fun i hi hn=>h.block i hi fun hx=>hn (hs i hi hx)⟩
theorem AN.ofExt {S:Nat -> Prop}{a b:World}(h:Am a b):AN S a b:=⟨Below.os h,Below.tape h,Below.output h,Below.size h,fun i hi _=>zG3 h i hi⟩
theorem AN.toExt {S:Nat -> Prop}{a b:World}(h:AN S a b)(hs: ∀ i,i<a.heap.size -> ¬ S i):Am a b:=⟨h.os,h.tape,h.output,h.size,fun i hi=>h.block i hi (hs i hi)⟩
theorem AN.alloc {S:Nat -> Prop}{a b:World}(h:AN S a b)(o:Obj):AN S a (b.alloc o):=h.trans (AN.ofExt (Am.alloc b o))
theorem AN.setCell {S:Nat -> Prop}{a b:World}(h:AN S a b){p:Addr}(hp:p.block<a.heap.size -> S p.block)(u:Value):AN S a (b.setCell p u):=by
 refine h.comp (S':=fun k=>k=p.block) ⟨rfl,rfl,rfl,?_,fun k _ hk=>?_⟩ (fun i hi e=>by cases e;exact hp hi)
 ·show b.heap.size<=(b.heap.modify _ _).size
  rw [Array.size_modify];exact zBl _
 ·exact Below.heap_setCell b p u k hk
theorem AN.putObj {S:Nat -> Prop}{a b:World}(h:AN S a b){l:Nat}(hl:l<a.heap.size -> S l)(o:Obj):AN S a (b.putObj l o):=by
 refine h.comp (S':=fun k=>k=l) ⟨rfl,rfl,rfl,by simp,fun k _ hk=>zDh hk⟩ (fun i hi e=>by cases e;exact hl hi)
theorem AN.cell {S:Nat -> Prop}{a b:World}(h:AN S a b){p:Addr}{u:Value}(hs: ¬ S p.block)(hc:a.cell? p=some u):b.cell? p=some u:=by
 rw [World.cell?_of_block (h.block p.block (zFX a p hc) hs)];exact hc
def Ce (I:(Nat -> Prop) -> (Nat -> Prop) -> World -> Prop):Prop:= ∀ (G R G' R':Nat -> Prop) (A B:World),I G R A -> AN G A B -> (∀ k,G' k -> G k∨A.heap.size<=k) -> (∀ k,R' k -> R k∨G k∨A.heap.size<=k) -> (∀ k,G k∨R k -> G' k∨R' k) -> (∀ k,G' k -> ¬ R' k) -> (∀ k,G' k∨R' k -> k<B.heap.size) -> I G' R' B
structure Dq (G R:Nat -> Prop)(W:World):Prop where
 dis: ∀ k,G k -> ¬ R k
 lt: ∀ k,G k∨R k -> k<W.heap.size
theorem Dq.upd {G R S:Nat -> Prop}{A B:World}(h:Dq G R A)(hu:AN S A B):Dq G R B:=⟨h.dis,fun k hk=>zBa (h.lt k hk) hu.size⟩
theorem Ce.same {I:(Nat -> Prop) -> (Nat -> Prop) -> World -> Prop}(h:Ce I){G R:Nat -> Prop}{A B:World}(hs:Dq G R A)(hi:I G R A)(hu:AN G A B):I G R B:=
 h G R G R A B hi hu (fun _ h=>.inl h) (fun _ h=>.inl h) (fun _ h=>h) hs.dis (hs.upd hu).lt
def EA (B:Nat):List Deferred -> World -> Prop
 | [],_=>True
 | d::ds,w=>∃ D,d= { target:=.collected D,args:=#[] }/\ B<=D/\ w.heap[D]? =some (.deferred (some []))/\ (∀ d'∈ds,d'.target≠.collected D)/\ EA B ds w
theorem EA.upd {B:Nat}{S:Nat -> Prop}{w w':World}(hu:AN S w w'): ∀ {ds:List Deferred},EA B ds w -> (∀ k,B<=k -> S k -> w.heap[k]? ≠some (.deferred (some []))) -> EA B ds w'
 | [],_,_=>trivial
 | _::_,⟨D,h1,h2,h3,h4,h5⟩,hs=>⟨D,h1,h2,(hu.block D (zAL.1 h3).1 (fun hx=>hs D h2 hx h3)).trans h3,h4,EA.upd hu h5 hs⟩
theorem EA.lt {B:Nat}{w:World}: ∀ {ds:List Deferred} (_:EA B ds w) {d:Deferred} {D:Nat},d∈ds -> d.target= .collected D -> D<w.heap.size
 | _::_,⟨D,h1,h2,h3,h4,h5⟩,d,D',hm,ht=>by
  rcases zCC.1 hm with rfl | hm
  ·subst h1;cases ht;exact (zAL.1 h3).1
  ·exact EA.lt h5 hm ht
def L2 (B:Nat)(w W:World):Prop:=AN (fun k=>B<=k/\ w.heap[k]? =some (.deferred (some []))) w W
theorem Xo {F:Fence}{B n:Nat}{P:Program}{fn:Func}{tmps:Array Value}{R:Ending -> World -> Prop}{u:FrameMode}(hu:u≠.run): ∀ (ds:List Deferred) (w:World),EA B ds w ->
 (∀ W,L2 B w W -> LeavesIn F n P fn tmps R [] u W) -> LeavesInM F n P fn tmps R ds u w
 | [],w,_,h=>h w (AN.refl _ w)
 | _::ds,w,⟨D,h1,h2,h3,h4,h5⟩,h=>by
  refine ⟨hu,.inl ⟨D,_,by rw [h1],run_takeDeferred h3,?_⟩⟩;have Q5:AN (fun k=>k=D) w (w.putObj D (.deferred none)):=(AN.refl (fun k=>k=D) w).putObj (fun _=>rfl) _
  have AR: ∀ {ds:List Deferred},(∀ d'∈ds,d'.target≠.collected D) -> EA B ds w -> EA B ds (w.putObj D (.deferred none)):=by
   intro ds
   induction ds with
   | nil=>intro _ _;trivial
   | cons d ds ih=>
    intro hd ⟨D',g1,g2,g3,g4,g5⟩;refine ⟨D',g1,g2,?_,g4,ih (fun d' hm=>hd d' (by simp [hm])) g5⟩;rw [zDh (fun e=>hd d (by simp) (by rw [g1,e]))];exact g3
  refine Xo hu ds _ (AR h4 h5) fun W hW=>h W ?_
  refine Q5.mono (S':=fun k=>B<=k/\ w.heap[k]? =some (.deferred (some []))) (fun i _ e=>by cases e;exact ⟨h2,h3⟩) |>.comp hW fun i hi hx=>⟨hx.1,?_⟩
  by_cases e:i=D
  ·rw [e];exact h3
  ·rw [←zDh (o:=.deferred none) e];exact hx.2
theorem Xn {B:Nat}{P:Program}{fn:Func}{tmps:Array Value}{R:Ending -> World -> Prop}(ds:List Deferred)(w:World)(hm:EA B ds w) 
 (h: ∀ W,L2 B w W -> ∃ v,(results fn tmps).run P W= .ok v W/\ R (.returned v) W):LeavesInM Fence.wide 0 P fn tmps R ds .returning w:=
 Xo (by simp) ds w hm h
def II (F:Fence)(n:Nat)(P:Program)(fn:FuncId)(c:Code)(Q:Exit -> Act -> World -> Prop)(a:Act)(w:World):Prop:= ∀ (b:Frame) (k:List Item) (cs:List Frame),b.roundOf=F.round -> F.fn b.fn -> F.room (cs.length+1+n) -> b.fn=fn -> ∃ e a' w',Q e a' w'/\ ArrivesIn (Machine.fenced P F) P (lone (b.atR a (.code c::k)) cs w) b k cs e a' w'
section
variable {F:Fence} {n:Nat} {P:Program} {fi:FuncId} {c:Code} {Q:Exit -> Act -> World -> Prop} {a:Act} {w:World}
theorem MD (h:c.wpIn F n P Q a w):II F n P fi c Q a w:=fun b k cs h1 h2 h3 _=>h b k cs h1 h2 h3
theorem rT (h: ∀ fi,II F n P fi c Q a w):c.wpIn F n P Q a w:=fun b k cs h1 h2 h3=>h b.fn b k cs h1 h2 h3 rfl
theorem QF {x y:Code}(h:II F n P fi x (Exit.then (II F n P fi y Q) Q) a w):II F n P fi (.seq x y) Q a w:=by
 intro b k cs JU hb hr hf;have h0:(lone (b.atR a (.code (.seq x y)::k)) cs w).fenced P F:=zF7 hb hr rfl;obtain ⟨e,a₁,w₁,hq,CH⟩:=h b (.code y::k) cs JU hb hr hf;cases e with
 | normal=>
  obtain ⟨e₂,a₂,w₂,KZ,Pa⟩:=hq b k cs JU hb hr hf;exact ⟨e₂,a₂,w₂,KZ,.of_steps (.head h0 stepR_seq CH) Pa⟩
 | exit id=>exact ⟨_,a₁,w₁,hq,.of_steps (.one h0 stepR_seq) (.pass (x:=.code y) rfl (fun _ _=>.inl (by simp)) CH)⟩
 | goto l=>exact ⟨_,a₁,w₁,hq,.of_steps (.one h0 stepR_seq) (.pass (x:=.code y) rfl (fun _ _=>.inl (by simp)) CH)⟩
 | ret=>exact ⟨_,a₁,w₁,hq,.of_steps (.one h0 stepR_seq) (.pass (x:=.code y) rfl (fun _ _=>.inl (by simp)) CH)⟩
 | panic ch=>exact ⟨_,a₁,w₁,hq,.of_steps (.one h0 stepR_seq) (.pass (x:=.code y) rfl (fun _ _=>.inl (by simp)) CH)⟩
 | outgrown=>exact ⟨_,a₁,w₁,hq,.of_steps (.one h0 stepR_seq) (.pass (x:=.code y) rfl (fun _ _=>.inl (by simp)) CH)⟩
theorem rV {id:Nat}(h:II F n P fi c (Exit.inBlock id Q) a w):II F n P fi (.block id c) Q a w:=by
 intro b k cs JU hb hr hf;have h0:(lone (b.atR a (.code (.block id c)::k)) cs w).fenced P F:=zF7 hb hr rfl;obtain ⟨e,a₁,w₁,hq,CH⟩:=h b (.inBlock id::k) cs JU hb hr hf;cases e with
 | normal=>exact ⟨.normal,a₁,w₁,hq,.head h0 zGV (zFf CH (.one (zF7 hb hr rfl) stepR_inBlock))⟩
 | exit id'=>
  by_cases hid:id'=id
  ·simp only [Exit.inBlock,hid,zFV] at hq;exact ⟨.normal,a₁,w₁,hq,.head h0 zGV (CH.1 k (by simp [exitTo,hid]))⟩
  ·simp only [Exit.inBlock,hid,zF2] at hq;have this:(id==id')=false:=by simp;exact fun h=>hid h.symm
   have hx:exitTo id' (.inBlock id::k)=exitTo id' k:=by simp [exitTo,this]
   exact ⟨.exit id',a₁,w₁,hq,fun k' hk=>.head h0 zGV (CH.1 k' (by rw [hx];exact hk)),
    fun CC hk=>let ⟨k₁,h1,h2⟩:=CH.2 CC (by rw [hx];exact hk);⟨k₁,h1,.head h0 zGV h2⟩⟩
 | goto l=>
  have hx:gotoIn l (.inBlock id::k)=gotoIn l k:=by simp [gotoIn]
  exact ⟨_,a₁,w₁,hq,fun k' hk=>.head h0 zGV (CH.1 k' (by rw [hx];exact hk)),
   fun CC hk=>let ⟨k₁,h1,h2⟩:=CH.2 CC (by rw [hx];exact hk);⟨k₁,h1,.head h0 zGV h2⟩⟩
 | ret=>exact ⟨_,a₁,w₁,hq,.of_steps (.one h0 zGV) CH⟩
 | panic ch=>exact ⟨_,a₁,w₁,hq,.of_steps (.one h0 zGV) CH⟩
 | outgrown=>exact ⟨_,a₁,w₁,hq,.of_steps (.one h0 zGV) CH⟩
theorem rU {g:Operand}{ps:Array Tmp}{assign body:Code} 
 (h:F.fn fi -> ∃ (l:Nat) (mark:List Deferred) (w₁:World) (d:Deferred) (WC:World) (f:FuncId) (args:Array Value) (w₂:World),
  (Instr.enterLoop fi a.tmps ps assign body F.round).run P w= .ok (l,mark) w₁/\
  (resolve a.eval (rangeCall g l) 0).run P w₁= .ok d WC/\
  (∀ f',Target.leads P WC d.target d.args=some f' -> F.fn f')/\
  (invoke d.target d.args).run P WC= .ok (.enter f args) w₂/\
  (F.depth.isSome=true -> 1<=n)/\
  CallsIn F (n-1) P f args w₂ (rangePost F n P l Q { a with defers:=mark++a.defers })):
 II F n P fi (.rangeFunc g ps assign body) Q a w:=by
 intro b k cs JU hb hr PU;obtain ⟨l,mark,w₁,d,WC,f,args,w₂,he,PH,zBp,zBz,hn,hF,zCK⟩:=h (PU▸hb);rw [←JU,←PU] at he
 have h0:(lone (b.atR a (.code (.rangeFunc g ps assign body)::k)) cs w).fenced P F:=by
  refine fenced_lone (.inl hb) (fun f' n0=>zBp f' ?_) (Fence.room_le hr (by omega));have RN:=Frame.eval_atR b a (.code (.rangeFunc g ps assign body)::k);simp only [Frame.atR] at RN;simp only [Frame.about,Frame.atR,he,RN,PH] at n0;exact n0
 have Uy:=stepR_rangeFunc (P:=P) (b:=b) (a:=a) (k:=k) (cs:=cs) (w:=w) he PH zBz;have Mz:F.room ((b.atR { a with defers:=mark++a.defers } (.inRangeFunc l::k)::cs).length+1+(n-1)):=Fence.room_enter hr hn;obtain ⟨e,w₃,fr,hR,cg,GV,YO⟩:=zCK (b.atR { a with defers:=mark++a.defers } (.inRangeFunc l::k)::cs) Mz;cases e with
 | outgrown=>
  obtain ⟨a₀,w₀,hq⟩:=hR;exact ⟨.outgrown,a₀,w₀,hq,.inr (Outgrown.of_steps (.one Uy) cg)⟩
 | returned v=>
  have hl:(lone fr (b.atR { a with defers:=mark++a.defers } (.inRangeFunc l::k)::cs) w₃).fenced P F:=fenced_leaving (GV▸hF) Mz YO;obtain ⟨Ef,w₄,Lh,hj⟩:=hR
  have jq:StepsIn (Machine.fenced P F) P (lone (b.atR a (.code (.rangeFunc g ps assign body)::k)) cs w) (lone (b.atR { a with defers:=mark++a.defers } ((Ef.map Item.code).toList++k)) cs w₄):=by
   refine .head h0 Uy (zFf cg (.head hl ?_ (.one (zF7 (fr:=b.atR { a with defers:=mark++a.defers } (.endRangeFunc l::k)) hb hr rfl) (stepR_endRangeFunc Lh))));rw [←finish_atR_inRangeFunc l v];exact step_leave_returned YO
  cases Ef with
  | none=>exact ⟨.normal,_,w₄,hj,jq⟩
  | some c=>
   obtain ⟨e',GB,w₅,hq,CH⟩:=hj b k cs JU hb hr;exact ⟨e',GB,w₅,hq,.of_steps jq CH⟩
 | panicked I1=>
  have hl:(lone fr (b.atR { a with defers:=mark++a.defers } (.inRangeFunc l::k)::cs) w₃).fenced P F:=fenced_leaving (GV▸hF) Mz YO;refine ⟨.panic I1,_,w₃,hR,.inRangeFunc l::k,.head h0 Uy (zFf cg (.one hl ?_))⟩;rw [←Frame.raise_atR];exact step_leave_panicked YO
theorem zEW {fn:Func}{args:Array Value}{R:Ending -> World -> Prop}(hf:P.funcs[fi]? =some fn)(hb:fn.body=some c)(hF:F.fn fi) 
 (h:II F n P fi c (bodyPostM F n P fn R) { tmps:=args++Array.replicate (fn.ntmps-args.size) undef,defers:=[] } w) (JU:F.round=none:=by rfl):CallsIn F n P fi args w R:=by
 refine ⟨hF,fun cs hr=>?_⟩
 let b:Frame:={ (default:Frame) with fn:=fi,kind:=.normal,roundOf:=none }
 have Uy:Frame.enter P fi args .normal=b.atR { tmps:=args++Array.replicate (fn.ntmps-args.size) undef,defers:=[] } [.code c]:=by
  simp [Frame.enter,Frame.atR,hf,hb,b]
 obtain ⟨e,a',w',hq,CH⟩:=h b [] cs JU.symm hF hr rfl;rw [←Uy] at CH;cases e with
 | normal=>
  obtain ⟨e',Bu,fr',hR,hs,GV,hl⟩:=zHP a'.defers .returning w' { b.atR a' [] with mode:=.returning } cs rfl rfl rfl hf rfl hF hr hq;exact ⟨e',Bu,fr',hR,ComesIn.of_steps (zFf CH (.one (zF7 (fr:=b.atR a' []) hF hr rfl) (stepR_end rfl))) hs,GV,hl⟩
 | ret=>
  obtain ⟨QR,Ug⟩:=CH.1 rfl;obtain ⟨e',Bu,fr',hR,hs,GV,hl⟩:=zHP a'.defers .returning w' { b.atR a' QR with mode:=.returning } cs rfl rfl rfl hf rfl hF hr hq;exact ⟨e',Bu,fr',hR,ComesIn.of_steps Ug hs,GV,hl⟩
 | panic I1=>
  obtain ⟨QR,Ug⟩:=CH;obtain ⟨e',Bu,fr',hR,hs,GV,hl⟩:=zHP a'.defers (.panicking I1) w' { b.atR a' QR with mode:=.panicking I1 } cs rfl rfl rfl hf rfl hF hr hq;exact ⟨e',Bu,fr',hR,ComesIn.of_steps Ug hs,GV,hl⟩
 | exit id=>exact hq.elim
 | goto l=>exact hq.elim
 | outgrown=>exact ⟨.outgrown,w',b,hq,CH.resolve_left (by simp [b]),rfl,trivial⟩
def vf (F:Fence)(n:Nat)(P:Program)(l:Nat)(f:FuncId)(R:Ending -> World -> Prop):Exit -> Act -> World -> Prop
 | .panic ch,a,w=>∃ fn,P.funcs[f]? =some fn/\ LeavesInM (F.inRound l) n P fn a.tmps (fun e w'=>e= .panicked ch/\ R e w') a.defers (.panicking ch) w
 | e,a,w=>roundPost P l R e a w
theorem vh {l:Nat}{f:FuncId}{tmps:Array Value}{assign body:Code}{R:Ending -> World -> Prop}(hF:F.fn f) 
 (h:assign.wpIn (F.inRound l) n P (Exit.then (fun a₁ w₁=>∃ w₂,(Instr.beginRound l).run P w₁= .ok () w₂/\ body.wpIn (F.inRound l) n P (vf F n P l f R) a₁ w₂) (fun _ _ _=>False))
  { tmps:=tmps,defers:=[] } w):
 RoundIn F n P l f tmps assign body w R:=by
 refine ⟨hF,fun c cs hr=>?_⟩
 let b:Frame:={ (default:Frame) with fn:=f,kind:=.normal,roundOf:=some l }
 have dy:Frame.round l f tmps assign body .normal=b.atR { tmps:=tmps,defers:=[] } [.code assign,.beginRound,.code body]:=by
  simp [Frame.round,Frame.atR,b]
 have CC:(F.inRound l).room ((c::cs).length+1+n):=hr;have Fy:(F.inRound l).fn b.fn:=hF;obtain ⟨e,a₁,w₁,hq,CH⟩:=h b [.beginRound,.code body] (c::cs) rfl Fy CC;rw [←dy] at CH;cases e with
 | normal=>
  obtain ⟨w₂,hbr,du⟩:=hq
  have s1:StepsIn (Machine.fenced P (F.inRound l)) P (lone (b.atR a₁ [.beginRound,.code body]) (c::cs) w₁) (lone (b.atR a₁ [.code body]) (c::cs) w₂):=
   .one (zF7 (fr:=b.atR a₁ [.beginRound,.code body]) Fy CC rfl) (stepR_beginRound rfl hbr)
  obtain ⟨e₂,a₂,w₃,KZ,Pa⟩:=du b [] (c::cs) rfl Fy CC;cases e₂ with
  | normal=>
   obtain ⟨v,w₄,Lh,hR⟩:=KZ;exact ⟨.returned v,w₄,hR,(zFf CH s1).trans (zFf Pa (.one (zF7 (fr:=b.atR a₂ []) Fy CC rfl) (stepR_round_end rfl rfl Lh)))⟩
  | ret=>
   obtain ⟨v,w₄,Lh,hR⟩:=KZ;obtain ⟨k₁,hs⟩:=Pa.2 rfl;exact ⟨.returned v,w₄,hR,(zFf CH s1).trans (zFf hs (.one (zF7 (fr:=b.atR a₂ (.code .ret::k₁)) Fy CC rfl) (stepR_round_ret rfl rfl Lh)))⟩
  | exit id=>
   obtain ⟨v,w₄,Lh,hR⟩:=KZ;obtain ⟨k₁,hk,hs⟩:=Pa.2 rfl rfl;exact ⟨.returned v,w₄,hR,(zFf CH s1).trans (zFf hs (.one (zF7 (fr:=b.atR a₂ (.code (.exit id)::k₁)) Fy CC rfl) (stepR_round_exit rfl rfl hk Lh)))⟩
  | goto t=>
   obtain ⟨v,w₄,Lh,hR⟩:=KZ;obtain ⟨k₁,hk,hs⟩:=Pa.2 rfl rfl;exact ⟨.returned v,w₄,hR,(zFf CH s1).trans (zFf hs (.one (zF7 (fr:=b.atR a₂ (.code (.goto t)::k₁)) Fy CC rfl) (stepR_round_goto rfl rfl hk Lh)))⟩
  | panic I1=>
   obtain ⟨fn,hf,KZ⟩:=KZ;obtain ⟨QR,Ug⟩:=Pa;obtain ⟨e',Bu,fr',⟨rfl,hR⟩,hs,GV,hl⟩:=zHP a₂.defers (.panicking I1) w₃ { b.atR a₂ QR with mode:=.panicking I1 } (c::cs) rfl rfl rfl hf rfl Fy CC KZ;have hs:StepsIn (Machine.fenced P (F.inRound l)) P (lone { b.atR a₂ QR with mode:=.panicking I1 } (c::cs) w₃) (lone fr' (c::cs) Bu):=hs;exact ⟨.panicked I1,Bu,hR,(zFf CH s1).trans ((zFf Ug hs).trans (.one (fenced_leaving (n:=n) (by rw [GV];exact Fy) CC hl) (step_leave_panicked hl)))⟩
  | outgrown=>exact KZ.elim
 | exit id=>exact hq.elim
 | goto t=>exact hq.elim
 | ret=>exact hq.elim
 | panic I1=>exact hq.elim
 | outgrown=>exact hq.elim
end
def ve (Keep:Nat -> Prop)(I:World -> Prop)(Ix:Code -> World -> Prop)(Ip:List PanicEntry -> World -> Prop)(W:World):Exit -> Act -> World -> Prop
 | .normal,_,W'=>AN (fun k=>¬ Keep k) W W'/\ I W'
 | .ret,_,W'=>AN (fun k=>¬ Keep k) W W'/\ Ix .ret W'
 | .exit id,_,W'=>AN (fun k=>¬ Keep k) W W'/\ Ix (.exit id) W'
 | .goto t,_,W'=>AN (fun k=>¬ Keep k) W W'/\ Ix (.goto t) W'
 | .panic c,a,W'=>∃ B,EA B a.defers W'/\ ∀ W3,L2 B W' W3 -> AN (fun k=>¬ Keep k) W W3/\ Ip c W3
 | .outgrown,_,_=>False
def gD (nv:Prop)(P:Program)(g:Nat)(lb:Array Value){X:Type}(E:X -> (Nat -> Prop) -> World -> Array Value -> Prop)(encs:List X)(Fk:Ending -> (Nat -> Prop) -> (Nat -> Prop) -> World -> Prop)(G0 Rd:Nat -> Prop)(w:World):Prop:= ∀ (l:Nat) (J:Nat -> (Nat -> Prop) -> (Nat -> Prop) -> World -> Prop) (Jx:(Nat -> Prop) -> (Nat -> Prop) -> World -> Prop) (W:World), (∀ i,Ce (J i)) -> Ce Jx -> AN (fun k=>¬ (G0 k∨Rd k)) w W -> (∀ i x args G R W1,encs[i]? =some x -> E x R W1 args -> J i G R W1 -> Dq G R W1 -> YieldAt Fence.wide 0 P l args W1 fun e W'=> AN (fun k=>¬ (G k∨R k)) W1 W'/\ ((e= .returned (.bool true)/\ J (i+1) G R W')∨(e= .returned (.bool false)/\ Jx G R W'))) -> J 0 G0 Rd W -> (nv -> ∀ G R W,¬ Jx G R W) -> CallsIn Fence.wide 0 P g (#[.func (.yield l) #[] #[]]++lb) W fun e W'=>∃ G R,Dq G R W'/\ ((J encs.length G R W'/\ Fk e G R W')∨((∃ v,e= .returned v)/\ Jx G R W'))
def SU (nv np:Prop)(P:Program)(g:Nat)(lb:Array Value){X:Type}(E:X -> (Nat -> Prop) -> World -> Array Value -> Prop)(encs:List X)(Fk:Ending -> (Nat -> Prop) -> (Nat -> Prop) -> World -> Prop)(G0 Rd:Nat -> Prop)(w:World):Prop:= ∀ (l:Nat) (J:Nat -> (Nat -> Prop) -> (Nat -> Prop) -> World -> Prop) (Jx:(Nat -> Prop) -> (Nat -> Prop) -> World -> Prop) (Jp:List PanicEntry -> (Nat -> Prop) -> (Nat -> Prop) -> World -> Prop) (W:World), (∀ i,Ce (J i)) -> Ce Jx -> (∀ c,Ce (Jp c)) -> AN (fun k=>¬ (G0 k∨Rd k)) w W -> (∀ i x args G R W1,encs[i]? =some x -> E x R W1 args -> J i G R W1 -> Dq G R W1 -> YieldAt Fence.wide 0 P l args W1 fun e W'=> AN (fun k=>¬ (G k∨R k)) W1 W'/\ ((e= .returned (.bool true)/\ J (i+1) G R W')∨(e= .returned (.bool false)/\ Jx G R W')∨∃ c,e= .panicked c/\ Jp c G R W')) -> J 0 G0 Rd W -> (nv -> ∀ G R W,¬ Jx G R W) -> (np -> ∀ c G R W,¬ Jp c G R W) -> CallsIn Fence.wide 0 P g (#[.func (.yield l) #[] #[]]++lb) W fun e W'=>∃ G R,Dq G R W'/\ ((J encs.length G R W'/\ Fk e G R W')∨((∃ v,e= .returned v)/\ Jx G R W')∨∃ c,e= .panicked c/\ Jp c G R W')
theorem YieldAt.mono {P:Program}{l:Nat}{args:Array Value}{w:World}{R R':Ending -> World -> Prop}(h:YieldAt Fence.wide 0 P l args w R)(hR: ∀ e w',R e w' -> R' e w'):YieldAt Fence.wide 0 P l args w R':=by
 obtain ⟨fn,tmps,Pv,body,h1,h2⟩:=h;exact ⟨fn,tmps,Pv,body,h1,h2.mono hR⟩
theorem gD.gen {nv:Prop}{P:Program}{g:Nat}{lb:Array Value}{X:Type}{E:X -> (Nat -> Prop) -> World -> Array Value -> Prop}{encs:List X}{Fk:Ending -> (Nat -> Prop) -> (Nat -> Prop) -> World -> Prop}{G0 Rd:Nat -> Prop}{w:World}(h:gD nv P g lb E encs Fk G0 Rd w):SU nv True P g lb E encs Fk G0 Rd w:=
 fun l J Jx Jp W hJ hx _ hu hy h0 hv hp=>(h l J Jx W hJ hx hu (fun i x args G R W1 h1 h2 h3 h4=>YieldAt.mono (hy i x args G R W1 h1 h2 h3 h4) fun e W' ⟨q1,q2⟩=>⟨q1,q2.imp id fun q=>q.resolve_right fun ⟨c,_,q⟩=>hp trivial c _ _ _ q⟩) h0 hv).mono fun e W' ⟨G,R,q1,q2⟩=>⟨G,R,q1,q2.imp id .inl⟩
abbrev Nn:=@gD False
section
variable {P:Program} {X:Type} {E:X -> (Nat -> Prop) -> World -> Array Value -> Prop} {Fk:Ending -> (Nat -> Prop) -> (Nat -> Prop) -> World -> Prop} {encs:List X} {G0 Rd:Nat -> Prop} {ps:Array Tmp} {assign body:Code} {a:Act} {gf:Nat} {lb:Array Value}
def V5 (P:Program)(E:X -> (Nat -> Prop) -> World -> Array Value -> Prop)(encs:List X)(ps:Array Tmp)(assign body:Code)(a:Act)(l:Nat)(I:Nat -> (Nat -> Prop) -> (Nat -> Prop) -> World -> Prop)(Ix:Code -> (Nat -> Prop) -> (Nat -> Prop) -> World -> Prop)(Ip:List PanicEntry -> (Nat -> Prop) -> (Nat -> Prop) -> World -> Prop):Prop:= ∀ (G R:Nat -> Prop) (i:Nat) (x:X) (args:Array Value) (W:World),encs[i]? =some x -> E x R W args -> I i G R W -> Dq G R W -> (∃ r,W.heap[l]? =some (.loop r)) -> G l -> assign.wpIn (Fence.wide.inRound l) 0 P (Exit.then (fun a₁ W₁=>∃ K:(Nat -> Prop) -> (Nat -> Prop) -> World -> Prop,Ce K/\ AN (fun k=>¬ (G k∨R k)) W W₁/\ K G R W₁/\ ∀ W₂,K G R W₂ -> (∃ r,W₂.heap[l]? =some (.loop r)) -> body.wpIn (Fence.wide.inRound l) 0 P (ve (fun k=>G k∨R k) (I (i+1) G R) (fun c=>Ix c G R) (fun c=>Ip c G R) W₂) a₁ W₂) (fun _ _ _=>False)) { tmps:=(ps.zip args).foldl (fun t (p,v)=>t.setIfInBounds p v) a.tmps,defers:=[] } W
theorem ko {nv np:Prop}{w0 W1:World}{l D dd:Nat}{fn:FuncId}{loose:Bool}(ct:np∨∃ f,P.funcs[fn]? =some f) 
 (hseq:SU nv np P gf lb E encs Fk G0 Rd w0) (dy:AN (fun k=>¬ (G0 k∨Rd k)) w0 W1) (Ff: ∀ k,G0 k∨Rd k -> k<l/\ k≠D) (RR: ∀ k,G0 k -> ¬ Rd k) (Dw: ∀ x∈encs,∀ R W args,E x R W args -> args.size=ps.size)
 (A9:LoopState -> Option Code -> Loop) (DM: ∀ st pe,A9 st pe= { state:=st,pending:=pe,fn,tmps:=a.tmps,params:=ps,assign,body,defers:=dd })
 (HF:W1.heap[l]? =some (.loop (A9 .ready none))) (hD1:loose=false -> W1.heap[D]? =some (.deferred (some []))) (ni:D≠l)
 (I:Nat -> (Nat -> Prop) -> (Nat -> Prop) -> World -> Prop) (Ix:Code -> (Nat -> Prop) -> (Nat -> Prop) -> World -> Prop) (Ip:List PanicEntry -> (Nat -> Prop) -> (Nat -> Prop) -> World -> Prop) (hI: ∀ i,Ce (I i)) (Iw: ∀ c,Ce (Ix c)) (Pc: ∀ c,Ce (Ip c)) (M7:nv -> ∀ c G R W,¬ Ix c G R W) (JW:np -> ∀ c G R W,¬ Ip c G R W) (own:Nat -> Prop) (M5: ∀ k,own k -> k=l∨(loose=false/\ k=D)) (GU:own l) (Uk:loose=false -> own D)
 (h0:I 0 (fun k=>G0 k∨own k) Rd W1) (C7:V5 P E encs ps assign body a l I Ix Ip):
 CallsIn Fence.wide 0 P gf (#[.func (.yield l) #[] #[]]++lb) W1 fun e W2=>∃ G R,Dq (fun k=>G k∨own k) R W2/\ (∀ k,own k -> ¬ G k)/\ (loose=false -> W2.heap[D]? =some (.deferred (some [])))/\
  ((I encs.length (fun k=>G k∨own k) R W2/\ Fk e G R W2/\ W2.heap[l]? =some (.loop (A9 .ready none)))∨((∃ v,e= .returned v)/\ ∃ c,Ix c (fun k=>G k∨own k) R W2/\ W2.heap[l]? =some (.loop (A9 .done (some c))))∨∃ c,e= .panicked c/\ Ip c (fun k=>G k∨own k) R W2):=by
 have T4: ∀ {W:World} {r:Loop} {k:Nat},W.heap[l]? =some (.loop r) -> (loose=false -> W.heap[D]? =some (.deferred (some []))) -> own k -> k<W.heap.size:=fun h4 h5 ho=>
  (M5 _ ho).elim (fun e=>e▸(zAL.1 h4).1) (fun e=>e.2▸(zAL.1 (h5 e.1)).1)
 have shr: ∀ {G R:Nat -> Prop} {W:World} {r:Loop},Dq G R W -> (∀ k,own k -> ¬ G k/\ ¬ R k) -> W.heap[l]? =some (.loop r) -> (loose=false -> W.heap[D]? =some (.deferred (some []))) -> Dq (fun k=>G k∨own k) R W:=fun hs hn h4 h5=>
  ⟨fun k hk=>hk.elim (hs.dis k) fun h=>(hn k h).2,fun k hk=>hk.elim (fun h=>h.elim (fun h=>hs.lt k (.inl h)) (T4 h4 h5)) fun h=>hs.lt k (.inr h)⟩
 have Dp: ∀ (Φ:(Nat -> Prop) -> (Nat -> Prop) -> World -> Prop) (r:Loop),Ce Φ -> Ce (fun G R W=>Φ (fun k=>G k∨own k) R W/\ (∀ k,own k -> ¬ G k/\ ¬ R k)/\ W.heap[l]? =some (.loop r)/\ (loose=false -> W.heap[D]? =some (.deferred (some [])))):=by
  rintro Φ r hΦ G R G' R' A B ⟨h1,h2,h4,h5⟩ hu hg hr Eg hd AK
  have hn: ∀ k,own k -> ¬ G' k/\ ¬ R' k:=fun k ho=>by
   have:=T4 h4 h5 ho;exact ⟨fun hx=>(hg k hx).elim (h2 k ho).1 (by omega),fun hx=>(hr k hx).elim (h2 k ho).2 fun hx=>hx.elim (h2 k ho).1 (by omega)⟩
  have Yf:=(hu.block l (T4 h4 h5 GU) (h2 l GU).1).trans h4;have oR:loose=false -> B.heap[D]? =some (.deferred (some [])):=fun hl=>(hu.block D (T4 h4 h5 (Uk hl)) (h2 D (Uk hl)).1).trans (h5 hl)
  refine ⟨hΦ _ R _ R' A B h1 (hu.mono fun i _ h=>.inl h) (fun k hk=>hk.elim (fun h=>(hg k h).imp .inl id) fun h=>.inl (.inr h)) (fun k hk=>(hr k hk).imp id fun h=>h.imp .inl id) (fun k hk=>?_) (fun k hk=>hk.elim (hd k) fun h=>(hn k h).2) (fun k hk=>hk.elim (fun h=>h.elim (fun h=>AK k (.inl h)) (T4 Yf oR)) fun h=>AK k (.inr h)),hn,Yf,oR⟩;rcases hk with (hk | hk) | hk
  ·exact (Eg k (.inl hk)).imp .inl id
  ·exact .inl (.inr hk)
  ·exact (Eg k (.inr hk)).imp .inl id
 have hGl: ∀ k,G0 k∨Rd k -> k<W1.heap.size:=fun k h=>Nat.lt_trans (Ff k h).1 (zAL.1 HF).1
 have Fw: ∀ k,own k -> ¬ G0 k/\ ¬ Rd k:=fun k ho=>by
  have hx: ¬ (G0 k∨Rd k):=fun hx=>by
   have:=Ff k hx;rcases M5 k ho with e | ⟨_,e⟩ <;> omega
  exact ⟨fun h=>hx (.inl h),fun h=>hx (.inr h)⟩
 refine (hseq l
  (fun i G R W=>I i (fun k=>G k∨own k) R W/\ (∀ k,own k -> ¬ G k/\ ¬ R k)/\ W.heap[l]? =some (.loop (A9 .ready none))/\ (loose=false -> W.heap[D]? =some (.deferred (some []))))
  (fun G R W=>∃ c,Ix c (fun k=>G k∨own k) R W/\ (∀ k,own k -> ¬ G k/\ ¬ R k)/\ W.heap[l]? =some (.loop (A9 .done (some c)))/\ (loose=false -> W.heap[D]? =some (.deferred (some []))))
  (fun c G R W=>Ip c (fun k=>G k∨own k) R W/\ (∀ k,own k -> ¬ G k/\ ¬ R k)/\ W.heap[l]? =some (.loop { A9 .ready none with state:=.busy })/\ (loose=false -> W.heap[D]? =some (.deferred (some []))))
  W1 (fun i=>Dp (I i) _ (hI i)) (fun G R G' R' A B ⟨c,h⟩ hu hg hr Eg hd AK=>⟨c,Dp (Ix c) _ (Iw c) G R G' R' A B h hu hg hr Eg hd AK⟩) (fun c=>Dp (Ip c) _ (Pc c)) dy ?_ ⟨h0,Fw,HF,hD1⟩ (fun hn G R W ⟨c,h,_⟩=>M7 hn c _ _ _ h) (fun hn c G R W ⟨h,_⟩=>JW hn c _ _ _ h)).mono ?_
 ·rintro i x args G R W hx hE ⟨hi,hn,hl,hd⟩ hs;have YB:x∈encs:=zB9 hx;have AK:l<W.heap.size:=(zAL.1 hl).1;have JT:=shr hs hn hl hd;have hy:=run_yield (P:=P) (args:=args) hl (by rw [DM];exact Dw x YB R W args hE);rw [DM] at hy;refine ⟨fn,_,assign,body,hy,vh trivial (zGE (C7 _ R i x args W hx hE hi JT ⟨_,hl⟩ (.inr GU)) ?_)⟩;rintro e a1 Lz hq;cases e <;> first | exact hq.elim | skip
  obtain ⟨K,hK,Hd,hk1,hb⟩:=hq;have nC:AN (fun k=>¬ (G k∨R k)) W Lz:=Hd.mono fun k _ h hx=>h (hx.imp .inl id)
  have hl:=(Hd.block l AK (fun h=>h (.inl (.inr GU)))).trans hl;have hd:loose=false -> Lz.heap[D]? =some (.deferred (some [])):=fun h=>(Hd.block D (zAL.1 (hd h)).1 (fun hx=>hx (.inl (.inr (Uk h))))).trans (hd h)
  have AK:l<Lz.heap.size:=zBa AK Hd.size;have YH:=JT.upd Hd;refine ⟨_,run_beginRound hl (by rw [DM]),?_⟩;have Cy:(Lz.putObj l (.loop { A9 .ready none with state:=.busy })).heap[l]? =some (.loop { A9 .ready none with state:=.busy }):=World.putObj_heap_same AK;have Ir:loose=false -> (Lz.putObj l (.loop { A9 .ready none with state:=.busy })).heap[D]? =some (.deferred (some [])):=fun h=>(zDh ni).trans (hd h)
  have Q5:AN (fun k=>G k∨own k) Lz (Lz.putObj l (.loop { A9 .ready none with state:=.busy })):=(AN.refl _ Lz).putObj (fun _=>.inr GU) _;refine zGE (hb _ (hK.same YH hk1 Q5) ⟨_,Cy⟩) ?_
  have fin: ∀ (Ef:Option Code) (W3:World),AN (fun k=>¬ ((G k∨own k)∨R k)) (Lz.putObj l (.loop { A9 .ready none with state:=.busy })) W3 ->
   (Instr.endRound l Ef).run P W3= .ok (.bool Ef.isNone) (W3.putObj l (.loop (A9 (if Ef.isNone then .ready else .done) Ef)))/\
   (W3.putObj l (.loop (A9 (if Ef.isNone then .ready else .done) Ef))).heap[l]? =some (.loop (A9 (if Ef.isNone then .ready else .done) Ef))/\
   (loose=false -> (W3.putObj l (.loop (A9 (if Ef.isNone then .ready else .done) Ef))).heap[D]? =some (.deferred (some [])))/\
   AN (fun k=>¬ (G k∨R k)) W (W3.putObj l (.loop (A9 (if Ef.isNone then .ready else .done) Ef)))/\
   Dq (fun k=>G k∨own k) R W3/\ AN (fun k=>G k∨own k) W3 (W3.putObj l (.loop (A9 (if Ef.isNone then .ready else .done) Ef))):=fun Ef W3 Fe=>by
   have YP:W3.heap[l]? =some (.loop { A9 .ready none with state:=.busy }):=(Fe.block l (by simpa using AK) (fun h=>h (.inl (.inr GU)))).trans Cy;have:=run_endRound (P:=P) Ef YP;refine ⟨by rw [DM] at this ⊢;exact this,World.putObj_heap_same (zAL.1 YP).1,fun h=>(zDh ni).trans ((Fe.block D ?_ (fun hx=>hx (.inl (.inr (Uk h))))).trans (Ir h)),nC.comp (S':=fun k=>¬ (G k∨R k)) ?_ (fun _ _ h=>h),(YH.upd Q5).upd Fe,(AN.refl _ W3).putObj (fun _=>.inr GU) _⟩
   ·simpa using (zAL.1 (hd h)).1
   ·refine ⟨Fe.os,Fe.tape,Fe.output,by simpa using Fe.size,fun k hk Kb=>?_⟩;have U6:G k∨R k:=Classical.not_not.1 Kb
    by_cases Bn:k=l
    ·subst Bn;exact (U6.elim (hn k GU).1 (hn k GU).2).elim
    ·rw [zDh Bn,Fe.block k (by simpa using hk) (fun hx=>hx (U6.imp .inl id)),zDh Bn]
  rintro e a3 W3 hp;cases e with
  | normal=>
   obtain ⟨Fe,dY⟩:=hp;obtain ⟨hr,PS,Ja,PD,PF,PC⟩:=fin none W3 Fe;exact ⟨_,_,hr,PD,.inl ⟨rfl,(hI _).same PF dY PC,hn,PS,Ja⟩⟩
  | ret=>
   obtain ⟨hr,PS,Ja,PD,PF,PC⟩:=fin (some .ret) W3 hp.1;exact ⟨_,_,hr,PD,.inr (.inl ⟨rfl,.ret,(Iw _).same PF hp.2 PC,hn,PS,Ja⟩)⟩
  | exit id=>
   obtain ⟨hr,PS,Ja,PD,PF,PC⟩:=fin (some (.exit id)) W3 hp.1;exact ⟨_,_,hr,PD,.inr (.inl ⟨rfl,(.exit id),(Iw _).same PF hp.2 PC,hn,PS,Ja⟩)⟩
  | goto t=>
   obtain ⟨hr,PS,Ja,PD,PF,PC⟩:=fin (some (.goto t)) W3 hp.1;exact ⟨_,_,hr,PD,.inr (.inl ⟨rfl,(.goto t),(Iw _).same PF hp.2 PC,hn,PS,Ja⟩)⟩
  | panic ch=>
   obtain ⟨B,hm,hp⟩:=hp
   have key: ∀ Ju,L2 B W3 Ju -> AN (fun k=>¬ (G k∨R k)) W Ju/\ (Ip ch (fun k=>G k∨own k) R Ju/\ (∀ k,own k -> ¬ G k/\ ¬ R k)/\ Ju.heap[l]? =some (.loop { A9 .ready none with state:=.busy })/\ (loose=false -> Ju.heap[D]? =some (.deferred (some [])))):=fun Ju He=>by
    obtain ⟨Fe,dY⟩:=hp Ju He;have YP:Ju.heap[l]? =some (.loop { A9 .ready none with state:=.busy }):=(Fe.block l (by simpa using AK) (fun h=>h (.inl (.inr GU)))).trans Cy;refine ⟨nC.comp (S':=fun k=>¬ (G k∨R k)) ⟨Fe.os,Fe.tape,Fe.output,by simpa using Fe.size,fun k hk Kb=>?_⟩ (fun _ _ h=>h),dY,hn,YP,fun h=>(Fe.block D ?_ (fun hx=>hx (.inl (.inr (Uk h))))).trans (Ir h)⟩
    ·have U6:G k∨R k:=Classical.not_not.1 Kb;have Bn:k≠l:=fun e=>by subst e;exact U6.elim (hn k GU).1 (hn k GU).2
     rw [Fe.block k (by simpa using hk) (fun hx=>hx (U6.imp .inl id)),zDh Bn]
    ·simpa using (zAL.1 (hd h)).1
   rcases ct with zBd | ⟨f,hf⟩
   ·exact (JW zBd _ _ _ _ (hp W3 (AN.refl _ _)).2).elim
   ·exact ⟨f,hf,Xo (by simp) _ _ hm fun Ju He=>⟨rfl,(key Ju He).1,.inr (.inr ⟨ch,rfl,(key Ju He).2⟩)⟩⟩
  | outgrown=>exact hp.elim
 ·rintro e W2 ⟨G,R,hs,(⟨⟨h1,h2,h4,h5⟩,ho⟩ | ⟨hv,c,h1,h2,h4,h5⟩ | ⟨c,rfl,h1,h2,h4,h5⟩)⟩
  ·exact ⟨G,R,shr hs h2 h4 h5,fun k h=>(h2 k h).1,h5,.inl ⟨h1,ho,h4⟩⟩
  ·exact ⟨G,R,shr hs h2 h4 h5,fun k h=>(h2 k h).1,h5,.inr (.inl ⟨hv,c,h1,h4⟩)⟩
  ·exact ⟨G,R,shr hs h2 h4 h5,fun k h=>(h2 k h).1,h5,.inr (.inr ⟨c,rfl,h1⟩)⟩
theorem gU {nv np:Prop}{fi:FuncId}(ct:np∨∃ f,P.funcs[fi]? =some f){g:Operand}{Q:Exit -> Act -> World -> Prop}{w:World}(hg:a.eval g= .func (.func gf) #[] lb)(eg: ∀ args w,(callFunc gf args).run P w= .ok (.enter gf args) w) 
 (hseq:SU nv np P gf lb E encs Fk G0 Rd w) (Ff:Dq G0 Rd w) (Dw: ∀ x∈encs,∀ R W args,E x R W args -> args.size=ps.size)
 (I:Nat -> (Nat -> Prop) -> (Nat -> Prop) -> World -> Prop) (Ix:Code -> (Nat -> Prop) -> (Nat -> Prop) -> World -> Prop) (Ip:List PanicEntry -> (Nat -> Prop) -> (Nat -> Prop) -> World -> Prop) (hI: ∀ i,Ce (I i)) (Iw: ∀ c,Ce (Ix c)) (Pc: ∀ c,Ce (Ip c)) (M7:nv -> ∀ c G R W,¬ Ix c G R W) (JW:np -> ∀ c G R W,¬ Ip c G R W) (h0:I 0 G0 Rd w) (C7: ∀ l,V5 P E encs ps assign body a l I Ix Ip)
 (Da: ∀ (D:Nat) (e:Ending) (G R own:Nat -> Prop) (W W':World),Fk e G R W -> I encs.length (fun k=>G k∨own k) R W' -> Dq (fun k=>G k∨own k) R W' -> (∀ k,own k -> ¬ G k) -> AN own W W' -> W'.heap[D]? =some (.deferred (some [])) -> w.heap.size<=D ->
  match e with
  | .returned _=>Q .normal { a with defers:={ target:=.collected D,args:=#[] }::a.defers } W'
  | .panicked c=>Q (.panic c) { a with defers:={ target:=.collected D,args:=#[] }::a.defers } W'
  | .outgrown=>False)
 (Mx: ∀ (D:Nat) (c:Code) (G R:Nat -> Prop) (W:World),Ix c G R W -> W.heap[D]? =some (.deferred (some [])) -> w.heap.size<=D ->
  c.wpIn Fence.wide 0 P Q { a with defers:={ target:=.collected D,args:=#[] }::a.defers } W)
 (RE: ∀ (D:Nat) (c:List PanicEntry) (G R:Nat -> Prop) (W:World),Ip c G R W -> W.heap[D]? =some (.deferred (some [])) -> w.heap.size<=D -> Q (.panic c) { a with defers:={ target:=.collected D,args:=#[] }::a.defers } W):
 II Fence.wide 0 P fi (.rangeFunc g ps assign body) Q a w:=by
 refine rU fun _=>?_
 have JT:(w.alloc (.deferred (some []))).heap.size=w.heap.size+1:=World.size_alloc _ _;obtain ⟨A9,DM⟩: ∃ A9:LoopState -> Option Code -> Loop,∀ st pe,A9 st pe= { state:=st,pending:=pe,fn:=fi,tmps:=a.tmps,params:=ps,assign,body,defers:=w.heap.size }:=⟨_,fun _ _=>rfl⟩;obtain ⟨W1,Jb⟩: ∃ W1,(w.alloc (.deferred (some []))).alloc (.loop (A9 .ready none))=W1:=⟨_,rfl⟩
 have Lm:W1.heap[w.heap.size+1]? =some (.loop (A9 .ready none)):=by
  rw [←Jb];have:=World.alloc_heap_new (w.alloc (.deferred (some []))) (.loop (A9 .ready none));rwa [World.size_alloc] at this
 have hK1:W1.heap[w.heap.size]? =some (.deferred (some [])):=by
  rw [←Jb];exact (Below.heap_alloc _ _ _ (by simp)).trans (World.alloc_heap_new w _)
 have hu: ∀ S,AN S w W1:=fun S=>by rw [←Jb];exact ((AN.refl S w).alloc _).alloc _
 have AK:=(zAL.1 Lm).1
 refine ⟨w.heap.size+1,[{ target:=.collected w.heap.size,args:=#[] }],W1,{ target:=.fn (.func gf) lb,args:=#[.func (.yield (w.heap.size+1)) #[] #[]] },W1,gf,
  #[.func (.yield (w.heap.size+1)) #[] #[]]++lb,W1,?_,?_,fun _ _=>trivial,?_,(fun h=>by cases h),?_⟩
 ·rw [←Jb,DM];exact run_enterLoop_outer _ _ _ _ _
 ·simp only [resolve,hg];simp [go_sem]
 ·simp [invoke,go_sem,eg]
 ·refine (ko ct (loose:=false) (D:=w.heap.size) hseq (hu _) (fun k h=>by have:=Ff.lt k h;omega) Ff.dis Dw A9 DM Lm (fun _=>hK1) (by omega)
   I Ix Ip hI Iw Pc M7 JW (fun k=>k=w.heap.size+1∨k=w.heap.size) (fun k h=>h.imp id fun h=>⟨rfl,h⟩) (.inl rfl) (fun _=>.inr rfl)
   (hI 0 G0 Rd _ Rd _ _ h0 (hu _) (fun k h=>h.imp id (by omega)) (fun k h=>.inl h) (fun k h=>h.imp .inl id) (fun k h hr=>?_) (fun k h=>?_)) (C7 _)).mono ?_
  ·rcases h with h | h
   ·exact Ff.dis k h hr
   ·have:=Ff.lt k (.inr hr);omega
  ·rcases h with (h | h) | h
   ·have:=Ff.lt k (.inl h);omega
   ·omega
   ·have:=Ff.lt k (.inr h);omega
  rintro e W2 ⟨G,R,hs,hn,hk,(⟨hi,ho,hl⟩ | ⟨⟨v,rfl⟩,c,hi,hl⟩ | ⟨c,rfl,hi⟩)⟩
  ·have hp: ∀ o,AN (fun k=>k=w.heap.size+1∨k=w.heap.size) W2 (W2.putObj (w.heap.size+1) o):=fun o=>(AN.refl _ W2).putObj (fun _=>.inl rfl) _
   have A5: ∀ o,AN (fun k=>G k∨k=w.heap.size+1∨k=w.heap.size) W2 (W2.putObj (w.heap.size+1) o):=fun o=>(hp o).mono fun _ _ h=>.inr h
   cases e with
   | returned v=>exact ⟨none,_,by have:=run_endLoop (P:=P) hl (by rw [DM];simp);rw [DM] at this;exact this,
    Da _ (.returned v) G R _ W2 _ ho ((hI _).same hs hi (A5 _)) (hs.upd (hp _)) hn (hp _) ((zDh (by omega)).trans (hk rfl)) (zBl _)⟩
   | panicked c=>exact Da _ (.panicked c) G R _ W2 W2 ho hi hs hn (AN.refl _ _) (hk rfl) (zBl _)
   | outgrown=>exact (Da _ .outgrown G R _ W2 W2 ho hi hs hn (AN.refl _ _) (hk rfl) (zBl _)).elim
  ·exact ⟨some c,_,by have:=run_endLoop (P:=P) hl (by rw [DM];simp);rw [DM] at this;exact this,
    Mx _ c _ _ _ ((Iw _).same hs hi ((AN.refl _ W2).putObj (fun _=>.inr (.inl rfl)) _)) ((zDh (by omega)).trans (hk rfl)) (zBl _)⟩
  ·exact RE _ c _ _ _ hi (hk rfl) (zBl _)
theorem rR {nv:Prop}{g:Operand}{Q:Exit -> Act -> World -> Prop}{w:World}(hg:a.eval g= .func (.func gf) #[] lb)(eg: ∀ args w,(callFunc gf args).run P w= .ok (.enter gf args) w) 
 (hseq:SU nv True P gf lb E encs Fk G0 Rd w) (Ff:Dq G0 Rd w) (Dw: ∀ x∈encs,∀ R W args,E x R W args -> args.size=ps.size)
 (I:Nat -> (Nat -> Prop) -> (Nat -> Prop) -> World -> Prop) (Ix:Code -> (Nat -> Prop) -> (Nat -> Prop) -> World -> Prop) (Ip:List PanicEntry -> (Nat -> Prop) -> (Nat -> Prop) -> World -> Prop) (hI: ∀ i,Ce (I i)) (Iw: ∀ c,Ce (Ix c)) (Pc: ∀ c,Ce (Ip c)) (M7:nv -> ∀ c G R W,¬ Ix c G R W) (JW: ∀ c G R W,¬ Ip c G R W) (h0:I 0 G0 Rd w) (C7: ∀ l,V5 P E encs ps assign body a l I Ix Ip)
 (Da: ∀ (D:Nat) (e:Ending) (G R own:Nat -> Prop) (W W':World),Fk e G R W -> I encs.length (fun k=>G k∨own k) R W' -> Dq (fun k=>G k∨own k) R W' -> (∀ k,own k -> ¬ G k) -> AN own W W' -> W'.heap[D]? =some (.deferred (some [])) -> w.heap.size<=D ->
  match e with
  | .returned _=>Q .normal { a with defers:={ target:=.collected D,args:=#[] }::a.defers } W'
  | .panicked c=>Q (.panic c) { a with defers:={ target:=.collected D,args:=#[] }::a.defers } W'
  | .outgrown=>False)
 (Mx: ∀ (D:Nat) (c:Code) (G R:Nat -> Prop) (W:World),Ix c G R W -> W.heap[D]? =some (.deferred (some [])) -> w.heap.size<=D ->
  c.wpIn Fence.wide 0 P Q { a with defers:={ target:=.collected D,args:=#[] }::a.defers } W):
 (Code.rangeFunc g ps assign body).wpIn Fence.wide 0 P Q a w:=
 rT fun _=>gU (.inl trivial) hg eg hseq Ff Dw I Ix Ip hI Iw Pc M7 (fun _=>JW) h0 C7 Da Mx fun D c G R W h=>(JW c G R W h).elim
theorem rS {nv:Prop}{l0:Nat}{g:Operand}{Q:Exit -> Act -> World -> Prop}{w:World}(hg:a.eval g= .func (.func gf) #[] lb)(eg: ∀ args w,(callFunc gf args).run P w= .ok (.enter gf args) w)(dS: ∃ r,w.heap[l0]? =some (.loop r)) 
 (hseq:SU nv True P gf lb E encs Fk G0 Rd w) (Ff:Dq G0 Rd w) (Dw: ∀ x∈encs,∀ R W args,E x R W args -> args.size=ps.size)
 (I:Nat -> (Nat -> Prop) -> (Nat -> Prop) -> World -> Prop) (Ix:Code -> (Nat -> Prop) -> (Nat -> Prop) -> World -> Prop) (Ip:List PanicEntry -> (Nat -> Prop) -> (Nat -> Prop) -> World -> Prop) (hI: ∀ i,Ce (I i)) (Iw: ∀ c,Ce (Ix c)) (Pc: ∀ c,Ce (Ip c)) (M7:nv -> ∀ c G R W,¬ Ix c G R W) (JW: ∀ c G R W,¬ Ip c G R W) (h0:I 0 G0 Rd w) (C7: ∀ l,V5 P E encs ps assign body a l I Ix Ip)
 (Da: ∀ (e:Ending) (G R own:Nat -> Prop) (W W':World),Fk e G R W -> I encs.length (fun k=>G k∨own k) R W' -> Dq (fun k=>G k∨own k) R W' -> (∀ k,own k -> ¬ G k) -> AN own W W' ->
  match e with
  | .returned _=>Q .normal a W'
  | .panicked c=>Q (.panic c) a W'
  | .outgrown=>False)
 (Mx: ∀ (c:Code) (G R:Nat -> Prop) (W:World),Ix c G R W -> c.wpIn (Fence.wide.inRound l0) 0 P Q a W):
 (Code.rangeFunc g ps assign body).wpIn (Fence.wide.inRound l0) 0 P Q a w:=by
 refine wpIn_rangeFunc ?_;intro fn _;obtain ⟨r0,EL⟩:=dS;obtain ⟨A9,DM⟩: ∃ A9:LoopState -> Option Code -> Loop,∀ st pe,A9 st pe= { state:=st,pending:=pe,fn,tmps:=a.tmps,params:=ps,assign,body,defers:=r0.defers }:=⟨_,fun _ _=>rfl⟩;obtain ⟨W1,Jb⟩: ∃ W1,w.alloc (.loop (A9 .ready none))=W1:=⟨_,rfl⟩
 have Lm:W1.heap[w.heap.size]? =some (.loop (A9 .ready none)):=by
  rw [←Jb];exact World.alloc_heap_new w _
 have hu: ∀ S,AN S w W1:=fun S=>by rw [←Jb];exact (AN.refl S w).alloc _
 have AK:=(zAL.1 Lm).1
 refine ⟨w.heap.size,[],W1,{ target:=.fn (.func gf) lb,args:=#[.func (.yield w.heap.size) #[] #[]] },W1,gf,
  #[.func (.yield w.heap.size) #[] #[]]++lb,W1,?_,?_,fun _ _=>trivial,?_,(fun h=>by cases h),?_⟩
 ·rw [←Jb,DM];exact run_enterLoop_inner EL _ _ _ _ _
 ·simp only [resolve,hg];simp [go_sem]
 ·simp [invoke,go_sem,eg]
 ·refine CallsIn.inRound _ ((ko (.inl trivial) (loose:=true) (D:=w.heap.size+1) (G0:=G0) hseq (hu _) (fun k h=>by have:=Ff.lt k h;omega) Ff.dis Dw A9 DM Lm (fun h=>by cases h) (by omega)
   I Ix Ip hI Iw Pc M7 (fun _=>JW) (fun k=>k=w.heap.size) (fun k h=>.inl h) rfl (fun h=>by cases h)
   (hI 0 G0 Rd _ Rd _ _ h0 (hu _) (fun k h=>h.imp id (by omega)) (fun k h=>.inl h) (fun k h=>h.imp .inl id) (fun k h hr=>?_) (fun k h=>?_)) (C7 _)).mono ?_)
  ·rcases h with h | h
   ·exact Ff.dis k h hr
   ·have:=Ff.lt k (.inr hr);omega
  ·rcases h with (h | h) | h
   ·have:=Ff.lt k (.inl h);omega
   ·omega
   ·have:=Ff.lt k (.inr h);omega
  rintro e W2 ⟨G,R,hs,hn,_,(⟨hi,ho,hl⟩ | ⟨⟨v,rfl⟩,c,hi,hl⟩ | ⟨c,rfl,hi⟩)⟩
  ·have hp: ∀ o,AN (fun k=>k=w.heap.size) W2 (W2.putObj w.heap.size o):=fun o=>(AN.refl (fun k=>k=w.heap.size) W2).putObj (fun _=>rfl) _
   cases e with
   | returned v=>exact ⟨none,_,by have:=run_endLoop (P:=P) hl (by rw [DM];simp);rw [DM] at this;exact this,
    Da (.returned v) G R _ W2 _ ho ((hI _).same hs hi ((hp _).mono fun _ _ h=>.inr h)) (hs.upd (hp _)) hn (hp _)⟩
   | panicked c=>exact Da (.panicked c) G R _ W2 W2 ho hi hs hn (AN.refl _ _)
   | outgrown=>exact (Da .outgrown G R _ W2 W2 ho hi hs hn (AN.refl _ _)).elim
  ·exact ⟨some c,_,by have:=run_endLoop (P:=P) hl (by rw [DM];simp);rw [DM] at this;exact this,
    Mx c _ _ _ ((Iw _).same hs hi ((AN.refl _ W2).putObj (fun _=>.inr rfl) _))⟩
  ·exact (JW _ _ _ _ hi).elim
end
def wh (B:Nat)(P:Program)(fn:Func)(R:Ending -> World -> Prop):Exit -> Act -> World -> Prop
 | .normal,a,w | .ret,a,w=>EA B a.defers w/\ ∀ W,L2 B w W -> ∃ v,(results fn a.tmps).run P W= .ok v W/\ R (.returned v) W
 | _,_,_=>False
theorem zEV (B:Nat){P:Program}{f:FuncId}{fn:Func}{c:Code}{args:Array Value}{w:World}{R:Ending -> World -> Prop} 
 (hf:P.funcs[f]? =some fn) (hb:fn.body=some c)
 (h:c.wp P (wh B P fn R) { tmps:=args++Array.replicate (fn.ntmps-args.size) undef,defers:=[] } w):Calls P f args w R:=by
 refine (zGj (n:=0)).1 (callsIn_of_wp_marks hf hb trivial ?_);refine zGE (wpIn_wide.2 h) fun e a' w' hq=>?_
 cases e <;> first | exact Xn _ _ hq.1 hq.2 | exact hq.elim
abbrev u8:=@List.getD_eq_getElem?_getD
abbrev zAW:=@List.getElem?_eq_some_iff
abbrev zBc:=@List.getElem?_append_left
abbrev zBg:=@List.getElem?_append_right
abbrev zBs:=@Array.getD_eq_getD_getElem?
abbrev zB8:=@List.getElem?_set
abbrev zCG:=@List.length_set
abbrev zCU:=@List.getElem?_eq_none
abbrev zCk:=@Array.getElem?_setIfInBounds
inductive DV where
 | any
 | nils
 | int (k:IntKind) (n:Int)
 | bool (b:Bool)
 | str (s:ByteArray)
 | ints (l:List Int)
 | bools (l:List Bool)
 | sl (m n:Nat) (f:Nat -> Nat -> DV)
 | fp (m:Nat) (f:Nat -> DV)
 | agg (m:Nat) (f:Nat -> DV)
 | tup (m:Nat) (f:Nat -> DV)
 | ref (k j:Nat)
 | msl (k m off n:Nat)
 | mp (k m i j:Nat)
 | fn (g:Nat) (m:Nat) (c:Nat -> DV)
 | it (k:Nat)
 | yl (l:Nat)
 | mse (k m off n:Nat)
 | mri (k i:Nat)
 | cst (u:Value)
structure AE where
 blk:Nat
 off:Nat
 room:Nat
 val:Value
 foot:Nat -> Prop
def Gh (m:Nat)(f:Nat -> DV):Nat -> DV:=fun j=>((List.range m).map f).getD j .any
theorem WP {m:Nat}{f:Nat -> DV}{j:Nat}(h:j<m):Gh m f j=f j:=by simp [Gh,h]
def LB:Nat:=140737488355328
def AI (M:Nat -> Prop)(w:World):DV -> List AE -> Value -> Prop
 | .any,_,_=>True
 | .nils,_,v=>v= .slice none 0 0
 | .int k n,_,v=>v= .int k n
 | .bool b,_,v=>v= .bool b
 | .str s,_,v=>v= .string s
 | .ints l,_,v=>∃ (a:Option Addr) (cap:Nat),v= .slice a l.length cap/\ l.length<=cap/\ l.length<=LB/\
  ∀ j,j<l.length -> ∃ b o,a=some ⟨b,o,none⟩/\ ¬ M b/\ w.cell? ⟨b,o+j,none⟩=some (.int .i64 (l.getD j 0))
 | .bools l,_,v=>∃ (a:Option Addr) (cap:Nat),v= .slice a l.length cap/\ l.length<=cap/\ l.length<=LB/\
  ∀ j,j<l.length -> ∃ b o,a=some ⟨b,o,none⟩/\ ¬ M b/\ w.cell? ⟨b,o+j,none⟩=some (.bool (l.getD j false))
 | .sl m n f,_,v=>∃ (a:Option Addr) (cap:Nat),v= .slice a n cap/\ n<=cap/\ n<=LB/\
  ∀ i j,i<n -> j<m -> ∃ b o u,a=some ⟨b,o,none⟩/\ ¬ M b/\ w.cell? ⟨b,o+(i*m+j),none⟩=some u/\ AI M w (f i j) [] u
 | .fp m f,_,v=>∃ b o,v= .pointer (some ⟨b,o,none⟩)/\ ∀ j,j<m -> ¬ M b/\ ∃ u,w.cell? ⟨b,o+j,none⟩=some u/\ AI M w (f j) [] u
 | .agg m f,ρ,v=>∃ cs,v= .agg cs/\ cs.size=m/\ ∀ j,j<m -> ∃ u,cs[j]? =some u/\ AI M w (f j) ρ u
 | .tup m f,ρ,v=>∃ cs,v= .tuple cs/\ cs.size=m/\ ∀ j,j<m -> ∃ u,cs[j]? =some u/\ AI M w (f j) ρ u
 | .ref k j,ρ,v=>∃ p:AE,ρ[k]? =some p/\ v= .pointer (some ⟨p.blk,p.off+j,none⟩)
 | .msl k m off n,ρ,v=>∃ (p:AE) (cap:Nat),ρ[k]? =some p/\ v= .slice (some ⟨p.blk,p.off+off*m,none⟩) n cap/\ n<=cap/\ n<=LB/\ p.off+off*m+cap*m<=p.room
 | .mp k m i j,ρ,v=>∃ p:AE,ρ[k]? =some p/\ v= .pointer (some ⟨p.blk,p.off+(i*m+j),none⟩)
 | .fn g m c,ρ,v=>∃ lb,v= .func (.func g) #[] lb/\ lb.size=m/\ ∀ j,j<m -> ∃ u,lb[j]? =some u/\ AI M w (c j) ρ u
 | .it k,ρ,v=>∃ p:AE,ρ[k]? =some p/\ v=p.val
 | .yl l,_,v=>v= .func (.yield l) #[] #[]
 | .cst u,_,v=>v=u/\ u.oneCell'=true
 | .mri k i,ρ,v=>∃ (p:AE) (vs:Array Value),ρ[k]? =some p/\ p.val= .tuple vs/\ vs[i]? =some v
 | .mse k m off n,ρ,v=>∃ (p:AE) (a:Option Addr) (cap:Nat),ρ[k]? =some p/\ v= .slice a n cap/\ n<=cap/\ n<=LB/\ (0<cap -> a=some ⟨p.blk,p.off+off*m,none⟩/\ p.off+off*m+cap*m<=p.room)
theorem IL {M:Nat -> Prop}{w:World}{ρ:List AE}{m:Nat}{f:Nat -> DV}{j:Nat}{v:Value}(h:j<m)(hr:AI M w (f j) ρ v):AI M w (Gh m f j) ρ v:=by rw [WP h];exact hr
def AQ (w:World)(p:AE)(n:Nat)(R:Nat -> Value -> Prop):Prop:= p.foot=(fun b=>b=p.blk)/\ ∃ cs t,w.heap[p.blk]? =some (.cells cs t (0,0))/\ p.off+n<=cs.size/\ p.room<=cs.size/\ ∀ j,j<n -> ∃ u,cs[p.off+j]? =some u/\ R j u
/-! ### Rows that an object owns-/
def IB (w:World)(F:Nat -> Prop)(u:Value)(L:List Int):Prop:= (L= []/\ u= .slice none 0 0)∨∃ (q:AE) (cap:Nat),u= .slice (some ⟨q.blk,q.off,none⟩) L.length cap/\ L.length<=cap/\ q.off+cap<=q.room/\ L.length<=LB/\ F q.blk/\ AQ w q L.length fun j x=>x= .int .i64 (L.getD j 0)
def DU:Value -> Option Nat
 | .slice (some a) _ _=>some a.block
 | _=>none
theorem IB.blk {w:World}{F:Nat -> Prop}{u:Value}{L:List Int}{b:Nat}(h:IB w F u L)(hb:DU u=some b):F b/\ b<w.heap.size:=by
 rcases h with ⟨_,rfl⟩ | ⟨q,cap,rfl,_,_,_,h5,_,cs,t,h6,_⟩
 ·cases hb
 ·cases hb;exact ⟨h5,(zAL.1 h6).1⟩
theorem IB.out {w w':World}{F F':Nat -> Prop}{u:Value}{L:List Int}(h:IB w F u L)(hb: ∀ b,F b -> DU u=some b -> b<w.heap.size -> w'.heap[b]? =w.heap[b]?)(hF: ∀ b,F b -> DU u=some b -> F' b):IB w' F' u L:=by
 rcases h with h | ⟨q,cap,h1,h2,h3,h4,h5,h6⟩
 ·exact .inl h
 ·refine .inr ⟨q,cap,h1,h2,h3,h4,hF _ h5 (by rw [h1];rfl),?_⟩;obtain ⟨g1,cs,t,g2,g3⟩:=h6;exact ⟨g1,cs,t,(hb _ h5 (by rw [h1];rfl) (zAL.1 g2).1).trans g2,g3⟩
structure E2 (w:World)(p:AE)(f:Int -> List Int)(Bw:Option (Int×List Int×Bool))(u:Value)(es:Array MapEntry)(AZ:Nat):Prop where
 val:p.val= .tuple #[Value.map (some p.blk),u]
 blk:w.heap[p.blk]? =some (.map es AZ)
 own:p.foot p.blk
 key: ∀ e∈es.toList,∃ k,e.key= .int .i64 k/\ ((∀ L,Bw≠some (k,L,true)) -> IB w (fun b=>p.foot b/\ b≠p.blk) e.val (f k))
 no: ∀ k,(∀ e∈es.toList,e.key≠.int .i64 k) -> f k= []
 nd:(es.toList.map (·.key)).Nodup
 apart: ∀ e∈es.toList,∀ e'∈es.toList,∀ b,DU e.val=some b -> DU e'.val=some b -> e.key=e'.key
 born: ∀ e∈es.toList,e.born<AZ
 stamps:(es.toList.map (·.born)).Nodup
 inHand: ∀ k L g,Bw=some (k,L,g) -> IB w (fun b=>p.foot b/\ b≠p.blk) u L/\ ∀ e∈es.toList,∀ b,DU u=some b -> DU e.val=some b -> e.key= .int .i64 k
theorem E2.out {w w':World}{p:AE}{f:Int -> List Int}{Bw:Option (Int×List Int×Bool)}{u:Value}{es:Array MapEntry}{AZ:Nat}(h:E2 w p f Bw u es AZ)(hb: ∀ b,p.foot b -> b<w.heap.size -> w'.heap[b]? =w.heap[b]?):E2 w' p f Bw u es AZ:=
 { h with
  blk:=(hb _ h.own (zAL.1 h.blk).1).trans h.blk
  key:=fun e he=>let ⟨k,h1,h2⟩:=h.key e he;⟨k,h1,fun hh=>(h2 hh).out (fun b hf _ hl=>hb b hf.1 hl) fun _ h _=>h⟩
  inHand:=fun k L g e=>let ⟨h1,h2⟩:=h.inHand k L g e;⟨h1.out (fun b hf _ hl=>hb b hf.1 hl) fun _ h _=>h,h2⟩ }
/-! ### Maps:sets of keys-/
abbrev KS:=List (List Int)
def BP:List Int -> Value
 | [a]=>.int .i64 a
 | l=>.agg (l.map fun a=>.int .i64 a).toArray
theorem mi: ∀ {a b:List Int},BP a=BP b -> a=b:=by
 have ai: ∀ {l m:List Int},(l.map fun a=>Value.int .i64 a).toArray=(m.map fun a=>Value.int .i64 a).toArray -> l=m:=fun {l m} h=>by
  have h:=Array.toList_inj.2 h;simp only at h;exact List.map_inj_right (fun x y e=>by cases e;rfl) |>.1 h
 intro a b h
 match a,b with
 | [x],[y]=>cases h;rfl
 | [],[]=>rfl
 | [x],[]=>cases h
 | [],[y]=>cases h
 | [x],y::y'::m=>cases h
 | x::x'::l,[y]=>cases h
 | x::x'::l,[]=>exact ai (Value.agg.inj h)
 | [],y::y'::m=>exact ai (Value.agg.inj h)
 | x::x'::l,y::y'::m=>exact ai (Value.agg.inj h)
structure FF (w:World)(b n:Nat)(l:KS)(es:Array MapEntry)(AZ:Nat):Prop where
 blk:w.heap[b]? =some (.map es AZ)
 keys:(es.toList.map (·.key)).Perm (l.map BP)
 nd:l.Nodup
 len: ∀ y∈l,y.length=n
 tru: ∀ e∈es.toList,e.val= .bool true
 born: ∀ e∈es.toList,e.born<AZ
 stamps:(es.toList.map (·.born)).Nodup
theorem FF.out {w w':World}{b n:Nat}{l:KS}{es:Array MapEntry}{AZ:Nat}(h:FF w b n l es AZ)(hb:w'.heap[b]? =w.heap[b]?):FF w' b n l es AZ:={ h with blk:=hb.trans h.blk }
inductive MX where
 | set (n:Nat) (l:KS)
 | sets (n:Nat) (ls:List (Option KS)) (lk:Option (Nat×Nat×Array MapEntry×Nat))
 | mit (n mb:Nat) (es:Array MapEntry) (AZ:Nat) (rem:KS) (FB:Option (List Int))
 | rows (f:Int -> List Int) (Bw:Option (Int×List Int×Bool))
 | rws (ls:List (List Int)) (Bw:Option (Nat×List Int))
structure Kp (w:World)(p:AE)(ls:List (List Int))(Bw:Option (Nat×List Int))(vs:Array Value):Prop where
 val:p.val= .tuple vs
 size:vs.size=ls.length+1
 row: ∃ cs t,w.heap[p.blk]? =some (.cells cs t (0,0))/\ p.off+ls.length<=cs.size/\ p.room<=cs.size/\ ∀ j,j<ls.length -> cs[p.off+j]? =vs[j+1]?
 blk:p.foot p.blk
 has: ∀ j,j<ls.length -> (∀ L,Bw≠some (j,L)) -> IB w (fun b=>p.foot b/\ b≠p.blk) (vs.getD (j+1) undef) (ls.getD j default)
 apart: ∀ (i j b:Nat),i<ls.length -> j<ls.length -> (∀ L,Bw≠some (i,L)) -> (∀ L,Bw≠some (j,L)) -> DU (vs.getD (i+1) undef)=some b -> DU (vs.getD (j+1) undef)=some b -> i=j
 inHand: ∀ k L,Bw=some (k,L) -> IB w (fun b=>p.foot b/\ b≠p.blk) (vs.getD 0 undef) L/\ ∀ (j b:Nat),j<ls.length -> DU (vs.getD 0 undef)=some b -> DU (vs.getD (j+1) undef)=some b -> j=k
theorem Kp.out {w w':World}{p:AE}{ls:List (List Int)}{Bw:Option (Nat×List Int)}{vs:Array Value}(h:Kp w p ls Bw vs)(hb: ∀ b,p.foot b -> b<w.heap.size -> w'.heap[b]? =w.heap[b]?):Kp w' p ls Bw vs:=
 { h with
  row:=let ⟨cs,t,h1,h2⟩:=h.row;⟨cs,t,(hb _ h.blk (zAL.1 h1).1).trans h1,h2⟩
  has:=fun j hj hh=>(h.has j hj hh).out (fun b hf _ hl=>hb b hf.1 hl) fun _ h _=>h
  inHand:=fun k L e=>let ⟨h1,h2⟩:=h.inHand k L e;⟨h1.out (fun b hf _ hl=>hb b hf.1 hl) fun _ h _=>h,h2⟩ }
structure FN (w:World)(p:AE)(n:Nat)(ls:List (Option KS))(lk:Option (Nat×Nat×Array MapEntry×Nat))(vs:Array Value):Prop where
 val:p.val= .tuple vs
 size:vs.size=ls.length
 row: ∃ cs t,w.heap[p.blk]? =some (.cells cs t (0,0))/\ p.off+ls.length<=cs.size/\ p.room<=cs.size/\ ∀ j,j<ls.length -> cs[p.off+j]? =vs[j]?
 blk:p.foot p.blk
 has: ∀ (j:Nat) (l:KS),ls[j]? =some (some l) -> ∃ b:Nat,vs[j]? =some (Value.map (some b))/\ b≠p.blk/\ p.foot b/\ ∃ es AZ,FF w b n l es AZ/\ ∀ x,lk=some x -> x.1=j -> x.2=(b,es,AZ)
 nil: ∀ (j:Nat),ls[j]? =some none -> vs[j]? =some (Value.map none)
 foot: ∀ b,p.foot b -> b=p.blk∨∃ (j:Nat) (l:KS),ls[j]? =some (some l)/\ vs[j]? =some (Value.map (some b))
 inj: ∀ (i j b:Nat),vs[i]? =some (Value.map (some b)) -> vs[j]? =some (Value.map (some b)) -> i=j
theorem FN.out {w w':World}{p:AE}{n:Nat}{ls:List (Option KS)}{lk:Option (Nat×Nat×Array MapEntry×Nat)}{vs:Array Value}(h:FN w p n ls lk vs)(hb: ∀ b,p.foot b -> b<w.heap.size -> w'.heap[b]? =w.heap[b]?):FN w' p n ls lk vs:=by
 have Bq: ∀ {b o},p.foot b -> w.heap[b]? =some o -> w'.heap[b]? =some o:=fun {b o} hf ho=>(hb b hf (zAL.1 ho).1).trans ho
 refine { h with row:=?_,has:=fun j l hl=>?_ }
 ·obtain ⟨cs,t,h1,h2⟩:=h.row;exact ⟨cs,t,Bq h.blk h1,h2⟩
 ·obtain ⟨b,h1,h2,h3,es,AZ,h4,h5⟩:=h.has j l hl;exact ⟨b,h1,h2,h3,es,AZ,{ h4 with blk:=Bq h3 h4.blk },h5⟩
def Nl (w:World)(p:AE):MX -> Prop
 | .set n l=>p.val=Value.map (some p.blk)/\ p.foot=(fun b=>b=p.blk)/\ ∃ es AZ,FF w p.blk n l es AZ
 | .sets n ls lk=>∃ vs,FN w p n ls lk vs
 | .mit n mb es AZ rem FB=>(∀ x,(x∈rem∨FB=some x) -> x.length=n)/\ p.val= .pointer (some ⟨p.blk,0,none⟩)/\ p.foot=(fun b=>b=p.blk)/\ ∃ seen,w.heap[p.blk]? =some (.mapIter (some mb) AZ seen AZ)/\ ((leftOf es seen).toList.map (·.key)).Perm (rem.map BP)/\
  ∀ x,FB=some x -> ∃ e∈es.toList,e.key=BP x/\ seen.back? =some e.born
 | .rows f Bw=>∃ u es AZ,E2 w p f Bw u es AZ
 | .rws ls Bw=>∃ vs,Kp w p ls Bw vs
theorem Nl.out {w w':World}{p:AE}: ∀ {x:MX},Nl w p x -> (∀ b,p.foot b -> b<w.heap.size -> w'.heap[b]? =w.heap[b]?) -> Nl w' p x
 | .set n l,⟨h1,h2,es,AZ,h3⟩,hb=>⟨h1,h2,es,AZ,h3.out (hb _ (by rw [h2]) (zAL.1 h3.blk).1)⟩
 | .sets n ls lk,⟨vs,h⟩,hb=>⟨vs,h.out hb⟩
 | .rows f Bw,⟨u,es,AZ,h⟩,hb=>⟨u,es,AZ,h.out hb⟩
 | .rws ls Bw,⟨vs,h⟩,hb=>⟨vs,h.out hb⟩
 | .mit n mb es AZ rem FB,⟨h0,h1,h2,seen,h3,h4⟩,hb=>⟨h0,h1,h2,seen,(hb _ (by rw [h2]) (zAL.1 h3).1).trans h3,h4⟩
inductive DO where
 | cells (l:List DV)
 | ints (l:List Int)
 | bools (l:List Bool)
 | arr (m n:Nat) (f:Nat -> Nat -> DV)
 | iter (encs:List (List DV))
 | ro (l:List DV)
 | mo (x:MX)
abbrev DH:=List (Option DO)
def MO (h:DH)(ρ:List AE)(b:Nat):Prop:=∃ (k:Nat) (o:DO) (p:AE),h[k]? =some (some o)/\ ρ[k]? =some p/\ p.foot b
def MS (N:Nat -> Prop)(h:DH)(ρ:List AE)(b:Nat):Prop:=N b∨MO h ρ b
def YV (ds:List DV)(R:Nat -> Prop)(W:World)(args:Array Value):Prop:=ds.length=args.size/\ ∀ j,j<ds.length -> AI (fun b=>b<W.heap.size/\ ¬ R b) W (ds.getD j .any) [] (args.getD j undef)
def SQ:Ending -> (Nat -> Prop) -> (Nat -> Prop) -> World -> Prop:=fun e _ _ _=>∃ v,e= .returned v
def Dr (P:Program)(M:Nat -> Prop)(w:World)(ρ:List AE)(p:AE):DO -> Prop
 | .cells l=>AQ w p l.length fun j u=>AI M w (l.getD j .any) ρ u
 | .ints l=>AQ w p l.length fun j u=>u= .int .i64 (l.getD j 0)
 | .bools l=>AQ w p l.length fun j u=>u= .bool (l.getD j false)
 | .arr m n f=>AQ w p (n*m) fun j u=>AI M w (f (j/m) (j % m)) [] u
 | .iter encs=>∃ gf lb Rd,(p.val= .func (.func gf) #[] lb/\ ∀ args W,(callFunc gf args).run P W= .ok (.enter gf args) W)/\ Nn P gf lb YV encs SQ p.foot Rd w/\ (∀ b,Rd b -> ¬ M b/\ b<w.heap.size)/\ ∀ b,p.foot b -> b<w.heap.size
 | .ro l=>p.foot=(fun _=>False)/\ ¬ M p.blk/\ AQ w { p with foot:=fun b=>b=p.blk } l.length fun j u=>AI M w (l.getD j .any) ρ u
 | .mo x=>Nl w p x
def n6:Obj -> Bool
 | .cells .. =>true
 | .map .. =>true
 | .mapIter .. =>true
 | _=>false
abbrev Ds (w:World)(b:Nat):Prop:=∃ (c:Obj) (_:n6 c=true) (_:Unit),w.heap[b]? =some c
theorem Ds.cells {w:World}{b:Nat}{c:Array Value}{t:TypeId}{z:Nat×Nat}(h:w.heap[b]? =some (.cells c t z)):Ds w b:=⟨_,rfl,(),h⟩
structure Aj where
 ng:Nat
 gi:World -> Prop
 st: ∀ w w',gi w -> AN (fun b=>ng<=b) w w' -> gi w'
 lo: ∀ w,gi w -> ng<=w.heap.size
structure Ag (P:Program)(Γ:Aj)(N:Nat -> Prop)(h:DH)(ρ:List AE)(w:World):Prop where
 len:ρ.length=h.length
 obj: ∀ (k:Nat) (o:DO),h[k]? =some (some o) -> ∃ p:AE,ρ[k]? =some p/\ Dr P (MS N h ρ) w ρ p o
 cel: ∀ (k:Nat) (o:DO) (p:AE) (b:Nat),h[k]? =some (some o) -> ρ[k]? =some p -> p.foot b -> Γ.ng<=b/\ ¬ N b/\ Ds w b
 dis: ∀ (k k':Nat) (o o':DO) (p p':AE) (b:Nat),k≠k' -> h[k]? =some (some o) -> h[k']? =some (some o') -> ρ[k]? =some p -> ρ[k']? =some p' -> p.foot b -> p'.foot b -> False
 nlt: ∀ b,N b -> b<w.heap.size/\ Γ.ng<=b
 gi:Γ.gi w
structure St where
 fr:List DV
 h:DH
def A0 (M:Nat -> Prop)(w:World)(ρ:List AE)(fr:List DV)(t:Array Value):Prop:= fr.length=t.size/\ ∀ i,i<fr.length -> AI M w (fr.getD i .any) ρ (t.getD i undef)
structure AP (P:Program)(Γ:Aj)(N:Nat -> Prop)(S:St)(ρ:List AE)(a:Act)(w:World):Prop where
 hr:Ag P Γ N S.h ρ w
 fr:A0 (MS N S.h ρ) w ρ S.fr a.tmps
structure Ap (h:DH)(ρ:List AE)(w:World)(h':DH)(ρ':List AE)(w':World):Prop where
 upd:AN (MO h ρ) w w'
 grow: ∀ b,MO h' ρ' b -> MO h ρ b∨w.heap.size<=b
theorem Ap.refl (h:DH)(ρ:List AE)(w:World):Ap h ρ w h ρ w:=⟨AN.refl _ _,fun _ h=>.inl h⟩
theorem Ap.trans {h h' U7:DH}{ρ ρ' ρ'':List AE}{w w' Bu:World}(x:Ap h ρ w h' ρ' w')(y:Ap h' ρ' w' U7 ρ'' Bu):Ap h ρ w U7 ρ'' Bu:=
 ⟨x.upd.comp y.upd fun i hi hm=>(x.grow i hm).resolve_right (by omega),fun b hb=>(y.grow b hb).elim (fun h=>x.grow b h) (fun h=>.inr (zAa x.upd.size h))⟩
structure C2 (h:DH)(ρ:List AE)(w:World)(h':DH)(ρ':List AE)(w':World):Prop where
 st:Ap h ρ w h' ρ' w'
 pl: ∀ (k:Nat) (p:AE),ρ[k]? =some p -> ρ'[k]? =some p
theorem C2.refl (h:DH)(ρ:List AE)(w:World):C2 h ρ w h ρ w:=⟨Ap.refl _ _ _,fun _ _ h=>h⟩
theorem C2.trans {h h' U7:DH}{ρ ρ' ρ'':List AE}{w w' Bu:World}(x:C2 h ρ w h' ρ' w')(y:C2 h' ρ' w' U7 ρ'' Bu):C2 h ρ w U7 ρ'' Bu:=
 ⟨x.st.trans y.st,fun k p hk=>y.pl k p (x.pl k p hk)⟩
structure BH (M:Nat -> Prop)(w:World)(ρ:List AE)(M':Nat -> Prop)(w':World)(ρ':List AE):Prop where
 blk: ∀ b,b<w.heap.size -> ¬ M b -> (∃ c t z,w.heap[b]? =some (.cells c t z)) -> w'.heap[b]? =w.heap[b]?
 m: ∀ b,M' b -> M b∨w.heap.size<=b
 pl: ∀ (k:Nat) (p:AE),ρ[k]? =some p -> ρ'[k]? =some p
theorem zES {w:World}{b o:Nat}{u:Value}(h:w.cell? ⟨b,o,none⟩=some u): ∃ c t z,w.heap[b]? =some (.cells c t z):=by
 unfold World.cell? at h;split at h
 ·exact ⟨_,_,_,by assumption⟩
 ·cases h
theorem BH.nil {M M':Nat -> Prop}{w w':World}{ρ ρ':List AE}(h:BH M w ρ M' w' ρ'):BH M w [] M' w' []:=⟨h.blk,h.m,fun k p hk=>by simp at hk⟩
theorem p8 {w w':World}{b o:Nat}(h:w'.heap[b]? =w.heap[b]?):w'.cell? ⟨b,o,none⟩=w.cell? ⟨b,o,none⟩:=by
 unfold World.cell?;rw [h]
theorem BH.cell {M M':Nat -> Prop}{w w':World}{ρ ρ':List AE}(h:BH M w ρ M' w' ρ'){b o:Nat}{u:Value}(hM: ¬ M b)(hc:w.cell? ⟨b,o,none⟩=some u):w'.cell? ⟨b,o,none⟩=some u/\ ¬ M' b:=by
 have AK:b<w.heap.size:=zFX w ⟨b,o,none⟩ hc;exact ⟨(p8 (h.blk b AK hM (zES hc))).trans hc,fun hm=>(h.m b hm).elim hM (by omega)⟩
theorem AI.out {M M':Nat -> Prop}{w w':World}: ∀ (d:DV) {ρ ρ':List AE} {v:Value},BH M w ρ M' w' ρ' -> AI M w d ρ v -> AI M' w' d ρ' v:=by
 intro d
 induction d with
 | any=>intros;trivial
 | nils=>intro ρ ρ' v _ h;exact h
 | int k n=>intro ρ ρ' v _ h;exact h
 | bool b=>intro ρ ρ' v _ h;exact h
 | str s=>intro ρ ρ' v _ h;exact h
 | ints l=>
  rintro ρ ρ' v H ⟨a,cap,e,h1,h2,h3⟩;refine ⟨a,cap,e,h1,h2,fun j hj=>?_⟩;obtain ⟨b,o,ha,hM,hc⟩:=h3 j hj;obtain ⟨g1,g2⟩:=H.cell hM hc;exact ⟨b,o,ha,g2,g1⟩
 | bools l=>
  rintro ρ ρ' v H ⟨a,cap,e,h1,h2,h3⟩;refine ⟨a,cap,e,h1,h2,fun j hj=>?_⟩;obtain ⟨b,o,ha,hM,hc⟩:=h3 j hj;obtain ⟨g1,g2⟩:=H.cell hM hc;exact ⟨b,o,ha,g2,g1⟩
 | sl m n f ih=>
  rintro ρ ρ' v H ⟨a,cap,e,h1,h2,h3⟩;refine ⟨a,cap,e,h1,h2,fun i j hi hj=>?_⟩;obtain ⟨b,o,u,ha,hM,hc,hr⟩:=h3 i j hi hj;obtain ⟨g1,g2⟩:=H.cell hM hc;exact ⟨b,o,u,ha,g2,g1,ih i j H.nil hr⟩
 | fp m f ih=>
  rintro ρ ρ' v H ⟨b,o,e,h⟩;refine ⟨b,o,e,fun j hj=>?_⟩;obtain ⟨hM,u,hc,hr⟩:=h j hj;obtain ⟨g1,g2⟩:=H.cell hM hc;exact ⟨g2,u,g1,ih j H.nil hr⟩
 | agg m f ih=>
  rintro ρ ρ' v H ⟨cs,e,hs,h⟩;exact ⟨cs,e,hs,fun j hj=>let ⟨u,h1,h2⟩:=h j hj;⟨u,h1,ih j H h2⟩⟩
 | tup m f ih=>
  rintro ρ ρ' v H ⟨cs,e,hs,h⟩;exact ⟨cs,e,hs,fun j hj=>let ⟨u,h1,h2⟩:=h j hj;⟨u,h1,ih j H h2⟩⟩
 | ref k j=>rintro ρ ρ' v H ⟨p,h,e⟩;exact ⟨p,H.pl _ _ h,e⟩
 | msl k m off n=>rintro ρ ρ' v H ⟨p,cap,h,r⟩;exact ⟨p,cap,H.pl _ _ h,r⟩
 | mp k m i j=>rintro ρ ρ' v H ⟨p,h,e⟩;exact ⟨p,H.pl _ _ h,e⟩
 | fn g m c ih=>
  rintro ρ ρ' v H ⟨cs,e,hs,h⟩;exact ⟨cs,e,hs,fun j hj=>let ⟨u,h1,h2⟩:=h j hj;⟨u,h1,ih j H h2⟩⟩
 | it k=>rintro ρ ρ' v H ⟨p,h,e⟩;exact ⟨p,H.pl _ _ h,e⟩
 | yl l=>intro ρ ρ' v _ h;exact h
 | mse k m off n=>rintro ρ ρ' v H ⟨p,a,cap,h,r⟩;exact ⟨p,a,cap,H.pl _ _ h,r⟩
 | mri k i=>rintro ρ ρ' v H ⟨p,vs,h,r⟩;exact ⟨p,vs,H.pl _ _ h,r⟩
 | cst u=>intro ρ ρ' v _ h;exact h
theorem A0.out {M M':Nat -> Prop}{w w':World}{ρ ρ':List AE}{fr:List DV}{t:Array Value}(h:A0 M w ρ fr t)(H:BH M w ρ M' w' ρ'):A0 M' w' ρ' fr t:=
 ⟨h.1,fun i hi=>(h.2 i hi).out _ H⟩
theorem A0.at {M:Nat -> Prop}{w:World}{ρ:List AE}{fr:List DV}{t:Array Value}(h:A0 M w ρ fr t)(i:Nat):AI M w (fr.getD i .any) ρ (t.getD i undef):=by
 rcases zCb i fr.length with hi | hi
 ·exact h.2 i hi
 ·have:fr.getD i .any= .any:=by rw [u8,zCU hi];rfl
  rw [this];trivial
theorem A0.set {M:Nat -> Prop}{w:World}{ρ:List AE}{fr:List DV}{t:Array Value}(h:A0 M w ρ fr t)(i:Nat){d:DV}{v:Value}(hv:AI M w d ρ v):A0 M w ρ (fr.set i d) (t.setIfInBounds i v):=by
 refine ⟨by simp [h.1],fun j hj=>?_⟩;rw [zCG] at hj;have BM:j<t.size:=by rw [←h.1];exact hj
 have h0:=h.2 j hj;simp only [u8,zBs,zB8,zCk] at h0 ⊢
 by_cases e:i=j
 ·subst e;simp [hj,BM,hv]
 ·rw [zAY e,zAY e];exact h0
theorem Nn.later {P:Program}{g:Nat}{lb:Array Value}{X:Type}{E:X -> (Nat -> Prop) -> World -> Array Value -> Prop}{encs:List X}{Fk:Ending -> (Nat -> Prop) -> (Nat -> Prop) -> World -> Prop}{G0 Rd:Nat -> Prop}{w w':World}(h:Nn P g lb E encs Fk G0 Rd w){S:Nat -> Prop}(hu:AN S w w')(hs: ∀ b,b<w.heap.size -> S b -> ¬ (G0 b∨Rd b)):Nn P g lb E encs Fk G0 Rd w':=
 fun l J Jx W h1 h2 h3=>h l J Jx W h1 h2 (hu.mono (fun i hi hx=>hs i hi hx) |>.trans h3)
theorem AQ.out {w w':World}{p:AE}{n:Nat}{R R':Nat -> Value -> Prop}(h:AQ w p n R)(hb:w'.heap[p.blk]? =w.heap[p.blk]?)(hR: ∀ j u,j<n -> R j u -> R' j u):AQ w' p n R':=by
 obtain ⟨h1,cs,t,h2,h3,h4,h5⟩:=h;exact ⟨h1,cs,t,hb.trans h2,h3,h4,fun j hj=>let ⟨u,g1,g2⟩:=h5 j hj;⟨u,g1,hR j u hj g2⟩⟩
theorem AQ.cell {w:World}{p:AE}{n:Nat}{R:Nat -> Value -> Prop}(h:AQ w p n R){j:Nat}(hj:j<n): ∃ u,w.cell? ⟨p.blk,p.off+j,none⟩=some u/\ R j u:=by
 obtain ⟨h1,cs,t,h2,h3,h4,h5⟩:=h;obtain ⟨u,g1,g2⟩:=h5 j hj;exact ⟨u,by unfold World.cell?;simp [h2,g1],g2⟩
theorem AQ.frozen {w:World}{p:AE}{n:Nat}{R:Nat -> Value -> Prop}(h:AQ w p n R)(o:Nat):w.frozen? ⟨p.blk,o,none⟩=false:=by
 obtain ⟨h1,cs,t,h2,_⟩:=h;unfold World.frozen?;simp [h2]
theorem Dr.out {P:Program}{M M':Nat -> Prop}{w w':World}{ρ ρ':List AE}{p:AE}{o:DO}(h:Dr P M w ρ p o)(H:BH M w ρ M' w' ρ'){S:Nat -> Prop}(hu:AN S w w')(hS: ∀ b,S b -> M b)(hf: ∀ b,b<w.heap.size -> p.foot b -> ¬ S b):Dr P M' w' ρ' p o:=by
 have hb: ∀ {n R},AQ w p n R -> w'.heap[p.blk]? =w.heap[p.blk]? :=fun {n R} hr=>by
  obtain ⟨h1,cs,t,h2,_⟩:=hr;have AK:=(zAL.1 h2).1;exact hu.block _ AK (hf _ AK (by rw [h1]))
 cases o with
 | cells l=>exact AQ.out h (hb h) fun j u _ hr=>AI.out _ H hr
 | ints l=>exact AQ.out h (hb h) fun j u _ hr=>hr
 | bools l=>exact AQ.out h (hb h) fun j u _ hr=>hr
 | arr m n f=>exact AQ.out h (hb h) fun j u _ hr=>AI.out _ H.nil hr
 | iter encs=>
  obtain ⟨gf,lb,Rd,h1,h2,h3,h4⟩:=h;refine ⟨gf,lb,Rd,h1,h2.later hu (fun b hb hs hx=>?_),fun b hb=>⟨fun hm=>(H.m b hm).elim (h3 b hb).1 (by have:=(h3 b hb).2;omega),zBa (h3 b hb).2 hu.size⟩,fun b hb=>zBa (h4 b hb) hu.size⟩;rcases hx with hx | hx
  ·exact hf b hb hx hs
  ·exact (h3 b hx).1 (hS b hs)
 | ro l=>
  obtain ⟨r1,r2,r3⟩:=h
  have AK:p.blk<w.heap.size:=by
   obtain ⟨_,cs,t,h2,_⟩:=r3;exact (zAL.1 h2).1
  exact ⟨r1,fun hm=>(H.m _ hm).elim r2 (by omega),AQ.out r3 (hu.block _ AK fun hs=>r2 (hS _ hs)) fun j u _ hr=>AI.out _ H hr⟩
 | mo x=>exact Nl.out h fun b hb AK=>hu.block b AK (hf b AK hb)
section
variable {P:Program} {Γ:Aj} {N:Nat -> Prop} {h:DH} {ρ:List AE} {w:World}
theorem MO.unset {k:Nat}{b:Nat}(hm:MO (h.set k none) ρ b):MO h ρ b:=by
 obtain ⟨i,o,p,h1,h2,h3⟩:=hm;rw [zB8] at h1
 by_cases e:k=i
 ·rw [zAA e] at h1;split at h1 <;> cases h1
 ·rw [zAY e] at h1;exact ⟨i,o,p,h1,h2,h3⟩
theorem Ag.lt (H:Ag P Γ N h ρ w){b:Nat}(hb:MS N h ρ b):b<w.heap.size:=by
 rcases hb with hb | ⟨k,o,p,h1,h2,h3⟩
 ·exact (H.nlt b hb).1
 ·obtain ⟨_,_,c,t,z,h4⟩:=H.cel k o p b h1 h2 h3;exact (zAL.1 h4).1
theorem Ag.low (H:Ag P Γ N h ρ w){b:Nat}(hb:MO h ρ b):Γ.ng<=b:=by
 obtain ⟨k,o,p,h1,h2,h3⟩:=hb;exact (H.cel k o p b h1 h2 h3).1
theorem Ag.lt2 (H:Ag P Γ N h ρ w){b:Nat}(hb:MS N h ρ b):b<w.heap.size/\ Γ.ng<=b:=⟨H.lt hb,hb.elim (fun h=>(H.nlt b h).2) H.low⟩
theorem Ag.ext (H:Ag P Γ N h ρ w){w':World}(hE:Am w w'):Ag P Γ N h ρ w':=by
 have O:BH (MS N h ρ) w ρ (MS N h ρ) w' ρ:=⟨fun b hb _ _=>zG3 hE b hb,fun b h=>.inl h,fun _ _ h=>h⟩;refine ⟨H.len,fun k o hk=>?_,fun k o p b h1 h2 h3=>?_,H.dis,fun b hb=>⟨zBa (H.nlt b hb).1 hE.size,(H.nlt b hb).2⟩,Γ.st _ _ H.gi (AN.ofExt hE)⟩
 ·obtain ⟨p,hp,ho⟩:=H.obj k o hk;exact ⟨p,hp,ho.out O (S:=fun _=>False) (AN.ofExt hE) (fun _ h=>h.elim) (fun _ _ _ h=>h)⟩
 ·obtain ⟨g1,g2,c,t,z,g3⟩:=H.cel k o p b h1 h2 h3;exact ⟨g1,g2,c,t,z,(zG3 hE b (zAL.1 g3).1).trans g3⟩
theorem BH.ext {M:Nat -> Prop}{w w':World}(ρ:List AE)(hE:Am w w'):BH M w ρ M w' ρ:=⟨fun b hb _ _=>zG3 hE b hb,fun b h=>.inl h,fun _ _ h=>h⟩
theorem Ap.ext {w w':World}(hE:Am w w'):Ap h ρ w h ρ w':=⟨AN.ofExt hE,fun _ h=>.inl h⟩
theorem Dz {α:Type}{l:List α}{x y:α}{k:Nat}(hk:(l++[x])[k]? =some y):(k<l.length/\ l[k]? =some y)∨(k=l.length/\ x=y):=by
 rcases Nat.lt_trichotomy k l.length with hl | hl | hl
 ·rw [zBc hl] at hk;exact .inl ⟨hl,hk⟩
 ·subst hl;simp at hk;exact .inr ⟨rfl,hk⟩
 ·rw [zBg (by omega)] at hk;have:k-l.length≠0:=by omega
  cases e:k-l.length with
  | zero=>omega
  | succ m=>rw [e] at hk;simp at hk
theorem EO {α:Type}{l:List α}{x y:α}{k:Nat}(hk:l[k]? =some y):(l++[x])[k]? =some y:=by
 rw [zBc (zAW.1 hk).1];exact hk
theorem MO.snoc (H:Ag P Γ N h ρ w){o:DO}{p:AE}{b:Nat}(hb:MO (h++[some o]) (ρ++[p]) b):MO h ρ b∨p.foot b:=by
 obtain ⟨k,o',p',h1,h2,h3⟩:=hb;rcases Dz h1 with ⟨hl,h1⟩ | ⟨hl,h1⟩
 ·rcases Dz h2 with ⟨_,h2⟩ | ⟨Cy,_⟩
  ·exact .inl ⟨k,o',p',h1,h2,h3⟩
  ·rw [Cy,H.len] at hl;omega
 ·rcases Dz h2 with ⟨Cy,_⟩ | ⟨_,h2⟩
  ·rw [H.len,←hl] at Cy;omega
  ·subst h2;exact .inr h3
theorem Ag.snoc (H:Ag P Γ N h ρ w){w':World}(hE:Am w w'){o:DO}{p:AE}(hf: ∀ b,p.foot b -> w.heap.size<=b/\ Ds w' b) 
 (ho:Dr P (MS N (h++[some o]) (ρ++[p])) w' (ρ++[p]) p o):Ag P Γ N (h++[some o]) (ρ++[p]) w':=by
 have O:BH (MS N h ρ) w ρ (MS N (h++[some o]) (ρ++[p])) w' (ρ++[p]):=by
  refine ⟨fun b hb _ _=>zG3 hE b hb,fun b hb=>?_,fun k q hk=>EO hk⟩;rcases hb with hb | hb
  ·exact .inl (.inl hb)
  ·rcases MO.snoc H hb with hb | hb
   ·exact .inl (.inr hb)
   ·exact .inr (hf b hb).1
 refine ⟨by simp [H.len],fun k o' hk=>?_,fun k o' p' b h1 h2 h3=>?_,fun k k' o1 o2 p1 p2 b AR h1 h2 h3 h4 h5 h6=>?_,fun b hb=>⟨zBa (H.nlt b hb).1 hE.size,(H.nlt b hb).2⟩,Γ.st _ _ H.gi (AN.ofExt hE)⟩
 ·rcases Dz hk with ⟨hl,hk⟩ | ⟨hl,hk⟩
  ·obtain ⟨p',hp,hr⟩:=H.obj k o' hk;exact ⟨p',EO hp,hr.out O (S:=fun _=>False) (AN.ofExt hE) (fun _ h=>h.elim) (fun _ _ _ h=>h)⟩
  ·cases hk;exact ⟨p,by rw [hl,←H.len];simp,ho⟩
 ·rcases Dz h1 with ⟨hl,h1⟩ | ⟨hl,h1⟩
  ·rcases Dz h2 with ⟨_,h2⟩ | ⟨Cy,_⟩
   ·obtain ⟨g1,g2,c,t,z,g3⟩:=H.cel k o' p' b h1 h2 h3;exact ⟨g1,g2,c,t,z,(zG3 hE b (zAL.1 g3).1).trans g3⟩
   ·rw [Cy,H.len] at hl;omega
  ·rcases Dz h2 with ⟨Cy,_⟩ | ⟨_,h2⟩
   ·rw [H.len,←hl] at Cy;omega
   ·subst h2;obtain ⟨g1,g2⟩:=hf b h3;exact ⟨zAa (Γ.lo _ H.gi) g1,fun hn=>by have:=H.nlt b hn;omega,g2⟩
 ·have FY: ∀ {k:Nat} {o':DO} {p':AE},(h++[some o])[k]? =some (some o') -> (ρ++[p])[k]? =some p' -> p'.foot b -> k≠h.length -> b<w.heap.size:=by
   intro k o' p' h1 h2 h3 AR;rcases Dz h1 with ⟨hl,h1⟩ | ⟨hl,h1⟩
   ·rcases Dz h2 with ⟨_,h2⟩ | ⟨Cy,_⟩
    ·exact H.lt (.inr ⟨k,o',p',h1,h2,h3⟩)
    ·rw [Cy,H.len] at hl;omega
   ·exact absurd hl AR
  have mE: ∀ {k:Nat} {o':DO} {p':AE},(h++[some o])[k]? =some (some o') -> (ρ++[p])[k]? =some p' -> p'.foot b -> k=h.length -> w.heap.size<=b:=by
   intro k o' p' h1 h2 h3 he;rcases Dz h2 with ⟨Cy,_⟩ | ⟨_,h2⟩
   ·rw [H.len,←he] at Cy;omega
   ·subst h2;exact (hf b h3).1
  by_cases e1:k=h.length
  ·by_cases e2:k'=h.length
   ·exact AR (e1.trans e2.symm)
   ·have:=mE h1 h3 h5 e1;have:=FY h2 h4 h6 e2;omega
  ·by_cases e2:k'=h.length
   ·have:=FY h1 h3 h5 e1;have:=mE h2 h4 h6 e2;omega
   ·rcases Dz h1 with ⟨_,h1⟩ | ⟨hl,_⟩
    ·rcases Dz h2 with ⟨_,h2⟩ | ⟨hl,_⟩
     ·rcases Dz h3 with ⟨_,h3⟩ | ⟨hl,_⟩
      ·rcases Dz h4 with ⟨_,h4⟩ | ⟨hl,_⟩
       ·exact H.dis k k' o1 o2 p1 p2 b AR h1 h2 h3 h4 h5 h6
       ·rw [H.len] at hl;exact e2 hl
      ·rw [H.len] at hl;exact e1 hl
     ·exact e2 hl
    ·exact e1 hl
theorem BH.snoc (H:Ag P Γ N h ρ w){w':World}(hE:Am w w'){o:DO}{p:AE}(hf: ∀ b,p.foot b -> w.heap.size<=b):BH (MS N h ρ) w ρ (MS N (h++[some o]) (ρ++[p])) w' (ρ++[p]):=by
 refine ⟨fun b hb _ _=>zG3 hE b hb,fun b hb=>?_,fun k q hk=>EO hk⟩;rcases hb with hb | hb
 ·exact .inl (.inl hb)
 ·rcases MO.snoc H hb with hb | hb
  ·exact .inl (.inr hb)
  ·exact .inr (hf b hb)
theorem Ap.snoc (H:Ag P Γ N h ρ w){w':World}(hE:Am w w'){o:DO}{p:AE}(hf: ∀ b,p.foot b -> w.heap.size<=b):Ap h ρ w (h++[some o]) (ρ++[p]) w':=
 ⟨AN.ofExt hE,fun b hb=>(MO.snoc H hb).imp id (hf b)⟩
theorem MO.set {k:Nat}{o o':DO}(hk:h[k]? =some (some o)){b:Nat}:MO (h.set k (some o')) ρ b↔MO h ρ b:=by
 have hl:=(zAW.1 hk).1;constructor
 ·rintro ⟨i,o1,p,h1,h2,h3⟩;rw [zB8] at h1
  by_cases e:k=i
  ·subst e;exact ⟨k,o,p,hk,h2,h3⟩
  ·rw [zAY e] at h1;exact ⟨i,o1,p,h1,h2,h3⟩
 ·rintro ⟨i,o1,p,h1,h2,h3⟩
  by_cases e:k=i
  ·subst e;exact ⟨k,o',p,by simp [hl],h2,h3⟩
  ·exact ⟨i,o1,p,by rw [zB8,zAY e];exact h1,h2,h3⟩
theorem MS.set {k:Nat}{o o':DO}(hk:h[k]? =some (some o)){b:Nat}:MS N (h.set k (some o')) ρ b↔MS N h ρ b:=by unfold MS;rw [MO.set hk]
theorem Ag.write (H:Ag P Γ N h ρ w){w':World}{k:Nat}{o o':DO}{p:AE}(hk:h[k]? =some (some o))(hp:ρ[k]? =some p)(hu:AN p.foot w w') 
 (hc: ∀ b,p.foot b -> Ds w' b) (ho:Dr P (MS N (h.set k (some o')) ρ) w' ρ p o'):Ag P Γ N (h.set k (some o')) ρ w':=by
 have hl:=(zAW.1 hk).1;have hM: ∀ b,p.foot b -> MS N h ρ b:=fun b hb=>.inr ⟨k,o,p,hk,hp,hb⟩
 have O:BH (MS N h ρ) w ρ (MS N (h.set k (some o')) ρ) w' ρ:=⟨fun b hb hm _=>hu.block b hb fun hx=>hm (hM b hx),fun b hb=>.inl ((MS.set hk).1 hb),fun _ _ h=>h⟩;have HG: ∀ {i:Nat} {o1:DO},i≠k -> (h.set k (some o'))[i]? =some (some o1) -> h[i]? =some (some o1):=fun {i} {o1} AR h1=>by rw [zB8,zAY (zGi AR)] at h1;exact h1
 refine ⟨by simp [H.len],fun i o1 hi=>?_,fun i o1 p1 b h1 h2 h3=>?_,fun i i' o1 o2 p1 p2 b AR h1 h2 h3 h4 h5 h6=>?_,fun b hb=>⟨zBa (H.nlt b hb).1 hu.size,(H.nlt b hb).2⟩,Γ.st _ _ H.gi (hu.mono fun b _ hb=>(H.cel k o p b hk hp hb).1)⟩
 ·by_cases e:i=k
  ·subst e;have:o'=o1:=by simp [hl] at hi;exact hi
   subst this;exact ⟨p,hp,ho⟩
  ·obtain ⟨p1,M4,hr⟩:=H.obj i o1 (HG e hi);exact ⟨p1,M4,hr.out O hu hM fun b _ h1 h2=>H.dis i k o1 o p1 p b e (HG e hi) hk M4 hp h1 h2⟩
 ·by_cases e:i=k
  ·subst e;have:p=p1:=zAV (hp.symm.trans h2);subst this;obtain ⟨g1,g2,_⟩:=H.cel i o p b hk hp h3;exact ⟨g1,g2,hc b h3⟩
  ·obtain ⟨g1,g2,c,t,z,g3⟩:=H.cel i o1 p1 b (HG e h1) h2 h3;refine ⟨g1,g2,c,t,z,(hu.block b (zAL.1 g3).1 fun hx=>H.dis i k o1 o p1 p b e (HG e h1) hk h2 hp h3 hx).trans g3⟩
 ·have FY: ∀ {i:Nat} {o1:DO},(h.set k (some o'))[i]? =some (some o1) -> ∃ o2,h[i]? =some (some o2):=fun {i} {o1} h1=>by
   by_cases e:i=k
   ·subst e;exact ⟨o,hk⟩
   ·exact ⟨o1,HG e h1⟩
  obtain ⟨q1,g1⟩:=FY h1;obtain ⟨q2,g2⟩:=FY h2;exact H.dis i i' q1 q2 p1 p2 b AR g1 g2 h3 h4 h5 h6
theorem BH.write (hN:True){w':World}{k:Nat}{o o':DO}{p:AE}(hk:h[k]? =some (some o))(hp:ρ[k]? =some p)(hu:AN p.foot w w'):BH (MS N h ρ) w ρ (MS N (h.set k (some o')) ρ) w' ρ:=
 ⟨fun b hb hm _=>hu.block b hb fun hx=>hm (.inr ⟨k,o,p,hk,hp,hx⟩),fun b hb=>.inl ((MS.set hk).1 hb),fun _ _ h=>h⟩
theorem Ap.write {w':World}{k:Nat}{o o':DO}{p:AE}(hk:h[k]? =some (some o))(hp:ρ[k]? =some p)(hu:AN p.foot w w'):Ap h ρ w (h.set k (some o')) ρ w':=
 ⟨hu.mono fun b _ hb=>⟨k,o,p,hk,hp,hb⟩,fun b hb=>.inl ((MO.set hk).1 hb)⟩
end
abbrev zBk:=@Nat.not_lt_zero
abbrev zCJ:=@decide_eq_true_eq
abbrev zCW:=@Option.some.injEq
abbrev zCY:=@Go.run_underlying
abbrev zCd:=@Nat.add_assoc
abbrev zCg:=@Bool.not_eq_true'
abbrev zDU:=@Prod.mk.injEq
abbrev zFn:=@Nat.mul_le_mul_right
abbrev zFy:=@bne_iff_ne
abbrev zF0:=@Nat.add_mul
abbrev zF5:=@Nat.mul_comm
abbrev zF6:=@Nat.add_zero
abbrev zGT:=@Array.eq_empty_of_size_eq_zero
abbrev zGk:=@Nat.mod_eq_of_lt
abbrev zGl:=@Go.Sem.run_pure
abbrev zGt:=@Option.isSome_iff_exists
abbrev zG6:=@Nat.succ_mul
def Gz:Value -> DV
 | .int k n=>.int k n
 | .bool b=>.bool b
 | .string s=>.str s
 | .slice none 0 0=>.nils
 | v=>if v.oneCell' then .cst v else .any
def AT (fr:List DV):Operand -> DV
 | .tmp t=>fr.getD t .any
 | .const v=>Gz v
 | .global _=>.any
 | .func f=>.fn f 0 fun _=>.any
def Ig (P:Program)(t:TypeId):Bool:=match P.underlying t with
 | some (.struct _)=>true
 | some (.array _ _)=>true
 | _=>false
def Ph (P:Program)(t:TypeId)(m:Nat):Bool:=match P.underlying t with
 | some (.slice e)=>match P.info? e with
  | some i=>i.size==m&&m != 0
  | none=>false
 | _=>false
def Fs (P:Program)(t:TypeId):Bool:=(P.underlying t).isSome&&!Ig P t
def V2 (P:Program)(t:TypeId)(m:Nat):Bool:=Ig P t&&(match P.info? t with | some i=>i.size==m | none=>false)
def Yx (P:Program)(s:TypeId)(f:Nat):Option (Nat×Nat):=match P.underlying s with
 | some (.struct fs)=>match fs[f]? with
  | some fd=>match P.info? fd.type with
   | some i=>if i.size=0 then none else some (fd.offset,i.size)
   | none=>none
  | none=>none
 | _=>none
def Vz (P:Program)(t:TypeId):Option (Nat×Nat):=match P.underlying t with
 | some (.array n e)=>match P.info? e with
  | some i=>if n<=1 then none else some (n,i.size)
  | none=>none
 | _=>none
def b7 (P:Program)(t:TypeId):Option IntKind:=match P.underlying t with
 | some (.int k)=>some k
 | _=>none
def ZM (op:BinOp)(k:IntKind)(a b:Int):Option (DV×Prop):=match op with
 | .add=>some (.int k (k.wrap (a+b)),True)
 | .sub=>some (.int k (k.wrap (a-b)),True)
 | .mul=>some (.int k (k.wrap (a*b)),True)
 | .and=>some (.int k (bits .and k a b),True)
 | .or=>some (.int k (bits .or k a b),True)
 | .xor=>some (.int k (bits .xor k a b),True)
 | .andNot=>some (.int k (bits .andNot k a b),True)
 | .eql=>some (.bool (a==b),True)
 | .neq=>some (.bool (a != b),True)
 | .lss=>some (.bool (decide (a<b)),True)
 | .leq=>some (.bool (decide (a<=b)),True)
 | .gtr=>some (.bool (decide (a>b)),True)
 | .geq=>some (.bool (decide (a>=b)),True)
 | _=>none
def SD (P:Program)(t:TypeId):Nat:=match P.underlying t with
 | some .bool=>1
 | some (.slice _)=>2
 | _=>0
def ZN (bt:Nat)(op:BinOp)(x y:DV):Option (DV×Prop):=match op,x,y with
 | .eql,.bool a,.bool b=>if bt=1 then some (.bool (a==b),True) else none
 | .neq,.bool a,.bool b=>if bt=1 then some (.bool (!(a==b)),True) else none
 | .eql,.ints l,.nils=>if bt=2 then some (.bool false,0<l.length) else none
 | .eql,.bools l,.nils=>if bt=2 then some (.bool false,0<l.length) else none
 | .neq,.ints l,.nils=>if bt=2 then some (.bool true,0<l.length) else none
 | .shl,.int k a,.int _ b=>some (.int k (k.wrap (a*2 ^ b.toNat)),0<=b/\ b<=k.bits)
 | .shr,.int k a,.int _ b=>some (.int k (a/2 ^ b.toNat),0<=b/\ b<=k.bits)
 | .quo,.int k a,.int k' b=>if k=k' then some (.int k (k.wrap (a.tdiv b)),b≠0) else none
 | .rem,.int k a,.int k' b=>if k=k' then some (.int k (a.tmod b),b≠0) else none
 | op,.int k a,.int k' b=>if k=k' then ZM op k a b else none
 | _,_,_=>none
def Ot (P:Program)(S:St)(t:TypeId):DV -> Option (DV×Prop)
 | .fp m f=>if Fs P t then (if m=0 then none else some (f 0,True)) else if V2 P t m then some (.agg m f,True) else none
 | .ref k j=>match S.h[k]? with
  | some (some (.cells l))=>if Fs P t then (if j<l.length then some (l.getD j .any,True) else none)
   else match P.info? t with
    | some i=>if Ig P t&&decide (j+i.size<=l.length) then some (.agg i.size (Gh i.size fun c=>l.getD (j+c) .any),True) else none
    | none=>none
  | some (some (.ro l))=>if Fs P t then (if j<l.length then some (l.getD j .any,True) else none)
   else match P.info? t with
    | some i=>if Ig P t&&decide (j+i.size<=l.length) then some (.agg i.size (Gh i.size fun c=>l.getD (j+c) .any),True) else none
    | none=>none
  | _=>none
 | .mp k m i j=>match S.h[k]? with
  | some (some (.ints l))=>if Fs P t&&(m==1)&&(j==0) then some (.int .i64 (l.getD i 0),i<l.length) else none
  | some (some (.bools l))=>if Fs P t&&(m==1)&&(j==0) then some (.bool (l.getD i false),i<l.length) else none
  | some (some (.arr m' n f))=>if Fs P t&&(m==m')&&decide (j<m) then some (f i j,i<n)
   else if V2 P t m&&(m==m')&&(j==0) then some (.agg m (f i),i<n) else none
  | some (some (.mo (.sets _ ls _)))=>if Fs P t&&(m==1)&&(j==0) then some (.mri k i,i<ls.length) else none
  | some (some (.mo (.rws ls none)))=>if Fs P t&&(m==1)&&(j==0) then some (.mri k (i+1),i<ls.length) else none
  | _=>none
 | _=>none
def cH (P:Program)(t:TypeId)(x:DV)(n:Int):Option (DV×Prop):=match x with
 | .ints l=>if Ph P t 1 then some (.fp 1 (fun _=>.int .i64 (l.getD n.toNat 0)),0<=n/\ n<l.length) else none
 | .bools l=>if Ph P t 1 then some (.fp 1 (fun _=>.bool (l.getD n.toNat false)),0<=n/\ n<l.length) else none
 | .sl m c f=>if Ph P t m then some (.fp m (f n.toNat),0<=n/\ n<c) else none
 | .msl k m off c=>if Ph P t m then some (.mp k m (off+n.toNat) 0,0<=n/\ n<c) else none
 | .ref k j=>match Vz P t with
  | some (len,sz)=>some (.ref k (j+n.toNat*sz),0<=n/\ n<len)
  | none=>none
 | .mp k m i 0=>match Vz P t with
  | some (len,sz)=>if sz=m then some (.mp k m (i+n.toNat) 0,0<=n/\ n<len) else none
  | none=>none
 | .fp m f=>match Vz P t with
  | some (len,sz)=>if n.toNat*sz+sz<=m then some (.fp sz (Gh sz fun j=>f (n.toNat*sz+j)),0<=n/\ n<len) else none
  | none=>none
 | _=>none
def Xm (P:Program)(t:TypeId)(d:DV):Option (DV×Prop):=match P.underlying t,d with
 | some (.slice _),.nils=>some (.int .i64 0,True)
 | some (.slice _),.ints l=>some (.int .i64 l.length,True)
 | some (.slice _),.bools l=>some (.int .i64 l.length,True)
 | some (.slice _),.sl _ n _=>some (.int .i64 n,True)
 | some (.slice _),.msl _ _ _ n=>some (.int .i64 n,True)
 | some .string,.str s=>some (.int .i64 s.size,True)
 | _,_=>none
def bS (x y:DV):Option (DV×Prop):=match x,y with
 | .int k a,.int _ b=>some (.int k (if b>a then b else a),True)
 | _,_=>none
def bR (x y:DV):Option (DV×Prop):=match x,y with
 | .int k a,.int _ b=>some (.int k (if b<a then b else a),True)
 | _,_=>none
def ZJ (P:Program)(S:St)(b:Builtin)(args:List Operand)(sJ:List TypeId):Option (DV×Prop):=match b with
 | .len=>match args with
  | [x]=>match sJ with
   | [t]=>Xm P t (AT S.fr x)
   | _=>none
  | _=>none
 | .max=>match args with
  | [x,y]=>bS (AT S.fr x) (AT S.fr y)
  | _=>none
 | .min=>match args with
  | [x,y]=>bR (AT S.fr x) (AT S.fr y)
  | _=>none
 | _=>none
def pop (P:Program)(S:St):Op -> Option (DV×Prop)
 | .move x=>some (AT S.fr x,True)
 | .assign x=>some (AT S.fr x,True)
 | .pick c a b=>match AT S.fr c with
  | .bool true=>some (AT S.fr a,True)
  | .bool false=>some (AT S.fr b,True)
  | _=>none
 | .load t x=>Ot P S t (AT S.fr x)
 | .binOp op t x y _=>ZN (SD P t) op (AT S.fr x) (AT S.fr y)
 | .unOp op _ x=>match op,AT S.fr x with
  | .not,.bool b=>some (.bool !b,True)
  | .neg,.int k n=>some (.int k (k.wrap (0-n)),True)
  | .xor,.int k n=>some (.int k (bits .xor k (if k.signed then-1 else k.max) n),True)
  | _,_=>none
 | .convert s d x=>match P.underlying s,b7 P d,AT S.fr x with
  | some _,some k,.int _ n=>some (.int k (k.wrap n),True)
  | _,_,_=>none
 | .nilCheck x=>match AT S.fr x with
  | .fp m f=>some (.fp m f,True)
  | .ref k j=>some (.ref k j,True)
  | .mp k m i j=>some (.mp k m i j,True)
  | .fn g m c=>some (.fn g m c,True)
  | _=>none
 | .fieldAddr s x f=>match Yx P s f with
  | some (off,sz)=>match AT S.fr x with
   | .fp m g=>if off+sz<=m then some (.fp sz (Gh sz fun j=>g (off+j)),True) else none
   | .ref k j=>some (.ref k (j+off),True)
   | .mp k m i j=>some (.mp k m i (j+off),True)
   | _=>none
  | none=>none
 | .indexAddr t x i=>match AT S.fr i with
  | .int _ n=>cH P t (AT S.fr x) n
  | _=>none
 | .extract x i=>match AT S.fr x with
  | .tup m f=>if i<m then some (f i,True) else none
  | _=>none
 | .makeFunc (.func g) first c=>if first.size=0 then some (.fn g c.size (Gh c.size fun j=>AT S.fr (c.getD j (.const undef))),True) else none
 | .call c=>match c.callee with
  | .builtin b=>ZJ P S b c.args.toList c.argTypes.toList
  | _=>none
 | _=>none
section
variable {P:Program} {Γ:Aj} {N:Nat -> Prop} {S:St} {ρ:List AE} {a:Act} {w:World}
theorem Xb {M:Nat -> Prop}(v:Value):AI M w (Gz v) ρ v:=by
 unfold Gz;split
 ·rfl
 ·rfl
 ·rfl
 ·rfl
 ·split
  ·exact ⟨rfl,by assumption⟩
  ·trivial
theorem BO (R:AP P Γ N S ρ a w)(x:Operand):AI (MS N S.h ρ) w (AT S.fr x) ρ (a.eval x):=by
 cases x with
 | tmp t=>exact R.fr.at t
 | const v=>exact Xb v
 | global g=>trivial
 | func f=>exact ⟨#[],rfl,rfl,fun j hj=>absurd hj (zBk j)⟩
theorem TV {t:TypeId}{d:TypeDesc}(h:P.underlying t=some d):(isAgg t).run P w= .ok (Ig P t) w:=by
 unfold isAgg Ig;rw [zBx,zCY h];simp only [Result.andThen,h];cases d <;> rfl
theorem J7 {t:TypeId}{i:TypeInfo}(h:P.info? t=some i):(sizeOf t).run P w= .ok i.size w:=by
 rw [run_sizeOf w h];unfold Program.cellsOf;rw [h];rfl
theorem vK {t:TypeId}{b:Addr}{u:Value}(h:Fs P t=true)(hc:w.cell? b=some u):(loadVar t b).run P w= .ok u w:=by
 unfold Fs at h;simp only [zAO,zGt,zCg] at h;obtain ⟨⟨d,hd⟩,hn⟩:=h;unfold loadVar;rw [zBx,TV hd];simp only [Result.andThen,hn,zCZ,zF2];simp [load,Sem.run,hc]
theorem mr {t:TypeId}(h:Ig P t=true): ∃ d,P.underlying t=some d:=by
 unfold Ig at h;split at h
 ·exact ⟨_,by assumption⟩
 ·exact ⟨_,by assumption⟩
 ·cases h
theorem vL {t:TypeId}{b o:Nat}{i:TypeInfo}(h:Ig P t=true)(hi:P.info? t=some i)(g:Nat -> Value)(hc: ∀ j,j<i.size -> w.cell? ⟨b,o+j,none⟩=some (g j)):
 (loadVar t ⟨b,o,none⟩).run P w= .ok (.agg ((List.range i.size).map g).toArray) w:=by
 obtain ⟨d,hd⟩:=mr h;unfold loadVar;rw [zBx,TV hd];simp only [Result.andThen,h,zFV];rw [zBx,J7 hi];simp only [Result.andThen]
 rw [zBx,run_loadCells w ⟨b,o,none⟩ i.size g (fun j hj=>by
  have:=hc j hj;unfold Addr.add
  by_cases e:j=0
  ·subst e;simpa using this
  ·simpa [e] using this)]
 simp [Result.andThen]
def Keep (N:Nat -> Prop)(w W:World):Prop:=∀ b o u,¬ N b -> w.cell? ⟨b,o,none⟩=some u -> W.cell? ⟨b,o,none⟩=some u
theorem Keep.ofExt {N:Nat -> Prop}{w W:World}(h:Am w W):Keep N w W:=fun _ _ _ _ hc=>h.cell hc
def Yl (P:Program)(N:Nat -> Prop)(w:World)(M:Nat -> Prop)(ρ:List AE)(s:Sem Value)(d:DV):Prop:=∃ v,(∀ W,Keep N w W -> s.run P W= .ok v W)/\ AI M w d ρ v
theorem Qe {k:Nat}{o:DO}{p:AE}{n:Nat}{Rw:Nat -> Value -> Prop}(R:AP P Γ N S ρ a w)(hk:S.h[k]? =some (some o))(hp:ρ[k]? =some p)(hr:AQ w p n Rw): ¬ N p.blk:=(R.hr.cel k o p p.blk hk hp (by rw [hr.1])).2.1
theorem Yp {M:Nat -> Prop}{m:Nat}{f:Nat -> DV}{v:Value}(h:AI M w (.fp m f) ρ v): ∃ b o,v= .pointer (some ⟨b,o,none⟩)/\ ∀ j,j<m -> ¬ M b/\ ∃ u,w.cell? ⟨b,o+j,none⟩=some u/\ AI M w (f j) [] u:=h
theorem Qf {M:Nat -> Prop}{d:DV}{v:Value}(h:AI M w d [] v):AI M w d ρ v:=h.out d ⟨fun _ _ _ _=>rfl,fun _ h=>.inl h,fun k p hk=>by simp at hk⟩
theorem aM {t:TypeId}{b:Addr}{W:World}:(Instr.loadAt t (.pointer (some b))).run P W=(loadVar t b).run P W:=rfl
theorem Mr {M:Nat -> Prop}{t:TypeId}{b o:Nat}{u:Value}{d:DV}(hN: ¬ N b)(h1:Fs P t=true)(hc:w.cell? ⟨b,o,none⟩=some u)(hr:AI M w d ρ u):Yl P N w M ρ (Instr.loadAt t (.pointer (some ⟨b,o,none⟩))) d:=
 ⟨u,fun W hE=>by rw [aM];exact vK h1 (hE _ _ _ hN hc),hr⟩
theorem Xj {M:Nat -> Prop}{t:TypeId}{i:TypeInfo}{b o:Nat}{f:Nat -> DV}(hN:0<i.size -> ¬ N b)(h1:Ig P t=true)(hi:P.info? t=some i)(h: ∀ j,j<i.size -> ∃ u,w.cell? ⟨b,o+j,none⟩=some u/\ AI M w (f j) ρ u):
 Yl P N w M ρ (Instr.loadAt t (.pointer (some ⟨b,o,none⟩))) (.agg i.size f):=by
 obtain ⟨g,hg⟩: ∃ g:Nat -> Value,∀ j,j<i.size -> w.cell? ⟨b,o+j,none⟩=some (g j)/\ AI M w (f j) ρ (g j):=by
  refine ⟨fun j=>(w.cell? ⟨b,o+j,none⟩).getD undef,fun j hj=>?_⟩;obtain ⟨u,h1,h2⟩:=h j hj;simp [h1,h2]
 refine ⟨_,fun W hE=>by rw [aM];exact vL h1 hi g fun j hj=>hE _ _ _ (hN (by omega)) (hg j hj).1,_,rfl,by simp,fun j hj=>?_⟩;exact ⟨g j,by simp [hj],(hg j hj).2⟩
theorem fw {t:TypeId}{m:Nat}(h:V2 P t m=true):Ig P t=true/\ ∃ i,P.info? t=some i/\ i.size=m:=by
 unfold V2 at h;simp only [zAO] at h;refine ⟨h.1,?_⟩;have h2:=h.2;split at h2
 ·exact ⟨_,by assumption,by simpa using h2⟩
 ·cases h2
theorem mW (R:AP P Γ N S ρ a w){t:TypeId}{x d:DV}{vc:Prop}{v:Value}(hx:AI (MS N S.h ρ) w x ρ v)(h:Ot P S t x=some (d,vc))(hv:vc):
 Yl P N w (MS N S.h ρ) ρ (Instr.loadAt t v) d:=by
 unfold Ot at h;split at h
 ·rename_i m f;obtain ⟨b,o,rfl,hc⟩:=Yp hx;split at h
  ·rename_i h1;split at h
   ·cases h
   ·cases h;obtain ⟨hM,u,g1,g2⟩:=hc 0 (by omega);exact Mr (fun h=>hM (.inl h)) h1 g1 (Qf g2)
  ·split at h
   ·rename_i h2;cases h;obtain ⟨h3,i,hi,rfl⟩:=fw h2;exact Xj (fun hp h=>(hc 0 hp).1 (.inl h)) h3 hi fun j hj=>let ⟨_,u,g1,g2⟩:=hc j hj;⟨u,g1,Qf g2⟩
   ·cases h
 ·rename_i k j;obtain ⟨p,hp,rfl⟩:=hx;split at h
  ·rename_i l hk;obtain ⟨p',A5,hr⟩:=R.hr.obj k _ hk;have e:p'=p:=zAV (A5.symm.trans hp);subst e;split at h
   ·rename_i h1;split at h
    ·rename_i hj;cases h;obtain ⟨u,g1,g2⟩:=AQ.cell hr hj;exact Mr (Qe R hk hp hr) h1 g1 g2
    ·cases h
   ·split at h
    ·rename_i i hi;split at h
     ·rename_i h2;cases h;simp only [zAO,zCJ] at h2;refine Xj (fun _=>Qe R hk hp hr) h2.1 hi fun c hc=>?_
      obtain ⟨u,g1,g2⟩:=AQ.cell hr (j:=j+c) (by omega);exact ⟨u,by rw [zCd];exact g1,IL hc g2⟩
     ·cases h
    ·cases h
  ·rename_i l hk;obtain ⟨p',A5,_,r2,hr⟩:=R.hr.obj k _ hk;have e:p'=p:=zAV (A5.symm.trans hp);subst e;split at h
   ·rename_i h1;split at h
    ·rename_i hj;cases h;obtain ⟨u,g1,g2⟩:=AQ.cell hr hj;exact Mr (fun h=>r2 (.inl h)) h1 g1 g2
    ·cases h
   ·split at h
    ·rename_i i hi;split at h
     ·rename_i h2;cases h;simp only [zAO,zCJ] at h2;refine Xj (fun _ h=>r2 (.inl h)) h2.1 hi fun c hc=>?_
      obtain ⟨u,g1,g2⟩:=AQ.cell hr (j:=j+c) (by omega);exact ⟨u,by rw [zCd];exact g1,IL hc g2⟩
     ·cases h
    ·cases h
  ·cases h
 ·rename_i k m i j;obtain ⟨p,hp,rfl⟩:=hx;split at h
  ·rename_i l hk;obtain ⟨p',A5,hr⟩:=R.hr.obj k _ hk;have e:p'=p:=zAV (A5.symm.trans hp);subst e;split at h
   ·rename_i h1;cases h;simp only [zAO,zCR] at h1;obtain ⟨⟨h1,rfl⟩,rfl⟩:=h1;obtain ⟨u,g1,g2⟩:=AQ.cell hr hv;exact Mr (Qe R hk hp hr) h1 (by simpa using g1) g2
   ·cases h
  ·rename_i l hk;obtain ⟨p',A5,hr⟩:=R.hr.obj k _ hk;have e:p'=p:=zAV (A5.symm.trans hp);subst e;split at h
   ·rename_i h1;cases h;simp only [zAO,zCR] at h1;obtain ⟨⟨h1,rfl⟩,rfl⟩:=h1;obtain ⟨u,g1,g2⟩:=AQ.cell hr hv;exact Mr (Qe R hk hp hr) h1 (by simpa using g1) g2
   ·cases h
  ·rename_i m' n f hk;obtain ⟨p',A5,hr⟩:=R.hr.obj k _ hk;have e:p'=p:=zAV (A5.symm.trans hp);subst e
   have cD: ∀ {i j:Nat},i<n -> j<m' -> i*m'+j<n*m':=fun {i j} hi hj=>by
    have:(i+1)*m'<=n*m':=zFn _ hi;rw [zG6] at this;omega
   have dv: ∀ {i j:Nat},j<m' -> (i*m'+j)/m'=i/\ (i*m'+j) % m'=j:=fun {i j} hj=>by
    have hm:0<m':=by omega
    constructor
    ·rw [zF5,Nat.mul_add_div hm,Nat.div_eq_of_lt hj,zF6]
    ·rw [zF5,Nat.mul_add_mod,zGk hj]
   split at h
   ·rename_i h1;cases h;simp only [zAO,zCR,zCJ] at h1;obtain ⟨⟨h1,rfl⟩,hj⟩:=h1;obtain ⟨u,g1,g2⟩:=AQ.cell hr (cD hv hj);rw [(dv hj).1,(dv hj).2] at g2;exact Mr (Qe R hk hp hr) h1 g1 (Qf g2)
   ·split at h
    ·rename_i h2;cases h;simp only [zAO,zCR] at h2;obtain ⟨⟨h2,rfl⟩,rfl⟩:=h2;obtain ⟨h3,ti,hi,rfl⟩:=fw h2;refine Xj (fun _=>Qe R hk hp hr) h3 hi fun c hc=>?_
     obtain ⟨u,g1,g2⟩:=AQ.cell hr (cD hv hc);rw [(dv hc).1,(dv hc).2] at g2;exact ⟨u,by simpa [zCd] using g1,Qf g2⟩
    ·cases h
  ·rename_i n ls lk hk;obtain ⟨p',A5,vs,hS⟩:=R.hr.obj k _ hk;have e:p'=p:=zAV (A5.symm.trans hp);subst e;split at h
   ·rename_i h1;cases h;simp only [zAO,zCR] at h1;obtain ⟨⟨h1,rfl⟩,rfl⟩:=h1;obtain ⟨cs,tt,q1,q2,q3,q4⟩:=hS.row;have hi:i<vs.size:=by rw [hS.size];exact hv
    have q5:=q4 i hv;rw [zCV hi] at q5;refine Mr (u:=vs[i]) (R.hr.cel k _ p' p'.blk hk hp hS.blk).2.1 h1 ?_ ⟨p',vs,hp,hS.val,zCV hi⟩;unfold World.cell?;simp [q1,q5]
   ·cases h
  ·rename_i ls hk;obtain ⟨p',A5,vs,hS⟩:=R.hr.obj k _ hk;have e:p'=p:=zAV (A5.symm.trans hp);subst e;split at h
   ·rename_i h1;cases h;simp only [zAO,zCR] at h1;obtain ⟨⟨h1,rfl⟩,rfl⟩:=h1;obtain ⟨cs,tt,q1,q2,q3,q4⟩:=hS.row;have hi:i+1<vs.size:=by rw [hS.size];omega
    have q5:=q4 i hv;rw [zCV hi] at q5;refine Mr (u:=vs[i+1]) (R.hr.cel k _ p' p'.blk hk hp hS.blk).2.1 h1 ?_ ⟨p',vs,hp,hS.val,zCV hi⟩;unfold World.cell?;simp [q1,q5]
   ·cases h
  ·cases h
 ·cases h
theorem Yl.pure {M:Nat -> Prop}{s:Sem Value}{d:DV}{v:Value}(h: ∀ W,s.run P W= .ok v W)(hr:AI M w d ρ v):Yl P N w M ρ s d:=⟨v,fun W _=>h W,hr⟩
theorem pU {t:TypeId}{m:Nat}(h:Ph P t m=true):P.underlying t=some (.slice (P.elem t))/\ (∃ i,P.info? (P.elem t)=some i/\ i.size=m)/\ m≠0:=by
 unfold Ph at h;split at h
 ·rename_i e he;have:P.elem t=e:=by unfold Program.elem;rw [he]
  rw [this];refine ⟨he,?_⟩;split at h
  ·simp only [zAO,zCR,zFy] at h;exact ⟨⟨_,by assumption,h.1⟩,h.2⟩
  ·cases h
 ·cases h
theorem fX {t:TypeId}{n m:Nat}(h:Vz P t=some (n,m)):P.underlying t=some (.array (P.arrayLen t) (P.elem t))/\ P.arrayLen t=n/\ ∃ i,P.info? (P.elem t)=some i/\ i.size=m:=by
 unfold Vz at h;split at h
 ·rename_i n' e he;have h1:P.elem t=e:=by unfold Program.elem;rw [he]
  have h2:P.arrayLen t=n':=by unfold Program.arrayLen;rw [he]
  rw [h1,h2];split at h
  ·split at h
   ·cases h
   ·cases h;exact ⟨he,rfl,_,by assumption,rfl⟩
  ·cases h
 ·cases h
theorem Jt (b o n:Nat):Addr.add ⟨b,o,none⟩ n=⟨b,o+n,none⟩:=by
 unfold Addr.add
 by_cases h:n=0
 ·subst h;rfl
 ·simp [h]
theorem Wn {t:TypeId}{m b o len cap:Nat}{k:IntKind}{n:Int}(h:Ph P t m=true)(h1:0<=n)(h2:n<len)(W:World):
 (Instr.indexAt t (.slice (some ⟨b,o,none⟩) len cap) (.int k n)).run P W= .ok (.pointer (some ⟨b,o+n.toNat*m,none⟩)) W:=by
 obtain ⟨hu,⟨i,hi,rfl⟩,_⟩:=pU h;rw [run_indexAt_slice W t _ len cap k n hu,zAA ⟨h1,h2⟩,J7 hi];simp only [Result.andThen,Jt]
theorem zl (R:AP P Γ N S ρ a w){t:TypeId}{x d:DV}{vc:Prop}{v:Value}{k:IntKind}{n:Int}(hx:AI (MS N S.h ρ) w x ρ v)(h:cH P t x n=some (d,vc))(hv:vc):
 Yl P N w (MS N S.h ρ) ρ (Instr.indexAt t v (.int k n)) d:=by
 unfold cH at h;split at h
 ·rename_i l;obtain ⟨ad,cap,rfl,h1,h2,h3⟩:=hx;split at h
  ·rename_i he;cases h;obtain ⟨b,o,rfl,hM,hc⟩:=h3 n.toNat (by omega);refine Yl.pure (fun W=>Wn he hv.1 hv.2 W) ⟨b,o+n.toNat*1,rfl,fun j hj=>⟨hM,_,?_,rfl⟩⟩;have:j=0:=by omega
   subst this;simpa using hc
  ·cases h
 ·rename_i l;obtain ⟨ad,cap,rfl,h1,h2,h3⟩:=hx;split at h
  ·rename_i he;cases h;obtain ⟨b,o,rfl,hM,hc⟩:=h3 n.toNat (by omega);refine Yl.pure (fun W=>Wn he hv.1 hv.2 W) ⟨b,o+n.toNat*1,rfl,fun j hj=>⟨hM,_,?_,rfl⟩⟩;have:j=0:=by omega
   subst this;simpa using hc
  ·cases h
 ·rename_i m c f;obtain ⟨ad,cap,rfl,h1,h2,h3⟩:=hx;split at h
  ·rename_i he;cases h;have hm:=(pU he).2;obtain ⟨b,o,u,rfl,hM,hc,hr⟩:=h3 n.toNat 0 (by omega) (by omega);refine Yl.pure (fun W=>Wn he hv.1 hv.2 W) ⟨b,o+n.toNat*m,rfl,fun j hj=>?_⟩;obtain ⟨b',o',u',e,hM',H4,CC⟩:=h3 n.toNat j (by omega) hj;cases e;exact ⟨hM',u',by rw [zCd];exact H4,CC⟩
  ·cases h
 ·rename_i k' m off c;obtain ⟨p,cap,hp,rfl,h1,h2,h3⟩:=hx;split at h
  ·rename_i he;cases h;exact Yl.pure (fun W=>Wn he hv.1 hv.2 W) ⟨p,hp,by rw [zCd,←zF0];rfl⟩
  ·cases h
 ·rename_i k' j;obtain ⟨p,hp,rfl⟩:=hx;split at h
  ·rename_i len sz ha;cases h;obtain ⟨hu,hl,i,hi,rfl⟩:=fX ha;refine Yl.pure (fun W=>?_) ⟨p,hp,rfl⟩;rw [run_indexAt_array W t _ k n hu,zAA ⟨hv.1,by rw [hl];exact hv.2⟩,J7 hi];simp only [Result.andThen,Jt,zCd]
  ·cases h
 ·rename_i k' m i0;obtain ⟨p,hp,rfl⟩:=hx;split at h
  ·rename_i len sz ha;split at h
   ·rename_i Av;subst Av;cases h;obtain ⟨hu,hl,i,hi,rfl⟩:=fX ha;refine Yl.pure (fun W=>?_) ⟨p,hp,rfl⟩;rw [run_indexAt_array W t _ k n hu,zAA ⟨hv.1,by rw [hl];exact hv.2⟩,J7 hi];simp only [Result.andThen,Jt,zCd,zF0,zBy,zF6]
   ·cases h
  ·cases h
 ·rename_i m f;obtain ⟨b,o,rfl,hc⟩:=Yp hx;split at h
  ·rename_i len sz ha;split at h
   ·rename_i Av;cases h;obtain ⟨hu,hl,i,hi,rfl⟩:=fX ha;refine Yl.pure (fun W=>?_) ⟨b,o+n.toNat*i.size,rfl,fun j hj=>?_⟩
    ·rw [run_indexAt_array W t _ k n hu,zAA ⟨hv.1,by rw [hl];exact hv.2⟩,J7 hi];simp only [Result.andThen,Jt]
    ·obtain ⟨hM,u,h1,h2⟩:=hc (n.toNat*i.size+j) (by omega);exact ⟨hM,u,by rw [zCd];exact h1,IL hj h2⟩
   ·cases h
  ·cases h
 ·cases h
theorem vQ {op:BinOp}{k:IntKind}{x y:Int}{d:DV}{vc:Prop}(t:TypeId)(h:ZM op k x y=some (d,vc))(M:Nat -> Prop):Yl P N w M ρ (binOp op t (.int k x) (.int k y)) d:=by
 cases op <;> simp only [ZM,zCW,zDU,reduceCtorEq] at h <;> obtain ⟨rfl,-⟩:=h
 ·exact Yl.pure (fun W=>by rw [binOp_add];rfl) rfl
 ·exact Yl.pure (fun W=>by rw [binOp_sub];rfl) rfl
 ·exact Yl.pure (fun W=>by rw [binOp_mul];rfl) rfl
 ·exact Yl.pure (fun W=>by rw [binOp_and];rfl) rfl
 ·exact Yl.pure (fun W=>by rw [binOp_or];rfl) rfl
 ·exact Yl.pure (fun W=>by rw [binOp_xor];rfl) rfl
 ·exact Yl.pure (fun W=>by rw [binOp_andNot];rfl) rfl
 ·exact Yl.pure (fun W=>by rw [binOp_eql];rfl) rfl
 ·exact Yl.pure (fun W=>by rw [binOp_neq];rfl) rfl
 ·exact Yl.pure (fun W=>by rw [binOp_lss];rfl) rfl
 ·exact Yl.pure (fun W=>by rw [binOp_leq];rfl) rfl
 ·exact Yl.pure (fun W=>by rw [binOp_gtr];rfl) rfl
 ·exact Yl.pure (fun W=>by rw [binOp_geq];rfl) rfl
theorem zDd {op:BinOp}{t:TypeId}{x y:Operand}{k:IntKind}{n:Int}{v:Value}:eqGuard op t x y (.int k n) v=pure ():=by
 cases op <;> rfl
theorem zEh {M:Nat -> Prop}{op:BinOp}{t:TypeId}{x y:DV}{vx vy:Value}{d:DV}{vc:Prop}(ox oy:Operand)(hx:AI M w x ρ vx)(hy:AI M w y ρ vy)(h:ZN (SD P t) op x y=some (d,vc))(hv:vc):
 Yl P N w M ρ (do eqGuard op t ox oy vx vy;binOp op t vx vy) d:=by
 have key: ∀ {k k':IntKind} {n n':Int},vx= .int k n -> vy= .int k' n' -> Yl P N w M ρ (binOp op t (.int k n) (.int k' n')) d -> Yl P N w M ρ (do eqGuard op t ox oy vx vy;binOp op t vx vy) d:=by
  intro k k' n n' e1 e2 hY;subst e1;subst e2;rw [zDd];exact hY
 have hb:SD P t=1 -> P.underlying t=some .bool:=fun h=>by
  unfold SD at h;split at h
  ·assumption
  ·cases h
  ·cases h
 have ck:SD P t=2 -> ∃ e,P.underlying t=some (.slice e):=fun h=>by
  unfold SD at h;split at h
  ·cases h
  ·exact ⟨_,by assumption⟩
  ·cases h
 have pM: ∀ {e:TypeId} {a:Addr} {l c:Nat} (W:World),P.underlying t=some (.slice e) -> (do eqGuard .eql t ox oy (.slice (some a) l c) (.slice none 0 0);binOp .eql t (.slice (some a) l c) (.slice none 0 0):Sem Value).run P W= .ok (.bool false) W:=by
  intro e a l c W hu;have h1:eqGuard .eql t ox oy (.slice (some a) l c) (.slice none 0 0)=pure ():=rfl;rw [h1]
  show (binOp .eql t (.slice (some a) l c) (.slice none 0 0)).run P W=_
  simp only [binOp];simp [run_equal_slice_nil W t e (some a) l c hu]
 have yA: ∀ {e:TypeId} {a:Addr} {l c:Nat} (W:World),P.underlying t=some (.slice e) -> (do eqGuard .neq t ox oy (.slice (some a) l c) (.slice none 0 0);binOp .neq t (.slice (some a) l c) (.slice none 0 0):Sem Value).run P W= .ok (.bool true) W:=by
  intro e a l c W hu;have h1:eqGuard .neq t ox oy (.slice (some a) l c) (.slice none 0 0)=pure ():=rfl;rw [h1]
  show (binOp .neq t (.slice (some a) l c) (.slice none 0 0)).run P W=_
  simp only [binOp];simp [run_equal_slice_nil W t e (some a) l c hu]
 unfold ZN at h;split at h
 ·split at h
  ·rename_i e;cases h;have e1:vx= .bool _:=hx;have e2:vy= .bool _:=hy;subst e1;subst e2;exact Yl.pure (fun W=>run_eql_bool W t _ _ (hb e)) rfl
  ·cases h
 ·split at h
  ·rename_i e;cases h;have e1:vx= .bool _:=hx;have e2:vy= .bool _:=hy;subst e1;subst e2;exact Yl.pure (fun W=>run_neq_bool W t _ _ (hb e)) rfl
  ·cases h
 ·split at h
  ·rename_i e;cases h;obtain ⟨e0,he⟩:=ck e;obtain ⟨ad,cap,rfl,h1,h2,h3⟩:=hx;obtain ⟨b,o,rfl,_⟩:=h3 0 hv;have e2:vy= .slice none 0 0:=hy;subst e2;exact Yl.pure (fun W=>pM W he) rfl
  ·cases h
 ·split at h
  ·rename_i e;cases h;obtain ⟨e0,he⟩:=ck e;obtain ⟨ad,cap,rfl,h1,h2,h3⟩:=hx;obtain ⟨b,o,rfl,_⟩:=h3 0 hv;have e2:vy= .slice none 0 0:=hy;subst e2;exact Yl.pure (fun W=>pM W he) rfl
  ·cases h
 ·split at h
  ·rename_i e;cases h;obtain ⟨e0,he⟩:=ck e;obtain ⟨ad,cap,rfl,h1,h2,h3⟩:=hx;obtain ⟨b,o,rfl,_⟩:=h3 0 hv;have e2:vy= .slice none 0 0:=hy;subst e2;exact Yl.pure (fun W=>yA W he) rfl
  ·cases h
 ·cases h;refine key hx hy ?_;exact Yl.pure (fun W=>by rw [binOp_shl,shift_shl _ _ _ _ hv.1 hv.2];rfl) rfl
 ·cases h;refine key hx hy ?_;exact Yl.pure (fun W=>by rw [binOp_shr,shift_shr _ _ _ _ hv.1 hv.2];rfl) rfl
 ·split at h
  ·rename_i e;subst e;cases h;exact key hx hy (Yl.pure (fun W=>by rw [binOp_quo,Op.intDiv,zAY hv];rfl) rfl)
  ·cases h
 ·split at h
  ·rename_i e;subst e;cases h;exact key hx hy (Yl.pure (fun W=>by rw [binOp_rem,Op.intDiv,zAY hv];rfl) rfl)
  ·cases h
 ·split at h
  ·rename_i e;subst e;exact key hx hy (vQ t h M)
  ·cases h
 ·cases h
theorem Hi {ρ':Operand -> Value}{o:Oper}{s:Sem Value}{M:Nat -> Prop}{d:DV}(he:execOp ρ' o=(do pure (.value (←s))))(h:Yl P N w M ρ s d): ∃ v,(∀ W,Keep N w W -> (execOp ρ' o).run P W= .ok (.value v) W)/\ AI M w d ρ v:=by
 obtain ⟨v,h1,h2⟩:=h;refine ⟨v,fun W hE=>?_,h2⟩;rw [he,zBx,h1 W hE];rfl
theorem zDP {s:TypeId}{f off sz:Nat}(h:Yx P s f=some (off,sz)): ∃ fs fd i,P.underlying s=some (.struct fs)/\ fs[f]? =some fd/\ fd.offset=off/\ P.info? fd.type=some i/\ i.size=sz/\ sz≠0:=by
 unfold Yx at h;split at h
 ·rename_i fs hs;split at h
  ·rename_i fd hf;split at h
   ·rename_i i hi;split at h
    ·cases h
    ·cases h;exact ⟨fs,fd,i,hs,hf,rfl,hi,rfl,by assumption⟩
   ·cases h
  ·cases h
 ·cases h
theorem aN {s:TypeId}{f off sz b o:Nat}(h:Yx P s f=some (off,sz))(W:World):(Instr.fieldAt s (.pointer (some ⟨b,o,none⟩)) f).run P W= .ok (.pointer (some ⟨b,o+off,none⟩)) W:=by
 obtain ⟨fs,fd,i,h1,h2,rfl,h4,rfl,h6⟩:=zDP h;unfold Instr.fieldAt;rw [zBx,zCY h1];simp only [Result.andThen,h2,Instr.sureAddr];simp only [zBx,zGl,Result.andThen,fieldPlace,J7 h4,zAY h6,Jt]
theorem zN {t:TypeId}{k:IntKind}(h:b7 P t=some k):P.underlying t=some (.int k):=by
 unfold b7 at h;split at h
 ·cases h;assumption
 ·cases h
theorem TU {t ty:TypeId}{e:TypeId}{ad:Option Addr}{n c:Nat}(h:P.underlying t=some (.slice e))(W:World):(Builtin.len_ #[t] ty #[.slice ad n c]).run P W= .ok (.int .i64 n) W:=by
 simp [Builtin.len_,zCY h,goInt]
theorem vM {t ty:TypeId}{s:ByteArray}(h:P.underlying t=some .string)(W:World):(Builtin.len_ #[t] ty #[.string s]).run P W= .ok (.int .i64 s.size) W:=by
 simp [Builtin.len_,zCY h,goInt]
theorem eX {M:Nat -> Prop}{ρ':Operand -> Value}{o:Oper}{c:Call}{b:Builtin}{d:DV}{s:Sem Value}(ho:o.op= .call c)(hc:c.callee= .builtin b) 
 (hb:builtin b c.argTypes o.type (c.args.map fun | .const _=>true | _=>false) (c.args.map ρ')=(do pure (.value (←s)))) (h:Yl P N w M ρ s d):
 ∃ v,(∀ W,Keep N w W -> (execOp ρ' o).run P W= .ok (.value v) W)/\ AI M w d ρ v:=by
 refine Hi (s:=s) ?_ h;rw [←hb];unfold execOp;rw [ho]
 show (resolve ρ' c o.type>>=fun d=>invoke d.target d.args)=_
 unfold resolve;rw [hc];rfl
theorem ye {M:Nat -> Prop}{t ty:TypeId}{x d:DV}{vc:Prop}{v:Value}(hx:AI M w x ρ v)(h:Xm P t x=some (d,vc)):Yl P N w M ρ (Builtin.len_ #[t] ty #[v]) d:=by
 unfold Xm at h;split at h
 ·rename_i e' hu;cases h;rw [show v=_ from hx];exact Yl.pure (fun W=>TU hu W) rfl
 ·rename_i e' l hu;cases h;obtain ⟨ad,cap,rfl,_⟩:=hx;exact Yl.pure (fun W=>TU hu W) rfl
 ·rename_i e' l hu;cases h;obtain ⟨ad,cap,rfl,_⟩:=hx;exact Yl.pure (fun W=>TU hu W) rfl
 ·rename_i e' m n f hu;cases h;obtain ⟨ad,cap,rfl,_⟩:=hx;exact Yl.pure (fun W=>TU hu W) rfl
 ·rename_i e' k m off n hu;cases h;obtain ⟨p,cap,_,rfl,_⟩:=hx;exact Yl.pure (fun W=>TU hu W) rfl
 ·rename_i s hu;cases h;rw [show v=_ from hx];exact Yl.pure (fun W=>vM hu W) rfl
 ·cases h
theorem iA {α:Type}{l:Array α}{x:α}(h:l.toList= [x]):l= #[x]:=by cases l;simp at h;rw [h]
theorem WK {α:Type}{l:Array α}{x y:α}(h:l.toList= [x,y]):l= #[x,y]:=by cases l;simp at h;rw [h]
theorem zEZ (R:AP P Γ N S ρ a w)(o:Oper){c:Call}{b:Builtin}{d:DV}{vc:Prop}(ho:o.op= .call c)(hc:c.callee= .builtin b)(h:ZJ P S b c.args.toList c.argTypes.toList=some (d,vc)):
 ∃ v,(∀ W,Keep N w W -> (execOp a.eval o).run P W= .ok (.value v) W)/\ AI (MS N S.h ρ) w d ρ v:=by
 have rep:=fun x=>BO R x
 unfold ZJ at h;split at h
 ·split at h
  ·rename_i x ha;split at h
   ·rename_i t ht;exact eX (s:=Builtin.len_ #[t] o.type #[a.eval x]) ho hc (by rw [iA ha,iA ht];simp [builtin]) (ye (rep x) h)
   ·cases h
  ·cases h
 ·split at h
  ·rename_i x y ha;have hx:=rep x;have hy:=rep y;unfold bS at h;split at h
   ·rename_i k n k' n' e1 e2;cases h;rw [e1] at hx;rw [e2] at hy;refine eX (s:=Builtin.max_ c.argTypes o.type #[a.eval x,a.eval y]) ho hc (by rw [WK ha];simp [builtin]) ?_;rw [show a.eval x=_ from hx,show a.eval y=_ from hy];exact Yl.pure (fun W=>by simp [Builtin.max_,Builtin.max2]) rfl
   ·cases h
  ·cases h
 ·split at h
  ·rename_i x y ha;have hx:=rep x;have hy:=rep y;unfold bR at h;split at h
   ·rename_i k n k' n' e1 e2;cases h;rw [e1] at hx;rw [e2] at hy;refine eX (s:=Builtin.min_ c.argTypes o.type #[a.eval x,a.eval y]) ho hc (by rw [WK ha];simp [builtin]) ?_;rw [show a.eval x=_ from hx,show a.eval y=_ from hy];exact Yl.pure (fun W=>by simp [Builtin.min_,Builtin.min2]) rfl
   ·cases h
  ·cases h
 ·cases h
theorem lB (R:AP P Γ N S ρ a w)(o:Oper){d:DV}{vc:Prop}(h:pop P S o.op=some (d,vc))(hv:vc):
 ∃ v,(∀ W,Keep N w W -> (execOp a.eval o).run P W= .ok (.value v) W)/\ AI (MS N S.h ρ) w d ρ v:=by
 have rep:=fun x=>BO R x
 unfold pop at h;split at h
 ·rename_i x ho;cases h;exact ⟨a.eval x,fun W _=>by unfold execOp;rw [ho];rfl,rep x⟩
 ·rename_i x ho;cases h;exact ⟨a.eval x,fun W _=>by unfold execOp;rw [ho];rfl,rep x⟩
 ·rename_i c x y ho;have hc:=rep c;split at h
  ·rename_i e;cases h;rw [e] at hc;exact ⟨a.eval x,fun W _=>by unfold execOp;rw [ho];simp only [show a.eval c= .bool true from hc];rfl,rep x⟩
  ·rename_i e;cases h;rw [e] at hc;exact ⟨a.eval y,fun W _=>by unfold execOp;rw [ho];simp only [show a.eval c= .bool false from hc];rfl,rep y⟩
  ·cases h
 ·rename_i t x ho;exact Hi (by unfold execOp;rw [ho]) (mW R (rep x) h hv)
 ·rename_i op t x y t' ho;exact Hi (by unfold execOp;rw [ho]) (zEh x y (rep x) (rep y) h hv)
 ·rename_i op t x ho;have hx:=rep x;refine Hi (s:=Op.unary op (a.eval x)) (by unfold execOp;rw [ho]) ?_;split at h
  ·rename_i b e;cases h;rw [e] at hx;rw [show a.eval x= .bool b from hx];exact Yl.pure (fun W=>rfl) rfl
  ·rename_i k n e;cases h;rw [e] at hx;rw [show a.eval x= .int k n from hx];exact Yl.pure (fun W=>rfl) rfl
  ·rename_i k n e;cases h;rw [e] at hx;rw [show a.eval x= .int k n from hx];exact Yl.pure (fun W=>rfl) rfl
  ·cases h
 ·rename_i ts td x ho;have hx:=rep x;split at h
  ·rename_i dd k k' n hs hd e;cases h;rw [e] at hx;refine Hi (s:=convert ts td (a.eval x)) (by unfold execOp;rw [ho]) ?_;rw [show a.eval x= .int k' n from hx];refine Yl.pure (v:=.int k (k.wrap n)) (fun W=>?_) rfl;simp [convert,zCY hs,zCY (zN hd),Conv.intToInt]
  ·cases h
 ·rename_i x ho;have hx:=rep x;split at h
  ·rename_i m f e;cases h;rw [e] at hx;obtain ⟨b,oo,hb,hr⟩:=Yp hx;exact ⟨_,fun W _=>by unfold execOp;rw [ho];simp only [hb];rfl,b,oo,rfl,hr⟩
  ·rename_i k j e;cases h;rw [e] at hx;obtain ⟨p,hp,hb⟩:=hx;exact ⟨_,fun W _=>by unfold execOp;rw [ho];simp only [hb];rfl,p,hp,rfl⟩
  ·rename_i k m i j e;cases h;rw [e] at hx;obtain ⟨p,hp,hb⟩:=hx;exact ⟨_,fun W _=>by unfold execOp;rw [ho];simp only [hb];rfl,p,hp,rfl⟩
  ·rename_i g m c e;cases h;rw [e] at hx;obtain ⟨lb,hb,hr⟩:=hx;exact ⟨_,fun W _=>by unfold execOp;rw [ho];simp only [hb];rfl,lb,rfl,hr⟩
  ·cases h
 ·rename_i st x f ho;have hx:=rep x;split at h
  ·rename_i off sz hf;refine Hi (s:=Instr.fieldAt st (a.eval x) f) (by unfold execOp;rw [ho]) ?_;split at h
   ·rename_i m g e;split at h
    ·cases h;rw [e] at hx;obtain ⟨b,oo,hb,hr⟩:=Yp hx;rw [hb];refine Yl.pure (fun W=>aN hf W) ⟨b,_,rfl,fun j hj=>?_⟩;obtain ⟨g1,u,g2,g3⟩:=hr (off+j) (by omega);exact ⟨g1,u,by rw [zCd];exact g2,IL hj g3⟩
    ·cases h
   ·rename_i k j e;cases h;rw [e] at hx;obtain ⟨p,hp,hb⟩:=hx;rw [hb];exact Yl.pure (fun W=>aN hf W) ⟨p,hp,by rw [zCd]⟩
   ·rename_i k m i j e;cases h;rw [e] at hx;obtain ⟨p,hp,hb⟩:=hx;rw [hb];exact Yl.pure (fun W=>aN hf W) ⟨p,hp,by rw [zCd,zCd]⟩
   ·cases h
  ·cases h
 ·rename_i t x i ho;have hi:=rep i;split at h
  ·rename_i k n e;rw [e] at hi;refine Hi (s:=Instr.indexAt t (a.eval x) (a.eval i)) (by unfold execOp;rw [ho]) ?_;rw [show a.eval i= .int k n from hi];exact zl R (rep x) h hv
  ·cases h
 ·rename_i x i ho;have hx:=rep x;split at h
  ·rename_i m f e;split at h
   ·rename_i hi;cases h;rw [e] at hx;obtain ⟨cs,hb,hs,hr⟩:=hx;obtain ⟨u,g1,g2⟩:=hr i hi;refine Hi (s:=Instr.extract (a.eval x) i) (by unfold execOp;rw [ho]) ?_;rw [hb];exact Yl.pure (fun W=>by simp [Instr.extract,g1]) g2
   ·cases h
  ·cases h
 ·rename_i g first c ho
  split at h
  ·rename_i hf;cases h;refine ⟨.func (.func g) #[] (c.map a.eval),fun W _=>?_,c.map a.eval,rfl,by simp,fun j hj=>?_⟩
   ·unfold execOp;rw [ho];have:first= #[]:=zGT hf
    subst this;simp [Instr.makeFunc]
   ·refine ⟨a.eval (c.getD j (.const undef)),by simp [hj],IL hj (rep _)⟩
  ·cases h
 ·rename_i c ho;split at h
  ·rename_i b hc;exact zEZ R o ho hc h
  ·cases h
 ·cases h
end
abbrev zAB:=@Option.bind_some
abbrev zAE:=@List.getElem?_eq_getElem
abbrev zBe:=@List.length_append
abbrev zBt:=@List.getElem?_map
abbrev zB1:=@List.length_replicate
abbrev zCA:=@Option.map_some
abbrev zCM:=@List.length_map
abbrev zCl:=@List.length_cons
abbrev zCm:=@Nat.mul_one
abbrev zDe:=@List.eq_nil_of_length_eq_zero
abbrev zEk:=@List.getElem_of_mem
abbrev zFZ:=@Int.le_refl
abbrev zGC:=@List.getElem?_range
abbrev zGF:=@Option.getD_some
abbrev zGI:=@Go.heap_alloc_new
abbrev zGM:=@Nat.div_lt_iff_lt_mul
abbrev zG7:=@List.flatMap_cons
abbrev zG8:=@List.size_toArray
abbrev zHR:=@Nat.le_of_eq
abbrev zHT:=@Nat.mod_lt
def JQ:DV -> Bool
 | .any=>false
 | .agg .. =>false
 | .tup .. =>false
 | .it _=>false
 | .mri .. =>false
 | _=>true
def Ji:DV -> Option (List DV)
 | .agg m f=>some ((List.range m).map f)
 | .any=>none
 | .tup .. =>none
 | .it _=>none
 | .mri .. =>none
 | d=>some [d]
def Qj:DV -> Bool
 | .int .. =>true
 | .bool _=>true
 | .str _=>true
 | .nils=>true
 | .ints _=>true
 | .bools _=>true
 | .sl .. =>true
 | _=>false
section
variable {P:Program} {Γ:Aj} {N:Nat -> Prop} {S:St} {ρ:List AE} {a:Act} {w:World}
theorem XZ {M:Nat -> Prop}{d:DV}{v:Value}(h:JQ d=true)(hr:AI M w d ρ v):v.oneCell'=true/\ v.cells= #[v]:=by
 have key:(∀ cs,v≠.agg cs) -> (∀ cs,v≠.tuple cs) -> v.oneCell'=true/\ v.cells= #[v]:=fun h1 h2=>by
  cases v <;> first | exact ⟨rfl,rfl⟩ | exact absurd rfl (h1 _) | exact absurd rfl (h2 _)
 cases d with
 | any=>cases h
 | agg m f=>cases h
 | tup m f=>cases h
 | nils=>exact key (fun cs e=>by rw [hr] at e;cases e) (fun cs e=>by rw [hr] at e;cases e)
 | int k n=>exact key (fun cs e=>by rw [hr] at e;cases e) (fun cs e=>by rw [hr] at e;cases e)
 | bool b=>exact key (fun cs e=>by rw [hr] at e;cases e) (fun cs e=>by rw [hr] at e;cases e)
 | str s=>exact key (fun cs e=>by rw [hr] at e;cases e) (fun cs e=>by rw [hr] at e;cases e)
 | ints l=>obtain ⟨_,_,rfl,_⟩:=hr;exact ⟨rfl,rfl⟩
 | bools l=>obtain ⟨_,_,rfl,_⟩:=hr;exact ⟨rfl,rfl⟩
 | sl m n f=>obtain ⟨_,_,rfl,_⟩:=hr;exact ⟨rfl,rfl⟩
 | fp m f=>obtain ⟨_,_,rfl,_⟩:=hr;exact ⟨rfl,rfl⟩
 | ref k j=>obtain ⟨_,_,rfl⟩:=hr;exact ⟨rfl,rfl⟩
 | msl k m off n=>obtain ⟨_,_,_,rfl,_⟩:=hr;exact ⟨rfl,rfl⟩
 | mp k m i j=>obtain ⟨_,_,rfl⟩:=hr;exact ⟨rfl,rfl⟩
 | fn g m c=>obtain ⟨_,rfl,_⟩:=hr;exact ⟨rfl,rfl⟩
 | it k=>cases h
 | yl l=>exact key (fun cs e=>by rw [hr] at e;cases e) (fun cs e=>by rw [hr] at e;cases e)
 | mse k m o n=>obtain ⟨_,_,_,_,rfl,_⟩:=hr;exact ⟨rfl,rfl⟩
 | mri k i=>cases h
 | cst u=>obtain ⟨rfl,hu⟩:=hr;cases v <;> first | exact ⟨rfl,rfl⟩ | (cases hu;done)
theorem Va {M:Nat -> Prop}{d:DV}{v:Value}{l:List DV}(h:Ji d=some l)(hr:AI M w d ρ v):v.cells.size=l.length/\ ∀ j,j<l.length -> ∃ u,v.cells[j]? =some u/\ AI M w (l.getD j .any) ρ u:=by
 have one:JQ d=true -> l= [d] -> v.cells.size=l.length/\ ∀ j,j<l.length -> ∃ u,v.cells[j]? =some u/\ AI M w (l.getD j .any) ρ u:=by
  intro h1 h2;subst h2;rw [(XZ h1 hr).2];refine ⟨rfl,fun j hj=>?_⟩;have:j=0:=by simpa using hj
  subst this;exact ⟨v,rfl,hr⟩
 cases d with
 | any=>cases h
 | tup m f=>cases h
 | it k=>cases h
 | yl l=>cases h;exact one rfl rfl
 | mse k m o n=>cases h;exact one rfl rfl
 | mri k i=>cases h
 | cst u=>exact one rfl (zAV h).symm
 | agg m f=>
  cases h;obtain ⟨cs,rfl,hs,hc⟩:=hr;refine ⟨by simpa [Value.cells] using hs,fun j hj=>?_⟩;have BM:j<m:=by simpa using hj
  obtain ⟨u,h1,h2⟩:=hc j BM;exact ⟨u,h1,by simpa [BM] using h2⟩
 | nils=>cases h;exact one rfl rfl
 | int k n=>cases h;exact one rfl rfl
 | bool b=>cases h;exact one rfl rfl
 | str s=>cases h;exact one rfl rfl
 | ints l=>cases h;exact one rfl rfl
 | bools l=>cases h;exact one rfl rfl
 | sl m n f=>cases h;exact one rfl rfl
 | fp m f=>cases h;exact one rfl rfl
 | ref k j=>cases h;exact one rfl rfl
 | msl k m off n=>cases h;exact one rfl rfl
 | mp k m i j=>cases h;exact one rfl rfl
 | fn g m c=>cases h;exact one rfl rfl
theorem ao {M:Nat -> Prop}{d:DV}{v:Value}(h:Qj d=true)(hr:AI M w d ρ v):AI M w d [] v:=by
 cases d <;> first | exact hr | (cases h;done)
structure B1 (P:Program)(Γ:Aj)(N:Nat -> Prop)(h:DH)(ρ:List AE)(w:World)(ext:Bool)(d:DV)(h':DH)(v:Value)(w':World):Prop where
 ex: ∃ ρ',Ag P Γ N h' ρ' w'/\ AI (MS N h' ρ') w' d ρ' v/\ Ap h ρ w h' ρ' w'/\ (∀ (k:Nat) (p:AE),ρ[k]? =some p -> ρ'[k]? =some p)
 ext:ext=true -> Am w w'
def BG (P:Program)(s:Sem Next)(w:World)(G:Value -> World -> Prop):Prop:= (∃ v w',s.run P w= .ok (.value v) w'/\ G v w')∨(∃ w',s.run P w= .ok .skip w'/\ G undef w')∨ (∃ f args w',s.run P w= .ok (.enter f args) w'/\ Calls P f args w' fun e Bu=>∃ v,e= .returned v/\ G v Bu)
theorem BG.value {G:Value -> World -> Prop}{ρ':Operand -> Value}{o:Oper}{s:Sem Value}{v:Value}{w':World}(he:execOp ρ' o=(do pure (.value (←s))))(h:s.run P w= .ok v w')(hG:G v w'):BG P (execOp ρ' o) w G:=
 .inl ⟨v,w',by rw [he,zBx,h];rfl,hG⟩
theorem BG.skip {G:Value -> World -> Prop}{ρ':Operand -> Value}{o:Oper}{s:Sem Unit}{w':World}(he:execOp ρ' o=(do s;pure .skip))(h:s.run P w= .ok () w')(hG:G undef w'):BG P (execOp ρ' o) w G:=
 .inr (.inl ⟨w',by rw [he,zBx,h];rfl,hG⟩)
def Ee (w:World)(room:Nat):AE:=⟨w.heap.size,0,room,undef,fun b=>b=w.heap.size⟩
theorem RY (H:Ag P Γ N S.h ρ w){cs:Array Value}{t:TypeId}{o:DO}{d:DV}{v:Value}{w1:World}(Uc:Am w w1/\ w1.heap.size=w.heap.size) 
 (ho: ∀ M ρ',BH (MS N S.h ρ) w ρ M (w1.alloc (.cells cs t)) ρ' -> Dr P M (w1.alloc (.cells cs t)) ρ' (Ee w cs.size) o)
 (hv: ∀ M ρ',ρ'[S.h.length]? =some (Ee w cs.size) -> AI M (w1.alloc (.cells cs t)) d ρ' v) (ext:Bool):
 B1 P Γ N S.h ρ w ext d (S.h++[some o]) v (w1.alloc (.cells cs t)):=by
 have hE:Am w (w1.alloc (.cells cs t)):=Uc.1.allocR _;have hf: ∀ b,(Ee w cs.size).foot b -> w.heap.size<=b:=fun b hb=>zHR (Eq.symm hb)
 have hb:(w1.alloc (.cells cs t)).heap[w.heap.size]? =some (.cells cs t (0,0)):=by rw [←Uc.2];exact zGI w1 _
 refine ⟨⟨ρ++[Ee w cs.size],H.snoc hE (fun b hx=>⟨hf b hx,.cells (c:=cs) (t:=t) (z:=(0,0)) (by rw [show b=w.heap.size from hx];exact hb)⟩) (ho _ _ (BH.snoc H hE hf)),?_,Ap.snoc H hE hf,fun k p hk=>EO hk⟩,fun _=>hE⟩;exact hv _ _ (by rw [←H.len];simp)
theorem OJ {cs:Array Value}{t:TypeId}{w1:World}(hs:w1.heap.size=w.heap.size){n:Nat}{R:Nat -> Value -> Prop}(hn:n<=cs.size)(hR: ∀ j,j<n -> ∃ u,cs[j]? =some u/\ R j u):AQ (w1.alloc (.cells cs t)) (Ee w cs.size) n R:=by
 refine ⟨rfl,cs,t,?_,by simpa [Ee] using hn,zBl _,fun j hj=>by simpa [Ee] using hR j hj⟩
 show (w1.alloc (.cells cs t)).heap[w.heap.size]? =_
 rw [←hs];exact zGI w1 _
theorem zEc (R:AP P Γ N S ρ a w){x:Operand}{t:TypeId}{l:List DV}(h:Ji (AT S.fr x)=some l)(o:Oper)(ho:o.op= .box t x)(ext:Bool):
 BG P (execOp a.eval o) w (B1 P Γ N S.h ρ w ext (.ref S.h.length 0) (S.h++[some (.cells l)])):=by
 obtain ⟨h1,h2⟩:=Va h (BO R x);refine BG.value (s:=Instr.box t (a.eval x)) (by unfold execOp;rw [ho]) (v:=.pointer (some ⟨w.heap.size,0,none⟩)) (w':=w.alloc (.cells (a.eval x).cells t)) ?_ ?_
 ·rfl
 ·refine RY (d:=.ref S.h.length 0) R.hr ⟨Am.refl w,rfl⟩ (fun M ρ' O=>?_) (fun M ρ' hp=>⟨_,hp,rfl⟩) ext;refine OJ rfl (by omega) fun j hj=>?_
  obtain ⟨u,g1,g2⟩:=h2 j hj;exact ⟨u,g1,g2.out _ O⟩
theorem zE8 (R:AP P Γ N S ρ a w){t:TypeId}{i:TypeInfo}{z:Value}(hi:P.info? t=some i)(hz:i.zero=some z)(o:Oper)(ho:o.op= .alloc t)(ext:Bool):
 BG P (execOp a.eval o) w (B1 P Γ N S.h ρ w ext (.ref S.h.length 0) (S.h++[some (.cells (z.cells.toList.map Gz))])):=by
 refine BG.value (s:=Instr.alloc t true (.tuple #[])) (by unfold execOp;rw [ho]) (v:=.pointer (some ⟨w.heap.size,0,none⟩)) (w':=w.alloc (.cells z.cells t)) ?_ ?_
 ·simp [Instr.alloc,zeroValue,typeInfo,hi,hz,newVar,newRow,newObj];rfl
 ·refine RY (d:=.ref S.h.length 0) R.hr ⟨Am.refl w,rfl⟩ (fun M ρ' O=>?_) (fun M ρ' hp=>⟨_,hp,rfl⟩) ext;refine OJ rfl (by simp) fun j hj=>?_
  have BM:j<z.cells.size:=by simpa using hj
  refine ⟨z.cells[j],by simp [BM],?_⟩;have:(z.cells.toList.map Gz).getD j .any=Gz z.cells[j]:=by simp [BM]
  rw [this];exact Xb _
def pJ:Value -> Bool
 | .bool false=>true
 | _=>false
def Za (z:Value):Bool:=decide (2<z.cells.size)&&z.cells.toList.all pJ
theorem zE9 (R:AP P Γ N S ρ a w){t:TypeId}{i:TypeInfo}{z:Value}(hi:P.info? t=some i)(hz:i.zero=some z)(hb:Za z=true)(o:Oper)(ho:o.op= .alloc t)(ext:Bool):
 BG P (execOp a.eval o) w (B1 P Γ N S.h ρ w ext (.mp S.h.length 1 0 0) (S.h++[some (.bools (List.replicate z.cells.size false))])):=by
 refine BG.value (s:=Instr.alloc t true (.tuple #[])) (by unfold execOp;rw [ho]) (v:=.pointer (some ⟨w.heap.size,0,none⟩)) (w':=w.alloc (.cells z.cells t)) ?_ ?_
 ·simp [Instr.alloc,zeroValue,typeInfo,hi,hz,newVar,newRow,newObj];rfl
 ·refine RY (d:=.mp S.h.length 1 0 0) R.hr ⟨Am.refl w,rfl⟩ (fun M ρ' O=>?_) (fun M ρ' hp=>⟨_,hp,rfl⟩) ext;refine OJ rfl (by simp) fun j hj=>?_
  have BM:j<z.cells.size:=by simpa using hj
  refine ⟨z.cells[j],by simp [BM],?_⟩;simp only [Za,zAO,zAX] at hb;have:=hb.2 z.cells[j] (by simp);unfold pJ at this;split at this
  ·rename_i e;rw [e];simp [BM]
  ·cases this
inductive EK where
 | ints
 | bools
 | gen (m:Nat)
def Kl (P:Program)(t:TypeId):Option (EK×TypeId×TypeInfo×Value):=match P.underlying t with
 | some (.slice e)=>match P.info? e with
  | some i=>match i.zero with
   | some z=>if i.size=0 then none else if z.cells.size≠i.size then none else match P.underlying e with
    | some (.int .i64)=>if i.size=1 then (match z with | .int .i64 0=>some (.ints,e,i,z) | _=>none) else none
    | some .bool=>if i.size=1 then (match z with | .bool false=>some (.bools,e,i,z) | _=>none) else none
    | _=>some (.gen i.size,e,i,z)
   | none=>none
  | none=>none
 | _=>none
def EK.cells:EK -> Nat
 | .ints=>1
 | .bools=>1
 | .gen m=>m
theorem VS {t:TypeId}{k:EK}{e:TypeId}{i:TypeInfo}{z:Value}(h:Kl P t=some (k,e,i,z)):P.underlying t=some (.slice e)/\ P.info? e=some i/\ i.zero=some z/\ i.size≠0/\ z.cells.size=i.size/\ k.cells=i.size/\
 (k= .ints -> z= .int .i64 0)/\ (k= .bools -> z= .bool false):=by
 unfold Kl at h
 repeat' (split at h)
 all_goals first
  | (cases h;done)
  | skip
 all_goals
  simp only [zCW,zDU] at h;obtain ⟨rfl,rfl,rfl,rfl⟩:=h;refine ⟨by assumption,by assumption,by assumption,by assumption,by simp_all,?_,?_,?_⟩
  ·simp_all [EK.cells]
  ·intro hk;first | rfl | cases hk
  ·intro hk;first | rfl | cases hk
theorem eF {s:Nat}(hs:0<s): ∀ (vs:List Value),(∀ v∈vs,v.cells.size=s) -> ∀ i j,i<vs.length -> j<s -> (vs.flatMap fun v=>v.cells.toList)[i*s+j]? =(vs[i]?).bind (fun v=>v.cells[j]?)
 | [],_,i,j,hi,_=>absurd hi (zBk i)
 | v::vs,hv,i,j,hi,hj=>by
  have Ij:v.cells.toList.length=s:=by simpa using hv v (by simp)
  rw [zG7];cases i with
  | zero=>rw [Nat.zero_mul,zBy,zBc (by omega)];simp
  | succ i=>
   rw [zBg (by rw [Ij,zG6];omega),Ij,show (i+1)*s+j-s=i*s+j by rw [zG6];omega];rw [eF hs vs (fun v h=>hv v (by simp [h])) i j (by simpa using hi) hj];simp
def G7:DV -> Int
 | .int _ n=>n
 | _=>0
def Vt:DV -> Bool
 | .bool b=>b
 | _=>false
def Ie:DV -> Bool
 | .int .i64 _=>true
 | _=>false
def bx:DV -> Bool
 | .bool _=>true
 | _=>false
def SC (k:EK)(ds:List DV):Option DO:=match k with
 | .ints=>if ds.all Ie then some (.ints (ds.map G7)) else none
 | .bools=>if ds.all bx then some (.bools (ds.map Vt)) else none
 | .gen m=>if ds.all fun d=>(match Ji d with | some l=>l.length==m&&l.all Qj | none=>false) then
  some (.arr m ds.length (fun i j=>match Ji (ds.getD i .any) with | some l=>l.getD j .any | none=>.any)) else none
theorem Xw {M:Nat -> Prop}{d:DV}{v:Value}(h:Ie d=true)(hr:AI M w d ρ v):v= .int .i64 (G7 d):=by
 unfold Ie at h;split at h
 ·exact hr
 ·cases h
theorem zL {M:Nat -> Prop}{d:DV}{v:Value}(h:bx d=true)(hr:AI M w d ρ v):v= .bool (Vt d):=by
 unfold bx at h;split at h
 ·exact hr
 ·cases h
theorem zEb {M:Nat -> Prop}{k:EK}{ds:List DV}{o:DO}{vs:List Value}(hk:0<k.cells)(h:SC k ds=some o)(hl:vs.length=ds.length)(hv: ∀ i,i<ds.length -> AI M w (ds.getD i .any) ρ (vs.getD i undef)):
 (∀ v∈vs,v.cells.size=k.cells)/\ ∀ M' (w':World) ρ',BH M w ρ M' w' ρ' -> ∀ (cs:Array Value) (t:TypeId) (p:AE),cs.toList=(vs.flatMap fun v=>v.cells.toList) -> AQ w' p (ds.length*k.cells) (fun j u=>cs[j]? =some u) -> Dr P M' w' ρ' p o:=by
 have one: ∀ {j:Nat},k.cells=1 -> j<ds.length*k.cells -> (∀ v∈vs,v.cells.size=k.cells) -> ∀ {u},(vs.flatMap fun v=>v.cells.toList)[j]? =some u -> (vs[j]?).bind (fun v=>v.cells[0]?)=some u:=fun {j} h1 hj hs {u} hu=>by
  rw [h1] at hj hs;have:=eF (s:=1) (by omega) vs hs j 0 (by omega) (by omega);rw [zCm,zF6] at this;rw [←this];exact hu
 have mem: ∀ v∈vs,∃ i,i<ds.length/\ v=vs.getD i undef/\ vs[i]? =some v:=fun v hv=>by
  obtain ⟨i,hi,rfl⟩:=zEk hv;exact ⟨i,by omega,by simp [hi],by simp [hi]⟩
 have e9: ∀ i,i<ds.length -> ds.getD i .any∈ds:=fun i hi=>by simp [hi]
 cases k with
 | ints=>
  simp only [SC] at h;split at h
  ·rename_i ha;cases h;have hI: ∀ i,i<ds.length -> vs.getD i undef= .int .i64 (G7 (ds.getD i .any)):=fun i hi=>Xw (zAX.1 ha _ (e9 i hi)) (hv i hi)
   have hs: ∀ v∈vs,v.cells.size=EK.ints.cells:=fun v PB=>by obtain ⟨i,hi,e,_⟩:=mem v PB;rw [e,hI i hi];rfl
   refine ⟨hs,fun M' w' ρ' O cs t p Do hr=>?_⟩;have hn:ds.length*EK.ints.cells=(ds.map G7).length:=by simp [EK.cells]
   rw [hn] at hr;refine AQ.out hr rfl fun j u hj hu=>?_
   have BM:j<ds.length:=by simpa using hj
   have h2:=one rfl (by simpa [EK.cells] using BM) hs (u:=u) (by rw [←Do];simpa using hu);rw [zAE (by omega)] at h2;have h3:=hI j BM;have h4:vs.getD j undef=vs[j]:=by simp [hl,BM]
   rw [h4] at h3;simp only [zAB,h3] at h2;have:u=Value.int .i64 (G7 (ds.getD j .any)):=by simpa [Value.cells] using h2.symm
   rw [this];simp [BM]
  ·cases h
 | bools=>
  simp only [SC] at h;split at h
  ·rename_i ha;cases h;have hI: ∀ i,i<ds.length -> vs.getD i undef= .bool (Vt (ds.getD i .any)):=fun i hi=>zL (zAX.1 ha _ (e9 i hi)) (hv i hi)
   have hs: ∀ v∈vs,v.cells.size=EK.bools.cells:=fun v PB=>by obtain ⟨i,hi,e,_⟩:=mem v PB;rw [e,hI i hi];rfl
   refine ⟨hs,fun M' w' ρ' O cs t p Do hr=>?_⟩;have hn:ds.length*EK.bools.cells=(ds.map Vt).length:=by simp [EK.cells]
   rw [hn] at hr;refine AQ.out hr rfl fun j u hj hu=>?_
   have BM:j<ds.length:=by simpa using hj
   have h2:=one rfl (by simpa [EK.cells] using BM) hs (u:=u) (by rw [←Do];simpa using hu);rw [zAE (by omega)] at h2;have h3:=hI j BM;have h4:vs.getD j undef=vs[j]:=by simp [hl,BM]
   rw [h4] at h3;simp only [zAB,h3] at h2;have:u=Value.bool (Vt (ds.getD j .any)):=by simpa [Value.cells] using h2.symm
   rw [this];simp [BM]
  ·cases h
 | gen m=>
  simp only [SC] at h;split at h
  ·rename_i ha;cases h;have hm:0<m:=hk
   have hI: ∀ i,i<ds.length -> ∃ l,Ji (ds.getD i .any)=some l/\ l.length=m/\ (∀ d∈l,Qj d=true):=fun i hi=>by
    have:=zAX.1 ha _ (e9 i hi);split at this
    ·rename_i l hl;simp only [zAO,zCR] at this;exact ⟨l,hl,this.1,fun d hd=>zAX.1 this.2 d hd⟩
    ·cases this
   have hs: ∀ v∈vs,v.cells.size=(EK.gen m).cells:=fun v PB=>by
    obtain ⟨i,hi,e,_⟩:=mem v PB;obtain ⟨l,h1,h2,_⟩:=hI i hi;rw [e,(Va h1 (hv i hi)).1,h2];rfl
   refine ⟨hs,fun M' w' ρ' O cs t p Do hr=>?_⟩;refine AQ.out hr rfl fun j u hj hu=>?_
   have hj0:j<ds.length*m:=hj;have hi:j/m<ds.length:=by rw [zGM hm];exact hj0
   have hc:j % m<m:=zHT _ hm;obtain ⟨l,h1,h2,h3⟩:=hI (j/m) hi;have h4:=eF (s:=m) hm vs hs (j/m) (j % m) (by omega) hc;rw [show j/m*m+j % m=j by rw [zF5];exact Nat.div_add_mod j m] at h4;obtain ⟨_,h5⟩:=Va h1 (hv (j/m) hi);obtain ⟨u',g1,g2⟩:=h5 (j % m) (by omega);have h6:vs.getD (j/m) undef=vs[j/m]'(by omega):=by simp [hl,hi]
   have AK:j/m<vs.length:=by omega
   rw [zAE AK] at h4;rw [h6] at g1
   have:u=u':=by
    have Bh:(vs.flatMap fun v=>v.cells.toList)[j]? =some u:=by rw [←Do];simpa using hu
    rw [h4] at Bh;simp only [zAB] at Bh;rw [g1] at Bh;exact (zAV Bh).symm
   subst this;simp only [h1];refine AI.out _ O.nil (ao (h3 _ ?_) g2);simp [h2,hc]
  ·cases h
theorem aT {cs:Array Value}{t:TypeId}{w1:World}(hs:w1.heap.size=w.heap.size){n:Nat}(hn:cs.size=n):AQ (w1.alloc (.cells cs t)) (Ee w n) n (fun j u=>cs[j]? =some u):=by
 subst hn;exact OJ hs (zBl _) fun j hj=>⟨cs[j],by simp [hj],by simp [hj]⟩
def Y4 (parts:List (Nat×Operand))(len:Nat):Bool:=parts.map (·.1)==List.range len
theorem zDp {parts:List (Nat×Operand)}{len:Nat}(h:Y4 parts len=true)(f:Operand -> Value):parts.length=len/\ (parts.map fun x=>(x.1,f x.2))=((parts.map fun x=>f x.2).zipIdx 0).map fun x=>(x.2,x.1):=by
 simp only [Y4,zCR] at h;have hl:parts.length=len:=by have:=congrArg List.length h;simpa using this
 refine ⟨hl,List.ext_getElem? fun i=>?_⟩
 by_cases hi:i<parts.length
 ·have h1:parts[i].1=i:=by
   have h2:=congrArg (fun l:List Nat=>l[i]?) h;have h3:(List.range len)[i]? =some i:=zGC (by omega);simp only [zBt,zAE hi,zCA,h3] at h2;exact zAV h2
  simp [hi,h1]
 ·rw [zCU (by simpa using hi),zCU (by simpa using hi)]
theorem zEa (R:AP P Γ N S ρ a w){t:TypeId}{len:Nat}{parts:Array (Nat×Operand)}{k:EK}{e:TypeId}{i:TypeInfo}{z:Value}{ob:DO}(hk:Kl P t=some (k,e,i,z))(hd:Y4 parts.toList len=true)(Af:len<=65536/\ k.cells<=64) 
 (hb:SC k (parts.toList.map fun x=>AT S.fr x.2)=some ob) (o:Oper) (ho:o.op= .buildSlice t len parts) (ext:Bool):
 BG P (execOp a.eval o) w (B1 P Γ N S.h ρ w ext (.msl S.h.length k.cells 0 len) (S.h++[some ob])):=by
 obtain ⟨hu,hi,hz,h0,Cl,Ei,_,_⟩:=VS hk;obtain ⟨EM,M3⟩:=zDp hd a.eval;have zBo:=Af.1;have zBn:=Af.2;have JV:0<k.cells:=by omega
 obtain ⟨hs,PG⟩:=zEb (w:=w) (M:=MS N S.h ρ) (ρ:=ρ) (vs:=parts.toList.map fun x=>a.eval x.2) JV hb (by simp) (fun j hj=>by
  have BM:j<parts.toList.length:=by simpa using hj
  have:=BO R parts.toList[j].2;simp only [u8,zBt,zAE BM,zCA,zGF];exact this)
 have GS:(parts.toList.map fun x=>a.eval x.2).length=len:=by simpa using EM
 have BF:((parts.toList.map fun x=>a.eval x.2).flatMap fun v=>v.cells.toList).toArray.size=len*k.cells:=by
  have: ∀ (l:List Value),(∀ v∈l,v.cells.size=k.cells) -> (l.flatMap fun v=>v.cells.toList).length=l.length*k.cells:=by
   intro l
   induction l with
   | nil=>intro _;simp
   | cons v l ih=>intro h;rw [zG7,zBe,ih (fun v hv=>h v (by simp [hv])),zCl,zG6];have:=h v (by simp);simp [this];omega
  simp only [zG8];rw [this _ hs,GS]
 refine BG.value (s:=Instr.buildSlice t len (parts.map fun (i,x)=>(i,a.eval x))) (by unfold execOp;rw [ho]) (v:=.slice (some ⟨w.heap.size,0,none⟩) len len) (w':=w.alloc (.cells ((parts.toList.map fun x=>a.eval x.2).flatMap fun v=>v.cells.toList).toArray e)) ?_ ?_
 ·have zAJ: ¬ len*i.size>2 ^ 24:=by
   have:len*i.size<=65536*64:=Nat.mul_le_mul zBo (by omega);omega
  by_cases dS:len=0
  ·subst dS
   have hp:parts= #[]:=by
    have:parts.toList= []:=zDe EM;cases parts;simp at this;simp [this]
   subst hp;have EL:Array.map (fun (x:Nat)=>(default:Value)) (Array.range 0)= #[]:=by simp [Array.range_zero']
   simp [Instr.buildSlice,zCY hu,sizeOf,typeInfo,hi,newRow,Instr.fill,Array.range_zero']
  ·have hp0: ¬ len*i.size=0:=by rw [Nat.mul_eq_zero];omega
   refine run_buildSlice w t e len _ _ i z hu hi hz zAJ hp0 ?_;have e1:(parts.map fun (i,x)=>(i,a.eval x)).toList=parts.toList.map fun x=>(x.1,a.eval x.2):=by simp
   rw [e1,M3];exact Great.fill_whole (s:=i.size) (by omega) _ _ (fun v hv=>by rw [hs v hv,Ei]) (by rw [GS,Array.size_map,Array.size_range])
 ·have:=RY (d:=.msl S.h.length k.cells 0 len) (o:=ob) (v:=.slice (some ⟨w.heap.size,0,none⟩) len len) (cs:=((parts.toList.map fun x=>a.eval x.2).flatMap fun v=>v.cells.toList).toArray) (t:=e) R.hr ⟨Am.refl w,rfl⟩
   (fun M ρ' O=>PG _ _ _ O ((parts.toList.map fun x=>a.eval x.2).flatMap fun v=>v.cells.toList).toArray e _ rfl (by rw [BF,zCM,EM];exact aT (w:=w) (w1:=w) (t:=e) rfl BF))
   (fun M ρ' hp=>⟨_,len,hp,by simp [Ee],zBl _,by unfold LB;omega,by simp only [Ee];rw [BF];omega⟩) ext
  exact this
def mR (k:EK)(n:Nat)(z:Value):DO:=match k with
 | .ints=>.ints (List.replicate n 0)
 | .bools=>.bools (List.replicate n false)
 | .gen m=>.arr m n (fun _ j=>(z.cells.toList.map Gz).getD j .any)
theorem yK (R:AP P Γ N S ρ a w){t:TypeId}{x y:Operand}{k:EK}{e:TypeId}{i:TypeInfo}{z:Value}{kx ky:IntKind}{n:Int}(hk:Kl P t=some (k,e,i,z))(hx:AT S.fr x= .int kx n)(hy:AT S.fr y= .int ky n) 
 (hn:0<=n/\ n<=1000000000000) (Dx:i.bytes<=128) (o:Oper) (ho:o.op= .makeSlice t x y) (ext:Bool):
 BG P (execOp a.eval o) w (B1 P Γ N S.h ρ w ext (.msl S.h.length k.cells 0 n.toNat) (S.h++[some (mR k n.toNat z)])):=by
 obtain ⟨hu,hi,hz,h0,Cl,Ei,zm,cJ⟩:=VS hk;have HD:=hn.1;have HB:=hn.2;have rx:=BO R x;have ry:=BO R y;rw [hx] at rx;rw [hy] at ry;have Do:(madeCells z.cells (n.toNat*i.size)).size=n.toNat*k.cells:=by rw [size_madeCells,Ei]
 refine BG.value (s:=Instr.makeSlice t (a.eval x) (a.eval y)) (by unfold execOp;rw [ho]) (v:=.slice (some ⟨w.heap.size,0,none⟩) n.toNat n.toNat) (w':=w.alloc (.cells (madeCells z.cells (n.toNat*i.size)) e)) ?_ ?_
 ·rw [show a.eval x=_ from rx,show a.eval y=_ from ry];refine run_make w t e i z hu hi hz kx ky n n HD (zFZ _) ?_ (by omega);have:(i.bytes:Int)*n<=128*1000000000000:=Int.mul_le_mul (by omega) HB HD (by omega);omega
 ·refine RY (d:=.msl S.h.length k.cells 0 n.toNat) R.hr ⟨Am.refl w,rfl⟩ (fun M ρ' O=>?_) (fun M ρ' hp=>⟨_,n.toNat,hp,by simp [Ee],zBl _,by unfold LB;omega,by simp only [Ee];rw [Do];omega⟩) ext;have hr:=aT (w:=w) (w1:=w) (t:=e) rfl Do;rw [Do]
  have DP: ∀ j u,j<n.toNat*k.cells -> (madeCells z.cells (n.toNat*i.size))[j]? =some u -> z.cells[j % z.cells.size]? =some u:=by
   intro j u hj Bh;have AK:j % z.cells.size<z.cells.size:=zHT _ (by omega);simp only [madeCells] at Bh;have BM:j<n.toNat*i.size:=by rw [←Ei];exact hj
   simp [BM] at Bh;rw [←Bh];simp [AK]
  cases k with
  | ints=>
   have UZ:=zm rfl;subst UZ
   show AQ _ _ (List.replicate n.toNat (0:Int)).length _
   rw [zB1];simp only [EK.cells,zCm] at hr DP ⊢;refine AQ.out hr rfl fun j u hj Bh=>?_
   have:=DP j u hj Bh;have e1:j % (Value.cells (.int .i64 0)).size=0:=by simp [Value.cells,Nat.mod_one]
   rw [e1] at this;simp [Value.cells] at this;rw [←this];simp [hj]
  | bools=>
   have UZ:=cJ rfl;subst UZ
   show AQ _ _ (List.replicate n.toNat false).length _
   rw [zB1];simp only [EK.cells,zCm] at hr DP ⊢;refine AQ.out hr rfl fun j u hj Bh=>?_
   have:=DP j u hj Bh;have e1:j % (Value.cells (.bool false)).size=0:=by simp [Value.cells,Nat.mod_one]
   rw [e1] at this;simp [Value.cells] at this;rw [←this];simp [hj]
  | gen m=>
   refine AQ.out hr rfl fun j u hj Bh=>?_
   have h1:=DP j u hj Bh;have hm:m=z.cells.size:=by rw [Cl];exact Ei
   have h2:j % m<z.cells.toList.length:=by rw [hm];simpa using zHT _ (by omega)
   have h3:(z.cells.toList.map Gz).getD (j % m) .any=Gz u:=by
    rw [u8,zBt];have:z.cells.toList[j % m]? =some u:=by rw [←h1,hm];simp
    rw [this];rfl
   show AI M _ ((z.cells.toList.map Gz).getD (j % m) .any) [] u
   rw [h3];exact Xb u
end
abbrev zFe:=@List.nil_append
abbrev zFv:=@List.foldl_cons
abbrev zFz:=@Array.getElem?_append_left
abbrev zF8:=@List.length_range
abbrev zGN:=@Array.getElem?_modify
abbrev zHF:=@List.getElem?_toArray
section
variable {P:Program} {Γ:Aj} {N:Nat -> Prop} {S:St} {ρ:List AE} {a:Act} {w:World} {h:DH}
theorem RP (b:Nat)(t:TypeId)(z:Nat×Nat): ∀ (vs:List Value) (o:Nat) (w:World) (FB:Array Value),w.heap[b]? =some (.cells FB t z) -> o+vs.length<=FB.size ->
 ∃ Vb,(w.setCells b o vs).heap[b]? =some (.cells Vb t z)/\ Vb.size=FB.size/\ ∀ k,Vb[k]? =if o<=k/\ k<o+vs.length then vs[k-o]? else FB[k]?
 | [],o,w,FB,hb,_=>⟨FB,hb,rfl,fun k=>by rw [zAY];simp only [zFd];omega⟩
 | v::vs,o,w,FB,hb,hl=>by
  have Eh:o+(vs.length+1)<=FB.size:=hl;obtain ⟨Vb,h1,h2,h3⟩:=RP b t z vs (o+1) (w.setCell ⟨b,o,none⟩ v) (FB.setIfInBounds o v) (by simp [World.setCell,zGN,hb]) (by simp;omega);refine ⟨Vb,h1,by simpa using h2,fun k=>?_⟩;rw [h3 k,zCl]
  by_cases e:k=o
  ·subst e;rw [zAY (by omega),zAA (by omega),zCk,zAA rfl,zAA (by omega),Nat.sub_self];rfl
  ·by_cases e2:o+1<=k/\ k<o+1+vs.length
   ·rw [zAA e2,zAA (by omega),show k-o=(k-(o+1))+1 by omega];simp
   ·rw [zAY e2,zAY (by omega)];rw [zCk,zAY (by omega)]
theorem QM (b:Nat): ∀ (vs:List Value) (o:Nat) (w:World),AN (fun k=>k=b) w (w.setCells b o vs)
 | [],_,w=>AN.refl _ w
 | v::vs,o,w=>((AN.refl (fun k=>k=b) w).setCell (p:=⟨b,o,none⟩) (fun _=>rfl) v).trans (QM b vs (o+1) (w.setCell ⟨b,o,none⟩ v))
theorem AQ.writes {p:AE}{n:Nat}{R R':Nat -> Value -> Prop}(hr:AQ w p n R){o:Nat}{vs:List Value}(hl:o+vs.length<=n)(h1: ∀ i v,vs[i]? =some v -> R' (o+i) v) 
 (h2: ∀ i u,i<n -> (i<o∨o+vs.length<=i) -> R i u -> R' i u):AQ (w.setCells p.blk (p.off+o) vs) p n R':=by
 obtain ⟨g1,cs,t,g2,g3,g4,g5⟩:=hr;obtain ⟨El,e1,e2,e3⟩:=RP p.blk t (0,0) vs (p.off+o) w cs g2 (by omega);refine ⟨g1,El,t,e1,by omega,by omega,fun j hj=>?_⟩;rw [e3]
 by_cases e:p.off+o<=p.off+j/\ p.off+j<p.off+o+vs.length
 ·rw [zAA e];have hi:p.off+j-(p.off+o)<vs.length:=by omega
  refine ⟨vs[p.off+j-(p.off+o)],by simp [hi],?_⟩;have:=h1 (p.off+j-(p.off+o)) _ (by simp [hi]:vs[p.off+j-(p.off+o)]? =some vs[p.off+j-(p.off+o)])
  rwa [show o+(p.off+j-(p.off+o))=j by omega] at this
 ·rw [zAY e];obtain ⟨u,e4,e5⟩:=g5 j hj;exact ⟨u,e4,h2 j u hj (by omega) e5⟩
def N5 (l:List DV)(o:Nat)(ds:List DV):List DV:=(ds.zipIdx).foldl (fun cs x=>cs.set (o+x.2) x.1) l
theorem Z6: ∀ (ds:List DV) (k o:Nat) (l:List DV),((ds.zipIdx k).foldl (fun cs x=>cs.set (o+x.2) x.1) l).length=l.length/\
 ∀ j,j<l.length -> ((ds.zipIdx k).foldl (fun cs x=>cs.set (o+x.2) x.1) l).getD j .any=if o+k<=j/\ j<o+k+ds.length then ds.getD (j-(o+k)) .any else l.getD j .any
 | [],k,o,l=>⟨rfl,fun j _=>by
  rw [zAY]
  ·rfl
  ·simp only [zFd];omega⟩
 | d::ds,k,o,l=>by
  obtain ⟨h1,h2⟩:=Z6 ds (k+1) o (l.set (o+k) d);rw [List.zipIdx_cons,zFv];refine ⟨by rw [h1];simp,fun j hj=>?_⟩;rw [h2 j (by simpa using hj),zCl]
  by_cases e:j=o+k
  ·subst e;rw [zAY (by omega),zAA (by omega)];simp [hj]
  ·by_cases e2:o+(k+1)<=j/\ j<o+(k+1)+ds.length
   ·rw [zAA e2,zAA (by omega),show j-(o+k)=(j-(o+(k+1)))+1 by omega];simp
   ·rw [zAY e2,zAY (by omega)];simp only [u8,zB8];rw [zAY (by omega)]
theorem Z5 (l:List DV)(o:Nat)(ds:List DV):(N5 l o ds).length=l.length:=(Z6 ds 0 o l).1
theorem Z7 (l:List DV)(o:Nat)(ds:List DV){j:Nat}(hj:j<l.length):(N5 l o ds).getD j .any=if o<=j/\ j<o+ds.length then ds.getD (j-o) .any else l.getD j .any:=by
 have:=(Z6 ds 0 o l).2 j hj;simpa [N5] using this
def Nx (P:Program)(S:St)(t:TypeId)(x d:DV):Option (DH×Prop):=match x with
 | .ref k j=>match S.h[k]? with
  | some (some (.cells l))=>match Ji d with
   | some ds=>if P.info? t |>.any (fun i=>i.size==ds.length) then (if ds.all JQ&&decide (j+ds.length<=l.length) then some (S.h.set k (some (.cells (N5 l j ds))),True) else none) else none
   | none=>none
  | _=>none
 | .mp k m i j=>if P.info? t |>.any (fun i=>i.size==1) then match S.h[k]? with
  | some (some (.ints l))=>match d with
   | .int .i64 n=>if m==1&&j==0 then some (S.h.set k (some (.ints (l.set i n))),i<l.length) else none
   | _=>none
  | some (some (.bools l))=>match d with
   | .bool b=>if m==1&&j==0 then some (S.h.set k (some (.bools (l.set i b))),i<l.length) else none
   | _=>none
  | some (some (.arr m' n f))=>if Qj d&&(m==m')&&decide (j<m) then some (S.h.set k (some (.arr m n (fun i' j'=>if i'=i/\ j'=j then d else f i' j'))),i<n) else none
  | _=>none
  else none
 | _=>none
theorem wl {d:DV}(h:Qj d=true):JQ d=true:=by cases d <;> first | rfl | cases h
theorem aL {t:TypeId}{i:TypeInfo}{b o:Nat}{v:Value}(hi:P.info? t=some i)(hs:v.cells.size=i.size)(hc: ∀ j,j<v.cells.size -> (w.cell? ⟨b,o+j,none⟩).isSome=true)(hf: ∀ j,w.frozen? ⟨b,j,none⟩=false)(h1: ∀ u∈v.cells.toList,u.oneCell'=true):
 (Instr.storeAt t (.pointer (some ⟨b,o,none⟩)) v).run P w= .ok () (w.setCells b o v.cells.toList):=by
 have hst:=run_storeCells_cells (P:=P) b o v.cells.toList 0 w (by simpa using hc) (by simpa using fun j _=>hf _) h1;simp only [zF6] at hst;simp [Instr.storeAt,Instr.sureAddr,storeVar,J7 hi,hs,hst]
theorem Yh {α:Type}{l:List α}{i:Nat}{x d:α}(h:l[i]? =some x):l.getD i d=x:=by rw [u8,h];rfl
theorem WU (R:AP P Γ N S ρ a w){k:Nat}{ob ob':DO}{p:AE}(hk:S.h[k]? =some (some ob))(hp:ρ[k]? =some p){n:Nat}{Rw:Nat -> Value -> Prop}(hr:AQ w p n Rw){o':Nat}{v:Value}{t:TypeId}{i:TypeInfo} 
 (hi:P.info? t=some i) (hs:v.cells.size=i.size) (hl:o'+v.cells.size<=n) (h1: ∀ u∈v.cells.toList,u.oneCell'=true)
 (Im: ∀ M ρ' w',BH (MS N S.h ρ) w ρ M w' ρ' -> w'=w.setCells p.blk (p.off+o') v.cells.toList -> Dr P M w' ρ' p ob')
 (o:Oper) (tx x:Operand) (ho:o.op= .store t tx x) (hx:a.eval tx= .pointer (some ⟨p.blk,p.off+o',none⟩)) (hv:a.eval x=v):
 BG P (execOp a.eval o) w (B1 P Γ N S.h ρ w false .any (S.h.set k (some ob'))):=by
 have FK:p.foot=fun b=>b=p.blk:=hr.1
 have hu:AN p.foot w (w.setCells p.blk (p.off+o') v.cells.toList):=by rw [FK];exact QM _ _ _ _
 refine BG.skip (s:=Instr.storeAt t (a.eval tx) (a.eval x)) (by unfold execOp;rw [ho]) (w':=w.setCells p.blk (p.off+o') v.cells.toList) ?_ ?_
 ·rw [hx,hv];refine aL hi hs (fun j hj=>?_) (fun j=>hr.frozen j) h1;obtain ⟨u,hc,_⟩:=hr.cell (j:=o'+j) (by omega);rw [zCd,hc];rfl
 ·have DP: ∀ b,p.foot b -> Ds (w.setCells p.blk (p.off+o') v.cells.toList) b:=fun b hb=>by
   rw [FK] at hb;obtain ⟨_,cs,t',g2,g3,_⟩:=hr;obtain ⟨c,e1,_⟩:=RP p.blk t' (0,0) v.cells.toList (p.off+o') w cs g2 (by simp;omega);exact .cells (c:=c) (t:=t') (z:=(0,0)) (by rw [show b=p.blk from hb];exact e1)
  exact ⟨⟨ρ,R.hr.write hk hp hu DP (Im _ _ _ (BH.write trivial hk hp hu) rfl),trivial,Ap.write hk hp hu,fun _ _ h=>h⟩,fun h=>by cases h⟩
theorem jC (R:AP P Γ N S ρ a w){t:TypeId}{tx x:Operand}{h':DH}{vc:Prop}(hd:Nx P S t (AT S.fr tx) (AT S.fr x)=some (h',vc))(hv:vc)(o:Oper)(ho:o.op= .store t tx x):
 BG P (execOp a.eval o) w (B1 P Γ N S.h ρ w false .any h'):=by
 have rx:=BO R tx;have rv:=BO R x;unfold Nx at hd;split at hd
 ·rename_i k j e;rw [e] at rx;obtain ⟨p,hp,hx⟩:=rx;split at hd
  ·rename_i l hk;obtain ⟨p',A5,hr⟩:=R.hr.obj k _ hk;have e:p'=p:=zAV (A5.symm.trans hp);subst e;split at hd
   ·rename_i ds Ey;split at hd
    ·rename_i Av;split at hd
     ·rename_i hc;cases hd;simp only [zAO,zCJ] at hc;cases hi:P.info? t with
      | none=>rw [hi] at Av;cases Av
      | some i=>
       rw [hi] at Av;have Q6:i.size=ds.length:=by simpa using Av
       obtain ⟨c1,c2⟩:=Va Ey rv
       have zBb: ∀ u∈(a.eval x).cells.toList,u.oneCell'=true:=fun u hu=>by
        obtain ⟨q,hq,rfl⟩:=zEk hu;have PI:q<ds.length:=by rw [←c1];simpa using hq
        obtain ⟨u,g1,g2⟩:=c2 q PI;have h3:=zAX.1 hc.1 (ds.getD q .any) (by simp [PI]);have h4:=(XZ h3 g2).1
        have:(a.eval x).cells.toList[q]=u:=by
         have Hf:q<(a.eval x).cells.size:=by simpa using hq
         rw [zCV Hf] at g1;simpa using zAV g1
        rw [this];exact h4
       refine WU R hk hp hr hi (by omega) (o':=j) (by omega) zBb (fun M ρ' w' O PA=>?_) o tx x ho hx rfl;subst PA
       show AQ _ _ (N5 l j ds).length _
       rw [Z5];refine AQ.writes hr (by simp;omega) (fun q v hq=>?_) (fun q u hq Hf hu=>?_)
       ·have RD:q<(a.eval x).cells.size:=by have:=(zAW.1 hq).1;simpa using this
        have PI:q<ds.length:=by omega
        obtain ⟨u,g1,g2⟩:=c2 q PI
        have:u=v:=by
         have:(a.eval x).cells[q]? =some v:=by simpa using hq
         rw [this] at g1;exact (zAV g1).symm
        subst this;rw [Z7 l j ds (by omega),zAA (by omega),show j+q-j=q by omega];exact g2.out _ O
       ·rw [Z7 l j ds hq,zAY (by simp at Hf;omega)];exact hu.out _ O
     ·cases hd
    ·cases hd
   ·cases hd
  ·cases hd
 ·rename_i k m i j e;rw [e] at rx;obtain ⟨p,hp,hx⟩:=rx;split at hd
  ·rename_i Av;cases hi:P.info? t with
   | none=>rw [hi] at Av;cases Av
   | some ti=>
    rw [hi] at Av;have Q6:ti.size=1:=by simpa using Av
    split at hd
    ·rename_i l hk;obtain ⟨p',A5,hr⟩:=R.hr.obj k _ hk;have e:p'=p:=zAV (A5.symm.trans hp);subst e;split at hd
     ·rename_i n ed;split at hd
      ·rename_i hm;cases hd;simp only [zAO,zCR] at hm;obtain ⟨rfl,rfl⟩:=hm;rw [ed] at rv;have aJ:a.eval x= .int .i64 n:=rv;refine WU R hk hp hr hi (v:=.int .i64 n) (by rw [Q6];rfl) (o':=i) (by simp [Value.cells];omega) (by simp [Value.cells,Value.oneCell']) (fun M ρ' w' O PA=>?_) o tx x ho (by simpa using hx) aJ;subst PA
       show AQ _ _ (l.set i n).length _
       rw [zCG];refine AQ.writes hr (by simp [Value.cells];omega) (fun q v hq=>?_) (fun q u hq Hf hu=>?_)
       ·have:q=0:=by have:=(zAW.1 hq).1;simpa [Value.cells] using this
        subst this;have:v= .int .i64 n:=by simpa [Value.cells] using hq.symm
        rw [this];have Dv:i<l.length:=hv;simp [Dv]
       ·rw [hu];simp only [Value.cells,zCl,zFd] at Hf;rw [u8,u8,zB8,zAY (by simp at Hf;omega)]
      ·cases hd
     ·cases hd
    ·rename_i l hk;obtain ⟨p',A5,hr⟩:=R.hr.obj k _ hk;have e:p'=p:=zAV (A5.symm.trans hp);subst e;split at hd
     ·rename_i n ed;split at hd
      ·rename_i hm;cases hd;simp only [zAO,zCR] at hm;obtain ⟨rfl,rfl⟩:=hm;rw [ed] at rv;have aJ:a.eval x= .bool n:=rv;refine WU R hk hp hr hi (v:=.bool n) (by rw [Q6];rfl) (o':=i) (by simp [Value.cells];omega) (by simp [Value.cells,Value.oneCell']) (fun M ρ' w' O PA=>?_) o tx x ho (by simpa using hx) aJ;subst PA
       show AQ _ _ (l.set i n).length _
       rw [zCG];refine AQ.writes hr (by simp [Value.cells];omega) (fun q v hq=>?_) (fun q u hq Hf hu=>?_)
       ·have:q=0:=by have:=(zAW.1 hq).1;simpa [Value.cells] using this
        subst this;have:v= .bool n:=by simpa [Value.cells] using hq.symm
        rw [this];have Dv:i<l.length:=hv;simp [Dv]
       ·rw [hu];simp only [Value.cells,zCl,zFd] at Hf;rw [u8,u8,zB8,zAY (by simp at Hf;omega)]
      ·cases hd
     ·cases hd
    ·rename_i m' n f hk;obtain ⟨p',A5,hr⟩:=R.hr.obj k _ hk;have e:p'=p:=zAV (A5.symm.trans hp);subst e;split at hd
     ·rename_i hm;cases hd;simp only [zAO,zCR,zCJ] at hm;obtain ⟨⟨EM,rfl⟩,hj⟩:=hm;have Dv:i<n:=hv;obtain ⟨o1,o2⟩:=XZ (wl EM) rv
      have cD:i*m+j<n*m:=by
       have:(i+1)*m<=n*m:=zFn _ Dv;rw [zG6] at this;omega
      have AC:0<m:=by omega
      refine WU R hk hp hr hi (v:=a.eval x) (by rw [Q6,o2];rfl) (o':=i*m+j) (by rw [o2];simp;omega) (by rw [o2];simp [o1]) (fun M ρ' w' O PA=>?_) o tx x ho hx rfl;subst PA;refine AQ.writes hr (by rw [o2];simp;omega) (fun q v hq=>?_) (fun q u hq Hf hu=>?_)
      ·rw [o2] at hq;have:q=0:=by have:=(zAW.1 hq).1;simpa using this
       subst this;have:v=a.eval x:=by simpa using hq.symm
       rw [this,zF6];have e1:(i*m+j)/m=i:=by rw [zF5,Nat.mul_add_div AC,Nat.div_eq_of_lt hj,zF6]
       have e2:(i*m+j) % m=j:=by rw [zF5,Nat.mul_add_mod,zGk hj]
       show AI M _ (if (i*m+j)/m=i/\ (i*m+j) % m=j then AT S.fr x else f ((i*m+j)/m) ((i*m+j) % m)) [] _
       rw [zAA ⟨e1,e2⟩];exact AI.out _ O.nil (ao EM rv)
      ·rw [o2] at Hf;simp at Hf
       have: ¬ (q/m=i/\ q % m=j):=fun ⟨e1,e2⟩=>by
        have:=Nat.div_add_mod q m;rw [e1,e2,zF5] at this;omega
       show AI M _ (if q/m=i/\ q % m=j then AT S.fr x else f (q/m) (q % m)) [] _
       rw [zAY this];exact AI.out _ O.nil hu
     ·cases hd
    ·cases hd
  ·cases hd
 ·cases hd
theorem MO.kill {k:Nat}{b:Nat}(hb:MO (h.set k none) ρ b):MO h ρ b:=MO.unset hb
theorem GW {k i:Nat}{o:DO}(hi:(h.set k none)[i]? =some (some o)):i≠k/\ h[i]? =some (some o):=by
 rw [zB8] at hi
 by_cases e:k=i
 ·rw [zAA e] at hi;split at hi <;> cases hi
 ·rw [zAY e] at hi;exact ⟨zGi e,hi⟩
theorem Ag.kill (H:Ag P Γ N h ρ w)(k:Nat):Ag P Γ N (h.set k none) ρ w:=by
 have O:BH (MS N h ρ) w ρ (MS N (h.set k none) ρ) w ρ:=⟨fun _ _ _ _=>rfl,fun b hb=>.inl (hb.imp id MO.kill),fun _ _ h=>h⟩;refine ⟨by simp [H.len],fun i o hi=>?_,fun i o p b h1 h2 h3=>H.cel i o p b (GW h1).2 h2 h3,fun i i' o o' p p' b AR h1 h2 h3 h4 h5 h6=>H.dis i i' o o' p p' b AR (GW h1).2 (GW h2).2 h3 h4 h5 h6,H.nlt,H.gi⟩;obtain ⟨p,hp,hr⟩:=H.obj i o (GW hi).2;exact ⟨p,hp,hr.out O (S:=fun _=>False) (AN.refl _ w) (fun _ h=>h.elim) (fun _ _ _ h=>h)⟩
theorem BH.kill (k:Nat):BH (MS N h ρ) w ρ (MS N (h.set k none) ρ) w ρ:=⟨fun _ _ _ _=>rfl,fun b hb=>.inl (hb.imp id MO.kill),fun _ _ h=>h⟩
theorem Ap.kill (k:Nat):Ap h ρ w (h.set k none) ρ w:=⟨AN.refl _ w,fun b hb=>.inl (MO.kill hb)⟩
theorem Ag.regrow (H:Ag P Γ N h ρ w){w':World}{k:Nat}{o o':DO}{p p':AE}(hk:h[k]? =some (some o))(hp:ρ[k]? =some p)(hu:AN p.foot w w')(hf: ∀ b,p'.foot b -> (p.foot b∨w.heap.size<=b)/\ Ds w' b) 
 (ho:Dr P (MS N (h.set k none++[some o']) (ρ++[p'])) w' (ρ++[p']) p' o'):
 Ag P Γ N (h.set k none++[some o']) (ρ++[p']) w'/\ Ap h ρ w (h.set k none++[some o']) (ρ++[p']) w':=by
 have K:=H.kill k;have Af:(h.set k none).length=h.length:=by simp
 have hM: ∀ b,p.foot b -> MO h ρ b:=fun b hb=>⟨k,o,p,hk,hp,hb⟩
 have JS: ∀ {i:Nat} {o1:DO} {p1:AE},(h.set k none++[some o'])[i]? =some (some o1) -> (ρ++[p'])[i]? =some p1 -> (i≠k/\ i<h.length/\ h[i]? =some (some o1)/\ ρ[i]? =some p1)∨(i=h.length/\ o1=o'/\ p1=p'):=by
  intro i o1 p1 h1 h2;rcases Dz h1 with ⟨hl,h1⟩ | ⟨hl,h1⟩
  ·rw [Af] at hl;rcases Dz h2 with ⟨_,h2⟩ | ⟨Cy,_⟩
   ·exact .inl ⟨(GW h1).1,hl,(GW h1).2,h2⟩
   ·rw [H.len] at Cy;omega
  ·rw [Af] at hl;rcases Dz h2 with ⟨Cy,_⟩ | ⟨_,h2⟩
   ·rw [H.len] at Cy;omega
   ·cases h1;exact .inr ⟨hl,rfl,h2.symm⟩
 have grow: ∀ b,MO (h.set k none++[some o']) (ρ++[p']) b -> MO h ρ b∨w.heap.size<=b:=by
  rintro b ⟨i,o1,p1,h1,h2,h3⟩;rcases JS h1 h2 with ⟨_,_,g1,g2⟩ | ⟨_,_,rfl⟩
  ·exact .inl ⟨i,o1,p1,g1,g2,h3⟩
  ·exact (hf b h3).1.imp (hM b) id
 have O:BH (MS N h ρ) w ρ (MS N (h.set k none++[some o']) (ρ++[p'])) w' (ρ++[p']):=by
  refine ⟨fun b hb hm _=>hu.block b hb fun hx=>hm (.inr (hM b hx)),fun b hb=>?_,fun i q hi=>EO hi⟩;rcases hb with hb | hb
  ·exact .inl (.inl hb)
  ·exact (grow b hb).imp .inr id
 refine ⟨⟨by simp [H.len],fun i o1 hi=>?_,fun i o1 p1 b h1 h2 h3=>?_,fun i i' o1 o2 p1 p2 b AR h1 h2 h3 h4 h5 h6=>?_,fun b hb=>⟨zBa (H.nlt b hb).1 hu.size,(H.nlt b hb).2⟩,Γ.st _ _ H.gi (hu.mono fun b _ hb=>(H.cel k o p b hk hp hb).1)⟩,⟨hu.mono fun b _ hb=>hM b hb,grow⟩⟩
 ·rcases Dz hi with ⟨hl,hi⟩ | ⟨hl,hi⟩
  ·obtain ⟨p1,M4,hr⟩:=H.obj i o1 (GW hi).2;refine ⟨p1,EO M4,hr.out O hu (fun b hb=>.inr (hM b hb)) fun b _ h1 h2=>H.dis i k o1 o p1 p b (GW hi).1 (GW hi).2 hk M4 hp h1 h2⟩
  ·cases hi;exact ⟨p',by rw [hl,Af,←H.len];simp,ho⟩
 ·rcases JS h1 h2 with ⟨AR,_,g1,g2⟩ | ⟨_,_,rfl⟩
  ·obtain ⟨e1,e2,c,t,z,e3⟩:=H.cel i o1 p1 b g1 g2 h3;exact ⟨e1,e2,c,t,z,(hu.block b (zAL.1 e3).1 fun hx=>H.dis i k o1 o p1 p b AR g1 hk g2 hp h3 hx).trans e3⟩
  ·obtain ⟨e1,e2⟩:=hf b h3;rcases e1 with e1 | e1
   ·obtain ⟨q1,q2,_⟩:=H.cel k o p b hk hp e1;exact ⟨q1,q2,e2⟩
   ·exact ⟨zAa (Γ.lo _ H.gi) e1,fun hn=>by have:=H.nlt b hn;omega,e2⟩
 ·have key: ∀ {i o1 p1},i≠k -> h[i]? =some (some o1) -> ρ[i]? =some p1 -> p1.foot b -> p'.foot b -> False:=fun {i o1 p1} AR g1 g2 g3 g4=>by
   rcases (hf b g4).1 with e1 | e1
   ·exact H.dis i k o1 o p1 p b AR g1 hk g2 hp g3 e1
   ·have:=H.lt (.inr ⟨i,o1,p1,g1,g2,g3⟩);omega
  rcases JS h1 h3 with ⟨Um,_,g1,g2⟩ | ⟨e1,_,rfl⟩
  ·rcases JS h2 h4 with ⟨_,_,g3,g4⟩ | ⟨_,_,rfl⟩
   ·exact H.dis i i' o1 o2 p1 p2 b AR g1 g3 g2 g4 h5 h6
   ·exact key Um g1 g2 h5 h6
  ·rcases JS h2 h4 with ⟨PN,_,g3,g4⟩ | ⟨e2,_,rfl⟩
   ·exact key PN g3 g4 h6 h5
   ·exact AR (e1.trans e2.symm)
def I2 (n:Nat)(R:Nat -> Value -> Prop)(Bx:List Value)(j:Nat)(u:Value):Prop:=if j<n then R j u else Bx[j-n]? =some u
theorem fY {t ty e:TypeId}{i:TypeInfo}{z:Value}(hu:P.underlying t=some (.slice e))(hi:P.info? e=some i)(hz:i.zero=some z)(RA:i.size≠0)(Cl:z.cells.size=i.size)(Dx:i.bytes<=128) 
 {p:AE} {n cap:Nat} {R:Nat -> Value -> Prop} (hr:AQ w p (n*i.size) R) (NE:n<=cap) (Mz:p.off+cap*i.size<=p.room)
 {vy:Value} {c:Nat} {Bx:List Value} (hy:Src P i.size t vy c Bx w) (hb:n+c<=1000000000000):
 ∃ w' p' Bz,(Builtin.append_ #[t,t] ty #[.slice (some ⟨p.blk,p.off,none⟩) n cap,vy]).run P w= .ok (.slice (some ⟨p'.blk,p'.off,none⟩) (n+c) Bz) w'/\ n+c<=Bz/\ p'.off+Bz*i.size<=p'.room/\
  AN p.foot w w'/\ (∀ b,p'.foot b -> p.foot b∨w.heap.size<=b)/\ AQ w' p' ((n+c)*i.size) (I2 (n*i.size) R Bx):=by
 have Ka:Bx.length=c*i.size:=hy.newsLen
 by_cases cr:n+c<=cap
 ·obtain ⟨g1,cs,tt,g2,g3,g4,g5⟩:=hr;have zBi:(n+c)*i.size<=cap*i.size:=zFn _ cr;rw [zF0] at zBi;have nu:p.off+n*i.size+Bx.length<=cs.size:=by omega
  refine ⟨w.setCells p.blk (p.off+n*i.size) Bx,p,cap,run_append_room_src w t t ty e i hu hi p.blk p.off n cap vy c Bx hy cr (fun j hj=>?_) (fun j _=>by unfold World.frozen?;simp [g2]),cr,Mz,?_,fun b hb=>.inl hb,?_⟩
  ·unfold World.cell?;simp only [g2];simp;omega
  ·rw [g1];exact QM _ _ _ _
  ·obtain ⟨El,e1,e2,e3⟩:=RP p.blk tt (0,0) Bx (p.off+n*i.size) w cs g2 nu;refine ⟨g1,El,tt,e1,by rw [zF0];omega,by omega,fun j hj=>?_⟩;rw [zF0] at hj;rw [e3]
   by_cases La:j<n*i.size
   ·rw [zAY (by omega)];obtain ⟨u,q1,q2⟩:=g5 j La;exact ⟨u,q1,by unfold I2;rw [zAA La];exact q2⟩
   ·rw [zAA (by omega)];have AK:j-n*i.size<Bx.length:=by omega
    refine ⟨Bx[j-n*i.size],by rw [show p.off+j-(p.off+n*i.size)=j-n*i.size by omega];simp [AK],?_⟩;unfold I2;rw [zAY La];simp [AK]
 ·obtain ⟨g,hg⟩: ∃ g:Nat -> Value,∀ j,j<n*i.size -> w.cell? ⟨p.blk,p.off+j,none⟩=some (g j)/\ R j (g j):=by
   refine ⟨fun j=>(w.cell? ⟨p.blk,p.off+j,none⟩).getD undef,fun j hj=>?_⟩;obtain ⟨u,h1,h2⟩:=hr.cell hj;simp [h1,h2]
  have M6:(Builtin.firstCells i.size n (.slice (some ⟨p.blk,p.off,none⟩) n cap)).run P w.drew= .ok (((List.range (n*i.size)).map g).toArray) w.drew:=by
   have:=run_loadCells (P:=P) w.drew ⟨p.blk,p.off,none⟩ (n*i.size) g (fun j hj=>by rw [Jt];exact ((Am.toDrew w).cell (hg j hj).1));simpa [Builtin.firstCells] using this
  have zBh:(n+c)*i.bytes<=1000000000000*128:=Nat.mul_le_mul hb Dx;have KY:=run_append_grow_src (P:=P) w t t ty e i z hu hi hz (some ⟨p.blk,p.off,none⟩) n cap _ M6 vy c Bx hy (by omega) (by omega) (growslice_fits (by omega) (by omega));have YR:n+c<=grownCap w (n+c) cap e:=grownCap_ge w (n+c) cap e
  have Do:((((List.range (n*i.size)).map g)++Bx).toArray++Builtin.zeroCells z.cells (grownCap w (n+c) cap e-(n+c))).size=grownCap w (n+c) cap e*i.size:=by
   simp only [Array.size_append,zG8,zBe,zCM,zF8,Ka,size_zeroCells,Cl,←zF0]
   congr 1;omega
  refine ⟨_,Ee w (grownCap w (n+c) cap e*i.size),grownCap w (n+c) cap e,KY,YR,by simp [Ee],?_,fun b hb=>.inr (zHR (Eq.symm hb)),?_⟩
  ·exact AN.ofExt ((Am.toDrew w).allocR _)
  ·refine AQ.out (aT (w:=w) (w1:=w.drew) (t:=e) (cs:=(((List.range (n*i.size)).map g)++Bx).toArray++Builtin.zeroCells z.cells (grownCap w (n+c) cap e-(n+c))) rfl Do |>fun hr=>?_) rfl (R:=fun j u=>((((List.range (n*i.size)).map g)++Bx).toArray++Builtin.zeroCells z.cells (grownCap w (n+c) cap e-(n+c)))[j]? =some u) fun j u hj Bh=>?_
   ·obtain ⟨q1,cs,tt,q2,q3,q4,q5⟩:=hr;have B2:(n+c)*i.size<=grownCap w (n+c) cap e*i.size:=zFn _ YR;exact ⟨q1,cs,tt,q2,by omega,q4,fun j hj=>q5 j (by omega)⟩
   ·rw [zF0] at hj;unfold I2;have HF:j<(((List.range (n*i.size)).map g)++Bx).length:=by simp;omega
    rw [zFz (by simpa using HF)] at Bh
    by_cases La:j<n*i.size
    ·rw [zAA La]
     have:u=g j:=by
      simp only [zHF] at Bh;rw [zBc (by simpa using La)] at Bh;simp [La] at Bh;exact Bh.symm
     rw [this];exact (hg j La).2
    ·rw [zAY La];simp only [zHF] at Bh;rw [zBg (by simp;omega)] at Bh;simpa using Bh
theorem fc (ad:Option Addr:=none){t ty e:TypeId}{i:TypeInfo}{z:Value}(hu:P.underlying t=some (.slice e))(hi:P.info? e=some i)(hz:i.zero=some z)(Cl:z.cells.size=i.size)(Dx:i.bytes<=128) 
 {vy:Value} {c:Nat} {Bx:List Value} (hy:Src P i.size t vy c Bx w) (hc:0<c) (hb:c<=1000000000000):
 ∃ w' Bz,(Builtin.append_ #[t,t] ty #[.slice ad 0 0,vy]).run P w= .ok (.slice (some ⟨w.heap.size,0,none⟩) c Bz) w'/\ c<=Bz/\ ∃ cs,w'=w.drew.alloc (.cells cs e)/\ cs.size=Bz*i.size/\ ∀ j,j<c*i.size -> cs[j]? =Bx[j]? :=by
 have Ka:Bx.length=c*i.size:=hy.newsLen;have M6:(Builtin.firstCells i.size 0 (.slice ad 0 0)).run P w.drew= .ok (([]:List Value).toArray) w.drew:=by cases ad <;> simp [Builtin.firstCells,loadCells,loadCellsFrom]
 have zBh:c*i.bytes<=1000000000000*128:=Nat.mul_le_mul hb Dx;have KY:=run_append_grow_src (P:=P) w t t ty e i z hu hi hz ad 0 0 [] M6 vy c Bx hy (by omega) (by omega) (growslice_fits (by omega) (by rw [zBy];omega));rw [zBy] at KY;have YR:c<=grownCap w c 0 e:=grownCap_ge w c 0 e;refine ⟨_,_,KY,YR,_,rfl,?_,fun j hj=>?_⟩
 ·simp only [zFe,Array.size_append,zG8,Ka,size_zeroCells,Cl,←zF0]
  congr 1;omega
 ·rw [zFz (by simp;omega)];simp
end
abbrev zDi:=@List.mem_map
abbrev zF3:=@Nat.le_of_not_lt
abbrev zG0:=@Nat.eq_zero_or_pos
def LS (S:St):DV -> Option (List Int×Prop)
 | .nils=>some ([],True)
 | .ints l=>some (l,True)
 | .msl k m off n=>match S.h[k]? with
  | some (some (.ints l))=>if m==1 then some (l,off=0/\ n=l.length) else none
  | _=>none
 | _=>none
def Po (S:St):DV -> Option (List Bool×Prop)
 | .nils=>some ([],True)
 | .bools l=>some (l,True)
 | .msl k m off n=>match S.h[k]? with
  | some (some (.bools l))=>if m==1 then some (l,off=0/\ n=l.length) else none
  | _=>none
 | _=>none
def Pe (S:St)(m:Nat):DV -> Option (Nat×(Nat -> Nat -> DV)×Prop)
 | .nils=>some (0,(fun _ _=>.any),True)
 | .sl m' n f=>if m'==m then some (n,f,True) else none
 | .msl k m' off n=>match S.h[k]? with
  | some (some (.arr m2 n2 f))=>if m'==m&&m2==m then some (n2,f,off=0/\ n=n2) else none
  | _=>none
 | _=>none
def A3:Nat:=1000000000000
def SH (P:Program)(S:St)(t:TypeId)(x y:DV):Option (DV×DH×Prop):=match Kl P t with
 | some (k,_,i,_)=>if 128<i.bytes then none else match k with
  | .ints=>match LS S y with
   | some (ys,vy)=>match x with
    | .nils=>some (.msl S.h.length 1 0 ys.length,S.h++[some (.ints ys)],vy/\ 0<ys.length/\ ys.length<=A3)
    | .msl k m off n=>match S.h[k]? with
     | some (some (.ints xs))=>if m==1 then some (.msl S.h.length 1 0 (xs.length+ys.length),S.h.set k none++[some (.ints (xs++ys))],vy/\ (off=0/\ n=xs.length)/\ xs.length+ys.length<=A3) else none
     | _=>none
    | _=>none
   | none=>none
  | .bools=>match Po S y with
   | some (ys,vy)=>match x with
    | .nils=>some (.msl S.h.length 1 0 ys.length,S.h++[some (.bools ys)],vy/\ 0<ys.length/\ ys.length<=A3)
    | .msl k m off n=>match S.h[k]? with
     | some (some (.bools xs))=>if m==1 then some (.msl S.h.length 1 0 (xs.length+ys.length),S.h.set k none++[some (.bools (xs++ys))],vy/\ (off=0/\ n=xs.length)/\ xs.length+ys.length<=A3) else none
     | _=>none
    | _=>none
   | none=>none
  | .gen m=>match Pe S m y with
   | some (c,g,vy)=>match x with
    | .nils=>some (.msl S.h.length m 0 c,S.h++[some (.arr m c g)],(vy/\ ∀ i j,i<c -> j<m -> JQ (g i j)=true)/\ 0<c/\ c<=A3)
    | .msl k m' off n=>match S.h[k]? with
     | some (some (.arr m2 n2 f))=>if m'==m&&m2==m then some (.msl S.h.length m 0 (n2+c),S.h.set k none++[some (.arr m (n2+c) (fun i j=>if i<n2 then f i j else g (i-n2) j))],(vy/\ ∀ i j,i<c -> j<m -> JQ (g i j)=true)/\ (off=0/\ n=n2)/\ n2+c<=A3) else none
     | _=>none
    | _=>none
   | none=>none
 | none=>none
section
variable {P:Program} {Γ:Aj} {N:Nat -> Prop} {S:St} {ρ:List AE} {a:Act} {w:World} {h:DH}
theorem Sz {t e:TypeId}(hu:P.underlying t=some (.slice e)){m:Nat}{ad:Option Addr}{c cap:Nat}{Bx:List Value}(hl:Bx.length=c*m)(hc: ∀ j u,Bx[j]? =some u -> ∃ b o,ad=some ⟨b,o,none⟩/\ w.cell? ⟨b,o+j,none⟩=some u) 
 (h1: ∀ u∈Bx,u.oneCell'=true) (hm:0<m) (dN:ad=none -> c=0):Src P m t (.slice ad c cap) c Bx w:=by
 cases ad with
 | none=>
  have:=dN rfl;subst this;have:Bx= []:=zDe (by simpa using hl);subst this;exact Src.ofNil w hu cap
 | some ad=>
  refine Src.ofSlice w hu ad c cap Bx hl (fun j u hj=>?_) h1;obtain ⟨b,o,e1,e2⟩:=hc j u hj;cases e1;rw [Jt];exact e2
theorem UV (R:AP P Γ N S ρ a w){t e:TypeId}(hu:P.underlying t=some (.slice e)){y:DV}{v:Value}(hy:AI (MS N S.h ρ) w y ρ v){ys:List Int}{vy:Prop}(h:LS S y=some (ys,vy))(hv:vy):
 Src P 1 t v ys.length (ys.map (Value.int .i64)) w:=by
 have one: ∀ u∈ys.map (Value.int .i64),u.oneCell'=true:=fun u hu=>by obtain ⟨n,_,rfl⟩:=zDi.1 hu;rfl
 have val: ∀ {j:Nat} {u:Value},(ys.map (Value.int .i64))[j]? =some u -> j<ys.length/\ u= .int .i64 (ys.getD j 0):=fun {j u} hj=>by
  have AK:=(zAW.1 hj).1;have AK:j<ys.length:=by simpa using AK
  simp [AK] at hj;exact ⟨AK,by rw [←hj];simp [AK]⟩
 unfold LS at h;split at h
 ·cases h;rw [show v=_ from hy];exact Src.ofNil w hu 0
 ·cases h;obtain ⟨ad,cap,rfl,h1,h2,h3⟩:=hy;refine Sz hu (by simp) (fun j u hj=>?_) one (by omega) (fun e=>?_)
  ·obtain ⟨AK,rfl⟩:=val hj;obtain ⟨b,o,e1,_,e2⟩:=h3 j AK;exact ⟨b,o,e1,e2⟩
  ·rcases zG0 ys.length with h0 | h0
   ·exact h0
   ·obtain ⟨b,o,e1,_⟩:=h3 0 h0;rw [e] at e1;cases e1
 ·rename_i k m off n;obtain ⟨p,cap,hp,rfl,h1,h2,h3⟩:=hy;split at h
  ·rename_i l hk;split at h
   ·rename_i hm;cases h;have CT:m=1:=by simpa using hm
    subst CT;obtain ⟨p',A5,hr⟩:=R.hr.obj k _ hk;have e:p'=p:=zAV (A5.symm.trans hp);subst e;obtain ⟨rfl,rfl⟩:=hv;refine Sz hu (by simp) (fun j u hj=>?_) one (by omega) (fun e=>by cases e);obtain ⟨AK,rfl⟩:=val hj;obtain ⟨u,e1,e2⟩:=AQ.cell hr AK;exact ⟨p'.blk,p'.off,by simp,by rw [e1,e2]⟩
   ·cases h
  ·cases h
 ·cases h
theorem qP (R:AP P Γ N S ρ a w){t e:TypeId}(hu:P.underlying t=some (.slice e)){y:DV}{v:Value}(hy:AI (MS N S.h ρ) w y ρ v){ys:List Bool}{vy:Prop}(h:Po S y=some (ys,vy))(hv:vy):
 Src P 1 t v ys.length (ys.map Value.bool) w:=by
 have one: ∀ u∈ys.map Value.bool,u.oneCell'=true:=fun u hu=>by obtain ⟨n,_,rfl⟩:=zDi.1 hu;rfl
 have val: ∀ {j:Nat} {u:Value},(ys.map Value.bool)[j]? =some u -> j<ys.length/\ u= .bool (ys.getD j false):=fun {j u} hj=>by
  have AK:=(zAW.1 hj).1;have AK:j<ys.length:=by simpa using AK
  simp [AK] at hj;exact ⟨AK,by rw [←hj];simp [AK]⟩
 unfold Po at h;split at h
 ·cases h;rw [show v=_ from hy];exact Src.ofNil w hu 0
 ·cases h;obtain ⟨ad,cap,rfl,h1,h2,h3⟩:=hy;refine Sz hu (by simp) (fun j u hj=>?_) one (by omega) (fun e=>?_)
  ·obtain ⟨AK,rfl⟩:=val hj;obtain ⟨b,o,e1,_,e2⟩:=h3 j AK;exact ⟨b,o,e1,e2⟩
  ·rcases zG0 ys.length with h0 | h0
   ·exact h0
   ·obtain ⟨b,o,e1,_⟩:=h3 0 h0;rw [e] at e1;cases e1
 ·rename_i k m off n;obtain ⟨p,cap,hp,rfl,h1,h2,h3⟩:=hy;split at h
  ·rename_i l hk;split at h
   ·rename_i hm;cases h;have CT:m=1:=by simpa using hm
    subst CT;obtain ⟨p',A5,hr⟩:=R.hr.obj k _ hk;have e:p'=p:=zAV (A5.symm.trans hp);subst e;obtain ⟨rfl,rfl⟩:=hv;refine Sz hu (by simp) (fun j u hj=>?_) one (by omega) (fun e=>by cases e);obtain ⟨AK,rfl⟩:=val hj;obtain ⟨u,e1,e2⟩:=AQ.cell hr AK;exact ⟨p'.blk,p'.off,by simp,by rw [e1,e2]⟩
   ·cases h
  ·cases h
 ·cases h
theorem NS {ρ':Operand -> Value}{o:Oper}{c:Call}{x y:Operand}{t t2:TypeId}(ho:o.op= .call c)(hc:c.callee= .builtin .append)(ha:c.args.toList= [x,y])(ht:c.argTypes.toList= [t,t2]):
 execOp ρ' o=(do pure (.value (←Builtin.append_ #[t,t2] o.type #[ρ' x,ρ' y]))):=by
 unfold execOp;rw [ho]
 show (resolve ρ' c o.type>>=fun d=>invoke d.target d.args)=_
 unfold resolve;rw [hc,WK ha,WK ht];simp;rfl
theorem fZ (R:AP P Γ N S ρ a w){t e:TypeId}{i:TypeInfo}{z:Value}(hu:P.underlying t=some (.slice e))(hi:P.info? e=some i)(hz:i.zero=some z)(RA:i.size≠0)(Cl:z.cells.size=i.size)(Dx:i.bytes<=128) 
 {k:Nat} {ob ob':DO} {p:AE} (hk:S.h[k]? =some (some ob)) (hp:ρ[k]? =some p) {n cap c:Nat} {Rw:Nat -> Value -> Prop} (hr:AQ w p (n*i.size) Rw) (NE:n<=cap) (Mz:p.off+cap*i.size<=p.room)
 {vy:Value} {Bx:List Value} (hy:Src P i.size t vy c Bx w) (hb:n+c<=A3)
 (Im: ∀ M ρ' w' p',BH (MS N S.h ρ) w ρ M w' ρ' -> AQ w' p' ((n+c)*i.size) (I2 (n*i.size) Rw Bx) -> Dr P M w' ρ' p' ob')
 (o:Oper) {cl:Call} {x y:Operand} (ho:o.op= .call cl) (hc:cl.callee= .builtin .append) (ha:cl.args.toList= [x,y]) (ht:cl.argTypes.toList= [t,t]) (hx:a.eval x= .slice (some ⟨p.blk,p.off,none⟩) n cap) (cV:a.eval y=vy):
 BG P (execOp a.eval o) w (B1 P Γ N S.h ρ w false (.msl S.h.length i.size 0 (n+c)) (S.h.set k none++[some ob'])):=by
 obtain ⟨w',p',Bz,h1,h2,h3,h4,h5,h6⟩:=fY (ty:=o.type) hu hi hz RA Cl Dx hr NE Mz hy hb;refine BG.value (NS ho hc ha ht) (by rw [hx,cV];exact h1) ?_
 have zCH: ∀ b,p'.foot b -> Ds w' b:=fun b hb=>by
  obtain ⟨e1,cs,tt,e2,_⟩:=h6;rw [e1] at hb;exact .cells (c:=cs) (t:=tt) (z:=(0,0)) (by rw [show b=p'.blk from hb];exact e2)
 have Af:(S.h.set k none).length=S.h.length:=by simp
 have O:BH (MS N S.h ρ) w ρ (MS N (S.h.set k none++[some ob']) (ρ++[p'])) w' (ρ++[p']):=by
  refine ⟨fun b hb hm _=>h4.block b hb fun hx=>hm (.inr ⟨k,ob,p,hk,hp,hx⟩),fun b hb=>?_,fun i q hi=>EO hi⟩;rcases hb with hb | hb
  ·exact .inl (.inl hb)
  ·obtain ⟨i1,o1,p1,g1,g2,g3⟩:=hb;rcases Dz g1 with ⟨hl,g1⟩ | ⟨hl,_⟩
   ·rcases Dz g2 with ⟨_,g2⟩ | ⟨Cy,_⟩
    ·exact .inl (.inr ⟨i1,o1,p1,(GW g1).2,g2,g3⟩)
    ·rw [Af] at hl;rw [R.hr.len] at Cy;omega
   ·rcases Dz g2 with ⟨Cy,_⟩ | ⟨_,rfl⟩
    ·rw [Af] at hl;rw [R.hr.len] at Cy;omega
    ·exact (h5 b g3).imp (fun hx=>.inr ⟨k,ob,p,hk,hp,hx⟩) id
 obtain ⟨g1,g2⟩:=R.hr.regrow (o':=ob') hk hp h4 (fun b hb=>⟨h5 b hb,zCH b hb⟩) (Im _ _ _ _ O h6);refine ⟨⟨ρ++[p'],g1,⟨p',Bz,by rw [←R.hr.len];simp,by simp,h2,by unfold LB;unfold A3 at hb;omega,by simpa using h3⟩,g2,fun _ _ h=>EO h⟩,fun h=>by cases h⟩
theorem fe (R:AP P Γ N S ρ a w){t e:TypeId}{i:TypeInfo}{z:Value}(hu:P.underlying t=some (.slice e))(hi:P.info? e=some i)(hz:i.zero=some z)(Cl:z.cells.size=i.size)(Dx:i.bytes<=128) 
 {ob':DO} {c:Nat} {vy:Value} {Bx:List Value} (hy:Src P i.size t vy c Bx w) (PZ:0<c) (hb:c<=A3)
 (Im: ∀ M ρ' w' p',BH (MS N S.h ρ) w ρ M w' ρ' -> AQ w' p' (c*i.size) (fun j u=>Bx[j]? =some u) -> Dr P M w' ρ' p' ob') (ext:Bool)
 (o:Oper) {cl:Call} {x y:Operand} (ho:o.op= .call cl) (hc:cl.callee= .builtin .append) (ha:cl.args.toList= [x,y]) (ht:cl.argTypes.toList= [t,t]) (hx:a.eval x= .slice none 0 0) (cV:a.eval y=vy):
 BG P (execOp a.eval o) w (B1 P Γ N S.h ρ w ext (.msl S.h.length i.size 0 c) (S.h++[some ob'])):=by
 obtain ⟨w',Bz,h1,h2,cs,rfl,h4,h5⟩:=fc none (ty:=o.type) hu hi hz Cl Dx hy PZ hb;have Ka:Bx.length=c*i.size:=hy.newsLen;refine BG.value (NS ho hc ha ht) (by rw [hx,cV];exact h1) ?_;have B2:c*i.size<=Bz*i.size:=zFn _ h2;refine RY (d:=.msl S.h.length i.size 0 c) R.hr ⟨Am.toDrew w,rfl⟩ (fun M ρ' O=>Im _ _ _ _ O ?_) (fun M ρ' hp=>⟨_,Bz,hp,by simp [Ee],h2,by unfold LB;unfold A3 at hb;omega,by simp only [Ee];omega⟩) ext;refine OJ rfl (by omega) fun j hj=>?_
 rw [h5 j hj];exact ⟨Bx[j],by simp [Ka,hj],by simp [Ka,hj]⟩
theorem bz {xs ys:List Int}{M:Nat -> Prop}{w':World}{ρ':List AE}{p':AE}{s:Nat}(hs:s=1)(h:AQ w' p' ((xs.length+ys.length)*s) (I2 (xs.length*s) (fun j u=>u= .int .i64 (xs.getD j 0)) (ys.map (Value.int .i64)))):Dr P M w' ρ' p' (.ints (xs++ys)):=by
 subst hs
 show AQ _ _ (xs++ys).length _
 rw [zBe];rw [zCm,zCm] at h;refine AQ.out h rfl fun j u hj hu=>?_
 unfold I2 at hu;split at hu
 ·rename_i AK;rw [hu];simp [u8,zBc AK]
 ·rename_i AK;have Hg:j-xs.length<ys.length:=by omega
  simp [Hg] at hu;rw [←hu];simp [u8,zBg (zF3 AK),Hg]
theorem zEd {xs ys:List Bool}{M:Nat -> Prop}{w':World}{ρ':List AE}{p':AE}{s:Nat}(hs:s=1)(h:AQ w' p' ((xs.length+ys.length)*s) (I2 (xs.length*s) (fun j u=>u= .bool (xs.getD j false)) (ys.map Value.bool))):Dr P M w' ρ' p' (.bools (xs++ys)):=by
 subst hs
 show AQ _ _ (xs++ys).length _
 rw [zBe];rw [zCm,zCm] at h;refine AQ.out h rfl fun j u hj hu=>?_
 unfold I2 at hu;split at hu
 ·rename_i AK;rw [hu];simp [u8,zBc AK]
 ·rename_i AK;have Hg:j-xs.length<ys.length:=by omega
  simp [Hg] at hu;rw [←hu];simp [u8,zBg (zF3 AK),Hg]
theorem oZ (R:AP P Γ N S ρ a w){t e:TypeId}(hu:P.underlying t=some (.slice e)){y:DV}{v:Value}(hy:AI (MS N S.h ρ) w y ρ v){m c:Nat}(AC:0<m){g:Nat -> Nat -> DV}{vy:Prop}(h:Pe S m y=some (c,g,vy))(hv:vy) 
 (h1: ∀ i j,i<c -> j<m -> JQ (g i j)=true): ∃ Bx,Src P m t v c Bx w/\ ∀ j u,Bx[j]? =some u -> AI (MS N S.h ρ) w (g (j/m) (j % m)) [] u:=by
 have dm: ∀ {j:Nat},j<c*m -> j/m<c/\ j % m<m/\ j/m*m+j % m=j:=fun {j} hj=>⟨by rw [zGM AC];exact hj,zHT _ AC,by rw [zF5];exact Nat.div_add_mod j m⟩
 have fC: ∀ (ad:Option Addr) (cap:Nat),(∀ j,j<c*m -> ∃ b o u,ad=some ⟨b,o,none⟩/\ w.cell? ⟨b,o+j,none⟩=some u/\ AI (MS N S.h ρ) w (g (j/m) (j % m)) [] u) -> v= .slice ad c cap -> (ad=none -> c=0) ->
  ∃ Bx,Src P m t v c Bx w/\ ∀ j u,Bx[j]? =some u -> AI (MS N S.h ρ) w (g (j/m) (j % m)) [] u:=by
  intro ad cap hc zw dN
  obtain ⟨f,hf⟩: ∃ f:Nat -> Value,∀ j,j<c*m -> ∃ b o,ad=some ⟨b,o,none⟩/\ w.cell? ⟨b,o+j,none⟩=some (f j)/\ AI (MS N S.h ρ) w (g (j/m) (j % m)) [] (f j):=by
   refine ⟨fun j=>(match ad with | some a=>w.cell? ⟨a.block,a.off+j,none⟩ | none=>none).getD undef,fun j hj=>?_⟩;obtain ⟨b,o,u,rfl,e2,e3⟩:=hc j hj;exact ⟨b,o,rfl,by simp [e2],by simpa [e2] using e3⟩
  have val: ∀ {j:Nat} {u:Value},((List.range (c*m)).map f)[j]? =some u -> j<c*m/\ u=f j:=fun {j u} hj=>by
   have AK:=(zAW.1 hj).1;have AK:j<c*m:=by simpa using AK
   simp [AK] at hj;exact ⟨AK,hj.symm⟩
  refine ⟨(List.range (c*m)).map f,?_,fun j u hj=>?_⟩
  ·rw [zw];refine Sz hu (by simp) (fun j u hj=>?_) (fun u Bh=>?_) AC dN
   ·obtain ⟨AK,rfl⟩:=val hj;obtain ⟨b,o,e1,e2,_⟩:=hf j AK;exact ⟨b,o,e1,e2⟩
   ·obtain ⟨j,hj,rfl⟩:=zDi.1 Bh;have AK:=zBf.1 hj;obtain ⟨_,_,_,_,e3⟩:=hf j AK;exact (XZ (h1 _ _ (dm AK).1 (dm AK).2.1) e3).1
  ·obtain ⟨AK,rfl⟩:=val hj;obtain ⟨_,_,_,_,e3⟩:=hf j AK;exact e3
 unfold Pe at h;split at h
 ·cases h;refine fC none 0 (fun j hj=>by rw [Nat.zero_mul] at hj;omega) hy (fun _=>rfl)
 ·rename_i m' n f;split at h
  ·rename_i hm;cases h;have CT:m'=m:=by simpa using hm
   subst CT;obtain ⟨ad,cap,rfl,g1,g2,g3⟩:=hy;refine fC ad cap (fun j hj=>?_) rfl (fun e=>?_)
   ·obtain ⟨b,o,u,e1,_,e2,e3⟩:=g3 _ _ (dm hj).1 (dm hj).2.1;exact ⟨b,o,u,e1,by rw [(dm hj).2.2] at e2;exact e2,e3⟩
   ·rcases zG0 c with h0 | h0
    ·exact h0
    ·obtain ⟨b,o,u,e1,_⟩:=g3 0 0 h0 AC;rw [e] at e1;cases e1
  ·cases h
 ·rename_i k m' off n;obtain ⟨p,cap,hp,rfl,g1,g2,g3⟩:=hy;split at h
  ·rename_i m2 n2 f hk;split at h
   ·rename_i hm;cases h;simp only [zAO,zCR] at hm;obtain ⟨rfl,rfl⟩:=hm;obtain ⟨p',A5,hr⟩:=R.hr.obj k _ hk;have e:p'=p:=zAV (A5.symm.trans hp);subst e;obtain ⟨rfl,rfl⟩:=hv;refine fC (some ⟨p'.blk,p'.off+0*m2,none⟩) cap (fun j hj=>?_) rfl (fun e=>by cases e);obtain ⟨u,e1,e2⟩:=AQ.cell hr hj;exact ⟨p'.blk,p'.off,u,by simp,e1,e2⟩
   ·cases h
  ·cases h
 ·cases h
theorem qg (R:AP P Γ N S ρ a w){t:TypeId}{x y:Operand}{d:DV}{h':DH}{vc:Prop}(hd:SH P S t (AT S.fr x) (AT S.fr y)=some (d,h',vc))(hv:vc)(o:Oper){cl:Call}(ho:o.op= .call cl)(hc:cl.callee= .builtin .append) 
 (ha:cl.args.toList= [x,y]) (ht:cl.argTypes.toList= [t,t]):BG P (execOp a.eval o) w (B1 P Γ N S.h ρ w false d h'):=by
 have rx:=BO R x;have ry:=BO R y;unfold SH at hd;split at hd
 ·rename_i kk e i z hk;obtain ⟨hu,hi,hz,h0,Cl,Ei,hq1,Hf⟩:=VS hk;clear hq1 Hf;split at hd
  ·cases hd
  ·rename_i Dx;have RT:i.bytes<=128:=by omega
   split at hd
   ·have Cx:i.size=1:=Ei.symm;split at hd
    ·rename_i ys vy hy;split at hd
     ·rename_i ex;cases hd;rw [ex] at rx
      have:=fe (ob':=.ints ys) R hu hi hz Cl RT (by rw [Cx];exact UV R hu ry hy hv.1) hv.2.1 hv.2.2 (fun M ρ' w' p' O hr=>by
       have CC:=hr;rw [Cx,zCm] at CC;refine AQ.out CC rfl fun j u hj Bh=>?_
       simp [hj] at Bh;rw [←Bh];simp [hj]) false o ho hc ha ht rx rfl
      rw [Cx] at this;exact this
     ·rename_i k m off n ex;rw [ex] at rx;obtain ⟨p,cap,hp,hx,g1,g2,g3⟩:=rx;split at hd
      ·rename_i xs NA;split at hd
       ·rename_i hm;cases hd;have CT:m=1:=by simpa using hm
        subst CT;obtain ⟨q1,⟨rfl,rfl⟩,q3⟩:=hv;obtain ⟨p',A5,hr⟩:=R.hr.obj k _ NA;have e:p'=p:=zAV (A5.symm.trans hp);subst e
        have:=fZ (ob':=.ints (xs++ys)) (n:=xs.length) (cap:=cap) (c:=ys.length) R hu hi hz h0 Cl RT NA hp (Rw:=fun j u=>u= .int .i64 (xs.getD j 0)) (by rw [Cx,zCm];exact hr) g1 (by rw [Cx];simpa using g3) (by rw [Cx];exact UV R hu ry hy q1) q3
         (fun M ρ' w' p' O hr=>bz Cx hr) o ho hc ha ht (by simpa using hx) rfl
        rw [Cx] at this;exact this
       ·cases hd
      ·cases hd
     ·cases hd
    ·cases hd
   ·have Cx:i.size=1:=Ei.symm;split at hd
    ·rename_i ys vy hy;split at hd
     ·rename_i ex;cases hd;rw [ex] at rx
      have:=fe (ob':=.bools ys) R hu hi hz Cl RT (by rw [Cx];exact qP R hu ry hy hv.1) hv.2.1 hv.2.2 (fun M ρ' w' p' O hr=>by
       have CC:=hr;rw [Cx,zCm] at CC;refine AQ.out CC rfl fun j u hj Bh=>?_
       simp [hj] at Bh;rw [←Bh];simp [hj]) false o ho hc ha ht rx rfl
      rw [Cx] at this;exact this
     ·rename_i k m off n ex;rw [ex] at rx;obtain ⟨p,cap,hp,hx,g1,g2,g3⟩:=rx;split at hd
      ·rename_i xs NA;split at hd
       ·rename_i hm;cases hd;have CT:m=1:=by simpa using hm
        subst CT;obtain ⟨q1,⟨rfl,rfl⟩,q3⟩:=hv;obtain ⟨p',A5,hr⟩:=R.hr.obj k _ NA;have e:p'=p:=zAV (A5.symm.trans hp);subst e
        have:=fZ (ob':=.bools (xs++ys)) (n:=xs.length) (cap:=cap) (c:=ys.length) R hu hi hz h0 Cl RT NA hp (Rw:=fun j u=>u= .bool (xs.getD j false)) (by rw [Cx,zCm];exact hr) g1 (by rw [Cx];simpa using g3) (by rw [Cx];exact qP R hu ry hy q1) q3
         (fun M ρ' w' p' O hr=>zEd Cx hr) o ho hc ha ht (by simpa using hx) rfl
        rw [Cx] at this;exact this
       ·cases hd
      ·cases hd
     ·cases hd
    ·cases hd
   ·rename_i m;have Cw:i.size=m:=Ei.symm;have AC:0<m:=by omega
    split at hd
    ·rename_i c g vy hy;split at hd
     ·rename_i ex;cases hd;rw [ex] at rx;obtain ⟨Bx,cj,dO⟩:=oZ R hu ry AC hy hv.1.1 hv.1.2
      have:=fe (ob':=.arr m c g) R hu hi hz Cl RT (by rw [Cw];exact cj) hv.2.1 hv.2.2 (fun M ρ' w' p' O hr=>by
       rw [Cw] at hr;exact AQ.out hr rfl fun j u hj Bh=>AI.out _ O.nil (dO j u Bh)) false o ho hc ha ht rx rfl
      rw [Cw] at this;exact this
     ·rename_i k m' off n ex;rw [ex] at rx;obtain ⟨p,cap,hp,hx,g1,g2,g3⟩:=rx;split at hd
      ·rename_i m2 n2 f NA;split at hd
       ·rename_i hm;cases hd;simp only [zAO,zCR] at hm;obtain ⟨rfl,rfl⟩:=hm;obtain ⟨q1,⟨rfl,rfl⟩,q3⟩:=hv;obtain ⟨p',A5,hr⟩:=R.hr.obj k _ NA;have e:p'=p:=zAV (A5.symm.trans hp);subst e;obtain ⟨Bx,cj,dO⟩:=oZ R hu ry AC hy q1.1 q1.2
        have:=fZ (ob':=.arr m2 (n+c) (fun i j=>if i<n then f i j else g (i-n) j)) (n:=n) (cap:=cap) (c:=c) R hu hi hz h0 Cl RT NA hp (Rw:=fun j u=>AI (MS N S.h ρ) w (f (j/m2) (j % m2)) [] u) (by rw [Cw];exact hr) g1 (by rw [Cw];simpa using g3) (by rw [Cw];exact cj) q3
         (fun M ρ' w' p' O hr=>by
          rw [Cw] at hr;refine AQ.out hr rfl fun j u hj Bh=>?_
          show AI M w' (if j/m2<n then f (j/m2) (j % m2) else g (j/m2-n) (j % m2)) [] u
          unfold I2 at Bh
          by_cases AK:j<n*m2
          ·rw [zAA AK] at Bh;rw [zAA (by rw [zGM AC];exact AK)];exact AI.out _ O.nil Bh
          ·rw [zAY AK] at Bh;rw [zAY (by rw [zGM AC];exact AK)];have h1:=dO _ _ Bh;have e1:(j-n*m2)/m2=j/m2-n:=by rw [zF5 n m2];exact Nat.sub_mul_div ..
           have e2:(j-n*m2) % m2=j % m2:=by
            have Hg:j=(j-n*m2)+n*m2:=by omega
            rw [Hg,Nat.add_mul_mod_self_right,Nat.add_sub_cancel]
           rw [e1,e2] at h1;exact AI.out _ O.nil h1) o ho hc ha ht (by simpa using hx) rfl
        rw [Cw] at this;exact this
       ·cases hd
      ·cases hd
     ·cases hd
    ·cases hd
 ·cases hd
end
abbrev zCX:=@Bool.not_true
abbrev zCj:=@Bool.true_and
abbrev zCo:=@Nat.le_of_ble_eq_true
abbrev zFW:=@List.getElem?_take
abbrev zFg:=@List.map_cons
abbrev zFh:=@List.getElem?_drop
abbrev zGY:=@List.all_cons
abbrev zGm:=@List.length_drop
abbrev zGx:=@Go.run_equalIn_int
def Yw (JP:Nat -> Option (Nat×Nat))(cells:List DV):List (Nat×DV) -> Option (List DV)
 | []=>some cells
 | (i,d)::rest=>match JP i with
  | none=>none
  | some (off,size)=>match Ji d with
   | none=>none
   | some l=>if l.length=size/\ off+l.length<=cells.length then Yw JP (N5 cells off l) rest else none
def ap (P:Program)(t:TypeId):Option (Value×(Nat -> Option (Nat×Nat))):=match P.info? t with
 | some it=>match P.underlying t with
  | some (.array _ e)=>match it.zero with
   | some z=>match P.info? e with
    | some ie=>some (z,fun i=>some (i*ie.size,ie.size))
    | none=>none
   | none=>none
  | some (.struct zDO)=>match it.zero with
   | some z=>match zDO.toList.mapM (fun f=>(P.info? f.type).map fun i=>(f.offset,i.size)) with
    | some XD=>some (z,fun i=>XD.toArray[i]?)
    | none=>none
   | none=>none
  | _=>none
 | none=>none
def Xl (P:Program)(S:St)(t:TypeId)(parts:List (Nat×Operand)):Option (DV×Prop):=match ap P t with
 | some (z,JP)=>match Yw JP (z.cells.toList.map Gz) (parts.map fun x=>(x.1,AT S.fr x.2)) with
  | some l=>some (.agg l.length (fun j=>l.getD j .any),True)
  | none=>none
 | none=>none
def LE (P:Program)(t:TypeId)(m:Nat)(f:Nat -> DV)(off size:Nat):Option DV:= if off+size<=m then (if Fs P t then (if size=1 then some (f off) else none) else if V2 P t size then some (.agg size (Gh size fun j=>f (off+j))) else none) else none
def bu (P:Program)(t:TypeId)(x:DV)(n:Int):Option (DV×Prop):=match x with
 | .agg m f=>match P.underlying t with
  | some (.array len e)=>match P.info? e with
   | some i=>if Fs P e&&i.size==1&&len==m then some (f n.toNat,0<=n/\ n<len) else none
   | none=>none
  | _=>none
 | _=>none
def Yr (P:Program)(t:TypeId)(x:DV)(fi:Nat):Option (DV×Prop):=match x with
 | .agg m f=>match P.underlying t with
  | some (.struct fs)=>match fs[fi]? with
   | some fd=>match P.info? fd.type with
    | some i=>match LE P fd.type m f fd.offset i.size with
     | some d=>some (d,True)
     | none=>none
    | none=>none
   | none=>none
  | _=>none
 | _=>none
def fB (P:Program)(t:TypeId)(x:DV)(lo hi:Option Int):Option (DV×Prop):=match P.underlying t with
 | some (.slice e)=>match P.info? e with
  | some i=>match x with
   | .ints l=>if i.size=1 then some (.ints ((l.take (hi.getD l.length).toNat).drop (lo.getD 0).toNat),0<=lo.getD 0/\ lo.getD 0<=hi.getD l.length/\ hi.getD l.length<=l.length) else none
   | .bools l=>if i.size=1 then some (.bools ((l.take (hi.getD l.length).toNat).drop (lo.getD 0).toNat),0<=lo.getD 0/\ lo.getD 0<=hi.getD l.length/\ hi.getD l.length<=l.length) else none
   | .sl m n f=>if i.size=m then some (.sl m ((hi.getD n).toNat-(lo.getD 0).toNat) (fun i j=>f ((lo.getD 0).toNat+i) j),0<=lo.getD 0/\ lo.getD 0<=hi.getD n/\ hi.getD n<=n) else none
   | .msl k m off n=>if i.size=m then some (.mse k m (off+(lo.getD 0).toNat) ((hi.getD n).toNat-(lo.getD 0).toNat),0<=lo.getD 0/\ lo.getD 0<=hi.getD n/\ hi.getD n<=n) else none
   | _=>none
  | none=>none
 | _=>none
def Xx (S:St):Option Operand -> Option (Option Int)
 | none=>some none
 | some x=>match AT S.fr x with
  | .int _ n=>some (some n)
  | _=>none
def NT (f g:Nat -> DV):List Nat -> Bool
 | []=>true
 | i::is=>(G7 (f i)==G7 (g i))&&NT f g is
def eP (P:Program)(m:Nat)(f g:Nat -> DV)(fd:Field):Bool:=fd.name != "_" &&((match P.info? fd.type with | some i=>i.size==1 | none=>false)&&(Fs P fd.type&&((match P.underlying fd.type with | some (.int _)=>true | _=>false)&&(Nat.blt fd.offset m&&(Ie (f fd.offset)&&Ie (g fd.offset))))))
def Y0 (P:Program)(t:TypeId)(f g:Nat -> DV)(m m':Nat):Option (List Nat):=match P.underlying t with
 | some (.struct fs)=>if P.stoodInHeld t==false&&(P.eqGuardType P.depth t==false&&(m==m'&&fs.toList.all (eP P m f g))) then some (fs.toList.map (·.offset)) else none
 | some (.array n e)=>match P.info? e with
  | some i=>match P.underlying e with
   | some (.int _)=>if i.size==1&&Fs P e&&P.eqGuardType P.depth t==false&&n==m&&n==m'&&(List.range n).all (fun i=>Ie (f i)&&Ie (g i)) then some (List.range n) else none
   | _=>none
  | none=>none
 | _=>none
def VP (P:Program)(op:BinOp)(t:TypeId)(x y:DV):Option (DV×Prop):=match op,x,y with
 | .eql,.agg m f,.agg m' g=>match Y0 P t f g m m' with
  | some is=>some (.bool (NT f g is),True)
  | none=>none
 | .neq,.agg m f,.agg m' g=>match Y0 P t f g m m' with
  | some is=>some (.bool (!(NT f g is)),True)
  | none=>none
 | _,_,_=>none
def ZB (P:Program)(t:TypeId):Bool:=match P.underlying t with
 | some (.interface _)=>false
 | some _=>true
 | none=>false
def fW (P:Program)(to:TypeId)(ok:Bool):DV -> Option DV
 | .cst (.iface t (.int k n))=>if t=to&&ZB P to then some (if ok then .tup 2 (fun j=>[DV.int k n,.bool true].getD j .any) else .int k n) else none
 | .cst .nilIface=>if ok&&ZB P to then match P.info? to with
  | some i=>match i.zero with
   | some (.int k n)=>some (.tup 2 (fun j=>[DV.int k n,.bool false].getD j .any))
   | _=>none
  | none=>none
  else none
 | _=>none
theorem zEx {P:Program}{M:Nat -> Prop}{w:World}{ρ:List AE}{xt to:TypeId}{ok:Bool}{d d':DV}{v:Value}(hr:AI M w d ρ v)(h:fW P to ok d=some d'): ∃ u,(∀ W,(Instr.typeAssert v xt to ok).run P W= .ok u W)/\ AI M w d' ρ u:=by
 have two: ∀ (k:IntKind) (n:Int) (b:Bool),AI M w (.tup 2 (fun j=>[DV.int k n,.bool b].getD j .any)) ρ (.tuple #[.int k n,.bool b]):=fun k n b=>⟨_,rfl,rfl,fun j hj=>match j,hj with
  | 0,_=>⟨_,rfl,rfl⟩
  | 1,_=>⟨_,rfl,rfl⟩
  | j+2,hj=>absurd hj (by omega)⟩
 unfold fW at h;split at h
 ·rename_i t k n;split at h
  ·rename_i hc;simp only [zAO,zCJ] at hc;obtain ⟨rfl,hc⟩:=hc;obtain ⟨rfl,_⟩:=hr;unfold ZB at hc;cases h;cases ok
   ·refine ⟨.int k n,fun W=>?_,rfl⟩;split at hc <;> first | (cases hc;done) | skip
    rename_i u HA hu;cases u <;> first | (exact absurd rfl (HA _)) | simp [Instr.typeAssert,zCY hu]
   ·refine ⟨.tuple #[.int k n,.bool true],fun W=>?_,two k n true⟩;split at hc <;> first | (cases hc;done) | skip
    rename_i u HA hu;cases u <;> first | (exact absurd rfl (HA _)) | simp [Instr.typeAssert,zCY hu]
  ·cases h
 ·split at h
  ·rename_i hc;simp only [zAO] at hc;obtain ⟨rfl,hc⟩:=hc;obtain ⟨rfl,_⟩:=hr;unfold ZB at hc;split at h
   ·rename_i i hi;split at h
    ·rename_i k n hz;cases h;refine ⟨.tuple #[.int k n,.bool false],fun W=>?_,two k n false⟩;split at hc <;> first | (cases hc;done) | skip
     rename_i u HA hu;cases u <;> first | (exact absurd rfl (HA _)) | simp [Instr.typeAssert,zCY hu,zeroValue,typeInfo,hi,hz]
    ·cases h
   ·cases h
  ·cases h
 ·cases h
def Tt (P:Program)(S:St):Op -> Option (DV×Prop)
 | .typeAssert x _ to ok=>match fW P to ok (AT S.fr x) with
  | some d=>some (d,True)
  | none=>none
 | .build t parts=>Xl P S t parts.toList
 | .index t x i=>match AT S.fr i with
  | .int _ n=>bu P t (AT S.fr x) n
  | _=>none
 | .field t x f=>Yr P t (AT S.fr x) f
 | .slice t x lo hi none=>match Xx S lo with
  | some l=>match Xx S hi with
   | some h=>fB P t (AT S.fr x) l h
   | none=>none
  | none=>none
 | .binOp op t x y t'=>match VP P op t (AT S.fr x) (AT S.fr y) with
  | some r=>some r
  | none=>pop P S (.binOp op t x y t')
 | op=>pop P S op
section
variable {P:Program} {Γ:Aj} {N:Nat -> Prop} {S:St} {ρ:List AE} {a:Act} {w:World}
def ZY (M:Nat -> Prop)(w:World)(ρ:List AE)(l:List DV)(cs:Array Value):Prop:=cs.size=l.length/\ ∀ j,j<l.length -> ∃ u,cs[j]? =some u/\ AI M w (l.getD j .any) ρ u
theorem qb: ∀ (vs:List Value) (k off:Nat) (cs:Array Value),((vs.zipIdx k).foldl (fun (cs:Array Value) (x:Value×Nat)=>cs.setIfInBounds (off+x.2) x.1) cs).size=cs.size/\
 ∀ j,((vs.zipIdx k).foldl (fun (cs:Array Value) (x:Value×Nat)=>cs.setIfInBounds (off+x.2) x.1) cs)[j]? =if off+k<=j/\ j<off+k+vs.length/\ j<cs.size then vs[j-(off+k)]? else cs[j]?
 | [],k,off,cs=>⟨rfl,fun j=>by
  rw [zAY]
  ·rfl
  ·simp only [zFd];omega⟩
 | v::vs,k,off,cs=>by
  obtain ⟨h1,h2⟩:=qb vs (k+1) off (cs.setIfInBounds (off+k) v);rw [List.zipIdx_cons,zFv];refine ⟨by rw [h1];simp,fun j=>?_⟩;rw [h2 j,zCl];simp only [Array.size_setIfInBounds]
  by_cases e:j=off+k
  ·subst e;rw [zAY (by omega),zCk,zAA rfl]
   by_cases hs:off+k<cs.size
   ·rw [zAA hs,zAA (by omega),Nat.sub_self];rfl
   ·rw [zAY hs,zAY (by omega),zG5 (by omega)]
  ·by_cases e2:off+(k+1)<=j/\ j<off+(k+1)+vs.length/\ j<cs.size
   ·rw [zAA e2,zAA (by omega),show j-(off+k)=(j-(off+(k+1)))+1 by omega];simp
   ·rw [zAY e2,zAY (by omega),zCk,zAY (by omega)]
theorem pE {M:Nat -> Prop}{JP:Nat -> Option (Nat×Nat)}: ∀ (parts:List (Nat×Operand)) (l:List DV) (cs:Array Value) (r:List DV),ZY M w ρ l cs -> (∀ x,AI M w (AT S.fr x) ρ (a.eval x)) ->
 Yw JP l (parts.map fun x=>(x.1,AT S.fr x.2))=some r -> ∃ rs,Instr.fill JP cs (parts.map fun x=>(x.1,a.eval x.2))=some rs/\ ZY M w ρ r rs
 | [],l,cs,r,hc,_,h=>by cases h;exact ⟨cs,rfl,hc⟩
 | (i,x)::rest,l,cs,r,hc,hr,h=>by
  simp only [zFg,Yw] at h;split at h
  ·cases h
  ·rename_i off size EM;split at h
   ·cases h
   ·rename_i ds Ey;split at h
    ·rename_i Av;obtain ⟨c1,c2⟩:=Va Ey (hr x);have Af:(a.eval x).cells.size=size:=by rw [c1,Av.1]
     have nu: ¬ (off+(a.eval x).cells.size>cs.size):=by rw [c1,hc.1];omega
     obtain ⟨s1,s2⟩:=qb (a.eval x).cells.toList 0 off cs
     have Im:ZY M w ρ (N5 l off ds) ((a.eval x).cells.zipIdx.foldl (fun cs (c,j)=>cs.setIfInBounds (off+j) c) cs):=by
      have e0:((a.eval x).cells.zipIdx.foldl (fun cs (c,j)=>cs.setIfInBounds (off+j) c) cs)=(((a.eval x).cells.toList.zipIdx 0).foldl (fun (cs:Array Value) (x:Value×Nat)=>cs.setIfInBounds (off+x.2) x.1) cs):=by
       rw [←Array.foldl_toList];simp
      rw [e0];refine ⟨by rw [s1,Z5,hc.1],fun j hj=>?_⟩;rw [Z5] at hj;rw [s2 j,Z7 l off ds hj]
      by_cases e:off<=j/\ j<off+ds.length
      ·rw [zAA (by simp;rw [c1,hc.1];omega),zAA e];obtain ⟨u,g1,g2⟩:=c2 (j-off) (by omega);exact ⟨u,by simpa using g1,g2⟩
      ·rw [zAY (by simp;rw [c1];omega),zAY e];exact hc.2 j hj
     obtain ⟨rs,g1,g2⟩:=pE rest _ _ r Im hr h;refine ⟨rs,?_,g2⟩;simp only [zFg,Instr.fill,EM];rw [zAY (by simp only [zCL,zCJ];omega)];exact g1
    ·cases h
theorem wm {t:TypeId}{z:Value}{JP:Nat -> Option (Nat×Nat)}(h:ap P t=some (z,JP))(parts:List (Nat×Value)):P.built t parts=Instr.fill JP z.cells parts:=by
 unfold ap at h;unfold Program.built
 repeat' (split at h)
 all_goals first
  | (cases h;done)
  | (cases h;simp_all)
theorem yb (R:AP P Γ N S ρ a w){t:TypeId}{parts:Array (Nat×Operand)}{d:DV}{vc:Prop}(h:Xl P S t parts.toList=some (d,vc)):Yl P N w (MS N S.h ρ) ρ (Instr.build t (parts.map fun (i,x)=>(i,a.eval x))) d:=by
 unfold Xl at h;split at h
 ·rename_i z JP hp;split at h
  ·rename_i l hl;cases h
   have h0:ZY (MS N S.h ρ) w ρ (z.cells.toList.map Gz) z.cells:=⟨by simp,fun j hj=>by
    have BM:j<z.cells.size:=by simpa using hj
    exact ⟨z.cells[j],by simp [BM],by
     have:(z.cells.toList.map Gz).getD j .any=Gz z.cells[j]:=by simp [BM]
     rw [this];exact Xb _⟩⟩
   obtain ⟨rs,g1,g2,g3⟩:=pE parts.toList _ _ _ h0 (BO R) hl;refine Yl.pure (v:=.agg rs) (fun W=>run_build W t _ rs ?_) ⟨rs,rfl,g2,g3⟩;rw [wm hp];have e1:(parts.map fun (i,x)=>(i,a.eval x)).toList=parts.toList.map fun x=>(x.1,a.eval x.2):=by simp
   rw [e1];exact g1
  ·cases h
 ·cases h
theorem Wm {t:TypeId}{cs:Array Value}{off size m:Nat}{f:Nat -> DV}{d:DV}{M:Nat -> Prop}{i:TypeInfo}(hi:P.info? t=some i)(Av:i.size=size)(Do:cs.size=m)(hr: ∀ j,j<m -> ∃ u,cs[j]? =some u/\ AI M w (f j) ρ u)(h:LE P t m f off size=some d):Yl P N w M ρ (part t cs off) d:=by
 unfold LE at h;split at h
 ·rename_i B2;split at h
  ·rename_i h1;split at h
   ·rename_i hs;cases h;obtain ⟨u,g1,g2⟩:=hr off (by omega);unfold Fs at h1;simp only [zAO,zGt,zCg] at h1;obtain ⟨⟨dd,hd⟩,hn⟩:=h1;refine Yl.pure (v:=u) (fun W=>?_) g2;unfold part;rw [zBx,TV hd];simp [Result.andThen,hn,g1]
   ·cases h
  ·split at h
   ·rename_i h2;cases h;obtain ⟨h3,i',A8,nH⟩:=fw h2;have ei:i'=i:=zAV (A8.symm.trans hi);subst ei;obtain ⟨dd,hd⟩:=mr h3;refine Yl.pure (v:=.agg (cs.extract off (off+size))) (fun W=>?_) ⟨_,rfl,by simp;omega,fun j hj=>?_⟩
    ·unfold part;rw [zBx,TV hd];simp only [Result.andThen,h3,zFV];rw [zBx,J7 hi,Av];rfl
    ·obtain ⟨u,g1,g2⟩:=hr (off+j) (by omega);refine ⟨u,?_,IL hj g2⟩;rw [Array.getElem?_extract];rw [zAA (by omega)];exact g1
   ·cases h
 ·cases h
theorem zK (R:AP P Γ N S ρ a w){t:TypeId}{x d:DV}{vc:Prop}{v:Value}{k:IntKind}{n:Int}(hx:AI (MS N S.h ρ) w x ρ v)(h:bu P t x n=some (d,vc))(hv:vc):Yl P N w (MS N S.h ρ) ρ (Instr.index t v (.int k n)) d:=by
 unfold bu at h;split at h
 ·rename_i m f;obtain ⟨cs,rfl,hs,hr⟩:=hx;split at h
  ·rename_i len e hu;split at h
   ·rename_i i hi;split at h
    ·rename_i hc;cases h;simp only [zAO,zCR] at hc;obtain ⟨⟨h1,h2⟩,rfl⟩:=hc
     have hp:LE P e len f n.toNat 1=some (f n.toNat):=by
      unfold LE;rw [zAA (by omega),zAA h1,zAA rfl]
     obtain ⟨u,g1,g2⟩:=Wm (P:=P) hi h2 hs hr hp;refine ⟨u,fun W hE=>?_,g2⟩;unfold Instr.index;simp only [asIntOf,zBx,zGl,Result.andThen,zCY hu];rw [zAA ⟨hv.1,hv.2⟩];simp only [zBx,J7 hi,Result.andThen,h2,zCm];exact g1 W hE
    ·cases h
   ·cases h
  ·cases h
 ·cases h
theorem zC5 (R:AP P Γ N S ρ a w){t:TypeId}{x d:DV}{vc:Prop}{v:Value}{fi:Nat}(hx:AI (MS N S.h ρ) w x ρ v)(h:Yr P t x fi=some (d,vc)):Yl P N w (MS N S.h ρ) ρ (Instr.field t v fi) d:=by
 unfold Yr at h;split at h
 ·rename_i m f;obtain ⟨cs,rfl,hs,hr⟩:=hx;split at h
  ·rename_i fs hu;split at h
   ·rename_i fd hf;split at h
    ·rename_i i hi;split at h
     ·rename_i d' hp;cases h;obtain ⟨u,g1,g2⟩:=Wm (P:=P) hi rfl hs hr hp;refine ⟨u,fun W hE=>?_,g2⟩;unfold Instr.field;simp only [zBx,zCY hu,Result.andThen,hf,asAgg,zGl];exact g1 W hE
     ·cases h
    ·cases h
   ·cases h
  ·cases h
 ·cases h
theorem vP {k:IntKind}{n:Int}{y:Nat}{c:BoundsCode}(h0:0<=n)(h1:n<=y)(W:World):(Instr.sliceBound (.int k n) y c).run P W= .ok n.toNat W:=by
 unfold Instr.sliceBound;simp only [asIntOf,zBx,zGl,Result.andThen];rw [zAA ⟨h0,h1⟩];rfl
theorem mu (R:AP P Γ N S ρ a w){o:Option Operand}{l:Option Int}(h:Xx S o=some l): ∃ k,o.map a.eval=l.map (Value.int k):=by
 cases o with
 | none=>cases h;exact ⟨.i64,rfl⟩
 | some x=>
  simp only [Xx] at h;split at h
  ·rename_i k n e;cases h;have:=BO R x;rw [e] at this;exact ⟨k,by simp only [zCA];rw [show a.eval x=_ from this]⟩
  ·cases h
theorem Wo {t e:TypeId}{i:TypeInfo}{ad:Option Addr}{len cap:Nat}{kl kh:IntKind}{lo hi:Option Int}(hu:P.underlying t=some (.slice e))(A8:P.info? e=some i)(h0:0<=lo.getD 0)(h1:lo.getD 0<=hi.getD len)(h2:hi.getD len<=len)(h3:len<=cap)(W:World):
 (Instr.sliceAt t (.slice ad len cap) (lo.map (Value.int kl)) (hi.map (Value.int kh)) none).run P W=
  .ok (.slice (if cap=(lo.getD 0).toNat then ad else ad.map (·.add ((lo.getD 0).toNat*i.size))) ((hi.getD len).toNat-(lo.getD 0).toNat) (cap-(lo.getD 0).toNat)) W:=by
 have hb:(Instr.sliceBounds true len cap (lo.map (Value.int kl)) (hi.map (Value.int kh)) none).run P W= .ok ((lo.getD 0).toNat,(hi.getD len).toNat,cap) W:=by
  cases lo <;> cases hi <;> simp only [Option.map_none,zCA,Option.getD_none,zGF] at* <;>
   simp (disch:=omega) [Instr.sliceBounds,vP,zBx,Result.andThen]
 unfold Instr.sliceAt;simp only [zBx,zCY hu,Result.andThen];unfold Instr.slice;simp only [zBx,zCY hu,Result.andThen,hb,J7 A8];rfl
theorem zDs (R:AP P Γ N S ρ a w){t:TypeId}{x d:DV}{vc:Prop}{v:Value}{kl kh:IntKind}{lo hi:Option Int}(hx:AI (MS N S.h ρ) w x ρ v)(h:fB P t x lo hi=some (d,vc))(hv:vc):
 Yl P N w (MS N S.h ρ) ρ (Instr.sliceAt t v (lo.map (Value.int kl)) (hi.map (Value.int kh)) none) d:=by
 unfold fB at h;split at h
 ·rename_i e hu;split at h
  ·rename_i i A8
   have gd: ∀ {α:Type} (l:List α) (q c j:Nat) (d:α),j<((l.take c).drop q).length -> ((l.take c).drop q).getD j d=l.getD (q+j) d:=fun l q c j d hj=>by
    simp only [zGm,List.length_take] at hj;simp only [u8,zFh,zFW];rw [zAA (by omega)]
   split at h
   ·rename_i l;split at h
    ·rename_i hs;cases h;obtain ⟨ad,cap,rfl,g1,g2,g3⟩:=hx;obtain ⟨v1,v2,v3⟩:=hv;have hl:((l.take (hi.getD l.length).toNat).drop (lo.getD 0).toNat).length=(hi.getD l.length).toNat-(lo.getD 0).toNat:=by simp;omega
     refine Yl.pure (fun W=>Wo hu A8 v1 v2 v3 g1 W) ⟨_,_,by rw [hl],by omega,by omega,fun j hj=>?_⟩;have BM:=hj;rw [hl] at BM;obtain ⟨b,o,rfl,q1,q2⟩:=g3 ((lo.getD 0).toNat+j) (by omega);refine ⟨b,o+(lo.getD 0).toNat,?_,q1,?_⟩
     ·rw [zAY (by omega)];simp only [zCA,Jt,hs,zCm]
     ·rw [gd _ _ _ _ _ hj,zCd];exact q2
    ·cases h
   ·rename_i l;split at h
    ·rename_i hs;cases h;obtain ⟨ad,cap,rfl,g1,g2,g3⟩:=hx;obtain ⟨v1,v2,v3⟩:=hv;have hl:((l.take (hi.getD l.length).toNat).drop (lo.getD 0).toNat).length=(hi.getD l.length).toNat-(lo.getD 0).toNat:=by simp;omega
     refine Yl.pure (fun W=>Wo hu A8 v1 v2 v3 g1 W) ⟨_,_,by rw [hl],by omega,by omega,fun j hj=>?_⟩;have BM:=hj;rw [hl] at BM;obtain ⟨b,o,rfl,q1,q2⟩:=g3 ((lo.getD 0).toNat+j) (by omega);refine ⟨b,o+(lo.getD 0).toNat,?_,q1,?_⟩
     ·rw [zAY (by omega)];simp only [zCA,Jt,hs,zCm]
     ·rw [gd _ _ _ _ _ hj,zCd];exact q2
    ·cases h
   ·rename_i m n f;split at h
    ·rename_i hs;cases h;obtain ⟨ad,cap,rfl,g1,g2,g3⟩:=hx;obtain ⟨v1,v2,v3⟩:=hv;refine Yl.pure (fun W=>Wo hu A8 v1 v2 v3 g1 W) ⟨_,_,rfl,by omega,by omega,fun i1 j JX hj=>?_⟩;obtain ⟨b,o,u,rfl,q1,q2,q3⟩:=g3 ((lo.getD 0).toNat+i1) j (by omega) hj;refine ⟨b,o+(lo.getD 0).toNat*m,u,?_,q1,?_,q3⟩
     ·rw [zAY (by omega)];simp only [zCA,Jt,hs]
     ·rw [zF0,zCd] at q2;rw [zCd];exact q2
    ·cases h
   ·rename_i k m off n;split at h
    ·rename_i hs;cases h;obtain ⟨p,cap,hp,rfl,g1,g2,g3⟩:=hx;obtain ⟨v1,v2,v3⟩:=hv;have B2:(lo.getD 0).toNat<=cap:=by omega
     refine Yl.pure (fun W=>Wo hu A8 v1 v2 v3 g1 W) ⟨p,_,cap-(lo.getD 0).toNat,hp,rfl,by omega,by omega,fun hc=>⟨?_,?_⟩⟩
     ·rw [zAY (by omega)];simp only [zCA,Jt,hs,zF0,zCd]
     ·have:cap*m=(lo.getD 0).toNat*m+(cap-(lo.getD 0).toNat)*m:=by rw [←zF0];congr 1;omega
      rw [zF0];omega
    ·cases h
   ·cases h
  ·cases h
 ·cases h
theorem kG {e:TypeId}{k':IntKind}{i:TypeInfo}{n d:Nat}{xs ys:Array Value}{f g:Nat -> DV}{M:Nat -> Prop}(hi:P.info? e=some i)(hs:i.size=1)(h1:Fs P e=true)(hk:P.underlying e=some (.int k'))(hx:xs.size=n)(hy:ys.size=n) 
 (rx: ∀ j,j<n -> ∃ u,xs[j]? =some u/\ AI M w (f j) ρ u) (ry: ∀ j,j<n -> ∃ u,ys[j]? =some u/\ AI M w (g j) ρ u) (hI: ∀ j,j<n -> Ie (f j)=true/\ Ie (g j)=true):
 ∀ (is:List Nat),(∀ j∈is,j<n) -> ∀ W,Keep N w W -> (Op.eqItems (d+1) e 1 xs ys is).run P W= .ok (NT f g is) W
 | [],_,W,_=>rfl
 | j::is,hb,W,hE=>by
  have hj:j<n:=hb j (by simp)
  have Tz: ∀ {cs:Array Value} {f:Nat -> DV},cs.size=n -> (∀ j,j<n -> ∃ u,cs[j]? =some u/\ AI M w (f j) ρ u) -> Ie (f j)=true -> (part e cs (j*1)).run P W= .ok (.int .i64 (G7 (f j))) W:=by
   intro cs f hc hr hf
   have hp:LE P e n f (j*1) 1=some (f j):=by
    unfold LE;rw [zAA (by omega),zAA h1,zAA rfl,zCm]
   obtain ⟨u,g1,g2⟩:=Wm (P:=P) hi hs hc hr hp;rw [g1 W hE,Xw hf g2]
  simp only [Op.eqItems,zBx,Tz hx rx (hI j hj).1,Tz hy ry (hI j hj).2,Result.andThen,zGx W d e .i64 k' _ _ hk];unfold NT;cases hq:(G7 (f j)==G7 (g j)) with
  | false=>rfl
  | true=>
   simp only [zCX,zCZ,zF2,zCj];exact kG hi hs h1 hk hx hy rx ry hI is (fun j hj=>hb j (by simp [hj])) W hE
theorem kH {m d:Nat}{xs ys:Array Value}{f g:Nat -> DV}{M:Nat -> Prop}(hx:xs.size=m)(hy:ys.size=m) 
 (rx: ∀ j,j<m -> ∃ u,xs[j]? =some u/\ AI M w (f j) ρ u) (ry: ∀ j,j<m -> ∃ u,ys[j]? =some u/\ AI M w (g j) ρ u):
 ∀ (fs:List Field),fs.all (eP P m f g)=true -> ∀ W,Keep N w W -> (Op.eqFields (d+1) xs ys fs).run P W= .ok (NT f g (fs.map (·.offset))) W
 | [],_,W,_=>rfl
 | fd::fs,h,W,hE=>by
  rw [zGY,zAO] at h;obtain ⟨h,hr⟩:=h;unfold eP at h;simp only [zAO] at h;obtain ⟨h1,h2,h3,h4,h5,h6,h7⟩:=h;have h1:fd.name≠ "_" :=by simpa using h1
  have h5:fd.offset<m:=zCo h5;split at h2
  ·rename_i i hi;have h2:i.size=1:=by simpa using h2
   split at h4
   ·rename_i k' hk
    have Tz: ∀ {cs:Array Value} {f:Nat -> DV},cs.size=m -> (∀ j,j<m -> ∃ u,cs[j]? =some u/\ AI M w (f j) ρ u) -> Ie (f fd.offset)=true -> (part fd.type cs fd.offset).run P W= .ok (.int .i64 (G7 (f fd.offset))) W:=by
     intro cs f hc hr hf
     have hp:LE P fd.type m f fd.offset 1=some (f fd.offset):=by
      unfold LE;rw [zAA (by omega),zAA h3,zAA rfl]
     obtain ⟨u,g1,g2⟩:=Wm (P:=P) hi h2 hc hr hp;rw [g1 W hE,Xw hf g2]
    simp only [Op.eqFields,zAA h1,zBx,Tz hx rx h6,Tz hy ry h7,Result.andThen,zGx W d fd.type .i64 k' _ _ hk];rw [zFg];unfold NT;cases hq:(G7 (f fd.offset)==G7 (g fd.offset)) with
    | false=>rfl
    | true=>
     simp only [zCX,zCZ,zF2,zCj];exact kH hx hy rx ry fs hr W hE
   ·cases h4
  ·cases h2
theorem zDc {M:Nat -> Prop}{op:BinOp}{t:TypeId}{x y:DV}{vx vy:Value}{d:DV}{vc:Prop}(ox oy:Operand)(hx:AI M w x ρ vx)(hy:AI M w y ρ vy)(h:VP P op t x y=some (d,vc)):
 Yl P N w M ρ (do eqGuard op t ox oy vx vy;binOp op t vx vy) d:=by
 have key: ∀ {m m':Nat} {f g:Nat -> DV} {is:List Nat} {xs ys:Array Value},Y0 P t f g m m'=some is -> xs.size=m -> ys.size=m' -> (∀ j,j<m -> ∃ u,xs[j]? =some u/\ AI M w (f j) ρ u) -> (∀ j,j<m' -> ∃ u,ys[j]? =some u/\ AI M w (g j) ρ u) ->
  P.eqGuardType P.depth t=false/\ ∀ W,Keep N w W -> (Op.equalIn 10000 t (.agg xs) (.agg ys)).run P W= .ok (NT f g is) W:=by
  intro m m' f g is xs ys hb sx sy rx ry;unfold Y0 at hb;split at hb
  ·rename_i fs hu;split at hb
   ·rename_i hc;cases hb;simp only [zAO,zCR] at hc;obtain ⟨c1,c2,c3,c4⟩:=hc;subst c3;have e:P.fieldsOf t=fs:=by unfold Program.fieldsOf;rw [hu]
    refine ⟨c2,fun W hE=>?_⟩;rw [run_equalIn_struct W 9999 t xs ys (by rw [e];exact hu) c1,e];exact kH (d:=9998) sx sy rx ry fs.toList c4 W hE
   ·cases hb
  ·rename_i n e hu;split at hb
   ·rename_i i hi;split at hb
    ·rename_i k' hk;split at hb
     ·rename_i hc;cases hb;simp only [zAO,zCR,zAX,zBf] at hc;obtain ⟨⟨⟨⟨⟨c1,c2⟩,c3⟩,c4⟩,c5⟩,c6⟩:=hc;subst c4;subst c5;refine ⟨c3,fun W hE=>?_⟩;have DP:P.cellsOf e=1:=by unfold Program.cellsOf;rw [hi];exact c1
      rw [run_equalIn_array W 9999 xs ys hu hi,DP];exact kG (d:=9998) hi c1 c2 hk sx sy rx ry c6 _ (fun j hj=>zBf.1 hj) W hE
     ·cases hb
    ·cases hb
   ·cases hb
  ·cases hb
 unfold VP at h;split at h
 ·rename_i m f m' g;split at h
  ·rename_i is hb;cases h;obtain ⟨xs,rfl,sx,rx⟩:=hx;obtain ⟨ys,rfl,sy,ry⟩:=hy;obtain ⟨k1,k2⟩:=key hb sx sy rx ry;refine ⟨.bool _,fun W hE=>?_,rfl⟩;simp only [zBx,run_eqGuard_agg W .eql t ox oy xs ys k1,Result.andThen,run_eql_struct,k2 W hE]
  ·cases h
 ·rename_i m f m' g;split at h
  ·rename_i is hb;cases h;obtain ⟨xs,rfl,sx,rx⟩:=hx;obtain ⟨ys,rfl,sy,ry⟩:=hy;obtain ⟨k1,k2⟩:=key hb sx sy rx ry;refine ⟨.bool _,fun W hE=>?_,rfl⟩;simp only [zBx,run_eqGuard_agg W .neq t ox oy xs ys k1,Result.andThen,run_neq_struct,k2 W hE]
  ·cases h
 ·cases h
theorem wi (R:AP P Γ N S ρ a w)(o:Oper){d:DV}{vc:Prop}(h:Tt P S o.op=some (d,vc))(hv:vc):
 ∃ v,(∀ W,Keep N w W -> (execOp a.eval o).run P W= .ok (.value v) W)/\ AI (MS N S.h ρ) w d ρ v:=by
 unfold Tt at h;split at h
 ·rename_i x xt to ok ho;split at h
  ·rename_i d' hd;cases h;obtain ⟨u,h1,h2⟩:=zEx (xt:=xt) (BO R x) hd;exact Hi (s:=Instr.typeAssert (a.eval x) xt to ok) (by unfold execOp;rw [ho]) ⟨u,fun W _=>h1 W,h2⟩
  ·cases h
 ·rename_i t parts ho;exact Hi (by unfold execOp;rw [ho]) (yb R h)
 ·rename_i t x i ho;have hi:=BO R i;split at h
  ·rename_i k n e;rw [e] at hi;refine Hi (s:=Instr.index t (a.eval x) (a.eval i)) (by unfold execOp;rw [ho]) ?_;rw [show a.eval i=_ from hi];exact zK R (BO R x) h hv
  ·cases h
 ·rename_i t x f ho;exact Hi (s:=Instr.field t (a.eval x) f) (by unfold execOp;rw [ho]) (zC5 R (BO R x) h)
 ·rename_i t x lo hi ho;split at h
  ·rename_i l hl;split at h
   ·rename_i hh hhh;obtain ⟨k1,e1⟩:=mu R hl;obtain ⟨k2,e2⟩:=mu R hhh;refine Hi (s:=Instr.sliceAt t (a.eval x) (lo.map a.eval) (hi.map a.eval) none) (by unfold execOp;rw [ho];rfl) ?_;rw [e1,e2];exact zDs R (BO R x) h hv
   ·cases h
  ·cases h
 ·rename_i op t x y t' ho;split at h
  ·rename_i r hr;cases h;exact Hi (by unfold execOp;rw [ho]) (zDc x y (BO R x) (BO R y) hr)
  ·rw [←ho] at h;exact lB R o h hv
 ·exact lB R o h hv
end
abbrev zB0:=@List.getElem_mem
def BY:List Prop -> Prop
 | []=>True
 | p::ps=>p/\ BY ps
theorem DE {l l':List Prop}:BY (l++l')↔BY l/\ BY l':=by
 induction l with
 | nil=>simp [BY]
 | cons p ps ih=>simp [BY,ih,and_assoc]
def AL (d d':DV):Prop:=∀ (M:Nat -> Prop) (w:World) (ρ:List AE) (v:Value),AI M w d ρ v -> AI M w d' ρ v
section
variable {P:Program} {Γ:Aj} {N:Nat -> Prop}
theorem Dk {w:World}{M M':Nat -> Prop}(h: ∀ b,M' b -> M b)(ρ:List AE):BH M w ρ M' w ρ:=⟨fun _ _ _ _=>rfl,fun b hb=>.inl (h b hb),fun _ _ h=>h⟩
def eK:DO -> Option (Nat×Nat×DV)
 | .ints l=>some (1,l.length,.ints l)
 | .bools l=>some (1,l.length,.bools l)
 | .arr m n f=>some (m,n,.sl m n f)
 | .mo (.rws ls none)=>some (1,ls.length,.sl 1 ls.length fun i j=>([.ints (ls.getD i default)]:List DV).getD j .any)
 | _=>none
def Iy (k m:Nat)(v:DV):DV -> DV
 | .msl k' m' off n=>if k'=k/\ m'=m/\ off=0 then v else .msl k' m' off n
 | d=>d
def Rf (k m n:Nat):DV -> List Prop
 | .msl k' m' off n'=>if k'=k/\ m'=m/\ off=0 then [n'=n] else []
 | _=>[]
def Yn (k m:Nat)(v:DV):Option DO -> Option DO
 | some (.cells l)=>some (.cells (l.map (Iy k m v)))
 | some (.ro l)=>some (.ro (l.map (Iy k m v)))
 | o=>o
def ou (k m n:Nat):Option DO -> List Prop
 | some (.cells l)=>l.flatMap (Rf k m n)
 | some (.ro l)=>l.flatMap (Rf k m n)
 | _=>[]
def Jf (k m:Nat)(v:DV)(S:St):St:=⟨S.fr.map (Iy k m v),(S.h.set k none).map (Yn k m v)⟩
theorem fm {l:List DV}{f:DV -> List Prop}(h:BY (l.flatMap f)){d:DV}(hd:d∈l):BY (f d):=by
 induction l with
 | nil=>simp at hd
 | cons x l ih=>
  rw [zG7] at h;obtain ⟨h1,h2⟩:=DE.1 h;rcases zCC.1 hd with rfl | hd
  ·exact h1
  ·exact ih h2 hd
theorem qm {l:List (Option DO)}{f:Option DO -> List Prop}(h:BY (l.flatMap f)){d:Option DO}(hd:d∈l):BY (f d):=by
 induction l with
 | nil=>simp at hd
 | cons x l ih=>
  rw [zG7] at h;obtain ⟨h1,h2⟩:=DE.1 h;rcases zCC.1 hd with rfl | hd
  ·exact h1
  ·exact ih h2 hd
theorem zC2 {M M':Nat -> Prop}{w:World}{ρ:List AE}{p:AE}{o:DO}{m n:Nat}{v:DV}(ho:eK o=some (m,n,v))(hr:Dr P M w ρ p o)(hN: ∀ b,p.foot b -> ¬ M' b)(hM: ∀ b,M' b -> M b){u:Value}{cap:Nat}(hu:u= .slice (some ⟨p.blk,p.off+0*m,none⟩) n cap)(h1:n<=cap)(h2:n<=LB):AI M' w v ρ u:=by
 cases o with
 | cells l=>cases ho
 | iter e=>cases ho
 | ro l=>cases ho
 | mo x=>
  cases x with
  | rws ls Bw=>
   cases Bw with
   | some y=>cases ho
   | none=>
    cases ho;obtain ⟨vs,hS⟩:=hr;obtain ⟨cs,t,e1,e2,e3,e4⟩:=hS.row;refine ⟨_,cap,hu,h1,h2,fun i j hi hj=>?_⟩;obtain rfl:j=0:=by omega
    have A8:i+1<vs.size:=by rw [hS.size];omega
    have e5:=e4 i hi;rw [zCV A8] at e5;refine ⟨p.blk,p.off,vs[i+1],by simp,hN _ hS.blk,by unfold World.cell?;simp [e1,e5],?_⟩;have hs:=hS.has i hi fun L e=>by cases e
    rw [show vs.getD (i+1) undef=vs[i+1] by simp [A8]] at hs;rcases hs with ⟨e,e'⟩ | ⟨q,c,e,g1,g2,g3,g4,g5⟩
    ·rw [e']
     show AI M' w (.ints (ls.getD i default)) [] _
     rw [e];exact ⟨none,0,rfl,zBl _,by decide,fun j hj=>absurd hj (zBk j)⟩
    ·rw [e];refine ⟨_,c,rfl,g1,g3,fun k hk=>⟨q.blk,q.off,rfl,hN _ g4.1,?_⟩⟩;obtain ⟨x,k1,k2⟩:=g5.cell hk;rw [k1,k2]
  | _=>cases ho
 | ints l=>
  cases ho;have hN:=hN p.blk (by rw [hr.1]);refine ⟨_,cap,hu,h1,h2,fun j hj=>⟨p.blk,p.off,by simp,hN,?_⟩⟩;obtain ⟨x,e1,e2⟩:=AQ.cell hr hj;rw [e1,e2]
 | bools l=>
  cases ho;have hN:=hN p.blk (by rw [hr.1]);refine ⟨_,cap,hu,h1,h2,fun j hj=>⟨p.blk,p.off,by simp,hN,?_⟩⟩;obtain ⟨x,e1,e2⟩:=AQ.cell hr hj;rw [e1,e2]
 | arr m n f=>
  cases ho;have hN:=hN p.blk (by rw [hr.1]);refine ⟨_,cap,hu,h1,h2,fun i j hi hj=>?_⟩;have AK:i*m+j<n*m:=zBa (by rw [zG6];omega:i*m+j<(i+1)*m) (zFn m hi);obtain ⟨x,e1,e2⟩:=AQ.cell hr AK;have hm:0<m:=by omega
  have d1:(i*m+j)/m=i:=by rw [zF5,Nat.mul_add_div hm];simp [Nat.div_eq_of_lt hj]
  have d2:(i*m+j) % m=j:=by rw [zF5,Nat.mul_add_mod];exact zGk hj
  rw [d1,d2] at e2;exact ⟨p.blk,p.off,x,by simp,hN,e1,AI.out _ (Dk hM []) e2⟩
theorem VE {k m:Nat}{v:DV}{h:DH}{i:Nat}{o':DO}(hi:((h.set k none).map (Yn k m v))[i]? =some (some o')):i≠k/\ ∃ o,h[i]? =some (some o)/\ Yn k m v (some o)=some o':=by
 rw [zBt] at hi;cases hx:(h.set k none)[i]? with
 | none=>rw [hx] at hi;cases hi
 | some x=>
  rw [hx] at hi;have hi:Yn k m v x=some o':=zAV hi;cases x with
  | none=>cases hi
  | some o=>exact ⟨(GW hx).1,o,(GW hx).2,hi⟩
def D4 (S S':St):Prop:=∀ (P:Program) (Γ:Aj) (N:Nat -> Prop) (ρ:List AE) (a:Act) (w:World),AP P Γ N S ρ a w -> AP P Γ N S' ρ a w/\ Ap S.h ρ w S'.h ρ w
theorem D4.frz {S:St}(k:Nat){o:DO}{m n:Nat}{v:DV}(hk:S.h[k]? =some (some o))(ho:eK o=some (m,n,v))(hc:BY (S.fr.flatMap (Rf k m n)))(It:BY (S.h.flatMap (ou k m n))):D4 S (Jf k m v S):=fun P Γ N ρ a w R=>by
 obtain ⟨p,hp,hr⟩:=R.hr.obj k _ hk
 have Kh: ∀ b,MO (Jf k m v S).h ρ b -> ∃ i o p',i≠k/\ S.h[i]? =some (some o)/\ ρ[i]? =some p'/\ p'.foot b:=by
  rintro b ⟨i,o',p',g1,g2,g3⟩;obtain ⟨e1,o2,e2,_⟩:=VE g1;exact ⟨i,o2,p',e1,e2,g2,g3⟩
 have hN: ∀ b,p.foot b -> ¬ MS N (Jf k m v S).h ρ b:=by
  rintro b hf (hn | hb)
  ·exact (R.hr.cel k _ p b hk hp hf).2.1 hn
  ·obtain ⟨i,o2,p',e1,e2,g2,g3⟩:=Kh _ hb;exact R.hr.dis i k _ _ p' p b e1 e2 hk g2 hp g3 hf
 have hM: ∀ b,MS N (Jf k m v S).h ρ b -> MS N S.h ρ b:=fun b hb=>hb.imp id fun hb=>by
  obtain ⟨i,o2,p',_,e2,g2,g3⟩:=Kh _ hb;exact ⟨i,o2,p',e2,g2,g3⟩
 have conv: ∀ (d:DV) (u:Value),BY (Rf k m n d) -> AI (MS N S.h ρ) w d ρ u -> AI (MS N (Jf k m v S).h ρ) w (Iy k m v d) ρ u:=by
  intro d u dt hd;cases d with
  | msl k' m' off n'=>
   simp only [Rf,Iy] at dt ⊢;split at dt
   ·rename_i e;obtain ⟨rfl,rfl,rfl⟩:=e;rw [zAA ⟨rfl,rfl,rfl⟩];obtain ⟨p',cap,A5,e,g1,g2,_⟩:=hd;have ep:p'=p:=zAV (A5.symm.trans hp);subst ep;have en:=dt.1;subst en;exact zC2 ho hr hN hM e g1 g2
   ·rename_i e;rw [zAY e];exact AI.out _ (Dk hM ρ) hd
  | _=>exact AI.out _ (Dk hM ρ) hd
 refine ⟨⟨⟨by simp [Jf,R.hr.len],fun i o' hi=>?_,fun i o' p' b g1 g2 g3=>?_,fun i i' o1 o2 p1 p2 b AR g1 g2 g3 g4 g5 g6=>?_,R.hr.nlt,R.hr.gi⟩,⟨by simp [Jf,R.fr.1],fun i hi=>?_⟩⟩,⟨AN.refl _ w,fun b hb=>.inl ?_⟩⟩
 ·obtain ⟨e1,o2,e2,e3⟩:=VE hi;obtain ⟨p',A5,CC⟩:=R.hr.obj i o2 e2;refine ⟨p',A5,?_⟩;cases o2 with
  | cells l=>
   cases e3
   show AQ w p' (l.map (Iy k m v)).length _
   rw [zCM];refine AQ.out CC rfl fun j u hj hu=>?_
   have:(l.map (Iy k m v)).getD j .any=Iy k m v (l.getD j .any):=by simp [hj]
   rw [this];refine conv _ _ ?_ hu
   have Ar:some (DO.cells l)∈S.h:=zB9 e2;have:=qm It Ar;exact fm (l:=l) this (by simp [hj])
  | ints l=>cases e3;exact AQ.out CC rfl fun j u _ hu=>hu
  | bools l=>cases e3;exact AQ.out CC rfl fun j u _ hu=>hu
  | arr m n f=>cases e3;exact AQ.out CC rfl fun j u _ hu=>AI.out _ (Dk hM []) hu
  | iter encs=>
   cases e3;obtain ⟨gf,lb,Rd,q1,q2,q3,q4⟩:=CC;exact ⟨gf,lb,Rd,q1,q2,fun b hb=>⟨fun hm=>(q3 b hb).1 (hM b hm),(q3 b hb).2⟩,q4⟩
  | ro l=>
   cases e3;obtain ⟨r1,r2,r3⟩:=CC;refine ⟨r1,fun hm=>r2 (hM _ hm),?_⟩
   show AQ w _ (l.map (Iy k m v)).length _
   rw [zCM];refine AQ.out r3 rfl fun j u hj hu=>?_
   have:(l.map (Iy k m v)).getD j .any=Iy k m v (l.getD j .any):=by simp [hj]
   rw [this];refine conv _ _ ?_ hu
   have Ar:some (DO.ro l)∈S.h:=zB9 e2;have:=qm It Ar;exact fm (l:=l) this (by simp [hj])
  | mo x=>cases e3;exact CC
 ·obtain ⟨e1,o2,e2,e3⟩:=VE g1;obtain ⟨q1,q2,q3⟩:=R.hr.cel i o2 p' b e2 g2 g3;exact ⟨q1,q2,q3⟩
 ·obtain ⟨e1,o3,e2,_⟩:=VE g1;obtain ⟨Rq,o4,VT,_⟩:=VE g2;exact R.hr.dis i i' o3 o4 p1 p2 b AR e2 VT g3 g4 g5 g6
 ·have A8:i<S.fr.length:=by simpa [Jf] using hi
  have:(Jf k m v S).fr.getD i .any=Iy k m v (S.fr.getD i .any):=by simp [Jf,A8]
  rw [this];refine conv _ _ (fm hc (by simp [A8])) (R.fr.2 i A8)
 ·obtain ⟨i,o2,p',_,e2,g2,g3⟩:=Kh _ hb;exact ⟨i,o2,p',e2,g2,g3⟩
def VF (k:Nat)(S:St):Option (St×List Prop):=match S.h.getD k none with
 | some o=>match eK o with
  | some (m,n,v)=>some (Jf k m v S,S.fr.flatMap (Rf k m n)++S.h.flatMap (ou k m n))
  | none=>none
 | none=>none
theorem D4.frzE {S:St}(k:Nat)(S':St)(vs:List Prop)(h:VF k S=some (S',vs))(hv:BY vs):D4 S S':=by
 unfold VF at h;split at h
 ·rename_i o ho;split at h
  ·rename_i m n v hf;cases h;obtain ⟨h1,h2⟩:=DE.1 hv;refine D4.frz k ?_ hf h1 h2;rw [u8] at ho;cases hx:S.h[k]? with
   | none=>rw [hx] at ho;cases ho
   | some x=>rw [hx] at ho;exact congrArg some ho
  ·cases h
 ·cases h
theorem D4.refl (S:St):D4 S S:=fun _ _ _ _ _ _ R=>⟨R,Ap.refl _ _ _⟩
theorem D4.trans {A B C:St}(h:D4 A B)(k:D4 B C):D4 A C:=fun P Γ N ρ a w R=>by
 obtain ⟨R1,s1⟩:=h P Γ N ρ a w R;obtain ⟨R2,s2⟩:=k P Γ N ρ a w R1;exact ⟨R2,s1.trans s2⟩
theorem MO.put {h:DH}{ρ:List AE}{k:Nat}{o o':DO}(hk:h[k]? =some (some o)){b:Nat}:MO (h.set k (some o')) ρ b↔MO h ρ b:=by
 have AK:=(zAW.1 hk).1;constructor
 ·rintro ⟨i,x,p,h1,h2,h3⟩;rw [zB8] at h1
  by_cases e:k=i
  ·subst e;exact ⟨k,o,p,hk,h2,h3⟩
  ·rw [zAY e] at h1;exact ⟨i,x,p,h1,h2,h3⟩
 ·rintro ⟨i,x,p,h1,h2,h3⟩
  by_cases e:k=i
  ·subst e;exact ⟨k,o',p,by simp [AK],h2,h3⟩
  ·exact ⟨i,x,p,by rw [zB8,zAY e];exact h1,h2,h3⟩
theorem D4.obj {S:St}{k:Nat}{o o':DO}(hk:S.h[k]? =some (some o))(hO: ∀ (P:Program) (M:Nat -> Prop) (w:World) (ρ:List AE) (p:AE),Dr P M w ρ p o -> Dr P M w ρ p o'):D4 S ⟨S.fr,S.h.set k (some o')⟩:=fun P Γ N ρ a w R=>by
 have hM: ∀ b,MS N (S.h.set k (some o')) ρ b↔MS N S.h ρ b:=fun b=>or_congr Iff.rfl (MO.put hk)
 have back: ∀ {i:Nat} {x:DO},(S.h.set k (some o'))[i]? =some (some x) -> ∃ y,S.h[i]? =some (some y)/\ (i=k/\ x=o'∨y=x):=by
  intro i x hi;rw [zB8] at hi
  by_cases e:k=i
  ·subst e;rw [zAA rfl,zAA (zAW.1 hk).1] at hi;cases hi;exact ⟨o,hk,.inl ⟨rfl,rfl⟩⟩
  ·rw [zAY e] at hi;exact ⟨x,hi,.inr rfl⟩
 have O:BH (MS N S.h ρ) w ρ (MS N (S.h.set k (some o')) ρ) w ρ:=Dk (fun b hb=>(hM b).1 hb) ρ;refine ⟨⟨⟨by simp [R.hr.len],fun i x hi=>?_,fun i x p b g1 g2 g3=>?_,fun i i' o1 o2 p1 p2 b AR g1 g2 g3 g4 g5 g6=>?_,R.hr.nlt,R.hr.gi⟩,R.fr.out O⟩,⟨AN.refl _ w,fun b hb=>.inl ((MO.put hk).1 hb)⟩⟩
 ·rw [zB8] at hi
  by_cases e:k=i
  ·subst e;rw [zAA rfl,zAA (zAW.1 hk).1] at hi;cases hi;obtain ⟨p,hp,hr⟩:=R.hr.obj k o hk;exact ⟨p,hp,hO P _ w ρ p (hr.out O (S:=fun _=>False) (AN.refl _ _) (fun _ h=>h.elim) fun _ _ _ h=>h)⟩
  ·rw [zAY e] at hi;obtain ⟨p,hp,hr⟩:=R.hr.obj i x hi;exact ⟨p,hp,hr.out O (S:=fun _=>False) (AN.refl _ _) (fun _ h=>h.elim) fun _ _ _ h=>h⟩
 ·obtain ⟨y,e,_⟩:=back g1;exact R.hr.cel i y p b e g2 g3
 ·obtain ⟨y1,e1,_⟩:=back g1;obtain ⟨y2,e2,_⟩:=back g2;exact R.hr.dis i i' y1 y2 p1 p2 b AR e1 e2 g3 g4 g5 g6
inductive Fz where
 | frz (k:Nat)
 | arr (k n:Nat) (f:Nat -> Nat -> DV)
 | unf (k:Nat)
 | rws
def qc (k n':Nat)(f':Nat -> Nat -> DV)(S:St):Option (St×List Prop):=match S.h.getD k none with
 | some (.arr m n f)=>some (⟨S.fr,S.h.set k (some (.arr m n' f'))⟩,[n=n'/\ ∀ i j,i<n -> j<m -> AL (f i j) (f' i j)])
 | _=>none
def Ym:Fz -> St -> Option (St×List Prop)
 | .frz k,S=>VF k S
 | .arr k n f,S=>qc k n f S
 | .unf k,S=>match S.h.getD k none with
  | some (.mo (.rows f (some (_,_,false))))=>some (⟨S.fr,S.h.set k (some (.mo (.rows f none)))⟩,[])
  | _=>none
 | .rws,_=>none
theorem E2.unf {w:World}{p:AE}{f:Int -> List Int}{x:Int}{L:List Int}{u:Value}{es:Array MapEntry}{AZ:Nat}(h:E2 w p f (some (x,L,false)) u es AZ):E2 w p f none u es AZ:=
 { h with
  key:=fun e he=>let ⟨k,h1,h2⟩:=h.key e he;⟨k,h1,fun _=>h2 fun L e=>by cases e⟩
  inHand:=fun k L g e=>by cases e }
theorem getD_some {h:DH}{k:Nat}{o:DO}(ho:h.getD k none=some o):h[k]? =some (some o):=by
 rw [u8] at ho;cases hx:h[k]? with
 | none=>rw [hx] at ho;cases ho
 | some x=>rw [hx] at ho;exact congrArg some ho
theorem D4.fz {S:St}(z:Fz)(S':St)(vs:List Prop)(h:Ym z S=some (S',vs))(hv:BY vs):D4 S S':=by
 cases z with
 | frz k=>exact D4.frzE k S' vs h hv
 | arr k n' f'=>
  simp only [Ym,qc] at h;split at h
  ·rename_i m n f ho;cases h;obtain ⟨⟨rfl,hd⟩,_⟩:=hv;refine D4.obj (getD_some ho) fun P M w ρ p hr=>?_
   refine AQ.out hr rfl fun j u hj hu=>?_
   have hm:0<m:=by
    rcases zG0 m with e | e
    ·subst e;omega
    ·exact e
   exact hd _ _ ((zGM hm).2 hj) (zHT _ hm) M w [] u hu
  ·cases h
 | unf k=>
  simp only [Ym] at h;split at h
  ·rename_i f x L ho;cases h;exact D4.obj (getD_some ho) fun P M w ρ p ⟨u,es,AZ,hA⟩=>⟨u,es,AZ,hA.unf⟩
  ·cases h
 | rws=>cases h
def VD:List (Nat×Fz) -> Option Nat -> St -> Option (St×List Prop×List (Nat×Fz))
 | [],_,S=>some (S,[],[])
 | (t,z)::rest,dst,S=>if dst=some t then match Ym z S with
  | some (S',vs)=>match VD rest dst S' with
   | some (CJ,Bg,r)=>some (CJ,vs++Bg,r)
   | none=>none
  | none=>some (S,[],(t,z)::rest)
  else some (S,[],(t,z)::rest)
theorem VC: ∀ (l:List (Nat×Fz)) {dst:Option Nat} {S S':St} {vs:List Prop} {r:List (Nat×Fz)},VD l dst S=some (S',vs,r) -> BY vs -> D4 S S'
 | [],dst,S,S',vs,r,h,_=>by cases h;exact D4.refl S
 | (t,z)::rest,dst,S,S',vs,r,h,hv=>by
  simp only [VD] at h;split at h
  ·split at h
   ·rename_i S1 C9 h1;split at h
    ·rename_i S2 E4 r2 h2;cases h;obtain ⟨Bb,CG⟩:=DE.1 hv;exact (D4.fz z S1 C9 h1 Bb).trans (VC rest h2 CG)
    ·cases h
   ·cases h;exact D4.refl S
  ·cases h;exact D4.refl S
abbrev MW {α:Type} [Inhabited α] (enc:α -> Nat -> DV) (L:List α):Nat -> Nat -> DV:=fun i j=>enc (L.getD i default) j
theorem aS {α:Type} [Inhabited α] {enc:α -> Nat -> DV} {L L':List α} {n m c:Nat} {g:Nat -> Nat -> DV} (hn:n=L.length) (hc:c=L'.length) (hg: ∀ i j,i<c -> j<m -> AL (g i j) (MW enc L' i j)):n+c=(L++L').length/\ ∀ i j,i<n+c -> j<m -> AL (if i<n then MW enc L i j else g (i-n) j) (MW enc (L++L') i j):=by
 subst hn;subst hc;refine ⟨by simp,fun i j hi hj=>?_⟩;simp only [MW,u8] at hg ⊢
 by_cases h:i<L.length
 ·rw [zAA h,zBc h];exact fun _ _ _ _ h=>h
 ·rw [zAY h,zBg (by omega)];exact hg _ j (by omega) hj
theorem vY {α:Type} [Inhabited α] {enc:α -> Nat -> DV} {n m:Nat} {x:α} {g:Nat -> Nat -> DV} (hg: ∀ i j,j<m -> AL (g i j) (enc x j)):n=(List.replicate n x).length/\ ∀ i j,i<n -> j<m -> AL (g i j) (MW enc (List.replicate n x) i j):=by
 refine ⟨by simp,fun i j hi hj=>?_⟩;have:(List.replicate n x).getD i default=x:=by simp [u8,hi]
 rw [MW,this];exact hg i j hj
theorem Ay {d:DV}:AL d d:=fun _ _ _ _ h=>h
theorem xU {l:List DV}{m:Nat}(hl:l.all JQ=true)(hm:m=l.length): ∀ j,j<m -> JQ (l.getD j .any)=true:=fun j hj=>by
 subst hm;rw [u8,zAE hj];exact zAX.1 hl _ (zB0 hj)
def I3:List DV -> List DV -> Prop
 | [],[]=>True
 | d::ds,e::es=>AL d e/\ I3 ds es
 | _,_=>False
theorem SL: ∀ {l l':List DV},I3 l l' -> l.length=l'.length/\ ∀ j,j<l.length -> AL (l.getD j .any) (l'.getD j .any)
 | [],[],_=>⟨rfl,fun j hj=>absurd hj (zBk j)⟩
 | d::ds,e::es,⟨h1,h2⟩=>by
  obtain ⟨q1,q2⟩:=SL h2;refine ⟨by simp [q1],fun j hj=>?_⟩;cases j with
  | zero=>exact h1
  | succ j=>exact q2 j (by simpa using hj)
 | [],_::_,h=>h.elim
 | _::_,[],h=>h.elim
theorem qq {l l':List DV}(h:I3 l l')(j:Nat):AL (l.getD j .any) (l'.getD j .any):=by
 obtain ⟨h1,h2⟩:=SL h
 by_cases hj:j<l.length
 ·exact h2 j hj
 ·rw [u8,u8,zCU (by omega),zCU (by omega)];exact Ay
def aU:List DV -> List (List DV) -> Prop
 | [],[]=>True
 | v::vs,c::cs=>(∃ l,Ji v=some l/\ I3 l c)/\ aU vs cs
 | _,_=>False
theorem kQ: ∀ {vs:List DV} {cs:List (List DV)},aU vs cs -> vs.length=cs.length/\ ∀ i,i<vs.length -> ∃ l,Ji (vs.getD i .any)=some l/\ I3 l (cs.getD i [])
 | [],[],_=>⟨rfl,fun i hi=>absurd hi (zBk i)⟩
 | v::vs,c::cs,⟨h1,h2⟩=>by
  obtain ⟨q1,q2⟩:=kQ h2;refine ⟨by simp [q1],fun i hi=>?_⟩;cases i with
  | zero=>exact h1
  | succ i=>exact q2 i (by simpa using hi)
 | [],_::_,h=>h.elim
 | _::_,[],h=>h.elim
theorem Gp {α:Type} [Inhabited α] {c:α -> List DV} {L:List α} {vals:List DV} {m n:Nat} (hn:n=vals.length) (h:aU vals (L.map c)):n=L.length/\ ∀ i j,i<n -> j<m -> AL (match Ji (vals.getD i .any) with | some l=>l.getD j .any | none=>.any) (MW (fun x j=>(c x).getD j .any) L i j):=by
 subst hn;obtain ⟨h1,h2⟩:=kQ h;rw [zCM] at h1;refine ⟨h1,fun i j hi _=>?_⟩;obtain ⟨l,e,hl⟩:=h2 i hi;rw [e];have:(L.map c).getD i []=c (L.getD i default):=by simp [u8,h1▸hi]
 rw [this] at hl;exact qq hl j
theorem kO {α:Type} [Inhabited α] {c:α -> List DV} {x:α} {l:List DV} {n m:Nat} (h:I3 l (c x)):n=(List.replicate n x).length/\ ∀ i j,i<n -> j<m -> AL (l.getD j .any) (MW (fun x j=>(c x).getD j .any) (List.replicate n x) i j):=
 vY fun _ j _=>qq h j
end
end Go.Proofs.YtodinaconebmdaaGreatDoor
