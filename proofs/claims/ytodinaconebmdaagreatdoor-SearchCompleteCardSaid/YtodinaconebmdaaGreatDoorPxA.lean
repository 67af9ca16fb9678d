/- Part 1 of 8 of what the proofs of these laws stand on. -/
import Derived.WalkKit
import Derived.WalkSpells
import Derived.WalkLawsBesides
import Derived.Lib.Hide
import Derived.OrdersHeld
import Derived.Deep.RegionHeld
import Derived.BigQuiet
import Derived.OrdersIn
import Derived.TacticsIn
import Derived.RangeFuncOwn
import Derived.RangeFuncNested
import Derived.RangeFuncCalls
import Derived.Laws.IdiomRangeMap
import Derived.Laws.Cells
import Derived.Laws.Cover3
import Derived.Laws.StructEq
import Derived.ChangeKeysEq
import Derived.RowKit
import Derived.Deep.AppendSrc
import Derived.Laws.MakeOwn
import Derived.Great.BuildSlice
import Derived.Sort.LoopGhostIn
set_option linter.all false
namespace Go.Proofs.YtodinaconebmdaaGreatDoor
open Go.RowKit
abbrev Ξ:=List Int
abbrev Ω:=List Bool
abbrev Ψ:=Nat -> Prop
abbrev Θ:=List Nat
abbrev Δ:=Int×Int
abbrev zGd:=@Nat.le_refl
abbrev zIm:=@Go.World.block_lt_of_cell?
section
def A0 (w w':World):Prop:=Below w.heap.size w w'
theorem A0.refl (w:World):A0 w w:=Below.refl _ _
def A0.trans {a b c:World}(h:A0 a b)(k:A0 b c):A0 a c:=Below.trans h (Below.mono k h.size)
def A0.alloc (w:World)(o:Obj):A0 w (w.alloc o):=(Below.refl _ _).alloc (zGd _) o
variable {w w':World}
def A0.allocR (h:A0 w w')(o:Obj):A0 w (w'.alloc o):=h.trans (A0.alloc w' o)
def A0.drewR (h:A0 w w'):A0 w w'.drew:=Below.drew h
def A0.size (h:A0 w w'):w.heap.size<=w'.heap.size:=Below.size h
theorem A0.cells (h:A0 w w'): ∀ b o,b<w.heap.size -> w'.cell? ⟨b,o,none⟩=w.cell? ⟨b,o,none⟩:=
 λb o c=>Below.cell h (p:=⟨b,o,none⟩) c
theorem A0.cell (h:A0 w w'){b o:Nat}{u:Value}(l:w.cell? ⟨b,o,none⟩=some u):w'.cell? ⟨b,o,none⟩=some u:=by
 rw [h.cells b o (zIm w ⟨b,o,none⟩ l)];exact l
def Dc (b:Bool)(e:Int):Int:=if b then 0 else e
def zKB (e:Int):Dc true e=0:=rfl
structure AD where
 kind:Int
 cells:Ξ
 set:Int
 other:Int
 lo:Int
 hi:Int
 runs:Ξ
 rule:Int
 spot:Int
 deriving DecidableEq,Inhabited
structure AA where
 cells:Int
 symbols:Int
 values:Ξ
 nbrs:List Ξ
 cons:List AD
 deriving DecidableEq,Inhabited
end
abbrev zEd:=@if_pos
abbrev zFW:=@Bool.and_eq_true
abbrev zGW:=@if_neg
abbrev zGo:=@beq_iff_eq
abbrev zGz:=@Bool.or_eq_true
abbrev zG3:=@Go.Sem.run_bind
abbrev zI1:=@Bool.false_eq_true
abbrev zNX:=@Go.mem_ready
section
def VZ:Op -> Bool
 | .move _ | .assign _ | .pick .. | .load .. | .binOp .. | .unOp .. | .convert .. | .makeFunc .. | .slice .. | .fieldAddr .. | .field .. | .indexAddr .. | .index .. | .extract .. | .build .. | .lookup .. | .makeInterface .. | .nilCheck _ | .typeAssert .. =>true
 | .call c=>match c.callee with
  | .builtin .len | .builtin .cap | .builtin .min | .builtin .max=>true
  | _=>false
 | _=>false
variable {n:Next}{w w':World}{P:Program}
def RE {α:Type}{s:Sem α}{f:α -> Value}(h:(s>>=λx=>(pure (.value (f x)):Sem Next)).run P w= .ok n w'): ∃ v,n= .value v:=by
 rw [zG3] at h;cases k:s.run P w with
 | ok v w1=>rw [k] at h;simp only [Result.andThen] at h;cases h;exact ⟨_,rfl⟩
 | halt x w1=>simp_all
def zDe {ρ:Operand -> Value}{o:Oper}(g:VZ o.op=true)(h:(execOp ρ o).run P w= .ok n w'): ∃ v,n= .value v:=by
 unfold execOp at h;cases u:o.op <;> rw [u] at g h <;> simp only [VZ,zI1] at g
 all_goals first | exact RE (f:=λx=>x) h | (cases h;exact ⟨_,rfl⟩) | skip
 ·rename_i c x y;exact RE (s:=asBool (ρ c)) (f:=λb=>if b then ρ x else ρ y) h
 ·rename_i x
  have k: ∀ {α:Type} (s:Sem α) (f:α -> Sem Next) (w0:World),(∀ a w1,(f a).run P w1= .ok n w' -> ∃ v,n= .value v) -> (s>>=f).run P w0= .ok n w' -> ∃ v,n= .value v:=by
   intro α s f w0 M j;rw [zG3] at j;cases z:s.run P w0 with
   | ok v w1=>rw [z] at j;exact M _ _ j
   | halt x w1=>simp_all
  have i:(runtimePanic .nilDeref:Sem Next).run P w= .ok n w' -> ∃ v,n= .value v:=by
   simp_all [runtimePanic]
  simp only at h;split at h
  ·exact i h
  ·exact i h
  ·exact i h
  ·split at h
   ·exact i h
   ·refine k _ _ _ ?_ h;intro p w1 A;refine k _ _ _ ?_ A;intro q w2 t;split at t
    ·simp_all
    ·cases t;exact ⟨_,rfl⟩
   ·cases h;exact ⟨_,rfl⟩
  ·cases h;exact ⟨_,rfl⟩
 ·rename_i c;replace h:((resolve ρ c o.type)>>=λd=>invoke d.target d.args).run P w= .ok n w':=h;rw [zG3] at h;unfold resolve at h;cases l:c.callee with
  | value f=>rw [l] at g;simp at g
  | invoke r m=>rw [l] at g;simp at g
  | builtin b=>
   rw [l] at g h;have e: ∀ d:Deferred,(pure d:Sem Deferred).run P w= .ok d w:=λ_=>rfl
   simp only [e,Result.andThen] at h;unfold invoke at h;cases b <;> simp at g <;> exact RE (f:=λx=>x) h
structure Xj (w:World) where
 W:World
 le:A0 w W
def T5 (w:World):World -> Prop:=λw'=>∃ x:Xj w,w'=x.W
def T5.iff :T5 w w'↔A0 w w':=⟨λ⟨x,e⟩=>e▸x.le,λh=>⟨⟨w',h⟩,rfl⟩⟩
def A0.toDrew (w:World):A0 w w.drew:=A0.drewR (A0.refl w)
section
variable {P:Program} {ops:Array Oper} {Q:Exit -> Act -> World -> Prop}
def xW {w:World}{o:Oper}{a:Act}{v:Value}(g:VZ o.op=true)(S:Region.wanted o (yielded ops a.tmps)=true) 
 (h: ∀ w',T5 w w' -> o.quietAt P a (T5 w) w' v):YieldsIf P ops (A0 w) o v a:=by
 refine .inl ⟨S,λw' F=>?_⟩;have:=h w' (T5.iff.2 F);unfold Oper.quietAt at this;cases i:(execOp a.eval o).run P w' with
 | halt x w1=>grind [Oper.quietUpon]
 | ok n w1=>
  obtain ⟨u,rfl⟩:=zDe g i;rw [i] at this;obtain ⟨rfl,rfl⟩:=this;rfl
def NP (Q:Exit -> Act -> World -> Prop):Exit -> Act -> World -> Prop
 | .panic _,_,_=>False
 | e,a,w=>Q e a w
def NP.put (c:List PanicEntry)(a:Act)(d:Option Tmp)(v:Value)(w:World)(h:NP Q (.panic c) (a.put d v) w):NP Q (.panic c) a w:=h.elim
def HJ (ops:Array Oper)(I:Array Bool):Prop:=∀ (j:Nat) (y:Oper),ops[j]? =some y -> I.getD j false=true -> ∀ e∈y.after,Region.binds .any e=true -> I.getD e.on false=true
variable {I:Array Bool}
def HJ.set {i:Nat}(h:HJ ops I)(hi:i∈Region.ready .any ops I):HJ ops (I.setIfInBounds i true):=by
 obtain ⟨_,oi,hoi,QV⟩:=zNX.1 hi;intro j y a m e b c
 by_cases d:i=j
 ·grind [getD_set_true]
 ·rw [getD_set_ne false d] at m;exact getD_set_true (h j y a m e b c)
def Gl (ops:Array Oper):Nat -> Nat -> Nat -> Bool
 | 0,_,_=>false
 | n+1,t,i=>match ops[t]? with
  | none=>false
  | some o=>o.after.any λe=>Region.binds .any e&&(e.on==i||Gl ops n e.on i)
theorem Xt (l:HJ ops I): ∀ (n t i:Nat) (o:Oper),ops[t]? =some o -> (∀ e∈o.after,Region.binds .any e=true -> I.getD e.on false=true) -> Gl ops n t i=true -> I.getD i false=true
 | 0,_,_,_,_,_,h=>by simp [Gl] at h
 | n+1,t,i,o,x,P,h=>by
  simp only [Gl,x] at h;obtain ⟨e,a,c⟩:=Array.any_eq_true'.1 h;simp only [zFW,zGz,zGo] at c;obtain ⟨c,h1 | h1⟩:=c
  ·rw [←h1];exact P e a c
  ·cases K:ops[e.on]? with
   | none=>cases n <;> simp [Gl,K] at h1
   | some F=>exact Xt l n e.on i F K (l e.on F K (P e a c)) h1
def CQ (ops:Array Oper):Θ -> List Oper
 | []=>[]
 | i::l=>match ops[i]? with | some o=>o::CQ ops l | none=>CQ ops l
def Uk (ops:Array Oper)(h:Nat -> Bool):Θ -> Array Bool -> Bool
 | [],_=>true
 | i::l,I=>(Region.ready .any ops I).contains i&&Region.free .any ops I i&&(match ops[i]? with | some o=>VZ o.op | none=>false)&&
  ((List.range ops.size).all λj=>!h j||Gl ops ops.size j i)&&Uk ops h l (I.setIfInBounds i true)
def Lz (l:Θ)(I:Array Bool):Array Bool:=l.foldl (λs i=>s.setIfInBounds i true) I
def UN (ops:Array Oper):Θ -> Array Bool -> Bool
 | [],I=>(Region.ready .any ops I).isEmpty
 | t::d,I=>Region.ready .any ops I== [t]&&UN ops d (I.setIfInBounds t true)
def Ul (ops:Array Oper)(h:Nat -> Bool):List (Θ×Nat) -> Θ -> Θ -> Array Bool -> Bool
 | [],u,e,I=>Uk ops h u I&&((List.range ops.size).all λj=>h j||(Lz u I).getD j true)&&UN ops e (Lz u I)
 | (H,i)::g,u,e,I=>Uk ops h H I&&(Region.ready .any ops (Lz H I)== [i])&&Ul ops h g u e ((Lz H I).setIfInBounds i true)
def Sx:List (Θ×Nat) -> Θ -> Nat
 | [],u=>u.length
 | (H,_)::g,u=>H.length+(1+Sx g u)
def eX (ops:Array Oper)(s:List (Θ×Nat))(u e:Θ):Bool:= Region.noSelect ops&&Sx s u+e.length==ops.size&&Ul ops (λj=>e.contains j) s u e (Array.replicate ops.size false)
def dX {C:World -> Prop}: ∀ (l:List Oper) (a:Act) (K d:Act -> Prop),(∀ a,K a -> d a) -> wpQuiet P ops C K l a -> wpQuiet P ops C d l a
 | [],a,K,d,hk,h=>hk a h
 | o::l,a,K,d,hk,h=>by
  unfold wpQuiet at*
  by_cases S:Region.wanted o (yielded ops a.tmps)=true
  ·rw [zEd S] at h ⊢;exact Oper.quiet_mono (λa h=>dX l a K d hk h) h
  ·rw [zGW S] at h ⊢;exact dX l _ K d hk h
end
end
abbrev zGS:=@Array.getElem?_eq_some_iff
abbrev zGu:=@List.mem_singleton
abbrev zG4:=@Nat.zero_add
abbrev zIg:=@Nat.lt_or_ge
abbrev zIq:=@Array.getElem?_eq_getElem
abbrev zJC:=@Go.Oper.semAt_eq
abbrev zJH:=@if_true
abbrev zM1:=@List.length_nil
abbrev zM6:=@Array.mem_of_getElem?
abbrev zM9:=@Go.wpOpIn_mono
def DE (ops:Array Oper):Bool:=ops.all λo=>match o.op with
 | .defer _=>false
 | _=>true
theorem Hw {ops:Array Oper}(h:DE ops=true){j:Nat}{o:Oper}(e:ops[j]? =some o): ∀ c,o.op≠.defer c:=by
 intro c l;have v:o∈ops:=zM6 e;have:=Array.all_eq_true'.1 h o v;rw [l] at this;cases this
section
variable {F:Fence} {n:Nat} {P:Program} {ops:Array Oper} {Q:Exit -> Act -> World -> Prop}
variable {w:World}{K:Act -> World -> Prop}{a:Act}{v:Value}{i:Nat}{S:World -> Prop}
theorem Xl {o:Oper}(hF: ∀ f,F.fn f)(hd: ∀ c,o.op≠.defer c)(hi:ops[i]? =some o)(hy:YieldsIf P ops S o v a) 
   (hS:S w) (h:K (a.put o.dst v) w):wpOpIn F n P ops Q i K a w:=by
 unfold Go.wpOpIn;simp only [hi];rcases hy with ⟨b,hv⟩ | ⟨b,rfl⟩
 ·simp_all [Oper.wpIn,zJC,Oper.uponIn]
 grind
variable {U:Oper}
def mY {j:Nat}{y:Oper}(R: ∀ f,F.fn f)(p: ∀ c,y.op≠.defer c)(k:ops[j]? =some y)(l:U.apart ops y=true) 
 (L: ∀ cs b,U.op≠.select cs b) (M: ∀ cs b,y.op≠.select cs b)
 (m: ∀ c a w,Q (.panic c) (a.put U.dst v) w -> Q (.panic c) a w)   
 (hy:YieldsIf P ops S U v a) (h:wpOpIn F n P ops Q j K (a.put U.dst v) w):
 wpOpIn F n P ops Q j (λe w'=>YieldsIf P ops S U v e/\ K (e.put U.dst v) w') a w:=by
 obtain ⟨g,h2,i⟩:=Oper.apart_spec l
 have keep: ∀ (a:Act),YieldsIf P ops S U v a -> ∀ u,YieldsIf P ops S U v (a.put y.dst u):=λa hy u=>
  hy.of_same (execOp_put U L a y.dst u i) (wanted_put U a y.dst u i)
 have keepD: ∀ d,YieldsIf P ops S U v { a with defers:=d::a.defers }:=λd=>hy.of_same rfl rfl
 unfold wpOpIn at*;simp only [k] at*;rw [wanted_put y a U.dst v g] at h;split
 ·rename_i o;simp only [o,zJH] at h;unfold Oper.wpIn at*;refine ⟨λf _=>R f,?_⟩;have h:=h.2;rw [zJC _ _ _ p,execOp_put y M a U.dst v g] at h;rw [zJC _ _ _ p]
  generalize (execOp a.eval y).run P w=r at*
  cases r with
  | ok x w'=>
   cases x <;> simp only [Oper.uponIn] at h ⊢
   case value u=>grind [Act.put_comm]
   case skip=>grind [Act.put_comm]
   case defer d=>
    grind [Act.put_comm,Act.put_defers]
   case enter f args=>
    grind [CallsIn.mono,Act.put_comm]
   case row row args=>grind [Act.put_comm]
   grind [RoundIn.mono,Act.put_comm]
  | halt x w'=>
   cases x <;> simp only [Oper.uponIn] at h ⊢
   case panic u=>exact m _ _ _ h
 grind [Act.put_comm]
def xb (h:wpOpIn F n P ops (NP Q) i K a w):wpOpIn F n P ops Q i K a w:=by
 unfold wpOpIn at*;split
 ·grind
 ·rename_i o b;simp only [b] at h;have m:LetsOut (NP Q) -> LetsOut Q:=λ⟨a,w,h⟩=>⟨a,w,h⟩
  by_cases S:Region.wanted o (yielded ops a.tmps)=true
  ·rw [zEd S] at h ⊢;unfold Oper.wpIn at*;refine ⟨h.1,?_⟩;have h:=h.2
   generalize (o.semAt F.round a.eval).run P w=r at*
   cases r with
   | ok x w'=>
    cases x <;> simp only [Oper.uponIn] at h ⊢ <;> first | exact h | skip
    ·refine ⟨h.1,CallsIn.mono h.2 λe H I=>?_⟩;cases e with
     | returned v=>exact I
     | panicked c=>exact I.elim
     | outgrown=>exact m I
    ·refine ⟨h.1,RoundIn.mono h.2 λe H I=>?_⟩;cases e with
     | returned v=>exact I
     | panicked c=>exact I.elim
     | outgrown=>exact m I
   | halt x w'=>cases x <;> simp only [Oper.uponIn] at h ⊢;exact h.elim
  ·rw [zGW S] at h ⊢;exact h
def Ki (F:Fence)(n:Nat)(P:Program)(ops:Array Oper)(Q:Exit -> Act -> World -> Prop)(h:Nat -> Bool)(g:Nat)(S:World -> Prop):Nat -> Array Bool -> Act -> World -> Prop
 | 0,I,a,w=>(∀ j,j<ops.size -> h j=false -> I.getD j true=true)/\ wpAnyIn F n P .any ops Q g I a w
 | m+1,I,a,w=>Region.ready .any ops I≠[]/\ ∀ i∈Region.ready .any ops I,wpOpIn F n P ops (NP Q) i (λb w'=>S w'/\ Ki F n P ops Q h g S m (I.setIfInBounds i true) b w') a w
variable {g:Nat}{b:Nat -> Bool}
def dY {S':World -> Prop}(c: ∀ w,S' w -> S w): ∀ (m:Nat) (I:Array Bool) (a:Act) (w:World),
 Ki F n P ops Q b g S' m I a w -> Ki F n P ops Q b g S m I a w
 | 0,_,_,_,h=>h
 | m+1,_,_,_,h=>⟨h.1,λi hi=>zM9 (λ_ _ h'=>⟨c _ h'.1,dY c m _ _ _ h'.2⟩) (h.2 i hi)⟩
def me : ∀ (m:Nat) (I:Array Bool) (a:Act) (w:World),Ki F n P ops Q b g S m I a w -> wpAnyIn F n P .any ops Q (m+g) I a w
 | 0,_,_,_,h=>by rw [zG4];exact h.2
 | m+1,_,_,_,h=>by
  rw [show m+1+g=(m+g)+1 by omega];exact ⟨λh0=>absurd h0 h.1,λi hi=>zM9 (λc w' h'=>me m _ c w' h'.2) (xb (h.2 i hi))⟩
def md (z: ∀ f,F.fn f)(A:DE ops=true){p:Nat -> Bool}{k:Nat}(hi:ops[i]? =some U)(t: ∀ (j:Nat) (o:Oper) cs b,ops[j]? =some o -> o.op≠.select cs b) 
 (hT: ∀ j,j<ops.size -> p j=true -> Gl ops k j i=true):
 ∀ (m:Nat) (I:Array Bool) (a:Act) (w:World),HJ ops I ->
  (∀ j y,ops[j]? =some y -> j≠i -> I.getD j true=false -> (∀ e∈y.after,Region.binds .any e=true -> e.on≠i) -> U.apart ops y=true) ->
  i∈Region.ready .any ops I -> YieldsIf P ops S U v a -> S w ->
  Ki F n P ops Q p g S m (I.setIfInBounds i true) (a.put U.dst v) w -> Ki F n P ops Q p g S (m+1) I a w:=by
 intro m
 induction m with
 | zero=>
  intro I a w u _ d hy B H;have C:=(zNX.1 d).1;refine ⟨λh=>(by rw [h] at d;cases d),λj l=>?_⟩
  by_cases q:j=i
  ·grind [Xl,Hw]
  ·exfalso
   obtain ⟨r,y,G,D⟩:=zNX.1 l;have E:=(zGS.1 G).1;cases J:p j with
   | true=>
    grind [Xt]
   | false=>
    have:=H.1 j E J
    simp_all [Ne.symm]
 | succ m V=>
  intro I a w u x d hy B H;have C:=(zNX.1 d).1;refine ⟨λh=>(by rw [h] at d;cases d),λj l=>?_⟩
  by_cases q:j=i
  ·grind [Xl,Hw]
  ·have K:=H.2 j (ready_mono l q);obtain ⟨r,y,G,D⟩:=zNX.1 l
   have L: ∀ e∈y.after,Region.binds .any e=true -> e.on≠i:=λe he hb bK=>by
    grind
   have M:=mY z (Hw A G) G (x j y G q r L) (λcs b=>t i U cs b hi) (λcs b=>t j y cs b G) (λc a w h=>NP.put c a _ _ w h) hy K
   have R: ∀ k ok,ops[k]? =some ok -> k≠i -> (I.setIfInBounds j true).getD k true=false ->
    (∀ e∈ok.after,Region.binds .any e=true -> e.on≠i) -> U.apart ops ok=true:=λk ok hk N IX O=>by
    refine x k ok hk N ?_ O
    by_cases T:j=k
    ·subst T;exact r
    simp_all
   refine zM9 (λW w' s=>⟨s.2.1,V (I.setIfInBounds j true) W w' (u.set l) R (ready_mono d (Ne.symm q)) s.1 s.2.1 ?_⟩) M
   grind [Array.setIfInBounds_comm]
def RP (F:Fence)(n:Nat)(P:Program)(ops:Array Oper)(Q:Exit -> Act -> World -> Prop):Θ -> Act -> World -> Prop
 | [],a,w=>Q .normal a w
 | t::d,a,w=>wpOpIn F n P ops Q t (RP F n P ops Q d) a w
def bw (H:Θ)(b w:World):World:=match H with
 | []=>b
 | _=>w
def QP (F:Fence)(n:Nat)(P:Program)(ops:Array Oper)(Q:Exit -> Act -> World -> Prop):World -> List (Θ×Nat) -> Θ -> Θ -> Act -> World -> Prop
 | _,[],u,e,a,w=>wpQuiet P ops (λw'=>∃ x:Xj w,w'=x.W) (λc=>RP F n P ops Q e c w) (CQ ops u) a
 | b,(H,i)::g,u,e,a,w=>wpQuiet P ops (λw'=>∃ x:Xj w,w'=x.W) (λc=>wpOpIn F n P ops (NP Q) i (λK d=>A0 (bw H b w) d/\ QP F n P ops Q (bw H b w) g u e K d) c w) (CQ ops H) a
def nY: ∀ (e:Θ) (I:Array Bool) (a:Act) (w:World),UN ops e I=true -> RP F n P ops Q e a w -> wpAnyIn F n P .any ops Q e.length I a w
 | [],I,a,w,hk,h=>⟨by simpa [UN] using hk,h⟩
 | t::d,I,a,w,hk,h=>by
  simp only [UN,zFW,zGo] at hk;refine ⟨λh0=>(by rw [hk.1] at h0;cases h0),λi hi=>?_⟩;rw [hk.1,zGu] at hi;subst hi;exact zM9 (λb w' h'=>nY d _ b w' hk.2 h') h
def Yc (R: ∀ f,F.fn f)(x:DE ops=true){c:Nat -> Bool}(k:Region.noSelect ops=true){next:Act -> Prop}{m:Nat}:
 ∀ (l:Θ) (I:Array Bool) (a:Act),HJ ops I -> Uk ops c l I=true -> wpQuiet P ops (T5 w) next (CQ ops l) a ->
  (∀ p,HJ ops (Lz l I) -> next p -> Ki F n P ops Q c g (A0 w) m (Lz l I) p w) -> Ki F n P ops Q c g (A0 w) (l.length+m) I a w
 | [],I,a,b,_,h,u=>by
  simp only [zM1,zG4];exact u a b h
 | i::l,I,a,b,hk,h,u=>by
  simp only [Uk,zFW] at hk;obtain ⟨⟨⟨⟨r,M⟩,d⟩,hT⟩,L⟩:=hk;have e:i∈Region.ready .any ops I:=by simpa using r
  have q: ∀ j,j<ops.size -> c j=true -> Gl ops ops.size j i=true:=λj hj ht=>by
   grind
  have s:(i::l).length+m=(l.length+m)+1:=by simp;omega
  rw [s];cases hi:ops[i]? with
  | none=>rw [hi] at d;simp at d
  | some o=>
   rw [hi] at d;simp only [CQ,hi] at h;unfold wpQuiet at h
   by_cases S:Region.wanted o (yielded ops a.tmps)=true
   ·rw [zEd S] at h;obtain ⟨v,t,y⟩:=h;exact md R x hi (Region.noSelect_spec k) q _ I a w b (Region.free_spec hi M) e (xW d S t) (A0.refl _) (Yc R x k l _ _ (b.set e) L y u)
   ·rw [zGW S] at h;exact md R x hi (Region.noSelect_spec k) q _ I a w b (Region.free_spec hi M) e (.inr ⟨by simpa using S,rfl⟩) (A0.refl _) (Yc R x k l _ _ (b.set e) L h u)
def t6 (R: ∀ f,F.fn f)(x:DE ops=true){o:Nat -> Bool}(p:Region.noSelect ops=true):
 ∀ (s:List (Θ×Nat)) (u e:Θ) (I:Array Bool) (a:Act) (b w:World),A0 b w -> HJ ops I -> Ul ops o s u e I=true -> QP F n P ops Q b s u e a w ->
  Ki F n P ops Q o e.length (A0 b) (Sx s u) I a w
 | [],u,e,I,a,b,w,g,k,hk,h=>by
  simp only [Ul,zFW] at hk;obtain ⟨⟨q,r⟩,t⟩:=hk
  have:=Yc (m:=0) R x p u I a k q h (λc _ L=>⟨λj l ht=>by
   grind,nY e _ c w t L⟩)
  refine dY (λW v=>g.trans v) _ _ _ _ ?_;simpa [Sx] using this
 | (y,i)::z,u,e,I,a,b,w,g,k,hk,h=>by
  simp only [Ul,zFW,zGo] at hk;obtain ⟨⟨q,r⟩,t⟩:=hk
  have one: ∀ (c:Act) (d:World),A0 d w -> HJ ops (Lz y I) -> wpOpIn F n P ops (NP Q) i (λK H=>A0 d H/\ QP F n P ops Q d z u e K H) c w ->
   Ki F n P ops Q o e.length (A0 d) (Sx z u+1) (Lz y I) c w:=λc d El T L=>by
   refine ⟨λh0=>(by rw [r] at h0;cases h0),λj l=>?_⟩;have A:=l;rw [r,zGu] at l;subst l;refine zM9 (λK H h'=>⟨h'.1,?_⟩) L;exact t6 R x p z u e _ K d H h'.1 (T.set A) t h'.2
  cases y with
  | nil=>
   have:=one a b g k h;simpa [Sx,Nat.add_comm,Lz] using this
  | cons G ss=>
   refine dY (λW v=>g.trans v) _ _ _ _ ?_;refine Yc R x p (G::ss) I a k q h λc T L=>?_
   rw [Nat.add_comm 1];exact one c w (A0.refl w) T L
def xd {id:Nat}(R: ∀ f,F.fn f)(s:List (Θ×Nat))(u e:Θ)(v:P.follows .mixedOrders=true)(I:(eX ops s u e&&DE ops)=true) 
 (h:QP F n P ops Q w.drew s u e a w.drew):(Code.region id ops true).wpIn F n P Q a w:=by
 simp only [eX,zFW,zGo] at I;obtain ⟨⟨⟨b,c⟩,d⟩,A⟩:=I
 have g:HJ ops (Array.replicate ops.size false):=λj oj _ m=>by
  exfalso
  rcases zIg j ops.size with h | h
  ·simp [h] at m
  ·simp [h] at m
 have:=me _ _ _ _ (t6 R A b s u e _ a w.drew w.drew (A0.refl _) g d h);rw [c] at this;exact wpIn_region_any v this
theorem nZ: ∀ (e:Θ) (a:Act) (w:World),(∀ t∈e,t<ops.size) -> wpListIn F n P ops Q (CQ ops e) a w -> RP F n P ops Q e a w
 | [],_,_,_,h=>h
 | t::d,a,w,m,h=>by
  have b:ops[t]? =some (ops[t]'(m t (by simp))):=zIq _;simp only [CQ,b] at h;unfold RP wpOpIn;simp only [b];unfold wpListIn at h;have v: ∀ a w,wpListIn F n P ops Q (CQ ops d) a w -> RP F n P ops Q d a w:=λa w h=>nZ d a w (λt b=>m t (by simp [b])) h
  by_cases S:Region.wanted (ops[t]'(m t (by simp))) (yielded ops a.tmps)=true
  ·rw [zEd S] at h ⊢;exact Oper.wpIn_mono v h
  grind
theorem zIh {u e:Θ}{b:World}(ht:(e.all λt=>decide (t<ops.size))=true) 
 (h:wpQuiet P ops (λw'=>∃ x:Xj w,w'=x.W) (λc=>wpListIn F n P ops Q (CQ ops e) c w) (CQ ops u) a):
 QP F n P ops Q b [] u e a w:=by
 refine dX _ _ _ _ (λc h=>?_) h
 grind [nZ]
end
abbrev zGU:=@Nat.le_trans
abbrev zGb:=@Nat.lt_of_lt_of_le
abbrev zG6:=@List.mem_of_getElem?
abbrev zIT:=@Go.World.putObj_heap_other
abbrev zIn:=@List.mem_cons
abbrev zI4:=@Go.StepsIn.trans
abbrev zKN:=@Go.fenced_calm
abbrev zMb:=@Go.wpIn_mono
abbrev zMt:=@Go.stepR_block
abbrev zNA:=@if_false
abbrev zNG:=@Go.callsIn_wide
abbrev zNY:=@Go.RowKit.Below.block
abbrev zNq:=@Go.leaves_stepsInM
section
structure AQ (S:Ψ)(w w':World):Prop where
 os:w'.os=w.os
 tape:w'.tape=w.tape
 output:w'.output=w.output
 size:w.heap.size<=w'.heap.size
 block: ∀ k,k<w.heap.size -> ¬ S k -> w'.heap[k]? =w.heap[k]?
theorem AQ.refl (S:Ψ)(w:World):AQ S w w:=⟨rfl,rfl,rfl,zGd _,λ_ _ _=>rfl⟩
variable {a b c:World}{S S':Ψ}
def AQ.comp (h:AQ S a b)(k:AQ S' b c)(d: ∀ i,i<a.heap.size -> S' i -> S i):AQ S a c:=
 ⟨k.os.trans h.os,k.tape.trans h.tape,k.output.trans h.output,zGU h.size k.size,
  λi hi u=>(k.block i (zGb hi h.size) (λe=>u (d i hi e))).trans (h.block i hi u)⟩
def AQ.trans (h:AQ S a b)(k:AQ S b c):AQ S a c:=h.comp k λ_ _ h=>h
theorem AQ.mono (h:AQ S a b)(k: ∀ i,i<a.heap.size -> S i -> S' i):AQ S' a b:=
 ⟨h.os,h.tape,h.output,h.size,λi hi u=>h.block i hi λd=>u (k i hi d)⟩
def AQ.ofExt (h:A0 a b):AQ S a b:=⟨Below.os h,Below.tape h,Below.output h,Below.size h,λi hi _=>zNY h i hi⟩
def AQ.toExt (h:AQ S a b)(k: ∀ i,i<a.heap.size -> ¬ S i):A0 a b:=⟨h.os,h.tape,h.output,h.size,λi hi=>h.block i hi (k i hi)⟩
def AQ.alloc (h:AQ S a b)(o:Obj):AQ S a (b.alloc o):=h.trans (AQ.ofExt (A0.alloc b o))
variable {p:Addr}
def AQ.setCell (h:AQ S a b)(g:p.block<a.heap.size -> S p.block)(u:Value):AQ S a (b.setCell p u):=by
 refine h.comp (S':=λk=>k=p.block) ⟨rfl,rfl,rfl,?_,λk _ hk=>?_⟩ (λi hi e=>by cases e;exact g hi)
 ·simp_all
 ·exact Below.heap_setCell b p u k hk
def AQ.putObj (h:AQ S a b){l:Nat}(m:l<a.heap.size -> S l)(o:Obj):AQ S a (b.putObj l o):=by
 refine h.comp (S':=λk=>k=l) ⟨rfl,rfl,rfl,by simp,λk _ hk=>zIT hk⟩ (λi hi e=>by cases e;exact m hi)
theorem AQ.cell (h:AQ S a b){u:Value}(k: ¬ S p.block)(l:a.cell? p=some u):b.cell? p=some u:=by
 rw [World.cell?_of_block (h.block p.block (zIm a p l) k)];exact l
def Cz (I:(Ψ) -> (Ψ) -> World -> Prop):Prop:= ∀ (G R Y R':Ψ) (A B:World),I G R A -> AQ G A B -> (∀ k,Y k -> G k∨A.heap.size<=k) -> (∀ k,R' k -> R k∨G k∨A.heap.size<=k) -> (∀ k,G k∨R k -> Y k∨R' k) -> (∀ k,Y k -> ¬ R' k) -> (∀ k,Y k∨R' k -> k<B.heap.size) -> I Y R' B
structure ED (G R:Ψ)(W:World):Prop where
 dis: ∀ k,G k -> ¬ R k
 lt: ∀ k,G k∨R k -> k<W.heap.size
variable {A:World}{G R:Ψ}
def ED.upd {B:World}(h:ED G R A)(q:AQ S A B):ED G R B:=⟨h.dis,λk hk=>zGb (h.lt k hk) q.size⟩
def Cz.same {I:(Ψ) -> (Ψ) -> World -> Prop}(h:Cz I){B:World}(k:ED G R A)(hi:I G R A)(q:AQ G A B):I G R B:=
 h G R G R A B hi q (λ_ h=>.inl h) (λ_ h=>.inl h) (λ_ h=>h) k.dis (k.upd q).lt
def Ed (B:Nat):List Deferred -> World -> Prop
 | [],_=>True
 | d::ds,w=>∃ D,d= { target:=.collected D,args:=#[] }/\ B<=D/\ w.heap[D]? =some (.deferred (some []))/\ (∀ d'∈ds,d'.target≠.collected D)/\ Ed B ds w
variable {w:World}{B:Nat}
def Ed.upd {w':World}(q:AQ S w w'): ∀ {ds:List Deferred},Ed B ds w -> (∀ k,B<=k -> S k -> w.heap[k]? ≠some (.deferred (some []))) -> Ed B ds w'
 | [],_,_=>trivial
 | _::_,⟨D,c,b,h,A,f⟩,a=>⟨D,c,b,(q.block D (zGS.1 h).1 (λd=>a D b d h)).trans h,A,Ed.upd q f a⟩
def Ed.lt : ∀ {ds:List Deferred} (_:Ed B ds w) {d:Deferred} {D:Nat},d∈ds -> d.target= .collected D -> D<w.heap.size
 | _::_,⟨D,h1,h2,h3,h4,f⟩,d,D',hm,a=>by
  rcases zIn.1 hm with rfl | hm
  ·grind
  ·exact Ed.lt f hm a
def Mw (B:Nat)(w W:World):Prop:=AQ (λk=>B<=k/\ w.heap[k]? =some (.deferred (some []))) w W
variable {tmps:Array Value}{fn:Func}{P:Program}
def aK {F:Fence}{n:Nat}{R:Ending -> World -> Prop}{u:FrameMode}(q:u≠.run): ∀ (ds:List Deferred) (w:World),Ed B ds w ->
 (∀ W,Mw B w W -> LeavesIn F n P fn tmps R [] u W) -> LeavesInM F n P fn tmps R ds u w
 | [],w,_,h=>h w (AQ.refl _ w)
 | _::ds,w,⟨D,b,c,a,A,f⟩,h=>by
  refine ⟨q,.inl ⟨D,_,by rw [b],run_takeDeferred a,?_⟩⟩;have g:AQ (λk=>k=D) w (w.putObj D (.deferred none)):=(AQ.refl (λk=>k=D) w).putObj (λ_=>rfl) _
  have j: ∀ {ds:List Deferred},(∀ d'∈ds,d'.target≠.collected D) -> Ed B ds w -> Ed B ds (w.putObj D (.deferred none)):=by
   intro ds
   induction ds with
   | nil=>intro _ _;trivial
   | cons d ds V=>
    intro r ⟨D',o,s,g3,l,H⟩;refine ⟨D',o,s,?_,l,V (λd' v=>r d' (by simp [v])) H⟩
    simp_all [zIT]
  refine aK q ds _ (j A f) λW t=>h W ?_
  refine g.mono (S':=λk=>B<=k/\ w.heap[k]? =some (.deferred (some []))) (λi _ e=>by cases e;exact ⟨c,a⟩) |>.comp t λi hi m=>⟨m.1,?_⟩
  grind [World.putObj_heap_other]
def aJ {R:Ending -> World -> Prop}(ds:List Deferred)(w:World)(a:Ed B ds w) 
 (h: ∀ W,Mw B w W -> ∃ v,(results fn tmps).run P W= .ok v W/\ R (.returned v) W):LeavesInM Fence.wide 0 P fn tmps R ds .returning w:=
 aK (by simp) ds w a h
def In (F:Fence)(n:Nat)(P:Program)(fn:FuncId)(c:Code)(Q:Exit -> Act -> World -> Prop)(a:Act)(w:World):Prop:= ∀ (b:Frame) (k:List Item) (cs:List Frame),b.roundOf=F.round -> F.fn b.fn -> F.room (cs.length+1+n) -> b.fn=fn -> ∃ e d w',Q e d w'/\ ArrivesIn (Machine.fenced P F) P (lone (b.atR a (.code c::k)) cs w) b k cs e d w'
section
variable {F:Fence} {n:Nat} {P:Program} {fi:FuncId} {c:Code} {Q:Exit -> Act -> World -> Prop} {a:Act} {w:World}
def M7 (h:c.wpIn F n P Q a w):In F n P fi c Q a w:=λb k cs d e f _=>h b k cs d e f
def xg (h: ∀ fi,In F n P fi c Q a w):c.wpIn F n P Q a w:=λb k cs d e f=>h b.fn b k cs d e f rfl
def Q9 {x y:Code}(h:In F n P fi x (Exit.then (In F n P fi y Q) Q) a w):In F n P fi (.seq x y) Q a w:=by
 intro b k cs d c i M;have h0:(lone (b.atR a (.code (.seq x y)::k)) cs w).fenced P F:=zKN c i rfl;obtain ⟨e,p,q,L,N⟩:=h b (.code y::k) cs d c i M;cases e with
 | normal=>
  obtain ⟨f,R,z,I,g⟩:=L b k cs d c i M;exact ⟨f,R,z,I,.of_steps (.head h0 stepR_seq N) g⟩
 | exit id=>exact ⟨_,p,q,L,.of_steps (.one h0 stepR_seq) (.pass (x:=.code y) rfl (λ_ _=>.inl (by simp)) N)⟩
 | goto l=>exact ⟨_,p,q,L,.of_steps (.one h0 stepR_seq) (.pass (x:=.code y) rfl (λ_ _=>.inl (by simp)) N)⟩
 | ret=>exact ⟨_,p,q,L,.of_steps (.one h0 stepR_seq) (.pass (x:=.code y) rfl (λ_ _=>.inl (by simp)) N)⟩
 | panic ch=>exact ⟨_,p,q,L,.of_steps (.one h0 stepR_seq) (.pass (x:=.code y) rfl (λ_ _=>.inl (by simp)) N)⟩
 | outgrown=>exact ⟨_,p,q,L,.of_steps (.one h0 stepR_seq) (.pass (x:=.code y) rfl (λ_ _=>.inl (by simp)) N)⟩
def xj {id:Nat}(h:In F n P fi c (Exit.inBlock id Q) a w):In F n P fi (.block id c) Q a w:=by
 intro b k cs r f i M;have h0:(lone (b.atR a (.code (.block id c)::k)) cs w).fenced P F:=zKN f i rfl;obtain ⟨e,p,q,L,N⟩:=h b (.inBlock id::k) cs r f i M;cases e with
 | normal=>exact ⟨.normal,p,q,L,.head h0 zMt (zI4 N (.one (zKN f i rfl) stepR_inBlock))⟩
 | exit R=>
  by_cases hid:R=id
  ·simp only [Exit.inBlock,hid,zJH] at L;exact ⟨.normal,p,q,L,.head h0 zMt (N.1 k (by simp [exitTo,hid]))⟩
  ·simp only [Exit.inBlock,hid,zNA] at L;have this:(id==R)=false:=by simp;exact λh=>hid h.symm
   have d:exitTo R (.inBlock id::k)=exitTo R k:=by simp [exitTo,this]
   exact ⟨.exit R,p,q,L,λg hk=>.head h0 zMt (N.1 g (by rw [d];exact hk)),
    λj hk=>let ⟨Y,m,o⟩:=N.2 j (by rw [d];exact hk);⟨Y,m,.head h0 zMt o⟩⟩
 | goto l=>
  have d:gotoIn l (.inBlock id::k)=gotoIn l k:=by simp [gotoIn]
  exact ⟨_,p,q,L,λg hk=>.head h0 zMt (N.1 g (by rw [d];exact hk)),
   λj hk=>let ⟨Y,m,o⟩:=N.2 j (by rw [d];exact hk);⟨Y,m,.head h0 zMt o⟩⟩
 | ret=>exact ⟨_,p,q,L,.of_steps (.one h0 zMt) N⟩
 | panic ch=>exact ⟨_,p,q,L,.of_steps (.one h0 zMt) N⟩
 | outgrown=>exact ⟨_,p,q,L,.of_steps (.one h0 zMt) N⟩
variable {assign body:Code}
def xh {g:Operand}{ps:Array Tmp} 
 (h:F.fn fi -> ∃ (l:Nat) (mark:List Deferred) (q:World) (d:Deferred) (z:World) (f:FuncId) (args:Array Value) (i:World),
  (Instr.enterLoop fi a.tmps ps assign body F.round).run P w= .ok (l,mark) q/\
  (resolve a.eval (rangeCall g l) 0).run P q= .ok d z/\
  (∀ s,Target.leads P z d.target d.args=some s -> F.fn s)/\
  (invoke d.target d.args).run P z= .ok (.enter f args) i/\
  (F.depth.isSome=true -> 1<=n)/\
  CallsIn F (n-1) P f args i (rangePost F n P l Q { a with defers:=mark++a.defers })):
 In F n P fi (.rangeFunc g ps assign body) Q a w:=by
 intro b k cs t j m S;obtain ⟨l,mark,q,d,z,f,args,i,I,D,hlead,hinv,E,R,V⟩:=h (S▸j);rw [←t,←S] at I
 have h0:(lone (b.atR a (.code (.rangeFunc g ps assign body)::k)) cs w).fenced P F:=by
  grind [fenced_lone,Fence.room_le,Frame.eval_atR,Frame.atR,Frame.about]
 have o:=stepR_rangeFunc (P:=P) (b:=b) (a:=a) (k:=k) (cs:=cs) (w:=w) I D hinv;have p:F.room ((b.atR { a with defers:=mark++a.defers } (.inRangeFunc l::k)::cs).length+1+(n-1)):=Fence.room_enter m E;obtain ⟨e,T,fr,hR,W,u,A⟩:=V (b.atR { a with defers:=mark++a.defers } (.inRangeFunc l::k)::cs) p;cases e with
 | outgrown=>
  obtain ⟨G,H,L⟩:=hR;exact ⟨.outgrown,G,H,L,.inr (Outgrown.of_steps (.one o) W)⟩
 | returned v=>
  have r:(lone fr (b.atR { a with defers:=mark++a.defers } (.inRangeFunc l::k)::cs) T).fenced P F:=fenced_leaving (u▸R) p A;obtain ⟨x,y,J,B⟩:=hR
  have C:StepsIn (Machine.fenced P F) P (lone (b.atR a (.code (.rangeFunc g ps assign body)::k)) cs w) (lone (b.atR { a with defers:=mark++a.defers } ((x.map Item.code).toList++k)) cs y):=by
   refine .head h0 o (zI4 W (.head r ?_ (.one (zKN (fr:=b.atR { a with defers:=mark++a.defers } (.endRangeFunc l::k)) j m rfl) (stepR_endRangeFunc J))));rw [←finish_atR_inRangeFunc l v];exact step_leave_returned A
  cases x with
  | none=>exact ⟨.normal,_,y,B,C⟩
  | some c=>
   obtain ⟨K,M,N,L,O⟩:=B b k cs t j m;exact ⟨K,M,N,L,.of_steps C O⟩
 | panicked U=>
  have r:(lone fr (b.atR { a with defers:=mark++a.defers } (.inRangeFunc l::k)::cs) T).fenced P F:=fenced_leaving (u▸R) p A;refine ⟨.panic U,_,T,hR,.inRangeFunc l::k,.head h0 o (zI4 W (.one r ?_))⟩;rw [←Frame.raise_atR];exact step_leave_panicked A
def zLZ {fn:Func}{args:Array Value}{R:Ending -> World -> Prop}(M:P.funcs[fi]? =some fn)(o:fn.body=some c)(d:F.fn fi) 
 (h:In F n P fi c (bodyPostM F n P fn R) { tmps:=args++Array.replicate (fn.ntmps-args.size) undef,defers:=[] } w) (p:F.round=none:=by rfl):CallsIn F n P fi args w R:=by
 refine ⟨d,λcs i=>?_⟩
 let b:Frame:={ (default:Frame) with fn:=fi,kind:=.normal,roundOf:=none }
 have q:Frame.enter P fi args .normal=b.atR { tmps:=args++Array.replicate (fn.ntmps-args.size) undef,defers:=[] } [.code c]:=by
  simp [Frame.enter,Frame.atR,M,o,b]
 obtain ⟨e,a,w',L,N⟩:=h b [] cs p.symm d i rfl;rw [←q] at N;cases e with
 | normal=>
  obtain ⟨Q,H,fr',hR,k,f,m⟩:=zNq a.defers .returning w' { b.atR a [] with mode:=.returning } cs rfl rfl rfl M rfl d i L;exact ⟨Q,H,fr',hR,ComesIn.of_steps (zI4 N (.one (zKN (fr:=b.atR a []) d i rfl) (stepR_end rfl))) k,f,m⟩
 | ret=>
  obtain ⟨g,j⟩:=N.1 rfl;obtain ⟨Q,H,fr',hR,k,f,m⟩:=zNq a.defers .returning w' { b.atR a g with mode:=.returning } cs rfl rfl rfl M rfl d i L;exact ⟨Q,H,fr',hR,ComesIn.of_steps j k,f,m⟩
 | panic s=>
  obtain ⟨g,j⟩:=N;obtain ⟨Q,H,fr',hR,k,f,m⟩:=zNq a.defers (.panicking s) w' { b.atR a g with mode:=.panicking s } cs rfl rfl rfl M rfl d i L;exact ⟨Q,H,fr',hR,ComesIn.of_steps j k,f,m⟩
 | exit id=>exact L.elim
 | goto l=>exact L.elim
 | outgrown=>exact ⟨.outgrown,w',b,L,N.resolve_left (by simp [b]),rfl,trivial⟩
def zCN (F:Fence)(n:Nat)(P:Program)(l:Nat)(f:FuncId)(R:Ending -> World -> Prop):Exit -> Act -> World -> Prop
 | .panic J,a,w=>∃ fn,P.funcs[f]? =some fn/\ LeavesInM (F.inRound l) n P fn a.tmps (λe w'=>e= .panicked J/\ R e w') a.defers (.panicking J) w
 | e,a,w=>roundPost P l R e a w
def zCP {l:Nat}{f:FuncId}{tmps:Array Value}{R:Ending -> World -> Prop}(m:F.fn f) 
 (h:assign.wpIn (F.inRound l) n P (Exit.then (λp q=>∃ z,(Instr.beginRound l).run P q= .ok () z/\ body.wpIn (F.inRound l) n P (zCN F n P l f R) p z) (λ_ _ _=>False))
  { tmps:=tmps,defers:=[] } w):
 RoundIn F n P l f tmps assign body w R:=by
 refine ⟨m,λc cs u=>?_⟩
 let b:Frame:={ (default:Frame) with fn:=f,kind:=.normal,roundOf:=some l }
 have x:Frame.round l f tmps assign body .normal=b.atR { tmps:=tmps,defers:=[] } [.code assign,.beginRound,.code body]:=by
  simp [Frame.round,Frame.atR,b]
 have i:(F.inRound l).room ((c::cs).length+1+n):=u;have M:(F.inRound l).fn b.fn:=m;obtain ⟨e,p,q,L,N⟩:=h b [.beginRound,.code body] (c::cs) rfl M i;rw [←x] at N;cases e with
 | normal=>
  obtain ⟨z,X,y⟩:=L
  have g:StepsIn (Machine.fenced P (F.inRound l)) P (lone (b.atR p [.beginRound,.code body]) (c::cs) q) (lone (b.atR p [.code body]) (c::cs) z):=
   .one (zKN (fr:=b.atR p [.beginRound,.code body]) M i rfl) (stepR_beginRound rfl X)
  obtain ⟨Q,a,T,I,j⟩:=y b [] (c::cs) rfl M i;cases Q with
  | normal=>
   obtain ⟨v,A,d,hR⟩:=I;exact ⟨.returned v,A,hR,(zI4 N g).trans (zI4 j (.one (zKN (fr:=b.atR a []) M i rfl) (stepR_round_end rfl rfl d)))⟩
  | ret=>
   obtain ⟨v,A,d,hR⟩:=I;obtain ⟨Y,k⟩:=j.2 rfl;exact ⟨.returned v,A,hR,(zI4 N g).trans (zI4 k (.one (zKN (fr:=b.atR a (.code .ret::Y)) M i rfl) (stepR_round_ret rfl rfl d)))⟩
  | exit id=>
   obtain ⟨v,A,d,hR⟩:=I;obtain ⟨Y,hk,k⟩:=j.2 rfl rfl;exact ⟨.returned v,A,hR,(zI4 N g).trans (zI4 k (.one (zKN (fr:=b.atR a (.code (.exit id)::Y)) M i rfl) (stepR_round_exit rfl rfl hk d)))⟩
  | goto t=>
   obtain ⟨v,A,d,hR⟩:=I;obtain ⟨Y,hk,k⟩:=j.2 rfl rfl;exact ⟨.returned v,A,hR,(zI4 N g).trans (zI4 k (.one (zKN (fr:=b.atR a (.code (.goto t)::Y)) M i rfl) (stepR_round_goto rfl rfl hk d)))⟩
  | panic s=>
   obtain ⟨fn,B,I⟩:=I;obtain ⟨o,C⟩:=j;obtain ⟨e',H,fr',⟨rfl,hR⟩,k,D,r⟩:=zNq a.defers (.panicking s) T { b.atR a o with mode:=.panicking s } (c::cs) rfl rfl rfl B rfl M i I;have k:StepsIn (Machine.fenced P (F.inRound l)) P (lone { b.atR a o with mode:=.panicking s } (c::cs) T) (lone fr' (c::cs) H):=k;exact ⟨.panicked s,H,hR,(zI4 N g).trans ((zI4 C k).trans (.one (fenced_leaving (n:=n) (by rw [D];exact M) i r) (step_leave_panicked r)))⟩
  | outgrown=>exact I.elim
 | exit id=>exact L.elim
 | goto t=>exact L.elim
 | ret=>exact L.elim
 | panic s=>exact L.elim
 | outgrown=>exact L.elim
end
def zCM (Keep:Ψ)(I:World -> Prop)(b:Code -> World -> Prop)(h:List PanicEntry -> World -> Prop)(W:World):Exit -> Act -> World -> Prop
 | .normal,_,o=>AQ (λk=>¬ Keep k) W o/\ I o
 | .ret,_,o=>AQ (λk=>¬ Keep k) W o/\ b .ret o
 | .exit id,_,o=>AQ (λk=>¬ Keep k) W o/\ b (.exit id) o
 | .goto t,_,o=>AQ (λk=>¬ Keep k) W o/\ b (.goto t) o
 | .panic c,a,o=>∃ B,Ed B a.defers o/\ ∀ u,Mw B o u -> AQ (λk=>¬ Keep k) W u/\ h c u
 | .outgrown,_,_=>False
def mN (nv:Prop)(P:Program)(g:Nat)(lb:Array Value){X:Type}(E:X -> (Ψ) -> World -> Array Value -> Prop)(encs:List X)(GP:Ending -> (Ψ) -> (Ψ) -> World -> Prop)(G0 Rd:Ψ)(w:World):Prop:= ∀ (l:Nat) (J:Nat -> (Ψ) -> (Ψ) -> World -> Prop) (a:(Ψ) -> (Ψ) -> World -> Prop) (W:World), (∀ i,Cz (J i)) -> Cz a -> AQ (λk=>¬ (G0 k∨Rd k)) w W -> (∀ i x args G R y,encs[i]? =some x -> E x R y args -> J i G R y -> ED G R y -> YieldAt Fence.wide 0 P l args y λe o=> AQ (λk=>¬ (G k∨R k)) y o/\ ((e= .returned (.bool true)/\ J (i+1) G R o)∨(e= .returned (.bool false)/\ a G R o))) -> J 0 G0 Rd W -> (nv -> ∀ G R W,¬ a G R W) -> CallsIn Fence.wide 0 P g (#[.func (.yield l) #[] #[]]++lb) W λe o=>∃ G R,ED G R o/\ ((J encs.length G R o/\ GP e G R o)∨((∃ v,e= .returned v)/\ a G R o))
def T4 (nv np:Prop)(P:Program)(g:Nat)(lb:Array Value){X:Type}(E:X -> (Ψ) -> World -> Array Value -> Prop)(encs:List X)(GP:Ending -> (Ψ) -> (Ψ) -> World -> Prop)(G0 Rd:Ψ)(w:World):Prop:= ∀ (l:Nat) (J:Nat -> (Ψ) -> (Ψ) -> World -> Prop) (a:(Ψ) -> (Ψ) -> World -> Prop) (b:List PanicEntry -> (Ψ) -> (Ψ) -> World -> Prop) (W:World), (∀ i,Cz (J i)) -> Cz a -> (∀ c,Cz (b c)) -> AQ (λk=>¬ (G0 k∨Rd k)) w W -> (∀ i x args G R y,encs[i]? =some x -> E x R y args -> J i G R y -> ED G R y -> YieldAt Fence.wide 0 P l args y λe o=> AQ (λk=>¬ (G k∨R k)) y o/\ ((e= .returned (.bool true)/\ J (i+1) G R o)∨(e= .returned (.bool false)/\ a G R o)∨∃ c,e= .panicked c/\ b c G R o)) -> J 0 G0 Rd W -> (nv -> ∀ G R W,¬ a G R W) -> (np -> ∀ c G R W,¬ b c G R W) -> CallsIn Fence.wide 0 P g (#[.func (.yield l) #[] #[]]++lb) W λe o=>∃ G R,ED G R o/\ ((J encs.length G R o/\ GP e G R o)∨((∃ v,e= .returned v)/\ a G R o)∨∃ c,e= .panicked c/\ b c G R o)
theorem YieldAt.mono {P:Program}{l:Nat}{args:Array Value}{w:World}{R R':Ending -> World -> Prop}(h:YieldAt Fence.wide 0 P l args w R)(hR: ∀ e w',R e w' -> R' e w'):YieldAt Fence.wide 0 P l args w R':=by
 obtain ⟨fn,tmps,T,body,a,b⟩:=h;exact ⟨fn,tmps,T,body,a,b.mono hR⟩
def mN.gen {nv:Prop}{P:Program}{g:Nat}{lb:Array Value}{X:Type}{E:X -> (Ψ) -> World -> Array Value -> Prop}{encs:List X}{GP:Ending -> (Ψ) -> (Ψ) -> World -> Prop}{G0 Rd:Ψ}{w:World}(h:mN nv P g lb E encs GP G0 Rd w):T4 nv True P g lb E encs GP G0 Rd w:=
 λl J b Jp W hJ d _ f hy h0 p j=>(h l J b W hJ d f (λi x args G R y m n o A=>YieldAt.mono (hy i x args G R y m n o A) λe r ⟨a,k⟩=>⟨a,k.imp id λq=>q.resolve_right λ⟨c,_,q⟩=>j trivial c _ _ _ q⟩) h0 p).mono λe r ⟨G,R,a,k⟩=>⟨G,R,a,k.imp id .inl⟩
abbrev Ol:=@mN False
section
variable {P:Program} {X:Type} {E:X -> (Ψ) -> World -> Array Value -> Prop} {GP:Ending -> (Ψ) -> (Ψ) -> World -> Prop} {encs:List X} {G0 Rd:Ψ} {ps:Array Tmp} {assign body:Code} {a:Act} {gf:Nat} {lb:Array Value}
def Xh (P:Program)(E:X -> (Ψ) -> World -> Array Value -> Prop)(encs:List X)(ps:Array Tmp)(assign body:Code)(a:Act)(l:Nat)(I:Nat -> (Ψ) -> (Ψ) -> World -> Prop)(b:Code -> (Ψ) -> (Ψ) -> World -> Prop)(h:List PanicEntry -> (Ψ) -> (Ψ) -> World -> Prop):Prop:= ∀ (G R:Ψ) (i:Nat) (x:X) (args:Array Value) (W:World),encs[i]? =some x -> E x R W args -> I i G R W -> ED G R W -> (∃ r,W.heap[l]? =some (.loop r)) -> G l -> assign.wpIn (Fence.wide.inRound l) 0 P (Exit.then (λe d=>∃ K:(Ψ) -> (Ψ) -> World -> Prop,Cz K/\ AQ (λk=>¬ (G k∨R k)) W d/\ K G R d/\ ∀ H,K G R H -> (∃ r,H.heap[l]? =some (.loop r)) -> body.wpIn (Fence.wide.inRound l) 0 P (zCM (λk=>G k∨R k) (I (i+1) G R) (λc=>b c G R) (λc=>h c G R) H) e H) (λ_ _ _=>False)) { tmps:=(ps.zip args).foldl (λt (p,v)=>t.setIfInBounds p v) a.tmps,defers:=[] } W
variable {nv np:Prop}
def qX {w0 C:World}{l D dd:Nat}{fn:FuncId}{loose:Bool}(jD:np∨∃ f,P.funcs[fn]? =some f) 
 (hseq:T4 nv np P gf lb E encs GP G0 Rd w0) (WY:AQ (λk=>¬ (G0 k∨Rd k)) w0 C) (Gc: ∀ k,G0 k∨Rd k -> k<l/\ k≠D) (Sy: ∀ k,G0 k -> ¬ Rd k) (Ea: ∀ x∈encs,∀ R W args,E x R W args -> args.size=ps.size)
 (Z:LoopState -> Option Code -> Loop) (D9: ∀ st pe,Z st pe= { state:=st,pending:=pe,fn,tmps:=a.tmps,params:=ps,assign,body,defers:=dd })
 (Hi:C.heap[l]? =some (.loop (Z .ready none))) (hD1:loose=false -> C.heap[D]? =some (.deferred (some []))) (tj:D≠l)
 (I:Nat -> (Ψ) -> (Ψ) -> World -> Prop) (N:Code -> (Ψ) -> (Ψ) -> World -> Prop) (F:List PanicEntry -> (Ψ) -> (Ψ) -> World -> Prop) (hI: ∀ i,Cz (I i)) (JS: ∀ c,Cz (N c)) (QZ: ∀ c,Cz (F c)) (N8:nv -> ∀ c G R W,¬ N c G R W) (KA:np -> ∀ c G R W,¬ F c G R W) (own:Ψ) (Sj: ∀ k,own k -> k=l∨(loose=false/\ k=D)) (y:own l) (O:loose=false -> own D)
 (h0:I 0 (λk=>G0 k∨own k) Rd C) (DS:Xh P E encs ps assign body a l I N F):
 CallsIn Fence.wide 0 P gf (#[.func (.yield l) #[] #[]]++lb) C λe z=>∃ G R,ED (λk=>G k∨own k) R z/\ (∀ k,own k -> ¬ G k)/\ (loose=false -> z.heap[D]? =some (.deferred (some [])))/\
  ((I encs.length (λk=>G k∨own k) R z/\ GP e G R z/\ z.heap[l]? =some (.loop (Z .ready none)))∨((∃ v,e= .returned v)/\ ∃ c,N c (λk=>G k∨own k) R z/\ z.heap[l]? =some (.loop (Z .done (some c))))∨∃ c,e= .panicked c/\ F c (λk=>G k∨own k) R z):=by
 have Zk: ∀ {W:World} {r:Loop} {k:Nat},W.heap[l]? =some (.loop r) -> (loose=false -> W.heap[D]? =some (.deferred (some []))) -> own k -> k<W.heap.size:=λH J ho=>
  (Sj _ ho).elim (λe=>e▸(zGS.1 H).1) (λe=>e.2▸(zGS.1 (J e.1)).1)
 have shr: ∀ {G R:Ψ} {W:World} {r:Loop},ED G R W -> (∀ k,own k -> ¬ G k/\ ¬ R k) -> W.heap[l]? =some (.loop r) -> (loose=false -> W.heap[D]? =some (.deferred (some []))) -> ED (λk=>G k∨own k) R W:=λQ d H J=>
  ⟨λk hk=>hk.elim (Q.dis k) λh=>(d k h).2,λk hk=>hk.elim (λh=>h.elim (λh=>Q.lt k (.inl h)) (Zk H J)) λh=>Q.lt k (.inr h)⟩
 have EC: ∀ (Φ:(Ψ) -> (Ψ) -> World -> Prop) (r:Loop),Cz Φ -> Cz (λG R W=>Φ (λk=>G k∨own k) R W/\ (∀ k,own k -> ¬ G k/\ ¬ R k)/\ W.heap[l]? =some (.loop r)/\ (loose=false -> W.heap[D]? =some (.deferred (some [])))):=by
  rintro Φ r hΦ G R G' R' A B ⟨h1,h2,H,J⟩ S hg m IX q p
  have d: ∀ k,own k -> ¬ G' k/\ ¬ R' k:=λk ho=>by
   grind
  have bW:=(S.block l (Zk H J y) (h2 l y).1).trans H;have uT:loose=false -> B.heap[D]? =some (.deferred (some [])):=λo=>(S.block D (Zk H J (O o)) (h2 D (O o)).1).trans (J o)
  refine ⟨hΦ _ R _ R' A B h1 (S.mono λi _ h=>.inl h) (λk hk=>hk.elim (λh=>(hg k h).imp .inl id) λh=>.inl (.inr h)) (λk hk=>(m k hk).imp id λh=>h.imp .inl id) (λk hk=>?_) (λk hk=>hk.elim (q k) λh=>(d k h).2) (λk hk=>hk.elim (λh=>h.elim (λh=>p k (.inl h)) (Zk bW uT)) λh=>p k (.inr h)),d,bW,uT⟩
  grind
 have hGl: ∀ k,G0 k∨Rd k -> k<C.heap.size:=λk h=>Nat.lt_trans (Gc k h).1 (zGS.1 Hi).1
 have GH: ∀ k,own k -> ¬ G0 k/\ ¬ Rd k:=λk ho=>by
  grind
 refine (hseq l
  (λi G R W=>I i (λk=>G k∨own k) R W/\ (∀ k,own k -> ¬ G k/\ ¬ R k)/\ W.heap[l]? =some (.loop (Z .ready none))/\ (loose=false -> W.heap[D]? =some (.deferred (some []))))
  (λG R W=>∃ c,N c (λk=>G k∨own k) R W/\ (∀ k,own k -> ¬ G k/\ ¬ R k)/\ W.heap[l]? =some (.loop (Z .done (some c)))/\ (loose=false -> W.heap[D]? =some (.deferred (some []))))
  (λc G R W=>F c (λk=>G k∨own k) R W/\ (∀ k,own k -> ¬ G k/\ ¬ R k)/\ W.heap[l]? =some (.loop { Z .ready none with state:=.busy })/\ (loose=false -> W.heap[D]? =some (.deferred (some []))))
  C (λi=>EC (I i) _ (hI i)) (λG R G' R' A B ⟨c,h⟩ S hg m IX q p=>⟨c,EC (N c) _ (JS c) G R G' R' A B h S hg m IX q p⟩) (λc=>EC (F c) _ (QZ c)) WY ?_ ⟨h0,GH,Hi,hD1⟩ (λd G R W ⟨c,h,_⟩=>N8 d c _ _ _ h) (λd c G R W ⟨h,_⟩=>KA d c _ _ _ h)).mono ?_
 ·rintro i x args G R W g hE ⟨hi,d,o,q⟩ Q;have P6:x∈encs:=zG6 g;have p:l<W.heap.size:=(zGS.1 o).1;have Ga:=shr Q d o q;have hy:=run_yield (P:=P) (args:=args) o (by rw [D9];exact Ea x P6 R W args hE);rw [D9] at hy;refine ⟨fn,_,assign,body,hy,zCP trivial (zMb (DS _ R i x args W g hE hi Ga ⟨_,o⟩ (.inr y)) ?_)⟩;rintro e a1 s hq;cases e <;> first | exact hq.elim | skip
  obtain ⟨K,hK,V,hk1,hb⟩:=hq;have s9:AQ (λk=>¬ (G k∨R k)) W s:=V.mono λk _ h g=>h (g.imp .inl id)
  have o:=(V.block l p (λh=>h (.inl (.inr y)))).trans o;have q:loose=false -> s.heap[D]? =some (.deferred (some [])):=λh=>(V.block D (zGS.1 (q h)).1 (λg=>g (.inl (.inr (O h))))).trans (q h)
  have p:l<s.heap.size:=zGb p V.size;have aw:=Ga.upd V;refine ⟨_,run_beginRound o (by rw [D9]),?_⟩;have Cb:(s.putObj l (.loop { Z .ready none with state:=.busy })).heap[l]? =some (.loop { Z .ready none with state:=.busy }):=World.putObj_heap_same p;have JQ:loose=false -> (s.putObj l (.loop { Z .ready none with state:=.busy })).heap[D]? =some (.deferred (some [])):=λh=>(zIT tj).trans (q h)
  have V6:AQ (λk=>G k∨own k) s (s.putObj l (.loop { Z .ready none with state:=.busy })):=(AQ.refl _ s).putObj (λ_=>.inr y) _;refine zMb (hb _ (hK.same aw hk1 V6) ⟨_,Cb⟩) ?_
  have w: ∀ (n:Option Code) (u:World),AQ (λk=>¬ ((G k∨own k)∨R k)) (s.putObj l (.loop { Z .ready none with state:=.busy })) u ->
   (Instr.endRound l n).run P u= .ok (.bool n.isNone) (u.putObj l (.loop (Z (if n.isNone then .ready else .done) n)))/\
   (u.putObj l (.loop (Z (if n.isNone then .ready else .done) n))).heap[l]? =some (.loop (Z (if n.isNone then .ready else .done) n))/\
   (loose=false -> (u.putObj l (.loop (Z (if n.isNone then .ready else .done) n))).heap[D]? =some (.deferred (some [])))/\
   AQ (λk=>¬ (G k∨R k)) W (u.putObj l (.loop (Z (if n.isNone then .ready else .done) n)))/\
   ED (λk=>G k∨own k) R u/\ AQ (λk=>G k∨own k) u (u.putObj l (.loop (Z (if n.isNone then .ready else .done) n))):=λn u b=>by
   have bF:u.heap[l]? =some (.loop { Z .ready none with state:=.busy }):=(b.block l (by simpa using p) (λh=>h (.inl (.inr y)))).trans Cb;have:=run_endRound (P:=P) n bF;refine ⟨by rw [D9] at this ⊢;exact this,World.putObj_heap_same (zGS.1 bF).1,λh=>(zIT tj).trans ((b.block D ?_ (λg=>g (.inl (.inr (O h))))).trans (JQ h)),s9.comp (S':=λk=>¬ (G k∨R k)) ?_ (λ_ _ h=>h),(aw.upd V6).upd b,(AQ.refl _ u).putObj (λ_=>.inr y) _⟩
   ·grind
   ·refine ⟨b.os,b.tape,b.output,by simpa using b.size,λk hk OD=>?_⟩;have kN:G k∨R k:=Classical.not_not.1 OD
    by_cases E4:k=l
    ·grind
    ·rw [zIT E4,b.block k (by simpa using hk) (λg=>g (kN.imp .inl id)),zIT E4]
  rintro e a3 u j;cases e with
  | normal=>
   obtain ⟨b,jm⟩:=j;obtain ⟨m,L,T,X,Y,M⟩:=w none u b;exact ⟨_,_,m,X,.inl ⟨rfl,(hI _).same Y jm M,d,L,T⟩⟩
  | ret=>
   obtain ⟨m,L,T,X,Y,M⟩:=w (some .ret) u j.1;exact ⟨_,_,m,X,.inr (.inl ⟨rfl,.ret,(JS _).same Y j.2 M,d,L,T⟩)⟩
  | exit id=>
   obtain ⟨m,L,T,X,Y,M⟩:=w (some (.exit id)) u j.1;exact ⟨_,_,m,X,.inr (.inl ⟨rfl,(.exit id),(JS _).same Y j.2 M,d,L,T⟩)⟩
  | goto t=>
   obtain ⟨m,L,T,X,Y,M⟩:=w (some (.goto t)) u j.1;exact ⟨_,_,m,X,.inr (.inl ⟨rfl,(.goto t),(JS _).same Y j.2 M,d,L,T⟩)⟩
  | panic ch=>
   obtain ⟨B,hm,j⟩:=j
   have key: ∀ U,Mw B u U -> AQ (λk=>¬ (G k∨R k)) W U/\ (F ch (λk=>G k∨own k) R U/\ (∀ k,own k -> ¬ G k/\ ¬ R k)/\ U.heap[l]? =some (.loop { Z .ready none with state:=.busy })/\ (loose=false -> U.heap[D]? =some (.deferred (some [])))):=λU IZ=>by
    obtain ⟨b,jm⟩:=j U IZ;have bF:U.heap[l]? =some (.loop { Z .ready none with state:=.busy }):=(b.block l (by simpa using p) (λh=>h (.inl (.inr y)))).trans Cb;refine ⟨s9.comp (S':=λk=>¬ (G k∨R k)) ⟨b.os,b.tape,b.output,by simpa using b.size,λk hk OD=>?_⟩ (λ_ _ h=>h),jm,d,bF,λh=>(b.block D ?_ (λg=>g (.inl (.inr (O h))))).trans (JQ h)⟩
    ·have kN:G k∨R k:=Classical.not_not.1 OD;have E4:k≠l:=λe=>by grind
     rw [b.block k (by simpa using hk) (λg=>g (kN.imp .inl id)),zIT E4]
    grind
   rcases jD with zH9 | ⟨f,hf⟩
   ·exact (KA zH9 _ _ _ _ (j u (AQ.refl _ _)).2).elim
   ·exact ⟨f,hf,aK (by simp) _ _ hm λU IZ=>⟨rfl,(key U IZ).1,.inr (.inr ⟨ch,rfl,(key U IZ).2⟩)⟩⟩
  | outgrown=>exact j.elim
 grind
variable {Q:Exit -> Act -> World -> Prop}{g:Operand}
def mc {fi:FuncId}(Y:np∨∃ f,P.funcs[fi]? =some f){w:World}(K:a.eval g= .func (.func gf) #[] lb)(L: ∀ args w,(callFunc gf args).run P w= .ok (.enter gf args) w) 
 (hseq:T4 nv np P gf lb E encs GP G0 Rd w) (O:ED G0 Rd w) (M: ∀ x∈encs,∀ R W args,E x R W args -> args.size=ps.size)
 (I:Nat -> (Ψ) -> (Ψ) -> World -> Prop) (d:Code -> (Ψ) -> (Ψ) -> World -> Prop) (j:List PanicEntry -> (Ψ) -> (Ψ) -> World -> Prop) (u: ∀ i,Cz (I i)) (B: ∀ c,Cz (d c)) (U: ∀ c,Cz (j c)) (N:nv -> ∀ c G R W,¬ d c G R W) (T:np -> ∀ c G R W,¬ j c G R W) (h0:I 0 G0 Rd w) (V: ∀ l,Xh P E encs ps assign body a l I d j)
 (n: ∀ (D:Nat) (e:Ending) (G R own:Ψ) (W b:World),GP e G R W -> I encs.length (λk=>G k∨own k) R b -> ED (λk=>G k∨own k) R b -> (∀ k,own k -> ¬ G k) -> AQ own W b -> b.heap[D]? =some (.deferred (some [])) -> w.heap.size<=D ->
  match e with
  | .returned _=>Q .normal { a with defers:={ target:=.collected D,args:=#[] }::a.defers } b
  | .panicked c=>Q (.panic c) { a with defers:={ target:=.collected D,args:=#[] }::a.defers } b
  | .outgrown=>False)
 (X: ∀ (D:Nat) (c:Code) (G R:Ψ) (W:World),d c G R W -> W.heap[D]? =some (.deferred (some [])) -> w.heap.size<=D ->
  c.wpIn Fence.wide 0 P Q { a with defers:={ target:=.collected D,args:=#[] }::a.defers } W)
 (Sh: ∀ (D:Nat) (c:List PanicEntry) (G R:Ψ) (W:World),j c G R W -> W.heap[D]? =some (.deferred (some [])) -> w.heap.size<=D -> Q (.panic c) { a with defers:={ target:=.collected D,args:=#[] }::a.defers } W):
 In Fence.wide 0 P fi (.rangeFunc g ps assign body) Q a w:=by
 refine xh λ_=>?_
 have Ga:(w.alloc (.deferred (some []))).heap.size=w.heap.size+1:=World.size_alloc _ _;obtain ⟨Z,t⟩: ∃ Z:LoopState -> Option Code -> Loop,∀ st J,Z st J= { state:=st,pending:=J,fn:=fi,tmps:=a.tmps,params:=ps,assign,body,defers:=w.heap.size }:=⟨_,λ_ _=>rfl⟩;obtain ⟨y,S6⟩: ∃ y,(w.alloc (.deferred (some []))).alloc (.loop (Z .ready none))=y:=⟨_,rfl⟩
 have C:y.heap[w.heap.size+1]? =some (.loop (Z .ready none)):=by
  grind [World.alloc_heap_new]
 have p:y.heap[w.heap.size]? =some (.deferred (some [])):=by
  grind [Below.heap_alloc,World.alloc_heap_new]
 have F: ∀ S,AQ S w y:=λS=>by rw [←S6];exact ((AQ.refl S w).alloc _).alloc _
 have AU:=(zGS.1 C).1
 refine ⟨w.heap.size+1,[{ target:=.collected w.heap.size,args:=#[] }],y,{ target:=.fn (.func gf) lb,args:=#[.func (.yield (w.heap.size+1)) #[] #[]] },y,gf,
  #[.func (.yield (w.heap.size+1)) #[] #[]]++lb,y,?_,?_,λ_ _=>trivial,?_,(λh=>by cases h),?_⟩
 ·simp_all [run_enterLoop_outer]
 ·simp only [resolve,K];simp [go_sem]
 ·simp [invoke,go_sem,L]
 ·refine (qX Y (loose:=false) (D:=w.heap.size) hseq (F _) (λk h=>by have:=O.lt k h;omega) O.dis M Z t C (λ_=>p) (by omega)
   I d j u B U N T (λk=>k=w.heap.size+1∨k=w.heap.size) (λk h=>h.imp id λh=>⟨rfl,h⟩) (.inl rfl) (λ_=>.inr rfl)
   (u 0 G0 Rd _ Rd _ _ h0 (F _) (λk h=>h.imp id (by omega)) (λk h=>.inl h) (λk h=>h.imp .inl id) (λk h H=>?_) (λk h=>?_)) (V _)).mono ?_
  ·rcases h with h | h
   ·exact O.dis k h H
   ·have:=O.lt k (.inr H);omega
  ·rcases h with (h | h) | h
   ·have:=O.lt k (.inl h);omega
   ·omega
   ·have:=O.lt k (.inr h);omega
  rintro e q ⟨G,R,m,r,hk,(⟨hi,s,z⟩ | ⟨⟨v,rfl⟩,c,hi,z⟩ | ⟨c,rfl,hi⟩)⟩
  ·have A: ∀ o,AQ (λk=>k=w.heap.size+1∨k=w.heap.size) q (q.putObj (w.heap.size+1) o):=λo=>(AQ.refl _ q).putObj (λ_=>.inl rfl) _
   have BG: ∀ o,AQ (λk=>G k∨k=w.heap.size+1∨k=w.heap.size) q (q.putObj (w.heap.size+1) o):=λo=>(A o).mono λ_ _ h=>.inr h
   cases e with
   | returned v=>exact ⟨none,_,by have:=run_endLoop (P:=P) z (by rw [t];simp);rw [t] at this;exact this,
    n _ (.returned v) G R _ q _ s ((u _).same m hi (BG _)) (m.upd (A _)) r (A _) ((zIT (by omega)).trans (hk rfl)) (zGd _)⟩
   | panicked c=>exact n _ (.panicked c) G R _ q q s hi m r (AQ.refl _ _) (hk rfl) (zGd _)
   | outgrown=>exact (n _ .outgrown G R _ q q s hi m r (AQ.refl _ _) (hk rfl) (zGd _)).elim
  ·exact ⟨some c,_,by have:=run_endLoop (P:=P) z (by rw [t];simp);rw [t] at this;exact this,
    X _ c _ _ _ ((B _).same m hi ((AQ.refl _ q).putObj (λ_=>.inr (.inl rfl)) _)) ((zIT (by omega)).trans (hk rfl)) (zGd _)⟩
  ·exact Sh _ c _ _ _ hi (hk rfl) (zGd _)
def xe {w:World}(j:a.eval g= .func (.func gf) #[] lb)(f: ∀ args w,(callFunc gf args).run P w= .ok (.enter gf args) w) 
 (hseq:T4 nv True P gf lb E encs GP G0 Rd w) (O:ED G0 Rd w) (m: ∀ x∈encs,∀ R W args,E x R W args -> args.size=ps.size)
 (I:Nat -> (Ψ) -> (Ψ) -> World -> Prop) (b:Code -> (Ψ) -> (Ψ) -> World -> Prop) (d:List PanicEntry -> (Ψ) -> (Ψ) -> World -> Prop) (u: ∀ i,Cz (I i)) (t: ∀ c,Cz (b c)) (U: ∀ c,Cz (d c)) (n:nv -> ∀ c G R W,¬ b c G R W) (S: ∀ c G R W,¬ d c G R W) (h0:I 0 G0 Rd w) (p: ∀ l,Xh P E encs ps assign body a l I b d)
 (v: ∀ (D:Nat) (e:Ending) (G R own:Ψ) (W o:World),GP e G R W -> I encs.length (λk=>G k∨own k) R o -> ED (λk=>G k∨own k) R o -> (∀ k,own k -> ¬ G k) -> AQ own W o -> o.heap[D]? =some (.deferred (some [])) -> w.heap.size<=D ->
  match e with
  | .returned _=>Q .normal { a with defers:={ target:=.collected D,args:=#[] }::a.defers } o
  | .panicked c=>Q (.panic c) { a with defers:={ target:=.collected D,args:=#[] }::a.defers } o
  | .outgrown=>False)
 (q: ∀ (D:Nat) (c:Code) (G R:Ψ) (W:World),b c G R W -> W.heap[D]? =some (.deferred (some [])) -> w.heap.size<=D ->
  c.wpIn Fence.wide 0 P Q { a with defers:={ target:=.collected D,args:=#[] }::a.defers } W):
 (Code.rangeFunc g ps assign body).wpIn Fence.wide 0 P Q a w:=
 xg λ_=>mc (.inl trivial) j f hseq O m I b d u t U n (λ_=>S) h0 p v q λD c G R W h=>(S c G R W h).elim
def xf {l0:Nat}{w:World}(K:a.eval g= .func (.func gf) #[] lb)(L: ∀ args w,(callFunc gf args).run P w= .ok (.enter gf args) w)(M: ∃ r,w.heap[l0]? =some (.loop r)) 
 (hseq:T4 nv True P gf lb E encs GP G0 Rd w) (O:ED G0 Rd w) (N: ∀ x∈encs,∀ R W args,E x R W args -> args.size=ps.size)
 (I:Nat -> (Ψ) -> (Ψ) -> World -> Prop) (b:Code -> (Ψ) -> (Ψ) -> World -> Prop) (j:List PanicEntry -> (Ψ) -> (Ψ) -> World -> Prop) (u: ∀ i,Cz (I i)) (A: ∀ c,Cz (b c)) (U: ∀ c,Cz (j c)) (T:nv -> ∀ c G R W,¬ b c G R W) (B: ∀ c G R W,¬ j c G R W) (h0:I 0 G0 Rd w) (V: ∀ l,Xh P E encs ps assign body a l I b j)
 (m: ∀ (e:Ending) (G R own:Ψ) (W d:World),GP e G R W -> I encs.length (λk=>G k∨own k) R d -> ED (λk=>G k∨own k) R d -> (∀ k,own k -> ¬ G k) -> AQ own W d ->
  match e with
  | .returned _=>Q .normal a d
  | .panicked c=>Q (.panic c) a d
  | .outgrown=>False)
 (X: ∀ (c:Code) (G R:Ψ) (W:World),b c G R W -> c.wpIn (Fence.wide.inRound l0) 0 P Q a W):
 (Code.rangeFunc g ps assign body).wpIn (Fence.wide.inRound l0) 0 P Q a w:=by
 refine wpIn_rangeFunc ?_;intro fn _;obtain ⟨r0,E3⟩:=M;obtain ⟨Z,t⟩: ∃ Z:LoopState -> Option Code -> Loop,∀ st J,Z st J= { state:=st,pending:=J,fn,tmps:=a.tmps,params:=ps,assign,body,defers:=r0.defers }:=⟨_,λ_ _=>rfl⟩;obtain ⟨y,Y⟩: ∃ y,w.alloc (.loop (Z .ready none))=y:=⟨_,rfl⟩
 have C:y.heap[w.heap.size]? =some (.loop (Z .ready none)):=by
  grind [World.alloc_heap_new]
 have F: ∀ S,AQ S w y:=λS=>by rw [←Y];exact (AQ.refl S w).alloc _
 have AU:=(zGS.1 C).1
 refine ⟨w.heap.size,[],y,{ target:=.fn (.func gf) lb,args:=#[.func (.yield w.heap.size) #[] #[]] },y,gf,
  #[.func (.yield w.heap.size) #[] #[]]++lb,y,?_,?_,λ_ _=>trivial,?_,(λh=>by cases h),?_⟩
 ·simp_all [run_enterLoop_inner]
 ·simp only [resolve,K];simp [go_sem]
 ·simp [invoke,go_sem,L]
 ·refine CallsIn.inRound _ ((qX (.inl trivial) (loose:=true) (D:=w.heap.size+1) (G0:=G0) hseq (F _) (λk h=>by have:=O.lt k h;omega) O.dis N Z t C (λh=>by cases h) (by omega)
   I b j u A U T (λ_=>B) (λk=>k=w.heap.size) (λk h=>.inl h) rfl (λh=>by cases h)
   (u 0 G0 Rd _ Rd _ _ h0 (F _) (λk h=>h.imp id (by omega)) (λk h=>.inl h) (λk h=>h.imp .inl id) (λk h H=>?_) (λk h=>?_)) (V _)).mono ?_)
  ·rcases h with h | h
   ·exact O.dis k h H
   ·have:=O.lt k (.inr H);omega
  ·rcases h with (h | h) | h
   ·have:=O.lt k (.inl h);omega
   ·omega
   ·have:=O.lt k (.inr h);omega
  rintro e q ⟨G,R,f,n,_,(⟨hi,p,s⟩ | ⟨⟨v,rfl⟩,c,hi,s⟩ | ⟨c,rfl,hi⟩)⟩
  ·have z: ∀ o,AQ (λk=>k=w.heap.size) q (q.putObj w.heap.size o):=λo=>(AQ.refl (λk=>k=w.heap.size) q).putObj (λ_=>rfl) _
   cases e with
   | returned v=>exact ⟨none,_,by have:=run_endLoop (P:=P) s (by rw [t];simp);rw [t] at this;exact this,
    m (.returned v) G R _ q _ p ((u _).same f hi ((z _).mono λ_ _ h=>.inr h)) (f.upd (z _)) n (z _)⟩
   | panicked c=>exact m (.panicked c) G R _ q q p hi f n (AQ.refl _ _)
   | outgrown=>exact (m .outgrown G R _ q q p hi f n (AQ.refl _ _)).elim
  ·exact ⟨some c,_,by have:=run_endLoop (P:=P) s (by rw [t];simp);rw [t] at this;exact this,
    X c _ _ _ ((A _).same f hi ((AQ.refl _ q).putObj (λ_=>.inr rfl) _))⟩
  ·exact (B _ _ _ _ hi).elim
end
def zDc (B:Nat)(P:Program)(fn:Func)(R:Ending -> World -> Prop):Exit -> Act -> World -> Prop
 | .normal,a,w | .ret,a,w=>Ed B a.defers w/\ ∀ W,Mw B w W -> ∃ v,(results fn a.tmps).run P W= .ok v W/\ R (.returned v) W
 | _,_,_=>False
def zLY (B:Nat){P:Program}{f:FuncId}{fn:Func}{c:Code}{args:Array Value}{w:World}{R:Ending -> World -> Prop} 
 (M:P.funcs[f]? =some fn) (a:fn.body=some c)
 (h:c.wp P (zDc B P fn R) { tmps:=args++Array.replicate (fn.ntmps-args.size) undef,defers:=[] } w):Calls P f args w R:=by
 refine (zNG (n:=0)).1 (callsIn_of_wp_marks M a trivial ?_);refine zMb (wpIn_wide.2 h) λe a' w' L=>?_
 cases e <;> first | exact aJ _ _ L.1 L.2 | exact L.elim
end
abbrev zGR:=@List.getD_eq_getElem?_getD
abbrev zGT:=@Option.some.inj
abbrev zGj:=@List.length_set
abbrev zGq:=@List.getElem?_eq_some_iff
abbrev zIH:=@Array.getD_eq_getD_getElem?
abbrev zJM:=@List.getElem?_set
section
inductive DV where
 | any
 | nils
 | int (k:IntKind) (n:Int)
 | bool (b:Bool)
 | str (s:ByteArray)
 | ints (l:Ξ)
 | bools (l:Ω)
 | sl (m n:Nat) (f:Nat -> Nat -> DV)
 | fp (m:Nat) (f:Nat -> DV)
 | agg (m:Nat) (f:Nat -> DV)
 | tup (m:Nat) (f:Nat -> DV)
 | ref (k j:Nat)
 | msl (k m off n:Nat)
 | mp (k m i j:Nat)
 | fn (g:Nat) (m:Nat) (c:Nat -> DV)
 | it (k:Nat)
 | yl (l:Nat)
 | mse (k m off n:Nat)
 | mri (k i:Nat)
 | cst (u:Value)
structure AI where
 blk:Nat
 off:Nat
 room:Nat
 val:Value
 foot:Ψ
def HL (m:Nat)(f:Nat -> DV):Nat -> DV:=λj=>((List.range m).map f).getD j .any
variable {j m:Nat}{f:Nat -> DV}
def X5 (h:j<m):HL m f j=f j:=by simp [HL,h]
def LB:Nat:=140737488355328
def AL (M:Ψ)(w:World):DV -> List AI -> Value -> Prop
 | .any,_,_=>True
 | .nils,_,v=>v= .slice none 0 0
 | .int k n,_,v=>v= .int k n
 | .bool b,_,v=>v= .bool b
 | .str s,_,v=>v= .string s
 | .ints l,_,v=>∃ (a:Option Addr) (cap:Nat),v= .slice a l.length cap/\ l.length<=cap/\ l.length<=LB/\
  ∀ j,j<l.length -> ∃ b o,a=some ⟨b,o,none⟩/\ ¬ M b/\ w.cell? ⟨b,o+j,none⟩=some (.int .i64 (l.getD j 0))
 | .bools l,_,v=>∃ (a:Option Addr) (cap:Nat),v= .slice a l.length cap/\ l.length<=cap/\ l.length<=LB/\
  ∀ j,j<l.length -> ∃ b o,a=some ⟨b,o,none⟩/\ ¬ M b/\ w.cell? ⟨b,o+j,none⟩=some (.bool (l.getD j false))
 | .sl m n f,_,v=>∃ (a:Option Addr) (cap:Nat),v= .slice a n cap/\ n<=cap/\ n<=LB/\
  ∀ i j,i<n -> j<m -> ∃ b o u,a=some ⟨b,o,none⟩/\ ¬ M b/\ w.cell? ⟨b,o+(i*m+j),none⟩=some u/\ AL M w (f i j) [] u
 | .fp m f,_,v=>∃ b o,v= .pointer (some ⟨b,o,none⟩)/\ ∀ j,j<m -> ¬ M b/\ ∃ u,w.cell? ⟨b,o+j,none⟩=some u/\ AL M w (f j) [] u
 | .agg m f,ρ,v=>∃ cs,v= .agg cs/\ cs.size=m/\ ∀ j,j<m -> ∃ u,cs[j]? =some u/\ AL M w (f j) ρ u
 | .tup m f,ρ,v=>∃ cs,v= .tuple cs/\ cs.size=m/\ ∀ j,j<m -> ∃ u,cs[j]? =some u/\ AL M w (f j) ρ u
 | .ref k j,ρ,v=>∃ p:AI,ρ[k]? =some p/\ v= .pointer (some ⟨p.blk,p.off+j,none⟩)
 | .msl k m off n,ρ,v=>∃ (p:AI) (cap:Nat),ρ[k]? =some p/\ v= .slice (some ⟨p.blk,p.off+off*m,none⟩) n cap/\ n<=cap/\ n<=LB/\ p.off+off*m+cap*m<=p.room
 | .mp k m i j,ρ,v=>∃ p:AI,ρ[k]? =some p/\ v= .pointer (some ⟨p.blk,p.off+(i*m+j),none⟩)
 | .fn g m c,ρ,v=>∃ X,v= .func (.func g) #[] X/\ X.size=m/\ ∀ j,j<m -> ∃ u,X[j]? =some u/\ AL M w (c j) ρ u
 | .it k,ρ,v=>∃ p:AI,ρ[k]? =some p/\ v=p.val
 | .yl l,_,v=>v= .func (.yield l) #[] #[]
 | .cst u,_,v=>v=u/\ u.oneCell'=true
 | .mri k i,ρ,v=>∃ (p:AI) (vs:Array Value),ρ[k]? =some p/\ p.val= .tuple vs/\ vs[i]? =some v
 | .mse k m off n,ρ,v=>∃ (p:AI) (a:Option Addr) (cap:Nat),ρ[k]? =some p/\ v= .slice a n cap/\ n<=cap/\ n<=LB/\ (0<cap -> a=some ⟨p.blk,p.off+off*m,none⟩/\ p.off+off*m+cap*m<=p.room)
variable {v:Value}{ρ:List AI}{w:World}{M:Ψ}
theorem It (h:j<m)(i:AL M w (f j) ρ v):AL M w (HL m f j) ρ v:=by rw [X5 h];exact i
def AX (w:World)(p:AI)(n:Nat)(R:Nat -> Value -> Prop):Prop:= p.foot=(λb=>b=p.blk)/\ ∃ cs t,w.heap[p.blk]? =some (.cells cs t (0,0))/\ p.off+n<=cs.size/\ p.room<=cs.size/\ ∀ j,j<n -> ∃ u,cs[p.off+j]? =some u/\ R j u
/-! ### Rows that an object owns-/
def Ig (w:World)(F:Ψ)(u:Value)(L:Ξ):Prop:= (L= []/\ u= .slice none 0 0)∨∃ (q:AI) (cap:Nat),u= .slice (some ⟨q.blk,q.off,none⟩) L.length cap/\ L.length<=cap/\ q.off+cap<=q.room/\ L.length<=LB/\ F q.blk/\ AX w q L.length λj x=>x= .int .i64 (L.getD j 0)
def Dh:Value -> Option Nat
 | .slice (some a) _ _=>some a.block
 | _=>none
variable {b:Nat}{L:Ξ}{u:Value}{F:Ψ}
def Ig.blk (h:Ig w F u L)(c:Dh u=some b):F b/\ b<w.heap.size:=by
 rcases h with ⟨_,rfl⟩ | ⟨q,cap,rfl,_,_,_,h5,_,cs,t,h6,_⟩
 ·cases c
 ·cases c;grind
variable {w':World}
theorem Ig.out {y:Ψ}(h:Ig w F u L)(c: ∀ b,F b -> Dh u=some b -> b<w.heap.size -> w'.heap[b]? =w.heap[b]?)(R: ∀ b,F b -> Dh u=some b -> y b):Ig w' y u L:=by
 rcases h with h | ⟨q,cap,a,d,e,A,f,k⟩
 ·exact .inl h
 ·refine .inr ⟨q,cap,a,d,e,A,R _ f (by rw [a];rfl),?_⟩;obtain ⟨o,cs,t,s,P⟩:=k;exact ⟨o,cs,t,(c _ f (by rw [a];rfl) (zGS.1 s).1).trans s,P⟩
structure FT (w:World)(p:AI)(f:Int -> Ξ)(B6:Option (Int×Ξ×Bool))(u:Value)(es:Array MapEntry)(Ak:Nat):Prop where
 val:p.val= .tuple #[Value.map (some p.blk),u]
 blk:w.heap[p.blk]? =some (.map es Ak)
 own:p.foot p.blk
 key: ∀ e∈es.toList,∃ k,e.key= .int .i64 k/\ ((∀ L,B6≠some (k,L,true)) -> Ig w (λb=>p.foot b/\ b≠p.blk) e.val (f k))
 no: ∀ k,(∀ e∈es.toList,e.key≠.int .i64 k) -> f k= []
 nd:(es.toList.map (·.key)).Nodup
 apart: ∀ e∈es.toList,∀ e'∈es.toList,∀ b,Dh e.val=some b -> Dh e'.val=some b -> e.key=e'.key
 born: ∀ e∈es.toList,e.born<Ak
 stamps:(es.toList.map (·.born)).Nodup
 inHand: ∀ k L g,B6=some (k,L,g) -> Ig w (λb=>p.foot b/\ b≠p.blk) u L/\ ∀ e∈es.toList,∀ b,Dh u=some b -> Dh e.val=some b -> e.key= .int .i64 k
variable {Y:Nat}{es:Array MapEntry}{p:AI}
theorem FT.out {f:Int -> Ξ}{v:Option (Int×Ξ×Bool)}(h:FT w p f v u es Y)(c: ∀ b,p.foot b -> b<w.heap.size -> w'.heap[b]? =w.heap[b]?):FT w' p f v u es Y:=
 { h with
  blk:=(c _ h.own (zGS.1 h.blk).1).trans h.blk
  key:=λe I=>let ⟨k,a,d⟩:=h.key e I;⟨k,a,λy=>(d y).out (λb M _ m=>c b M.1 m) λ_ h _=>h⟩
  inHand:=λk L g e=>let ⟨a,d⟩:=h.inHand k L g e;⟨a.out (λb M _ m=>c b M.1 m) λ_ h _=>h,d⟩ }
/-! ### Maps:sets of keys-/
abbrev KS:=List Ξ
def Bb:Ξ -> Value
 | [a]=>.int .i64 a
 | l=>.agg (l.map λa=>.int .i64 a).toArray
theorem sc: ∀ {a b:Ξ},Bb a=Bb b -> a=b:=by
 have c: ∀ {l m:Ξ},(l.map λa=>Value.int .i64 a).toArray=(m.map λa=>Value.int .i64 a).toArray -> l=m:=λ{l m} h=>by
  grind [List.map_inj_right]
 intro a b h
 match a,b with
 | [x],[y]=>cases h;rfl
 | [],[]=>rfl
 | [x],[]=>cases h
 | [],[y]=>cases h
 | [x],y::B::m=>cases h
 | x::x'::l,[y]=>cases h
 | x::x'::l,[]=>exact c (Value.agg.inj h)
 | [],y::B::m=>exact c (Value.agg.inj h)
 | x::x'::l,y::B::m=>exact c (Value.agg.inj h)
structure Fh (w:World)(b n:Nat)(l:KS)(es:Array MapEntry)(Ak:Nat):Prop where
 blk:w.heap[b]? =some (.map es Ak)
 keys:(es.toList.map (·.key)).Perm (l.map Bb)
 nd:l.Nodup
 len: ∀ y∈l,y.length=n
 tru: ∀ e∈es.toList,e.val= .bool true
 born: ∀ e∈es.toList,e.born<Ak
 stamps:(es.toList.map (·.born)).Nodup
variable {n:Nat}
theorem Fh.out {l:KS}(h:Fh w b n l es Y)(c:w'.heap[b]? =w.heap[b]?):Fh w' b n l es Y:={ h with blk:=c.trans h.blk }
inductive MX where
 | set (n:Nat) (l:KS)
 | sets (n:Nat) (ls:List (Option KS)) (lk:Option (Nat×Nat×Array MapEntry×Nat))
 | mit (n mb:Nat) (es:Array MapEntry) (Ak:Nat) (rem:KS) (Fe:Option Ξ)
 | rows (f:Int -> Ξ) (B6:Option (Int×Ξ×Bool))
 | rws (ls:List Ξ) (B6:Option (Nat×Ξ))
structure Lm (w:World)(p:AI)(ls:List Ξ)(B6:Option (Nat×Ξ))(vs:Array Value):Prop where
 val:p.val= .tuple vs
 size:vs.size=ls.length+1
 row: ∃ cs t,w.heap[p.blk]? =some (.cells cs t (0,0))/\ p.off+ls.length<=cs.size/\ p.room<=cs.size/\ ∀ j,j<ls.length -> cs[p.off+j]? =vs[j+1]?
 blk:p.foot p.blk
 has: ∀ j,j<ls.length -> (∀ L,B6≠some (j,L)) -> Ig w (λb=>p.foot b/\ b≠p.blk) (vs.getD (j+1) undef) (ls.getD j default)
 apart: ∀ (i j b:Nat),i<ls.length -> j<ls.length -> (∀ L,B6≠some (i,L)) -> (∀ L,B6≠some (j,L)) -> Dh (vs.getD (i+1) undef)=some b -> Dh (vs.getD (j+1) undef)=some b -> i=j
 inHand: ∀ k L,B6=some (k,L) -> Ig w (λb=>p.foot b/\ b≠p.blk) (vs.getD 0 undef) L/\ ∀ (j b:Nat),j<ls.length -> Dh (vs.getD 0 undef)=some b -> Dh (vs.getD (j+1) undef)=some b -> j=k
variable {vs:Array Value}
theorem Lm.out {E:List Ξ}{v:Option (Nat×Ξ)}(h:Lm w p E v vs)(c: ∀ b,p.foot b -> b<w.heap.size -> w'.heap[b]? =w.heap[b]?):Lm w' p E v vs:=
 { h with
  row:=let ⟨cs,t,a,d⟩:=h.row;⟨cs,t,(c _ h.blk (zGS.1 a).1).trans a,d⟩
  has:=λj f y=>(h.has j f y).out (λb M _ m=>c b M.1 m) λ_ h _=>h
  inHand:=λk L e=>let ⟨a,d⟩:=h.inHand k L e;⟨a.out (λb M _ m=>c b M.1 m) λ_ h _=>h,d⟩ }
structure Ft (w:World)(p:AI)(n:Nat)(ls:List (Option KS))(lk:Option (Nat×Nat×Array MapEntry×Nat))(vs:Array Value):Prop where
 val:p.val= .tuple vs
 size:vs.size=ls.length
 row: ∃ cs t,w.heap[p.blk]? =some (.cells cs t (0,0))/\ p.off+ls.length<=cs.size/\ p.room<=cs.size/\ ∀ j,j<ls.length -> cs[p.off+j]? =vs[j]?
 blk:p.foot p.blk
 has: ∀ (j:Nat) (l:KS),ls[j]? =some (some l) -> ∃ b:Nat,vs[j]? =some (Value.map (some b))/\ b≠p.blk/\ p.foot b/\ ∃ es Ak,Fh w b n l es Ak/\ ∀ x,lk=some x -> x.1=j -> x.2=(b,es,Ak)
 nil: ∀ (j:Nat),ls[j]? =some none -> vs[j]? =some (Value.map none)
 foot: ∀ b,p.foot b -> b=p.blk∨∃ (j:Nat) (l:KS),ls[j]? =some (some l)/\ vs[j]? =some (Value.map (some b))
 inj: ∀ (i j b:Nat),vs[i]? =some (Value.map (some b)) -> vs[j]? =some (Value.map (some b)) -> i=j
theorem Ft.out {E:List (Option KS)}{H:Option (Nat×Nat×Array MapEntry×Nat)}(h:Ft w p n E H vs)(f: ∀ b,p.foot b -> b<w.heap.size -> w'.heap[b]? =w.heap[b]?):Ft w' p n E H vs:=by
 have d: ∀ {b o},p.foot b -> w.heap[b]? =some o -> w'.heap[b]? =some o:=λ{b o} M x=>(f b M (zGS.1 x).1).trans x
 refine { h with row:=?_,has:=λj l m=>?_ }
 ·obtain ⟨cs,t,a,c⟩:=h.row;exact ⟨cs,t,d h.blk a,c⟩
 ·obtain ⟨b,a,c,e,es,Y,A,g⟩:=h.has j l m;exact ⟨b,a,c,e,es,Y,{ A with blk:=d e A.blk },g⟩
def Oj (w:World)(p:AI):MX -> Prop
 | .set n l=>p.val=Value.map (some p.blk)/\ p.foot=(λb=>b=p.blk)/\ ∃ es Y,Fh w p.blk n l es Y
 | .sets n E H=>∃ vs,Ft w p n E H vs
 | .mit n Q es Y B h=>(∀ x,(x∈B∨h=some x) -> x.length=n)/\ p.val= .pointer (some ⟨p.blk,0,none⟩)/\ p.foot=(λb=>b=p.blk)/\ ∃ seen,w.heap[p.blk]? =some (.mapIter (some Q) Y seen Y)/\ ((leftOf es seen).toList.map (·.key)).Perm (B.map Bb)/\
  ∀ x,h=some x -> ∃ e∈es.toList,e.key=Bb x/\ seen.back? =some e.born
 | .rows f v=>∃ u es Y,FT w p f v u es Y
 | .rws E v=>∃ vs,Lm w p E v vs
theorem Oj.out : ∀ {x:MX},Oj w p x -> (∀ b,p.foot b -> b<w.heap.size -> w'.heap[b]? =w.heap[b]?) -> Oj w' p x
 | .set n l,⟨e,a,es,Y,d⟩,c=>⟨e,a,es,Y,d.out (c _ (by rw [a]) (zGS.1 d.blk).1)⟩
 | .sets n E lk,⟨vs,h⟩,c=>⟨vs,h.out c⟩
 | .rows f v,⟨u,es,Y,h⟩,c=>⟨u,es,Y,h.out c⟩
 | .rws E v,⟨vs,h⟩,c=>⟨vs,h.out c⟩
 | .mit n mb es Y rem Fe,⟨h0,e,a,seen,d,A⟩,c=>⟨h0,e,a,seen,(c _ (by rw [a]) (zGS.1 d).1).trans d,A⟩
inductive DO where
 | cells (l:List DV)
 | ints (l:Ξ)
 | bools (l:Ω)
 | arr (m n:Nat) (f:Nat -> Nat -> DV)
 | iter (encs:List (List DV))
 | ro (l:List DV)
 | mo (x:MX)
abbrev DH:=List (Option DO)
def MO (h:DH)(ρ:List AI)(b:Nat):Prop:=∃ (k:Nat) (o:DO) (p:AI),h[k]? =some (some o)/\ ρ[k]? =some p/\ p.foot b
def MS (N:Ψ)(h:DH)(ρ:List AI)(b:Nat):Prop:=N b∨MO h ρ b
def YV (ds:List DV)(R:Ψ)(W:World)(args:Array Value):Prop:=ds.length=args.size/\ ∀ j,j<ds.length -> AL (λb=>b<W.heap.size/\ ¬ R b) W (ds.getD j .any) [] (args.getD j undef)
def T0:Ending -> (Ψ) -> (Ψ) -> World -> Prop:=λe _ _ _=>∃ v,e= .returned v
def EE (P:Program)(M:Ψ)(w:World)(ρ:List AI)(p:AI):DO -> Prop
 | .cells l=>AX w p l.length λj u=>AL M w (l.getD j .any) ρ u
 | .ints l=>AX w p l.length λj u=>u= .int .i64 (l.getD j 0)
 | .bools l=>AX w p l.length λj u=>u= .bool (l.getD j false)
 | .arr m n f=>AX w p (n*m) λj u=>AL M w (f (j/m) (j % m)) [] u
 | .iter encs=>∃ H X Rd,(p.val= .func (.func H) #[] X/\ ∀ args W,(callFunc H args).run P W= .ok (.enter H args) W)/\ Ol P H X YV encs T0 p.foot Rd w/\ (∀ b,Rd b -> ¬ M b/\ b<w.heap.size)/\ ∀ b,p.foot b -> b<w.heap.size
 | .ro l=>p.foot=(λ_=>False)/\ ¬ M p.blk/\ AX w { p with foot:=λb=>b=p.blk } l.length λj u=>AL M w (l.getD j .any) ρ u
 | .mo x=>Oj w p x
def t7:Obj -> Bool
 | .cells .. =>true
 | .map .. =>true
 | .mapIter .. =>true
 | _=>false
abbrev EF (w:World)(b:Nat):Prop:=∃ (c:Obj) (_:t7 c=true) (_:Unit),w.heap[b]? =some c
theorem EF.cells {c:Array Value}{t:TypeId}{z:Nat×Nat}(h:w.heap[b]? =some (.cells c t z)):EF w b:=⟨_,rfl,(),h⟩
structure Av where
 ng:Nat
 gi:World -> Prop
 st: ∀ w w',gi w -> AQ (λb=>ng<=b) w w' -> gi w'
 lo: ∀ w,gi w -> ng<=w.heap.size
structure Aq (P:Program)(Γ:Av)(N:Ψ)(h:DH)(ρ:List AI)(w:World):Prop where
 len:ρ.length=h.length
 obj: ∀ (k:Nat) (o:DO),h[k]? =some (some o) -> ∃ p:AI,ρ[k]? =some p/\ EE P (MS N h ρ) w ρ p o
 cel: ∀ (k:Nat) (o:DO) (p:AI) (b:Nat),h[k]? =some (some o) -> ρ[k]? =some p -> p.foot b -> Γ.ng<=b/\ ¬ N b/\ EF w b
 dis: ∀ (k k':Nat) (o o':DO) (p p':AI) (b:Nat),k≠k' -> h[k]? =some (some o) -> h[k']? =some (some o') -> ρ[k]? =some p -> ρ[k']? =some p' -> p.foot b -> p'.foot b -> False
 nlt: ∀ b,N b -> b<w.heap.size/\ Γ.ng<=b
 gi:Γ.gi w
structure St where
 fr:List DV
 h:DH
def BE (M:Ψ)(w:World)(ρ:List AI)(fr:List DV)(t:Array Value):Prop:= fr.length=t.size/\ ∀ i,i<fr.length -> AL M w (fr.getD i .any) ρ (t.getD i undef)
structure AS (P:Program)(Γ:Av)(N:Ψ)(S:St)(ρ:List AI)(a:Act)(w:World):Prop where
 hr:Aq P Γ N S.h ρ w
 fr:BE (MS N S.h ρ) w ρ S.fr a.tmps
structure A3 (h:DH)(ρ:List AI)(w:World)(h':DH)(ρ':List AI)(w':World):Prop where
 upd:AQ (MO h ρ) w w'
 grow: ∀ b,MO h' ρ' b -> MO h ρ b∨w.heap.size<=b
theorem A3.refl (h:DH)(ρ:List AI)(w:World):A3 h ρ w h ρ w:=⟨AQ.refl _ _,λ_ h=>.inl h⟩
variable {H:World}{ρ' ρ'':List AI}{h':DH}
def A3.trans {h n:DH}(x:A3 h ρ w h' ρ' w')(y:A3 h' ρ' w' n ρ'' H):A3 h ρ w n ρ'' H:=
 ⟨x.upd.comp y.upd λi hi v=>(x.grow i v).resolve_right (by omega),λb c=>(y.grow b c).elim (λh=>x.grow b h) (λh=>.inr (zGU x.upd.size h))⟩
structure DI (h:DH)(ρ:List AI)(w:World)(h':DH)(ρ':List AI)(w':World):Prop where
 st:A3 h ρ w h' ρ' w'
 pl: ∀ (k:Nat) (p:AI),ρ[k]? =some p -> ρ'[k]? =some p
theorem DI.refl (h:DH)(ρ:List AI)(w:World):DI h ρ w h ρ w:=⟨A3.refl _ _ _,λ_ _ h=>h⟩
def DI.trans {h n:DH}(x:DI h ρ w h' ρ' w')(y:DI h' ρ' w' n ρ'' H):DI h ρ w n ρ'' H:=
 ⟨x.st.trans y.st,λk p hk=>y.pl k p (x.pl k p hk)⟩
structure BP (M:Ψ)(w:World)(ρ:List AI)(M':Ψ)(w':World)(ρ':List AI):Prop where
 blk: ∀ b,b<w.heap.size -> ¬ M b -> (∃ c t z,w.heap[b]? =some (.cells c t z)) -> w'.heap[b]? =w.heap[b]?
 m: ∀ b,M' b -> M b∨w.heap.size<=b
 pl: ∀ (k:Nat) (p:AI),ρ[k]? =some p -> ρ'[k]? =some p
variable {o:Nat}
def zLT (h:w.cell? ⟨b,o,none⟩=some u): ∃ c t z,w.heap[b]? =some (.cells c t z):=by
 grind [World.cell?]
def BP.nil {a:Ψ}(h:BP M w ρ a w' ρ'):BP M w [] a w' []:=⟨h.blk,h.m,λk p hk=>by simp at hk⟩
def vw (h:w'.heap[b]? =w.heap[b]?):w'.cell? ⟨b,o,none⟩=w.cell? ⟨b,o,none⟩:=by
 unfold World.cell?;rw [h]
variable {k:Ψ}
theorem BP.cell (h:BP M w ρ k w' ρ')(X: ¬ M b)(l:w.cell? ⟨b,o,none⟩=some u):w'.cell? ⟨b,o,none⟩=some u/\ ¬ k b:=by
 have p:b<w.heap.size:=zIm w ⟨b,o,none⟩ l;exact ⟨(vw (h.blk b p X (zLT l))).trans l,λv=>(h.m b v).elim X (by omega)⟩
theorem AL.out : ∀ (d:DV) {ρ ρ':List AI} {v:Value},BP M w ρ F w' ρ' -> AL M w d ρ v -> AL F w' d ρ' v:=by
 intro d
 induction d with
 | any=>intros;trivial
 | nils=>intro ρ ρ' v _ h;exact h
 | int k n=>intro ρ ρ' v _ h;exact h
 | bool b=>intro ρ ρ' v _ h;exact h
 | str s=>intro ρ ρ' v _ h;exact h
 | ints l=>
  rintro ρ ρ' v H ⟨a,cap,e,t,x,B⟩;refine ⟨a,cap,e,t,x,λj q=>?_⟩;obtain ⟨b,o,D,X,y⟩:=B j q;obtain ⟨z,A⟩:=H.cell X y;exact ⟨b,o,D,A,z⟩
 | bools l=>
  rintro ρ ρ' v H ⟨a,cap,e,t,x,B⟩;refine ⟨a,cap,e,t,x,λj q=>?_⟩;obtain ⟨b,o,D,X,y⟩:=B j q;obtain ⟨z,A⟩:=H.cell X y;exact ⟨b,o,D,A,z⟩
 | sl m n f V=>
  rintro ρ ρ' v H ⟨a,cap,e,t,x,B⟩;refine ⟨a,cap,e,t,x,λi j hi q=>?_⟩;obtain ⟨b,o,u,D,X,y,E⟩:=B i j hi q;obtain ⟨z,A⟩:=H.cell X y;exact ⟨b,o,u,D,A,z,V i j H.nil E⟩
 | fp m f V=>
  rintro ρ ρ' v H ⟨b,o,e,h⟩;refine ⟨b,o,e,λj q=>?_⟩;obtain ⟨X,u,y,E⟩:=h j q;obtain ⟨z,A⟩:=H.cell X y;exact ⟨A,u,z,V j H.nil E⟩
 | agg m f V=>
  rintro ρ ρ' v H ⟨cs,e,C,h⟩;exact ⟨cs,e,C,λj q=>let ⟨u,t,x⟩:=h j q;⟨u,t,V j H x⟩⟩
 | tup m f V=>
  rintro ρ ρ' v H ⟨cs,e,C,h⟩;exact ⟨cs,e,C,λj q=>let ⟨u,t,x⟩:=h j q;⟨u,t,V j H x⟩⟩
 | ref k j=>rintro ρ ρ' v H ⟨p,h,e⟩;exact ⟨p,H.pl _ _ h,e⟩
 | msl k m off n=>rintro ρ ρ' v H ⟨p,cap,h,r⟩;exact ⟨p,cap,H.pl _ _ h,r⟩
 | mp k m i j=>rintro ρ ρ' v H ⟨p,h,e⟩;exact ⟨p,H.pl _ _ h,e⟩
 | fn g m c V=>
  rintro ρ ρ' v H ⟨cs,e,C,h⟩;exact ⟨cs,e,C,λj q=>let ⟨u,t,x⟩:=h j q;⟨u,t,V j H x⟩⟩
 | it k=>rintro ρ ρ' v H ⟨p,h,e⟩;exact ⟨p,H.pl _ _ h,e⟩
 | yl l=>intro ρ ρ' v _ h;exact h
 | mse k m off n=>rintro ρ ρ' v H ⟨p,a,cap,h,r⟩;exact ⟨p,a,cap,H.pl _ _ h,r⟩
 | mri k i=>rintro ρ ρ' v H ⟨p,vs,h,r⟩;exact ⟨p,vs,H.pl _ _ h,r⟩
 | cst u=>intro ρ ρ' v _ h;exact h
variable {t:Array Value}
theorem BE.out {fr:List DV}(h:BE M w ρ fr t)(H:BP M w ρ k w' ρ'):BE k w' ρ' fr t:=
 ⟨h.1,λi hi=>(h.2 i hi).out _ H⟩
def BE.at {fr:List DV}(h:BE M w ρ fr t)(i:Nat):AL M w (fr.getD i .any) ρ (t.getD i undef):=by
 rcases zIg i fr.length with hi | hi
 ·exact h.2 i hi
 ·have:fr.getD i .any= .any:=by grind
  rw [this];trivial
def BE.set {fr:List DV}(h:BE M w ρ fr t)(i:Nat){d:DV}(hv:AL M w d ρ v):BE M w ρ (fr.set i d) (t.setIfInBounds i v):=by
 refine ⟨by simp [h.1],λj e=>?_⟩;rw [zGj] at e;have Cu:j<t.size:=by rw [←h.1];exact e
 have h0:=h.2 j e;simp only [zGR,zIH,zJM,Array.getElem?_setIfInBounds] at h0 ⊢
 grind
variable {S:Ψ}{P:Program}
def Ol.later {g:Nat}{a:Array Value}{X:Type}{E:X -> (Ψ) -> World -> Array Value -> Prop}{encs:List X}{N:Ending -> (Ψ) -> (Ψ) -> World -> Prop}{G0 Rd:Ψ}(h:Ol P g a E encs N G0 Rd w)(q:AQ S w w')(k: ∀ b,b<w.heap.size -> S b -> ¬ (G0 b∨Rd b)):Ol P g a E encs N G0 Rd w':=
 λl J c W d e f=>h l J c W d e (q.mono (λi hi j=>k i hi j) |>.trans f)
variable {R:Nat -> Value -> Prop}
theorem AX.out {R':Nat -> Value -> Prop}(h:AX w p n R)(c:w'.heap[p.blk]? =w.heap[p.blk]?)(hR: ∀ j u,j<n -> R j u -> R' j u):AX w' p n R':=by
 obtain ⟨a,cs,t,b,d,A,f⟩:=h;exact ⟨a,cs,t,c.trans b,d,A,λj e=>let ⟨u,o,s⟩:=f j e;⟨u,o,hR j u e s⟩⟩
theorem AX.cell (h:AX w p n R)(hj:j<n): ∃ u,w.cell? ⟨p.blk,p.off+j,none⟩=some u/\ R j u:=by
 obtain ⟨h1,cs,t,h2,h3,h4,h5⟩:=h
 grind [World.cell?]
def AX.frozen (h:AX w p n R)(o:Nat):w.frozen? ⟨p.blk,o,none⟩=false:=by
 obtain ⟨h1,cs,t,b,_⟩:=h;unfold World.frozen?;simp [b]
theorem EE.out {o:DO}(h:EE P M w ρ p o)(H:BP M w ρ k w' ρ')(q:AQ S w w')(A: ∀ b,S b -> M b)(r: ∀ b,b<w.heap.size -> p.foot b -> ¬ S b):EE P k w' ρ' p o:=by
 have c: ∀ {n R},AX w p n R -> w'.heap[p.blk]? =w.heap[p.blk]? :=λ{n R} i=>by
  obtain ⟨e,cs,t,d,_⟩:=i;have a:=(zGS.1 d).1;exact q.block _ a (r _ a (by rw [e]))
 cases o with
 | cells l=>exact AX.out h (c h) λj u _ i=>AL.out _ H i
 | ints l=>exact AX.out h (c h) λj u _ i=>i
 | bools l=>exact AX.out h (c h) λj u _ i=>i
 | arr m n f=>exact AX.out h (c h) λj u _ i=>AL.out _ H.nil i
 | iter encs=>
  obtain ⟨B,X,Rd,e,d,g,C⟩:=h;refine ⟨B,X,Rd,e,d.later q (λb c s hx=>?_),λb c=>⟨λv=>(H.m b v).elim (g b c).1 (by have:=(g b c).2;omega),zGb (g b c).2 q.size⟩,λb c=>zGb (C b c) q.size⟩
  grind
 | ro l=>
  obtain ⟨D,z,y⟩:=h
  have a:p.blk<w.heap.size:=by
   obtain ⟨_,cs,t,d,_⟩:=y
   grind
  exact ⟨D,λv=>(H.m _ v).elim z (by omega),AX.out y (q.block _ a λs=>z (A _ s)) λj u _ i=>AL.out _ H i⟩
 | mo x=>exact Oj.out h λb c a=>q.block b a (r b a c)
section
variable {P:Program} {Γ:Av} {N:Ψ} {h:DH} {ρ:List AI} {w:World}
def MO.unset {k:Nat}{b:Nat}(v:MO (h.set k none) ρ b):MO h ρ b:=by
 obtain ⟨i,o,p,a,c,d⟩:=v;rw [zJM] at a
 by_cases e:k=i
 ·grind
 ·rw [zGW e] at a;exact ⟨i,o,p,a,c,d⟩
def Aq.lt (H:Aq P Γ N h ρ w){b:Nat}(a:MS N h ρ b):b<w.heap.size:=by
 rcases a with a | ⟨k,o,p,d,e,f⟩
 ·exact (H.nlt b a).1
 ·obtain ⟨_,_,c,t,z,h4⟩:=H.cel k o p b d e f
  grind
def Aq.low (H:Aq P Γ N h ρ w){b:Nat}(c:MO h ρ b):Γ.ng<=b:=by
 obtain ⟨k,o,p,a,d,e⟩:=c;exact (H.cel k o p b a d e).1
def Aq.lt2 (H:Aq P Γ N h ρ w){b:Nat}(c:MS N h ρ b):b<w.heap.size/\ Γ.ng<=b:=⟨H.lt c,c.elim (λh=>(H.nlt b h).2) H.low⟩
def Aq.ext (H:Aq P Γ N h ρ w){w':World}(F:A0 w w'):Aq P Γ N h ρ w':=by
 have O:BP (MS N h ρ) w ρ (MS N h ρ) w' ρ:=⟨λb a _ _=>zNY F b a,λb h=>.inl h,λ_ _ h=>h⟩;refine ⟨H.len,λk o hk=>?_,λk o p b e f g=>?_,H.dis,λb a=>⟨zGb (H.nlt b a).1 F.size,(H.nlt b a).2⟩,Γ.st _ _ H.gi (AQ.ofExt F)⟩
 ·obtain ⟨p,i,x⟩:=H.obj k o hk;exact ⟨p,i,x.out O (S:=λ_=>False) (AQ.ofExt F) (λ_ h=>h.elim) (λ_ _ _ h=>h)⟩
 ·obtain ⟨j,s,c,t,z,d⟩:=H.cel k o p b e f g;exact ⟨j,s,c,t,z,(zNY F b (zGS.1 d).1).trans d⟩
def BP.ext {M:Ψ}{w w':World}(ρ:List AI)(F:A0 w w'):BP M w ρ M w' ρ:=⟨λb c _ _=>zNY F b c,λb h=>.inl h,λ_ _ h=>h⟩
def A3.ext {w w':World}(F:A0 w w'):A3 h ρ w h ρ w':=⟨AQ.ofExt F,λ_ h=>.inl h⟩
variable {α:Type}
def EO {l:List α}{x y:α}{k:Nat}(hk:(l++[x])[k]? =some y):(k<l.length/\ l[k]? =some y)∨(k=l.length/\ x=y):=by
 grind
def Em {l:List α}{x y:α}{k:Nat}(hk:l[k]? =some y):(l++[x])[k]? =some y:=by
 grind
def MO.snoc (H:Aq P Γ N h ρ w){o:DO}{p:AI}{b:Nat}(e:MO (h++[some o]) (ρ++[p]) b):MO h ρ b∨p.foot b:=by
 obtain ⟨k,o',p',c,a,d⟩:=e;rcases EO c with ⟨m,c⟩ | ⟨m,c⟩
 ·rcases EO a with ⟨_,a⟩ | ⟨S,_⟩
  ·exact .inl ⟨k,o',p',c,a,d⟩
  ·rw [S,H.len] at m;omega
 ·rcases EO a with ⟨S,_⟩ | ⟨_,a⟩
  ·rw [H.len,←m] at S;omega
  ·subst a;exact .inr d
def Aq.snoc (H:Aq P Γ N h ρ w){w':World}(F:A0 w w'){o:DO}{p:AI}(M: ∀ b,p.foot b -> w.heap.size<=b/\ EF w' b) 
 (x:EE P (MS N (h++[some o]) (ρ++[p])) w' (ρ++[p]) p o):Aq P Γ N (h++[some o]) (ρ++[p]) w':=by
 have O:BP (MS N h ρ) w ρ (MS N (h++[some o]) (ρ++[p])) w' (ρ++[p]):=by
  refine ⟨λb hb _ _=>zNY F b hb,λb hb=>?_,λk q hk=>Em hk⟩;rcases hb with hb | hb
  ·exact .inl (.inl hb)
  ·rcases MO.snoc H hb with hb | hb
   ·exact .inl (.inr hb)
   ·exact .inr (M b hb).1
 refine ⟨by simp [H.len],λk o' hk=>?_,λk o' p' b d a e=>?_,λk i o1 r J p2 b D d a e A u v=>?_,λb hb=>⟨zGb (H.nlt b hb).1 F.size,(H.nlt b hb).2⟩,Γ.st _ _ H.gi (AQ.ofExt F)⟩
 ·rcases EO hk with ⟨m,hk⟩ | ⟨m,hk⟩
  ·obtain ⟨p',y,B⟩:=H.obj k o' hk;exact ⟨p',Em y,B.out O (S:=λ_=>False) (AQ.ofExt F) (λ_ h=>h.elim) (λ_ _ _ h=>h)⟩
  ·cases hk;exact ⟨p,by rw [m,←H.len];simp,x⟩
 ·rcases EO d with ⟨m,d⟩ | ⟨m,d⟩
  ·rcases EO a with ⟨_,a⟩ | ⟨f,_⟩
   ·obtain ⟨g,s,c,t,z,j⟩:=H.cel k o' p' b d a e;exact ⟨g,s,c,t,z,(zNY F b (zGS.1 j).1).trans j⟩
   ·rw [f,H.len] at m;omega
  ·rcases EO a with ⟨f,_⟩ | ⟨_,a⟩
   ·rw [H.len,←m] at f;omega
   ·subst a;obtain ⟨g,s⟩:=M b e;exact ⟨zGU (Γ.lo _ H.gi) g,λC=>by have:=H.nlt b C;omega,s⟩
 ·have K5: ∀ {k:Nat} {o':DO} {p':AI},(h++[some o])[k]? =some (some o') -> (ρ++[p])[k]? =some p' -> p'.foot b -> k≠h.length -> b<w.heap.size:=by
   intro k o' p' d a e D;rcases EO d with ⟨m,d⟩ | ⟨m,d⟩
   ·rcases EO a with ⟨_,a⟩ | ⟨f,_⟩
    ·exact H.lt (.inr ⟨k,o',p',d,a,e⟩)
    ·rw [f,H.len] at m;omega
   ·exact absurd m D
  have new: ∀ {k:Nat} {o':DO} {p':AI},(h++[some o])[k]? =some (some o') -> (ρ++[p])[k]? =some p' -> p'.foot b -> k=h.length -> w.heap.size<=b:=by
   intro k o' p' d a e I;rcases EO a with ⟨f,_⟩ | ⟨_,a⟩
   ·rw [H.len,←I] at f;omega
   ·subst a;exact (M b e).1
  by_cases l:k=h.length
  ·grind
  ·by_cases n:i=h.length
   ·grind
   ·rcases EO d with ⟨_,d⟩ | ⟨m,_⟩
    ·rcases EO a with ⟨_,a⟩ | ⟨m,_⟩
     ·rcases EO e with ⟨_,e⟩ | ⟨m,_⟩
      ·rcases EO A with ⟨_,A⟩ | ⟨m,_⟩
       ·exact H.dis k i o1 r J p2 b D d a e A u v
       ·rw [H.len] at m;exact n m
      ·rw [H.len] at m;exact l m
     ·exact n m
    ·exact l m
def BP.snoc (H:Aq P Γ N h ρ w){w':World}(F:A0 w w'){o:DO}{p:AI}(M: ∀ b,p.foot b -> w.heap.size<=b):BP (MS N h ρ) w ρ (MS N (h++[some o]) (ρ++[p])) w' (ρ++[p]):=by
 refine ⟨λb hb _ _=>zNY F b hb,λb hb=>?_,λk q hk=>Em hk⟩;rcases hb with hb | hb
 ·exact .inl (.inl hb)
 ·rcases MO.snoc H hb with hb | hb
  ·exact .inl (.inr hb)
  ·exact .inr (M b hb)
def A3.snoc (H:Aq P Γ N h ρ w){w':World}(F:A0 w w'){o:DO}{p:AI}(M: ∀ b,p.foot b -> w.heap.size<=b):A3 h ρ w (h++[some o]) (ρ++[p]) w':=
 ⟨AQ.ofExt F,λb c=>(MO.snoc H c).imp id (M b)⟩
variable {o':DO}
def MO.set {k:Nat}{o:DO}(hk:h[k]? =some (some o)){b:Nat}:MO (h.set k (some o')) ρ b↔MO h ρ b:=by
 have m:=(zGq.1 hk).1;constructor
 ·rintro ⟨i,o1,p,d,a,c⟩;rw [zJM] at d
  by_cases e:k=i
  ·subst e;exact ⟨k,o,p,hk,a,c⟩
  ·rw [zGW e] at d;exact ⟨i,o1,p,d,a,c⟩
 ·rintro ⟨i,o1,p,d,a,c⟩
  by_cases e:k=i
  ·subst e;exact ⟨k,o',p,by simp [m],a,c⟩
  ·exact ⟨i,o1,p,by grind,a,c⟩
def MS.set {k:Nat}{o:DO}(hk:h[k]? =some (some o)){b:Nat}:MS N (h.set k (some o')) ρ b↔MS N h ρ b:=by unfold MS;rw [MO.set hk]
def Aq.write (H:Aq P Γ N h ρ w){w':World}{k:Nat}{o:DO}{p:AI}(hk:h[k]? =some (some o))(g:ρ[k]? =some p)(q:AQ p.foot w w') 
 (v: ∀ b,p.foot b -> EF w' b) (ho:EE P (MS N (h.set k (some o')) ρ) w' ρ p o'):Aq P Γ N (h.set k (some o')) ρ w':=by
 have hl:=(zGq.1 hk).1;have X: ∀ b,p.foot b -> MS N h ρ b:=λb a=>.inr ⟨k,o,p,hk,g,a⟩
 have O:BP (MS N h ρ) w ρ (MS N (h.set k (some o')) ρ) w' ρ:=⟨λb a x _=>q.block b a λn=>x (X b n),λb a=>.inl ((MS.set hk).1 a),λ_ _ h=>h⟩;have m: ∀ {i:Nat} {o1:DO},i≠k -> (h.set k (some o'))[i]? =some (some o1) -> h[i]? =some (some o1):=λ{i} {o1} D d=>by grind
 refine ⟨by simp [H.len],λi o1 hi=>?_,λi o1 J b d f j=>?_,λi y o1 F J p2 b D d f j A B C=>?_,λb a=>⟨zGb (H.nlt b a).1 q.size,(H.nlt b a).2⟩,Γ.st _ _ H.gi (q.mono λb _ a=>(H.cel k o p b hk g a).1)⟩
 ·by_cases e:i=k
  ·grind
  ·obtain ⟨J,r,E⟩:=H.obj i o1 (m e hi);exact ⟨J,r,E.out O q X λb _ d f=>H.dis i k o1 o J p b e (m e hi) hk r g d f⟩
 ·by_cases e:i=k
  ·subst e;have:p=J:=zGT (g.symm.trans f);subst this;obtain ⟨l,s,_⟩:=H.cel i o p b hk g j;exact ⟨l,s,v b j⟩
  ·obtain ⟨l,s,c,t,z,u⟩:=H.cel i o1 J b (m e d) f j;refine ⟨l,s,c,t,z,(q.block b (zGS.1 u).1 λn=>H.dis i k o1 o J p b e (m e d) hk f g j n).trans u⟩
 ·have K: ∀ {i:Nat} {o1:DO},(h.set k (some o'))[i]? =some (some o1) -> ∃ F,h[i]? =some (some F):=λ{i} {o1} d=>by
   grind
  obtain ⟨G,l⟩:=K d;obtain ⟨I,s⟩:=K f;exact H.dis i y G I J p2 b D l s j A B C
def BP.write (hN:True){w':World}{k:Nat}{o:DO}{p:AI}(hk:h[k]? =some (some o))(g:ρ[k]? =some p)(q:AQ p.foot w w'):BP (MS N h ρ) w ρ (MS N (h.set k (some o')) ρ) w' ρ:=
 ⟨λb c v _=>q.block b c λd=>v (.inr ⟨k,o,p,hk,g,d⟩),λb c=>.inl ((MS.set hk).1 c),λ_ _ h=>h⟩
def A3.write {w':World}{k:Nat}{o:DO}{p:AI}(hk:h[k]? =some (some o))(g:ρ[k]? =some p)(q:AQ p.foot w w'):A3 h ρ w (h.set k (some o')) ρ w':=
 ⟨q.mono λb _ c=>⟨k,o,p,hk,g,c⟩,λb c=>.inl ((MO.set hk).1 c)⟩
end
end
abbrev zGa:=@Nat.not_lt_zero
abbrev zG0:=@Bool.not_eq_true'
abbrev zG1:=@Go.run_underlying
abbrev zH6:=@decide_eq_true_eq
abbrev zH8:=@Option.some.injEq
abbrev zIa:=@Prod.mk.injEq
abbrev zJB:=@Nat.mul_le_mul_right
abbrev zJI:=@Nat.mul_comm
abbrev zMl:=@Nat.add_mul
abbrev zMo:=@Nat.add_assoc
abbrev zMu:=@Nat.succ_mul
abbrev zNP:=@Option.isSome_iff_exists
def Nj:Value -> DV
 | .int k n=>.int k n
 | .bool b=>.bool b
 | .string s=>.str s
 | .slice none 0 0=>.nils
 | v=>if v.oneCell' then .cst v else .any
def AZ (fr:List DV):Operand -> DV
 | .tmp t=>fr.getD t .any
 | .const v=>Nj v
 | .global _=>.any
 | .func f=>.fn f 0 λ_=>.any
def JE (P:Program)(t:TypeId):Bool:=match P.underlying t with
 | some (.struct _)=>true
 | some (.array _ _)=>true
 | _=>false
def Qf (P:Program)(t:TypeId)(m:Nat):Bool:=match P.underlying t with
 | some (.slice e)=>match P.info? e with
  | some i=>i.size==m&&m != 0
  | none=>false
 | _=>false
def GX (P:Program)(t:TypeId):Bool:=(P.underlying t).isSome&&!JE P t
def Xc (P:Program)(t:TypeId)(m:Nat):Bool:=JE P t&&(match P.info? t with | some i=>i.size==m | none=>false)
def b6 (P:Program)(s:TypeId)(f:Nat):Option (Nat×Nat):=match P.underlying s with
 | some (.struct n)=>match n[f]? with
  | some w=>match P.info? w.type with
   | some i=>if i.size=0 then none else some (w.offset,i.size)
   | none=>none
  | none=>none
 | _=>none
def XZ (P:Program)(t:TypeId):Option (Nat×Nat):=match P.underlying t with
 | some (.array n e)=>match P.info? e with
  | some i=>if n<=1 then none else some (n,i.size)
  | none=>none
 | _=>none
def iS (P:Program)(t:TypeId):Option IntKind:=match P.underlying t with
 | some (.int k)=>some k
 | _=>none
def cz (S:BinOp)(k:IntKind)(a b:Int):Option (DV×Prop):=match S with
 | .add=>some (.int k (k.wrap (a+b)),True)
 | .sub=>some (.int k (k.wrap (a-b)),True)
 | .mul=>some (.int k (k.wrap (a*b)),True)
 | .and=>some (.int k (bits .and k a b),True)
 | .or=>some (.int k (bits .or k a b),True)
 | .xor=>some (.int k (bits .xor k a b),True)
 | .andNot=>some (.int k (bits .andNot k a b),True)
 | .eql=>some (.bool (a==b),True)
 | .neq=>some (.bool (a != b),True)
 | .lss=>some (.bool (decide (a<b)),True)
 | .leq=>some (.bool (decide (a<=b)),True)
 | .gtr=>some (.bool (decide (a>b)),True)
 | .geq=>some (.bool (decide (a>=b)),True)
 | _=>none
def Tj (P:Program)(t:TypeId):Nat:=match P.underlying t with
 | some .bool=>1
 | some (.slice _)=>2
 | _=>0
def dA (o:Nat)(op:BinOp)(x y:DV):Option (DV×Prop):=match op,x,y with
 | .eql,.bool a,.bool b=>if o=1 then some (.bool (a==b),True) else none
 | .neq,.bool a,.bool b=>if o=1 then some (.bool (!(a==b)),True) else none
 | .eql,.ints l,.nils=>if o=2 then some (.bool false,0<l.length) else none
 | .eql,.bools l,.nils=>if o=2 then some (.bool false,0<l.length) else none
 | .neq,.ints l,.nils=>if o=2 then some (.bool true,0<l.length) else none
 | .shl,.int k a,.int _ b=>some (.int k (k.wrap (a*2 ^ b.toNat)),0<=b/\ b<=k.bits)
 | .shr,.int k a,.int _ b=>some (.int k (a/2 ^ b.toNat),0<=b/\ b<=k.bits)
 | .quo,.int k a,.int g b=>if k=g then some (.int k (k.wrap (a.tdiv b)),b≠0) else none
 | .rem,.int k a,.int g b=>if k=g then some (.int k (a.tmod b),b≠0) else none
 | op,.int k a,.int g b=>if k=g then cz op k a b else none
 | _,_,_=>none
def Pj (P:Program)(S:St)(t:TypeId):DV -> Option (DV×Prop)
 | .fp m f=>if GX P t then (if m=0 then none else some (f 0,True)) else if Xc P t m then some (.agg m f,True) else none
 | .ref k j=>match S.h[k]? with
  | some (some (.cells l))=>if GX P t then (if j<l.length then some (l.getD j .any,True) else none)
   else match P.info? t with
    | some i=>if JE P t&&decide (j+i.size<=l.length) then some (.agg i.size (HL i.size λc=>l.getD (j+c) .any),True) else none
    | none=>none
  | some (some (.ro l))=>if GX P t then (if j<l.length then some (l.getD j .any,True) else none)
   else match P.info? t with
    | some i=>if JE P t&&decide (j+i.size<=l.length) then some (.agg i.size (HL i.size λc=>l.getD (j+c) .any),True) else none
    | none=>none
  | _=>none
 | .mp k m i j=>match S.h[k]? with
  | some (some (.ints l))=>if GX P t&&(m==1)&&(j==0) then some (.int .i64 (l.getD i 0),i<l.length) else none
  | some (some (.bools l))=>if GX P t&&(m==1)&&(j==0) then some (.bool (l.getD i false),i<l.length) else none
  | some (some (.arr Z n f))=>if GX P t&&(m==Z)&&decide (j<m) then some (f i j,i<n)
   else if Xc P t m&&(m==Z)&&(j==0) then some (.agg m (f i),i<n) else none
  | some (some (.mo (.sets _ E _)))=>if GX P t&&(m==1)&&(j==0) then some (.mri k i,i<E.length) else none
  | some (some (.mo (.rws E none)))=>if GX P t&&(m==1)&&(j==0) then some (.mri k (i+1),i<E.length) else none
  | _=>none
 | _=>none
def iZ (P:Program)(t:TypeId)(x:DV)(n:Int):Option (DV×Prop):=match x with
 | .ints l=>if Qf P t 1 then some (.fp 1 (λ_=>.int .i64 (l.getD n.toNat 0)),0<=n/\ n<l.length) else none
 | .bools l=>if Qf P t 1 then some (.fp 1 (λ_=>.bool (l.getD n.toNat false)),0<=n/\ n<l.length) else none
 | .sl m c f=>if Qf P t m then some (.fp m (f n.toNat),0<=n/\ n<c) else none
 | .msl k m off c=>if Qf P t m then some (.mp k m (off+n.toNat) 0,0<=n/\ n<c) else none
 | .ref k j=>match XZ P t with
  | some (len,a)=>some (.ref k (j+n.toNat*a),0<=n/\ n<len)
  | none=>none
 | .mp k m i 0=>match XZ P t with
  | some (len,a)=>if a=m then some (.mp k m (i+n.toNat) 0,0<=n/\ n<len) else none
  | none=>none
 | .fp m f=>match XZ P t with
  | some (len,a)=>if n.toNat*a+a<=m then some (.fp a (HL a λj=>f (n.toNat*a+j)),0<=n/\ n<len) else none
  | none=>none
 | _=>none
def aI (P:Program)(t:TypeId)(d:DV):Option (DV×Prop):=match P.underlying t,d with
 | some (.slice _),.nils=>some (.int .i64 0,True)
 | some (.slice _),.ints l=>some (.int .i64 l.length,True)
 | some (.slice _),.bools l=>some (.int .i64 l.length,True)
 | some (.slice _),.sl _ n _=>some (.int .i64 n,True)
 | some (.slice _),.msl _ _ _ n=>some (.int .i64 n,True)
 | some .string,.str s=>some (.int .i64 s.size,True)
 | _,_=>none
def gu (x y:DV):Option (DV×Prop):=match x,y with
 | .int k a,.int _ b=>some (.int k (if b>a then b else a),True)
 | _,_=>none
def gq (x y:DV):Option (DV×Prop):=match x,y with
 | .int k a,.int _ b=>some (.int k (if b<a then b else a),True)
 | _,_=>none
def cw (P:Program)(S:St)(b:Builtin)(args:List Operand)(K:List TypeId):Option (DV×Prop):=match b with
 | .len=>match args with
  | [x]=>match K with
   | [t]=>aI P t (AZ S.fr x)
   | _=>none
  | _=>none
 | .max=>match args with
  | [x,y]=>gu (AZ S.fr x) (AZ S.fr y)
  | _=>none
 | .min=>match args with
  | [x,y]=>gq (AZ S.fr x) (AZ S.fr y)
  | _=>none
 | _=>none
def pop (P:Program)(S:St):Op -> Option (DV×Prop)
 | .move x=>some (AZ S.fr x,True)
 | .assign x=>some (AZ S.fr x,True)
 | .pick c a b=>match AZ S.fr c with
  | .bool true=>some (AZ S.fr a,True)
  | .bool false=>some (AZ S.fr b,True)
  | _=>none
 | .load t x=>Pj P S t (AZ S.fr x)
 | .binOp e t x y _=>dA (Tj P t) e (AZ S.fr x) (AZ S.fr y)
 | .unOp e _ x=>match e,AZ S.fr x with
  | .not,.bool b=>some (.bool !b,True)
  | .neg,.int k n=>some (.int k (k.wrap (0-n)),True)
  | .xor,.int k n=>some (.int k (bits .xor k (if k.signed then-1 else k.max) n),True)
  | _,_=>none
 | .convert s d x=>match P.underlying s,iS P d,AZ S.fr x with
  | some _,some k,.int _ n=>some (.int k (k.wrap n),True)
  | _,_,_=>none
 | .nilCheck x=>match AZ S.fr x with
  | .fp m f=>some (.fp m f,True)
  | .ref k j=>some (.ref k j,True)
  | .mp k m i j=>some (.mp k m i j,True)
  | .fn g m c=>some (.fn g m c,True)
  | _=>none
 | .fieldAddr s x f=>match b6 P s f with
  | some (off,h)=>match AZ S.fr x with
   | .fp m g=>if off+h<=m then some (.fp h (HL h λj=>g (off+j)),True) else none
   | .ref k j=>some (.ref k (j+off),True)
   | .mp k m i j=>some (.mp k m i (j+off),True)
   | _=>none
  | none=>none
 | .indexAddr t x i=>match AZ S.fr i with
  | .int _ n=>iZ P t (AZ S.fr x) n
  | _=>none
 | .extract x i=>match AZ S.fr x with
  | .tup m f=>if i<m then some (f i,True) else none
  | _=>none
 | .makeFunc (.func g) first c=>if first.size=0 then some (.fn g c.size (HL c.size λj=>AZ S.fr (c.getD j (.const undef))),True) else none
 | .call c=>match c.callee with
  | .builtin b=>cw P S b c.args.toList c.argTypes.toList
  | _=>none
 | _=>none
section
variable {P:Program} {Γ:Av} {N:Ψ} {S:St} {ρ:List AI} {a:Act} {w:World}
variable {M:Ψ}
theorem Zz (v:Value):AL M w (Nj v) ρ v:=by
 unfold Nj;split
 ·rfl
 ·rfl
 ·rfl
 ·rfl
 ·split
  ·exact ⟨rfl,by assumption⟩
  ·trivial
theorem BV (R:AS P Γ N S ρ a w)(x:Operand):AL (MS N S.h ρ) w (AZ S.fr x) ρ (a.eval x):=by
 cases x with
 | tmp t=>exact R.fr.at t
 | const v=>exact Zz v
 | global g=>trivial
 | func f=>exact ⟨#[],rfl,rfl,λj e=>absurd e (zGa j)⟩
variable {t:TypeId}
def U1 {d:TypeDesc}(h:P.underlying t=some d):(isAgg t).run P w= .ok (JE P t) w:=by
 unfold isAgg JE;rw [zG3,zG1 h];simp only [Result.andThen,h];cases d <;> rfl
variable {i:TypeInfo}
def Kt (h:P.info? t=some i):(sizeOf t).run P w= .ok i.size w:=by
 grind [run_sizeOf,Program.cellsOf]
variable {u:Value}
def zB1 {b:Addr}(h:GX P t=true)(hc:w.cell? b=some u):(loadVar t b).run P w= .ok u w:=by
 unfold GX at h;simp only [zFW,zNP,zG0] at h;obtain ⟨⟨d,hd⟩,hn⟩:=h
 simp_all [loadVar,U1]
def si (h:JE P t=true): ∃ d,P.underlying t=some d:=by
 grind [JE]
variable {b o:Nat}
def zB2 (h:JE P t=true)(hi:P.info? t=some i)(g:Nat -> Value)(hc: ∀ j,j<i.size -> w.cell? ⟨b,o+j,none⟩=some (g j)):
 (loadVar t ⟨b,o,none⟩).run P w= .ok (.agg ((List.range i.size).map g).toArray) w:=by
 obtain ⟨d,r⟩:=si h;unfold loadVar;rw [zG3,U1 r];simp only [Result.andThen,h,zJH];rw [zG3,Kt hi];simp only [Result.andThen]
 rw [zG3,run_loadCells w ⟨b,o,none⟩ i.size g (λj hj=>by
  grind [Addr.add])]
 simp [Result.andThen]
def Keep (N:Ψ)(w W:World):Prop:=∀ b o u,¬ N b -> w.cell? ⟨b,o,none⟩=some u -> W.cell? ⟨b,o,none⟩=some u
variable {W:World}
def Keep.ofExt {N:Ψ}{w:World}(h:A0 w W):Keep N w W:=λ_ _ _ _ l=>h.cell l
def Yl (P:Program)(N:Ψ)(w:World)(M:Ψ)(ρ:List AI)(s:Sem Value)(d:DV):Prop:=∃ v,(∀ W,Keep N w W -> s.run P W= .ok v W)/\ AL M w d ρ v
variable {n:Nat}
def Rr {k:Nat}{o:DO}{p:AI}{Rw:Nat -> Value -> Prop}(R:AS P Γ N S ρ a w)(hk:S.h[k]? =some (some o))(g:ρ[k]? =some p)(i:AX w p n Rw): ¬ N p.blk:=(R.hr.cel k o p p.blk hk g (by rw [i.1])).2.1
variable {v:Value}{f:Nat -> DV}{m:Nat}
def bp (h:AL M w (.fp m f) ρ v): ∃ b o,v= .pointer (some ⟨b,o,none⟩)/\ ∀ j,j<m -> ¬ M b/\ ∃ u,w.cell? ⟨b,o+j,none⟩=some u/\ AL M w (f j) [] u:=h
variable {d:DV}
theorem Rs (h:AL M w d [] v):AL M w d ρ v:=h.out d ⟨λ_ _ _ _=>rfl,λ_ h=>.inl h,λk p hk=>by simp at hk⟩
def fJ {b:Addr}:(Instr.loadAt t (.pointer (some b))).run P W=(loadVar t b).run P W:=rfl
def Np (R: ¬ N b)(a:GX P t=true)(l:w.cell? ⟨b,o,none⟩=some u)(i:AL M w d ρ u):Yl P N w M ρ (Instr.loadAt t (.pointer (some ⟨b,o,none⟩))) d:=
 ⟨u,λW F=>by rw [fJ];exact zB1 a (F _ _ _ R l),i⟩
def aF (R:0<i.size -> ¬ N b)(a:JE P t=true)(hi:P.info? t=some i)(h: ∀ j,j<i.size -> ∃ u,w.cell? ⟨b,o+j,none⟩=some u/\ AL M w (f j) ρ u):
 Yl P N w M ρ (Instr.loadAt t (.pointer (some ⟨b,o,none⟩))) (.agg i.size f):=by
 obtain ⟨g,c⟩: ∃ g:Nat -> Value,∀ j,j<i.size -> w.cell? ⟨b,o+j,none⟩=some (g j)/\ AL M w (f j) ρ (g j):=by
  refine ⟨λj=>(w.cell? ⟨b,o+j,none⟩).getD undef,λj e=>?_⟩
  grind
 refine ⟨_,λW F=>by rw [fJ];exact zB2 a hi g λj e=>F _ _ _ (R (by omega)) (c j e).1,_,rfl,by simp,λj e=>?_⟩
 grind
def mG (h:Xc P t m=true):JE P t=true/\ ∃ i,P.info? t=some i/\ i.size=m:=by
 unfold Xc at h
 grind
variable {O:Prop}{x:DV}
def sP (R:AS P Γ N S ρ a w)(F:AL (MS N S.h ρ) w x ρ v)(h:Pj P S t x=some (d,O))(D:O):
 Yl P N w (MS N S.h ρ) ρ (Instr.loadAt t v) d:=by
 unfold Pj at h;split at h
 ·rename_i m f;obtain ⟨b,o,rfl,E⟩:=bp F;split at h
  ·rename_i g;split at h
   ·cases h
   ·cases h;obtain ⟨X,u,y,s⟩:=E 0 (by omega);exact Np (λh=>X (.inl h)) g y (Rs s)
  ·split at h
   ·rename_i A;cases h;obtain ⟨G,i,hi,rfl⟩:=mG A;exact aF (λq h=>(E 0 q).1 (.inl h)) G hi λj B=>let ⟨_,u,y,s⟩:=E j B;⟨u,y,Rs s⟩
   ·cases h
 ·rename_i k j;obtain ⟨p,q,rfl⟩:=F;split at h
  ·rename_i l hk;obtain ⟨p',z,r⟩:=R.hr.obj k _ hk;have e:p'=p:=zGT (z.symm.trans q);subst e;split at h
   ·rename_i g;split at h
    ·rename_i B;cases h;obtain ⟨u,y,s⟩:=AX.cell r B;exact Np (Rr R hk q r) g y s
    ·cases h
   ·split at h
    ·rename_i i hi;split at h
     ·rename_i A;cases h;simp only [zFW,zH6] at A;refine aF (λ_=>Rr R hk q r) A.1 hi λc E=>?_
      obtain ⟨u,y,s⟩:=AX.cell r (j:=j+c) (by omega)
      grind [It]
     ·cases h
    ·cases h
  ·rename_i l hk;obtain ⟨p',z,_,J,r⟩:=R.hr.obj k _ hk;have e:p'=p:=zGT (z.symm.trans q);subst e;split at h
   ·rename_i g;split at h
    ·rename_i B;cases h;obtain ⟨u,y,s⟩:=AX.cell r B;exact Np (λh=>J (.inl h)) g y s
    ·cases h
   ·split at h
    ·rename_i i hi;split at h
     ·rename_i A;cases h;simp only [zFW,zH6] at A;refine aF (λ_ h=>J (.inl h)) A.1 hi λc E=>?_
      obtain ⟨u,y,s⟩:=AX.cell r (j:=j+c) (by omega)
      grind [It]
     ·cases h
    ·cases h
  ·cases h
 ·rename_i k m i j;obtain ⟨p,q,rfl⟩:=F;split at h
  ·rename_i l hk;obtain ⟨p',z,r⟩:=R.hr.obj k _ hk;have e:p'=p:=zGT (z.symm.trans q);subst e;split at h
   ·rename_i g;cases h;simp only [zFW,zGo] at g;obtain ⟨⟨g,rfl⟩,rfl⟩:=g;obtain ⟨u,y,s⟩:=AX.cell r D;exact Np (Rr R hk q r) g (by simpa using y) s
   ·cases h
  ·rename_i l hk;obtain ⟨p',z,r⟩:=R.hr.obj k _ hk;have e:p'=p:=zGT (z.symm.trans q);subst e;split at h
   ·rename_i g;cases h;simp only [zFW,zGo] at g;obtain ⟨⟨g,rfl⟩,rfl⟩:=g;obtain ⟨u,y,s⟩:=AX.cell r D;exact Np (Rr R hk q r) g (by simpa using y) s
   ·cases h
  ·rename_i Z n f hk;obtain ⟨p',z,r⟩:=R.hr.obj k _ hk;have e:p'=p:=zGT (z.symm.trans q);subst e
   have K: ∀ {i j:Nat},i<n -> j<Z -> i*Z+j<n*Z:=λ{i j} hi B=>by
    have:(i+1)*Z<=n*Z:=zJB _ hi;rw [zMu] at this;omega
   have dv: ∀ {i j:Nat},j<Z -> (i*Z+j)/Z=i/\ (i*Z+j) % Z=j:=λ{i j} B=>by
    have hm:0<Z:=by omega
    simp_all [zJI,Nat.mul_add_div,Nat.mod_eq_of_lt]
   split at h
   ·rename_i g;cases h;simp only [zFW,zGo,zH6] at g;obtain ⟨⟨g,rfl⟩,B⟩:=g;obtain ⟨u,y,s⟩:=AX.cell r (K D B);rw [(dv B).1,(dv B).2] at s;exact Np (Rr R hk q r) g y (Rs s)
   ·split at h
    ·rename_i A;cases h;simp only [zFW,zGo] at A;obtain ⟨⟨A,rfl⟩,rfl⟩:=A;obtain ⟨G,ti,hi,rfl⟩:=mG A;refine aF (λ_=>Rr R hk q r) G hi λc E=>?_
     obtain ⟨u,y,s⟩:=AX.cell r (K D E)
     grind [Rs]
    ·cases h
  ·rename_i n L lk hk;obtain ⟨p',z,vs,C⟩:=R.hr.obj k _ hk;have e:p'=p:=zGT (z.symm.trans q);subst e;split at h
   ·rename_i g;cases h;simp only [zFW,zGo] at g;obtain ⟨⟨g,rfl⟩,rfl⟩:=g;obtain ⟨cs,M,Q,T,U,H⟩:=C.row;have hi:i<vs.size:=by rw [C.size];exact D
    have I:=H i D;rw [zIq hi] at I;refine Np (u:=vs[i]) (R.hr.cel k _ p' p'.blk hk q C.blk).2.1 g ?_ ⟨p',vs,q,C.val,zIq hi⟩
    grind [World.cell?]
   ·cases h
  ·rename_i L hk;obtain ⟨p',z,vs,C⟩:=R.hr.obj k _ hk;have e:p'=p:=zGT (z.symm.trans q);subst e;split at h
   ·rename_i g;cases h;simp only [zFW,zGo] at g;obtain ⟨⟨g,rfl⟩,rfl⟩:=g;obtain ⟨cs,M,Q,T,U,H⟩:=C.row;have hi:i+1<vs.size:=by rw [C.size];omega
    have I:=H i D;rw [zIq hi] at I;refine Np (u:=vs[i+1]) (R.hr.cel k _ p' p'.blk hk q C.blk).2.1 g ?_ ⟨p',vs,q,C.val,zIq hi⟩
    grind [World.cell?]
   ·cases h
  ·cases h
 ·cases h
variable {s:Sem Value}
def Yl.pure (h: ∀ W,s.run P W= .ok v W)(i:AL M w d ρ v):Yl P N w M ρ s d:=⟨v,λW _=>h W,i⟩
def vM (h:Qf P t m=true):P.underlying t=some (.slice (P.elem t))/\ (∃ i,P.info? (P.elem t)=some i/\ i.size=m)/\ m≠0:=by
 unfold Qf at h;split at h
 ·rename_i e I;have:P.elem t=e:=by unfold Program.elem;rw [I]
  grind
 ·cases h
def lm (h:XZ P t=some (n,m)):P.underlying t=some (.array (P.arrayLen t) (P.elem t))/\ P.arrayLen t=n/\ ∃ i,P.info? (P.elem t)=some i/\ i.size=m:=by
 unfold XZ at h;split at h
 ·rename_i W e I;have h1:P.elem t=e:=by unfold Program.elem;rw [I]
  have h2:P.arrayLen t=W:=by unfold Program.arrayLen;rw [I]
  grind
 ·cases h
theorem Kb (b o n:Nat):Addr.add ⟨b,o,none⟩ n=⟨b,o+n,none⟩:=by
 grind [Addr.add]
variable {k:IntKind}
def Yx {len cap:Nat}{n:Int}(h:Qf P t m=true)(h1:0<=n)(h2:n<len)(W:World):
 (Instr.indexAt t (.slice (some ⟨b,o,none⟩) len cap) (.int k n)).run P W= .ok (.pointer (some ⟨b,o+n.toNat*m,none⟩)) W:=by
 obtain ⟨hu,⟨i,hi,rfl⟩,_⟩:=vM h
 simp_all [run_indexAt_slice,Kt,Kb]
def zGQ (R:AS P Γ N S ρ a w){n:Int}(q:AL (MS N S.h ρ) w x ρ v)(h:iZ P t x n=some (d,O))(g:O):
 Yl P N w (MS N S.h ρ) ρ (Instr.indexAt t v (.int k n)) d:=by
 unfold iZ at h;split at h
 ·rename_i l;obtain ⟨C,cap,rfl,y,z,r⟩:=q;split at h
  ·rename_i I;cases h;obtain ⟨b,o,rfl,X,A⟩:=r n.toNat (by omega);refine Yl.pure (λW=>Yx I g.1 g.2 W) ⟨b,o+n.toNat*1,rfl,λj B=>⟨X,_,?_,rfl⟩⟩
   grind
  ·cases h
 ·rename_i l;obtain ⟨C,cap,rfl,y,z,r⟩:=q;split at h
  ·rename_i I;cases h;obtain ⟨b,o,rfl,X,A⟩:=r n.toNat (by omega);refine Yl.pure (λW=>Yx I g.1 g.2 W) ⟨b,o+n.toNat*1,rfl,λj B=>⟨X,_,?_,rfl⟩⟩
   grind
  ·cases h
 ·rename_i m c f;obtain ⟨C,cap,rfl,y,z,r⟩:=q;split at h
  ·rename_i I;cases h;have hm:=(vM I).2;obtain ⟨b,o,u,rfl,X,A,hr⟩:=r n.toNat 0 (by omega) (by omega);refine Yl.pure (λW=>Yx I g.1 g.2 W) ⟨b,o+n.toNat*m,rfl,λj B=>?_⟩;obtain ⟨b',o',u',e,hM',JR,CG⟩:=r n.toNat j (by omega) B
   grind
  ·cases h
 ·rename_i E m off c;obtain ⟨p,cap,s,rfl,y,z,r⟩:=q;split at h
  ·rename_i I;cases h;exact Yl.pure (λW=>Yx I g.1 g.2 W) ⟨p,s,by grind⟩
  ·cases h
 ·rename_i E j;obtain ⟨p,s,rfl⟩:=q;split at h
  ·rename_i len F D;cases h;obtain ⟨G,H,i,hi,rfl⟩:=lm D;refine Yl.pure (λW=>?_) ⟨p,s,rfl⟩
   simp_all [run_indexAt_array,Kt,Kb]
  ·cases h
 ·rename_i E m i0;obtain ⟨p,s,rfl⟩:=q;split at h
  ·rename_i len F D;split at h
   ·rename_i J;subst J;cases h;obtain ⟨G,H,i,hi,rfl⟩:=lm D;refine Yl.pure (λW=>?_) ⟨p,s,rfl⟩
    simp_all [run_indexAt_array,Kt,Kb,zMl]
   ·cases h
  ·cases h
 ·rename_i m f;obtain ⟨b,o,rfl,A⟩:=bp q;split at h
  ·rename_i len F D;split at h
   ·rename_i J;cases h;obtain ⟨G,H,i,hi,rfl⟩:=lm D;refine Yl.pure (λW=>?_) ⟨b,o+n.toNat*i.size,rfl,λj B=>?_⟩
    ·simp_all [run_indexAt_array,Kt,Kb]
    ·obtain ⟨X,u,y,z⟩:=A (n.toNat*i.size+j) (by omega)
     grind [It]
   ·cases h
  ·cases h
 ·cases h
def zB7 {S:BinOp}{x y:Int}(t:TypeId)(h:cz S k x y=some (d,O))(M:Ψ):Yl P N w M ρ (binOp S t (.int k x) (.int k y)) d:=by
 cases S <;> simp only [cz,zH8,zIa,reduceCtorEq] at h <;> obtain ⟨rfl,-⟩:=h
 ·exact Yl.pure (λW=>by rw [binOp_add];rfl) rfl
 ·exact Yl.pure (λW=>by rw [binOp_sub];rfl) rfl
 ·exact Yl.pure (λW=>by rw [binOp_mul];rfl) rfl
 ·exact Yl.pure (λW=>by rw [binOp_and];rfl) rfl
 ·exact Yl.pure (λW=>by rw [binOp_or];rfl) rfl
 ·exact Yl.pure (λW=>by rw [binOp_xor];rfl) rfl
 ·exact Yl.pure (λW=>by rw [binOp_andNot];rfl) rfl
 ·exact Yl.pure (λW=>by rw [binOp_eql];rfl) rfl
 ·exact Yl.pure (λW=>by rw [binOp_neq];rfl) rfl
 ·exact Yl.pure (λW=>by rw [binOp_lss];rfl) rfl
 ·exact Yl.pure (λW=>by rw [binOp_leq];rfl) rfl
 ·exact Yl.pure (λW=>by rw [binOp_gtr];rfl) rfl
 ·exact Yl.pure (λW=>by rw [binOp_geq];rfl) rfl
theorem zKI {S:BinOp}{x y:Operand}{n:Int}:eqGuard S t x y (.int k n) v=pure ():=by
 cases S <;> rfl
def zLj {S:BinOp}{y:DV}{i f:Value}(m q:Operand)(g:AL M w x ρ i)(hy:AL M w y ρ f)(h:dA (Tj P t) S x y=some (d,O))(p:O):
 Yl P N w M ρ (do eqGuard S t m q i f;binOp S t i f) d:=by
 have key: ∀ {k v:IntKind} {n A:Int},i= .int k n -> f= .int v A -> Yl P N w M ρ (binOp S t (.int k n) (.int v A)) d -> Yl P N w M ρ (do eqGuard S t m q i f;binOp S t i f) d:=by
  grind [zKI]
 have B:Tj P t=1 -> P.underlying t=some .bool:=λh=>by
  grind [Tj]
 have r:Tj P t=2 -> ∃ e,P.underlying t=some (.slice e):=λh=>by
  grind [Tj]
 have D: ∀ {e:TypeId} {a:Addr} {l c:Nat} (W:World),P.underlying t=some (.slice e) -> (do eqGuard .eql t m q (.slice (some a) l c) (.slice none 0 0);binOp .eql t (.slice (some a) l c) (.slice none 0 0):Sem Value).run P W= .ok (.bool false) W:=by
  simp_all [eqGuard,binOp,run_equal_slice_nil]
 have s: ∀ {e:TypeId} {a:Addr} {l c:Nat} (W:World),P.underlying t=some (.slice e) -> (do eqGuard .neq t m q (.slice (some a) l c) (.slice none 0 0);binOp .neq t (.slice (some a) l c) (.slice none 0 0):Sem Value).run P W= .ok (.bool true) W:=by
  simp_all [eqGuard,binOp,run_equal_slice_nil]
 unfold dA at h;split at h
 ·split at h
  ·rename_i e;cases h;have u:i= .bool _:=g;have z:f= .bool _:=hy;subst u;subst z;exact Yl.pure (λW=>run_eql_bool W t _ _ (B e)) rfl
  ·cases h
 ·split at h
  ·rename_i e;cases h;have u:i= .bool _:=g;have z:f= .bool _:=hy;subst u;subst z;exact Yl.pure (λW=>run_neq_bool W t _ _ (B e)) rfl
  ·cases h
 ·split at h
  ·rename_i e;cases h;obtain ⟨K,I⟩:=r e;obtain ⟨C,cap,rfl,E,F,j⟩:=g;obtain ⟨b,o,rfl,_⟩:=j 0 p;have z:f= .slice none 0 0:=hy;subst z;exact Yl.pure (λW=>D W I) rfl
  ·cases h
 ·split at h
  ·rename_i e;cases h;obtain ⟨K,I⟩:=r e;obtain ⟨C,cap,rfl,E,F,j⟩:=g;obtain ⟨b,o,rfl,_⟩:=j 0 p;have z:f= .slice none 0 0:=hy;subst z;exact Yl.pure (λW=>D W I) rfl
  ·cases h
 ·split at h
  ·rename_i e;cases h;obtain ⟨K,I⟩:=r e;obtain ⟨C,cap,rfl,E,F,j⟩:=g;obtain ⟨b,o,rfl,_⟩:=j 0 p;have z:f= .slice none 0 0:=hy;subst z;exact Yl.pure (λW=>s W I) rfl
  ·cases h
 ·cases h;refine key g hy ?_;exact Yl.pure (λW=>by simp_all [binOp_shl,shift_shl]) rfl
 ·cases h;refine key g hy ?_;exact Yl.pure (λW=>by simp_all [binOp_shr,shift_shr]) rfl
 ·split at h
  ·rename_i e;subst e;cases h;exact key g hy (Yl.pure (λW=>by rw [binOp_quo,Op.intDiv,zGW p];rfl) rfl)
  ·cases h
 ·split at h
  ·rename_i e;subst e;cases h;exact key g hy (Yl.pure (λW=>by rw [binOp_rem,Op.intDiv,zGW p];rfl) rfl)
  ·cases h
 ·split at h
  ·rename_i e;subst e;exact key g hy (zB7 t h M)
  ·cases h
 ·cases h
variable {ρ':Operand -> Value}
def H5 {o:Oper}(I:execOp ρ' o=(do pure (.value (←s))))(h:Yl P N w M ρ s d): ∃ v,(∀ W,Keep N w W -> (execOp ρ' o).run P W= .ok (.value v) W)/\ AL M w d ρ v:=by
 obtain ⟨v,a,b⟩:=h;refine ⟨v,λW F=>?_,b⟩;rw [I,zG3,a W F];rfl
variable {off:Nat}
def zJ5 {s:TypeId}{f a:Nat}(h:b6 P s f=some (off,a)): ∃ n w i,P.underlying s=some (.struct n)/\ n[f]? =some w/\ w.offset=off/\ P.info? w.type=some i/\ i.size=a/\ a≠0:=by
 unfold b6 at h
 grind
def fK {s:TypeId}{f a:Nat}(h:b6 P s f=some (off,a))(W:World):(Instr.fieldAt s (.pointer (some ⟨b,o,none⟩)) f).run P W= .ok (.pointer (some ⟨b,o+off,none⟩)) W:=by
 obtain ⟨fs,fd,i,h1,h2,rfl,h4,rfl,h6⟩:=zJ5 h
 simp_all [Instr.fieldAt,zG1,Instr.sureAddr,fieldPlace,Kt,Kb]
def zFw (h:iS P t=some k):P.underlying t=some (.int k):=by
 grind [iS]
variable {ty:TypeId}
def U0 {e:TypeId}{j:Option Addr}{c:Nat}(h:P.underlying t=some (.slice e))(W:World):(Builtin.len_ #[t] ty #[.slice j n c]).run P W= .ok (.int .i64 n) W:=by
 simp [Builtin.len_,zG1 h,goInt]
def zB3 {s:ByteArray}(h:P.underlying t=some .string)(W:World):(Builtin.len_ #[t] ty #[.string s]).run P W= .ok (.int .i64 s.size) W:=by
 simp [Builtin.len_,zG1 h,goInt]
variable {c:Call}
def kn {o:Oper}{b:Builtin}(ho:o.op= .call c)(hc:c.callee= .builtin b) 
 (hb:builtin b c.argTypes o.type (c.args.map λ| .const _=>true | _=>false) (c.args.map ρ')=(do pure (.value (←s)))) (h:Yl P N w M ρ s d):
 ∃ v,(∀ W,Keep N w W -> (execOp ρ' o).run P W= .ok (.value v) W)/\ AL M w d ρ v:=by
 refine H5 (s:=s) ?_ h
 grind [execOp,resolve,invoke]
def zFO (a:AL M w x ρ v)(h:aI P t x=some (d,O)):Yl P N w M ρ (Builtin.len_ #[t] ty #[v]) d:=by
 unfold aI at h;split at h
 ·rename_i Q q;cases h;rw [show v=_ from a];exact Yl.pure (λW=>U0 q W) rfl
 ·rename_i Q l q;cases h;obtain ⟨j,cap,rfl,_⟩:=a;exact Yl.pure (λW=>U0 q W) rfl
 ·rename_i Q l q;cases h;obtain ⟨j,cap,rfl,_⟩:=a;exact Yl.pure (λW=>U0 q W) rfl
 ·rename_i Q m n f q;cases h;obtain ⟨j,cap,rfl,_⟩:=a;exact Yl.pure (λW=>U0 q W) rfl
 ·rename_i Q k m off n q;cases h;obtain ⟨p,cap,_,rfl,_⟩:=a;exact Yl.pure (λW=>U0 q W) rfl
 ·rename_i s q;cases h;rw [show v=_ from a];exact Yl.pure (λW=>zB3 q W) rfl
 ·cases h
variable {α:Type}
theorem yU {l:Array α}{x:α}(h:l.toList= [x]):l= #[x]:=by cases l;simp at h;rw [h]
def X0 {l:Array α}{x y:α}(h:l.toList= [x,y]):l= #[x,y]:=by cases l;simp at h;rw [h]
theorem zLc (R:AS P Γ N S ρ a w)(o:Oper){b:Builtin}(f:o.op= .call c)(l:c.callee= .builtin b)(h:cw P S b c.args.toList c.argTypes.toList=some (d,O)):
 ∃ v,(∀ W,Keep N w W -> (execOp a.eval o).run P W= .ok (.value v) W)/\ AL (MS N S.h ρ) w d ρ v:=by
 have Q:=λx=>BV R x
 unfold cw at h;split at h
 ·split at h
  ·rename_i x D;split at h
   ·rename_i t ht;exact kn (s:=Builtin.len_ #[t] o.type #[a.eval x]) f l (by grind [yU,builtin]) (zFO (Q x) h)
   ·cases h
  ·cases h
 ·split at h
  ·rename_i x y D;have e:=Q x;have hy:=Q y;unfold gu at h;split at h
   ·rename_i k n i j g z;cases h;rw [g] at e;rw [z] at hy;refine kn (s:=Builtin.max_ c.argTypes o.type #[a.eval x,a.eval y]) f l (by rw [X0 D];simp [builtin]) ?_;rw [show a.eval x=_ from e,show a.eval y=_ from hy];exact Yl.pure (λW=>by simp [Builtin.max_,Builtin.max2]) rfl
   ·cases h
  ·cases h
 ·split at h
  ·rename_i x y D;have e:=Q x;have hy:=Q y;unfold gq at h;split at h
   ·rename_i k n i j g z;cases h;rw [g] at e;rw [z] at hy;refine kn (s:=Builtin.min_ c.argTypes o.type #[a.eval x,a.eval y]) f l (by rw [X0 D];simp [builtin]) ?_;rw [show a.eval x=_ from e,show a.eval y=_ from hy];exact Yl.pure (λW=>by simp [Builtin.min_,Builtin.min2]) rfl
   ·cases h
  ·cases h
 ·cases h
theorem qq (R:AS P Γ N S ρ a w)(o:Oper)(h:pop P S o.op=some (d,O))(C:O):
 ∃ v,(∀ W,Keep N w W -> (execOp a.eval o).run P W= .ok (.value v) W)/\ AL (MS N S.h ρ) w d ρ v:=by
 have Q:=λx=>BV R x
 unfold pop at h;split at h
 ·rename_i x q;cases h;exact ⟨a.eval x,λW _=>by unfold execOp;rw [q];rfl,Q x⟩
 ·rename_i x q;cases h;exact ⟨a.eval x,λW _=>by unfold execOp;rw [q];rfl,Q x⟩
 ·rename_i c x y q;have B:=Q c;split at h
  ·rename_i e;cases h;rw [e] at B;exact ⟨a.eval x,λW _=>by unfold execOp;rw [q];simp only [show a.eval c= .bool true from B];rfl,Q x⟩
  ·rename_i e;cases h;rw [e] at B;exact ⟨a.eval y,λW _=>by unfold execOp;rw [q];simp only [show a.eval c= .bool false from B];rfl,Q y⟩
  ·cases h
 ·rename_i t x q;exact H5 (by unfold execOp;rw [q]) (sP R (Q x) h C)
 ·rename_i D t x y t' q;exact H5 (by unfold execOp;rw [q]) (zLj x y (Q x) (Q y) h C)
 ·rename_i D t x q;have l:=Q x;refine H5 (s:=Op.unary D (a.eval x)) (by unfold execOp;rw [q]) ?_;split at h
  ·rename_i b e;cases h;rw [e] at l;rw [show a.eval x= .bool b from l];exact Yl.pure (λW=>rfl) rfl
  ·rename_i k n e;cases h;rw [e] at l;rw [show a.eval x= .int k n from l];exact Yl.pure (λW=>rfl) rfl
  ·rename_i k n e;cases h;rw [e] at l;rw [show a.eval x= .int k n from l];exact Yl.pure (λW=>rfl) rfl
  ·cases h
 ·rename_i F G x q;have l:=Q x;split at h
  ·rename_i dd k H n I hd e;cases h;rw [e] at l;refine H5 (s:=convert F G (a.eval x)) (by unfold execOp;rw [q]) ?_;rw [show a.eval x= .int H n from l];refine Yl.pure (v:=.int k (k.wrap n)) (λW=>?_) rfl
   simp_all [convert,zG1,zFw,Conv.intToInt]
  ·cases h
 ·rename_i x q;have l:=Q x;split at h
  ·rename_i m f e;cases h;rw [e] at l;obtain ⟨b,E,r,z⟩:=bp l;exact ⟨_,λW _=>by simp_all [execOp],b,E,rfl,z⟩
  ·rename_i k j e;cases h;rw [e] at l;obtain ⟨p,A,r⟩:=l;exact ⟨_,λW _=>by simp_all [execOp],p,A,rfl⟩
  ·rename_i k m i j e;cases h;rw [e] at l;obtain ⟨p,A,r⟩:=l;exact ⟨_,λW _=>by simp_all [execOp],p,A,rfl⟩
  ·rename_i g m c e;cases h;rw [e] at l;obtain ⟨X,r,z⟩:=l;exact ⟨_,λW _=>by simp_all [execOp],X,rfl,z⟩
  ·cases h
 ·rename_i st x f q;have l:=Q x;split at h
  ·rename_i off sz M;refine H5 (s:=Instr.fieldAt st (a.eval x) f) (by unfold execOp;rw [q]) ?_;split at h
   ·rename_i m g e;split at h
    ·cases h;rw [e] at l;obtain ⟨b,E,r,z⟩:=bp l;rw [r];refine Yl.pure (λW=>fK M W) ⟨b,_,rfl,λj J=>?_⟩;obtain ⟨K,u,L,g3⟩:=z (off+j) (by omega)
     grind [It]
    ·cases h
   ·rename_i k j e;cases h;rw [e] at l;obtain ⟨p,A,r⟩:=l;rw [r];exact Yl.pure (λW=>fK M W) ⟨p,A,by rw [zMo]⟩
   ·rename_i k m i j e;cases h;rw [e] at l;obtain ⟨p,A,r⟩:=l;rw [r];exact Yl.pure (λW=>fK M W) ⟨p,A,by rw [zMo,zMo]⟩
   ·cases h
  ·cases h
 ·rename_i t x i q;have hi:=Q i;split at h
  ·rename_i k n e;rw [e] at hi;refine H5 (s:=Instr.indexAt t (a.eval x) (a.eval i)) (by unfold execOp;rw [q]) ?_;rw [show a.eval i= .int k n from hi];exact zGQ R (Q x) h C
  ·cases h
 ·rename_i x i q;have l:=Q x;split at h
  ·rename_i m f e;split at h
   ·rename_i hi;cases h;rw [e] at l;obtain ⟨cs,r,I,z⟩:=l;obtain ⟨u,K,L⟩:=z i hi;refine H5 (s:=Instr.extract (a.eval x) i) (by unfold execOp;rw [q]) ?_
    simp_all [Yl.pure,Instr.extract]
   ·cases h
  ·cases h
 ·rename_i g first c q
  split at h
  ·rename_i M;cases h;refine ⟨.func (.func g) #[] (c.map a.eval),λW _=>?_,c.map a.eval,rfl,by simp,λj J=>?_⟩
   ·simp_all [execOp,Instr.makeFunc]
   simp_all [It]
  ·cases h
 ·grind [zLc]
 ·cases h
end
abbrev zGV:=@List.all_eq_true
abbrev zGc:=@List.getElem?_eq_getElem
abbrev zGh:=@List.length_map
abbrev zGv:=@Int.le_refl
abbrev zG2:=@List.getElem_of_mem
abbrev zIA:=@List.length_replicate
abbrev zIB:=@List.getElem?_append_right
abbrev zIb:=@Nat.mul_one
abbrev zMc:=@Go.heap_alloc_new
abbrev zMh:=@Nat.div_lt_iff_lt_mul
abbrev zNa:=@List.flatMap_cons
abbrev zNb:=@Nat.mul_le_mul
def J3:DV -> Bool
 | .any=>false
 | .agg .. =>false
 | .tup .. =>false
 | .it _=>false
 | .mri .. =>false
 | _=>true
def KV:DV -> Option (List DV)
 | .agg m f=>some ((List.range m).map f)
 | .any=>none
 | .tup .. =>none
 | .it _=>none
 | .mri .. =>none
 | d=>some [d]
def SC:DV -> Bool
 | .int .. =>true
 | .bool _=>true
 | .str _=>true
 | .nils=>true
 | .ints _=>true
 | .bools _=>true
 | .sl .. =>true
 | _=>false
section
variable {P:Program} {Γ:Av} {N:Ψ} {S:St} {ρ:List AI} {a:Act} {w:World}
variable {v:Value}{d:DV}{M:Ψ}
theorem Zx (h:J3 d=true)(a:AL M w d ρ v):v.oneCell'=true/\ v.cells= #[v]:=by
 have key:(∀ cs,v≠.agg cs) -> (∀ cs,v≠.tuple cs) -> v.oneCell'=true/\ v.cells= #[v]:=λp q=>by
  cases v <;> first | exact ⟨rfl,rfl⟩ | exact absurd rfl (p _) | exact absurd rfl (q _)
 cases d with
 | any=>cases h
 | agg m f=>cases h
 | tup m f=>cases h
 | nils=>exact key (λcs e=>by rw [a] at e;cases e) (λcs e=>by rw [a] at e;cases e)
 | int k n=>exact key (λcs e=>by rw [a] at e;cases e) (λcs e=>by rw [a] at e;cases e)
 | bool b=>exact key (λcs e=>by rw [a] at e;cases e) (λcs e=>by rw [a] at e;cases e)
 | str s=>exact key (λcs e=>by rw [a] at e;cases e) (λcs e=>by rw [a] at e;cases e)
 | ints l=>obtain ⟨_,_,rfl,_⟩:=a;exact ⟨rfl,rfl⟩
 | bools l=>obtain ⟨_,_,rfl,_⟩:=a;exact ⟨rfl,rfl⟩
 | sl m n f=>obtain ⟨_,_,rfl,_⟩:=a;exact ⟨rfl,rfl⟩
 | fp m f=>obtain ⟨_,_,rfl,_⟩:=a;exact ⟨rfl,rfl⟩
 | ref k j=>obtain ⟨_,_,rfl⟩:=a;exact ⟨rfl,rfl⟩
 | msl k m off n=>obtain ⟨_,_,_,rfl,_⟩:=a;exact ⟨rfl,rfl⟩
 | mp k m i j=>obtain ⟨_,_,rfl⟩:=a;exact ⟨rfl,rfl⟩
 | fn g m c=>obtain ⟨_,rfl,_⟩:=a;exact ⟨rfl,rfl⟩
 | it k=>cases h
 | yl l=>exact key (λcs e=>by rw [a] at e;cases e) (λcs e=>by rw [a] at e;cases e)
 | mse k m o n=>obtain ⟨_,_,_,_,rfl,_⟩:=a;exact ⟨rfl,rfl⟩
 | mri k i=>cases h
 | cst u=>obtain ⟨rfl,r⟩:=a;cases v <;> first | exact ⟨rfl,rfl⟩ | (cases r;done)
variable {l:List DV}
def XB (h:KV d=some l)(a:AL M w d ρ v):v.cells.size=l.length/\ ∀ j,j<l.length -> ∃ u,v.cells[j]? =some u/\ AL M w (l.getD j .any) ρ u:=by
 have one:J3 d=true -> l= [d] -> v.cells.size=l.length/\ ∀ j,j<l.length -> ∃ u,v.cells[j]? =some u/\ AL M w (l.getD j .any) ρ u:=by
  intro e p;subst p;rw [(Zx e a).2]
  grind
 cases d with
 | any=>cases h
 | tup m f=>cases h
 | it k=>cases h
 | yl l=>cases h;exact one rfl rfl
 | mse k m o n=>cases h;exact one rfl rfl
 | mri k i=>cases h
 | cst u=>exact one rfl (zGT h).symm
 | agg m f=>
  cases h;obtain ⟨cs,rfl,hs,hc⟩:=a
  grind [Value.cells]
 | nils=>cases h;exact one rfl rfl
 | int k n=>cases h;exact one rfl rfl
 | bool b=>cases h;exact one rfl rfl
 | str s=>cases h;exact one rfl rfl
 | ints l=>cases h;exact one rfl rfl
 | bools l=>cases h;exact one rfl rfl
 | sl m n f=>cases h;exact one rfl rfl
 | fp m f=>cases h;exact one rfl rfl
 | ref k j=>cases h;exact one rfl rfl
 | msl k m off n=>cases h;exact one rfl rfl
 | mp k m i j=>cases h;exact one rfl rfl
 | fn g m c=>cases h;exact one rfl rfl
def fw (h:SC d=true)(i:AL M w d ρ v):AL M w d [] v:=by
 cases d <;> first | exact i | (cases h;done)
structure CC (P:Program)(Γ:Av)(N:Ψ)(h:DH)(ρ:List AI)(w:World)(ext:Bool)(d:DV)(h':DH)(v:Value)(w':World):Prop where
 ex: ∃ ρ',Aq P Γ N h' ρ' w'/\ AL (MS N h' ρ') w' d ρ' v/\ A3 h ρ w h' ρ' w'/\ (∀ (k:Nat) (p:AI),ρ[k]? =some p -> ρ'[k]? =some p)
 ext:ext=true -> A0 w w'
def BO (P:Program)(s:Sem Next)(w:World)(G:Value -> World -> Prop):Prop:= (∃ v w',s.run P w= .ok (.value v) w'/\ G v w')∨(∃ w',s.run P w= .ok .skip w'/\ G undef w')∨ (∃ f args w',s.run P w= .ok (.enter f args) w'/\ Calls P f args w' λe H=>∃ v,e= .returned v/\ G v H)
variable {w':World}{o:Oper}{ρ':Operand -> Value}{G:Value -> World -> Prop}
def BO.value {s:Sem Value}(I:execOp ρ' o=(do pure (.value (←s))))(h:s.run P w= .ok v w')(q:G v w'):BO P (execOp ρ' o) w G:=
 .inl ⟨v,w',by rw [I,zG3,h];rfl,q⟩
theorem BO.skip {s:Sem Unit}(I:execOp ρ' o=(do s;pure .skip))(h:s.run P w= .ok () w')(q:G undef w'):BO P (execOp ρ' o) w G:=
 .inr (.inl ⟨w',by rw [I,zG3,h];rfl,q⟩)
def E1 (w:World)(p:Nat):AI:=⟨w.heap.size,0,p,undef,λb=>b=w.heap.size⟩
variable {w1:World}{t:TypeId}{cs:Array Value}
def TD (H:Aq P Γ N S.h ρ w){o:DO}(I:A0 w w1/\ w1.heap.size=w.heap.size) 
 (x: ∀ M ρ',BP (MS N S.h ρ) w ρ M (w1.alloc (.cells cs t)) ρ' -> EE P M (w1.alloc (.cells cs t)) ρ' (E1 w cs.size) o)
 (g: ∀ M ρ',ρ'[S.h.length]? =some (E1 w cs.size) -> AL M (w1.alloc (.cells cs t)) d ρ' v) (ext:Bool):
 CC P Γ N S.h ρ w ext d (S.h++[some o]) v (w1.alloc (.cells cs t)):=by
 have F:A0 w (w1.alloc (.cells cs t)):=I.1.allocR _;have a: ∀ b,(E1 w cs.size).foot b -> w.heap.size<=b:=λb e=>Nat.le_of_eq (Eq.symm e)
 have e:(w1.alloc (.cells cs t)).heap[w.heap.size]? =some (.cells cs t (0,0)):=by grind [heap_alloc_new]
 refine ⟨⟨ρ++[E1 w cs.size],H.snoc F (λb f=>⟨a b f,.cells (c:=cs) (t:=t) (z:=(0,0)) (by rw [show b=w.heap.size from f];exact e)⟩) (x _ _ (BP.snoc H F a)),?_,A3.snoc H F a,λk p hk=>Em hk⟩,λ_=>F⟩;exact g _ _ (by rw [←H.len];simp)
variable {n:Nat}
def PG (k:w1.heap.size=w.heap.size){R:Nat -> Value -> Prop}(a:n<=cs.size)(hR: ∀ j,j<n -> ∃ u,cs[j]? =some u/\ R j u):AX (w1.alloc (.cells cs t)) (E1 w cs.size) n R:=by
 refine ⟨rfl,cs,t,?_,by simpa [E1] using a,zGd _,λj e=>by simpa [E1] using hR j e⟩
 show (w1.alloc (.cells cs t)).heap[w.heap.size]? =_
 rw [←k];exact zMc w1 _
variable {x:Operand}
theorem zLf (R:AS P Γ N S ρ a w)(h:KV (AZ S.fr x)=some l)(o:Oper)(b:o.op= .box t x)(ext:Bool):
 BO P (execOp a.eval o) w (CC P Γ N S.h ρ w ext (.ref S.h.length 0) (S.h++[some (.cells l)])):=by
 obtain ⟨h1,c⟩:=XB h (BV R x);refine BO.value (s:=Instr.box t (a.eval x)) (by unfold execOp;rw [b]) (v:=.pointer (some ⟨w.heap.size,0,none⟩)) (w':=w.alloc (.cells (a.eval x).cells t)) ?_ ?_
 ·rfl
 ·refine TD (d:=.ref S.h.length 0) R.hr ⟨A0.refl w,rfl⟩ (λM ρ' O=>?_) (λM ρ' g=>⟨_,g,rfl⟩) ext;refine PG rfl (by omega) λj e=>?_
  obtain ⟨u,f,i⟩:=c j e;exact ⟨u,f,i.out _ O⟩
variable {z:Value}{i:TypeInfo}
theorem zME (R:AS P Γ N S ρ a w)(hi:P.info? t=some i)(b:i.zero=some z)(o:Oper)(x:o.op= .alloc t)(ext:Bool):
 BO P (execOp a.eval o) w (CC P Γ N S.h ρ w ext (.ref S.h.length 0) (S.h++[some (.cells (z.cells.toList.map Nj))])):=by
 refine BO.value (s:=Instr.alloc t true (.tuple #[])) (by unfold execOp;rw [x]) (v:=.pointer (some ⟨w.heap.size,0,none⟩)) (w':=w.alloc (.cells z.cells t)) ?_ ?_
 ·simp [Instr.alloc,zeroValue,typeInfo,hi,b,newVar,newRow,newObj];rfl
 ·refine TD (d:=.ref S.h.length 0) R.hr ⟨A0.refl w,rfl⟩ (λM ρ' O=>?_) (λM ρ' g=>⟨_,g,rfl⟩) ext;refine PG rfl (by simp) λj hj=>?_
  grind [Zz]
def u7:Value -> Bool
 | .bool false=>true
 | _=>false
def dQ (z:Value):Bool:=decide (2<z.cells.size)&&z.cells.toList.all u7
theorem zMF (R:AS P Γ N S ρ a w)(hi:P.info? t=some i)(b:i.zero=some z)(c:dQ z=true)(o:Oper)(x:o.op= .alloc t)(ext:Bool):
 BO P (execOp a.eval o) w (CC P Γ N S.h ρ w ext (.mp S.h.length 1 0 0) (S.h++[some (.bools (List.replicate z.cells.size false))])):=by
 refine BO.value (s:=Instr.alloc t true (.tuple #[])) (by unfold execOp;rw [x]) (v:=.pointer (some ⟨w.heap.size,0,none⟩)) (w':=w.alloc (.cells z.cells t)) ?_ ?_
 ·simp [Instr.alloc,zeroValue,typeInfo,hi,b,newVar,newRow,newObj];rfl
 ·refine TD (d:=.mp S.h.length 1 0 0) R.hr ⟨A0.refl w,rfl⟩ (λM ρ' O=>?_) (λM ρ' g=>⟨_,g,rfl⟩) ext;refine PG rfl (by simp) λj e=>?_
  have f:j<z.cells.size:=by simpa using e
  refine ⟨z.cells[j],by simp [f],?_⟩;simp only [dQ,zFW,zGV] at c;have:=c.2 z.cells[j] (by simp)
  grind [u7]
inductive EK where
 | ints
 | bools
 | gen (m:Nat)
def Li (P:Program)(t:TypeId):Option (EK×TypeId×TypeInfo×Value):=match P.underlying t with
 | some (.slice e)=>match P.info? e with
  | some i=>match i.zero with
   | some z=>if i.size=0 then none else if z.cells.size≠i.size then none else match P.underlying e with
    | some (.int .i64)=>if i.size=1 then (match z with | .int .i64 0=>some (.ints,e,i,z) | _=>none) else none
    | some .bool=>if i.size=1 then (match z with | .bool false=>some (.bools,e,i,z) | _=>none) else none
    | _=>some (.gen i.size,e,i,z)
   | none=>none
  | none=>none
 | _=>none
def EK.cells:EK -> Nat
 | .ints=>1
 | .bools=>1
 | .gen m=>m
variable {e:TypeId}{k:EK}
def Wy (h:Li P t=some (k,e,i,z)):P.underlying t=some (.slice e)/\ P.info? e=some i/\ i.zero=some z/\ i.size≠0/\ z.cells.size=i.size/\ k.cells=i.size/\
 (k= .ints -> z= .int .i64 0)/\ (k= .bools -> z= .bool false):=by
 unfold Li at h
 repeat' (split at h)
 all_goals first
  | (cases h;done)
  | skip
 all_goals
  simp only [zH8,zIa] at h;obtain ⟨rfl,rfl,rfl,rfl⟩:=h
  grind [EK.cells]
def kR {s:Nat}(k:0<s): ∀ (vs:List Value),(∀ v∈vs,v.cells.size=s) -> ∀ i j,i<vs.length -> j<s -> (vs.flatMap λv=>v.cells.toList)[i*s+j]? =(vs[i]?).bind (λv=>v.cells[j]?)
 | [],_,i,j,hi,_=>absurd hi (zGa i)
 | v::vs,p,i,j,hi,e=>by
  have a:v.cells.toList.length=s:=by simpa using p v (by simp)
  rw [zNa];cases i with
  | zero=>grind
  | succ i=>
   rw [zIB (by rw [a,zMu];omega),a,show (i+1)*s+j-s=i*s+j by rw [zMu];omega];rw [kR k vs (λv h=>p v (by simp [h])) i j (by simpa using hi) e];simp
def Hy:DV -> Int
 | .int _ n=>n
 | _=>0
def cy:DV -> Bool
 | .bool b=>b
 | _=>false
def JC:DV -> Bool
 | .int .i64 _=>true
 | _=>false
def iQ:DV -> Bool
 | .bool _=>true
 | _=>false
def Ti (k:EK)(ds:List DV):Option DO:=match k with
 | .ints=>if ds.all JC then some (.ints (ds.map Hy)) else none
 | .bools=>if ds.all iQ then some (.bools (ds.map cy)) else none
 | .gen m=>if ds.all λd=>(match KV d with | some l=>l.length==m&&l.all SC | none=>false) then
  some (.arr m ds.length (λi j=>match KV (ds.getD i .any) with | some l=>l.getD j .any | none=>.any)) else none
theorem aT (h:JC d=true)(i:AL M w d ρ v):v= .int .i64 (Hy d):=by
 unfold JC at h;split at h
 ·exact i
 ·cases h
def zFt (h:iQ d=true)(i:AL M w d ρ v):v= .bool (cy d):=by
 unfold iQ at h;split at h
 ·exact i
 ·cases h
def zLe {ds:List DV}{o:DO}{vs:List Value}(hk:0<k.cells)(h:Ti k ds=some o)(I:vs.length=ds.length)(g: ∀ i,i<ds.length -> AL M w (ds.getD i .any) ρ (vs.getD i undef)):
 (∀ v∈vs,v.cells.size=k.cells)/\ ∀ r (w':World) ρ',BP M w ρ r w' ρ' -> ∀ (cs:Array Value) (t:TypeId) (p:AI),cs.toList=(vs.flatMap λv=>v.cells.toList) -> AX w' p (ds.length*k.cells) (λj u=>cs[j]? =some u) -> EE P r w' ρ' p o:=by
 have one: ∀ {j:Nat},k.cells=1 -> j<ds.length*k.cells -> (∀ v∈vs,v.cells.size=k.cells) -> ∀ {u},(vs.flatMap λv=>v.cells.toList)[j]? =some u -> (vs[j]?).bind (λv=>v.cells[0]?)=some u:=λ{j} n b a {u} x=>by
  rw [n] at b a;have:=kR (s:=1) (by omega) vs a j 0 (by omega) (by omega)
  grind
 have c: ∀ v∈vs,∃ i,i<ds.length/\ v=vs.getD i undef/\ vs[i]? =some v:=λv g=>by
  obtain ⟨i,hi,rfl⟩:=zG2 g
  grind
 have F: ∀ i,i<ds.length -> ds.getD i .any∈ds:=λi hi=>by simp [hi]
 cases k with
 | ints=>
  simp only [Ti] at h;split at h
  ·rename_i D;cases h;have q: ∀ i,i<ds.length -> vs.getD i undef= .int .i64 (Hy (ds.getD i .any)):=λi hi=>aT (zGV.1 D _ (F i hi)) (g i hi)
   have a: ∀ v∈vs,v.cells.size=EK.ints.cells:=λv K=>by obtain ⟨i,hi,e,_⟩:=c v K;rw [e,q i hi];rfl
   refine ⟨a,λr w' ρ' O cs t p z f=>?_⟩;have A:ds.length*EK.ints.cells=(ds.map Hy).length:=by simp [EK.cells]
   rw [A] at f;refine AX.out f rfl λj u b x=>?_
   have B:j<ds.length:=by simpa using b
   have y:=one rfl (by simpa [EK.cells] using B) a (u:=u) (by rw [←z];simpa using x)
   grind [Value.cells]
  ·cases h
 | bools=>
  simp only [Ti] at h;split at h
  ·rename_i D;cases h;have q: ∀ i,i<ds.length -> vs.getD i undef= .bool (cy (ds.getD i .any)):=λi hi=>zFt (zGV.1 D _ (F i hi)) (g i hi)
   have a: ∀ v∈vs,v.cells.size=EK.bools.cells:=λv K=>by obtain ⟨i,hi,e,_⟩:=c v K;rw [e,q i hi];rfl
   refine ⟨a,λr w' ρ' O cs t p z f=>?_⟩;have A:ds.length*EK.bools.cells=(ds.map cy).length:=by simp [EK.cells]
   rw [A] at f;refine AX.out f rfl λj u b x=>?_
   have B:j<ds.length:=by simpa using b
   have y:=one rfl (by simpa [EK.cells] using B) a (u:=u) (by rw [←z];simpa using x)
   grind [Value.cells]
  ·cases h
 | gen m=>
  simp only [Ti] at h;split at h
  ·rename_i D;cases h;have C:0<m:=hk
   have q: ∀ i,i<ds.length -> ∃ l,KV (ds.getD i .any)=some l/\ l.length=m/\ (∀ d∈l,SC d=true):=λi hi=>by
    grind
   have a: ∀ v∈vs,v.cells.size=(EK.gen m).cells:=λv K=>by
    obtain ⟨i,hi,e,_⟩:=c v K;obtain ⟨l,n,y,_⟩:=q i hi;rw [e,(XB n (g i hi)).1,y];rfl
   refine ⟨a,λr w' ρ' O cs t p z f=>?_⟩;refine AX.out f rfl λj u b x=>?_
   have E:j<ds.length*m:=b;have hi:j/m<ds.length:=by rw [zMh C];exact E
   have G:j % m<m:=Nat.mod_lt _ C;obtain ⟨l,n,y,J⟩:=q (j/m) hi;have H:=kR (s:=m) C vs a (j/m) (j % m) (by omega) G;rw [show j/m*m+j % m=j by rw [zJI];exact Nat.div_add_mod j m] at H;obtain ⟨_,L⟩:=XB n (g (j/m) hi);obtain ⟨N,Q,R⟩:=L (j % m) (by omega);have S:vs.getD (j/m) undef=vs[j/m]'(by omega):=by simp [I,hi]
   have T:j/m<vs.length:=by omega
   rw [zGc T] at H;rw [S] at Q
   have:u=N:=by
    grind
   subst this;simp only [n];refine AL.out _ O.nil (fw (J _ ?_) R);simp [y,G]
  ·cases h
def fQ (hs:w1.heap.size=w.heap.size)(a:cs.size=n):AX (w1.alloc (.cells cs t)) (E1 w n) n (λj u=>cs[j]? =some u):=by
 subst a
 simp_all [PG]
def cM (parts:List (Nat×Operand))(len:Nat):Bool:=parts.map (·.1)==List.range len
def zKg {parts:List (Nat×Operand)}{len:Nat}(h:cM parts len=true)(f:Operand -> Value):parts.length=len/\ (parts.map λx=>(x.1,f x.2))=((parts.map λx=>f x.2).zipIdx 0).map λx=>(x.2,x.1):=by
 simp only [cM,zGo] at h;have m:parts.length=len:=by have:=congrArg List.length h;simpa using this
 refine ⟨m,List.ext_getElem? λi=>?_⟩
 by_cases hi:i<parts.length
 ·have a:parts[i].1=i:=by
   have h2:=congrArg (λl:Θ=>l[i]?) h
   grind
  simp [hi,a]
 grind
theorem zLd (R:AS P Γ N S ρ a w){t:TypeId}{len:Nat}{parts:Array (Nat×Operand)}{k:EK}{e:TypeId}{i:TypeInfo}{z:Value}{ob:DO}(hk:Li P t=some (k,e,i,z))(r:cM parts.toList len=true)(c:len<=65536/\ k.cells<=64) 
 (m:Ti k (parts.toList.map λx=>AZ S.fr x.2)=some ob) (o:Oper) (u:o.op= .buildSlice t len parts) (ext:Bool):
 BO P (execOp a.eval o) w (CC P Γ N S.h ρ w ext (.msl S.h.length k.cells 0 len) (S.h++[some ob])):=by
 obtain ⟨f,hi,y,h0,C6,Fc,_,_⟩:=Wy hk;obtain ⟨A,QG⟩:=zKg r a.eval;have n:=c.1;have zIJ:=c.2;have Y:0<k.cells:=by omega
 obtain ⟨hs,B⟩:=zLe (w:=w) (M:=MS N S.h ρ) (ρ:=ρ) (vs:=parts.toList.map λx=>a.eval x.2) Y m (by simp) (λj hj=>by
  grind [BV])
 have G5:(parts.toList.map λx=>a.eval x.2).length=len:=by simpa using A
 have b:((parts.toList.map λx=>a.eval x.2).flatMap λv=>v.cells.toList).toArray.size=len*k.cells:=by
  have: ∀ (l:List Value),(∀ v∈l,v.cells.size=k.cells) -> (l.flatMap λv=>v.cells.toList).length=l.length*k.cells:=by
   intro l
   induction l with
   | nil=>intro _;simp
   | cons v l ih=>grind
  grind
 refine BO.value (s:=Instr.buildSlice t len (parts.map λ(i,x)=>(i,a.eval x))) (by unfold execOp;rw [u]) (v:=.slice (some ⟨w.heap.size,0,none⟩) len len) (w':=w.alloc (.cells ((parts.toList.map λx=>a.eval x.2).flatMap λv=>v.cells.toList).toArray e)) ?_ ?_
 ·have p: ¬ len*i.size>2 ^ 24:=by
   have:len*i.size<=65536*64:=zNb n (by omega);omega
  by_cases C:len=0
  ·subst C
   have g:parts= #[]:=by
    grind
   subst g;have E3:Array.map (λ(x:Nat)=>(default:Value)) (Array.range 0)= #[]:=by simp [Array.range_zero']
   simp [Instr.buildSlice,zG1 f,sizeOf,typeInfo,hi,newRow,Instr.fill,Array.range_zero']
  ·have q: ¬ len*i.size=0:=by rw [Nat.mul_eq_zero];omega
   refine run_buildSlice w t e len _ _ i z f hi y p q ?_;have e1:(parts.map λ(i,x)=>(i,a.eval x)).toList=parts.toList.map λx=>(x.1,a.eval x.2):=by simp
   grind [Great.fill_whole]
 ·have:=TD (d:=.msl S.h.length k.cells 0 len) (o:=ob) (v:=.slice (some ⟨w.heap.size,0,none⟩) len len) (cs:=((parts.toList.map λx=>a.eval x.2).flatMap λv=>v.cells.toList).toArray) (t:=e) R.hr ⟨A0.refl w,rfl⟩
   (λM ρ' O=>B _ _ _ O ((parts.toList.map λx=>a.eval x.2).flatMap λv=>v.cells.toList).toArray e _ rfl (by rw [b,zGh,A];exact fQ (w:=w) (w1:=w) (t:=e) rfl b))
   (λM ρ' g=>⟨_,len,g,by simp [E1],zGd _,by unfold LB;omega,by simp only [E1];rw [b];omega⟩) ext
  exact this
def sI (k:EK)(n:Nat)(z:Value):DO:=match k with
 | .ints=>.ints (List.replicate n 0)
 | .bools=>.bools (List.replicate n false)
 | .gen m=>.arr m n (λ_ j=>(z.cells.toList.map Nj).getD j .any)
theorem zEx (R:AS P Γ N S ρ a w){y:Operand}{q Z:IntKind}{n:Int}(hk:Li P t=some (k,e,i,z))(C:AZ S.fr x= .int q n)(hy:AZ S.fr y= .int Z n) 
 (l:0<=n/\ n<=1000000000000) (Eb:i.bytes<=128) (o:Oper) (D:o.op= .makeSlice t x y) (ext:Bool):
 BO P (execOp a.eval o) w (CC P Γ N S.h ρ w ext (.msl S.h.length k.cells 0 n.toNat) (S.h++[some (sI k n.toNat z)])):=by
 obtain ⟨F,hi,G,h0,H,U,r,f⟩:=Wy hk;have p:=l.1;have I:=l.2;have rx:=BV R x;have A:=BV R y;rw [C] at rx;rw [hy] at A;have K:(madeCells z.cells (n.toNat*i.size)).size=n.toNat*k.cells:=by rw [size_madeCells,U]
 refine BO.value (s:=Instr.makeSlice t (a.eval x) (a.eval y)) (by unfold execOp;rw [D]) (v:=.slice (some ⟨w.heap.size,0,none⟩) n.toNat n.toNat) (w':=w.alloc (.cells (madeCells z.cells (n.toNat*i.size)) e)) ?_ ?_
 ·rw [show a.eval x=_ from rx,show a.eval y=_ from A];refine run_make w t e i z F hi G q Z n n p (zGv _) ?_ (by omega);have:(i.bytes:Int)*n<=128*1000000000000:=Int.mul_le_mul (by omega) I p (by omega);omega
 ·refine TD (d:=.msl S.h.length k.cells 0 n.toNat) R.hr ⟨A0.refl w,rfl⟩ (λM ρ' O=>?_) (λM ρ' J=>⟨_,n.toNat,J,by simp [E1],zGd _,by unfold LB;omega,by simp only [E1];rw [K];omega⟩) ext;have b:=fQ (w:=w) (w1:=w) (t:=e) rfl K;rw [K]
  have B: ∀ j u,j<n.toNat*k.cells -> (madeCells z.cells (n.toNat*i.size))[j]? =some u -> z.cells[j % z.cells.size]? =some u:=by
   grind [Nat.mod_lt,madeCells]
  cases k with
  | ints=>
   have g:=r rfl;subst g
   show AX _ _ (List.replicate n.toNat (0:Int)).length _
   rw [zIA];simp only [EK.cells,zIb] at b B ⊢;refine AX.out b rfl λj u c E=>?_
   have:=B j u c E;have L:j % (Value.cells (.int .i64 0)).size=0:=by simp [Value.cells,Nat.mod_one]
   grind [Value.cells]
  | bools=>
   have g:=f rfl;subst g
   show AX _ _ (List.replicate n.toNat false).length _
   rw [zIA];simp only [EK.cells,zIb] at b B ⊢;refine AX.out b rfl λj u c E=>?_
   have:=B j u c E;have L:j % (Value.cells (.bool false)).size=0:=by simp [Value.cells,Nat.mod_one]
   grind [Value.cells]
  | gen m=>
   refine AX.out b rfl λj u c E=>?_
   have h1:=B j u c E;have hm:m=z.cells.size:=by rw [H];exact U
   grind [Zz]
end
abbrev zGi:=@List.length_append
abbrev zIN:=@List.length_cons
abbrev zIs:=@List.nil_append
abbrev zI2:=@List.foldl_cons
abbrev zM7:=@Array.getElem?_modify
abbrev zM8:=@List.length_range
abbrev zNt:=@Nat.add_zero
section
variable {P:Program} {Γ:Av} {N:Ψ} {S:St} {ρ:List AI} {a:Act} {w:World} {h:DH}
def Sw (b:Nat)(t:TypeId)(z:Nat×Nat): ∀ (vs:List Value) (o:Nat) (w:World) (h:Array Value),w.heap[b]? =some (.cells h t z) -> o+vs.length<=h.size ->
 ∃ s,(w.setCells b o vs).heap[b]? =some (.cells s t z)/\ s.size=h.size/\ ∀ k,s[k]? =if o<=k/\ k<o+vs.length then vs[k-o]? else h[k]?
 | [],o,w,h,c,_=>⟨h,c,rfl,λk=>by grind⟩
 | v::vs,o,w,h,c,m=>by
  have Fb:o+(vs.length+1)<=h.size:=m;obtain ⟨s,a,d,h3⟩:=Sw b t z vs (o+1) (w.setCell ⟨b,o,none⟩ v) (h.setIfInBounds o v) (by simp [World.setCell,zM7,c]) (by simp;omega);refine ⟨s,a,by simpa using d,λk=>?_⟩
  grind
def RF (b:Nat): ∀ (vs:List Value) (o:Nat) (w:World),AQ (λk=>k=b) w (w.setCells b o vs)
 | [],_,w=>AQ.refl _ w
 | v::vs,o,w=>((AQ.refl (λk=>k=b) w).setCell (p:=⟨b,o,none⟩) (λ_=>rfl) v).trans (RF b vs (o+1) (w.setCell ⟨b,o,none⟩ v))
variable {o n:Nat}{R:Nat -> Value -> Prop}{p:AI}
def AX.writes {R':Nat -> Value -> Prop}(a:AX w p n R){vs:List Value}(hl:o+vs.length<=n)(h1: ∀ i v,vs[i]? =some v -> R' (o+i) v) 
 (h2: ∀ i u,i<n -> (i<o∨o+vs.length<=i) -> R i u -> R' i u):AX (w.setCells p.blk (p.off+o) vs) p n R':=by
 obtain ⟨b,cs,t,s,g3,g4,g5⟩:=a;obtain ⟨W,c,e2,e3⟩:=Sw p.blk t (0,0) vs (p.off+o) w cs s (by omega);refine ⟨b,W,t,c,by omega,by omega,λj hj=>?_⟩
 grind
def O5 (l:List DV)(o:Nat)(ds:List DV):List DV:=(ds.zipIdx).foldl (λcs x=>cs.set (o+x.2) x.1) l
def eA: ∀ (ds:List DV) (k o:Nat) (l:List DV),((ds.zipIdx k).foldl (λcs x=>cs.set (o+x.2) x.1) l).length=l.length/\
 ∀ j,j<l.length -> ((ds.zipIdx k).foldl (λcs x=>cs.set (o+x.2) x.1) l).getD j .any=if o+k<=j/\ j<o+k+ds.length then ds.getD (j-(o+k)) .any else l.getD j .any
 | [],k,o,l=>⟨rfl,λj _=>by
  simp_all [zGW]⟩
 | d::ds,k,o,l=>by
  obtain ⟨h1,h2⟩:=eA ds (k+1) o (l.set (o+k) d);rw [List.zipIdx_cons,zI2]
  grind
def d9 (l:List DV)(o:Nat)(ds:List DV):(O5 l o ds).length=l.length:=(eA ds 0 o l).1
def eB (l:List DV)(o:Nat)(ds:List DV){j:Nat}(e:j<l.length):(O5 l o ds).getD j .any=if o<=j/\ j<o+ds.length then ds.getD (j-o) .any else l.getD j .any:=by
 have:=(eA ds 0 o l).2 j e;simpa [O5] using this
def O0 (P:Program)(S:St)(t:TypeId)(x d:DV):Option (DH×Prop):=match x with
 | .ref k j=>match S.h[k]? with
  | some (some (.cells l))=>match KV d with
   | some ds=>if P.info? t |>.any (λi=>i.size==ds.length) then (if ds.all J3&&decide (j+ds.length<=l.length) then some (S.h.set k (some (.cells (O5 l j ds))),True) else none) else none
   | none=>none
  | _=>none
 | .mp k m i j=>if P.info? t |>.any (λi=>i.size==1) then match S.h[k]? with
  | some (some (.ints l))=>match d with
   | .int .i64 n=>if m==1&&j==0 then some (S.h.set k (some (.ints (l.set i n))),i<l.length) else none
   | _=>none
  | some (some (.bools l))=>match d with
   | .bool b=>if m==1&&j==0 then some (S.h.set k (some (.bools (l.set i b))),i<l.length) else none
   | _=>none
  | some (some (.arr Z n f))=>if SC d&&(m==Z)&&decide (j<m) then some (S.h.set k (some (.arr m n (λv X=>if v=i/\ X=j then d else f v X))),i<n) else none
  | _=>none
  else none
 | _=>none
def zDf {d:DV}(h:SC d=true):J3 d=true:=by cases d <;> first | rfl | cases h
variable {v:Value}{b:Nat}{i:TypeInfo}{t:TypeId}
def fI (hi:P.info? t=some i)(hs:v.cells.size=i.size)(hc: ∀ j,j<v.cells.size -> (w.cell? ⟨b,o+j,none⟩).isSome=true)(hf: ∀ j,w.frozen? ⟨b,j,none⟩=false)(h1: ∀ u∈v.cells.toList,u.oneCell'=true):
 (Instr.storeAt t (.pointer (some ⟨b,o,none⟩)) v).run P w= .ok () (w.setCells b o v.cells.toList):=by
 simp_all [run_storeCells_cells,Instr.storeAt,Instr.sureAddr,storeVar,Kt]
variable {k:Nat}
def YE (R:AS P Γ N S ρ a w){ob ob':DO}(hk:S.h[k]? =some (some ob))(g:ρ[k]? =some p){Rw:Nat -> Value -> Prop}(d:AX w p n Rw){o':Nat} 
 (hi:P.info? t=some i) (l:v.cells.size=i.size) (hl:o'+v.cells.size<=n) (m: ∀ u∈v.cells.toList,u.oneCell'=true)
 (y: ∀ M ρ' w',BP (MS N S.h ρ) w ρ M w' ρ' -> w'=w.setCells p.blk (p.off+o') v.cells.toList -> EE P M w' ρ' p ob')
 (o:Oper) (tx x:Operand) (r:o.op= .store t tx x) (A:a.eval tx= .pointer (some ⟨p.blk,p.off+o',none⟩)) (B:a.eval x=v):
 BO P (execOp a.eval o) w (CC P Γ N S.h ρ w false .any (S.h.set k (some ob'))):=by
 have e:p.foot=λb=>b=p.blk:=d.1
 have q:AQ p.foot w (w.setCells p.blk (p.off+o') v.cells.toList):=by rw [e];exact RF _ _ _ _
 refine BO.skip (s:=Instr.storeAt t (a.eval tx) (a.eval x)) (by unfold execOp;rw [r]) (w':=w.setCells p.blk (p.off+o') v.cells.toList) ?_ ?_
 ·rw [A,B];refine fI hi l (λj hj=>?_) (λj=>d.frozen j) m;obtain ⟨u,C,_⟩:=d.cell (j:=o'+j) (by omega);rw [zMo,C];rfl
 ·have D: ∀ b,p.foot b -> EF (w.setCells p.blk (p.off+o') v.cells.toList) b:=λb f=>by
   rw [e] at f;obtain ⟨_,cs,O,E,g3,_⟩:=d;obtain ⟨c,F,_⟩:=Sw p.blk O (0,0) v.cells.toList (p.off+o') w cs E (by simp;omega);exact .cells (c:=c) (t:=O) (z:=(0,0)) (by rw [show b=p.blk from f];exact F)
  exact ⟨⟨ρ,R.hr.write hk g q D (y _ _ _ (BP.write trivial hk g q) rfl),trivial,A3.write hk g q,λ_ _ h=>h⟩,λh=>by cases h⟩
def oJ (R:AS P Γ N S ρ a w){tx x:Operand}{h':DH}{K:Prop}(r:O0 P S t (AZ S.fr tx) (AZ S.fr x)=some (h',K))(Z:K)(o:Oper)(D:o.op= .store t tx x):
 BO P (execOp a.eval o) w (CC P Γ N S.h ρ w false .any h'):=by
 have rx:=BV R tx;have z:=BV R x;unfold O0 at r;split at r
 ·rename_i k j e;rw [e] at rx;obtain ⟨p,g,C⟩:=rx;split at r
  ·rename_i l hk;obtain ⟨p',A,b⟩:=R.hr.obj k _ hk;have e:p'=p:=zGT (A.symm.trans g);subst e;split at r
   ·rename_i ds FL;split at r
    ·rename_i c;split at r
     ·rename_i Q;cases r;simp only [zFW,zH6] at Q;cases hi:P.info? t with
      | none=>rw [hi] at c;cases c
      | some i=>
       rw [hi] at c;have E:i.size=ds.length:=by simpa using c
       obtain ⟨c1,T⟩:=XB FL z
       have H: ∀ u∈(a.eval x).cells.toList,u.oneCell'=true:=λu d=>by
        obtain ⟨q,L,rfl⟩:=zG2 d;have G:q<ds.length:=by rw [←c1];simpa using L
        obtain ⟨u,g1,U⟩:=T q G;have h3:=zGV.1 Q.1 (ds.getD q .any) (by simp [G])
        grind [Zx]
       refine YE R hk g b hi (by omega) (o':=j) (by omega) H (λM ρ' w' O B=>?_) o tx x D C rfl;subst B
       show AX _ _ (O5 l j ds).length _
       rw [d9];refine AX.writes b (by simp;omega) (λq v L=>?_) (λq u L s d=>?_)
       ·have Sf:q<(a.eval x).cells.size:=by grind
        have G:q<ds.length:=by omega
        obtain ⟨u,g1,U⟩:=T q G
        have:u=v:=by
         grind
        subst this;rw [eB l j ds (by omega),zEd (by omega),show j+q-j=q by omega];exact U.out _ O
       ·rw [eB l j ds L,zGW (by simp at s;omega)];exact d.out _ O
     ·cases r
    ·cases r
   ·cases r
  ·cases r
 ·rename_i k m i j e;rw [e] at rx;obtain ⟨p,g,C⟩:=rx;split at r
  ·rename_i c;cases hi:P.info? t with
   | none=>rw [hi] at c;cases c
   | some ti=>
    rw [hi] at c;have E:ti.size=1:=by simpa using c
    split at r
    ·rename_i l hk;obtain ⟨p',A,b⟩:=R.hr.obj k _ hk;have e:p'=p:=zGT (A.symm.trans g);subst e;split at r
     ·rename_i n I;split at r
      ·rename_i y;cases r;simp only [zFW,zGo] at y;obtain ⟨rfl,rfl⟩:=y;rw [I] at z;have J:a.eval x= .int .i64 n:=z;refine YE R hk g b hi (v:=.int .i64 n) (by rw [E];rfl) (o':=i) (by simp [Value.cells];omega) (by simp [Value.cells,Value.oneCell']) (λM ρ' w' O B=>?_) o tx x D (by simpa using C) J;subst B
       show AX _ _ (l.set i n).length _
       rw [zGj];refine AX.writes b (by simp [Value.cells];omega) (λq v L=>?_) (λq u L s d=>?_)
       ·grind [Value.cells]
       ·rw [d];simp only [Value.cells,zIN,zM1] at s
        grind
      ·cases r
     ·cases r
    ·rename_i l hk;obtain ⟨p',A,b⟩:=R.hr.obj k _ hk;have e:p'=p:=zGT (A.symm.trans g);subst e;split at r
     ·rename_i n I;split at r
      ·rename_i y;cases r;simp only [zFW,zGo] at y;obtain ⟨rfl,rfl⟩:=y;rw [I] at z;have J:a.eval x= .bool n:=z;refine YE R hk g b hi (v:=.bool n) (by rw [E];rfl) (o':=i) (by simp [Value.cells];omega) (by simp [Value.cells,Value.oneCell']) (λM ρ' w' O B=>?_) o tx x D (by simpa using C) J;subst B
       show AX _ _ (l.set i n).length _
       rw [zGj];refine AX.writes b (by simp [Value.cells];omega) (λq v L=>?_) (λq u L s d=>?_)
       ·grind [Value.cells]
       ·rw [d];simp only [Value.cells,zIN,zM1] at s
        grind
      ·cases r
     ·cases r
    ·rename_i m' n f hk;obtain ⟨p',A,b⟩:=R.hr.obj k _ hk;have e:p'=p:=zGT (A.symm.trans g);subst e;split at r
     ·rename_i y;cases r;simp only [zFW,zGo,zH6] at y;obtain ⟨⟨V,rfl⟩,W⟩:=y;have D8:i<n:=Z;obtain ⟨o1,F⟩:=Zx (zDf V) z
      have iW:i*m+j<n*m:=by
       have:(i+1)*m<=n*m:=zJB _ D8;rw [zMu] at this;omega
      have AB:0<m:=by omega
      refine YE R hk g b hi (v:=a.eval x) (by rw [E,F];rfl) (o':=i*m+j) (by rw [F];simp;omega) (by rw [F];simp [o1]) (λM ρ' w' O B=>?_) o tx x D C rfl;subst B;refine AX.writes b (by rw [F];simp;omega) (λq v L=>?_) (λq u L s d=>?_)
      ·rw [F] at L;have:q=0:=by grind
       subst this;have:v=a.eval x:=by simpa using L.symm
       rw [this,zNt];have X:(i*m+j)/m=i:=by rw [zJI,Nat.mul_add_div AB,Nat.div_eq_of_lt W,zNt]
       have Y:(i*m+j) % m=j:=by rw [zJI,Nat.mul_add_mod,Nat.mod_eq_of_lt W]
       show AL M _ (if (i*m+j)/m=i/\ (i*m+j) % m=j then AZ S.fr x else f ((i*m+j)/m) ((i*m+j) % m)) [] _
       rw [zEd ⟨X,Y⟩];exact AL.out _ O.nil (fw V z)
      ·rw [F] at s;simp at s
       have: ¬ (q/m=i/\ q % m=j):=λ⟨X,Y⟩=>by
        grind [Nat.div_add_mod,Nat.mul_comm]
       show AL M _ (if q/m=i/\ q % m=j then AZ S.fr x else f (q/m) (q % m)) [] _
       rw [zGW this];exact AL.out _ O.nil d
     ·cases r
    ·cases r
  ·cases r
 ·cases r
def MO.kill (c:MO (h.set k none) ρ b):MO h ρ b:=MO.unset c
def La {i:Nat}{o:DO}(hi:(h.set k none)[i]? =some (some o)):i≠k/\ h[i]? =some (some o):=by
 grind
def Aq.kill (H:Aq P Γ N h ρ w)(k:Nat):Aq P Γ N (h.set k none) ρ w:=by
 have O:BP (MS N h ρ) w ρ (MS N (h.set k none) ρ) w ρ:=⟨λ_ _ _ _=>rfl,λb e=>.inl (e.imp id MO.kill),λ_ _ h=>h⟩;refine ⟨by simp [H.len],λi o hi=>?_,λi o p b a c d=>H.cel i o p b (La a).2 c d,λi v o o' p p' b D a c d A f g=>H.dis i v o o' p p' b D (La a).2 (La c).2 d A f g,H.nlt,H.gi⟩;obtain ⟨p,j,l⟩:=H.obj i o (La hi).2;exact ⟨p,j,l.out O (S:=λ_=>False) (AQ.refl _ w) (λ_ h=>h.elim) (λ_ _ _ h=>h)⟩
def BP.kill (k:Nat):BP (MS N h ρ) w ρ (MS N (h.set k none) ρ) w ρ:=⟨λ_ _ _ _=>rfl,λb c=>.inl (c.imp id MO.kill),λ_ _ h=>h⟩
def A3.kill (k:Nat):A3 h ρ w (h.set k none) ρ w:=⟨AQ.refl _ w,λb c=>.inl (MO.kill c)⟩
def Aq.regrow (H:Aq P Γ N h ρ w){w':World}{o o':DO}{p':AI}(hk:h[k]? =some (some o))(g:ρ[k]? =some p)(j:AQ p.foot w w')(M: ∀ b,p'.foot b -> (p.foot b∨w.heap.size<=b)/\ EF w' b) 
 (E:EE P (MS N (h.set k none++[some o']) (ρ++[p'])) w' (ρ++[p']) p' o'):
 Aq P Γ N (h.set k none++[some o']) (ρ++[p']) w'/\ A3 h ρ w (h.set k none++[some o']) (ρ++[p']) w':=by
 have K:=H.kill k;have v:(h.set k none).length=h.length:=by simp
 have X: ∀ b,p.foot b -> MO h ρ b:=λb hb=>⟨k,o,p,hk,g,hb⟩
 have l: ∀ {i:Nat} {o1:DO} {J:AI},(h.set k none++[some o'])[i]? =some (some o1) -> (ρ++[p'])[i]? =some J -> (i≠k/\ i<h.length/\ h[i]? =some (some o1)/\ ρ[i]? =some J)∨(i=h.length/\ o1=o'/\ J=p'):=by
  intro i o1 J d a;rcases EO d with ⟨m,d⟩ | ⟨m,d⟩
  ·rw [v] at m;rcases EO a with ⟨_,a⟩ | ⟨S,_⟩
   ·grind
   ·rw [H.len] at S;omega
  ·rw [v] at m;rcases EO a with ⟨S,_⟩ | ⟨_,a⟩
   ·rw [H.len] at S;omega
   grind
 have r: ∀ b,MO (h.set k none++[some o']) (ρ++[p']) b -> MO h ρ b∨w.heap.size<=b:=by
  rintro b ⟨i,o1,J,d,a,f⟩;rcases l d a with ⟨_,_,e,s⟩ | ⟨_,_,rfl⟩
  ·exact .inl ⟨i,o1,J,e,s,f⟩
  ·exact (M b f).1.imp (X b) id
 have O:BP (MS N h ρ) w ρ (MS N (h.set k none++[some o']) (ρ++[p'])) w' (ρ++[p']):=by
  refine ⟨λb hb F _=>j.block b hb λx=>F (.inr (X b x)),λb hb=>?_,λi q hi=>Em hi⟩;rcases hb with hb | hb
  ·exact .inl (.inl hb)
  ·exact (r b hb).imp .inr id
 refine ⟨⟨by simp [H.len],λi o1 hi=>?_,λi o1 J b d a f=>?_,λi G o1 I J p2 b D d a f L A B=>?_,λb hb=>⟨zGb (H.nlt b hb).1 j.size,(H.nlt b hb).2⟩,Γ.st _ _ H.gi (j.mono λb _ hb=>(H.cel k o p b hk g hb).1)⟩,⟨j.mono λb _ hb=>X b hb,r⟩⟩
 ·rcases EO hi with ⟨m,hi⟩ | ⟨m,hi⟩
  ·obtain ⟨J,C,R⟩:=H.obj i o1 (La hi).2;refine ⟨J,Em C,R.out O j (λb hb=>.inr (X b hb)) λb _ d a=>H.dis i k o1 o J p b (La hi).1 (La hi).2 hk C g d a⟩
  ·cases hi;exact ⟨p',by rw [m,v,←H.len];simp,E⟩
 ·rcases l d a with ⟨D,_,e,s⟩ | ⟨_,_,rfl⟩
  ·obtain ⟨e1,n,c,t,z,Q⟩:=H.cel i o1 J b e s f;exact ⟨e1,n,c,t,z,(j.block b (zGS.1 Q).1 λx=>H.dis i k o1 o J p b D e hk s g f x).trans Q⟩
  ·obtain ⟨e1,n⟩:=M b f;rcases e1 with e1 | e1
   ·obtain ⟨T,U,_⟩:=H.cel k o p b hk g e1;exact ⟨T,U,n⟩
   ·exact ⟨zGU (Γ.lo _ H.gi) e1,λV=>by have:=H.nlt b V;omega,n⟩
 ·have key: ∀ {i o1 J},i≠k -> h[i]? =some (some o1) -> ρ[i]? =some J -> J.foot b -> p'.foot b -> False:=λ{i o1 J} D e s u y=>by
   rcases (M b y).1 with e1 | e1
   ·exact H.dis i k o1 o J p b D e hk s g u e1
   ·have:=H.lt (.inr ⟨i,o1,J,e,s,u⟩);omega
  rcases l d f with ⟨W,_,e,s⟩ | ⟨e1,_,rfl⟩
  ·rcases l a L with ⟨_,_,u,y⟩ | ⟨_,_,rfl⟩
   ·exact H.dis i G o1 I J p2 b D e u s y A B
   ·exact key W e s A B
  grind
def JY (n:Nat)(R:Nat -> Value -> Prop)(A:List Value)(j:Nat)(u:Value):Prop:=if j<n then R j u else A[j-n]? =some u
variable {A:List Value}{c:Nat}{z:Value}{ty e:TypeId}
def lq (l:P.underlying t=some (.slice e))(hi:P.info? e=some i)(m:i.zero=some z)(LP:i.size≠0)(C:z.cells.size=i.size)(T:i.bytes<=128) 
  {cap:Nat}  (f:AX w p (n*i.size) R) (QR:n<=cap) (r:p.off+cap*i.size<=p.room)
 {h:Value}   (hy:Src P i.size t h c A w) (d:n+c<=1000000000000):
 ∃ w' p' k,(Builtin.append_ #[t,t] ty #[.slice (some ⟨p.blk,p.off,none⟩) n cap,h]).run P w= .ok (.slice (some ⟨p'.blk,p'.off,none⟩) (n+c) k) w'/\ n+c<=k/\ p'.off+k*i.size<=p'.room/\
  AQ p.foot w w'/\ (∀ b,p'.foot b -> p.foot b∨w.heap.size<=b)/\ AX w' p' ((n+c)*i.size) (JY (n*i.size) R A):=by
 have v:A.length=c*i.size:=hy.newsLen
 by_cases x:n+c<=cap
 ·obtain ⟨o,cs,q,s,g3,g4,g5⟩:=f;have y:(n+c)*i.size<=cap*i.size:=zJB _ x;rw [zMl] at y;have G:p.off+n*i.size+A.length<=cs.size:=by omega
  refine ⟨w.setCells p.blk (p.off+n*i.size) A,p,cap,run_append_room_src w t t ty e i l hi p.blk p.off n cap h c A hy x (λj a=>?_) (λj _=>by unfold World.frozen?;simp [s]),x,r,?_,λb d=>.inl d,?_⟩
  ·grind [World.cell?]
  ·rw [o];exact RF _ _ _ _
  ·obtain ⟨W,B,e2,Q⟩:=Sw p.blk q (0,0) A (p.off+n*i.size) w cs s G;refine ⟨o,W,q,B,by rw [zMl];omega,by omega,λj a=>?_⟩;rw [zMl] at a;rw [Q]
   by_cases hjn:j<n*i.size
   ·rw [zGW (by omega)]
    simp_all [JY]
   ·rw [zEd (by omega)];have AU:j-n*i.size<A.length:=by omega
    refine ⟨A[j-n*i.size],by grind,?_⟩
    simp_all [JY,zGW]
 ·obtain ⟨g,hg⟩: ∃ g:Nat -> Value,∀ j,j<n*i.size -> w.cell? ⟨p.blk,p.off+j,none⟩=some (g j)/\ R j (g j):=by
   refine ⟨λj=>(w.cell? ⟨p.blk,p.off+j,none⟩).getD undef,λj a=>?_⟩;obtain ⟨u,D,E⟩:=f.cell a;simp [D,E]
  have F:(Builtin.firstCells i.size n (.slice (some ⟨p.blk,p.off,none⟩) n cap)).run P w.drew= .ok (((List.range (n*i.size)).map g).toArray) w.drew:=by
   simp_all [run_loadCells,Kb,Builtin.firstCells]
  have zID:(n+c)*i.bytes<=1000000000000*128:=zNb d T;have H:=run_append_grow_src (P:=P) w t t ty e i z l hi m (some ⟨p.blk,p.off,none⟩) n cap _ F h c A hy (by omega) (by omega) (growslice_fits (by omega) (by omega));have J:n+c<=grownCap w (n+c) cap e:=grownCap_ge w (n+c) cap e
  have K:((((List.range (n*i.size)).map g)++A).toArray++Builtin.zeroCells z.cells (grownCap w (n+c) cap e-(n+c))).size=grownCap w (n+c) cap e*i.size:=by
   simp only [Array.size_append,List.size_toArray,zGi,zGh,zM8,v,size_zeroCells,C,←zMl]
   congr 1;omega
  refine ⟨_,E1 w (grownCap w (n+c) cap e*i.size),grownCap w (n+c) cap e,H,J,by simp [E1],?_,λb d=>.inr (Nat.le_of_eq (Eq.symm d)),?_⟩
  ·exact AQ.ofExt ((A0.toDrew w).allocR _)
  ·refine AX.out (fQ (w:=w) (w1:=w.drew) (t:=e) (cs:=(((List.range (n*i.size)).map g)++A).toArray++Builtin.zeroCells z.cells (grownCap w (n+c) cap e-(n+c))) rfl K |>λf=>?_) rfl (R:=λj u=>((((List.range (n*i.size)).map g)++A).toArray++Builtin.zeroCells z.cells (grownCap w (n+c) cap e-(n+c)))[j]? =some u) λj u a DF=>?_
   ·obtain ⟨I,cs,q,L,q3,M,N⟩:=f;have Bg:(n+c)*i.size<=grownCap w (n+c) cap e*i.size:=zJB _ J;exact ⟨I,cs,q,L,by omega,M,λj a=>N j (by omega)⟩
   ·rw [zMl] at a;unfold JY
    grind
def lu (a:Option Addr:=none)(q:P.underlying t=some (.slice e))(hi:P.info? e=some i)(d:i.zero=some z)(C:z.cells.size=i.size)(T:i.bytes<=128) 
 {b:Value}   (hy:Src P i.size t b c A w) (hc:0<c) (f:c<=1000000000000):
 ∃ w' g,(Builtin.append_ #[t,t] ty #[.slice a 0 0,b]).run P w= .ok (.slice (some ⟨w.heap.size,0,none⟩) c g) w'/\ c<=g/\ ∃ cs,w'=w.drew.alloc (.cells cs e)/\ cs.size=g*i.size/\ ∀ j,j<c*i.size -> cs[j]? =A[j]? :=by
 have k:A.length=c*i.size:=hy.newsLen;have l:(Builtin.firstCells i.size 0 (.slice a 0 0)).run P w.drew= .ok (([]:List Value).toArray) w.drew:=by cases a <;> simp [Builtin.firstCells,loadCells,loadCellsFrom]
 have zID:c*i.bytes<=1000000000000*128:=zNb f T;have u:=run_append_grow_src (P:=P) w t t ty e i z q hi d a 0 0 [] l b c A hy (by omega) (by omega) (growslice_fits (by omega) (by rw [zG4];omega));rw [zG4] at u;have J:c<=grownCap w c 0 e:=grownCap_ge w c 0 e;refine ⟨_,_,u,J,_,rfl,?_,λj hj=>?_⟩
 ·simp only [zIs,Array.size_append,List.size_toArray,k,size_zeroCells,C,←zMl]
  congr 1;omega
 grind
end
abbrev zIS:=@List.mem_map
abbrev zMv:=@Nat.eq_zero_or_pos
def MP (S:St):DV -> Option (Ξ×Prop)
 | .nils=>some ([],True)
 | .ints l=>some (l,True)
 | .msl k m off n=>match S.h[k]? with
  | some (some (.ints l))=>if m==1 then some (l,off=0/\ n=l.length) else none
  | _=>none
 | _=>none
def Qm (S:St):DV -> Option (Ω×Prop)
 | .nils=>some ([],True)
 | .bools l=>some (l,True)
 | .msl k m off n=>match S.h[k]? with
  | some (some (.bools l))=>if m==1 then some (l,off=0/\ n=l.length) else none
  | _=>none
 | _=>none
def Qc (S:St)(m:Nat):DV -> Option (Nat×(Nat -> Nat -> DV)×Prop)
 | .nils=>some (0,(λ_ _=>.any),True)
 | .sl Z n f=>if Z==m then some (n,f,True) else none
 | .msl k Z off n=>match S.h[k]? with
  | some (some (.arr E e f))=>if Z==m&&E==m then some (e,f,off=0/\ n=e) else none
  | _=>none
 | _=>none
def Ay:Nat:=1000000000000
def To (P:Program)(S:St)(t:TypeId)(x y:DV):Option (DV×DH×Prop):=match Li P t with
 | some (k,_,i,_)=>if 128<i.bytes then none else match k with
  | .ints=>match MP S y with
   | some (ys,a)=>match x with
    | .nils=>some (.msl S.h.length 1 0 ys.length,S.h++[some (.ints ys)],a/\ 0<ys.length/\ ys.length<=Ay)
    | .msl k m off n=>match S.h[k]? with
     | some (some (.ints xs))=>if m==1 then some (.msl S.h.length 1 0 (xs.length+ys.length),S.h.set k none++[some (.ints (xs++ys))],a/\ (off=0/\ n=xs.length)/\ xs.length+ys.length<=Ay) else none
     | _=>none
    | _=>none
   | none=>none
  | .bools=>match Qm S y with
   | some (ys,a)=>match x with
    | .nils=>some (.msl S.h.length 1 0 ys.length,S.h++[some (.bools ys)],a/\ 0<ys.length/\ ys.length<=Ay)
    | .msl k m off n=>match S.h[k]? with
     | some (some (.bools xs))=>if m==1 then some (.msl S.h.length 1 0 (xs.length+ys.length),S.h.set k none++[some (.bools (xs++ys))],a/\ (off=0/\ n=xs.length)/\ xs.length+ys.length<=Ay) else none
     | _=>none
    | _=>none
   | none=>none
  | .gen m=>match Qc S m y with
   | some (c,g,a)=>match x with
    | .nils=>some (.msl S.h.length m 0 c,S.h++[some (.arr m c g)],(a/\ ∀ i j,i<c -> j<m -> J3 (g i j)=true)/\ 0<c/\ c<=Ay)
    | .msl k Z off n=>match S.h[k]? with
     | some (some (.arr E e f))=>if Z==m&&E==m then some (.msl S.h.length m 0 (e+c),S.h.set k none++[some (.arr m (e+c) (λi j=>if i<e then f i j else g (i-e) j))],(a/\ ∀ i j,i<c -> j<m -> J3 (g i j)=true)/\ (off=0/\ n=e)/\ e+c<=Ay) else none
     | _=>none
    | _=>none
   | none=>none
 | none=>none
section
variable {P:Program} {Γ:Av} {N:Ψ} {S:St} {ρ:List AI} {a:Act} {w:World} {h:DH}
variable {A:List Value}{c cap m:Nat}{t e:TypeId}
def UV (hu:P.underlying t=some (.slice e)){a:Option Addr}(hl:A.length=c*m)(hc: ∀ j u,A[j]? =some u -> ∃ b o,a=some ⟨b,o,none⟩/\ w.cell? ⟨b,o+j,none⟩=some u) 
 (h1: ∀ u∈A,u.oneCell'=true) (hm:0<m) (tZ:a=none -> c=0):Src P m t (.slice a c cap) c A w:=by
 cases a with
 | none=>
  simp_all [Src.ofNil]
 | some a=>
  grind [Src.ofSlice,Kb]
variable {ys:Ξ}{v:Value}
theorem Vy (R:AS P Γ N S ρ a w)(q:P.underlying t=some (.slice e)){y:DV}(hy:AL (MS N S.h ρ) w y ρ v){c:Prop}(h:MP S y=some (ys,c))(d:c):
 Src P 1 t v ys.length (ys.map (Value.int .i64)) w:=by
 have one: ∀ u∈ys.map (Value.int .i64),u.oneCell'=true:=λu q=>by obtain ⟨n,_,rfl⟩:=zIS.1 q;rfl
 have val: ∀ {j:Nat} {u:Value},(ys.map (Value.int .i64))[j]? =some u -> j<ys.length/\ u= .int .i64 (ys.getD j 0):=λ{j u} b=>by
  grind
 unfold MP at h;split at h
 ·cases h;rw [show v=_ from hy];exact Src.ofNil w q 0
 ·cases h;obtain ⟨ad,cap,rfl,f,g,i⟩:=hy;refine UV q (by simp) (λj u b=>?_) one (by omega) (λe=>?_)
  ·grind
  ·rcases zMv ys.length with h0 | h0
   ·exact h0
   grind
 ·rename_i k m off n;obtain ⟨p,cap,o,rfl,f,g,i⟩:=hy;split at h
  ·rename_i l hk;split at h
   ·rename_i r;cases h;have U:m=1:=by simpa using r
    subst U;obtain ⟨p',s,x⟩:=R.hr.obj k _ hk;have e:p'=p:=zGT (s.symm.trans o);subst e;obtain ⟨rfl,rfl⟩:=d;refine UV q (by simp) (λj u b=>?_) one (by omega) (λe=>by cases e);obtain ⟨z,rfl⟩:=val b;obtain ⟨u,e1,e2⟩:=AX.cell x z
    grind
   ·cases h
  ·cases h
 ·cases h
theorem wL (R:AS P Γ N S ρ a w)(q:P.underlying t=some (.slice e)){y:DV}(hy:AL (MS N S.h ρ) w y ρ v){ys:Ω}{c:Prop}(h:Qm S y=some (ys,c))(d:c):
 Src P 1 t v ys.length (ys.map Value.bool) w:=by
 have one: ∀ u∈ys.map Value.bool,u.oneCell'=true:=λu q=>by obtain ⟨n,_,rfl⟩:=zIS.1 q;rfl
 have val: ∀ {j:Nat} {u:Value},(ys.map Value.bool)[j]? =some u -> j<ys.length/\ u= .bool (ys.getD j false):=λ{j u} b=>by
  grind
 unfold Qm at h;split at h
 ·cases h;rw [show v=_ from hy];exact Src.ofNil w q 0
 ·cases h;obtain ⟨ad,cap,rfl,f,g,i⟩:=hy;refine UV q (by simp) (λj u b=>?_) one (by omega) (λe=>?_)
  ·grind
  ·rcases zMv ys.length with h0 | h0
   ·exact h0
   grind
 ·rename_i k m off n;obtain ⟨p,cap,o,rfl,f,g,i⟩:=hy;split at h
  ·rename_i l hk;split at h
   ·rename_i r;cases h;have U:m=1:=by simpa using r
    subst U;obtain ⟨p',s,x⟩:=R.hr.obj k _ hk;have e:p'=p:=zGT (s.symm.trans o);subst e;obtain ⟨rfl,rfl⟩:=d;refine UV q (by simp) (λj u b=>?_) one (by omega) (λe=>by cases e);obtain ⟨z,rfl⟩:=val b;obtain ⟨u,e1,e2⟩:=AX.cell x z
    grind
   ·cases h
  ·cases h
 ·cases h
variable {x y:Operand}
def OT {ρ':Operand -> Value}{o:Oper}{c:Call}{W:TypeId}(a:o.op= .call c)(l:c.callee= .builtin .append)(D:c.args.toList= [x,y])(b:c.argTypes.toList= [t,W]):
 execOp ρ' o=(do pure (.value (←Builtin.append_ #[t,W] o.type #[ρ' x,ρ' y]))):=by
 unfold execOp;rw [a]
 show (resolve ρ' c o.type>>=λd=>invoke d.target d.args)=_
 unfold resolve;rw [l,X0 D,X0 b];simp;rfl
variable {L:Call}{ob':DO}{z:Value}{i:TypeInfo}
def lr (R:AS P Γ N S ρ a w)(E:P.underlying t=some (.slice e))(hi:P.info? e=some i)(F:i.zero=some z)(G:i.size≠0)(H:z.cells.size=i.size)(T:i.bytes<=128) 
 {k:Nat} {ob:DO} {p:AI} (hk:S.h[k]? =some (some ob)) (g:ρ[k]? =some p) {n:Nat} {Rw:Nat -> Value -> Prop} (I:AX w p (n*i.size) Rw) (J:n<=cap) (K:p.off+cap*i.size<=p.room)
 {l:Value}  (hy:Src P i.size t l c A w) (hb:n+c<=Ay)
 (Q: ∀ M ρ' w' p',BP (MS N S.h ρ) w ρ M w' ρ' -> AX w' p' ((n+c)*i.size) (JY (n*i.size) Rw A) -> EE P M w' ρ' p' ob')
 (o:Oper)   (U:o.op= .call L) (V:L.callee= .builtin .append) (W:L.args.toList= [x,y]) (X:L.argTypes.toList= [t,t]) (d:a.eval x= .slice (some ⟨p.blk,p.off,none⟩) n cap) (Y:a.eval y=l):
 BO P (execOp a.eval o) w (CC P Γ N S.h ρ w false (.msl S.h.length i.size 0 (n+c)) (S.h.set k none++[some ob'])):=by
 obtain ⟨w',p',Z,h1,h2,h3,r,u,v⟩:=lq (ty:=o.type) E hi F G H T I J K hy hb;refine BO.value (OT U V W X) (by rw [d,Y];exact h1) ?_
 have B: ∀ b,p'.foot b -> EF w' b:=λb hb=>by
  obtain ⟨e1,cs,tt,e2,_⟩:=v;rw [e1] at hb;exact .cells (c:=cs) (t:=tt) (z:=(0,0)) (by rw [show b=p'.blk from hb];exact e2)
 have C:(S.h.set k none).length=S.h.length:=by simp
 have O:BP (MS N S.h ρ) w ρ (MS N (S.h.set k none++[some ob']) (ρ++[p'])) w' (ρ++[p']):=by
  refine ⟨λb hb hm _=>r.block b hb λd=>hm (.inr ⟨k,ob,p,hk,g,d⟩),λb hb=>?_,λi q hi=>Em hi⟩;rcases hb with hb | hb
  ·exact .inl (.inl hb)
  ·obtain ⟨i1,o1,p1,f,s,D⟩:=hb;rcases EO f with ⟨m,f⟩ | ⟨m,_⟩
   ·rcases EO s with ⟨_,s⟩ | ⟨j,_⟩
    ·exact .inl (.inr ⟨i1,o1,p1,(La f).2,s,D⟩)
    ·rw [C] at m;rw [R.hr.len] at j;omega
   ·rcases EO s with ⟨j,_⟩ | ⟨_,rfl⟩
    ·rw [C] at m;rw [R.hr.len] at j;omega
    ·exact (u b D).imp (λd=>.inr ⟨k,ob,p,hk,g,d⟩) id
 obtain ⟨f,s⟩:=R.hr.regrow (o':=ob') hk g r (λb hb=>⟨u b hb,B b hb⟩) (Q _ _ _ _ O v);refine ⟨⟨ρ++[p'],f,⟨p',Z,by rw [←R.hr.len];simp,by simp,h2,by unfold LB;unfold Ay at hb;omega,by simpa using h3⟩,s,λ_ _ h=>Em h⟩,λh=>by cases h⟩
def lv (R:AS P Γ N S ρ a w)(q:P.underlying t=some (.slice e))(hi:P.info? e=some i)(l:i.zero=some z)(C:z.cells.size=i.size)(T:i.bytes<=128) 
   {b:Value}  (hy:Src P i.size t b c A w) (m:0<c) (f:c<=Ay)
 (n: ∀ M ρ' w' p',BP (MS N S.h ρ) w ρ M w' ρ' -> AX w' p' (c*i.size) (λj u=>A[j]? =some u) -> EE P M w' ρ' p' ob') (ext:Bool)
 (o:Oper)   (p:o.op= .call L) (r:L.callee= .builtin .append) (D:L.args.toList= [x,y]) (s:L.argTypes.toList= [t,t]) (v:a.eval x= .slice none 0 0) (B:a.eval y=b):
 BO P (execOp a.eval o) w (CC P Γ N S.h ρ w ext (.msl S.h.length i.size 0 c) (S.h++[some ob'])):=by
 obtain ⟨w',g,E,k,cs,rfl,h4,h5⟩:=lu none (ty:=o.type) q hi l C T hy m f;have OB:A.length=c*i.size:=hy.newsLen;refine BO.value (OT p r D s) (by rw [v,B];exact E) ?_;have Bg:c*i.size<=g*i.size:=zJB _ k;refine TD (d:=.msl S.h.length i.size 0 c) R.hr ⟨A0.toDrew w,rfl⟩ (λM ρ' O=>n _ _ _ _ O ?_) (λM ρ' F=>⟨_,g,F,by simp [E1],k,by unfold LB;unfold Ay at f;omega,by simp only [E1];omega⟩) ext;refine PG rfl (by omega) λj hj=>?_
 grind
variable {s:Nat}{p':AI}{ρ':List AI}{w':World}{M:Ψ}
def iR {xs:Ξ}(k:s=1)(h:AX w' p' ((xs.length+ys.length)*s) (JY (xs.length*s) (λj u=>u= .int .i64 (xs.getD j 0)) (ys.map (Value.int .i64)))):EE P M w' ρ' p' (.ints (xs++ys)):=by
 subst k
 show AX _ _ (xs++ys).length _
 rw [zGi];rw [zIb,zIb] at h;refine AX.out h rfl λj u hj hu=>?_
 grind [JY]
def zLg {xs ys:Ω}(k:s=1)(h:AX w' p' ((xs.length+ys.length)*s) (JY (xs.length*s) (λj u=>u= .bool (xs.getD j false)) (ys.map Value.bool))):EE P M w' ρ' p' (.bools (xs++ys)):=by
 subst k
 show AX _ _ (xs++ys).length _
 rw [zGi];rw [zIb,zIb] at h;refine AX.out h rfl λj u hj hu=>?_
 grind [JY]
def ue (R:AS P Γ N S ρ a w)(F:P.underlying t=some (.slice e)){y:DV}(hy:AL (MS N S.h ρ) w y ρ v)(r:0<m){g:Nat -> Nat -> DV}{s:Prop}(h:Qc S m y=some (c,g,s))(G:s) 
 (h1: ∀ i j,i<c -> j<m -> J3 (g i j)=true): ∃ A,Src P m t v c A w/\ ∀ j u,A[j]? =some u -> AL (MS N S.h ρ) w (g (j/m) (j % m)) [] u:=by
 have C: ∀ {j:Nat},j<c*m -> j/m<c/\ j % m<m/\ j/m*m+j % m=j:=λ{j} d=>⟨by rw [zMh r];exact d,Nat.mod_lt _ r,by rw [zJI];exact Nat.div_add_mod j m⟩
 have D: ∀ (l:Option Addr) (cap:Nat),(∀ j,j<c*m -> ∃ b o u,l=some ⟨b,o,none⟩/\ w.cell? ⟨b,o+j,none⟩=some u/\ AL (MS N S.h ρ) w (g (j/m) (j % m)) [] u) -> v= .slice l c cap -> (l=none -> c=0) ->
  ∃ A,Src P m t v c A w/\ ∀ j u,A[j]? =some u -> AL (MS N S.h ρ) w (g (j/m) (j % m)) [] u:=by
  intro l cap hc E H
  obtain ⟨f,hf⟩: ∃ f:Nat -> Value,∀ j,j<c*m -> ∃ b o,l=some ⟨b,o,none⟩/\ w.cell? ⟨b,o+j,none⟩=some (f j)/\ AL (MS N S.h ρ) w (g (j/m) (j % m)) [] (f j):=by
   refine ⟨λj=>(match l with | some a=>w.cell? ⟨a.block,a.off+j,none⟩ | none=>none).getD undef,λj d=>?_⟩
   grind
  have val: ∀ {j:Nat} {u:Value},((List.range (c*m)).map f)[j]? =some u -> j<c*m/\ u=f j:=λ{j u} d=>by
   grind
  refine ⟨(List.range (c*m)).map f,?_,λj u d=>?_⟩
  ·rw [E];refine UV F (by simp) (λj u d=>?_) (λu I=>?_) r H
   ·grind
   ·obtain ⟨j,d,rfl⟩:=zIS.1 I
    grind [Zx]
  grind
 unfold Qc at h;split at h
 ·cases h;refine D none 0 (λj d=>by rw [Nat.zero_mul] at d;omega) hy (λ_=>rfl)
 ·rename_i Z n f;split at h
  ·rename_i q;cases h;have U:Z=m:=by simpa using q
   subst U;obtain ⟨l,cap,rfl,J,K,x⟩:=hy;refine D l cap (λj d=>?_) rfl (λe=>?_)
   ·obtain ⟨b,o,u,B,_,z,Q⟩:=x _ _ (C d).1 (C d).2.1;exact ⟨b,o,u,B,by rw [(C d).2.2] at z;exact z,Q⟩
   ·rcases zMv c with h0 | h0
    ·exact h0
    grind
  ·cases h
 ·rename_i k Z off n;obtain ⟨p,cap,L,rfl,J,K,x⟩:=hy;split at h
  ·rename_i M n2 f hk;split at h
   ·rename_i q;cases h;simp only [zFW,zGo] at q;obtain ⟨rfl,rfl⟩:=q;obtain ⟨p',O,T⟩:=R.hr.obj k _ hk;have e:p'=p:=zGT (O.symm.trans L);subst e;obtain ⟨rfl,rfl⟩:=G;refine D (some ⟨p'.blk,p'.off+0*M,none⟩) cap (λj d=>?_) rfl (λe=>by cases e);obtain ⟨u,B,z⟩:=AX.cell T d
    grind
   ·cases h
  ·cases h
 ·cases h
def wm (R:AS P Γ N S ρ a w){d:DV}{h':DH}{vc:Prop}(r:To P S t (AZ S.fr x) (AZ S.fr y)=some (d,h',vc))(l:vc)(o:Oper){Z:Call}(D:o.op= .call Z)(F:Z.callee= .builtin .append) 
 (G:Z.args.toList= [x,y]) (H:Z.argTypes.toList= [t,t]):BO P (execOp a.eval o) w (CC P Γ N S.h ρ w false d h'):=by
 have rx:=BV R x;have ry:=BV R y;unfold To at r;split at r
 ·rename_i kk e i z hk;obtain ⟨s,hi,I,h0,J,Fc,hq1,LR⟩:=Wy hk;clear hq1 LR;split at r
  ·cases r
  ·rename_i Eb;have K:i.bytes<=128:=by omega
   split at r
   ·have q:i.size=1:=Fc.symm;split at r
    ·rename_i ys vy hy;split at r
     ·rename_i T;cases r;rw [T] at rx
      have:=lv (ob':=.ints ys) R s hi I J K (by rw [q];exact Vy R s ry hy l.1) l.2.1 l.2.2 (λM ρ' w' p' O b=>by
       have Q:=b;rw [q,zIb] at Q;refine AX.out Q rfl λj u hj v=>?_
       grind) false o D F G H rx rfl
      rw [q] at this;exact this
     ·rename_i k m off n T;rw [T] at rx;obtain ⟨p,cap,A,U,V,g2,W⟩:=rx;split at r
      ·rename_i xs B;split at r
       ·rename_i L;cases r;have DT:m=1:=by simpa using L
        subst DT;obtain ⟨q1,⟨rfl,rfl⟩,X⟩:=l;obtain ⟨p',Y,b⟩:=R.hr.obj k _ B;have e:p'=p:=zGT (Y.symm.trans A);subst e
        have:=lr (ob':=.ints (xs++ys)) (n:=xs.length) (cap:=cap) (c:=ys.length) R s hi I h0 J K B A (Rw:=λj u=>u= .int .i64 (xs.getD j 0)) (by rw [q,zIb];exact b) V (by rw [q];simpa using W) (by grind [Vy]) X
         (λM ρ' w' p' O b=>iR q b) o D F G H (by simpa using U) rfl
        grind
       ·cases r
      ·cases r
     ·cases r
    ·cases r
   ·have q:i.size=1:=Fc.symm;split at r
    ·rename_i ys vy hy;split at r
     ·rename_i T;cases r;rw [T] at rx
      have:=lv (ob':=.bools ys) R s hi I J K (by rw [q];exact wL R s ry hy l.1) l.2.1 l.2.2 (λM ρ' w' p' O b=>by
       have Q:=b;rw [q,zIb] at Q;refine AX.out Q rfl λj u hj v=>?_
       grind) false o D F G H rx rfl
      rw [q] at this;exact this
     ·rename_i k m off n T;rw [T] at rx;obtain ⟨p,cap,A,U,V,g2,W⟩:=rx;split at r
      ·rename_i xs B;split at r
       ·rename_i L;cases r;have DT:m=1:=by simpa using L
        subst DT;obtain ⟨q1,⟨rfl,rfl⟩,X⟩:=l;obtain ⟨p',Y,b⟩:=R.hr.obj k _ B;have e:p'=p:=zGT (Y.symm.trans A);subst e
        have:=lr (ob':=.bools (xs++ys)) (n:=xs.length) (cap:=cap) (c:=ys.length) R s hi I h0 J K B A (Rw:=λj u=>u= .bool (xs.getD j false)) (by rw [q,zIb];exact b) V (by rw [q];simpa using W) (by grind [wL]) X
         (λM ρ' w' p' O b=>zLg q b) o D F G H (by simpa using U) rfl
        grind
       ·cases r
      ·cases r
     ·cases r
    ·cases r
   ·rename_i m;have C:i.size=m:=Fc.symm;have AB:0<m:=by omega
    split at r
    ·rename_i c g vy hy;split at r
     ·rename_i T;cases r;rw [T] at rx;obtain ⟨CR,i8,jV⟩:=ue R s ry AB hy l.1.1 l.1.2
      have:=lv (ob':=.arr m c g) R s hi I J K (by rw [C];exact i8) l.2.1 l.2.2 (λM ρ' w' p' O b=>by
       rw [C] at b;exact AX.out b rfl λj u hj v=>AL.out _ O.nil (jV j u v)) false o D F G H rx rfl
      rw [C] at this;exact this
     ·rename_i k m' off n T;rw [T] at rx;obtain ⟨p,cap,A,U,V,g2,W⟩:=rx;split at r
      ·rename_i E n2 f B;split at r
       ·rename_i L;cases r;simp only [zFW,zGo] at L;obtain ⟨rfl,rfl⟩:=L;obtain ⟨q1,⟨rfl,rfl⟩,X⟩:=l;obtain ⟨p',Y,b⟩:=R.hr.obj k _ B;have e:p'=p:=zGT (Y.symm.trans A);subst e;obtain ⟨CR,i8,jV⟩:=ue R s ry AB hy q1.1 q1.2
        have:=lr (ob':=.arr E (n+c) (λi j=>if i<n then f i j else g (i-n) j)) (n:=n) (cap:=cap) (c:=c) R s hi I h0 J K B A (Rw:=λj u=>AL (MS N S.h ρ) w (f (j/E) (j % E)) [] u) (by rw [C];exact b) V (by rw [C];simpa using W) (by rw [C];exact i8) X
         (λM ρ' w' p' O b=>by
          rw [C] at b;refine AX.out b rfl λj u hj v=>?_
          show AL M w' (if j/E<n then f (j/E) (j % E) else g (j/E-n) (j % E)) [] u
          unfold JY at v
          by_cases AU:j<n*E
          ·rw [zEd AU] at v;rw [zEd (by rw [zMh AB];exact AU)];exact AL.out _ O.nil v
          ·rw [zGW AU] at v;rw [zGW (by rw [zMh AB];exact AU)];have h1:=jV _ _ v;have e1:(j-n*E)/E=j/E-n:=by rw [zJI n E];exact Nat.sub_mul_div ..
           have e2:(j-n*E) % E=j % E:=by
            have WN:j=(j-n*E)+n*E:=by omega
            rw [WN,Nat.add_mul_mod_self_right,Nat.add_sub_cancel]
           rw [e1,e2] at h1;exact AL.out _ O.nil h1) o D F G H (by simpa using U) rfl
        grind
       ·cases r
      ·cases r
     ·cases r
    ·cases r
 ·cases r
end
abbrev zGX:=@List.mem_range
abbrev zIF:=@Bool.not_true
abbrev zIO:=@Option.map_some
abbrev zIi:=@Nat.le_of_ble_eq_true
abbrev zI9:=@Bool.true_and
abbrev zL1:=@List.map_cons
abbrev zM4:=@List.all_cons
abbrev zNR:=@Go.run_equalIn_int
abbrev zNj:=@Option.getD_some
def bz (a:Nat -> Option (Nat×Nat))(cells:List DV):List (Nat×DV) -> Option (List DV)
 | []=>some cells
 | (i,d)::rest=>match a i with
  | none=>none
  | some (off,s)=>match KV d with
   | none=>none
   | some l=>if l.length=s/\ off+l.length<=cells.length then bz a (O5 cells off l) rest else none
def f6 (P:Program)(t:TypeId):Option (Value×(Nat -> Option (Nat×Nat))):=match P.info? t with
 | some w=>match P.underlying t with
  | some (.array _ e)=>match w.zero with
   | some z=>match P.info? e with
    | some a=>some (z,λi=>some (i*a.size,a.size))
    | none=>none
   | none=>none
  | some (.struct I)=>match w.zero with
   | some z=>match I.toList.mapM (λf=>(P.info? f.type).map λi=>(f.offset,i.size)) with
    | some K=>some (z,λi=>K.toArray[i]?)
    | none=>none
   | none=>none
  | _=>none
 | none=>none
def aH (P:Program)(S:St)(t:TypeId)(parts:List (Nat×Operand)):Option (DV×Prop):=match f6 P t with
 | some (z,a)=>match bz a (z.cells.toList.map Nj) (parts.map λx=>(x.1,AZ S.fr x.2)) with
  | some l=>some (.agg l.length (λj=>l.getD j .any),True)
  | none=>none
 | none=>none
def L9 (P:Program)(t:TypeId)(m:Nat)(f:Nat -> DV)(off s:Nat):Option DV:= if off+s<=m then (if GX P t then (if s=1 then some (f off) else none) else if Xc P t s then some (.agg s (HL s λj=>f (off+j))) else none) else none
def iO (P:Program)(t:TypeId)(x:DV)(n:Int):Option (DV×Prop):=match x with
 | .agg m f=>match P.underlying t with
  | some (.array len e)=>match P.info? e with
   | some i=>if GX P e&&i.size==1&&len==m then some (f n.toNat,0<=n/\ n<len) else none
   | none=>none
  | _=>none
 | _=>none
def br (P:Program)(t:TypeId)(x:DV)(c:Nat):Option (DV×Prop):=match x with
 | .agg m f=>match P.underlying t with
  | some (.struct n)=>match n[c]? with
   | some w=>match P.info? w.type with
    | some i=>match L9 P w.type m f w.offset i.size with
     | some d=>some (d,True)
     | none=>none
    | none=>none
   | none=>none
  | _=>none
 | _=>none
def k7 (P:Program)(t:TypeId)(x:DV)(lo hi:Option Int):Option (DV×Prop):=match P.underlying t with
 | some (.slice e)=>match P.info? e with
  | some i=>match x with
   | .ints l=>if i.size=1 then some (.ints ((l.take (hi.getD l.length).toNat).drop (lo.getD 0).toNat),0<=lo.getD 0/\ lo.getD 0<=hi.getD l.length/\ hi.getD l.length<=l.length) else none
   | .bools l=>if i.size=1 then some (.bools ((l.take (hi.getD l.length).toNat).drop (lo.getD 0).toNat),0<=lo.getD 0/\ lo.getD 0<=hi.getD l.length/\ hi.getD l.length<=l.length) else none
   | .sl m n f=>if i.size=m then some (.sl m ((hi.getD n).toNat-(lo.getD 0).toNat) (λi j=>f ((lo.getD 0).toNat+i) j),0<=lo.getD 0/\ lo.getD 0<=hi.getD n/\ hi.getD n<=n) else none
   | .msl k m off n=>if i.size=m then some (.mse k m (off+(lo.getD 0).toNat) ((hi.getD n).toNat-(lo.getD 0).toNat),0<=lo.getD 0/\ lo.getD 0<=hi.getD n/\ hi.getD n<=n) else none
   | _=>none
  | none=>none
 | _=>none
def aU (S:St):Option Operand -> Option (Option Int)
 | none=>some none
 | some x=>match AZ S.fr x with
  | .int _ n=>some (some n)
  | _=>none
def OU (f g:Nat -> DV):Θ -> Bool
 | []=>true
 | i::R=>(Hy (f i)==Hy (g i))&&OU f g R
def kZ (P:Program)(m:Nat)(f g:Nat -> DV)(w:Field):Bool:=w.name != "_" &&((match P.info? w.type with | some i=>i.size==1 | none=>false)&&(GX P w.type&&((match P.underlying w.type with | some (.int _)=>true | _=>false)&&(Nat.blt w.offset m&&(JC (f w.offset)&&JC (g w.offset))))))
def cC (P:Program)(t:TypeId)(f g:Nat -> DV)(m Z:Nat):Option Θ:=match P.underlying t with
 | some (.struct a)=>if P.stoodInHeld t==false&&(P.eqGuardType P.depth t==false&&(m==Z&&a.toList.all (kZ P m f g))) then some (a.toList.map (·.offset)) else none
 | some (.array n e)=>match P.info? e with
  | some i=>match P.underlying e with
   | some (.int _)=>if i.size==1&&GX P e&&P.eqGuardType P.depth t==false&&n==m&&n==Z&&(List.range n).all (λi=>JC (f i)&&JC (g i)) then some (List.range n) else none
   | _=>none
  | none=>none
 | _=>none
def Wv (P:Program)(S:BinOp)(t:TypeId)(x y:DV):Option (DV×Prop):=match S,x,y with
 | .eql,.agg m f,.agg Z g=>match cC P t f g m Z with
  | some R=>some (.bool (OU f g R),True)
  | none=>none
 | .neq,.agg m f,.agg Z g=>match cC P t f g m Z with
  | some R=>some (.bool (!(OU f g R)),True)
  | none=>none
 | _,_,_=>none
def cX (P:Program)(t:TypeId):Bool:=match P.underlying t with
 | some (.interface _)=>false
 | some _=>true
 | none=>false
def ll (P:Program)(b:TypeId)(ok:Bool):DV -> Option DV
 | .cst (.iface t (.int k n))=>if t=b&&cX P b then some (if ok then .tup 2 (λj=>[DV.int k n,.bool true].getD j .any) else .int k n) else none
 | .cst .nilIface=>if ok&&cX P b then match P.info? b with
  | some i=>match i.zero with
   | some (.int k n)=>some (.tup 2 (λj=>[DV.int k n,.bool false].getD j .any))
   | _=>none
  | none=>none
  else none
 | _=>none
def zL3 {P:Program}{M:Ψ}{w:World}{ρ:List AI}{xt c:TypeId}{ok:Bool}{d d':DV}{v:Value}(f:AL M w d ρ v)(h:ll P c ok d=some d'): ∃ u,(∀ W,(Instr.typeAssert v xt c ok).run P W= .ok u W)/\ AL M w d' ρ u:=by
 have a: ∀ (k:IntKind) (n:Int) (b:Bool),AL M w (.tup 2 (λj=>[DV.int k n,.bool b].getD j .any)) ρ (.tuple #[.int k n,.bool b]):=λk n b=>⟨_,rfl,rfl,λj e=>match j,e with
  | 0,_=>⟨_,rfl,rfl⟩
  | 1,_=>⟨_,rfl,rfl⟩
  | j+2,e=>absurd e (by omega)⟩
 unfold ll at h;split at h
 ·rename_i t k n;split at h
  ·rename_i l;simp only [zFW,zH6] at l;obtain ⟨rfl,l⟩:=l;obtain ⟨rfl,_⟩:=f;unfold cX at l;cases h;cases ok
   ·refine ⟨.int k n,λW=>?_,rfl⟩;split at l <;> first | (cases l;done) | skip
    simp_all [Instr.typeAssert,zG1]
   ·refine ⟨.tuple #[.int k n,.bool true],λW=>?_,a k n true⟩;split at l <;> first | (cases l;done) | skip
    simp_all [Instr.typeAssert,zG1]
  ·cases h
 ·split at h
  ·rename_i l;simp only [zFW] at l;obtain ⟨rfl,l⟩:=l;obtain ⟨rfl,_⟩:=f;unfold cX at l;split at h
   ·rename_i i hi;split at h
    ·rename_i k n hz;cases h;refine ⟨.tuple #[.int k n,.bool false],λW=>?_,a k n false⟩;split at l <;> first | (cases l;done) | skip
     simp_all [Instr.typeAssert,zG1,zeroValue,typeInfo]
    ·cases h
   ·cases h
  ·cases h
 ·cases h
def VY (P:Program)(S:St):Op -> Option (DV×Prop)
 | .typeAssert x _ b ok=>match ll P b ok (AZ S.fr x) with
  | some d=>some (d,True)
  | none=>none
 | .build t parts=>aH P S t parts.toList
 | .index t x i=>match AZ S.fr i with
  | .int _ n=>iO P t (AZ S.fr x) n
  | _=>none
 | .field t x f=>br P t (AZ S.fr x) f
 | .slice t x lo hi none=>match aU S lo with
  | some l=>match aU S hi with
   | some h=>k7 P t (AZ S.fr x) l h
   | none=>none
  | none=>none
 | .binOp op t x y O=>match Wv P op t (AZ S.fr x) (AZ S.fr y) with
  | some r=>some r
  | none=>pop P S (.binOp op t x y O)
 | op=>pop P S op
section
variable {P:Program} {Γ:Av} {N:Ψ} {S:St} {ρ:List AI} {a:Act} {w:World}
def dN (M:Ψ)(w:World)(ρ:List AI)(l:List DV)(cs:Array Value):Prop:=cs.size=l.length/\ ∀ j,j<l.length -> ∃ u,cs[j]? =some u/\ AL M w (l.getD j .any) ρ u
def wf: ∀ (vs:List Value) (k off:Nat) (cs:Array Value),((vs.zipIdx k).foldl (λ(cs:Array Value) (x:Value×Nat)=>cs.setIfInBounds (off+x.2) x.1) cs).size=cs.size/\
 ∀ j,((vs.zipIdx k).foldl (λ(cs:Array Value) (x:Value×Nat)=>cs.setIfInBounds (off+x.2) x.1) cs)[j]? =if off+k<=j/\ j<off+k+vs.length/\ j<cs.size then vs[j-(off+k)]? else cs[j]?
 | [],k,off,cs=>⟨rfl,λj=>by
  rw [zGW]
  ·rfl
  ·simp only [zM1];omega⟩
 | v::vs,k,off,cs=>by
  obtain ⟨h1,h2⟩:=wf vs (k+1) off (cs.setIfInBounds (off+k) v);rw [List.zipIdx_cons,zI2]
  grind
variable {M:Ψ}
def uy {g:Nat -> Option (Nat×Nat)}: ∀ (parts:List (Nat×Operand)) (l:List DV) (cs:Array Value) (r:List DV),dN M w ρ l cs -> (∀ x,AL M w (AZ S.fr x) ρ (a.eval x)) ->
 bz g l (parts.map λx=>(x.1,AZ S.fr x.2))=some r -> ∃ k,Instr.fill g cs (parts.map λx=>(x.1,a.eval x.2))=some k/\ dN M w ρ r k
 | [],l,cs,r,b,_,h=>by cases h;exact ⟨cs,rfl,b⟩
 | (i,x)::rest,l,cs,r,b,m,h=>by
  simp only [zL1,bz] at h;split at h
  ·cases h
  ·rename_i off s FJ;split at h
   ·cases h
   ·rename_i ds C;split at h
    ·rename_i n;obtain ⟨d,c2⟩:=XB C (m x);have Aj:(a.eval x).cells.size=s:=by rw [d,n.1]
     have tv: ¬ (off+(a.eval x).cells.size>cs.size):=by rw [d,b.1];omega
     obtain ⟨o,D⟩:=wf (a.eval x).cells.toList 0 off cs
     have y:dN M w ρ (O5 l off ds) ((a.eval x).cells.zipIdx.foldl (λcs (c,j)=>cs.setIfInBounds (off+j) c) cs):=by
      have K:((a.eval x).cells.zipIdx.foldl (λcs (c,j)=>cs.setIfInBounds (off+j) c) cs)=(((a.eval x).cells.toList.zipIdx 0).foldl (λ(cs:Array Value) (x:Value×Nat)=>cs.setIfInBounds (off+x.2) x.1) cs):=by
       rw [←Array.foldl_toList];simp
      rw [K];refine ⟨by rw [o,d9,b.1],λj f=>?_⟩;rw [d9] at f;rw [D j,eB l off ds f]
      by_cases e:off<=j/\ j<off+ds.length
      ·grind
      ·rw [zGW (by simp;rw [d];omega),zGW e];exact b.2 j f
     obtain ⟨k,g1,g2⟩:=uy rest _ _ r y m h
     simp_all [Instr.fill]
    ·cases h
variable {t:TypeId}
def zDg {z:Value}{a:Nat -> Option (Nat×Nat)}(h:f6 P t=some (z,a))(parts:List (Nat×Value)):P.built t parts=Instr.fill a z.cells parts:=by
 grind [f6,Program.built]
variable {O:Prop}{d:DV}
def zFK (R:AS P Γ N S ρ a w){parts:Array (Nat×Operand)}(h:aH P S t parts.toList=some (d,O)):Yl P N w (MS N S.h ρ) ρ (Instr.build t (parts.map λ(i,x)=>(i,a.eval x))) d:=by
 unfold aH at h;split at h
 ·rename_i z J2 g;split at h
  ·rename_i l m;cases h
   have h0:dN (MS N S.h ρ) w ρ (z.cells.toList.map Nj) z.cells:=⟨by simp,λj hj=>by
    grind [Zz]⟩
   obtain ⟨k,g1,s,b⟩:=uy parts.toList _ _ _ h0 (BV R) m;refine Yl.pure (v:=.agg k) (λW=>run_build W t _ k ?_) ⟨k,rfl,s,b⟩;rw [zDg g]
   simp_all
  ·cases h
 ·cases h
variable {i:TypeInfo}{f:Nat -> DV}{m:Nat}
def Yw {cs:Array Value}{off s:Nat}(hi:P.info? t=some i)(BJ:i.size=s)(EM:cs.size=m)(b: ∀ j,j<m -> ∃ u,cs[j]? =some u/\ AL M w (f j) ρ u)(h:L9 P t m f off s=some d):Yl P N w M ρ (part t cs off) d:=by
 unfold L9 at h;split at h
 ·rename_i Bg;split at h
  ·rename_i a;split at h
   ·rename_i hs;cases h;obtain ⟨u,o,c⟩:=b off (by omega);unfold GX at a;simp only [zFW,zNP,zG0] at a;obtain ⟨⟨B,r⟩,hn⟩:=a
    simp_all [Yl.pure,part,U1]
   ·cases h
  ·split at h
   ·rename_i e;cases h;obtain ⟨g,k,G,tG⟩:=mG e;have x:k=i:=zGT (G.symm.trans hi);subst x;obtain ⟨B,r⟩:=si g;refine Yl.pure (v:=.agg (cs.extract off (off+s))) (λW=>?_) ⟨_,rfl,by simp;omega,λj l=>?_⟩
    ·simp_all [part,U1,Kt]
    ·obtain ⟨u,o,c⟩:=b (off+j) (by omega);refine ⟨u,?_,It l c⟩
     grind
   ·cases h
 ·cases h
variable {n:Int}{k:IntKind}{v:Value}
def zFs (R:AS P Γ N S ρ a w){x:DV}(c:AL (MS N S.h ρ) w x ρ v)(h:iO P t x n=some (d,O))(p:O):Yl P N w (MS N S.h ρ) ρ (Instr.index t v (.int k n)) d:=by
 unfold iO at h;split at h
 ·rename_i m f;obtain ⟨cs,rfl,g,j⟩:=c;split at h
  ·rename_i len e q;split at h
   ·rename_i i hi;split at h
    ·rename_i l;cases h;simp only [zFW,zGo] at l;obtain ⟨⟨h1,b⟩,rfl⟩:=l
     have o:L9 P e len f n.toNat 1=some (f n.toNat):=by
      unfold L9
      grind
     obtain ⟨u,r,s⟩:=Yw (P:=P) hi b g j o;refine ⟨u,λW F=>?_,s⟩;unfold Instr.index;simp only [asIntOf,zG3,Sem.run_pure,Result.andThen,zG1 q];rw [zEd ⟨p.1,p.2⟩];simp only [zG3,Kt hi,Result.andThen,b,zIb];exact r W F
    ·cases h
   ·cases h
  ·cases h
 ·cases h
def zJh (R:AS P Γ N S ρ a w){x:DV}{c:Nat}(b:AL (MS N S.h ρ) w x ρ v)(h:br P t x c=some (d,O)):Yl P N w (MS N S.h ρ) ρ (Instr.field t v c) d:=by
 unfold br at h;split at h
 ·rename_i m f;obtain ⟨cs,rfl,k,e⟩:=b;split at h
  ·rename_i fs q;split at h
   ·rename_i fd M;split at h
    ·rename_i i hi;split at h
     ·rename_i d' g;cases h;obtain ⟨u,o,s⟩:=Yw (P:=P) hi rfl k e g;refine ⟨u,λW F=>?_,s⟩;unfold Instr.field;simp only [zG3,zG1 q,Result.andThen,M,asAgg,Sem.run_pure];exact o W F
     ·cases h
    ·cases h
   ·cases h
  ·cases h
 ·cases h
def zB6 {y:Nat}{c:BoundsCode}(h0:0<=n)(h1:n<=y)(W:World):(Instr.sliceBound (.int k n) y c).run P W= .ok n.toNat W:=by
 simp_all [Instr.sliceBound,asIntOf]
def sk (R:AS P Γ N S ρ a w){o:Option Operand}{l:Option Int}(h:aU S o=some l): ∃ k,o.map a.eval=l.map (Value.int k):=by
 cases o with
 | none=>cases h;exact ⟨.i64,rfl⟩
 | some x=>
  simp only [aU] at h;split at h
  ·rename_i k n e;cases h;have:=BV R x;rw [e] at this;exact ⟨k,by simp only [zIO];rw [show a.eval x=_ from this]⟩
  ·cases h
variable {lo hi:Option Int}{e:TypeId}
def Yy {j:Option Addr}{len cap:Nat}{L M:IntKind}(hu:P.underlying t=some (.slice e))(Bp:P.info? e=some i)(h0:0<=lo.getD 0)(h1:lo.getD 0<=hi.getD len)(h2:hi.getD len<=len)(h3:len<=cap)(W:World):
 (Instr.sliceAt t (.slice j len cap) (lo.map (Value.int L)) (hi.map (Value.int M)) none).run P W=
  .ok (.slice (if cap=(lo.getD 0).toNat then j else j.map (·.add ((lo.getD 0).toNat*i.size))) ((hi.getD len).toNat-(lo.getD 0).toNat) (cap-(lo.getD 0).toNat)) W:=by
 have hb:(Instr.sliceBounds true len cap (lo.map (Value.int L)) (hi.map (Value.int M)) none).run P W= .ok ((lo.getD 0).toNat,(hi.getD len).toNat,cap) W:=by
  cases lo <;> cases hi <;> simp only [Option.map_none,zIO,Option.getD_none,zNj] at* <;>
   simp (disch:=omega) [Instr.sliceBounds,zB6,zG3,Result.andThen]
 simp_all [Instr.sliceAt,zG1,Instr.slice,Kt]
def zKj (R:AS P Γ N S ρ a w){x:DV}{J M:IntKind}(B:AL (MS N S.h ρ) w x ρ v)(h:k7 P t x lo hi=some (d,O))(C:O):
 Yl P N w (MS N S.h ρ) ρ (Instr.sliceAt t v (lo.map (Value.int J)) (hi.map (Value.int M)) none) d:=by
 unfold k7 at h;split at h
 ·rename_i e D;split at h
  ·rename_i i G
   have gd: ∀ {α:Type} (l:List α) (q c j:Nat) (d:α),j<((l.take c).drop q).length -> ((l.take c).drop q).getD j d=l.getD (q+j) d:=λl q c j d s=>by
    grind
   split at h
   ·rename_i l;split at h
    ·rename_i g;cases h;obtain ⟨H,cap,rfl,r,E,y⟩:=B;obtain ⟨K,L,v3⟩:=C;have z:((l.take (hi.getD l.length).toNat).drop (lo.getD 0).toNat).length=(hi.getD l.length).toNat-(lo.getD 0).toNat:=by simp;omega
     refine Yl.pure (λW=>Yy D G K L v3 r W) ⟨_,_,by rw [z],by omega,by omega,λj s=>?_⟩;have F:=s;rw [z] at F;obtain ⟨b,o,rfl,A,I⟩:=y ((lo.getD 0).toNat+j) (by omega);refine ⟨b,o+(lo.getD 0).toNat,?_,A,?_⟩
     ·rw [zGW (by omega)];simp only [zIO,Kb,g,zIb]
     grind
    ·cases h
   ·rename_i l;split at h
    ·rename_i g;cases h;obtain ⟨H,cap,rfl,r,E,y⟩:=B;obtain ⟨K,L,v3⟩:=C;have z:((l.take (hi.getD l.length).toNat).drop (lo.getD 0).toNat).length=(hi.getD l.length).toNat-(lo.getD 0).toNat:=by simp;omega
     refine Yl.pure (λW=>Yy D G K L v3 r W) ⟨_,_,by rw [z],by omega,by omega,λj s=>?_⟩;have F:=s;rw [z] at F;obtain ⟨b,o,rfl,A,I⟩:=y ((lo.getD 0).toNat+j) (by omega);refine ⟨b,o+(lo.getD 0).toNat,?_,A,?_⟩
     ·rw [zGW (by omega)];simp only [zIO,Kb,g,zIb]
     grind
    ·cases h
   ·rename_i m n f;split at h
    ·rename_i g;cases h;obtain ⟨H,cap,rfl,r,E,y⟩:=B;obtain ⟨K,L,v3⟩:=C;refine Yl.pure (λW=>Yy D G K L v3 r W) ⟨_,_,rfl,by omega,by omega,λY j KC s=>?_⟩;obtain ⟨b,o,u,rfl,A,I,Q⟩:=y ((lo.getD 0).toNat+Y) j (by omega) s;refine ⟨b,o+(lo.getD 0).toNat*m,u,?_,A,?_,Q⟩
     ·rw [zGW (by omega)];simp only [zIO,Kb,g]
     grind
    ·cases h
   ·rename_i k m off n;split at h
    ·rename_i g;cases h;obtain ⟨p,cap,T,rfl,r,E,y⟩:=B;obtain ⟨K,L,v3⟩:=C;have Bg:(lo.getD 0).toNat<=cap:=by omega
     refine Yl.pure (λW=>Yy D G K L v3 r W) ⟨p,_,cap-(lo.getD 0).toNat,T,rfl,by omega,by omega,λhc=>⟨?_,?_⟩⟩
     ·rw [zGW (by omega)];simp only [zIO,Kb,g,zMl,zMo]
     ·have:cap*m=(lo.getD 0).toNat*m+(cap-(lo.getD 0).toNat)*m:=by rw [←zMl];congr 1;omega
      rw [zMl];omega
    ·cases h
   ·cases h
  ·cases h
 ·cases h
variable {g:Nat -> DV}{xs ys:Array Value}
def pg {c:IntKind}{n d:Nat}(hi:P.info? e=some i)(k:i.size=1)(m:GX P e=true)(hk:P.underlying e=some (.int c))(h:xs.size=n)(hy:ys.size=n) 
 (rx: ∀ j,j<n -> ∃ u,xs[j]? =some u/\ AL M w (f j) ρ u) (z: ∀ j,j<n -> ∃ u,ys[j]? =some u/\ AL M w (g j) ρ u) (b: ∀ j,j<n -> JC (f j)=true/\ JC (g j)=true):
 ∀ (R:Θ),(∀ j∈R,j<n) -> ∀ W,Keep N w W -> (Op.eqItems (d+1) e 1 xs ys R).run P W= .ok (OU f g R) W
 | [],_,W,_=>rfl
 | j::R,l,W,F=>by
  have a:j<n:=l j (by simp)
  have v: ∀ {cs:Array Value} {f:Nat -> DV},cs.size=n -> (∀ j,j<n -> ∃ u,cs[j]? =some u/\ AL M w (f j) ρ u) -> JC (f j)=true -> (part e cs (j*1)).run P W= .ok (.int .i64 (Hy (f j))) W:=by
   intro cs f o p q
   have r:L9 P e n f (j*1) 1=some (f j):=by
    unfold L9
    grind
   obtain ⟨u,s,t⟩:=Yw (P:=P) hi k o p r;rw [s W F,aT q t]
  simp only [Op.eqItems,zG3,v h rx (b j a).1,v hy z (b j a).2,Result.andThen,zNR W d e .i64 c _ _ hk];unfold OU;cases hq:(Hy (f j)==Hy (g j)) with
  | false=>rfl
  | true=>
   simp only [zIF,zI1,zNA,zI9];exact pg hi k m hk h hy rx z b R (λj a=>l j (by simp [a])) W F
def ph {d:Nat}(e:xs.size=m)(hy:ys.size=m) 
 (rx: ∀ j,j<m -> ∃ u,xs[j]? =some u/\ AL M w (f j) ρ u) (z: ∀ j,j<m -> ∃ u,ys[j]? =some u/\ AL M w (g j) ρ u):
 ∀ (n:List Field),n.all (kZ P m f g)=true -> ∀ W,Keep N w W -> (Op.eqFields (d+1) xs ys n).run P W= .ok (OU f g (n.map (·.offset))) W
 | [],_,W,_=>rfl
 | fd::n,h,W,F=>by
  rw [zM4,zFW] at h;obtain ⟨h,a⟩:=h;unfold kZ at h;simp only [zFW] at h;obtain ⟨c,b,h3,A,k,l,o⟩:=h;have c:fd.name≠ "_" :=by simpa using c
  have k:fd.offset<m:=zIi k;split at b
  ·rename_i i hi;have b:i.size=1:=by simpa using b
   split at A
   ·rename_i p hk
    have v: ∀ {cs:Array Value} {f:Nat -> DV},cs.size=m -> (∀ j,j<m -> ∃ u,cs[j]? =some u/\ AL M w (f j) ρ u) -> JC (f fd.offset)=true -> (part fd.type cs fd.offset).run P W= .ok (.int .i64 (Hy (f fd.offset))) W:=by
     intro cs f q a r
     have s:L9 P fd.type m f fd.offset 1=some (f fd.offset):=by
      unfold L9
      grind
     obtain ⟨u,t,x⟩:=Yw (P:=P) hi b q a s;rw [t W F,aT r x]
    simp only [Op.eqFields,zEd c,zG3,v e rx l,v hy z o,Result.andThen,zNR W d fd.type .i64 p _ _ hk];rw [zL1];unfold OU;cases hq:(Hy (f fd.offset)==Hy (g fd.offset)) with
    | false=>rfl
    | true=>
     simp only [zIF,zI1,zNA,zI9];exact ph e hy rx z n a W F
   ·cases A
  ·cases b
def zKH {S:BinOp}{x y:DV}{a b:Value}(A B:Operand)(r:AL M w x ρ a)(hy:AL M w y ρ b)(h:Wv P S t x y=some (d,O)):
 Yl P N w M ρ (do eqGuard S t A B a b;binOp S t a b) d:=by
 have key: ∀ {m Z:Nat} {f g:Nat -> DV} {R:Θ} {xs ys:Array Value},cC P t f g m Z=some R -> xs.size=m -> ys.size=Z -> (∀ j,j<m -> ∃ u,xs[j]? =some u/\ AL M w (f j) ρ u) -> (∀ j,j<Z -> ∃ u,ys[j]? =some u/\ AL M w (g j) ρ u) ->
  P.eqGuardType P.depth t=false/\ ∀ W,Keep N w W -> (Op.equalIn 10000 t (.agg xs) (.agg ys)).run P W= .ok (OU f g R) W:=by
  intro m Z f g R xs ys c p X rx z;unfold cC at c;split at c
  ·rename_i s q;split at c
   ·rename_i l;cases c;simp only [zFW,zGo] at l;obtain ⟨k,v,o,V⟩:=l;subst o;have e:P.fieldsOf t=s:=by unfold Program.fieldsOf;rw [q]
    refine ⟨v,λW F=>?_⟩;rw [run_equalIn_struct W 9999 t xs ys (by rw [e];exact q) k,e];exact ph (d:=9998) p X rx z s.toList V W F
   ·cases c
  ·rename_i n e q;split at c
   ·rename_i i hi;split at c
    ·rename_i k' hk;split at c
     ·rename_i l;cases c;simp only [zFW,zGo,zGV,zGX] at l;obtain ⟨⟨⟨⟨⟨k,v⟩,o⟩,V⟩,C⟩,D⟩:=l;subst V;subst C;refine ⟨o,λW F=>?_⟩;have E:P.cellsOf e=1:=by grind [Program.cellsOf]
      rw [run_equalIn_array W 9999 xs ys q hi,E];exact pg (d:=9998) hi k v hk p X rx z D _ (λj G=>zGX.1 G) W F
     ·cases c
    ·cases c
   ·cases c
  ·cases c
 unfold Wv at h;split at h
 ·rename_i m f Z g;split at h
  ·rename_i R c;cases h;obtain ⟨xs,rfl,p,rx⟩:=r;obtain ⟨ys,rfl,X,z⟩:=hy;obtain ⟨H,Y⟩:=key c p X rx z;refine ⟨.bool _,λW F=>?_,rfl⟩
   grind [Sem.run_bind,run_eqGuard_agg,Result.andThen,run_eql_struct]
  ·cases h
 ·rename_i m f Z g;split at h
  ·rename_i R c;cases h;obtain ⟨xs,rfl,p,rx⟩:=r;obtain ⟨ys,rfl,X,z⟩:=hy;obtain ⟨H,Y⟩:=key c p X rx z;refine ⟨.bool _,λW F=>?_,rfl⟩
   grind [Sem.run_bind,run_eqGuard_agg,Result.andThen,run_neq_struct]
  ·cases h
 ·cases h
def zDd (R:AS P Γ N S ρ a w)(o:Oper)(h:VY P S o.op=some (d,O))(p:O):
 ∃ v,(∀ W,Keep N w W -> (execOp a.eval o).run P W= .ok (.value v) W)/\ AL (MS N S.h ρ) w d ρ v:=by
 unfold VY at h;split at h
 ·rename_i x xt c ok b;split at h
  ·rename_i d' g;cases h;obtain ⟨u,j,m⟩:=zL3 (xt:=xt) (BV R x) g;exact H5 (s:=Instr.typeAssert (a.eval x) xt c ok) (by unfold execOp;rw [b]) ⟨u,λW _=>j W,m⟩
  ·cases h
 ·rename_i t parts b;exact H5 (by unfold execOp;rw [b]) (zFK R h)
 ·rename_i t x i b;have hi:=BV R i;split at h
  ·rename_i k n e;rw [e] at hi;refine H5 (s:=Instr.index t (a.eval x) (a.eval i)) (by unfold execOp;rw [b]) ?_;rw [show a.eval i=_ from hi];exact zFs R (BV R x) h p
  ·cases h
 ·rename_i t x f b;exact H5 (s:=Instr.field t (a.eval x) f) (by unfold execOp;rw [b]) (zJh R (BV R x) h)
 ·rename_i t x lo hi b;split at h
  ·rename_i l q;split at h
   ·rename_i hh J;obtain ⟨k1,z⟩:=sk R q;obtain ⟨k2,A⟩:=sk R J;refine H5 (s:=Instr.sliceAt t (a.eval x) (lo.map a.eval) (hi.map a.eval) none) (by unfold execOp;rw [b];rfl) ?_;rw [z,A];exact zKj R (BV R x) h p
   ·cases h
  ·cases h
 ·rename_i op t x y t' b;split at h
  ·rename_i r B;cases h;exact H5 (by unfold execOp;rw [b]) (zKH x y (BV R x) (BV R y) B)
  grind [qq]
 ·exact qq R o h p
end
abbrev zIL:=@List.getElem?_map
abbrev zI5:=@List.getElem?_append_left
def Bq:List Prop -> Prop
 | []=>True
 | p::V=>p/\ Bq V
def DX {l l':List Prop}:Bq (l++l')↔Bq l/\ Bq l':=by
 induction l with
 | nil=>simp [Bq]
 | cons p ps V=>simp [Bq,V,and_assoc]
def AN (d d':DV):Prop:=∀ (M:Ψ) (w:World) (ρ:List AI) (v:Value),AL M w d ρ v -> AL M w d' ρ v
section
variable {P:Program} {Γ:Av} {N:Ψ}
variable {M:Ψ}{w:World}
def D4 {k:Ψ}(h: ∀ b,k b -> M b)(ρ:List AI):BP M w ρ k w ρ:=⟨λ_ _ _ _=>rfl,λb c=>.inl (h b c),λ_ _ h=>h⟩
def kU:DO -> Option (Nat×Nat×DV)
 | .ints l=>some (1,l.length,.ints l)
 | .bools l=>some (1,l.length,.bools l)
 | .arr m n f=>some (m,n,.sl m n f)
 | .mo (.rws E none)=>some (1,E.length,.sl 1 E.length λi j=>([.ints (E.getD i default)]:List DV).getD j .any)
 | _=>none
def JU (k m:Nat)(v:DV):DV -> DV
 | .msl g Z off n=>if g=k/\ Z=m/\ off=0 then v else .msl g Z off n
 | d=>d
def TI (k m n:Nat):DV -> List Prop
 | .msl g Z off W=>if g=k/\ Z=m/\ off=0 then [W=n] else []
 | _=>[]
def bk (k m:Nat)(v:DV):Option DO -> Option DO
 | some (.cells l)=>some (.cells (l.map (JU k m v)))
 | some (.ro l)=>some (.ro (l.map (JU k m v)))
 | o=>o
def uo (k m n:Nat):Option DO -> List Prop
 | some (.cells l)=>l.flatMap (TI k m n)
 | some (.ro l)=>l.flatMap (TI k m n)
 | _=>[]
def KN (k m:Nat)(v:DV)(S:St):St:=⟨S.fr.map (JU k m v),(S.h.set k none).map (bk k m v)⟩
variable {d:DV}
def mC {l:List DV}{f:DV -> List Prop}(h:Bq (l.flatMap f))(r:d∈l):Bq (f d):=by
 induction l with
 | nil=>simp at r
 | cons x l ih=>
  rw [zNa] at h;obtain ⟨h1,h2⟩:=DX.1 h
  grind
def wy {l:List (Option DO)}{f:Option DO -> List Prop}(h:Bq (l.flatMap f)){d:Option DO}(r:d∈l):Bq (f d):=by
 induction l with
 | nil=>simp at r
 | cons x l ih=>
  rw [zNa] at h;obtain ⟨h1,h2⟩:=DX.1 h
  grind
variable {u:Value}{v:DV}{m n:Nat}{o:DO}{p:AI}{ρ:List AI}
theorem zJe {C:Ψ}(a:kU o=some (m,n,v))(d:EE P M w ρ p o)(R: ∀ b,p.foot b -> ¬ C b)(X: ∀ b,C b -> M b){cap:Nat}(r:u= .slice (some ⟨p.blk,p.off+0*m,none⟩) n cap)(s:n<=cap)(A:n<=LB):AL C w v ρ u:=by
 cases o with
 | cells l=>cases a
 | iter e=>cases a
 | ro l=>cases a
 | mo x=>
  cases x with
  | rws ls F=>
   cases F with
   | some y=>cases a
   | none=>
    cases a;obtain ⟨vs,B⟩:=d;obtain ⟨cs,t,g,z,e3,Z⟩:=B.row;refine ⟨_,cap,r,s,A,λi j hi h=>?_⟩;obtain rfl:j=0:=by omega
    have G:i+1<vs.size:=by rw [B.size];omega
    have D:=Z i hi;rw [zIq G] at D;refine ⟨p.blk,p.off,vs[i+1],by simp,R _ B.blk,by unfold World.cell?;simp [g,D],?_⟩;have E:=B.has i hi λL e=>by cases e
    rw [show vs.getD (i+1) undef=vs[i+1] by simp [G]] at E;rcases E with ⟨e,e'⟩ | ⟨q,c,e,H,g2,I,J,K⟩
    ·simp_all [AL]
    ·rw [e];refine ⟨_,c,rfl,H,I,λk hk=>⟨q.blk,q.off,rfl,R _ J.1,?_⟩⟩;obtain ⟨x,N,Y⟩:=K.cell hk;rw [N,Y]
  | _=>cases a
 | ints l=>
  cases a;have R:=R p.blk (by rw [d.1]);refine ⟨_,cap,r,s,A,λj h=>⟨p.blk,p.off,by simp,R,?_⟩⟩;obtain ⟨x,g,z⟩:=AX.cell d h;rw [g,z]
 | bools l=>
  cases a;have R:=R p.blk (by rw [d.1]);refine ⟨_,cap,r,s,A,λj h=>⟨p.blk,p.off,by simp,R,?_⟩⟩;obtain ⟨x,g,z⟩:=AX.cell d h;rw [g,z]
 | arr m n f=>
  cases a;have R:=R p.blk (by rw [d.1]);refine ⟨_,cap,r,s,A,λi j hi h=>?_⟩;have O:i*m+j<n*m:=zGb (by rw [zMu];omega:i*m+j<(i+1)*m) (zJB m hi);obtain ⟨x,g,z⟩:=AX.cell d O;have Q:0<m:=by omega
  have S:(i*m+j)/m=i:=by rw [zJI,Nat.mul_add_div Q];simp [Nat.div_eq_of_lt h]
  have T:(i*m+j) % m=j:=by rw [zJI,Nat.mul_add_mod];exact Nat.mod_eq_of_lt h
  rw [S,T] at z;exact ⟨p.blk,p.off,x,by simp,R,g,AL.out _ (D4 X []) z⟩
variable {o':DO}{h:DH}{k:Nat}
def Wj {i:Nat}(hi:((h.set k none).map (bk k m v))[i]? =some (some o')):i≠k/\ ∃ o,h[i]? =some (some o)/\ bk k m v (some o)=some o':=by
 rw [zIL] at hi;cases d:(h.set k none)[i]? with
 | none=>rw [d] at hi;cases hi
 | some x=>
  rw [d] at hi;have hi:bk k m v x=some o':=zGT hi;cases x with
  | none=>cases hi
  | some o=>grind
def ER (S S':St):Prop:=∀ (P:Program) (Γ:Av) (N:Ψ) (ρ:List AI) (a:Act) (w:World),AS P Γ N S ρ a w -> AS P Γ N S' ρ a w/\ A3 S.h ρ w S'.h ρ w
variable {S:St}
def ER.frz (k:Nat)(hk:S.h[k]? =some (some o))(ho:kU o=some (m,n,v))(T:Bq (S.fr.flatMap (TI k m n)))(M:Bq (S.h.flatMap (uo k m n))):ER S (KN k m v S):=λP Γ N ρ a w R=>by
 obtain ⟨p,B,hr⟩:=R.hr.obj k _ hk
 have C: ∀ b,MO (KN k m v S).h ρ b -> ∃ i o p',i≠k/\ S.h[i]? =some (some o)/\ ρ[i]? =some p'/\ p'.foot b:=by
  rintro b ⟨i,o',p',r,s,c⟩;obtain ⟨t,F,z,_⟩:=Wj r;exact ⟨i,F,p',t,z,s,c⟩
 have hN: ∀ b,p.foot b -> ¬ MS N (KN k m v S).h ρ b:=by
  rintro b O (U | hb)
  ·exact (R.hr.cel k _ p b hk B O).2.1 U
  ·obtain ⟨i,F,p',t,z,s,c⟩:=C _ hb;exact R.hr.dis i k _ _ p' p b t z hk s B c O
 have X: ∀ b,MS N (KN k m v S).h ρ b -> MS N S.h ρ b:=λb hb=>hb.imp id λhb=>by
  obtain ⟨i,F,p',_,z,s,c⟩:=C _ hb;exact ⟨i,F,p',z,s,c⟩
 have conv: ∀ (d:DV) (u:Value),Bq (TI k m n d) -> AL (MS N S.h ρ) w d ρ u -> AL (MS N (KN k m v S).h ρ) w (JU k m v d) ρ u:=by
  intro d u L D;cases d with
  | msl k' m' off n'=>
   simp only [TI,JU] at L ⊢;split at L
   ·rename_i e;obtain ⟨rfl,rfl,rfl⟩:=e;rw [zEd ⟨rfl,rfl,rfl⟩];obtain ⟨p',cap,E,e,r,s,_⟩:=D;have V:p'=p:=zGT (E.symm.trans B);subst V;have en:=L.1
    grind [zJe]
   ·rename_i e;rw [zGW e];exact AL.out _ (D4 X ρ) D
  | _=>exact AL.out _ (D4 X ρ) D
 refine ⟨⟨⟨by simp [KN,R.hr.len],λi o' hi=>?_,λi o' p' b r s c=>?_,λi W o1 F Y p2 b Z r s c g4 g5 g6=>?_,R.hr.nlt,R.hr.gi⟩,⟨by simp [KN,R.fr.1],λi hi=>?_⟩⟩,⟨AQ.refl _ w,λb hb=>.inl ?_⟩⟩
 ·obtain ⟨t,F,z,Q⟩:=Wj hi;obtain ⟨p',E,g⟩:=R.hr.obj i F z;refine ⟨p',E,?_⟩;cases F with
  | cells l=>
   cases Q
   show AX w p' (l.map (JU k m v)).length _
   rw [zGh];refine AX.out g rfl λj u y q=>?_
   have:(l.map (JU k m v)).getD j .any=JU k m v (l.getD j .any):=by simp [y]
   rw [this];refine conv _ _ ?_ q
   have G:some (DO.cells l)∈S.h:=zG6 z;have:=wy M G;exact mC (l:=l) this (by simp [y])
  | ints l=>cases Q;exact AX.out g rfl λj u _ q=>q
  | bools l=>cases Q;exact AX.out g rfl λj u _ q=>q
  | arr m n f=>cases Q;exact AX.out g rfl λj u _ q=>AL.out _ (D4 X []) q
  | iter encs=>
   cases Q;obtain ⟨gf,lb,Rd,H,I,A,q4⟩:=g;exact ⟨gf,lb,Rd,H,I,λb hb=>⟨λJ=>(A b hb).1 (X b J),(A b hb).2⟩,q4⟩
  | ro l=>
   cases Q;obtain ⟨r1,r2,r3⟩:=g;refine ⟨r1,λJ=>r2 (X _ J),?_⟩
   show AX w _ (l.map (JU k m v)).length _
   rw [zGh];refine AX.out r3 rfl λj u y q=>?_
   have:(l.map (JU k m v)).getD j .any=JU k m v (l.getD j .any):=by simp [y]
   rw [this];refine conv _ _ ?_ q
   have G:some (DO.ro l)∈S.h:=zG6 z;have:=wy M G;exact mC (l:=l) this (by simp [y])
  | mo x=>cases Q;exact g
 ·obtain ⟨t,F,z,Q⟩:=Wj r;obtain ⟨H,I,A⟩:=R.hr.cel i F p' b z s c;exact ⟨H,I,A⟩
 ·obtain ⟨t,o3,z,_⟩:=Wj r;obtain ⟨TV,o4,Wz,_⟩:=Wj s;exact R.hr.dis i W o3 o4 Y p2 b Z z Wz c g4 g5 g6
 ·have K:i<S.fr.length:=by simpa [KN] using hi
  have:(KN k m v S).fr.getD i .any=JU k m v (S.fr.getD i .any):=by simp [KN,K]
  rw [this];refine conv _ _ (mC T (by simp [K])) (R.fr.2 i K)
 ·obtain ⟨i,F,p',_,z,s,c⟩:=C _ hb;exact ⟨i,F,p',z,s,c⟩
def Wk (k:Nat)(S:St):Option (St×List Prop):=match S.h.getD k none with
 | some o=>match kU o with
  | some (m,n,v)=>some (KN k m v S,S.fr.flatMap (TI k m n)++S.h.flatMap (uo k m n))
  | none=>none
 | none=>none
def ER.frzE (k:Nat)(S':St)(vs:List Prop)(h:Wk k S=some (S',vs))(p:Bq vs):ER S S':=by
 unfold Wk at h;split at h
 ·rename_i o ho;split at h
  ·rename_i m n v M;cases h;obtain ⟨a,b⟩:=DX.1 p;refine ER.frz k ?_ M a b
   grind
  ·cases h
 ·cases h
theorem ER.refl (S:St):ER S S:=λ_ _ _ _ _ _ R=>⟨R,A3.refl _ _ _⟩
def ER.trans {A B C:St}(h:ER A B)(k:ER B C):ER A C:=λP Γ N ρ a w R=>by
 obtain ⟨I,b⟩:=h P Γ N ρ a w R;obtain ⟨T,D⟩:=k P Γ N ρ a w I;exact ⟨T,b.trans D⟩
def MO.put (hk:h[k]? =some (some o)){b:Nat}:MO (h.set k (some o')) ρ b↔MO h ρ b:=by
 have f:=(zGq.1 hk).1;constructor
 ·rintro ⟨i,x,p,d,a,c⟩;rw [zJM] at d
  by_cases e:k=i
  ·subst e;exact ⟨k,o,p,hk,a,c⟩
  ·rw [zGW e] at d;exact ⟨i,x,p,d,a,c⟩
 ·rintro ⟨i,x,p,d,a,c⟩
  by_cases e:k=i
  ·subst e;exact ⟨k,o',p,by simp [f],a,c⟩
  ·exact ⟨i,x,p,by grind,a,c⟩
def ER.obj (hk:S.h[k]? =some (some o))(J: ∀ (P:Program) (M:Ψ) (w:World) (ρ:List AI) (p:AI),EE P M w ρ p o -> EE P M w ρ p o'):ER S ⟨S.fr,S.h.set k (some o')⟩:=λP Γ N ρ a w R=>by
 have X: ∀ b,MS N (S.h.set k (some o')) ρ b↔MS N S.h ρ b:=λb=>or_congr Iff.rfl (MO.put hk)
 have back: ∀ {i:Nat} {x:DO},(S.h.set k (some o'))[i]? =some (some x) -> ∃ y,S.h[i]? =some (some y)/\ (i=k/\ x=o'∨y=x):=by
  grind
 have O:BP (MS N S.h ρ) w ρ (MS N (S.h.set k (some o')) ρ) w ρ:=D4 (λb c=>(X b).1 c) ρ;refine ⟨⟨⟨by simp [R.hr.len],λi x hi=>?_,λi x p b d s f=>?_,λi v o1 o2 l p2 b D d s f m H n=>?_,R.hr.nlt,R.hr.gi⟩,R.fr.out O⟩,⟨AQ.refl _ w,λb c=>.inl ((MO.put hk).1 c)⟩⟩
 ·rw [zJM] at hi
  by_cases e:k=i
  ·subst e;rw [zEd rfl,zEd (zGq.1 hk).1] at hi;cases hi;obtain ⟨p,g,j⟩:=R.hr.obj k o hk;exact ⟨p,g,J P _ w ρ p (j.out O (S:=λ_=>False) (AQ.refl _ _) (λ_ h=>h.elim) λ_ _ _ h=>h)⟩
  ·rw [zGW e] at hi;obtain ⟨p,g,j⟩:=R.hr.obj i x hi;exact ⟨p,g,j.out O (S:=λ_=>False) (AQ.refl _ _) (λ_ h=>h.elim) λ_ _ _ h=>h⟩
 ·obtain ⟨y,e,_⟩:=back d;exact R.hr.cel i y p b e s f
 ·obtain ⟨q,r,_⟩:=back d;obtain ⟨G,z,_⟩:=back s;exact R.hr.dis i v q G l p2 b D r z f m H n
inductive Fz where
 | frz (k:Nat)
 | arr (k n:Nat) (f:Nat -> Nat -> DV)
 | unf (k:Nat)
 | rws
def wg (k W:Nat)(V:Nat -> Nat -> DV)(S:St):Option (St×List Prop):=match S.h.getD k none with
 | some (.arr m n f)=>some (⟨S.fr,S.h.set k (some (.arr m W V))⟩,[n=W/\ ∀ i j,i<n -> j<m -> AN (f i j) (V i j)])
 | _=>none
def bf:Fz -> St -> Option (St×List Prop)
 | .frz k,S=>Wk k S
 | .arr k n f,S=>wg k n f S
 | .unf k,S=>match S.h.getD k none with
  | some (.mo (.rows f (some (_,_,false))))=>some (⟨S.fr,S.h.set k (some (.mo (.rows f none)))⟩,[])
  | _=>none
 | .rws,_=>none
def FT.unf {f:Int -> Ξ}{x:Int}{L:Ξ}{es:Array MapEntry}{Y:Nat}(h:FT w p f (some (x,L,false)) u es Y):FT w p f none u es Y:=
 { h with
  key:=λe I=>let ⟨k,a,b⟩:=h.key e I;⟨k,a,λ_=>b λL e=>by cases e⟩
  inHand:=λk L g e=>by cases e }
def getD_some (ho:h.getD k none=some o):h[k]? =some (some o):=by
 grind
def ER.fz (z:Fz)(S':St)(vs:List Prop)(h:bf z S=some (S',vs))(b:Bq vs):ER S S':=by
 cases z with
 | frz k=>exact ER.frzE k S' vs h b
 | arr k n' f'=>
  simp only [bf,wg] at h;split at h
  ·rename_i m n f a;cases h;obtain ⟨⟨rfl,r⟩,_⟩:=b;refine ER.obj (getD_some a) λP M w ρ p i=>?_
   refine AX.out i rfl λj u e q=>?_
   have v:0<m:=by
    grind
   exact r _ _ ((zMh v).2 e) (Nat.mod_lt _ v) M w [] u q
  ·cases h
 | unf k=>
  simp only [bf] at h;split at h
  ·rename_i f x L a;cases h;exact ER.obj (getD_some a) λP M w ρ p ⟨u,es,Y,C⟩=>⟨u,es,Y,C.unf⟩
  ·cases h
 | rws=>cases h
def Wi:List (Nat×Fz) -> Option Nat -> St -> Option (St×List Prop×List (Nat×Fz))
 | [],_,S=>some (S,[],[])
 | (t,z)::rest,dst,S=>if dst=some t then match bf z S with
  | some (S',vs)=>match Wi rest dst S' with
   | some (T,Z,r)=>some (T,vs++Z,r)
   | none=>none
  | none=>some (S,[],(t,z)::rest)
  else some (S,[],(t,z)::rest)
def Wh: ∀ (l:List (Nat×Fz)) {dst:Option Nat} {S S':St} {vs:List Prop} {r:List (Nat×Fz)},Wi l dst S=some (S',vs,r) -> Bq vs -> ER S S'
 | [],dst,S,S',vs,r,h,_=>by cases h;exact ER.refl S
 | (t,z)::rest,dst,S,S',vs,r,h,p=>by
  simp only [Wi] at h;split at h
  ·split at h
   ·rename_i e f a;split at h
    ·rename_i S2 FU r2 b;cases h;obtain ⟨L,J⟩:=DX.1 p;exact (ER.fz z e f a L).trans (Wh rest b J)
    ·cases h
   ·cases h;exact ER.refl S
  ·cases h;exact ER.refl S
abbrev PF {α:Type} [Inhabited α] (enc:α -> Nat -> DV) (L:List α):Nat -> Nat -> DV:=λi j=>enc (L.getD i default) j
variable {g:Nat -> Nat -> DV}{α:Type}
def Rq [Inhabited α] {enc:α -> Nat -> DV} {L L':List α} {c:Nat}  (u:n=L.length) (l:c=L'.length) (a: ∀ i j,i<c -> j<m -> AN (g i j) (PF enc L' i j)):n+c=(L++L').length/\ ∀ i j,i<n+c -> j<m -> AN (if i<n then PF enc L i j else g (i-n) j) (PF enc (L++L') i j):=by
 subst u;subst l;refine ⟨by simp,λi j hi hj=>?_⟩;simp only [PF,zGR] at a ⊢
 by_cases h:i<L.length
 ·rw [zEd h,zI5 h];exact λ_ _ _ _ h=>h
 grind
def zCI [Inhabited α] {enc:α -> Nat -> DV}  {x:α}  (hg: ∀ i j,j<m -> AN (g i j) (enc x j)):n=(List.replicate n x).length/\ ∀ i j,i<n -> j<m -> AN (g i j) (PF enc (List.replicate n x) i j):=by
 grind
theorem Ax :AN d d:=λ_ _ _ _ h=>h
def zED {l:List DV}(hl:l.all J3=true)(hm:m=l.length): ∀ j,j<m -> J3 (l.getD j .any)=true:=λj hj=>by
 grind
def Ja:List DV -> List DV -> Prop
 | [],[]=>True
 | d::ds,e::es=>AN d e/\ Ja ds es
 | _,_=>False
theorem Tt: ∀ {l l':List DV},Ja l l' -> l.length=l'.length/\ ∀ j,j<l.length -> AN (l.getD j .any) (l'.getD j .any)
 | [],[],_=>⟨rfl,λj a=>absurd a (zGa j)⟩
 | d::ds,e::es,⟨h1,b⟩=>by
  obtain ⟨q1,q2⟩:=Tt b
  grind
 | [],_::_,h=>h.elim
 | _::_,[],h=>h.elim
theorem xA {l l':List DV}(h:Ja l l')(j:Nat):AN (l.getD j .any) (l'.getD j .any):=by
 grind [Tt,Ax]
def fR:List DV -> List (List DV) -> Prop
 | [],[]=>True
 | v::vs,c::cs=>(∃ l,KV v=some l/\ Ja l c)/\ fR vs cs
 | _,_=>False
theorem pz: ∀ {vs:List DV} {cs:List (List DV)},fR vs cs -> vs.length=cs.length/\ ∀ i,i<vs.length -> ∃ l,KV (vs.getD i .any)=some l/\ Ja l (cs.getD i [])
 | [],[],_=>⟨rfl,λi hi=>absurd hi (zGa i)⟩
 | v::vs,c::cs,⟨h1,b⟩=>by
  obtain ⟨q1,q2⟩:=pz b
  grind
 | [],_::_,h=>h.elim
 | _::_,[],h=>h.elim
def Ej [Inhabited α] {c:α -> List DV} {L:List α} {vals:List DV}  (hn:n=vals.length) (h:fR vals (L.map c)):n=L.length/\ ∀ i j,i<n -> j<m -> AN (match KV (vals.getD i .any) with | some l=>l.getD j .any | none=>.any) (PF (λx j=>(c x).getD j .any) L i j):=by
 grind [pz,List.length_map,xA]
def pq [Inhabited α] {c:α -> List DV} {x:α} {l:List DV}  (h:Ja l (c x)):n=(List.replicate n x).length/\ ∀ i j,i<n -> j<m -> AN (l.getD j .any) (PF (λx j=>(c x).getD j .any) (List.replicate n x) i j):=
 zCI λ_ j _=>xA h j
end
end Go.Proofs.YtodinaconebmdaaGreatDoor
