/- Part 1 of 8 of what the proofs of these laws stand on. -/
import Derived.WalkKit
import Derived.WalkSpells
import Derived.WalkLawsBesides
import Derived.Lib.Hide
import Derived.OrdersHeld
import Derived.Deep.RegionHeld
import Derived.BigQuiet
import Derived.OrdersIn
import Derived.TacticsIn
import Derived.RangeFuncOwn
import Derived.RangeFuncNested
import Derived.RangeFuncCalls
import Derived.Laws.IdiomRangeMap
import Derived.Laws.Cells
import Derived.Laws.Cover3
import Derived.Laws.StructEq
import Derived.ChangeKeysEq
import Derived.RowKit
import Derived.Deep.AppendSrc
import Derived.Laws.MakeOwn
import Derived.Great.BuildSlice
import Derived.Sort.LoopGhostIn
set_option linter.all false
namespace Go.Proofs.YtodinaconebmdaaGreatDoor
variable {p:Prop}
def Z0 (h:p:=by unfold Ae;kernel_rfl):p:=h
def Z1 (h:p:=by unfold B2;kernel_rfl):p:=h
def Z2 (h:p:=by omega):p:=h
def Z3 (h:p:=by simp):p:=h
theorem Z4 (h:p:=by grind):p:=h
def Z5 (h:p:=by kernel_rfl):p:=h
def Z6 (h:p:=by decide):p:=h
def Z7 (h:p:=by simp;omega):p:=h
abbrev Ξ:=List Int
abbrev Ω:=List Bool
abbrev Ψ:=Nat -> Prop
abbrev Θ:=List Nat
abbrev Δ:=Int×Int
abbrev X0:=Option (List Ξ×List (Δ)×Bool)
abbrev X1:=Option (Ω×Nat×Nat×Ξ×Bool)
abbrev X2:=Option (Int×Bool×Int)
abbrev X3:=Option (Ω×Nat×Nat×Ξ)
abbrev X4:=Option (Int×Ξ×Bool)
abbrev X5:=Option (Ω×Ω×Bool×Ξ)
abbrev X6:=Option (List (Δ))
abbrev X7:=Option (Bool×Int)
abbrev X8:=Option (Int×Bool)
abbrev X9:=Option (Nat×Nat)
abbrev W0:=Option (Bool×Ξ)
abbrev W5:=Option (Ξ×Bool)
abbrev W6:=Option (Ξ×Int)
abbrev W7:=Option (Int×Ξ)
abbrev W8:=Option (Ξ×Ξ)
abbrev W9:=Option Bool
end Go.Proofs.YtodinaconebmdaaGreatDoor
namespace Go.Proofs.YtodinaconebmdaaGreatDoor
open Go.RowKit
abbrev zBT:=@Nat.le_refl
abbrev zKN:=@Go.World.block_lt_of_cell?
section
def Az (w w':World):Prop:=Below w.heap.size w w'
theorem Az.refl (w:World):Az w w:=Below.refl _ _
def Az.trans {a b c:World}(h:Az a b)(k:Az b c):Az a c:=Below.trans h (Below.mono k h.size)
def Az.alloc (w:World)(o:Obj):Az w (w.alloc o):=(Below.refl _ _).alloc (zBT _) o
variable {w w':World}
def Az.allocR (h:Az w w')(o:Obj):Az w (w'.alloc o):=h.trans (Az.alloc w' o)
def Az.drewR (h:Az w w'):Az w w'.drew:=Below.drew h
def Az.size (h:Az w w'):w.heap.size<=w'.heap.size:=Below.size h
theorem Az.cells (h:Az w w'): ∀ b o,b<w.heap.size -> w'.cell? ⟨b,o,none⟩=w.cell? ⟨b,o,none⟩:=
 λb o c=>Below.cell h (p:=⟨b,o,none⟩) c
theorem Az.cell (h:Az w w'){b o:Nat}{u:Value}(n:w.cell? ⟨b,o,none⟩=some u):w'.cell? ⟨b,o,none⟩=some u:=by
 rw [h.cells b o (zKN w ⟨b,o,none⟩ n)];exact n
def Dg (b:Bool)(e:Int):Int:=if b then 0 else e
def zNT (e:Int):Dg true e=0:=rfl
structure AC where
 kind:Int
 ce:Ξ
 set:Int
 other:Int
 lo:Int
 hi:Int
 ru:Ξ
 rule:Int
 spot:Int
 deriving DecidableEq,Inhabited
structure AA where
 ce:Int
 sy:Int
 va:Ξ
 nb:List Ξ
 cons:List AC
 deriving DecidableEq,Inhabited
end
abbrev zAD:=@Bool.and_eq_true
abbrev zAE:=@if_pos
abbrev zEO:=@if_neg
abbrev zH2:=@beq_iff_eq
abbrev zJo:=@Bool.or_eq_true
abbrev zJ2:=@Go.Sem.run_bind
abbrev zLk:=@Bool.false_eq_true
abbrev zP9:=@Go.mem_ready
section
def WG:Op -> Bool
 | .move _ | .assign _ | .pick .. | .load .. | .binOp .. | .unOp .. | .convert .. | .makeFunc .. | .slice .. | .fieldAddr .. | .field .. | .indexAddr .. | .index .. | .extract .. | .build .. | .lookup .. | .makeInterface .. | .nilCheck _ | .typeAssert .. =>true
 | .call c=>match c.callee with
  | .builtin .len | .builtin .cap | .builtin .min | .builtin .max=>true
  | _=>false
 | _=>false
variable {n:Next}{w w':World}{P:Program}
theorem Rt {α:Type}{s:Sem α}{f:α -> Value}(h:(s>>=λx=>(pure (.value (f x)):Sem Next)).run P w= .ok n w'): ∃ v,n= .value v:=by
 rw [zJ2] at h;cases l:s.run P w with
 | ok v w1=>rw [l] at h;simp only [Result.andThen] at h;cases h;exact ⟨_,rfl⟩
 | halt x w1=>simp_all
theorem zHJ {ρ:Operand -> Value}{o:Oper}(g:WG o.op=true)(h:(execOp ρ o).run P w= .ok n w'): ∃ v,n= .value v:=by
 unfold execOp at h;cases t:o.op <;> rw [t] at g h <;> simp only [WG,zLk] at g
 all_goals first | exact Rt (f:=λx=>x) h | (cases h;exact ⟨_,rfl⟩) | skip
 ·rename_i c x y;exact Rt (s:=asBool (ρ c)) (f:=λb=>if b then ρ x else ρ y) h
 ·rename_i x
  have k: ∀ {α:Type} (s:Sem α) (f:α -> Sem Next) (w0:World),(∀ a w1,(f a).run P w1= .ok n w' -> ∃ v,n= .value v) -> (s>>=f).run P w0= .ok n w' -> ∃ v,n= .value v:=by
   intro α s f w0 O j;rw [zJ2] at j;cases u:s.run P w0 with
   | ok v w1=>rw [u] at j;exact O _ _ j
   | halt x w1=>simp_all
  have W:(runtimePanic .nilDeref:Sem Next).run P w= .ok n w' -> ∃ v,n= .value v:=by
   simp_all [runtimePanic]
  simp only at h;split at h
  ·exact W h
  ·exact W h
  ·exact W h
  ·split at h
   ·exact W h
   ·refine k _ _ _ ?_ h;intro p w1 z;refine k _ _ _ ?_ z;intro q w2 l;split at l
    ·simp_all
    ·cases l;exact ⟨_,rfl⟩
   ·cases h;exact ⟨_,rfl⟩
  ·cases h;exact ⟨_,rfl⟩
 ·rename_i c;replace h:((resolve ρ c o.type)>>=λd=>invoke d.target d.args).run P w= .ok n w':=h;rw [zJ2] at h;unfold resolve at h;cases i:c.callee with
  | value f=>rw [i] at g;simp at g
  | invoke r m=>rw [i] at g;simp at g
  | builtin b=>
   rw [i] at g h;have e: ∀ d:Deferred,(pure d:Sem Deferred).run P w= .ok d w:=λ_=>rfl
   simp only [e,Result.andThen] at h;unfold invoke at h;cases b <;> simp at g <;> exact Rt (f:=λx=>x) h
structure Yk (w:World) where
 W:World
 le:Az w W
def Um (w:World):World -> Prop:=λw'=>∃ x:Yk w,w'=x.W
def Um.iff :Um w w'↔Az w w':=⟨λ⟨x,e⟩=>e▸x.le,λh=>⟨⟨w',h⟩,rfl⟩⟩
def Az.toDrew (w:World):Az w w.drew:=Az.drewR (Az.refl w)
section
variable {P:Program} {ops:Array Oper} {Q:Exit -> Act -> World -> Prop}
theorem zA5 {w:World}{o:Oper}{a:Act}{v:Value}(f:WG o.op=true)(X:Region.wanted o (yielded ops a.tmps)=true) 
 (h: ∀ w',Um w w' -> o.quietAt P a (Um w) w' v):YieldsIf P ops (Az w) o v a:=by
 refine .inl ⟨X,λw' H=>?_⟩;have:=h w' (Um.iff.2 H);unfold Oper.quietAt at this;cases j:(execOp a.eval o).run P w' with
 | halt x w1=>grind [Oper.quietUpon]
 | ok n w1=>
  obtain ⟨u,rfl⟩:=zHJ f j;rw [j] at this;obtain ⟨rfl,rfl⟩:=this;rfl
def NP (Q:Exit -> Act -> World -> Prop):Exit -> Act -> World -> Prop
 | .panic _,_,_=>False
 | e,a,w=>Q e a w
def NP.put (c:List PanicEntry)(a:Act)(d:Option Tmp)(v:Value)(w:World)(h:NP Q (.panic c) (a.put d v) w):NP Q (.panic c) a w:=h.elim
def HK (ops:Array Oper)(M:Array Bool):Prop:=∀ (j:Nat) (D:Oper),ops[j]? =some D -> M.getD j false=true -> ∀ e∈D.after,Region.binds .any e=true -> M.getD e.on false=true
variable {M:Array Bool}
theorem HK.set {i:Nat}(h:HK ops M)(hi:i∈Region.ready .any ops M):HK ops (M.setIfInBounds i true):=by
 obtain ⟨_,oi,hoi,Q2⟩:=zP9.1 hi;intro j D a o e b c
 by_cases H:i=j
 ·grind [getD_set_true]
 ·rw [getD_set_ne false H] at o;exact getD_set_true (h j D a o e b c)
def Gw (ops:Array Oper):Nat -> Nat -> Nat -> Bool
 | 0,_,_=>false
 | n+1,t,i=>match ops[t]? with
  | none=>false
  | some o=>o.after.any λe=>Region.binds .any e&&(e.on==i||Gw ops n e.on i)
theorem Yy (a:HK ops M): ∀ (n t i:Nat) (o:Oper),ops[t]? =some o -> (∀ e∈o.after,Region.binds .any e=true -> M.getD e.on false=true) -> Gw ops n t i=true -> M.getD i false=true
 | 0,_,_,_,_,_,h=>by simp [Gw] at h
 | n+1,t,i,o,y,P,h=>by
  simp only [Gw,y] at h;obtain ⟨e,b,c⟩:=Array.any_eq_true'.1 h;simp only [zAD,zJo,zH2] at c;obtain ⟨c,h1 | h1⟩:=c
  ·rw [←h1];exact P e b c
  ·cases S:ops[e.on]? with
   | none=>cases n <;> simp [Gw,S] at h1
   | some E=>exact Yy a n e.on i E S (a e.on E S (P e b c)) h1
def CM (ops:Array Oper):Θ -> List Oper
 | []=>[]
 | i::l=>match ops[i]? with | some o=>o::CM ops l | none=>CM ops l
def VL (ops:Array Oper)(r:Nat -> Bool):Θ -> Array Bool -> Bool
 | [],_=>true
 | i::l,M=>(Region.ready .any ops M).contains i&&Region.free .any ops M i&&(match ops[i]? with | some o=>WG o.op | none=>false)&&
  ((List.range ops.size).all λj=>!r j||Gw ops ops.size j i)&&VL ops r l (M.setIfInBounds i true)
def MH (l:Θ)(M:Array Bool):Array Bool:=l.foldl (λs i=>s.setIfInBounds i true) M
def U4 (ops:Array Oper):Θ -> Array Bool -> Bool
 | [],M=>(Region.ready .any ops M).isEmpty
 | t::P,M=>Region.ready .any ops M== [t]&&U4 ops P (M.setIfInBounds t true)
def VN (ops:Array Oper)(r:Nat -> Bool):List (Θ×Nat) -> Θ -> Θ -> Array Bool -> Bool
 | [],z,e,M=>VL ops r z M&&((List.range ops.size).all λj=>r j||(MH z M).getD j true)&&U4 ops e (MH z M)
 | (a,i)::b,z,e,M=>VL ops r a M&&(Region.ready .any ops (MH a M)== [i])&&VN ops r b z e ((MH a M).setIfInBounds i true)
def Tv:List (Θ×Nat) -> Θ -> Nat
 | [],z=>z.length
 | (a,_)::j,z=>a.length+(1+Tv j z)
def iU (ops:Array Oper)(p:List (Θ×Nat))(z e:Θ):Bool:= Region.noSelect ops&&Tv p z+e.length==ops.size&&VN ops (λj=>e.contains j) p z e (Array.replicate ops.size false)
def gL {C:World -> Prop}: ∀ (l:List Oper) (a:Act) (K X:Act -> Prop),(∀ a,K a -> X a) -> wpQuiet P ops C K l a -> wpQuiet P ops C X l a
 | [],a,K,X,hk,h=>hk a h
 | o::l,a,K,X,hk,h=>by
  unfold wpQuiet at*
  by_cases b:Region.wanted o (yielded ops a.tmps)=true
  ·rw [zAE b] at h ⊢;exact Oper.quiet_mono (λa h=>gL l a K X hk h) h
  ·rw [zEO b] at h ⊢;exact gL l _ K X hk h
end
end
abbrev zA0:=@Array.getElem?_eq_some_iff
abbrev zJv:=@Nat.zero_add
abbrev zKL:=@Nat.lt_or_ge
abbrev zLv:=@Go.Oper.semAt_eq
abbrev zL0:=@if_true
abbrev zMJ:=@List.mem_singleton
abbrev zMd:=@Array.getElem?_eq_getElem
abbrev zPp:=@Array.mem_of_getElem?
abbrev zPt:=@Go.wpOpIn_mono
def Ct (ops:Array Oper):Bool:=ops.all λo=>match o.op with
 | .defer _=>false
 | _=>true
theorem JJ {ops:Array Oper}(h:Ct ops=true){j:Nat}{o:Oper}(i:ops[j]? =some o): ∀ c,o.op≠.defer c:=by
 intro c n;have z:o∈ops:=zPp i;have:=Array.all_eq_true'.1 h o z;rw [n] at this;cases this
section
variable {F:Fence} {n:Nat} {P:Program} {ops:Array Oper} {Q:Exit -> Act -> World -> Prop}
variable {w:World}{K:Act -> World -> Prop}{a:Act}{v:Value}{i:Nat}{S:World -> Prop}
theorem Yo {o:Oper}(hF: ∀ f,F.fn f)(hd: ∀ c,o.op≠.defer c)(hi:ops[i]? =some o)(hy:YieldsIf P ops S o v a) 
   (hS:S w) (h:K (a.put o.dst v) w):wpOpIn F n P ops Q i K a w:=by
 unfold Go.wpOpIn;simp only [hi];rcases hy with ⟨X,hv⟩ | ⟨X,rfl⟩
 ·simp_all [Oper.wpIn,zLv,Oper.uponIn]
 grind
theorem pR {j:Nat}{e D:Oper}(k: ∀ f,F.fn f)(l: ∀ c,D.op≠.defer c)(m:ops[j]? =some D)(O:e.apart ops D=true) 
 (T: ∀ cs b,e.op≠.select cs b) (U: ∀ cs b,D.op≠.select cs b)
 (o: ∀ c a w,Q (.panic c) (a.put e.dst v) w -> Q (.panic c) a w)   
 (hy:YieldsIf P ops S e v a) (h:wpOpIn F n P ops Q j K (a.put e.dst v) w):
 wpOpIn F n P ops Q j (λa' w'=>YieldsIf P ops S e v a'/\ K (a'.put e.dst v) w') a w:=by
 obtain ⟨g,h2,i⟩:=Oper.apart_spec O
 have keep: ∀ (a:Act),YieldsIf P ops S e v a -> ∀ u,YieldsIf P ops S e v (a.put D.dst u):=λa hy u=>
  hy.of_same (execOp_put e T a D.dst u i) (wanted_put e a D.dst u i)
 have keepD: ∀ d,YieldsIf P ops S e v { a with defers:=d::a.defers }:=λd=>hy.of_same rfl rfl
 unfold wpOpIn at*;simp only [m] at*;rw [wanted_put D a e.dst v g] at h;split
 ·rename_i X;simp only [X,zL0] at h;unfold Oper.wpIn at*;refine ⟨λf _=>k f,?_⟩;have h:=h.2;rw [zLv _ _ _ l,execOp_put D U a e.dst v g] at h;rw [zLv _ _ _ l]
  generalize (execOp a.eval D).run P w=r at*
  cases r with
  | ok x w'=>
   cases x <;> simp only [Oper.uponIn] at h ⊢
   case value u=>grind [Act.put_comm]
   case skip=>grind [Act.put_comm]
   case defer d=>
    grind [Act.put_comm,Act.put_defers]
   case enter f args=>
    grind [CallsIn.mono,Act.put_comm]
   case row row args=>grind [Act.put_comm]
   grind [RoundIn.mono,Act.put_comm]
  | halt x w'=>
   cases x <;> simp only [Oper.uponIn] at h ⊢
   case panic u=>exact o _ _ _ h
 grind [Act.put_comm]
theorem zBA (h:wpOpIn F n P ops (NP Q) i K a w):wpOpIn F n P ops Q i K a w:=by
 unfold wpOpIn at*;split
 ·grind
 ·rename_i o y;simp only [y] at h;have b:LetsOut (NP Q) -> LetsOut Q:=λ⟨a,w,h⟩=>⟨a,w,h⟩
  by_cases X:Region.wanted o (yielded ops a.tmps)=true
  ·rw [zAE X] at h ⊢;unfold Oper.wpIn at*;refine ⟨h.1,?_⟩;have h:=h.2
   generalize (o.semAt F.round a.eval).run P w=r at*
   cases r with
   | ok x w'=>
    cases x <;> simp only [Oper.uponIn] at h ⊢ <;> first | exact h | skip
    ·refine ⟨h.1,CallsIn.mono h.2 λe d M=>?_⟩;cases e with
     | returned v=>exact M
     | panicked c=>exact M.elim
     | outgrown=>exact b M
    ·refine ⟨h.1,RoundIn.mono h.2 λe d M=>?_⟩;cases e with
     | returned v=>exact M
     | panicked c=>exact M.elim
     | outgrown=>exact b M
   | halt x w'=>cases x <;> simp only [Oper.uponIn] at h ⊢;exact h.elim
  ·rw [zEO X] at h ⊢;exact h
def K2 (F:Fence)(n:Nat)(P:Program)(ops:Array Oper)(Q:Exit -> Act -> World -> Prop)(r:Nat -> Bool)(g:Nat)(S:World -> Prop):Nat -> Array Bool -> Act -> World -> Prop
 | 0,M,a,w=>(∀ j,j<ops.size -> r j=false -> M.getD j true=true)/\ wpAnyIn F n P .any ops Q g M a w
 | m+1,M,a,w=>Region.ready .any ops M≠[]/\ ∀ i∈Region.ready .any ops M,wpOpIn F n P ops (NP Q) i (λa' w'=>S w'/\ K2 F n P ops Q r g S m (M.setIfInBounds i true) a' w') a w
variable {g:Nat}{r:Nat -> Bool}
def gM {S':World -> Prop}(b: ∀ w,S' w -> S w): ∀ (m:Nat) (M:Array Bool) (a:Act) (w:World),
 K2 F n P ops Q r g S' m M a w -> K2 F n P ops Q r g S m M a w
 | 0,_,_,_,h=>h
 | m+1,_,_,_,h=>⟨h.1,λi hi=>zPt (λ_ _ h'=>⟨b _ h'.1,gM b m _ _ _ h'.2⟩) (h.2 i hi)⟩
def pW : ∀ (m:Nat) (M:Array Bool) (a:Act) (w:World),K2 F n P ops Q r g S m M a w -> wpAnyIn F n P .any ops Q (m+g) M a w
 | 0,_,_,_,h=>by rw [zJv];exact h.2
 | m+1,_,_,_,h=>by
  rw [show m+1+g=(m+g)+1 by omega];exact ⟨λh0=>absurd h0 h.1,λi hi=>zPt (λa' w' h'=>pW m _ a' w' h'.2) (zBA (h.2 i hi))⟩
theorem pV (z: ∀ f,F.fn f)(A:Ct ops=true){k:Nat}{l:Oper}(hi:ops[i]? =some l)(x: ∀ (j:Nat) (o:Oper) cs b,ops[j]? =some o -> o.op≠.select cs b) 
 (hT: ∀ j,j<ops.size -> r j=true -> Gw ops k j i=true):
 ∀ (m:Nat) (M:Array Bool) (a:Act) (w:World),HK ops M ->
  (∀ j D,ops[j]? =some D -> j≠i -> M.getD j true=false -> (∀ e∈D.after,Region.binds .any e=true -> e.on≠i) -> l.apart ops D=true) ->
  i∈Region.ready .any ops M -> YieldsIf P ops S l v a -> S w ->
  K2 F n P ops Q r g S m (M.setIfInBounds i true) (a.put l.dst v) w -> K2 F n P ops Q r g S (m+1) M a w:=by
 intro m
 induction m with
 | zero=>
  intro M a w y _ d hy B H;have X:=(zP9.1 d).1;refine ⟨λh=>(by rw [h] at d;cases d),λj p=>?_⟩
  by_cases q:j=i
  ·grind [Yo,JJ]
  ·exfalso
   obtain ⟨s,D,G,C⟩:=zP9.1 p;have E:=(zA0.1 G).1;cases V:r j with
   | true=>
    grind [Yy]
   | false=>
    have:=H.1 j E V
    simp_all [Ne.symm]
 | succ m I=>
  intro M a w y R d hy B H;have X:=(zP9.1 d).1;refine ⟨λh=>(by rw [h] at d;cases d),λj p=>?_⟩
  by_cases q:j=i
  ·grind [Yo,JJ]
  ·have J:=H.2 j (ready_mono p q);obtain ⟨s,D,G,C⟩:=zP9.1 p
   have Y: ∀ e∈D.after,Region.binds .any e=true -> e.on≠i:=λe he hb ma=>by
    grind
   have K:=pR z (JJ A G) G (R j D G q s Y) (λcs b=>x i l cs b hi) (λcs b=>x j D cs b G) (λc a w h=>NP.put c a _ _ w h) hy J
   have t: ∀ k ok,ops[k]? =some ok -> k≠i -> (M.setIfInBounds j true).getD k true=false ->
    (∀ e∈ok.after,Region.binds .any e=true -> e.on≠i) -> l.apart ops ok=true:=λk ok hk L Ik N=>by
    refine R k ok hk L ?_ N
    by_cases O:j=k
    ·subst O;exact s
    simp_all
   refine zPt (λa' w' u=>⟨u.2.1,I (M.setIfInBounds j true) a' w' (y.set p) t (ready_mono d (Ne.symm q)) u.1 u.2.1 ?_⟩) K
   grind [Array.setIfInBounds_comm]
def SB (F:Fence)(n:Nat)(P:Program)(ops:Array Oper)(Q:Exit -> Act -> World -> Prop):Θ -> Act -> World -> Prop
 | [],a,w=>Q .normal a w
 | t::b,a,w=>wpOpIn F n P ops Q t (SB F n P ops Q b) a w
def bw (z:Θ)(b w:World):World:=match z with
 | []=>b
 | _=>w
def Qu (F:Fence)(n:Nat)(P:Program)(ops:Array Oper)(Q:Exit -> Act -> World -> Prop):World -> List (Θ×Nat) -> Θ -> Θ -> Act -> World -> Prop
 | _,[],z,e,a,w=>wpQuiet P ops (λw'=>∃ x:Yk w,w'=x.W) (λa'=>SB F n P ops Q e a' w) (CM ops z) a
 | b,(c,i)::j,z,e,a,w=>wpQuiet P ops (λw'=>∃ x:Yk w,w'=x.W) (λa'=>wpOpIn F n P ops (NP Q) i (λR K=>Az (bw c b w) K/\ Qu F n P ops Q (bw c b w) j z e R K) a' w) (CM ops c) a
def qS: ∀ (e:Θ) (M:Array Bool) (a:Act) (w:World),U4 ops e M=true -> SB F n P ops Q e a w -> wpAnyIn F n P .any ops Q e.length M a w
 | [],M,a,w,hk,h=>⟨by simpa [U4] using hk,h⟩
 | t::b,M,a,w,hk,h=>by
  simp only [U4,zAD,zH2] at hk;refine ⟨λh0=>(by rw [hk.1] at h0;cases h0),λi hi=>?_⟩;rw [hk.1,zMJ] at hi;subst hi;exact zPt (λa' w' h'=>qS b _ a' w' hk.2 h') h
theorem Ze (S: ∀ f,F.fn f)(u:Ct ops=true)(b:Region.noSelect ops=true){next:Act -> Prop}{m:Nat}:
 ∀ (l:Θ) (M:Array Bool) (a:Act),HK ops M -> VL ops r l M=true -> wpQuiet P ops (Um w) next (CM ops l) a ->
  (∀ a',HK ops (MH l M) -> next a' -> K2 F n P ops Q r g (Az w) m (MH l M) a' w) -> K2 F n P ops Q r g (Az w) (l.length+m) M a w
 | [],M,a,G,_,h,c=>by
  simp only [List.length_nil,zJv];exact c a G h
 | i::l,M,a,G,hk,h,c=>by
  simp only [VL,zAD] at hk;obtain ⟨⟨⟨⟨p,O⟩,d⟩,hT⟩,k⟩:=hk;have V:i∈Region.ready .any ops M:=by simpa using p
  have e: ∀ j,j<ops.size -> r j=true -> Gw ops ops.size j i=true:=λj hj ht=>by
   grind
  have L:(i::l).length+m=(l.length+m)+1:=Z7
  rw [L];cases hi:ops[i]? with
  | none=>rw [hi] at d;simp at d
  | some o=>
   rw [hi] at d;simp only [CM,hi] at h;unfold wpQuiet at h
   by_cases X:Region.wanted o (yielded ops a.tmps)=true
   ·rw [zAE X] at h;obtain ⟨v,q,s⟩:=h;exact pV S u hi (Region.noSelect_spec b) e _ M a w G (Region.free_spec hi O) V (zA5 d X q) (Az.refl _) (Ze S u b l _ _ (G.set V) k s c)
   ·rw [zEO X] at h;exact pV S u hi (Region.noSelect_spec b) e _ M a w G (Region.free_spec hi O) V (.inr ⟨by simpa using X,rfl⟩) (Az.refl _) (Ze S u b l _ _ (G.set V) k h c)
theorem xv (S: ∀ f,F.fn f)(u:Ct ops=true)(l:Region.noSelect ops=true):
 ∀ (p:List (Θ×Nat)) (z e:Θ) (M:Array Bool) (a:Act) (b w:World),Az b w -> HK ops M -> VN ops r p z e M=true -> Qu F n P ops Q b p z e a w ->
  K2 F n P ops Q r e.length (Az b) (Tv p z) M a w
 | [],z,e,M,a,b,w,d,G,hk,h=>by
  simp only [VN,zAD] at hk;obtain ⟨⟨k,o⟩,q⟩:=hk
  have:=Ze (m:=0) S u l z M a G k h (λa' _ c=>⟨λj g ht=>by
   grind,qS e _ a' w q c⟩)
  refine gM (λW s=>d.trans s) _ _ _ _ ?_;simpa [Tv] using this
 | (t,i)::v,z,e,M,a,b,w,d,G,hk,h=>by
  simp only [VN,zAD,zH2] at hk;obtain ⟨⟨k,o⟩,q⟩:=hk
  have one: ∀ (a':Act) (A:World),Az A w -> HK ops (MH t M) -> wpOpIn F n P ops (NP Q) i (λR K=>Az A K/\ Qu F n P ops Q A v z e R K) a' w ->
   K2 F n P ops Q r e.length (Az A) (Tv v z+1) (MH t M) a' w:=λa' A EJ x c=>by
   refine ⟨λh0=>(by rw [o] at h0;cases h0),λj g=>?_⟩;have y:=g;rw [o,zMJ] at g;subst g;refine zPt (λR K h'=>⟨h'.1,?_⟩) c;exact xv S u l v z e _ R A K h'.1 (x.set y) q h'.2
  cases t with
  | nil=>
   have:=one a b d G h;simpa [Tv,Nat.add_comm,MH] using this
  | cons H ss=>
   refine gM (λW s=>d.trans s) _ _ _ _ ?_;refine Ze S u l (H::ss) M a G k h λa' x c=>?_
   rw [Nat.add_comm 1];exact one a' w (Az.refl w) x c
def zBC {id:Nat}(S: ∀ f,F.fn f)(p:List (Θ×Nat))(z e:Θ)(b:P.follows .mixedOrders=true)(H:(iU ops p z e&&Ct ops)=true) 
 (h:Qu F n P ops Q w.drew p z e a w.drew):(Code.region id ops true).wpIn F n P Q a w:=by
 simp only [iU,zAD,zH2] at H;obtain ⟨⟨⟨c,d⟩,g⟩,A⟩:=H
 have G:HK ops (Array.replicate ops.size false):=λj oj _ o=>by
  exfalso
  rcases zKL j ops.size with h | h
  ·simp [h] at o
  ·simp [h] at o
 have:=pW _ _ _ _ (xv S A c p z e _ a w.drew w.drew (Az.refl _) G g h);rw [d] at this;exact wpIn_region_any b this
theorem qT: ∀ (e:Θ) (a:Act) (w:World),(∀ t∈e,t<ops.size) -> wpListIn F n P ops Q (CM ops e) a w -> SB F n P ops Q e a w
 | [],_,_,_,h=>h
 | t::b,a,w,o,h=>by
  have V:ops[t]? =some (ops[t]'(o t Z3)):=zMd _;simp only [CM,V] at h;unfold SB wpOpIn;simp only [V];unfold wpListIn at h;have z: ∀ a w,wpListIn F n P ops Q (CM ops b) a w -> SB F n P ops Q b a w:=λa w h=>qT b a w (λt V=>o t (by simp [V])) h
  by_cases X:Region.wanted (ops[t]'(o t Z3)) (yielded ops a.tmps)=true
  ·rw [zAE X] at h ⊢;exact Oper.wpIn_mono z h
  grind
theorem zL3 {z e:Θ}{b:World}(ht:(e.all λt=>decide (t<ops.size))=true) 
 (h:wpQuiet P ops (λw'=>∃ x:Yk w,w'=x.W) (λa'=>wpListIn F n P ops Q (CM ops e) a' w) (CM ops z) a):
 Qu F n P ops Q b [] z e a w:=by
 refine gL _ _ _ _ (λa' h=>?_) h
 grind [qT]
end
abbrev zA4:=@Nat.le_trans
abbrev zCD:=@Nat.lt_of_lt_of_le
abbrev zJ1:=@List.mem_of_getElem?
abbrev zKB:=@Go.World.putObj_heap_other
abbrev zKP:=@List.mem_cons
abbrev zLi:=@Go.StepsIn.trans
abbrev zMT:=@Go.fenced_calm
abbrev zMY:=@Go.wpIn_mono
abbrev zO6:=@Go.stepR_block
abbrev zPy:=@Go.callsIn_wide
abbrev zP3:=@if_false
abbrev zQA:=@Go.RowKit.Below.block
abbrev zQU:=@Go.leaves_stepsInM
section
structure AS (S:Ψ)(w w':World):Prop where
 os:w'.os=w.os
 tape:w'.tape=w.tape
 output:w'.output=w.output
 size:w.heap.size<=w'.heap.size
 block: ∀ k,k<w.heap.size -> ¬ S k -> w'.heap[k]? =w.heap[k]?
theorem AS.refl (S:Ψ)(w:World):AS S w w:=⟨rfl,rfl,rfl,zBT _,λ_ _ _=>rfl⟩
variable {a b c:World}{S S':Ψ}
def AS.comp (h:AS S a b)(k:AS S' b c)(l: ∀ i,i<a.heap.size -> S' i -> S i):AS S a c:=
 ⟨k.os.trans h.os,k.tape.trans h.tape,k.output.trans h.output,zA4 h.size k.size,
  λi hi u=>(k.block i (zCD hi h.size) (λd=>u (l i hi d))).trans (h.block i hi u)⟩
def AS.trans (h:AS S a b)(k:AS S b c):AS S a c:=h.comp k λ_ _ h=>h
theorem AS.mono (h:AS S a b)(l: ∀ i,i<a.heap.size -> S i -> S' i):AS S' a b:=
 ⟨h.os,h.tape,h.output,h.size,λi hi u=>h.block i hi λd=>u (l i hi d)⟩
def AS.ofExt (h:Az a b):AS S a b:=⟨Below.os h,Below.tape h,Below.output h,Below.size h,λi hi _=>zQA h i hi⟩
def AS.toExt (h:AS S a b)(l: ∀ i,i<a.heap.size -> ¬ S i):Az a b:=⟨h.os,h.tape,h.output,h.size,λi hi=>h.block i hi (l i hi)⟩
def AS.alloc (h:AS S a b)(o:Obj):AS S a (b.alloc o):=h.trans (AS.ofExt (Az.alloc b o))
variable {p:Addr}
theorem AS.setCell (h:AS S a b)(f:p.block<a.heap.size -> S p.block)(u:Value):AS S a (b.setCell p u):=by
 refine h.comp (S':=λk=>k=p.block) ⟨rfl,rfl,rfl,?_,λk _ hk=>?_⟩ (λi hi e=>by cases e;exact f hi)
 ·simp_all
 grind [Below.heap_setCell]
def AS.putObj (h:AS S a b){l:Nat}(c:l<a.heap.size -> S l)(o:Obj):AS S a (b.putObj l o):=by
 refine h.comp (S':=λk=>k=l) ⟨rfl,rfl,rfl,Z3,λk _ hk=>zKB hk⟩ (λi hi e=>by cases e;exact c hi)
theorem AS.cell (h:AS S a b){u:Value}(l: ¬ S p.block)(n:a.cell? p=some u):b.cell? p=some u:=by
 rw [World.cell?_of_block (h.block p.block (zKN a p n) l)];exact n
def Cw (I:(Ψ) -> (Ψ) -> World -> Prop):Prop:= ∀ (G R h R':Ψ) (A B:World),I G R A -> AS G A B -> (∀ k,h k -> G k∨A.heap.size<=k) -> (∀ k,R' k -> R k∨G k∨A.heap.size<=k) -> (∀ k,G k∨R k -> h k∨R' k) -> (∀ k,h k -> ¬ R' k) -> (∀ k,h k∨R' k -> k<B.heap.size) -> I h R' B
structure D8 (G R:Ψ)(W:World):Prop where
 dis: ∀ k,G k -> ¬ R k
 lt: ∀ k,G k∨R k -> k<W.heap.size
variable {A:World}{G R:Ψ}
def D8.upd {B:World}(h:D8 G R A)(t:AS S A B):D8 G R B:=⟨h.dis,λk hk=>zCD (h.lt k hk) t.size⟩
def Cw.same {I:(Ψ) -> (Ψ) -> World -> Prop}(h:Cw I){B:World}(l:D8 G R A)(hi:I G R A)(t:AS G A B):I G R B:=
 h G R G R A B hi t (λ_ h=>.inl h) (λ_ h=>.inl h) (λ_ h=>h) l.dis (l.upd t).lt
def EM (B:Nat):List Deferred -> World -> Prop
 | [],_=>True
 | d::ds,w=>∃ D,d= { target:=.collected D,args:=#[] }/\ B<=D/\ w.heap[D]? =some (.deferred (some []))/\ (∀ d'∈ds,d'.target≠.collected D)/\ EM B ds w
variable {w:World}{B:Nat}
def EM.upd {w':World}(t:AS S w w'): ∀ {ds:List Deferred},EM B ds w -> (∀ k,B<=k -> S k -> w.heap[k]? ≠some (.deferred (some []))) -> EM B ds w'
 | [],_,_=>trivial
 | _::_,⟨D,a,b,h,A,c⟩,l=>⟨D,a,b,(t.block D (zA0.1 h).1 (λd=>l D b d h)).trans h,A,EM.upd t c l⟩
theorem EM.lt : ∀ {ds:List Deferred} (_:EM B ds w) {d:Deferred} {D:Nat},d∈ds -> d.target= .collected D -> D<w.heap.size
 | _::_,⟨D,h1,h2,h3,h4,a⟩,d,D',hm,V=>by
  rcases zKP.1 hm with rfl | hm
  ·grind
  ·exact EM.lt a hm V
def NM (B:Nat)(w W:World):Prop:=AS (λk=>B<=k/\ w.heap[k]? =some (.deferred (some []))) w W
variable {tmps:Array Value}{fn:Func}{P:Program}
theorem cc {F:Fence}{n:Nat}{R:Ending -> World -> Prop}{u:FrameMode}(t:u≠.run): ∀ (ds:List Deferred) (w:World),EM B ds w ->
 (∀ W,NM B w W -> LeavesIn F n P fn tmps R [] u W) -> LeavesInM F n P fn tmps R ds u w
 | [],w,_,h=>h w (AS.refl _ w)
 | _::ds,w,⟨D,b,c,a,A,f⟩,h=>by
  refine ⟨t,.inl ⟨D,_,by rw [b],run_takeDeferred a,?_⟩⟩;have T:AS (λk=>k=D) w (w.putObj D (.deferred none)):=(AS.refl (λk=>k=D) w).putObj (λ_=>rfl) _
  have K: ∀ {ds:List Deferred},(∀ d'∈ds,d'.target≠.collected D) -> EM B ds w -> EM B ds (w.putObj D (.deferred none)):=by
   intro ds
   induction ds with
   | nil=>intro _ _;trivial
   | cons d ds ih=>
    intro hd ⟨D',g1,g2,g3,g4,g5⟩
    simp_all [zKB,EM]
  refine cc t ds _ (K A f) λW g=>h W ?_
  refine T.mono (S':=λk=>B<=k/\ w.heap[k]? =some (.deferred (some []))) (λi _ e=>by cases e;exact ⟨c,a⟩) |>.comp g λi hi j=>⟨j.1,?_⟩
  grind [World.putObj_heap_other]
def cZ {R:Ending -> World -> Prop}(ds:List Deferred)(w:World)(z:EM B ds w) 
 (h: ∀ W,NM B w W -> ∃ v,(results fn tmps).run P W= .ok v W/\ R (.returned v) W):LeavesInM Fence.wide 0 P fn tmps R ds .returning w:=
 cc Z3 ds w z h
def I1 (F:Fence)(n:Nat)(P:Program)(fn:FuncId)(c:Code)(Q:Exit -> Act -> World -> Prop)(a:Act)(w:World):Prop:= ∀ (b:Frame) (k:List Item) (cs:List Frame),b.roundOf=F.round -> F.fn b.fn -> F.room (cs.length+1+n) -> b.fn=fn -> ∃ e a' w',Q e a' w'/\ ArrivesIn (Machine.fenced P F) P (lone (b.atR a (.code c::k)) cs w) b k cs e a' w'
section
variable {F:Fence} {n:Nat} {P:Program} {fi:FuncId} {c:Code} {Q:Exit -> Act -> World -> Prop} {a:Act} {w:World}
def NW (h:c.wpIn F n P Q a w):I1 F n P fi c Q a w:=λb k cs d e f _=>h b k cs d e f
def zBF (h: ∀ fi,I1 F n P fi c Q a w):c.wpIn F n P Q a w:=λb k cs d e f=>h b.fn b k cs d e f rfl
def Rn {x y:Code}(h:I1 F n P fi x (Exit.then (I1 F n P fi y Q) Q) a w):I1 F n P fi (.seq x y) Q a w:=by
 intro b k cs M f j O;have h0:(lone (b.atR a (.code (.seq x y)::k)) cs w).fenced P F:=zMT f j rfl;obtain ⟨e,v,d,c,S⟩:=h b (.code y::k) cs M f j O;cases e with
 | normal=>
  obtain ⟨N,q,o,K,g⟩:=c b k cs M f j O;exact ⟨N,q,o,K,.of_steps (.head h0 stepR_seq S) g⟩
 | exit id=>exact ⟨_,v,d,c,.of_steps (.one h0 stepR_seq) (.pass (x:=.code y) rfl (λ_ _=>.inl Z3) S)⟩
 | goto l=>exact ⟨_,v,d,c,.of_steps (.one h0 stepR_seq) (.pass (x:=.code y) rfl (λ_ _=>.inl Z3) S)⟩
 | ret=>exact ⟨_,v,d,c,.of_steps (.one h0 stepR_seq) (.pass (x:=.code y) rfl (λ_ _=>.inl Z3) S)⟩
 | panic ch=>exact ⟨_,v,d,c,.of_steps (.one h0 stepR_seq) (.pass (x:=.code y) rfl (λ_ _=>.inl Z3) S)⟩
 | outgrown=>exact ⟨_,v,d,c,.of_steps (.one h0 stepR_seq) (.pass (x:=.code y) rfl (λ_ _=>.inl Z3) S)⟩
theorem zBH {id:Nat}(h:I1 F n P fi c (Exit.inBlock id Q) a w):I1 F n P fi (.block id c) Q a w:=by
 intro b k cs M g j q;have h0:(lone (b.atR a (.code (.block id c)::k)) cs w).fenced P F:=zMT g j rfl;obtain ⟨e,v,f,d,S⟩:=h b (.inBlock id::k) cs M g j q;cases e with
 | normal=>exact ⟨.normal,v,f,d,.head h0 zO6 (zLi S (.one (zMT g j rfl) stepR_inBlock))⟩
 | exit O=>
  by_cases hid:O=id
  ·simp only [Exit.inBlock,hid,zL0] at d;exact ⟨.normal,v,f,d,.head h0 zO6 (S.1 k (by simp [exitTo,hid]))⟩
  ·simp only [Exit.inBlock,hid,zP3] at d;have this:(id==O)=false:=Z4
   have i:exitTo O (.inBlock id::k)=exitTo O k:=by simp [exitTo,this]
   exact ⟨.exit O,v,f,d,λo hk=>.head h0 zO6 (S.1 o (by rw [i];exact hk)),
    λV hk=>let ⟨X,m,p⟩:=S.2 V (by rw [i];exact hk);⟨X,m,.head h0 zO6 p⟩⟩
 | goto l=>
  have i:gotoIn l (.inBlock id::k)=gotoIn l k:=by simp [gotoIn]
  exact ⟨_,v,f,d,λo hk=>.head h0 zO6 (S.1 o (by exact hk)),
   λV hk=>let ⟨X,m,p⟩:=S.2 V (by exact hk);⟨X,m,.head h0 zO6 p⟩⟩
 | ret=>exact ⟨_,v,f,d,.of_steps (.one h0 zO6) S⟩
 | panic ch=>exact ⟨_,v,f,d,.of_steps (.one h0 zO6) S⟩
 | outgrown=>exact ⟨_,v,f,d,.of_steps (.one h0 zO6) S⟩
variable {assign body:Code}
theorem zBG {g:Operand}{ps:Array Tmp} 
 (h:F.fn fi -> ∃ (l:Nat) (mark:List Deferred) (i:World) (d:Deferred) (I:World) (f:FuncId) (args:Array Value) (o:World),
  (Instr.enterLoop fi a.tmps ps assign body F.round).run P w= .ok (l,mark) i/\
  (resolve a.eval (rangeCall g l) 0).run P i= .ok d I/\
  (∀ L,Target.leads P I d.target d.args=some L -> F.fn L)/\
  (invoke d.target d.args).run P I= .ok (.enter f args) o/\
  (F.depth.isSome=true -> 1<=n)/\
  CallsIn F (n-1) P f args o (rangePost F n P l Q { a with defers:=mark++a.defers })):
 I1 F n P fi (.rangeFunc g ps assign body) Q a w:=by
 intro b k cs M j m U;obtain ⟨l,mark,i,d,I,f,args,o,u,Y,hlead,hinv,D,x,p⟩:=h (U▸j);rw [←M,←U] at u
 have h0:(lone (b.atR a (.code (.rangeFunc g ps assign body)::k)) cs w).fenced P F:=by
  grind [fenced_lone,Fence.room_le,Frame.eval_atR,Frame.atR,Frame.about]
 have V:=stepR_rangeFunc (P:=P) (b:=b) (a:=a) (k:=k) (cs:=cs) (w:=w) u Y hinv;have q:F.room ((b.atR { a with defers:=mark++a.defers } (.inRangeFunc l::k)::cs).length+1+(n-1)):=Fence.room_enter m D;obtain ⟨e,S,fr,hR,r,E,y⟩:=p (b.atR { a with defers:=mark++a.defers } (.inRangeFunc l::k)::cs) q;cases e with
 | outgrown=>
  obtain ⟨W,X,s⟩:=hR;exact ⟨.outgrown,W,X,s,.inr (Outgrown.of_steps (.one V) r)⟩
 | returned v=>
  have t:(lone fr (b.atR { a with defers:=mark++a.defers } (.inRangeFunc l::k)::cs) S).fenced P F:=fenced_leaving (E▸x) q y;obtain ⟨z,A,G,B⟩:=hR
  have C:StepsIn (Machine.fenced P F) P (lone (b.atR a (.code (.rangeFunc g ps assign body)::k)) cs w) (lone (b.atR { a with defers:=mark++a.defers } ((z.map Item.code).toList++k)) cs A):=by
   refine .head h0 V (zLi r (.head t ?_ (.one (zMT (fr:=b.atR { a with defers:=mark++a.defers } (.endRangeFunc l::k)) j m rfl) (stepR_endRangeFunc G))));rw [←finish_atR_inRangeFunc l v];grind [step_leave_returned]
  cases z with
  | none=>exact ⟨.normal,_,A,B,C⟩
  | some c=>
   obtain ⟨H,R,J,s,K⟩:=B b k cs M j m;exact ⟨H,R,J,s,.of_steps C K⟩
 | panicked N=>
  have t:(lone fr (b.atR { a with defers:=mark++a.defers } (.inRangeFunc l::k)::cs) S).fenced P F:=fenced_leaving (E▸x) q y;refine ⟨.panic N,_,S,hR,.inRangeFunc l::k,.head h0 V (zLi r (.one t ?_))⟩;rw [←Frame.raise_atR];grind [step_leave_panicked]
theorem zOe {fn:Func}{args:Array Value}{R:Ending -> World -> Prop}(O:P.funcs[fi]? =some fn)(hb:fn.body=some c)(S:F.fn fi) 
 (h:I1 F n P fi c (bodyPostM F n P fn R) { tmps:=args++Array.replicate (fn.ntmps-args.size) undef,defers:=[] } w) (M:F.round=none:=by rfl):CallsIn F n P fi args w R:=by
 refine ⟨S,λcs j=>?_⟩
 let b:Frame:={ (default:Frame) with fn:=fi,kind:=.normal,roundOf:=none }
 have V:Frame.enter P fi args .normal=b.atR { tmps:=args++Array.replicate (fn.ntmps-args.size) undef,defers:=[] } [.code c]:=by
  grind [Frame.enter,Frame.atR]
 obtain ⟨e,a',w',Q,a⟩:=h b [] cs M.symm S j rfl;rw [←V] at a;cases e with
 | normal=>
  obtain ⟨d,K,fr',hR,f,E,o⟩:=zQU a'.defers .returning w' { b.atR a' [] with mode:=.returning } cs rfl rfl rfl O rfl S j Q;exact ⟨d,K,fr',hR,ComesIn.of_steps (zLi a (.one (zMT (fr:=b.atR a' []) S j rfl) (stepR_end rfl))) f,E,o⟩
 | ret=>
  obtain ⟨Z,g⟩:=a.1 rfl;obtain ⟨d,K,fr',hR,f,E,o⟩:=zQU a'.defers .returning w' { b.atR a' Z with mode:=.returning } cs rfl rfl rfl O rfl S j Q;exact ⟨d,K,fr',hR,ComesIn.of_steps g f,E,o⟩
 | panic i=>
  obtain ⟨Z,g⟩:=a;obtain ⟨d,K,fr',hR,f,E,o⟩:=zQU a'.defers (.panicking i) w' { b.atR a' Z with mode:=.panicking i } cs rfl rfl rfl O rfl S j Q;exact ⟨d,K,fr',hR,ComesIn.of_steps g f,E,o⟩
 | exit id=>exact Q.elim
 | goto l=>exact Q.elim
 | outgrown=>exact ⟨.outgrown,w',b,Q,a.resolve_left (by simp [b]),rfl,trivial⟩
def zE9 (F:Fence)(n:Nat)(P:Program)(l:Nat)(f:FuncId)(R:Ending -> World -> Prop):Exit -> Act -> World -> Prop
 | .panic L,a,w=>∃ fn,P.funcs[f]? =some fn/\ LeavesInM (F.inRound l) n P fn a.tmps (λe w'=>e= .panicked L/\ R e w') a.defers (.panicking L) w
 | e,a,w=>roundPost P l R e a w
def zFB {l:Nat}{f:FuncId}{tmps:Array Value}{R:Ending -> World -> Prop}(r:F.fn f) 
 (h:assign.wpIn (F.inRound l) n P (Exit.then (λd j=>∃ o,(Instr.beginRound l).run P j= .ok () o/\ body.wpIn (F.inRound l) n P (zE9 F n P l f R) d o) (λ_ _ _=>False))
  { tmps:=tmps,defers:=[] } w):
 RoundIn F n P l f tmps assign body w R:=by
 refine ⟨r,λc cs u=>?_⟩
 let b:Frame:={ (default:Frame) with fn:=f,kind:=.normal,roundOf:=some l }
 have V:(F.inRound l).room ((c::cs).length+1+n):=u;have T:(F.inRound l).fn b.fn:=r;obtain ⟨e,d,j,Q,S⟩:=h b [.beginRound,.code body] (c::cs) rfl T V;cases e with
 | normal=>
  obtain ⟨o,k,x⟩:=Q
  have B:StepsIn (Machine.fenced P (F.inRound l)) P (lone (b.atR d [.beginRound,.code body]) (c::cs) j) (lone (b.atR d [.code body]) (c::cs) o):=
   .one (zMT (fr:=b.atR d [.beginRound,.code body]) T V rfl) (stepR_beginRound rfl k)
  obtain ⟨N,q,y,K,g⟩:=x b [] (c::cs) rfl T V;cases N with
  | normal=>
   obtain ⟨v,p,m,hR⟩:=K;exact ⟨.returned v,p,hR,(zLi S B).trans (zLi g (.one (zMT (fr:=b.atR q []) T V rfl) (stepR_round_end rfl rfl m)))⟩
  | ret=>
   obtain ⟨v,p,m,hR⟩:=K;obtain ⟨X,a⟩:=g.2 rfl;exact ⟨.returned v,p,hR,(zLi S B).trans (zLi a (.one (zMT (fr:=b.atR q (.code .ret::X)) T V rfl) (stepR_round_ret rfl rfl m)))⟩
  | exit id=>
   obtain ⟨v,p,m,hR⟩:=K;obtain ⟨X,hk,a⟩:=g.2 rfl rfl;exact ⟨.returned v,p,hR,(zLi S B).trans (zLi a (.one (zMT (fr:=b.atR q (.code (.exit id)::X)) T V rfl) (stepR_round_exit rfl rfl hk m)))⟩
  | goto t=>
   obtain ⟨v,p,m,hR⟩:=K;obtain ⟨X,hk,a⟩:=g.2 rfl rfl;exact ⟨.returned v,p,hR,(zLi S B).trans (zLi a (.one (zMT (fr:=b.atR q (.code (.goto t)::X)) T V rfl) (stepR_round_goto rfl rfl hk m)))⟩
  | panic i=>
   obtain ⟨fn,O,K⟩:=K;obtain ⟨Z,z⟩:=g;obtain ⟨e',A,fr',⟨rfl,hR⟩,a,E,s⟩:=zQU q.defers (.panicking i) y { b.atR q Z with mode:=.panicking i } (c::cs) rfl rfl rfl O rfl T V K;exact ⟨.panicked i,A,hR,(zLi S B).trans ((zLi z a).trans (.one (fenced_leaving (n:=n) (by rw [E];exact T) V s) (step_leave_panicked s)))⟩
  | outgrown=>exact K.elim
 | exit id=>exact Q.elim
 | goto t=>exact Q.elim
 | ret=>exact Q.elim
 | panic i=>exact Q.elim
 | outgrown=>exact Q.elim
end
def zE8 (Keep:Ψ)(I:World -> Prop)(A:Code -> World -> Prop)(e:List PanicEntry -> World -> Prop)(W:World):Exit -> Act -> World -> Prop
 | .normal,_,p=>AS (λk=>¬ Keep k) W p/\ I p
 | .ret,_,p=>AS (λk=>¬ Keep k) W p/\ A .ret p
 | .exit id,_,p=>AS (λk=>¬ Keep k) W p/\ A (.exit id) p
 | .goto t,_,p=>AS (λk=>¬ Keep k) W p/\ A (.goto t) p
 | .panic c,a,p=>∃ B,EM B a.defers p/\ ∀ i,NM B p i -> AS (λk=>¬ Keep k) W i/\ e c i
 | .outgrown,_,_=>False
def pH (nv:Prop)(P:Program)(g:Nat)(lb:Array Value){X:Type}(E:X -> (Ψ) -> World -> Array Value -> Prop)(encs:List X)(GT:Ending -> (Ψ) -> (Ψ) -> World -> Prop)(G0 Rd:Ψ)(w:World):Prop:= ∀ (l:Nat) (J:Nat -> (Ψ) -> (Ψ) -> World -> Prop) (c:(Ψ) -> (Ψ) -> World -> Prop) (W:World), (∀ i,Cw (J i)) -> Cw c -> AS (λk=>¬ (G0 k∨Rd k)) w W -> (∀ i x args G R a,encs[i]? =some x -> E x R a args -> J i G R a -> D8 G R a -> YieldAt Fence.wide 0 P l args a λe p=> AS (λk=>¬ (G k∨R k)) a p/\ ((e= .returned (.bool true)/\ J (i+1) G R p)∨(e= .returned (.bool false)/\ c G R p))) -> J 0 G0 Rd W -> (nv -> ∀ G R W,¬ c G R W) -> CallsIn Fence.wide 0 P g (#[.func (.yield l) #[] #[]]++lb) W λe p=>∃ G R,D8 G R p/\ ((J encs.length G R p/\ GT e G R p)∨((∃ v,e= .returned v)/\ c G R p))
def Ul (nv np:Prop)(P:Program)(g:Nat)(lb:Array Value){X:Type}(E:X -> (Ψ) -> World -> Array Value -> Prop)(encs:List X)(GT:Ending -> (Ψ) -> (Ψ) -> World -> Prop)(G0 Rd:Ψ)(w:World):Prop:= ∀ (l:Nat) (J:Nat -> (Ψ) -> (Ψ) -> World -> Prop) (b:(Ψ) -> (Ψ) -> World -> Prop) (Q:List PanicEntry -> (Ψ) -> (Ψ) -> World -> Prop) (W:World), (∀ i,Cw (J i)) -> Cw b -> (∀ c,Cw (Q c)) -> AS (λk=>¬ (G0 k∨Rd k)) w W -> (∀ i x args G R a,encs[i]? =some x -> E x R a args -> J i G R a -> D8 G R a -> YieldAt Fence.wide 0 P l args a λe p=> AS (λk=>¬ (G k∨R k)) a p/\ ((e= .returned (.bool true)/\ J (i+1) G R p)∨(e= .returned (.bool false)/\ b G R p)∨∃ c,e= .panicked c/\ Q c G R p)) -> J 0 G0 Rd W -> (nv -> ∀ G R W,¬ b G R W) -> (np -> ∀ c G R W,¬ Q c G R W) -> CallsIn Fence.wide 0 P g (#[.func (.yield l) #[] #[]]++lb) W λe p=>∃ G R,D8 G R p/\ ((J encs.length G R p/\ GT e G R p)∨((∃ v,e= .returned v)/\ b G R p)∨∃ c,e= .panicked c/\ Q c G R p)
theorem YieldAt.mono {P:Program}{l:Nat}{args:Array Value}{w:World}{R R':Ending -> World -> Prop}(h:YieldAt Fence.wide 0 P l args w R)(hR: ∀ e w',R e w' -> R' e w'):YieldAt Fence.wide 0 P l args w R':=by
 obtain ⟨fn,tmps,a,body,b,c⟩:=h;exact ⟨fn,tmps,a,body,b,c.mono hR⟩
def pH.gen {nv:Prop}{P:Program}{g:Nat}{lb:Array Value}{X:Type}{E:X -> (Ψ) -> World -> Array Value -> Prop}{encs:List X}{GT:Ending -> (Ψ) -> (Ψ) -> World -> Prop}{G0 Rd:Ψ}{w:World}(h:pH nv P g lb E encs GT G0 Rd w):Ul nv True P g lb E encs GT G0 Rd w:=
 λl J b Jp W hJ d _ t hy h0 f j=>(h l J b W hJ d t (λi x args G R v k m n A=>YieldAt.mono (hy i x args G R v k m n A) λe p ⟨a,s⟩=>⟨a,s.imp id λq=>q.resolve_right λ⟨c,_,q⟩=>j trivial c _ _ _ q⟩) h0 f).mono λe p ⟨G,R,a,s⟩=>⟨G,R,a,s.imp id .inl⟩
abbrev PN:=@pH False
section
variable {P:Program} {X:Type} {E:X -> (Ψ) -> World -> Array Value -> Prop} {GT:Ending -> (Ψ) -> (Ψ) -> World -> Prop} {encs:List X} {G0 Rd:Ψ} {ps:Array Tmp} {assign body:Code} {a:Act} {gf:Nat} {lb:Array Value}
def Yi (P:Program)(E:X -> (Ψ) -> World -> Array Value -> Prop)(encs:List X)(ps:Array Tmp)(assign body:Code)(a:Act)(l:Nat)(I:Nat -> (Ψ) -> (Ψ) -> World -> Prop)(A:Code -> (Ψ) -> (Ψ) -> World -> Prop)(e:List PanicEntry -> (Ψ) -> (Ψ) -> World -> Prop):Prop:= ∀ (G R:Ψ) (i:Nat) (x:X) (args:Array Value) (W:World),encs[i]? =some x -> E x R W args -> I i G R W -> D8 G R W -> (∃ r,W.heap[l]? =some (.loop r)) -> G l -> assign.wpIn (Fence.wide.inRound l) 0 P (Exit.then (λb g=>∃ K:(Ψ) -> (Ψ) -> World -> Prop,Cw K/\ AS (λk=>¬ (G k∨R k)) W g/\ K G R g/\ ∀ H,K G R H -> (∃ r,H.heap[l]? =some (.loop r)) -> body.wpIn (Fence.wide.inRound l) 0 P (zE8 (λk=>G k∨R k) (I (i+1) G R) (λc=>A c G R) (λc=>e c G R) H) b H) (λ_ _ _=>False)) { tmps:=(ps.zip args).foldl (λt (p,v)=>t.setIfInBounds p v) a.tmps,defers:=[] } W
variable {nv np:Prop}
theorem tf {w0 w:World}{l D dd:Nat}{fn:FuncId}{loose:Bool}(lq:np∨∃ f,P.funcs[fn]? =some f) 
 (hseq:Ul nv np P gf lb E encs GT G0 Rd w0) (hb0:AS (λk=>¬ (G0 k∨Rd k)) w0 w) (Gk: ∀ k,G0 k∨Rd k -> k<l/\ k≠D) (Tw: ∀ k,G0 k -> ¬ Rd k) (Es: ∀ x∈encs,∀ R W args,E x R W args -> args.size=ps.size)
 (N:LoopState -> Option Code -> Loop) (CJ: ∀ st pe,N st pe= { state:=st,pending:=pe,fn,tmps:=a.tmps,params:=ps,assign,body,defers:=dd })
 (In:w.heap[l]? =some (.loop (N .ready none))) (hD1:loose=false -> w.heap[D]? =some (.deferred (some []))) (xk:D≠l)
 (I:Nat -> (Ψ) -> (Ψ) -> World -> Prop) (M:Code -> (Ψ) -> (Ψ) -> World -> Prop) (z:List PanicEntry -> (Ψ) -> (Ψ) -> World -> Prop) (hI: ∀ i,Cw (I i)) (Ja: ∀ c,Cw (M c)) (Q5: ∀ c,Cw (z c)) (Oj:nv -> ∀ c G R W,¬ M c G R W) (Lj:np -> ∀ c G R W,¬ z c G R W) (own:Ψ) (Wt: ∀ k,own k -> k=l∨(loose=false/\ k=D)) (Q:own l) (O:loose=false -> own D)
 (h0:I 0 (λk=>G0 k∨own k) Rd w) (DU:Yi P E encs ps assign body a l I M z):
 CallsIn Fence.wide 0 P gf (#[.func (.yield l) #[] #[]]++lb) w λe y=>∃ G R,D8 (λk=>G k∨own k) R y/\ (∀ k,own k -> ¬ G k)/\ (loose=false -> y.heap[D]? =some (.deferred (some [])))/\
  ((I encs.length (λk=>G k∨own k) R y/\ GT e G R y/\ y.heap[l]? =some (.loop (N .ready none)))∨((∃ v,e= .returned v)/\ ∃ c,M c (λk=>G k∨own k) R y/\ y.heap[l]? =some (.loop (N .done (some c))))∨∃ c,e= .panicked c/\ z c (λk=>G k∨own k) R y):=by
 have bo: ∀ {W:World} {r:Loop} {k:Nat},W.heap[l]? =some (.loop r) -> (loose=false -> W.heap[D]? =some (.deferred (some []))) -> own k -> k<W.heap.size:=λC F ho=>
  (Wt _ ho).elim (λe=>e▸(zA0.1 C).1) (λe=>e.2▸(zA0.1 (F e.1)).1)
 have shr: ∀ {G R:Ψ} {W:World} {r:Loop},D8 G R W -> (∀ k,own k -> ¬ G k/\ ¬ R k) -> W.heap[l]? =some (.loop r) -> (loose=false -> W.heap[D]? =some (.deferred (some []))) -> D8 (λk=>G k∨own k) R W:=λX u C F=>
  ⟨λk hk=>hk.elim (X.dis k) λh=>(u k h).2,λk hk=>hk.elim (λh=>h.elim (λh=>X.lt k (.inl h)) (bo C F)) λh=>X.lt k (.inr h)⟩
 have DP: ∀ (Φ:(Ψ) -> (Ψ) -> World -> Prop) (r:Loop),Cw Φ -> Cw (λG R W=>Φ (λk=>G k∨own k) R W/\ (∀ k,own k -> ¬ G k/\ ¬ R k)/\ W.heap[l]? =some (.loop r)/\ (loose=false -> W.heap[D]? =some (.deferred (some [])))):=by
  rintro Φ r hΦ G R G' R' A B ⟨h1,h2,C,F⟩ Y hg m Ik p n
  have u: ∀ k,own k -> ¬ G' k/\ ¬ R' k:=λk ho=>by
   grind
  have dy:=(Y.block l (bo C F Q) (h2 l Q).1).trans C;have yS:loose=false -> B.heap[D]? =some (.deferred (some [])):=λo=>(Y.block D (bo C F (O o)) (h2 D (O o)).1).trans (F o)
  refine ⟨hΦ _ R _ R' A B h1 (Y.mono λi _ h=>.inl h) (λk hk=>hk.elim (λh=>(hg k h).imp .inl id) λh=>.inl (.inr h)) (λk hk=>(m k hk).imp id λh=>h.imp .inl id) (λk hk=>?_) (λk hk=>hk.elim (p k) λh=>(u k h).2) (λk hk=>hk.elim (λh=>h.elim (λh=>n k (.inl h)) (bo dy yS)) λh=>n k (.inr h)),u,dy,yS⟩
  grind
 have hGl: ∀ k,G0 k∨Rd k -> k<w.heap.size:=λk h=>Nat.lt_trans (Gk k h).1 (zA0.1 In).1
 have GM: ∀ k,own k -> ¬ G0 k/\ ¬ Rd k:=λk ho=>by
  grind
 refine (hseq l
  (λi G R W=>I i (λk=>G k∨own k) R W/\ (∀ k,own k -> ¬ G k/\ ¬ R k)/\ W.heap[l]? =some (.loop (N .ready none))/\ (loose=false -> W.heap[D]? =some (.deferred (some []))))
  (λG R W=>∃ c,M c (λk=>G k∨own k) R W/\ (∀ k,own k -> ¬ G k/\ ¬ R k)/\ W.heap[l]? =some (.loop (N .done (some c)))/\ (loose=false -> W.heap[D]? =some (.deferred (some []))))
  (λc G R W=>z c (λk=>G k∨own k) R W/\ (∀ k,own k -> ¬ G k/\ ¬ R k)/\ W.heap[l]? =some (.loop { N .ready none with state:=.busy })/\ (loose=false -> W.heap[D]? =some (.deferred (some []))))
  w (λi=>DP (I i) _ (hI i)) (λG R G' R' A B ⟨c,h⟩ Y hg m Ik p n=>⟨c,DP (M c) _ (Ja c) G R G' R' A B h Y hg m Ik p n⟩) (λc=>DP (z c) _ (Q5 c)) hb0 ?_ ⟨h0,GM,In,hD1⟩ (λu G R W ⟨c,h,_⟩=>Oj u c _ _ _ h) (λu c G R W ⟨h,_⟩=>Lj u c _ _ _ h)).mono ?_
 ·rintro i x args G R W g hE ⟨hi,u,o,p⟩ X;have Tc:x∈encs:=zJ1 g;have n:l<W.heap.size:=(zA0.1 o).1;have KQ:=shr X u o p;have hy:=run_yield (P:=P) (args:=args) o Z4;rw [CJ] at hy;refine ⟨fn,_,assign,body,hy,zFB trivial (zMY (DU _ R i x args W g hE hi KQ ⟨_,o⟩ (.inr Q)) ?_)⟩;rintro e a1 q hq;cases e <;> first | exact hq.elim | skip
  obtain ⟨K,hK,Z,hk1,hb⟩:=hq;have xF:AS (λk=>¬ (G k∨R k)) W q:=Z.mono λk _ h g=>h (g.imp .inl id)
  have o:=(Z.block l n (λh=>h (.inl (.inr Q)))).trans o;have p:loose=false -> q.heap[D]? =some (.deferred (some [])):=λh=>(Z.block D (zA0.1 (p h)).1 (λg=>g (.inl (.inr (O h))))).trans (p h)
  have n:l<q.heap.size:=zCD n Z.size;have dO:=KQ.upd Z;refine ⟨_,run_beginRound o (by rw [CJ]),?_⟩;have DY:(q.putObj l (.loop { N .ready none with state:=.busy })).heap[l]? =some (.loop { N .ready none with state:=.busy }):=World.putObj_heap_same n;have JX:loose=false -> (q.putObj l (.loop { N .ready none with state:=.busy })).heap[D]? =some (.deferred (some [])):=λh=>(zKB xk).trans (p h)
  have Wn:AS (λk=>G k∨own k) q (q.putObj l (.loop { N .ready none with state:=.busy })):=(AS.refl _ q).putObj (λ_=>.inr Q) _;refine zMY (hb _ (hK.same dO hk1 Wn) ⟨_,DY⟩) ?_
  have J: ∀ (s:Option Code) (b:World),AS (λk=>¬ ((G k∨own k)∨R k)) (q.putObj l (.loop { N .ready none with state:=.busy })) b ->
   (Instr.endRound l s).run P b= .ok (.bool s.isNone) (b.putObj l (.loop (N (if s.isNone then .ready else .done) s)))/\
   (b.putObj l (.loop (N (if s.isNone then .ready else .done) s))).heap[l]? =some (.loop (N (if s.isNone then .ready else .done) s))/\
   (loose=false -> (b.putObj l (.loop (N (if s.isNone then .ready else .done) s))).heap[D]? =some (.deferred (some [])))/\
   AS (λk=>¬ (G k∨R k)) W (b.putObj l (.loop (N (if s.isNone then .ready else .done) s)))/\
   D8 (λk=>G k∨own k) R b/\ AS (λk=>G k∨own k) b (b.putObj l (.loop (N (if s.isNone then .ready else .done) s))):=λs b d=>by
   have dY:b.heap[l]? =some (.loop { N .ready none with state:=.busy }):=(d.block l (by simpa using n) (λh=>h (.inl (.inr Q)))).trans DY;have:=run_endRound (P:=P) s dY;refine ⟨Z4,World.putObj_heap_same (zA0.1 dY).1,λh=>(zKB xk).trans ((d.block D ?_ (λg=>g (.inl (.inr (O h))))).trans (JX h)),xF.comp (S':=λk=>¬ (G k∨R k)) ?_ (λ_ _ h=>h),(dO.upd Wn).upd d,(AS.refl _ b).putObj (λ_=>.inr Q) _⟩
   ·grind
   ·refine ⟨d.os,d.tape,d.output,by simpa using d.size,λk hk Tq=>?_⟩;have nB:G k∨R k:=Classical.not_not.1 Tq
    by_cases FT:k=l
    ·grind
    ·rw [zKB FT,d.block k (by simpa using hk) (λg=>g (nB.imp .inl id)),zKB FT]
  rintro e a3 b j;cases e with
  | normal=>
   obtain ⟨d,mV⟩:=j;obtain ⟨m,H,S,U,V,L⟩:=J none b d;exact ⟨_,_,m,U,.inl ⟨rfl,(hI _).same V mV L,u,H,S⟩⟩
  | ret=>
   obtain ⟨m,H,S,U,V,L⟩:=J (some .ret) b j.1;exact ⟨_,_,m,U,.inr (.inl ⟨rfl,.ret,(Ja _).same V j.2 L,u,H,S⟩)⟩
  | exit id=>
   obtain ⟨m,H,S,U,V,L⟩:=J (some (.exit id)) b j.1;exact ⟨_,_,m,U,.inr (.inl ⟨rfl,(.exit id),(Ja _).same V j.2 L,u,H,S⟩)⟩
  | goto t=>
   obtain ⟨m,H,S,U,V,L⟩:=J (some (.goto t)) b j.1;exact ⟨_,_,m,U,.inr (.inl ⟨rfl,(.goto t),(Ja _).same V j.2 L,u,H,S⟩)⟩
  | panic ch=>
   obtain ⟨B,hm,j⟩:=j
   have key: ∀ T,NM B b T -> AS (λk=>¬ (G k∨R k)) W T/\ (z ch (λk=>G k∨own k) R T/\ (∀ k,own k -> ¬ G k/\ ¬ R k)/\ T.heap[l]? =some (.loop { N .ready none with state:=.busy })/\ (loose=false -> T.heap[D]? =some (.deferred (some [])))):=λT Il=>by
    obtain ⟨d,mV⟩:=j T Il;have dY:T.heap[l]? =some (.loop { N .ready none with state:=.busy }):=(d.block l (by simpa using n) (λh=>h (.inl (.inr Q)))).trans DY;refine ⟨xF.comp (S':=λk=>¬ (G k∨R k)) ⟨d.os,d.tape,d.output,by simpa using d.size,λk hk Tq=>?_⟩ (λ_ _ h=>h),mV,u,dY,λh=>(d.block D ?_ (λg=>g (.inl (.inr (O h))))).trans (JX h)⟩
    ·have nB:G k∨R k:=Classical.not_not.1 Tq;have FT:k≠l:=λe=>Z4
     rw [d.block k (by simpa using hk) (λg=>g (nB.imp .inl id)),zKB FT]
    grind
   rcases lq with zLV | ⟨f,hf⟩
   ·exact (Lj zLV _ _ _ _ (j b (AS.refl _ _)).2).elim
   ·exact ⟨f,hf,cc Z3 _ _ hm λT Il=>⟨rfl,(key T Il).1,.inr (.inr ⟨ch,rfl,(key T Il).2⟩)⟩⟩
  | outgrown=>exact j.elim
 grind
variable {Q:Exit -> Act -> World -> Prop}{g:Operand}
theorem pU {fi:FuncId}(J:np∨∃ f,P.funcs[fi]? =some f){w:World}(K:a.eval g= .func (.func gf) #[] lb)(L: ∀ args w,(callFunc gf args).run P w= .ok (.enter gf args) w) 
 (hseq:Ul nv np P gf lb E encs GT G0 Rd w) (V:D8 G0 Rd w) (O: ∀ x∈encs,∀ R W args,E x R W args -> args.size=ps.size)
 (I:Nat -> (Ψ) -> (Ψ) -> World -> Prop) (A:Code -> (Ψ) -> (Ψ) -> World -> Prop) (d:List PanicEntry -> (Ψ) -> (Ψ) -> World -> Prop) (n: ∀ i,Cw (I i)) (B: ∀ c,Cw (A c)) (T: ∀ c,Cw (d c)) (U:nv -> ∀ c G R W,¬ A c G R W) (X:np -> ∀ c G R W,¬ d c G R W) (h0:I 0 G0 Rd w) (Y: ∀ l,Yi P E encs ps assign body a l I A d)
 (q: ∀ (D:Nat) (e:Ending) (G R own:Ψ) (W p:World),GT e G R W -> I encs.length (λk=>G k∨own k) R p -> D8 (λk=>G k∨own k) R p -> (∀ k,own k -> ¬ G k) -> AS own W p -> p.heap[D]? =some (.deferred (some [])) -> w.heap.size<=D ->
  match e with
  | .returned _=>Q .normal { a with defers:={ target:=.collected D,args:=#[] }::a.defers } p
  | .panicked c=>Q (.panic c) { a with defers:={ target:=.collected D,args:=#[] }::a.defers } p
  | .outgrown=>False)
 (Z: ∀ (D:Nat) (c:Code) (G R:Ψ) (W:World),A c G R W -> W.heap[D]? =some (.deferred (some [])) -> w.heap.size<=D ->
  c.wpIn Fence.wide 0 P Q { a with defers:={ target:=.collected D,args:=#[] }::a.defers } W)
 (Tm: ∀ (D:Nat) (c:List PanicEntry) (G R:Ψ) (W:World),d c G R W -> W.heap[D]? =some (.deferred (some [])) -> w.heap.size<=D -> Q (.panic c) { a with defers:={ target:=.collected D,args:=#[] }::a.defers } W):
 I1 Fence.wide 0 P fi (.rangeFunc g ps assign body) Q a w:=by
 refine zBG λ_=>?_
 have KQ:(w.alloc (.deferred (some []))).heap.size=w.heap.size+1:=World.size_alloc _ _;obtain ⟨N,j⟩: ∃ N:LoopState -> Option Code -> Loop,∀ st M,N st M= { state:=st,pending:=M,fn:=fi,tmps:=a.tmps,params:=ps,assign,body,defers:=w.heap.size }:=⟨_,λ_ _=>rfl⟩;obtain ⟨b,Tz⟩: ∃ b,(w.alloc (.deferred (some []))).alloc (.loop (N .ready none))=b:=⟨_,rfl⟩
 have C:b.heap[w.heap.size+1]? =some (.loop (N .ready none)):=by
  grind [World.alloc_heap_new]
 have r:b.heap[w.heap.size]? =some (.deferred (some [])):=by
  grind [Below.heap_alloc,World.alloc_heap_new]
 have F: ∀ S,AS S w b:=λS=>by rw [←Tz];exact ((AS.refl S w).alloc _).alloc _
 have Ab:=(zA0.1 C).1
 refine ⟨w.heap.size+1,[{ target:=.collected w.heap.size,args:=#[] }],b,{ target:=.fn (.func gf) lb,args:=#[.func (.yield (w.heap.size+1)) #[] #[]] },b,gf,
  #[.func (.yield (w.heap.size+1)) #[] #[]]++lb,b,?_,?_,λ_ _=>trivial,?_,(λh=>by cases h),?_⟩
 ·simp_all [run_enterLoop_outer]
 ·simp only [resolve,K];simp [go_sem]
 ·simp [invoke,go_sem,L]
 ·refine (tf J (loose:=false) (D:=w.heap.size) hseq (F _) (λk h=>by have:=V.lt k h;omega) V.dis O N j C (λ_=>r) Z2
   I A d n B T U X (λk=>k=w.heap.size+1∨k=w.heap.size) (λk h=>h.imp id λh=>⟨rfl,h⟩) (.inl rfl) (λ_=>.inr rfl)
   (n 0 G0 Rd _ Rd _ _ h0 (F _) (λk h=>h.imp id Z2) (λk h=>.inl h) (λk h=>h.imp .inl id) (λk h H=>?_) (λk h=>?_)) (Y _)).mono ?_
  ·rcases h with h | h
   ·exact V.dis k h H
   ·have:=V.lt k (.inr H);omega
  ·rcases h with (h | h) | h
   ·have:=V.lt k (.inl h);omega
   ·omega
   ·have:=V.lt k (.inr h);omega
  rintro e y ⟨G,R,m,u,hk,(⟨hi,s,t⟩ | ⟨⟨v,rfl⟩,c,hi,t⟩ | ⟨c,rfl,hi⟩)⟩
  ·have z: ∀ o,AS (λk=>k=w.heap.size+1∨k=w.heap.size) y (y.putObj (w.heap.size+1) o):=λo=>(AS.refl _ y).putObj (λ_=>.inl rfl) _
   have BE: ∀ o,AS (λk=>G k∨k=w.heap.size+1∨k=w.heap.size) y (y.putObj (w.heap.size+1) o):=λo=>(z o).mono λ_ _ h=>.inr h
   cases e with
   | returned v=>exact ⟨none,_,by have:=run_endLoop (P:=P) t (by rw [j];simp);rw [j] at this;exact this,
    q _ (.returned v) G R _ y _ s ((n _).same m hi (BE _)) (m.upd (z _)) u (z _) ((zKB Z2).trans (hk rfl)) (zBT _)⟩
   | panicked c=>exact q _ (.panicked c) G R _ y y s hi m u (AS.refl _ _) (hk rfl) (zBT _)
   | outgrown=>exact (q _ .outgrown G R _ y y s hi m u (AS.refl _ _) (hk rfl) (zBT _)).elim
  ·exact ⟨some c,_,by have:=run_endLoop (P:=P) t (by rw [j];simp);rw [j] at this;exact this,
    Z _ c _ _ _ ((B _).same m hi ((AS.refl _ y).putObj (λ_=>.inr (.inl rfl)) _)) ((zKB Z2).trans (hk rfl)) (zBT _)⟩
  ·exact Tm _ c _ _ _ hi (hk rfl) (zBT _)
def zBD {w:World}(n:a.eval g= .func (.func gf) #[] lb)(d: ∀ args w,(callFunc gf args).run P w= .ok (.enter gf args) w) 
 (hseq:Ul nv True P gf lb E encs GT G0 Rd w) (V:D8 G0 Rd w) (f: ∀ x∈encs,∀ R W args,E x R W args -> args.size=ps.size)
 (I:Nat -> (Ψ) -> (Ψ) -> World -> Prop) (A:Code -> (Ψ) -> (Ψ) -> World -> Prop) (b:List PanicEntry -> (Ψ) -> (Ψ) -> World -> Prop) (j: ∀ i,Cw (I i)) (r: ∀ c,Cw (A c)) (S: ∀ c,Cw (b c)) (m:nv -> ∀ c G R W,¬ A c G R W) (M: ∀ c G R W,¬ b c G R W) (h0:I 0 G0 Rd w) (L: ∀ l,Yi P E encs ps assign body a l I A b)
 (y: ∀ (D:Nat) (e:Ending) (G R own:Ψ) (W p:World),GT e G R W -> I encs.length (λk=>G k∨own k) R p -> D8 (λk=>G k∨own k) R p -> (∀ k,own k -> ¬ G k) -> AS own W p -> p.heap[D]? =some (.deferred (some [])) -> w.heap.size<=D ->
  match e with
  | .returned _=>Q .normal { a with defers:={ target:=.collected D,args:=#[] }::a.defers } p
  | .panicked c=>Q (.panic c) { a with defers:={ target:=.collected D,args:=#[] }::a.defers } p
  | .outgrown=>False)
 (o: ∀ (D:Nat) (c:Code) (G R:Ψ) (W:World),A c G R W -> W.heap[D]? =some (.deferred (some [])) -> w.heap.size<=D ->
  c.wpIn Fence.wide 0 P Q { a with defers:={ target:=.collected D,args:=#[] }::a.defers } W):
 (Code.rangeFunc g ps assign body).wpIn Fence.wide 0 P Q a w:=
 zBF λ_=>pU (.inl trivial) n d hseq V f I A b j r S m (λ_=>M) h0 L y o λD c G R W h=>(M c G R W h).elim
theorem zBE {l0:Nat}{w:World}(H:a.eval g= .func (.func gf) #[] lb)(J: ∀ args w,(callFunc gf args).run P w= .ok (.enter gf args) w)(X: ∃ r,w.heap[l0]? =some (.loop r)) 
 (hseq:Ul nv True P gf lb E encs GT G0 Rd w) (V:D8 G0 Rd w) (K: ∀ x∈encs,∀ R W args,E x R W args -> args.size=ps.size)
 (I:Nat -> (Ψ) -> (Ψ) -> World -> Prop) (A:Code -> (Ψ) -> (Ψ) -> World -> Prop) (j:List PanicEntry -> (Ψ) -> (Ψ) -> World -> Prop) (m: ∀ i,Cw (I i)) (z: ∀ c,Cw (A c)) (L: ∀ c,Cw (j c)) (O:nv -> ∀ c G R W,¬ A c G R W) (T: ∀ c G R W,¬ j c G R W) (h0:I 0 G0 Rd w) (U: ∀ l,Yi P E encs ps assign body a l I A j)
 (n: ∀ (e:Ending) (G R own:Ψ) (W p:World),GT e G R W -> I encs.length (λk=>G k∨own k) R p -> D8 (λk=>G k∨own k) R p -> (∀ k,own k -> ¬ G k) -> AS own W p ->
  match e with
  | .returned _=>Q .normal a p
  | .panicked c=>Q (.panic c) a p
  | .outgrown=>False)
 (Y: ∀ (c:Code) (G R:Ψ) (W:World),A c G R W -> c.wpIn (Fence.wide.inRound l0) 0 P Q a W):
 (Code.rangeFunc g ps assign body).wpIn (Fence.wide.inRound l0) 0 P Q a w:=by
 refine wpIn_rangeFunc ?_;intro fn _;obtain ⟨r0,FP⟩:=X;obtain ⟨N,d⟩: ∃ N:LoopState -> Option Code -> Loop,∀ st M,N st M= { state:=st,pending:=M,fn,tmps:=a.tmps,params:=ps,assign,body,defers:=r0.defers }:=⟨_,λ_ _=>rfl⟩;obtain ⟨b,Z⟩: ∃ b,w.alloc (.loop (N .ready none))=b:=⟨_,rfl⟩
 have B:b.heap[w.heap.size]? =some (.loop (N .ready none)):=by
  grind [World.alloc_heap_new]
 have C: ∀ S,AS S w b:=λS=>by rw [←Z];exact (AS.refl S w).alloc _
 have Ab:=(zA0.1 B).1
 refine ⟨w.heap.size,[],b,{ target:=.fn (.func gf) lb,args:=#[.func (.yield w.heap.size) #[] #[]] },b,gf,
  #[.func (.yield w.heap.size) #[] #[]]++lb,b,?_,?_,λ_ _=>trivial,?_,(λh=>by cases h),?_⟩
 ·simp_all [run_enterLoop_inner]
 ·simp only [resolve,H];simp [go_sem]
 ·simp [invoke,go_sem,J]
 ·refine CallsIn.inRound _ ((tf (.inl trivial) (loose:=true) (D:=w.heap.size+1) (G0:=G0) hseq (C _) (λk h=>by have:=V.lt k h;omega) V.dis K N d B (λh=>by cases h) Z2
   I A j m z L O (λ_=>T) (λk=>k=w.heap.size) (λk h=>.inl h) rfl (λh=>by cases h)
   (m 0 G0 Rd _ Rd _ _ h0 (C _) (λk h=>h.imp id Z2) (λk h=>.inl h) (λk h=>h.imp .inl id) (λk h F=>?_) (λk h=>?_)) (U _)).mono ?_)
  ·rcases h with h | h
   ·exact V.dis k h F
   ·have:=V.lt k (.inr F);omega
  ·rcases h with (h | h) | h
   ·have:=V.lt k (.inl h);omega
   ·omega
   ·have:=V.lt k (.inr h);omega
  rintro e y ⟨G,R,f,u,_,(⟨hi,q,s⟩ | ⟨⟨v,rfl⟩,c,hi,s⟩ | ⟨c,rfl,hi⟩)⟩
  ·have t: ∀ o,AS (λk=>k=w.heap.size) y (y.putObj w.heap.size o):=λo=>(AS.refl (λk=>k=w.heap.size) y).putObj (λ_=>rfl) _
   cases e with
   | returned v=>exact ⟨none,_,by have:=run_endLoop (P:=P) s (by rw [d];simp);rw [d] at this;exact this,
    n (.returned v) G R _ y _ q ((m _).same f hi ((t _).mono λ_ _ h=>.inr h)) (f.upd (t _)) u (t _)⟩
   | panicked c=>exact n (.panicked c) G R _ y y q hi f u (AS.refl _ _)
   | outgrown=>exact (n .outgrown G R _ y y q hi f u (AS.refl _ _)).elim
  ·exact ⟨some c,_,by have:=run_endLoop (P:=P) s (by rw [d];simp);rw [d] at this;exact this,
    Y c _ _ _ ((z _).same f hi ((AS.refl _ y).putObj (λ_=>.inr rfl) _))⟩
  grind
end
def zHH (B:Nat)(P:Program)(fn:Func)(R:Ending -> World -> Prop):Exit -> Act -> World -> Prop
 | .normal,a,w | .ret,a,w=>EM B a.defers w/\ ∀ W,NM B w W -> ∃ v,(results fn a.tmps).run P W= .ok v W/\ R (.returned v) W
 | _,_,_=>False
def zOd (B:Nat){P:Program}{f:FuncId}{fn:Func}{c:Code}{args:Array Value}{w:World}{R:Ending -> World -> Prop} 
 (O:P.funcs[f]? =some fn) (a:fn.body=some c)
 (h:c.wp P (zHH B P fn R) { tmps:=args++Array.replicate (fn.ntmps-args.size) undef,defers:=[] } w):Calls P f args w R:=by
 refine (zPy (n:=0)).1 (callsIn_of_wp_marks O a trivial ?_);refine zMY (wpIn_wide.2 h) λe a' w' Q=>?_
 cases e <;> first | exact cZ _ _ Q.1 Q.2 | exact Q.elim
end
abbrev zA2:=@Option.some.inj
abbrev zBS:=@List.getD_eq_getElem?_getD
abbrev zJy:=@List.length_set
abbrev zKC:=@Array.getD_eq_getD_getElem?
abbrev zMD:=@List.getElem?_set
section
inductive DV where
 | any
 | nils
 | int (k:IntKind) (n:Int)
 | bool (b:Bool)
 | str (s:ByteArray)
 | ints (l:Ξ)
 | bools (l:Ω)
 | sl (m n:Nat) (f:Nat -> Nat -> DV)
 | fp (m:Nat) (f:Nat -> DV)
 | agg (m:Nat) (f:Nat -> DV)
 | tup (m:Nat) (f:Nat -> DV)
 | ref (k j:Nat)
 | msl (k m off n:Nat)
 | mp (k m i j:Nat)
 | fn (g:Nat) (m:Nat) (c:Nat -> DV)
 | it (k:Nat)
 | yl (l:Nat)
 | mse (k m off n:Nat)
 | mri (k i:Nat)
 | cst (u:Value)
 | gr (k:Nat)
structure AK where
 blk:Nat
 off:Nat
 room:Nat
 val:Value
 foot:Ψ
def GD (m:Nat)(f:Nat -> DV):Nat -> DV:=λj=>((List.range m).map f).getD j .any
variable {j m:Nat}{f:Nat -> DV}
def gx (h:j<m):GD m f j=f j:=by simp [GD,h]
def LB:Nat:=140737488355328
def AI (M:Ψ)(w:World):DV -> List AK -> Value -> Prop
 | .any,_,_=>True
 | .nils,_,v=>v= .slice none 0 0
 | .int k n,_,v=>v= .int k n
 | .bool b,_,v=>v= .bool b
 | .str s,_,v=>v= .string s
 | .ints l,_,v=>∃ (a:Option Addr) (cap:Nat),v= .slice a l.length cap/\ l.length<=cap/\ l.length<=LB/\
  ∀ j,j<l.length -> ∃ b o,a=some ⟨b,o,none⟩/\ ¬ M b/\ w.cell? ⟨b,o+j,none⟩=some (.int .i64 (l.getD j 0))
 | .bools l,_,v=>∃ (a:Option Addr) (cap:Nat),v= .slice a l.length cap/\ l.length<=cap/\ l.length<=LB/\
  ∀ j,j<l.length -> ∃ b o,a=some ⟨b,o,none⟩/\ ¬ M b/\ w.cell? ⟨b,o+j,none⟩=some (.bool (l.getD j false))
 | .sl m n f,_,v=>∃ (a:Option Addr) (cap:Nat),v= .slice a n cap/\ n<=cap/\ n<=LB/\
  ∀ i j,i<n -> j<m -> ∃ b o u,a=some ⟨b,o,none⟩/\ ¬ M b/\ w.cell? ⟨b,o+(i*m+j),none⟩=some u/\ AI M w (f i j) [] u
 | .fp m f,_,v=>∃ b o,v= .pointer (some ⟨b,o,none⟩)/\ ∀ j,j<m -> ¬ M b/\ ∃ u,w.cell? ⟨b,o+j,none⟩=some u/\ AI M w (f j) [] u
 | .agg m f,ρ,v=>∃ cs,v= .agg cs/\ cs.size=m/\ ∀ j,j<m -> ∃ u,cs[j]? =some u/\ AI M w (f j) ρ u
 | .tup m f,ρ,v=>∃ cs,v= .tuple cs/\ cs.size=m/\ ∀ j,j<m -> ∃ u,cs[j]? =some u/\ AI M w (f j) ρ u
 | .ref k j,ρ,v=>∃ p:AK,ρ[k]? =some p/\ v= .pointer (some ⟨p.blk,p.off+j,none⟩)
 | .msl k m off n,ρ,v=>∃ (p:AK) (cap:Nat),ρ[k]? =some p/\ v= .slice (some ⟨p.blk,p.off+off*m,none⟩) n cap/\ n<=cap/\ n<=LB/\ p.off+off*m+cap*m<=p.room
 | .mp k m i j,ρ,v=>∃ p:AK,ρ[k]? =some p/\ v= .pointer (some ⟨p.blk,p.off+(i*m+j),none⟩)
 | .fn g m c,ρ,v=>∃ d,v= .func (.func g) #[] d/\ d.size=m/\ ∀ j,j<m -> ∃ u,d[j]? =some u/\ AI M w (c j) ρ u
 | .it k,ρ,v=>∃ p:AK,ρ[k]? =some p/\ v=p.val
 | .yl l,_,v=>v= .func (.yield l) #[] #[]
 | .cst u,_,v=>v=u/\ u.oneCell'=true
 | .gr k,ρ,v=>∃ (p:AK) (a:Option Addr) (n cap:Nat),ρ[k]? =some p/\ v=p.val/\ v= .slice a n cap
 | .mri k i,ρ,v=>∃ (p:AK) (vs:Array Value),ρ[k]? =some p/\ p.val= .tuple vs/\ vs[i]? =some v
 | .mse k m off n,ρ,v=>∃ (p:AK) (a:Option Addr) (cap:Nat),ρ[k]? =some p/\ v= .slice a n cap/\ n<=cap/\ n<=LB/\ (0<cap -> a=some ⟨p.blk,p.off+off*m,none⟩/\ p.off+off*m+cap*m<=p.room)
variable {v:Value}{ρ:List AK}{w:World}{M:Ψ}
theorem K5 (h:j<m)(a:AI M w (f j) ρ v):AI M w (GD m f j) ρ v:=by rw [gx h];exact a
def AY (w:World)(p:AK)(n:Nat)(R:Nat -> Value -> Prop):Prop:= p.foot=(λb=>b=p.blk)/\ ∃ cs t,w.heap[p.blk]? =some (.cells cs t (0,0))/\ p.off+n<=cs.size/\ p.room<=cs.size/\ ∀ j,j<n -> ∃ u,cs[p.off+j]? =some u/\ R j u
/-! ### Rows that an object owns-/
def Hq (w:World)(F:Ψ)(u:Value)(L:Ξ):Prop:= (L= []/\ u= .slice none 0 0)∨∃ (q:AK) (cap:Nat),u= .slice (some ⟨q.blk,q.off,none⟩) L.length cap/\ L.length<=cap/\ q.off+cap<=q.room/\ L.length<=LB/\ F q.blk/\ AY w q L.length λj x=>x= .int .i64 (L.getD j 0)
def C7:Value -> Option Nat
 | .slice (some a) _ _=>some a.block
 | _=>none
variable {b:Nat}{L:Ξ}{u:Value}{F:Ψ}
theorem Hq.blk (h:Hq w F u L)(c:C7 u=some b):F b/\ b<w.heap.size:=by
 rcases h with ⟨_,rfl⟩ | ⟨q,cap,rfl,_,_,_,h5,_,cs,t,h6,_⟩
 ·cases c
 ·cases c;grind
variable {w':World}
theorem Hq.out {v:Ψ}(h:Hq w F u L)(hb: ∀ b,F b -> C7 u=some b -> b<w.heap.size -> w'.heap[b]? =w.heap[b]?)(hF: ∀ b,F b -> C7 u=some b -> v b):Hq w' v u L:=by
 rcases h with h | ⟨q,cap,h1,h2,h3,h4,h5,h6⟩
 ·exact .inl h
 grind [Hq,C7,AY]
structure FZ (w:World)(p:AK)(f:Int -> Ξ)(B7:X4)(u:Value)(es:Array MapEntry)(Ao:Nat):Prop where
 val:p.val= .tuple #[Value.map (some p.blk),u]
 blk:w.heap[p.blk]? =some (.map es Ao)
 own:p.foot p.blk
 key: ∀ e∈es.toList,∃ k,e.key= .int .i64 k/\ ((∀ L,B7≠some (k,L,true)) -> Hq w (λb=>p.foot b/\ b≠p.blk) e.val (f k))
 no: ∀ k,(∀ e∈es.toList,e.key≠.int .i64 k) -> f k= []
 nd:(es.toList.map (·.key)).Nodup
 apart: ∀ e∈es.toList,∀ e'∈es.toList,∀ b,C7 e.val=some b -> C7 e'.val=some b -> e.key=e'.key
 born: ∀ e∈es.toList,e.born<Ao
 stamps:(es.toList.map (·.born)).Nodup
 inHand: ∀ k L g,B7=some (k,L,g) -> Hq w (λb=>p.foot b/\ b≠p.blk) u L/\ ∀ e∈es.toList,∀ b,C7 u=some b -> C7 e.val=some b -> e.key= .int .i64 k
variable {Y:Nat}{es:Array MapEntry}{p:AK}
theorem FZ.out {f:Int -> Ξ}{j:X4}(h:FZ w p f j u es Y)(c: ∀ b,p.foot b -> b<w.heap.size -> w'.heap[b]? =w.heap[b]?):FZ w' p f j u es Y:=
 { h with
  blk:=(c _ h.own (zA0.1 h.blk).1).trans h.blk
  key:=λe M=>let ⟨k,a,d⟩:=h.key e M;⟨k,a,λW=>(d W).out (λb O _ o=>c b O.1 o) λ_ h _=>h⟩
  inHand:=λk L g e=>let ⟨a,d⟩:=h.inHand k L g e;⟨a.out (λb O _ o=>c b O.1 o) λ_ h _=>h,d⟩ }
/-! ### Maps:sets of keys-/
abbrev KS:=List Ξ
def BW:Ξ -> Value
 | [a]=>.int .i64 a
 | l=>.agg (l.map λa=>.int .i64 a).toArray
theorem wl: ∀ {a b:Ξ},BW a=BW b -> a=b:=by
 have r: ∀ {l m:Ξ},(l.map λa=>Value.int .i64 a).toArray=(m.map λa=>Value.int .i64 a).toArray -> l=m:=λ{l m} h=>by
  grind [List.map_inj_right]
 intro a b h
 match a,b with
 | [x],[y]=>cases h;rfl
 | [],[]=>rfl
 | [x],[]=>cases h
 | [],[y]=>cases h
 | [x],y::k::m=>cases h
 | x::x'::l,[y]=>cases h
 | x::x'::l,[]=>exact r (Value.agg.inj h)
 | [],y::k::m=>exact r (Value.agg.inj h)
 | x::x'::l,y::k::m=>exact r (Value.agg.inj h)
structure Fm (w:World)(b n:Nat)(l:KS)(es:Array MapEntry)(Ao:Nat):Prop where
 blk:w.heap[b]? =some (.map es Ao)
 keys:(es.toList.map (·.key)).Perm (l.map BW)
 nd:l.Nodup
 len: ∀ y∈l,y.length=n
 tru: ∀ e∈es.toList,e.val= .bool true
 born: ∀ e∈es.toList,e.born<Ao
 stamps:(es.toList.map (·.born)).Nodup
variable {n:Nat}
theorem Fm.out {l:KS}(h:Fm w b n l es Y)(c:w'.heap[b]? =w.heap[b]?):Fm w' b n l es Y:={ h with blk:=c.trans h.blk }
inductive MX where
 | set (n:Nat) (l:KS)
 | sets (n:Nat) (ls:List (Option KS)) (lk:Option (Nat×Nat×Array MapEntry×Nat))
 | mit (n mb:Nat) (es:Array MapEntry) (Ao:Nat) (rem:KS) (Fi:Option Ξ)
 | rows (f:Int -> Ξ) (B7:X4)
 | rws (ls:List Ξ) (B7:Option (Nat×Ξ))
structure L2 (w:World)(p:AK)(ls:List Ξ)(B7:Option (Nat×Ξ))(vs:Array Value):Prop where
 val:p.val= .tuple vs
 size:vs.size=ls.length+1
 row: ∃ cs t,w.heap[p.blk]? =some (.cells cs t (0,0))/\ p.off+ls.length<=cs.size/\ p.room<=cs.size/\ ∀ j,j<ls.length -> cs[p.off+j]? =vs[j+1]?
 blk:p.foot p.blk
 has: ∀ j,j<ls.length -> (∀ L,B7≠some (j,L)) -> Hq w (λb=>p.foot b/\ b≠p.blk) (vs.getD (j+1) undef) (ls.getD j default)
 apart: ∀ (i j b:Nat),i<ls.length -> j<ls.length -> (∀ L,B7≠some (i,L)) -> (∀ L,B7≠some (j,L)) -> C7 (vs.getD (i+1) undef)=some b -> C7 (vs.getD (j+1) undef)=some b -> i=j
 inHand: ∀ k L,B7=some (k,L) -> Hq w (λb=>p.foot b/\ b≠p.blk) (vs.getD 0 undef) L/\ ∀ (j b:Nat),j<ls.length -> C7 (vs.getD 0 undef)=some b -> C7 (vs.getD (j+1) undef)=some b -> j=k
variable {vs:Array Value}
theorem L2.out {B:List Ξ}{f:Option (Nat×Ξ)}(h:L2 w p B f vs)(c: ∀ b,p.foot b -> b<w.heap.size -> w'.heap[b]? =w.heap[b]?):L2 w' p B f vs:=
 { h with
  row:=let ⟨cs,t,a,d⟩:=h.row;⟨cs,t,(c _ h.blk (zA0.1 a).1).trans a,d⟩
  has:=λj i W=>(h.has j i W).out (λb O _ o=>c b O.1 o) λ_ h _=>h
  inHand:=λk L e=>let ⟨a,d⟩:=h.inHand k L e;⟨a.out (λb O _ o=>c b O.1 o) λ_ h _=>h,d⟩ }
structure F5 (w:World)(p:AK)(n:Nat)(ls:List (Option KS))(lk:Option (Nat×Nat×Array MapEntry×Nat))(vs:Array Value):Prop where
 val:p.val= .tuple vs
 size:vs.size=ls.length
 row: ∃ cs t,w.heap[p.blk]? =some (.cells cs t (0,0))/\ p.off+ls.length<=cs.size/\ p.room<=cs.size/\ ∀ j,j<ls.length -> cs[p.off+j]? =vs[j]?
 blk:p.foot p.blk
 has: ∀ (j:Nat) (l:KS),ls[j]? =some (some l) -> ∃ b:Nat,vs[j]? =some (Value.map (some b))/\ b≠p.blk/\ p.foot b/\ ∃ es Ao,Fm w b n l es Ao/\ ∀ x,lk=some x -> x.1=j -> x.2=(b,es,Ao)
 nil: ∀ (j:Nat),ls[j]? =some none -> vs[j]? =some (Value.map none)
 foot: ∀ b,p.foot b -> b=p.blk∨∃ (j:Nat) (l:KS),ls[j]? =some (some l)/\ vs[j]? =some (Value.map (some b))
 inj: ∀ (i j b:Nat),vs[i]? =some (Value.map (some b)) -> vs[j]? =some (Value.map (some b)) -> i=j
theorem F5.out {B:List (Option KS)}{z:Option (Nat×Nat×Array MapEntry×Nat)}(h:F5 w p n B z vs)(e: ∀ b,p.foot b -> b<w.heap.size -> w'.heap[b]? =w.heap[b]?):F5 w' p n B z vs:=by
 have at_: ∀ {b o},p.foot b -> w.heap[b]? =some o -> w'.heap[b]? =some o:=λ{b o} O y=>(e b O (zA0.1 y).1).trans y
 refine { h with row:=?_,has:=λj l f=>?_ }
 ·obtain ⟨cs,t,a,c⟩:=h.row;exact ⟨cs,t,at_ h.blk a,c⟩
 ·obtain ⟨b,a,c,d,es,Y,A,g⟩:=h.has j l f;exact ⟨b,a,c,d,es,Y,{ A with blk:=at_ d A.blk },g⟩
def PL (w:World)(p:AK):MX -> Prop
 | .set n l=>p.val=Value.map (some p.blk)/\ p.foot=(λb=>b=p.blk)/\ ∃ es Y,Fm w p.blk n l es Y
 | .sets n B z=>∃ vs,F5 w p n B z vs
 | .mit n X es Y y m=>(∀ x,(x∈y∨m=some x) -> x.length=n)/\ p.val= .pointer (some ⟨p.blk,0,none⟩)/\ p.foot=(λb=>b=p.blk)/\ ∃ seen,w.heap[p.blk]? =some (.mapIter (some X) Y seen Y)/\ ((leftOf es seen).toList.map (·.key)).Perm (y.map BW)/\
  ∀ x,m=some x -> ∃ e∈es.toList,e.key=BW x/\ seen.back? =some e.born
 | .rows f j=>∃ u es Y,FZ w p f j u es Y
 | .rws B j=>∃ vs,L2 w p B j vs
theorem PL.out : ∀ {x:MX},PL w p x -> (∀ b,p.foot b -> b<w.heap.size -> w'.heap[b]? =w.heap[b]?) -> PL w' p x
 | .set n l,⟨e,a,es,Y,d⟩,c=>⟨e,a,es,Y,d.out (c _ (by rw [a]) (zA0.1 d.blk).1)⟩
 | .sets n B lk,⟨vs,h⟩,c=>⟨vs,h.out c⟩
 | .rows f j,⟨u,es,Y,h⟩,c=>⟨u,es,Y,h.out c⟩
 | .rws B j,⟨vs,h⟩,c=>⟨vs,h.out c⟩
 | .mit n mb es Y rem Fi,⟨h0,e,a,seen,d,A⟩,c=>⟨h0,e,a,seen,(c _ (by rw [a]) (zA0.1 d).1).trans d,A⟩
inductive DO where
 | cells (l:List DV)
 | ints (l:Ξ)
 | bools (l:Ω)
 | arr (m n:Nat) (f:Nat -> Nat -> DV)
 | iter (encs:List (List DV))
 | ro (l:List DV)
 | mo (x:MX)
 | gro (m n:Nat) (f:Nat -> Nat -> DV)
abbrev DH:=List (Option DO)
def MO (h:DH)(ρ:List AK)(b:Nat):Prop:=∃ (k:Nat) (o:DO) (p:AK),h[k]? =some (some o)/\ ρ[k]? =some p/\ p.foot b
def MS (N:Ψ)(h:DH)(ρ:List AK)(b:Nat):Prop:=N b∨MO h ρ b
def YV (ds:List DV)(R:Ψ)(W:World)(args:Array Value):Prop:=ds.length=args.size/\ ∀ j,j<ds.length -> AI (λb=>b<W.heap.size/\ ¬ R b) W (ds.getD j .any) [] (args.getD j undef)
def Uk:Ending -> (Ψ) -> (Ψ) -> World -> Prop:=λe _ _ _=>∃ v,e= .returned v
def BT (P:Program)(M:Ψ)(w:World)(ρ:List AK)(p:AK):DO -> Prop
 | .cells l=>AY w p l.length λj u=>AI M w (l.getD j .any) ρ u
 | .ints l=>AY w p l.length λj u=>u= .int .i64 (l.getD j 0)
 | .bools l=>AY w p l.length λj u=>u= .bool (l.getD j false)
 | .arr m n f=>AY w p (n*m) λj u=>AI M w (f (j/m) (j % m)) [] u
 | .iter encs=>∃ d a Rd,(p.val= .func (.func d) #[] a/\ ∀ args W,(callFunc d args).run P W= .ok (.enter d args) W)/\ PN P d a YV encs Uk p.foot Rd w/\ (∀ b,Rd b -> ¬ M b/\ b<w.heap.size)/\ ∀ b,p.foot b -> b<w.heap.size
 | .ro l=>p.foot=(λ_=>False)/\ ¬ M p.blk/\ AY w { p with foot:=λb=>b=p.blk } l.length λj u=>AI M w (l.getD j .any) ρ u
 | .mo x=>PL w p x
 | .gro m n f=>(n=0/\ p.val= .slice none 0 0/\ p.foot=λ_=>False)∨∃ cap,p.val= .slice (some ⟨p.blk,p.off,none⟩) n cap/\ n<=cap/\ n<=LB/\ p.off+cap*m<=p.room/\ AY w p (n*m) λj u=>AI M w (f (j/m) (j % m)) [] u
def dh:Obj -> Bool
 | .cells .. =>true
 | .map .. =>true
 | .mapIter .. =>true
 | _=>false
abbrev Ds (w:World)(b:Nat):Prop:=∃ (c:Obj) (_:dh c=true) (_:Unit),w.heap[b]? =some c
theorem Ds.cells {c:Array Value}{t:TypeId}{z:Nat×Nat}(h:w.heap[b]? =some (.cells c t z)):Ds w b:=⟨_,rfl,(),h⟩
structure Ay where
 ng:Nat
 gi:World -> Prop
 st: ∀ w w',gi w -> AS (λb=>ng<=b) w w' -> gi w'
 lo: ∀ w,gi w -> ng<=w.heap.size
structure As (P:Program)(Γ:Ay)(N:Ψ)(h:DH)(ρ:List AK)(w:World):Prop where
 len:ρ.length=h.length
 obj: ∀ (k:Nat) (o:DO),h[k]? =some (some o) -> ∃ p:AK,ρ[k]? =some p/\ BT P (MS N h ρ) w ρ p o
 cel: ∀ (k:Nat) (o:DO) (p:AK) (b:Nat),h[k]? =some (some o) -> ρ[k]? =some p -> p.foot b -> Γ.ng<=b/\ ¬ N b/\ Ds w b
 dis: ∀ (k k':Nat) (o o':DO) (p p':AK) (b:Nat),k≠k' -> h[k]? =some (some o) -> h[k']? =some (some o') -> ρ[k]? =some p -> ρ[k']? =some p' -> p.foot b -> p'.foot b -> False
 nlt: ∀ b,N b -> b<w.heap.size/\ Γ.ng<=b
 gi:Γ.gi w
structure St where
 fr:List DV
 h:DH
def BB (M:Ψ)(w:World)(ρ:List AK)(fr:List DV)(t:Array Value):Prop:= fr.length=t.size/\ ∀ i,i<fr.length -> AI M w (fr.getD i .any) ρ (t.getD i undef)
structure AU (P:Program)(Γ:Ay)(N:Ψ)(S:St)(ρ:List AK)(a:Act)(w:World):Prop where
 hr:As P Γ N S.h ρ w
 fr:BB (MS N S.h ρ) w ρ S.fr a.tmps
structure A3 (h:DH)(ρ:List AK)(w:World)(h':DH)(ρ':List AK)(w':World):Prop where
 upd:AS (MO h ρ) w w'
 grow: ∀ b,MO h' ρ' b -> MO h ρ b∨w.heap.size<=b
theorem A3.refl (h:DH)(ρ:List AK)(w:World):A3 h ρ w h ρ w:=⟨AS.refl _ _,λ_ h=>.inl h⟩
variable {K:World}{ρ' ρ'':List AK}{h' d:DH}
def A3.trans {h:DH}(x:A3 h ρ w h' ρ' w')(y:A3 h' ρ' w' d ρ'' K):A3 h ρ w d ρ'' K:=
 ⟨x.upd.comp y.upd λi hi z=>(x.grow i z).resolve_right Z2,λb c=>(y.grow b c).elim (λh=>x.grow b h) (λh=>.inr (zA4 x.upd.size h))⟩
structure DF (h:DH)(ρ:List AK)(w:World)(h':DH)(ρ':List AK)(w':World):Prop where
 st:A3 h ρ w h' ρ' w'
 pl: ∀ (k:Nat) (p:AK),ρ[k]? =some p -> ρ'[k]? =some p
theorem DF.refl (h:DH)(ρ:List AK)(w:World):DF h ρ w h ρ w:=⟨A3.refl _ _ _,λ_ _ h=>h⟩
def DF.trans {h:DH}(x:DF h ρ w h' ρ' w')(y:DF h' ρ' w' d ρ'' K):DF h ρ w d ρ'' K:=
 ⟨x.st.trans y.st,λk p hk=>y.pl k p (x.pl k p hk)⟩
structure BL (M:Ψ)(w:World)(ρ:List AK)(M':Ψ)(w':World)(ρ':List AK):Prop where
 blk: ∀ b,b<w.heap.size -> ¬ M b -> (∃ c t z,w.heap[b]? =some (.cells c t z)) -> w'.heap[b]? =w.heap[b]?
 m: ∀ b,M' b -> M b∨w.heap.size<=b
 pl: ∀ (k:Nat) (p:AK),ρ[k]? =some p -> ρ'[k]? =some p
variable {o:Nat}
theorem zOZ (h:w.cell? ⟨b,o,none⟩=some u): ∃ c t z,w.heap[b]? =some (.cells c t z):=by
 grind [World.cell?]
variable {M':Ψ}
def BL.nil (h:BL M w ρ M' w' ρ'):BL M w [] M' w' []:=⟨h.blk,h.m,λk p hk=>by simp at hk⟩
def zx (h:w'.heap[b]? =w.heap[b]?):w'.cell? ⟨b,o,none⟩=w.cell? ⟨b,o,none⟩:=by
 unfold World.cell?;rw [h]
theorem BL.cell (h:BL M w ρ M' w' ρ')(Y: ¬ M b)(n:w.cell? ⟨b,o,none⟩=some u):w'.cell? ⟨b,o,none⟩=some u/\ ¬ M' b:=by
 have A:b<w.heap.size:=zKN w ⟨b,o,none⟩ n;exact ⟨(zx (h.blk b A Y (zOZ n))).trans n,λz=>(h.m b z).elim Y Z2⟩
theorem AI.out : ∀ (d:DV) {ρ ρ':List AK} {v:Value},BL M w ρ M' w' ρ' -> AI M w d ρ v -> AI M' w' d ρ' v:=by
 intro d
 induction d with
 | any=>intros;trivial
 | nils=>intro ρ ρ' v _ h;exact h
 | int k n=>intro ρ ρ' v _ h;exact h
 | bool b=>intro ρ ρ' v _ h;exact h
 | str s=>intro ρ ρ' v _ h;exact h
 | ints l=>
  rintro ρ ρ' v H ⟨a,cap,e,A,B,C⟩;refine ⟨a,cap,e,A,B,λj q=>?_⟩;obtain ⟨b,o,K,Y,t⟩:=C j q;obtain ⟨x,y⟩:=H.cell Y t;exact ⟨b,o,K,y,x⟩
 | bools l=>
  rintro ρ ρ' v H ⟨a,cap,e,A,B,C⟩;refine ⟨a,cap,e,A,B,λj q=>?_⟩;obtain ⟨b,o,K,Y,t⟩:=C j q;obtain ⟨x,y⟩:=H.cell Y t;exact ⟨b,o,K,y,x⟩
 | sl m n f z=>
  rintro ρ ρ' v H ⟨a,cap,e,A,B,C⟩;refine ⟨a,cap,e,A,B,λi j hi q=>?_⟩;obtain ⟨b,o,u,K,Y,t,D⟩:=C i j hi q;obtain ⟨x,y⟩:=H.cell Y t;exact ⟨b,o,u,K,y,x,z i j H.nil D⟩
 | fp m f z=>
  rintro ρ ρ' v H ⟨b,o,e,h⟩;refine ⟨b,o,e,λj q=>?_⟩;obtain ⟨Y,u,t,D⟩:=h j q;obtain ⟨x,y⟩:=H.cell Y t;exact ⟨y,u,x,z j H.nil D⟩
 | agg m f z=>
  grind [AI]
 | tup m f z=>
  grind [AI]
 | ref k j=>rintro ρ ρ' v H ⟨p,h,e⟩;exact ⟨p,H.pl _ _ h,e⟩
 | msl k m off n=>rintro ρ ρ' v H ⟨p,cap,h,r⟩;exact ⟨p,cap,H.pl _ _ h,r⟩
 | mp k m i j=>rintro ρ ρ' v H ⟨p,h,e⟩;exact ⟨p,H.pl _ _ h,e⟩
 | fn g m c z=>
  grind [AI]
 | it k=>rintro ρ ρ' v H ⟨p,h,e⟩;exact ⟨p,H.pl _ _ h,e⟩
 | yl l=>intro ρ ρ' v _ h;exact h
 | mse k m off n=>rintro ρ ρ' v H ⟨p,a,cap,h,r⟩;exact ⟨p,a,cap,H.pl _ _ h,r⟩
 | mri k i=>rintro ρ ρ' v H ⟨p,vs,h,r⟩;exact ⟨p,vs,H.pl _ _ h,r⟩
 | cst u=>intro ρ ρ' v _ h;exact h
 | gr k=>rintro ρ ρ' v H ⟨p,a,n,cap,h,r⟩;exact ⟨p,a,n,cap,H.pl _ _ h,r⟩
variable {t:Array Value}
theorem BB.out {fr:List DV}(h:BB M w ρ fr t)(H:BL M w ρ M' w' ρ'):BB M' w' ρ' fr t:=
 ⟨h.1,λi hi=>(h.2 i hi).out _ H⟩
theorem BB.at {fr:List DV}(h:BB M w ρ fr t)(i:Nat):AI M w (fr.getD i .any) ρ (t.getD i undef):=by
 grind [AI,BB]
theorem BB.set {fr:List DV}(h:BB M w ρ fr t)(i:Nat){d:DV}(hv:AI M w d ρ v):BB M w ρ (fr.set i d) (t.setIfInBounds i v):=by
 refine ⟨by simp [h.1],λj a=>?_⟩;rw [zJy] at a;have Fx:j<t.size:=by rw [←h.1];exact a
 have h0:=h.2 j a;simp only [zBS,zKC,zMD,Array.getElem?_setIfInBounds] at h0 ⊢
 grind
variable {S:Ψ}{P:Program}
def PN.later {g:Nat}{m:Array Value}{X:Type}{E:X -> (Ψ) -> World -> Array Value -> Prop}{encs:List X}{U:Ending -> (Ψ) -> (Ψ) -> World -> Prop}{G0 Rd:Ψ}(h:PN P g m E encs U G0 Rd w)(t:AS S w w')(a: ∀ b,b<w.heap.size -> S b -> ¬ (G0 b∨Rd b)):PN P g m E encs U G0 Rd w':=
 λl J c W d e f=>h l J c W d e (t.mono (λi hi j=>a i hi j) |>.trans f)
variable {R:Nat -> Value -> Prop}
theorem AY.out {R':Nat -> Value -> Prop}(h:AY w p n R)(hb:w'.heap[p.blk]? =w.heap[p.blk]?)(hR: ∀ j u,j<n -> R j u -> R' j u):AY w' p n R':=by
 grind [AY]
theorem AY.cell (h:AY w p n R)(hj:j<n): ∃ u,w.cell? ⟨p.blk,p.off+j,none⟩=some u/\ R j u:=by
 grind [World.cell?,AY]
theorem AY.frozen (h:AY w p n R)(o:Nat):w.frozen? ⟨p.blk,o,none⟩=false:=by
 grind [World.frozen?,AY]
def BT.gr {f:Nat -> Nat -> DV}(h:BT P M w ρ p (.gro m n f))(c: ∀ {n R},AY w p n R -> w'.heap[p.blk]? =w.heap[p.blk]?)(a: ∀ {d u},AI M w d [] u -> AI M' w' d [] u):BT P M' w' ρ' p (.gro m n f):=by
 rcases h with h | ⟨cap,B,F,S,C,h⟩
 ·exact .inl h
 ·exact .inr ⟨cap,B,F,S,C,AY.out h (c h) λj u _ h=>a h⟩
theorem BT.out {o:DO}(h:BT P M w ρ p o)(H:BL M w ρ M' w' ρ')(d:AS S w w')(q: ∀ b,S b -> M b)(O: ∀ b,b<w.heap.size -> p.foot b -> ¬ S b):BT P M' w' ρ' p o:=by
 have c: ∀ {n R},AY w p n R -> w'.heap[p.blk]? =w.heap[p.blk]? :=λ{n R} a=>by
  obtain ⟨e,cs,t,g,_⟩:=a;have A:=(zA0.1 g).1;exact d.block _ A (O _ A (by rw [e]))
 cases o with
 | cells l=>grind [AI.out,BT,AY]
 | ints l=>grind [BT,AY]
 | bools l=>grind [BT,AY]
 | arr m n f=>exact AY.out h (c h) λj u _ a=>AI.out _ H.nil a
 | iter encs=>
  obtain ⟨r,s,Rd,e,g,i,v⟩:=h;refine ⟨r,s,Rd,e,g.later d (λb c k hx=>?_),λb c=>⟨λz=>(H.m b z).elim (i b c).1 (by have:=(i b c).2;omega),zCD (i b c).2 d.size⟩,λb c=>zCD (v b c) d.size⟩
  grind
 | ro l=>
  obtain ⟨y,U,B⟩:=h
  have A:p.blk<w.heap.size:=by
   grind [AY]
  exact ⟨y,λz=>(H.m _ z).elim U Z2,AY.out B (d.block _ A λk=>U (q _ k)) λj u _ a=>AI.out _ H a⟩
 | mo x=>exact PL.out h λb c A=>d.block b A (O b A c)
 | gro m n f=>exact BT.gr h c λa=>AI.out _ H.nil a
section
variable {P:Program} {Γ:Ay} {N:Ψ} {h:DH} {ρ:List AK} {w:World}
variable {k:Nat}
theorem MO.unset {b:Nat}(hm:MO (h.set k none) ρ b):MO h ρ b:=by
 grind [MO]
theorem As.lt (H:As P Γ N h ρ w){b:Nat}(a:MS N h ρ b):b<w.heap.size:=by
 rcases a with a | ⟨k,o,p,d,e,f⟩
 ·exact (H.nlt b a).1
 ·obtain ⟨_,_,c,t,z,h4⟩:=H.cel k o p b d e f
  grind
def As.low (H:As P Γ N h ρ w){b:Nat}(c:MO h ρ b):Γ.ng<=b:=by
 obtain ⟨k,o,p,a,d,e⟩:=c;exact (H.cel k o p b a d e).1
def As.lt2 (H:As P Γ N h ρ w){b:Nat}(c:MS N h ρ b):b<w.heap.size/\ Γ.ng<=b:=⟨H.lt c,c.elim (λh=>(H.nlt b h).2) H.low⟩
theorem As.ext (H:As P Γ N h ρ w){w':World}(a:Az w w'):As P Γ N h ρ w':=by
 have O:BL (MS N h ρ) w ρ (MS N h ρ) w' ρ:=⟨λb d _ _=>zQA a b d,λb h=>.inl h,λ_ _ h=>h⟩;refine ⟨H.len,λk o hk=>?_,λk o p b e f g=>?_,H.dis,λb d=>⟨zCD (H.nlt b d).1 a.size,(H.nlt b d).2⟩,Γ.st _ _ H.gi (AS.ofExt a)⟩
 ·obtain ⟨p,i,y⟩:=H.obj k o hk;exact ⟨p,i,y.out O (S:=λ_=>False) (AS.ofExt a) (λ_ h=>h.elim) (λ_ _ _ h=>h)⟩
 ·obtain ⟨g1,g2,c,t,z,g3⟩:=H.cel k o p b e f g
  grind [Below.block,Az]
def BL.ext {M:Ψ}{w w':World}(ρ:List AK)(H:Az w w'):BL M w ρ M w' ρ:=⟨λb c _ _=>zQA H b c,λb h=>.inl h,λ_ _ h=>h⟩
def A3.ext {w w':World}(H:Az w w'):A3 h ρ w h ρ w':=⟨AS.ofExt H,λ_ h=>.inl h⟩
variable {α:Type}
theorem Eg {l:List α}{x y:α}(hk:(l++[x])[k]? =some y):(k<l.length/\ l[k]? =some y)∨(k=l.length/\ x=y):=by
 grind
theorem Ef {l:List α}{x y:α}(hk:l[k]? =some y):(l++[x])[k]? =some y:=by
 grind
theorem MO.snoc (H:As P Γ N h ρ w){o:DO}{p:AK}{b:Nat}(e:MO (h++[some o]) (ρ++[p]) b):MO h ρ b∨p.foot b:=by
 obtain ⟨k,o',p',a,c,f⟩:=e;rcases Eg a with ⟨d,a⟩ | ⟨d,a⟩
 ·grind [MO]
 ·rcases Eg c with ⟨M,_⟩ | ⟨_,c⟩
  ·rw [H.len,←d] at M;omega
  ·subst c;exact .inr f
theorem As.snoc (H:As P Γ N h ρ w){w':World}(g:Az w w'){o:DO}{p:AK}(i: ∀ b,p.foot b -> w.heap.size<=b/\ Ds w' b) 
 (y:BT P (MS N (h++[some o]) (ρ++[p])) w' (ρ++[p]) p o):As P Γ N (h++[some o]) (ρ++[p]) w':=by
 have O:BL (MS N h ρ) w ρ (MS N (h++[some o]) (ρ++[p])) w' (ρ++[p]):=by
  refine ⟨λb hb _ _=>zQA g b hb,λb hb=>?_,λk q hk=>Ef hk⟩;rcases hb with hb | hb
  ·exact .inl (.inl hb)
  ·rcases MO.snoc H hb with hb | hb
   ·exact .inl (.inr hb)
   ·exact .inr (i b hb).1
 refine ⟨by simp [H.len],λk o' hk=>?_,λk o' p' b e a f=>?_,λk j o1 E C F b K e a f A m n=>?_,λb hb=>⟨zCD (H.nlt b hb).1 g.size,(H.nlt b hb).2⟩,Γ.st _ _ H.gi (AS.ofExt g)⟩
 ·rcases Eg hk with ⟨d,hk⟩ | ⟨d,hk⟩
  ·obtain ⟨p',s,u⟩:=H.obj k o' hk;exact ⟨p',Ef s,u.out O (S:=λ_=>False) (AS.ofExt g) (λ_ h=>h.elim) (λ_ _ _ h=>h)⟩
  ·cases hk;exact ⟨p,by rw [d,←H.len];simp,y⟩
 ·rcases Eg e with ⟨d,e⟩ | ⟨d,e⟩
  ·rcases Eg a with ⟨_,a⟩ | ⟨M,_⟩
   ·obtain ⟨l,r,c,t,z,g3⟩:=H.cel k o' p' b e a f
    grind [Below.block,Az]
   ·rw [M,H.len] at d;omega
  ·rcases Eg a with ⟨M,_⟩ | ⟨_,a⟩
   ·rw [H.len,←d] at M;omega
   ·subst a;obtain ⟨l,r⟩:=i b f;exact ⟨zA4 (Γ.lo _ H.gi) l,λv=>by have:=H.nlt b v;omega,r⟩
 ·have Mf: ∀ {k:Nat} {o':DO} {p':AK},(h++[some o])[k]? =some (some o') -> (ρ++[p])[k]? =some p' -> p'.foot b -> k≠h.length -> b<w.heap.size:=by
   intro k o' p' e a f K;rcases Eg e with ⟨d,e⟩ | ⟨d,e⟩
   ·rcases Eg a with ⟨_,a⟩ | ⟨M,_⟩
    ·exact H.lt (.inr ⟨k,o',p',e,a,f⟩)
    ·rw [M,H.len] at d;omega
   ·exact absurd d K
  have new: ∀ {k:Nat} {o':DO} {p':AK},(h++[some o])[k]? =some (some o') -> (ρ++[p])[k]? =some p' -> p'.foot b -> k=h.length -> w.heap.size<=b:=by
   intro k o' p' e a f x;rcases Eg a with ⟨M,_⟩ | ⟨_,a⟩
   ·rw [H.len,←x] at M;omega
   grind
  by_cases B:k=h.length
  ·grind
  ·by_cases D:j=h.length
   ·grind
   ·rcases Eg e with ⟨_,e⟩ | ⟨d,_⟩
    ·rcases Eg a with ⟨_,a⟩ | ⟨d,_⟩
     ·rcases Eg f with ⟨_,f⟩ | ⟨d,_⟩
      ·rcases Eg A with ⟨_,A⟩ | ⟨d,_⟩
       ·exact H.dis k j o1 E C F b K e a f A m n
       grind
      grind
     ·exact D d
    ·exact B d
def BL.snoc (H:As P Γ N h ρ w){w':World}(a:Az w w'){o:DO}{p:AK}(O: ∀ b,p.foot b -> w.heap.size<=b):BL (MS N h ρ) w ρ (MS N (h++[some o]) (ρ++[p])) w' (ρ++[p]):=by
 refine ⟨λb hb _ _=>zQA a b hb,λb hb=>?_,λk q hk=>Ef hk⟩;rcases hb with hb | hb
 ·exact .inl (.inl hb)
 ·rcases MO.snoc H hb with hb | hb
  ·exact .inl (.inr hb)
  ·exact .inr (O b hb)
def A3.snoc (H:As P Γ N h ρ w){w':World}(a:Az w w'){o:DO}{p:AK}(O: ∀ b,p.foot b -> w.heap.size<=b):A3 h ρ w (h++[some o]) (ρ++[p]) w':=
 ⟨AS.ofExt a,λb c=>(MO.snoc H c).imp id (O b)⟩
variable {o':DO}
theorem MO.set {o:DO}(hk:h[k]? =some (some o)){b:Nat}:MO (h.set k (some o')) ρ b↔MO h ρ b:=by
 grind [MO]
def MS.set {o:DO}(hk:h[k]? =some (some o)){b:Nat}:MS N (h.set k (some o')) ρ b↔MS N h ρ b:=by unfold MS;rw [MO.set hk]
theorem As.write (H:As P Γ N h ρ w){w':World}{o:DO}{p:AK}(hk:h[k]? =some (some o))(g:ρ[k]? =some p)(l:AS p.foot w w') 
 (v: ∀ b,p.foot b -> Ds w' b) (ho:BT P (MS N (h.set k (some o')) ρ) w' ρ p o'):As P Γ N (h.set k (some o')) ρ w':=by
 have Y: ∀ b,p.foot b -> MS N h ρ b:=λb a=>.inr ⟨k,o,p,hk,g,a⟩
 have O:BL (MS N h ρ) w ρ (MS N (h.set k (some o')) ρ) w' ρ:=⟨λb a x _=>l.block b a λq=>x (Y b q),λb a=>.inl ((MS.set hk).1 a),λ_ _ h=>h⟩;have n: ∀ {i:Nat} {o1:DO},i≠k -> (h.set k (some o'))[i]? =some (some o1) -> h[i]? =some (some o1):=λ{i} {o1} K d=>Z4
 refine ⟨by simp [H.len],λi o1 hi=>?_,λi o1 C b d f j=>?_,λi Q o1 E C F b K d f j A y B=>?_,λb a=>⟨zCD (H.nlt b a).1 l.size,(H.nlt b a).2⟩,Γ.st _ _ H.gi (l.mono λb _ a=>(H.cel k o p b hk g a).1)⟩
 ·by_cases e:i=k
  ·grind
  ·obtain ⟨C,s,D⟩:=H.obj i o1 (n e hi);exact ⟨C,s,D.out O l Y λb _ d f=>H.dis i k o1 o C p b e (n e hi) hk s g d f⟩
 ·by_cases e:i=k
  ·subst e;have:p=C:=zA2 (g.symm.trans f);subst this;obtain ⟨m,r,_⟩:=H.cel i o p b hk g j;exact ⟨m,r,v b j⟩
  ·obtain ⟨m,r,c,t,z,R⟩:=H.cel i o1 C b (n e d) f j;refine ⟨m,r,c,t,z,(l.block b (zA0.1 R).1 λq=>H.dis i k o1 o C p b e (n e d) hk f g j q).trans R⟩
 ·have u: ∀ {i:Nat} {o1:DO},(h.set k (some o'))[i]? =some (some o1) -> ∃ E,h[i]? =some (some E):=λ{i} {o1} d=>by
   grind
  obtain ⟨G,m⟩:=u d;obtain ⟨I,r⟩:=u f;exact H.dis i Q G I C F b K m r j A y B
def BL.write (hN:True){w':World}{o:DO}{p:AK}(hk:h[k]? =some (some o))(f:ρ[k]? =some p)(t:AS p.foot w w'):BL (MS N h ρ) w ρ (MS N (h.set k (some o')) ρ) w' ρ:=
 ⟨λb c z _=>t.block b c λd=>z (.inr ⟨k,o,p,hk,f,d⟩),λb c=>.inl ((MS.set hk).1 c),λ_ _ h=>h⟩
def A3.write {w':World}{o:DO}{p:AK}(hk:h[k]? =some (some o))(f:ρ[k]? =some p)(t:AS p.foot w w'):A3 h ρ w (h.set k (some o')) ρ w':=
 ⟨t.mono λb _ c=>⟨k,o,p,hk,f,c⟩,λb c=>.inl ((MO.set hk).1 c)⟩
end
end
abbrev zA6:=@Nat.not_lt_zero
abbrev zFN:=@Bool.not_eq_true'
abbrev zJt:=@Go.run_underlying
abbrev zJw:=@Option.some.injEq
abbrev zJ4:=@decide_eq_true_eq
abbrev zKR:=@Prod.mk.injEq
abbrev zL2:=@Nat.mul_le_mul_right
abbrev zPu:=@Nat.add_mul
abbrev zPz:=@Nat.mul_comm
abbrev zP4:=@Option.isSome_iff_exists
abbrev zQP:=@Nat.add_assoc
def ON:Value -> DV
 | .int k n=>.int k n
 | .bool b=>.bool b
 | .string s=>.str s
 | .slice none 0 0=>.nils
 | v=>if v.oneCell' then .cst v else .any
def Ad (fr:List DV):Operand -> DV
 | .tmp t=>fr.getD t .any
 | .const v=>ON v
 | .global _=>.any
 | .func f=>.fn f 0 λ_=>.any
def JN (P:Program)(t:TypeId):Bool:=match P.underlying t with
 | some (.struct _)=>true
 | some (.array _ _)=>true
 | _=>false
def RC (P:Program)(t:TypeId)(m:Nat):Bool:=match P.underlying t with
 | some (.slice e)=>match P.info? e with
  | some i=>i.size==m&&m != 0
  | none=>false
 | _=>false
def Gg (P:Program)(t:TypeId):Bool:=(P.underlying t).isSome&&!JN P t
def Ye (P:Program)(t:TypeId)(m:Nat):Bool:=JN P t&&(match P.info? t with | some i=>i.size==m | none=>false)
def eN (P:Program)(s:TypeId)(f:Nat):X9:=match P.underlying s with
 | some (.struct z)=>match z[f]? with
  | some l=>match P.info? l.type with
   | some i=>if i.size=0 then none else some (l.offset,i.size)
   | none=>none
  | none=>none
 | _=>none
def Ya (P:Program)(t:TypeId):X9:=match P.underlying t with
 | some (.array n e)=>match P.info? e with
  | some i=>if n<=1 then none else some (n,i.size)
  | none=>none
 | _=>none
def kr (P:Program)(t:TypeId):Option IntKind:=match P.underlying t with
 | some (.int k)=>some k
 | _=>none
def fe (c:BinOp)(k:IntKind)(a b:Int):Option (DV×Prop):=match c with
 | .add=>some (.int k (k.wrap (a+b)),True)
 | .sub=>some (.int k (k.wrap (a-b)),True)
 | .mul=>some (.int k (k.wrap (a*b)),True)
 | .and=>some (.int k (bits .and k a b),True)
 | .or=>some (.int k (bits .or k a b),True)
 | .xor=>some (.int k (bits .xor k a b),True)
 | .andNot=>some (.int k (bits .andNot k a b),True)
 | .eql=>some (.bool (a==b),True)
 | .neq=>some (.bool (a != b),True)
 | .lss=>some (.bool (decide (a<b)),True)
 | .leq=>some (.bool (decide (a<=b)),True)
 | .gtr=>some (.bool (decide (a>b)),True)
 | .geq=>some (.bool (decide (a>=b)),True)
 | _=>none
def UT (P:Program)(t:TypeId):Nat:=match P.underlying t with
 | some .bool=>1
 | some (.slice _)=>2
 | _=>0
def ff (e:Nat)(op:BinOp)(x y:DV):Option (DV×Prop):=match op,x,y with
 | .eql,.bool a,.bool b=>if e=1 then some (.bool (a==b),True) else none
 | .neq,.bool a,.bool b=>if e=1 then some (.bool (!(a==b)),True) else none
 | .eql,.ints l,.nils=>if e=2 then some (.bool false,0<l.length) else none
 | .eql,.bools l,.nils=>if e=2 then some (.bool false,0<l.length) else none
 | .neq,.ints l,.nils=>if e=2 then some (.bool true,0<l.length) else none
 | .shl,.int k a,.int _ b=>some (.int k (k.wrap (a*2 ^ b.toNat)),0<=b/\ b<=k.bits)
 | .shr,.int k a,.int _ b=>some (.int k (a/2 ^ b.toNat),0<=b/\ b<=k.bits)
 | .quo,.int k a,.int o b=>if k=o then some (.int k (k.wrap (a.tdiv b)),b≠0) else none
 | .rem,.int k a,.int o b=>if k=o then some (.int k (a.tmod b),b≠0) else none
 | op,.int k a,.int o b=>if k=o then fe op k a b else none
 | _,_,_=>none
def QT (P:Program)(S:St)(t:TypeId):DV -> Option (DV×Prop)
 | .fp m f=>if Gg P t then (if m=0 then none else some (f 0,True)) else if Ye P t m then some (.agg m f,True) else none
 | .ref k j=>match S.h[k]? with
  | some (some (.cells l))=>if Gg P t then (if j<l.length then some (l.getD j .any,True) else none)
   else match P.info? t with
    | some i=>if JN P t&&decide (j+i.size<=l.length) then some (.agg i.size (GD i.size λc=>l.getD (j+c) .any),True) else none
    | none=>none
  | some (some (.ro l))=>if Gg P t then (if j<l.length then some (l.getD j .any,True) else none)
   else match P.info? t with
    | some i=>if JN P t&&decide (j+i.size<=l.length) then some (.agg i.size (GD i.size λc=>l.getD (j+c) .any),True) else none
    | none=>none
  | _=>none
 | .mp k m i j=>match S.h[k]? with
  | some (some (.ints l))=>if Gg P t&&(m==1)&&(j==0) then some (.int .i64 (l.getD i 0),i<l.length) else none
  | some (some (.bools l))=>if Gg P t&&(m==1)&&(j==0) then some (.bool (l.getD i false),i<l.length) else none
  | some (some (.arr a n f))=>if Gg P t&&(m==a)&&decide (j<m) then some (f i j,i<n)
   else if Ye P t m&&(m==a)&&(j==0) then some (.agg m (f i),i<n) else none
  | some (some (.mo (.sets _ B _)))=>if Gg P t&&(m==1)&&(j==0) then some (.mri k i,i<B.length) else none
  | some (some (.mo (.rws B none)))=>if Gg P t&&(m==1)&&(j==0) then some (.mri k (i+1),i<B.length) else none
  | _=>none
 | _=>none
def k7 (P:Program)(t:TypeId)(x:DV)(n:Int):Option (DV×Prop):=match x with
 | .ints l=>if RC P t 1 then some (.fp 1 (λ_=>.int .i64 (l.getD n.toNat 0)),0<=n/\ n<l.length) else none
 | .bools l=>if RC P t 1 then some (.fp 1 (λ_=>.bool (l.getD n.toNat false)),0<=n/\ n<l.length) else none
 | .sl m c f=>if RC P t m then some (.fp m (f n.toNat),0<=n/\ n<c) else none
 | .msl k m off c=>if RC P t m then some (.mp k m (off+n.toNat) 0,0<=n/\ n<c) else none
 | .ref k j=>match Ya P t with
  | some (len,a)=>some (.ref k (j+n.toNat*a),0<=n/\ n<len)
  | none=>none
 | .mp k m i 0=>match Ya P t with
  | some (len,a)=>if a=m then some (.mp k m (i+n.toNat) 0,0<=n/\ n<len) else none
  | none=>none
 | .fp m f=>match Ya P t with
  | some (len,a)=>if n.toNat*a+a<=m then some (.fp a (GD a λj=>f (n.toNat*a+j)),0<=n/\ n<len) else none
  | none=>none
 | _=>none
def cY (P:Program)(t:TypeId)(d:DV):Option (DV×Prop):=match P.underlying t,d with
 | some (.slice _),.nils=>some (.int .i64 0,True)
 | some (.slice _),.ints l=>some (.int .i64 l.length,True)
 | some (.slice _),.bools l=>some (.int .i64 l.length,True)
 | some (.slice _),.sl _ n _=>some (.int .i64 n,True)
 | some (.slice _),.msl _ _ _ n=>some (.int .i64 n,True)
 | some .string,.str s=>some (.int .i64 s.size,True)
 | _,_=>none
def kL (x y:DV):Option (DV×Prop):=match x,y with
 | .int k a,.int _ b=>some (.int k (if b>a then b else a),True)
 | _,_=>none
def kK (x y:DV):Option (DV×Prop):=match x,y with
 | .int k a,.int _ b=>some (.int k (if b<a then b else a),True)
 | _,_=>none
def cX (P:Program)(S:St)(t:TypeId)(d:DV):Option (DV×Prop):=match d with
 | .gr k=>match P.underlying t,S.h[k]? with
  | some (.slice _),some (some (.gro _ n _))=>some (.int .i64 n,True)
  | _,_=>none
 | d=>cY P t d
def fY (P:Program)(S:St)(b:Builtin)(args:List Operand)(s:List TypeId):Option (DV×Prop):=match b with
 | .len=>match args with
  | [x]=>match s with
   | [t]=>cX P S t (Ad S.fr x)
   | _=>none
  | _=>none
 | .max=>match args with
  | [x,y]=>kL (Ad S.fr x) (Ad S.fr y)
  | _=>none
 | .min=>match args with
  | [x,y]=>kK (Ad S.fr x) (Ad S.fr y)
  | _=>none
 | _=>none
def pop (P:Program)(S:St):Op -> Option (DV×Prop)
 | .move x=>some (Ad S.fr x,True)
 | .assign x=>some (Ad S.fr x,True)
 | .pick c a b=>match Ad S.fr c with
  | .bool true=>some (Ad S.fr a,True)
  | .bool false=>some (Ad S.fr b,True)
  | _=>none
 | .load t x=>QT P S t (Ad S.fr x)
 | .binOp e t x y _=>ff (UT P t) e (Ad S.fr x) (Ad S.fr y)
 | .unOp e _ x=>match e,Ad S.fr x with
  | .not,.bool b=>some (.bool !b,True)
  | .neg,.int k n=>some (.int k (k.wrap (0-n)),True)
  | .xor,.int k n=>some (.int k (bits .xor k (if k.signed then-1 else k.max) n),True)
  | _,_=>none
 | .convert s d x=>match P.underlying s,kr P d,Ad S.fr x with
  | some _,some k,.int _ n=>some (.int k (k.wrap n),True)
  | _,_,_=>none
 | .nilCheck x=>match Ad S.fr x with
  | .fp m f=>some (.fp m f,True)
  | .ref k j=>some (.ref k j,True)
  | .mp k m i j=>some (.mp k m i j,True)
  | .fn g m c=>some (.fn g m c,True)
  | _=>none
 | .fieldAddr s x f=>match eN P s f with
  | some (off,h)=>match Ad S.fr x with
   | .fp m g=>if off+h<=m then some (.fp h (GD h λj=>g (off+j)),True) else none
   | .ref k j=>some (.ref k (j+off),True)
   | .mp k m i j=>some (.mp k m i (j+off),True)
   | _=>none
  | none=>none
 | .indexAddr t x i=>match Ad S.fr i with
  | .int _ n=>k7 P t (Ad S.fr x) n
  | _=>none
 | .extract x i=>match Ad S.fr x with
  | .tup m f=>if i<m then some (f i,True) else none
  | _=>none
 | .makeFunc (.func g) first c=>if first.size=0 then some (.fn g c.size (GD c.size λj=>Ad S.fr (c.getD j (.const undef))),True) else none
 | .call c=>match c.callee with
  | .builtin b=>fY P S b c.args.toList c.argTypes.toList
  | _=>none
 | _=>none
section
variable {P:Program} {Γ:Ay} {N:Ψ} {S:St} {ρ:List AK} {a:Act} {w:World}
variable {M:Ψ}
theorem cD (v:Value):AI M w (ON v) ρ v:=by
 unfold ON;split
 ·rfl
 ·rfl
 ·rfl
 ·rfl
 grind [AI]
theorem BV (R:AU P Γ N S ρ a w)(x:Operand):AI (MS N S.h ρ) w (Ad S.fr x) ρ (a.eval x):=by
 cases x with
 | tmp t=>exact R.fr.at t
 | const v=>exact cD v
 | global g=>trivial
 | func f=>exact ⟨#[],rfl,rfl,λj i=>absurd i (zA6 j)⟩
variable {t:TypeId}
def Vb {d:TypeDesc}(h:P.underlying t=some d):(isAgg t).run P w= .ok (JN P t) w:=by
 unfold isAgg JN;rw [zJ2,zJt h];simp only [Result.andThen,h];cases d <;> rfl
variable {i:TypeInfo}
theorem LE (h:P.info? t=some i):(sizeOf t).run P w= .ok i.size w:=by
 grind [run_sizeOf,Program.cellsOf]
variable {u:Value}
theorem zEj {b:Addr}(h:Gg P t=true)(hc:w.cell? b=some u):(loadVar t b).run P w= .ok u w:=by
 unfold Gg at h;simp only [zAD,zP4,zFN] at h;obtain ⟨⟨d,hd⟩,hn⟩:=h
 simp_all [loadVar,Vb]
theorem wq (h:JN P t=true): ∃ d,P.underlying t=some d:=by
 grind [JN]
variable {b o:Nat}
theorem zEk (h:JN P t=true)(hi:P.info? t=some i)(g:Nat -> Value)(hc: ∀ j,j<i.size -> w.cell? ⟨b,o+j,none⟩=some (g j)):
 (loadVar t ⟨b,o,none⟩).run P w= .ok (.agg ((List.range i.size).map g).toArray) w:=by
 obtain ⟨d,v⟩:=wq h;unfold loadVar;rw [zJ2,Vb v];simp only [Result.andThen,h,zL0];rw [zJ2,LE hi];simp only [Result.andThen]
 rw [zJ2,run_loadCells w ⟨b,o,none⟩ i.size g (λj hj=>by
  grind [Addr.add])]
 simp [Result.andThen]
def Keep (N:Ψ)(w W:World):Prop:=∀ b o u,¬ N b -> w.cell? ⟨b,o,none⟩=some u -> W.cell? ⟨b,o,none⟩=some u
variable {W:World}
def Keep.ofExt {N:Ψ}{w:World}(h:Az w W):Keep N w W:=λ_ _ _ _ n=>h.cell n
def Yl (P:Program)(N:Ψ)(w:World)(M:Ψ)(ρ:List AK)(s:Sem Value)(d:DV):Prop:=∃ v,(∀ W,Keep N w W -> s.run P W= .ok v W)/\ AI M w d ρ v
variable {n:Nat}
theorem Se {k:Nat}{o:DO}{p:AK}{Rw:Nat -> Value -> Prop}(R:AU P Γ N S ρ a w)(hk:S.h[k]? =some (some o))(f:ρ[k]? =some p)(j:AY w p n Rw): ¬ N p.blk:=(R.hr.cel k o p p.blk hk f (by rw [j.1])).2.1
variable {v:Value}{f:Nat -> DV}{m:Nat}
def eF (h:AI M w (.fp m f) ρ v): ∃ b o,v= .pointer (some ⟨b,o,none⟩)/\ ∀ j,j<m -> ¬ M b/\ ∃ u,w.cell? ⟨b,o+j,none⟩=some u/\ AI M w (f j) [] u:=h
variable {d:DV}
theorem Sf (h:AI M w d [] v):AI M w d ρ v:=h.out d ⟨λ_ _ _ _=>rfl,λ_ h=>.inl h,λk p hk=>by simp at hk⟩
theorem sc {b:Addr}:(Instr.loadAt t (.pointer (some b))).run P W=(loadVar t b).run P W:=rfl
theorem OW (hN: ¬ N b)(h1:Gg P t=true)(hc:w.cell? ⟨b,o,none⟩=some u)(j:AI M w d ρ u):Yl P N w M ρ (Instr.loadAt t (.pointer (some ⟨b,o,none⟩))) d:=
 ⟨u,λW hE=>by grind [sc,zEj,Keep],j⟩
theorem cU (c:0<i.size -> ¬ N b)(d:JN P t=true)(hi:P.info? t=some i)(h: ∀ j,j<i.size -> ∃ u,w.cell? ⟨b,o+j,none⟩=some u/\ AI M w (f j) ρ u):
 Yl P N w M ρ (Instr.loadAt t (.pointer (some ⟨b,o,none⟩))) (.agg i.size f):=by
 obtain ⟨g,n⟩: ∃ g:Nat -> Value,∀ j,j<i.size -> w.cell? ⟨b,o+j,none⟩=some (g j)/\ AI M w (f j) ρ (g j):=by
  refine ⟨λj=>(w.cell? ⟨b,o+j,none⟩).getD undef,λj a=>?_⟩
  grind
 refine ⟨_,λW H=>by exact zEk d hi g λj a=>H _ _ _ (c Z2) (n j a).1,_,rfl,Z3,λj a=>?_⟩
 grind
theorem ow (h:Ye P t m=true):JN P t=true/\ ∃ i,P.info? t=some i/\ i.size=m:=by
 unfold Ye at h
 grind
variable {O:Prop}{x:DV}
theorem wT (R:AU P Γ N S ρ a w)(C:AI (MS N S.h ρ) w x ρ v)(h:QT P S t x=some (d,O))(D:O):
 Yl P N w (MS N S.h ρ) ρ (Instr.loadAt t v) d:=by
 unfold QT at h;split at h
 ·obtain ⟨b,o,rfl,E⟩:=eF C;split at h
  ·rename_i g;split at h
   ·cases h
   ·cases h;obtain ⟨hM,u,A,B⟩:=E 0 Z2
    grind [OW,Sf,MS]
  ·split at h
   ·rename_i r;cases h;obtain ⟨G,i,hi,rfl⟩:=ow r
    grind [cU,Sf,MS]
   ·cases h
 ·rename_i k j;obtain ⟨p,q,rfl⟩:=C;split at h
  ·rename_i l hk;obtain ⟨p',L,y⟩:=R.hr.obj k _ hk;have e:p'=p:=zA2 (L.symm.trans q);subst e;split at h
   ·grind [AY.cell,OW,Se,BT]
   ·split at h
    ·rename_i i hi;split at h
     ·rename_i r;cases h;simp only [zAD,zJ4] at r;refine cU (λ_=>Se R hk q y) r.1 hi λc E=>?_
      grind [AY.cell,GD,BT]
     ·cases h
    ·cases h
  ·rename_i l hk;obtain ⟨p',L,_,U,y⟩:=R.hr.obj k _ hk;have e:p'=p:=zA2 (L.symm.trans q);subst e;split at h
   ·grind [AY.cell,OW,MS]
   ·split at h
    ·rename_i i hi;split at h
     ·rename_i r;cases h;simp only [zAD,zJ4] at r;refine cU (λ_ h=>U (.inl h)) r.1 hi λc E=>?_
      grind [AY.cell,GD]
     ·cases h
    ·cases h
  ·cases h
 ·rename_i k m i j;obtain ⟨p,q,rfl⟩:=C;split at h
  ·rename_i l hk;obtain ⟨p',L,y⟩:=R.hr.obj k _ hk;have e:p'=p:=zA2 (L.symm.trans q);subst e;split at h
   ·rename_i g;cases h;simp only [zAD,zH2] at g;obtain ⟨⟨g,rfl⟩,rfl⟩:=g;obtain ⟨u,A,B⟩:=AY.cell y D;exact OW (Se R hk q y) g (by simpa using A) B
   ·cases h
  ·rename_i l hk;obtain ⟨p',L,y⟩:=R.hr.obj k _ hk;have e:p'=p:=zA2 (L.symm.trans q);subst e;split at h
   ·rename_i g;cases h;simp only [zAD,zH2] at g;obtain ⟨⟨g,rfl⟩,rfl⟩:=g;obtain ⟨u,A,B⟩:=AY.cell y D;exact OW (Se R hk q y) g (by simpa using A) B
   ·cases h
  ·rename_i s n f hk;obtain ⟨p',L,y⟩:=R.hr.obj k _ hk;have e:p'=p:=zA2 (L.symm.trans q);subst e
   have inb: ∀ {i j:Nat},i<n -> j<s -> i*s+j<n*s:=λ{i j} hi F=>by
    have:(i+1)*s<=n*s:=zL2 _ hi
    grind
   have dv: ∀ {i j:Nat},j<s -> (i*s+j)/s=i/\ (i*s+j) % s=j:=λ{i j} F=>by
    have hm:0<s:=Z2
    simp_all [zPz,Nat.mul_add_div,Nat.mod_eq_of_lt]
   split at h
   ·rename_i g;cases h;simp only [zAD,zH2,zJ4] at g;obtain ⟨⟨g,rfl⟩,F⟩:=g
    grind [AY.cell,OW,Se,Sf,BT]
   ·split at h
    ·rename_i r;cases h;simp only [zAD,zH2] at r;obtain ⟨⟨r,rfl⟩,rfl⟩:=r;obtain ⟨G,ti,hi,rfl⟩:=ow r
     grind [cU,Se,AY.cell,Sf,BT]
    ·cases h
  ·rename_i n H lk hk;obtain ⟨p',L,vs,z⟩:=R.hr.obj k _ hk;have e:p'=p:=zA2 (L.symm.trans q);subst e;split at h
   ·rename_i g;cases h;simp only [zAD,zH2] at g;obtain ⟨⟨g,rfl⟩,rfl⟩:=g;obtain ⟨cs,I,J,K,M,Q⟩:=z.row;have hi:i<vs.size:=by rw [z.size];exact D
    refine OW (u:=vs[i]) (R.hr.cel k _ p' p'.blk hk q z.blk).2.1 g ?_ ⟨p',vs,q,z.val,zMd hi⟩
    grind [World.cell?]
   ·cases h
  ·rename_i H hk;obtain ⟨p',L,vs,z⟩:=R.hr.obj k _ hk;have e:p'=p:=zA2 (L.symm.trans q);subst e;split at h
   ·rename_i g;cases h;simp only [zAD,zH2] at g;obtain ⟨⟨g,rfl⟩,rfl⟩:=g;obtain ⟨cs,I,J,K,M,Q⟩:=z.row;have hi:i+1<vs.size:=by rw [z.size];omega
    refine OW (u:=vs[i+1]) (R.hr.cel k _ p' p'.blk hk q z.blk).2.1 g ?_ ⟨p',vs,q,z.val,zMd hi⟩
    grind [World.cell?]
   ·cases h
  ·cases h
 ·cases h
variable {s:Sem Value}
def Yl.pure (h: ∀ W,s.run P W= .ok v W)(j:AI M w d ρ v):Yl P N w M ρ s d:=⟨v,λW _=>h W,j⟩
theorem zP (h:RC P t m=true):P.underlying t=some (.slice (P.elem t))/\ (∃ i,P.info? (P.elem t)=some i/\ i.size=m)/\ m≠0:=by
 grind [RC,Program.elem]
theorem oU (h:Ya P t=some (n,m)):P.underlying t=some (.array (P.arrayLen t) (P.elem t))/\ P.arrayLen t=n/\ ∃ i,P.info? (P.elem t)=some i/\ i.size=m:=by
 grind [Ya,Program.elem,Program.arrayLen]
theorem Kv (b o n:Nat):Addr.add ⟨b,o,none⟩ n=⟨b,o+n,none⟩:=by
 grind [Addr.add]
variable {k:IntKind}
theorem aB {len cap:Nat}{n:Int}(h:RC P t m=true)(h1:0<=n)(h2:n<len)(W:World):
 (Instr.indexAt t (.slice (some ⟨b,o,none⟩) len cap) (.int k n)).run P W= .ok (.pointer (some ⟨b,o+n.toNat*m,none⟩)) W:=by
 obtain ⟨hu,⟨i,hi,rfl⟩,_⟩:=zP h
 simp_all [run_indexAt_slice,LE,Kv]
theorem zJp (R:AU P Γ N S ρ a w){n:Int}(g:AI (MS N S.h ρ) w x ρ v)(h:k7 P t x n=some (d,O))(s:O):
 Yl P N w (MS N S.h ρ) ρ (Instr.indexAt t v (.int k n)) d:=by
 unfold k7 at h;split at h
 ·obtain ⟨B,cap,rfl,r,y,l⟩:=g;split at h
  ·rename_i M;cases h;obtain ⟨b,o,rfl,Y,z⟩:=l n.toNat Z2;refine Yl.pure (λW=>aB M s.1 s.2 W) ⟨b,o+n.toNat*1,rfl,λj A=>⟨Y,_,?_,rfl⟩⟩
   grind
  ·cases h
 ·obtain ⟨B,cap,rfl,r,y,l⟩:=g;split at h
  ·rename_i M;cases h;obtain ⟨b,o,rfl,Y,z⟩:=l n.toNat Z2;refine Yl.pure (λW=>aB M s.1 s.2 W) ⟨b,o+n.toNat*1,rfl,λj A=>⟨Y,_,?_,rfl⟩⟩
   grind
  ·cases h
 ·rename_i m c f;obtain ⟨B,cap,rfl,r,y,l⟩:=g;split at h
  ·rename_i M;cases h;have hm:=(zP M).2;obtain ⟨b,o,u,rfl,Y,z,hr⟩:=l n.toNat 0 Z2 Z2;refine Yl.pure (λW=>aB M s.1 s.2 W) ⟨b,o+n.toNat*m,rfl,λj A=>?_⟩;obtain ⟨b',o',u',e,hM',JZ,Cf⟩:=l n.toNat j Z2 A
   grind
  ·cases h
 ·obtain ⟨p,cap,q,rfl,r,y,l⟩:=g;split at h
  ·rename_i M;cases h;exact Yl.pure (λW=>aB M s.1 s.2 W) ⟨p,q,Z4⟩
  ·cases h
 ·obtain ⟨p,q,rfl⟩:=g;split at h
  ·rename_i len C K;cases h;obtain ⟨D,E,i,hi,rfl⟩:=oU K;refine Yl.pure (λW=>?_) ⟨p,q,rfl⟩
   simp_all [run_indexAt_array,LE,Kv]
  ·cases h
 ·obtain ⟨p,q,rfl⟩:=g;split at h
  ·rename_i len C K;split at h
   ·cases h;obtain ⟨D,E,i,hi,rfl⟩:=oU K;refine Yl.pure (λW=>?_) ⟨p,q,rfl⟩
    simp_all [run_indexAt_array,LE,Kv,zPu]
   ·cases h
  ·cases h
 ·obtain ⟨b,o,rfl,z⟩:=eF g;split at h
  ·rename_i len C K;split at h
   ·cases h;obtain ⟨D,E,i,hi,rfl⟩:=oU K;refine Yl.pure (λW=>?_) ⟨b,o+n.toNat*i.size,rfl,λj A=>?_⟩
    ·simp_all [run_indexAt_array,LE,Kv]
    ·obtain ⟨Y,u,r,y⟩:=z (n.toNat*i.size+j) Z2
     grind [K5]
   ·cases h
  ·cases h
 ·cases h
theorem zEp {a:BinOp}{x y:Int}(t:TypeId)(h:fe a k x y=some (d,O))(M:Ψ):Yl P N w M ρ (binOp a t (.int k x) (.int k y)) d:=by
 cases a <;> simp only [fe,zJw,zKR,reduceCtorEq] at h <;> obtain ⟨rfl,-⟩:=h
 ·exact Yl.pure (λW=>by rw [binOp_add];rfl) rfl
 ·exact Yl.pure (λW=>by rw [binOp_sub];rfl) rfl
 ·exact Yl.pure (λW=>by rw [binOp_mul];rfl) rfl
 ·exact Yl.pure (λW=>by rw [binOp_and];rfl) rfl
 ·exact Yl.pure (λW=>by rw [binOp_or];rfl) rfl
 ·exact Yl.pure (λW=>by rw [binOp_xor];rfl) rfl
 ·exact Yl.pure (λW=>by rw [binOp_andNot];rfl) rfl
 ·exact Yl.pure (λW=>by rw [binOp_eql];rfl) rfl
 ·exact Yl.pure (λW=>by rw [binOp_neq];rfl) rfl
 ·exact Yl.pure (λW=>by rw [binOp_lss];rfl) rfl
 ·exact Yl.pure (λW=>by rw [binOp_leq];rfl) rfl
 ·exact Yl.pure (λW=>by rw [binOp_gtr];rfl) rfl
 ·exact Yl.pure (λW=>by rw [binOp_geq];rfl) rfl
theorem zNa {a:BinOp}{x y:Operand}{n:Int}:eqGuard a t x y (.int k n) v=pure ():=by
 cases a <;> rfl
theorem zOp {g:BinOp}{y:DV}{I:Value}(j m:Operand)(f:AI M w x ρ u)(hy:AI M w y ρ I)(h:ff (UT P t) g x y=some (d,O))(s:O):
 Yl P N w M ρ (do eqGuard g t j m u I;binOp g t u I) d:=by
 have key: ∀ {k p:IntKind} {n q:Int},u= .int k n -> I= .int p q -> Yl P N w M ρ (binOp g t (.int k n) (.int p q)) d -> Yl P N w M ρ (do eqGuard g t j m u I;binOp g t u I) d:=by
  grind [zNa]
 have r:UT P t=1 -> P.underlying t=some .bool:=λh=>by
  grind [UT]
 have v:UT P t=2 -> ∃ e,P.underlying t=some (.slice e):=λh=>by
  grind [UT]
 have eqn: ∀ {e:TypeId} {a:Addr} {l c:Nat} (W:World),P.underlying t=some (.slice e) -> (do eqGuard .eql t j m (.slice (some a) l c) (.slice none 0 0);binOp .eql t (.slice (some a) l c) (.slice none 0 0):Sem Value).run P W= .ok (.bool false) W:=by
  simp_all [eqGuard,binOp,run_equal_slice_nil]
 have nen: ∀ {e:TypeId} {a:Addr} {l c:Nat} (W:World),P.underlying t=some (.slice e) -> (do eqGuard .neq t j m (.slice (some a) l c) (.slice none 0 0);binOp .neq t (.slice (some a) l c) (.slice none 0 0):Sem Value).run P W= .ok (.bool true) W:=by
  simp_all [eqGuard,binOp,run_equal_slice_nil]
 unfold ff at h;split at h
 ·split at h
  ·rename_i e;cases h;have B:u= .bool _:=f;have F:I= .bool _:=hy;subst B;subst F;exact Yl.pure (λW=>run_eql_bool W t _ _ (r e)) rfl
  ·cases h
 ·split at h
  ·rename_i e;cases h;have B:u= .bool _:=f;have F:I= .bool _:=hy;subst B;subst F;exact Yl.pure (λW=>run_neq_bool W t _ _ (r e)) rfl
  ·cases h
 ·split at h
  ·rename_i e;cases h;obtain ⟨z,A⟩:=v e;obtain ⟨C,cap,rfl,D,E,i⟩:=f;obtain ⟨b,o,rfl,_⟩:=i 0 s
   simp_all [Yl,AI]
  ·cases h
 ·split at h
  ·rename_i e;cases h;obtain ⟨z,A⟩:=v e;obtain ⟨C,cap,rfl,D,E,i⟩:=f;obtain ⟨b,o,rfl,_⟩:=i 0 s
   simp_all [Yl,AI]
  ·cases h
 ·split at h
  ·rename_i e;cases h;obtain ⟨z,A⟩:=v e;obtain ⟨C,cap,rfl,D,E,i⟩:=f;obtain ⟨b,o,rfl,_⟩:=i 0 s
   simp_all [Yl,AI]
  ·cases h
 ·cases h;refine key f hy ?_
  simp_all [binOp_shl,shift_shl,Yl,AI]
 ·cases h;refine key f hy ?_
  simp_all [binOp_shr,shift_shr,Yl,AI]
 ·split at h
  ·rename_i e;subst e;cases h;exact key f hy (Yl.pure (λW=>by simp_all [binOp_quo,Op.intDiv]) rfl)
  ·cases h
 ·split at h
  ·rename_i e;subst e;cases h;exact key f hy (Yl.pure (λW=>by simp_all [binOp_rem,Op.intDiv]) rfl)
  ·cases h
 ·grind [zEp,AI]
 ·cases h
variable {ρ':Operand -> Value}
theorem IJ {o:Oper}(he:execOp ρ' o=(do pure (.value (←s))))(h:Yl P N w M ρ s d): ∃ v,(∀ W,Keep N w W -> (execOp ρ' o).run P W= .ok (.value v) W)/\ AI M w d ρ v:=by
 obtain ⟨v,h1,b⟩:=h;refine ⟨v,λW hE=>?_,b⟩
 simp_all
variable {off:Nat}
theorem zNP {s:TypeId}{f a:Nat}(h:eN P s f=some (off,a)): ∃ z l i,P.underlying s=some (.struct z)/\ z[f]? =some l/\ l.offset=off/\ P.info? l.type=some i/\ i.size=a/\ a≠0:=by
 unfold eN at h
 grind
theorem il {s:TypeId}{f a:Nat}(h:eN P s f=some (off,a))(W:World):(Instr.fieldAt s (.pointer (some ⟨b,o,none⟩)) f).run P W= .ok (.pointer (some ⟨b,o+off,none⟩)) W:=by
 obtain ⟨fs,fd,i,h1,h2,rfl,h4,rfl,h6⟩:=zNP h
 simp_all [Instr.fieldAt,zJt,Instr.sureAddr,fieldPlace,LE,Kv]
theorem zJQ (h:kr P t=some k):P.underlying t=some (.int k):=by
 grind [kr]
variable {ty:TypeId}
def Sb {e:TypeId}{s:Option Addr}{c:Nat}(h:P.underlying t=some (.slice e))(W:World):(Builtin.len_ #[t] ty #[.slice s n c]).run P W= .ok (.int .i64 n) W:=by
 simp [Builtin.len_,zJt h,goInt]
def zEl {s:ByteArray}(h:P.underlying t=some .string)(W:World):(Builtin.len_ #[t] ty #[.string s]).run P W= .ok (.int .i64 s.size) W:=by
 simp [Builtin.len_,zJt h,goInt]
variable {c:Call}
theorem nh {o:Oper}{b:Builtin}(ho:o.op= .call c)(hc:c.callee= .builtin b) 
 (hb:builtin b c.argTypes o.type (c.args.map λ| .const _=>true | _=>false) (c.args.map ρ')=(do pure (.value (←s)))) (h:Yl P N w M ρ s d):
 ∃ v,(∀ W,Keep N w W -> (execOp ρ' o).run P W= .ok (.value v) W)/\ AI M w d ρ v:=by
 refine IJ (s:=s) ?_ h
 grind [execOp,resolve,invoke]
theorem zIv (b:AI M w x ρ v)(h:cY P t x=some (d,O)):Yl P N w M ρ (Builtin.len_ #[t] ty #[v]) d:=by
 unfold cY at h;split at h
 ·rename_i c a;cases h;simp_all [Sb,Yl,AI]
 ·rename_i c l a;cases h;obtain ⟨e,cap,rfl,_⟩:=b;exact Yl.pure (λW=>Sb a W) rfl
 ·rename_i c l a;cases h;obtain ⟨e,cap,rfl,_⟩:=b;exact Yl.pure (λW=>Sb a W) rfl
 ·rename_i c m n f a;cases h;obtain ⟨e,cap,rfl,_⟩:=b
  simp_all [Sb,Yl,AI]
 ·rename_i c k m off n a;cases h;obtain ⟨p,cap,_,rfl,_⟩:=b;exact Yl.pure (λW=>Sb a W) rfl
 ·rename_i s a;cases h;simp_all [zEl,Yl,AI]
 ·cases h
def zIu (R:AU P Γ N S ρ a w)(b:AI (MS N S.h ρ) w x ρ v)(h:cX P S t x=some (d,O)):Yl P N w (MS N S.h ρ) ρ (Builtin.len_ #[t] ty #[v]) d:=by
 unfold cX at h;split at h
 ·split at h
  ·rename_i c hk;cases h;obtain ⟨p,_,_,_,f,rfl,_⟩:=b;obtain ⟨q,Q,j⟩:=R.hr.obj _ _ hk;obtain rfl:q=p:=zA2 (Q.symm.trans f);rcases j with ⟨rfl,e,_⟩ | ⟨cap,e,_⟩ <;> rw [e] <;> exact Yl.pure (λW=>Sb c W) rfl
  ·cases h
 ·exact zIv b h
variable {α:Type}
theorem zBm {l:Array α}{x:α}(h:l.toList= [x]):l= #[x]:=by cases l;simp at h;rw [h]
theorem ZI {l:Array α}{x y:α}(h:l.toList= [x,y]):l= #[x,y]:=by cases l;simp at h;rw [h]
theorem zOh (R:AU P Γ N S ρ a w)(o:Oper){b:Builtin}(e:o.op= .call c)(f:c.callee= .builtin b)(h:fY P S b c.args.toList c.argTypes.toList=some (d,O)):
 ∃ v,(∀ W,Keep N w W -> (execOp a.eval o).run P W= .ok (.value v) W)/\ AI (MS N S.h ρ) w d ρ v:=by
 have Y:=λx=>BV R x
 unfold fY at h;split at h
 ·split at h
  ·rename_i x K;split at h
   ·rename_i t ht;exact nh (s:=Builtin.len_ #[t] o.type #[a.eval x]) e f (by grind [zBm,builtin]) (zIu R (Y x) h)
   ·cases h
  ·cases h
 ·split at h
  ·rename_i x y K;have g:=Y x;have hy:=Y y;unfold kL at h;split at h
   ·rename_i k n i j B F;cases h;rw [B] at g;rw [F] at hy;refine nh (s:=Builtin.max_ c.argTypes o.type #[a.eval x,a.eval y]) e f (by grind [ZI,builtin]) ?_
    simp_all [Builtin.max_,Builtin.max2,Yl,AI]
   ·cases h
  ·cases h
 ·split at h
  ·rename_i x y K;have g:=Y x;have hy:=Y y;unfold kK at h;split at h
   ·rename_i k n i j B F;cases h;rw [B] at g;rw [F] at hy;refine nh (s:=Builtin.min_ c.argTypes o.type #[a.eval x,a.eval y]) e f (by grind [ZI,builtin]) ?_
    simp_all [Builtin.min_,Builtin.min2,Yl,AI]
   ·cases h
  ·cases h
 ·cases h
theorem u0 (R:AU P Γ N S ρ a w)(o:Oper){C:Prop}(h:pop P S o.op=some (d,C))(D:C):
 ∃ v,(∀ W,Keep N w W -> (execOp a.eval o).run P W= .ok (.value v) W)/\ AI (MS N S.h ρ) w d ρ v:=by
 have Y:=λx=>BV R x
 unfold pop at h;split at h
 ·rename_i x q;cases h;exact ⟨a.eval x,λW _=>by unfold execOp;rw [q];rfl,Y x⟩
 ·rename_i x q;cases h;exact ⟨a.eval x,λW _=>by unfold execOp;rw [q];rfl,Y x⟩
 ·rename_i c x y q;have B:=Y c;split at h
  ·rename_i e;cases h;rw [e] at B;exact ⟨a.eval x,λW _=>by unfold execOp;rw [q];simp only [show a.eval c= .bool true from B];rfl,Y x⟩
  ·rename_i e;cases h;rw [e] at B;exact ⟨a.eval y,λW _=>by unfold execOp;rw [q];simp only [show a.eval c= .bool false from B];rfl,Y y⟩
  ·cases h
 ·rename_i t x q;exact IJ (by unfold execOp;rw [q]) (wT R (Y x) h D)
 ·rename_i E t x y t' q;exact IJ (by unfold execOp;rw [q]) (zOp x y (Y x) (Y y) h D)
 ·rename_i E t x q;have l:=Y x;refine IJ (s:=Op.unary E (a.eval x)) (by unfold execOp;rw [q]) ?_;split at h
  ·rename_i b e;cases h;rw [e] at l;rw [show a.eval x= .bool b from l];exact Yl.pure (λW=>rfl) rfl
  ·rename_i k n e;cases h;rw [e] at l;rw [show a.eval x= .int k n from l];exact Yl.pure (λW=>rfl) rfl
  ·rename_i k n e;cases h;rw [e] at l;rw [show a.eval x= .int k n from l];exact Yl.pure (λW=>rfl) rfl
  ·cases h
 ·rename_i G H x q;have l:=Y x;split at h
  ·rename_i dd k k' n I hd e;cases h;rw [e] at l;refine IJ (s:=convert G H (a.eval x)) (by unfold execOp;rw [q]) ?_
   simp_all [convert,zJt,zJQ,Conv.intToInt,Yl,AI]
  ·cases h
 ·rename_i x q;have l:=Y x;split at h
  ·rename_i m f e;cases h;rw [e] at l;obtain ⟨b,F,r,z⟩:=eF l;exact ⟨_,λW _=>by simp_all [execOp],b,F,rfl,z⟩
  ·rename_i k j e;cases h;rw [e] at l;obtain ⟨p,A,r⟩:=l
   simp_all [execOp,AI]
  ·rename_i k m i j e;cases h;rw [e] at l;obtain ⟨p,A,r⟩:=l
   simp_all [execOp,AI]
  ·rename_i g m c e;cases h;rw [e] at l;obtain ⟨J,r,z⟩:=l;exact ⟨_,λW _=>by simp_all [execOp],J,rfl,z⟩
  ·cases h
 ·rename_i st x f q;have l:=Y x;split at h
  ·rename_i off sz O;refine IJ (s:=Instr.fieldAt st (a.eval x) f) (by unfold execOp;rw [q]) ?_;split at h
   ·rename_i m g e;split at h
    ·cases h;rw [e] at l;obtain ⟨b,F,r,z⟩:=eF l;rw [r];refine Yl.pure (λW=>il O W) ⟨b,_,rfl,λj K=>?_⟩;obtain ⟨g1,u,g2,g3⟩:=z (off+j) Z2
     grind [K5]
    ·cases h
   ·rename_i k j e;cases h;rw [e] at l;obtain ⟨p,A,r⟩:=l;rw [r];exact Yl.pure (λW=>il O W) ⟨p,A,by rw [zQP]⟩
   ·rename_i k m i j e;cases h;rw [e] at l;obtain ⟨p,A,r⟩:=l;rw [r];exact Yl.pure (λW=>il O W) ⟨p,A,Z4⟩
   ·cases h
  ·cases h
 ·rename_i t x i q;have hi:=Y i;split at h
  ·rename_i k n e;rw [e] at hi;refine IJ (s:=Instr.indexAt t (a.eval x) (a.eval i)) (by unfold execOp;rw [q]) ?_
   grind [zJp,AI]
  ·cases h
 ·rename_i x i q;have l:=Y x;split at h
  ·rename_i m f e;split at h
   ·cases h;rw [e] at l;obtain ⟨cs,r,I,z⟩:=l;refine IJ (s:=Instr.extract (a.eval x) i) (by unfold execOp;rw [q]) ?_
    simp_all [Yl.pure,Instr.extract]
   ·cases h
  ·cases h
 ·rename_i g first c q
  split at h
  ·cases h;refine ⟨.func (.func g) #[] (c.map a.eval),λW _=>?_,c.map a.eval,rfl,Z3,λj K=>?_⟩
   ·simp_all [execOp,Instr.makeFunc]
   simp_all [K5]
  ·cases h
 ·grind [zOh]
 ·cases h
end
abbrev zBk:=@List.all_eq_true
abbrev zJB:=@Int.le_refl
abbrev zJu:=@List.length_map
abbrev zJx:=@List.getElem?_append_right
abbrev zJ3:=@List.getElem_of_mem
abbrev zKF:=@List.getElem?_eq_getElem
abbrev zKM:=@List.length_replicate
abbrev zME:=@Nat.mul_one
abbrev zMc:=@Nat.div_lt_iff_lt_mul
def Ie:DV -> Bool
 | .any=>false
 | .agg .. =>false
 | .tup .. =>false
 | .it _=>false
 | .mri .. =>false
 | _=>true
def Je:DV -> Option (List DV)
 | .agg m f=>some ((List.range m).map f)
 | .any=>none
 | .tup .. =>none
 | .it _=>none
 | .mri .. =>none
 | d=>some [d]
def TC:DV -> Bool
 | .int .. =>true
 | .bool _=>true
 | .str _=>true
 | .nils=>true
 | .ints _=>true
 | .bools _=>true
 | .sl .. =>true
 | _=>false
section
variable {P:Program} {Γ:Ay} {N:Ψ} {S:St} {ρ:List AK} {a:Act} {w:World}
variable {v:Value}{d:DV}{M:Ψ}
theorem cA (h:Ie d=true)(a:AI M w d ρ v):v.oneCell'=true/\ v.cells= #[v]:=by
 have key:(∀ cs,v≠.agg cs) -> (∀ cs,v≠.tuple cs) -> v.oneCell'=true/\ v.cells= #[v]:=λp q=>by
  cases v <;> first | exact ⟨rfl,rfl⟩ | exact absurd rfl (p _) | exact absurd rfl (q _)
 cases d with
 | any=>cases h
 | agg m f=>cases h
 | tup m f=>cases h
 | nils=>grind [AI]
 | int k n=>grind [AI]
 | bool b=>grind [AI]
 | str s=>grind [AI]
 | ints l=>grind [AI]
 | bools l=>grind [AI]
 | sl m n f=>grind [AI]
 | fp m f=>grind [AI]
 | ref k j=>grind [AI]
 | msl k m off n=>grind [AI]
 | mp k m i j=>grind [AI]
 | fn g m c=>grind [AI]
 | it k=>cases h
 | yl l=>exact key (λcs e=>by rw [a] at e;cases e) (λcs e=>by rw [a] at e;cases e)
 | mse k m o n=>obtain ⟨_,_,_,_,rfl,_⟩:=a;exact ⟨rfl,rfl⟩
 | gr k=>obtain ⟨_,_,_,_,_,_,rfl⟩:=a;exact ⟨rfl,rfl⟩
 | mri k i=>cases h
 | cst u=>obtain ⟨rfl,t⟩:=a;cases v <;> first | exact ⟨rfl,rfl⟩ | (cases t)
variable {l:List DV}
theorem YB (h:Je d=some l)(a:AI M w d ρ v):v.cells.size=l.length/\ ∀ j,j<l.length -> ∃ u,v.cells[j]? =some u/\ AI M w (l.getD j .any) ρ u:=by
 have one:Ie d=true -> l= [d] -> v.cells.size=l.length/\ ∀ j,j<l.length -> ∃ u,v.cells[j]? =some u/\ AI M w (l.getD j .any) ρ u:=by
  intro e h2;rw [(cA e a).2]
  grind
 cases d with
 | any=>cases h
 | tup m f=>cases h
 | it k=>cases h
 | yl l=>cases h;exact one rfl rfl
 | mse k m o n=>cases h;exact one rfl rfl
 | gr k=>cases h;exact one rfl rfl
 | mri k i=>cases h
 | cst u=>grind [Je,Ie]
 | agg m f=>
  cases h;obtain ⟨cs,rfl,hs,hc⟩:=a
  grind [Value.cells]
 | nils=>cases h;exact one rfl rfl
 | int k n=>cases h;exact one rfl rfl
 | bool b=>cases h;exact one rfl rfl
 | str s=>cases h;exact one rfl rfl
 | ints l=>cases h;exact one rfl rfl
 | bools l=>cases h;exact one rfl rfl
 | sl m n f=>cases h;exact one rfl rfl
 | fp m f=>cases h;exact one rfl rfl
 | ref k j=>cases h;exact one rfl rfl
 | msl k m off n=>cases h;exact one rfl rfl
 | mp k m i j=>cases h;exact one rfl rfl
 | fn g m c=>cases h;exact one rfl rfl
def jh (h:TC d=true)(j:AI M w d ρ v):AI M w d [] v:=by
 cases d <;> first | exact j | (cases h)
structure B8 (P:Program)(Γ:Ay)(N:Ψ)(h:DH)(ρ:List AK)(w:World)(ext:Bool)(d:DV)(h':DH)(v:Value)(w':World):Prop where
 ex: ∃ ρ',As P Γ N h' ρ' w'/\ AI (MS N h' ρ') w' d ρ' v/\ A3 h ρ w h' ρ' w'/\ (∀ (k:Nat) (p:AK),ρ[k]? =some p -> ρ'[k]? =some p)
 ext:ext=true -> Az w w'
def BH (P:Program)(s:Sem Next)(w:World)(G:Value -> World -> Prop):Prop:= (∃ v w',s.run P w= .ok (.value v) w'/\ G v w')∨(∃ w',s.run P w= .ok .skip w'/\ G undef w')∨ (∃ f args w',s.run P w= .ok (.enter f args) w'/\ Calls P f args w' λe K=>∃ v,e= .returned v/\ G v K)
variable {w':World}{o:Oper}{ρ':Operand -> Value}{G:Value -> World -> Prop}
def BH.value {s:Sem Value}(M:execOp ρ' o=(do pure (.value (←s))))(h:s.run P w= .ok v w')(D:G v w'):BH P (execOp ρ' o) w G:=
 .inl ⟨v,w',by rw [M,zJ2,h];rfl,D⟩
theorem BH.skip {s:Sem Unit}(M:execOp ρ' o=(do s;pure .skip))(h:s.run P w= .ok () w')(D:G undef w'):BH P (execOp ρ' o) w G:=
 .inr (.inl ⟨w',by rw [M,zJ2,h];rfl,D⟩)
def D1 (w:World)(f:Nat):AK:=⟨w.heap.size,0,f,undef,λb=>b=w.heap.size⟩
variable {w1:World}{t:TypeId}{cs:Array Value}
theorem T4 (H:As P Γ N S.h ρ w){o:DO}(Q:Az w w1/\ w1.heap.size=w.heap.size) 
 (y: ∀ M ρ',BL (MS N S.h ρ) w ρ M (w1.alloc (.cells cs t)) ρ' -> BT P M (w1.alloc (.cells cs t)) ρ' (D1 w cs.size) o)
 (s: ∀ M ρ',ρ'[S.h.length]? =some (D1 w cs.size) -> AI M (w1.alloc (.cells cs t)) d ρ' v) (ext:Bool):
 B8 P Γ N S.h ρ w ext d (S.h++[some o]) v (w1.alloc (.cells cs t)):=by
 have a:Az w (w1.alloc (.cells cs t)):=Q.1.allocR _;have O: ∀ b,(D1 w cs.size).foot b -> w.heap.size<=b:=λb e=>Nat.le_of_eq (Eq.symm e)
 have e:(w1.alloc (.cells cs t)).heap[w.heap.size]? =some (.cells cs t (0,0)):=by grind [heap_alloc_new]
 refine ⟨⟨ρ++[D1 w cs.size],H.snoc a (λb f=>⟨O b f,.cells (c:=cs) (t:=t) (z:=(0,0)) (by grind [D1])⟩) (y _ _ (BL.snoc H a O)),?_,A3.snoc H a O,λk p hk=>Ef hk⟩,λ_=>a⟩;exact s _ _ (by rw [←H.len];simp)
variable {n:Nat}
theorem Nr (hs:w1.heap.size=w.heap.size){R:Nat -> Value -> Prop}(a:n<=cs.size)(hR: ∀ j,j<n -> ∃ u,cs[j]? =some u/\ R j u):AY (w1.alloc (.cells cs t)) (D1 w cs.size) n R:=by
 refine ⟨rfl,cs,t,?_,by simpa [D1] using a,zBT _,λj hj=>by grind [D1]⟩
 grind [heap_alloc_new,D1]
variable {x:Operand}
theorem zOk (R:AU P Γ N S ρ a w)(h:Je (Ad S.fr x)=some l)(o:Oper)(y:o.op= .box t x)(ext:Bool):
 BH P (execOp a.eval o) w (B8 P Γ N S.h ρ w ext (.ref S.h.length 0) (S.h++[some (.cells l)])):=by
 obtain ⟨h1,b⟩:=YB h (BV R x);refine BH.value (s:=Instr.box t (a.eval x)) (by unfold execOp;rw [y]) (v:=.pointer (some ⟨w.heap.size,0,none⟩)) (w':=w.alloc (.cells (a.eval x).cells t)) ?_ ?_
 ·rfl
 ·refine T4 (d:=.ref S.h.length 0) R.hr ⟨Az.refl w,rfl⟩ (λM ρ' O=>?_) (λM ρ' f=>⟨_,f,rfl⟩) ext;refine Nr rfl Z2 λj i=>?_
  obtain ⟨u,p,r⟩:=b j i;exact ⟨u,p,r.out _ O⟩
variable {z:Value}{i:TypeInfo}
theorem zPK (R:AU P Γ N S ρ a w)(hi:P.info? t=some i)(b:i.zero=some z)(o:Oper)(y:o.op= .alloc t)(ext:Bool):
 BH P (execOp a.eval o) w (B8 P Γ N S.h ρ w ext (.ref S.h.length 0) (S.h++[some (.cells (z.cells.toList.map ON))])):=by
 refine BH.value (s:=Instr.alloc t true (.tuple #[])) (by unfold execOp;rw [y]) (v:=.pointer (some ⟨w.heap.size,0,none⟩)) (w':=w.alloc (.cells z.cells t)) ?_ ?_
 ·simp [Instr.alloc,zeroValue,typeInfo,hi,b,newVar,newRow,newObj];rfl
 ·refine T4 (d:=.ref S.h.length 0) R.hr ⟨Az.refl w,rfl⟩ (λM ρ' O=>?_) (λM ρ' f=>⟨_,f,rfl⟩) ext;refine Nr rfl Z3 λj hj=>?_
  grind [cD]
def zE:Value -> Bool
 | .bool false=>true
 | _=>false
def gE (z:Value):Bool:=decide (2<z.cells.size)&&z.cells.toList.all zE
theorem zPL (R:AU P Γ N S ρ a w)(hi:P.info? t=some i)(b:i.zero=some z)(c:gE z=true)(o:Oper)(y:o.op= .alloc t)(ext:Bool):
 BH P (execOp a.eval o) w (B8 P Γ N S.h ρ w ext (.mp S.h.length 1 0 0) (S.h++[some (.bools (List.replicate z.cells.size false))])):=by
 refine BH.value (s:=Instr.alloc t true (.tuple #[])) (by unfold execOp;rw [y]) (v:=.pointer (some ⟨w.heap.size,0,none⟩)) (w':=w.alloc (.cells z.cells t)) ?_ ?_
 ·simp [Instr.alloc,zeroValue,typeInfo,hi,b,newVar,newRow,newObj];rfl
 ·refine T4 (d:=.mp S.h.length 1 0 0) R.hr ⟨Az.refl w,rfl⟩ (λM ρ' O=>?_) (λM ρ' f=>⟨_,f,rfl⟩) ext;refine Nr rfl Z3 λj e=>?_
  have Fx:j<z.cells.size:=by simpa using e
  simp only [gE,zAD,zBk] at c;have:=c.2 z.cells[j] Z3
  grind [zE]
inductive EK where
 | ints
 | bools
 | gen (m:Nat)
def Lw (P:Program)(t:TypeId):Option (EK×TypeId×TypeInfo×Value):=match P.underlying t with
 | some (.slice e)=>match P.info? e with
  | some i=>match i.zero with
   | some z=>if i.size=0 then none else if z.cells.size≠i.size then none else match P.underlying e with
    | some (.int .i64)=>if i.size=1 then (match z with | .int .i64 0=>some (.ints,e,i,z) | _=>none) else none
    | some .bool=>if i.size=1 then (match z with | .bool false=>some (.bools,e,i,z) | _=>none) else none
    | _=>some (.gen i.size,e,i,z)
   | none=>none
  | none=>none
 | _=>none
def EK.cells:EK -> Nat
 | .ints=>1
 | .bools=>1
 | .gen m=>m
variable {e:TypeId}{k:EK}
theorem Xw (h:Lw P t=some (k,e,i,z)):P.underlying t=some (.slice e)/\ P.info? e=some i/\ i.zero=some z/\ i.size≠0/\ z.cells.size=i.size/\ k.cells=i.size/\
 (k= .ints -> z= .int .i64 0)/\ (k= .bools -> z= .bool false):=by
 unfold Lw at h
 repeat' (split at h)
 all_goals first
  | (cases h;done)
  | skip
 all_goals
  simp only [zJw,zKR] at h;obtain ⟨rfl,rfl,rfl,rfl⟩:=h
  grind [EK.cells]
theorem nL {s:Nat}(l:0<s): ∀ (vs:List Value),(∀ v∈vs,v.cells.size=s) -> ∀ i j,i<vs.length -> j<s -> (vs.flatMap λv=>v.cells.toList)[i*s+j]? =(vs[i]?).bind (λv=>v.cells[j]?)
 | [],_,i,j,hi,_=>absurd hi (zA6 i)
 | v::vs,a,i,j,hi,b=>by
  have t:v.cells.toList.length=s:=by simpa using a v Z3
  rw [List.flatMap_cons];cases i with
  | zero=>grind
  | succ i=>
   rw [zJx (by rw [t,Nat.succ_mul];omega),t,show (i+1)*s+j-s=i*s+j by rw [Nat.succ_mul];omega];rw [nL l vs (λv h=>a v (by simp [h])) i j (by simpa using hi) b];simp
def H8:DV -> Int
 | .int _ n=>n
 | _=>0
def fc:DV -> Bool
 | .bool b=>b
 | _=>false
def JL:DV -> Bool
 | .int .i64 _=>true
 | _=>false
def ko:DV -> Bool
 | .bool _=>true
 | _=>false
def US (k:EK)(ds:List DV):Option DO:=match k with
 | .ints=>if ds.all JL then some (.ints (ds.map H8)) else none
 | .bools=>if ds.all ko then some (.bools (ds.map fc)) else none
 | .gen m=>if ds.all λd=>(match Je d with | some l=>l.length==m&&l.all TC | none=>false) then
  some (.arr m ds.length (λi j=>match Je (ds.getD i .any) with | some l=>l.getD j .any | none=>.any)) else none
theorem cr (h:JL d=true)(j:AI M w d ρ v):v= .int .i64 (H8 d):=by
 unfold JL at h;split at h
 ·exact j
 ·cases h
def zJN (h:ko d=true)(j:AI M w d ρ v):v= .bool (fc d):=by
 unfold ko at h;split at h
 ·exact j
 ·cases h
theorem zOj {ds:List DV}{o:DO}{vs:List Value}(hk:0<k.cells)(h:US k ds=some o)(E:vs.length=ds.length)(g: ∀ i,i<ds.length -> AI M w (ds.getD i .any) ρ (vs.getD i undef)):
 (∀ v∈vs,v.cells.size=k.cells)/\ ∀ M' (w':World) ρ',BL M w ρ M' w' ρ' -> ∀ (cs:Array Value) (t:TypeId) (p:AK),cs.toList=(vs.flatMap λv=>v.cells.toList) -> AY w' p (ds.length*k.cells) (λj u=>cs[j]? =some u) -> BT P M' w' ρ' p o:=by
 have one: ∀ {j:Nat},k.cells=1 -> j<ds.length*k.cells -> (∀ v∈vs,v.cells.size=k.cells) -> ∀ {u},(vs.flatMap λv=>v.cells.toList)[j]? =some u -> (vs[j]?).bind (λv=>v.cells[0]?)=some u:=λ{j} n b a {u} r=>by
  rw [n] at b a;have:=nL (s:=1) Z2 vs a j 0 Z2 Z2
  grind
 have f: ∀ v∈vs,∃ i,i<ds.length/\ v=vs.getD i undef/\ vs[i]? =some v:=λv g=>by
  obtain ⟨i,hi,rfl⟩:=zJ3 g
  grind
 have B: ∀ i,i<ds.length -> ds.getD i .any∈ds:=λi hi=>by simp [hi]
 cases k with
 | ints=>
  simp only [US] at h;split at h
  ·rename_i K;cases h;have q: ∀ i,i<ds.length -> vs.getD i undef= .int .i64 (H8 (ds.getD i .any)):=λi hi=>cr (zBk.1 K _ (B i hi)) (g i hi)
   have a: ∀ v∈vs,v.cells.size=EK.ints.cells:=λv J=>by obtain ⟨i,hi,e,_⟩:=f v J;rw [e,q i hi];rfl
   refine ⟨a,λM' w' ρ' O cs t p R c=>?_⟩;have y:ds.length*EK.ints.cells=(ds.map H8).length:=by simp [EK.cells]
   rw [y] at c;refine AY.out c rfl λj u b r=>?_
   have z:j<ds.length:=by simpa using b
   have x:=one rfl (by simpa [EK.cells] using z) a (u:=u) (by rw [←R];simpa using r)
   grind [Value.cells]
  ·cases h
 | bools=>
  simp only [US] at h;split at h
  ·rename_i K;cases h;have q: ∀ i,i<ds.length -> vs.getD i undef= .bool (fc (ds.getD i .any)):=λi hi=>zJN (zBk.1 K _ (B i hi)) (g i hi)
   have a: ∀ v∈vs,v.cells.size=EK.bools.cells:=λv J=>by obtain ⟨i,hi,e,_⟩:=f v J;rw [e,q i hi];rfl
   refine ⟨a,λM' w' ρ' O cs t p R c=>?_⟩;have y:ds.length*EK.bools.cells=(ds.map fc).length:=by simp [EK.cells]
   rw [y] at c;refine AY.out c rfl λj u b r=>?_
   have z:j<ds.length:=by simpa using b
   have x:=one rfl (by simpa [EK.cells] using z) a (u:=u) (by rw [←R];simpa using r)
   grind [Value.cells]
  ·cases h
 | gen m=>
  simp only [US] at h;split at h
  ·rename_i K;cases h;have A:0<m:=hk
   have q: ∀ i,i<ds.length -> ∃ l,Je (ds.getD i .any)=some l/\ l.length=m/\ (∀ d∈l,TC d=true):=λi hi=>by
    grind
   have a: ∀ v∈vs,v.cells.size=(EK.gen m).cells:=λv J=>by
    obtain ⟨i,hi,e,_⟩:=f v J;obtain ⟨l,n,x,_⟩:=q i hi;rw [e,(YB n (g i hi)).1,x];rfl
   refine ⟨a,λM' w' ρ' O cs t p R c=>?_⟩;refine AY.out c rfl λj u b r=>?_
   have hj0:j<ds.length*m:=b;have hi:j/m<ds.length:=by simp_all [zMc]
   have C:j % m<m:=Nat.mod_lt _ A;obtain ⟨l,n,x,F⟩:=q (j/m) hi;have D:=nL (s:=m) A vs a (j/m) (j % m) Z2 C;rw [show j/m*m+j % m=j by grind [Nat.div_add_mod]] at D;obtain ⟨_,G⟩:=YB n (g (j/m) hi);obtain ⟨H,I,L⟩:=G (j % m) Z2;have N:vs.getD (j/m) undef=vs[j/m]'Z2:=by simp [E,hi]
   have Q:j/m<vs.length:=Z2
   rw [zKF Q] at D;rw [N] at I
   have:u=H:=by
    grind
   subst this;simp only [n];refine AI.out _ O.nil (jh (F _ ?_) L);simp [x,C]
  ·cases h
theorem iw (hs:w1.heap.size=w.heap.size)(a:cs.size=n):AY (w1.alloc (.cells cs t)) (D1 w n) n (λj u=>cs[j]? =some u):=by
 subst a
 simp_all [Nr]
def fA (parts:List (Nat×Operand))(len:Nat):Bool:=parts.map (·.1)==List.range len
theorem zNx {parts:List (Nat×Operand)}{len:Nat}(h:fA parts len=true)(f:Operand -> Value):parts.length=len/\ (parts.map λx=>(x.1,f x.2))=((parts.map λx=>f x.2).zipIdx 0).map λx=>(x.2,x.1):=by
 simp only [fA,zH2] at h;have o:parts.length=len:=by have:=congrArg List.length h;simpa using this
 refine ⟨o,List.ext_getElem? λi=>?_⟩
 by_cases hi:i<parts.length
 ·have a:parts[i].1=i:=by
   have h2:=congrArg (λl:Θ=>l[i]?) h
   grind
  simp [hi,a]
 grind
theorem zOi (R:AU P Γ N S ρ a w){t:TypeId}{len:Nat}{parts:Array (Nat×Operand)}{k:EK}{e:TypeId}{i:TypeInfo}{z:Value}{ob:DO}(hk:Lw P t=some (k,e,i,z))(n:fA parts.toList len=true)(G:len<=65536/\ k.cells<=64) 
 (p:US k (parts.toList.map λx=>Ad S.fr x.2)=some ob) (o:Oper) (q:o.op= .buildSlice t len parts) (ext:Bool):
 BH P (execOp a.eval o) w (B8 P Γ N S.h ρ w ext (.msl S.h.length k.cells 0 len) (S.h++[some ob])):=by
 obtain ⟨g,hi,r,h0,Ch,GN,_,_⟩:=Xw hk;obtain ⟨E,Ql⟩:=zNx n a.eval;have b:=G.1;have zLg:=G.2;have u:0<k.cells:=Z2
 obtain ⟨hs,A⟩:=zOj (w:=w) (M:=MS N S.h ρ) (ρ:=ρ) (vs:=parts.toList.map λx=>a.eval x.2) u p Z3 (λj hj=>by
  grind [BV])
 have Ff:(parts.toList.map λx=>a.eval x.2).length=len:=by simpa using E
 have m:((parts.toList.map λx=>a.eval x.2).flatMap λv=>v.cells.toList).toArray.size=len*k.cells:=by
  have: ∀ (l:List Value),(∀ v∈l,v.cells.size=k.cells) -> (l.flatMap λv=>v.cells.toList).length=l.length*k.cells:=by
   intro l
   induction l with
   | nil=>simp
   | cons v l ih=>grind
  grind
 refine BH.value (s:=Instr.buildSlice t len (parts.map λ(i,x)=>(i,a.eval x))) (by unfold execOp;rw [q]) (v:=.slice (some ⟨w.heap.size,0,none⟩) len len) (w':=w.alloc (.cells ((parts.toList.map λx=>a.eval x.2).flatMap λv=>v.cells.toList).toArray e)) ?_ ?_
 ·have y: ¬ len*i.size>2 ^ 24:=by
   have:len*i.size<=65536*64:=Nat.mul_le_mul b Z2;omega
  by_cases X:len=0
  ·subst X
   have f:parts= #[]:=by
    grind
   subst f;have FP:Array.map (λ(x:Nat)=>(default:Value)) (Array.range 0)= #[]:=by simp [Array.range_zero']
   simp [Instr.buildSlice,zJt g,sizeOf,typeInfo,hi,newRow,Instr.fill,Array.range_zero']
  ·have c: ¬ len*i.size=0:=by rw [Nat.mul_eq_zero];omega
   refine run_buildSlice w t e len _ _ i z g hi r y c ?_;have e1:(parts.map λ(i,x)=>(i,a.eval x)).toList=parts.toList.map λx=>(x.1,a.eval x.2):=Z3
   grind [Great.fill_whole]
 ·have:=T4 (d:=.msl S.h.length k.cells 0 len) (o:=ob) (v:=.slice (some ⟨w.heap.size,0,none⟩) len len) (cs:=((parts.toList.map λx=>a.eval x.2).flatMap λv=>v.cells.toList).toArray) (t:=e) R.hr ⟨Az.refl w,rfl⟩
   (λM ρ' O=>A _ _ _ O ((parts.toList.map λx=>a.eval x.2).flatMap λv=>v.cells.toList).toArray e _ rfl (by rw [m,zJu,E];exact iw (w:=w) (w1:=w) (t:=e) rfl m))
   (λM ρ' f=>⟨_,len,f,by simp [D1],zBT _,by unfold LB;omega,by grind [D1]⟩) ext
  exact this
def wM (k:EK)(n:Nat)(z:Value):DO:=match k with
 | .ints=>.ints (List.replicate n 0)
 | .bools=>.bools (List.replicate n false)
 | .gen m=>.arr m n (λ_ j=>(z.cells.toList.map ON).getD j .any)
theorem zIa (R:AU P Γ N S ρ a w){y:Operand}{g X:IntKind}{n:Int}(hk:Lw P t=some (k,e,i,z))(q:Ad S.fr x= .int g n)(hy:Ad S.fr y= .int X n) 
 (c:0<=n/\ n<=1000000000000) (Ee:i.bytes<=128) (o:Oper) (r:o.op= .makeSlice t x y) (ext:Bool):
 BH P (execOp a.eval o) w (B8 P Γ N S.h ρ w ext (.msl S.h.length k.cells 0 n.toNat) (S.h++[some (wM k n.toNat z)])):=by
 obtain ⟨A,hi,B,h0,Ch,I,hzi,hzb⟩:=Xw hk;have f:=c.1;have K:=c.2;have rx:=BV R x;have G:=BV R y;rw [q] at rx;rw [hy] at G;have l:(madeCells z.cells (n.toNat*i.size)).size=n.toNat*k.cells:=by rw [size_madeCells,I]
 refine BH.value (s:=Instr.makeSlice t (a.eval x) (a.eval y)) (by unfold execOp;rw [r]) (v:=.slice (some ⟨w.heap.size,0,none⟩) n.toNat n.toNat) (w':=w.alloc (.cells (madeCells z.cells (n.toNat*i.size)) e)) ?_ ?_
 ·rw [show a.eval x=_ from rx,show a.eval y=_ from G];refine run_make w t e i z A hi B g X n n f (zJB _) ?_ Z2;have:(i.bytes:Int)*n<=128*1000000000000:=Int.mul_le_mul Z2 K f Z2;omega
 ·refine T4 (d:=.msl S.h.length k.cells 0 n.toNat) R.hr ⟨Az.refl w,rfl⟩ (λM ρ' O=>?_) (λM ρ' C=>⟨_,n.toNat,C,by simp [D1],zBT _,by unfold LB;omega,by grind [D1]⟩) ext;have b:=iw (w:=w) (w1:=w) (t:=e) rfl l;rw [l]
  have Y: ∀ j u,j<n.toNat*k.cells -> (madeCells z.cells (n.toNat*i.size))[j]? =some u -> z.cells[j % z.cells.size]? =some u:=by
   grind [Nat.mod_lt,madeCells]
  cases k with
  | ints=>
   show AY _ _ (List.replicate n.toNat (0:Int)).length _
   rw [zKM];simp only [EK.cells,zME] at b Y ⊢;refine AY.out b rfl λj u p D=>?_
   grind [Value.cells]
  | bools=>
   show AY _ _ (List.replicate n.toNat false).length _
   rw [zKM];simp only [EK.cells,zME] at b Y ⊢;refine AY.out b rfl λj u p D=>?_
   grind [Value.cells]
  | gen m=>
   refine AY.out b rfl λj u p D=>?_
   grind [cD,EK.cells]
end
abbrev zKH:=@List.length_append
abbrev zLn:=@List.nil_append
abbrev zPs:=@List.length_range
section
variable {P:Program} {Γ:Ay} {N:Ψ} {S:St} {ρ:List AK} {a:Act} {w:World} {h:DH}
theorem Tu (b:Nat)(t:TypeId)(z:Nat×Nat): ∀ (vs:List Value) (o:Nat) (w:World) (m:Array Value),w.heap[b]? =some (.cells m t z) -> o+vs.length<=m.size ->
 ∃ h,(w.setCells b o vs).heap[b]? =some (.cells h t z)/\ h.size=m.size/\ ∀ k,h[k]? =if o<=k/\ k<o+vs.length then vs[k-o]? else m[k]?
 | [],o,w,m,c,_=>⟨m,c,rfl,λk=>Z4⟩
 | v::vs,o,w,m,c,a=>by
  have De:o+(vs.length+1)<=m.size:=a;obtain ⟨h,d,e,h3⟩:=Tu b t z vs (o+1) (w.setCell ⟨b,o,none⟩ v) (m.setIfInBounds o v) (by grind [World.setCell]) Z7;refine ⟨h,d,by simpa using e,λk=>?_⟩
  grind
theorem Ru (b:Nat): ∀ (vs:List Value) (o:Nat) (w:World),AS (λk=>k=b) w (w.setCells b o vs)
 | [],_,w=>AS.refl _ w
 | v::vs,o,w=>((AS.refl (λk=>k=b) w).setCell (p:=⟨b,o,none⟩) (λ_=>rfl) v).trans (Ru b vs (o+1) (w.setCell ⟨b,o,none⟩ v))
variable {o n:Nat}{R:Nat -> Value -> Prop}{p:AK}
theorem AY.writes {R':Nat -> Value -> Prop}(j:AY w p n R){vs:List Value}(hl:o+vs.length<=n)(h1: ∀ i v,vs[i]? =some v -> R' (o+i) v) 
 (h2: ∀ i u,i<n -> (i<o∨o+vs.length<=i) -> R i u -> R' i u):AY (w.setCells p.blk (p.off+o) vs) p n R':=by
 obtain ⟨g1,cs,t,r,g3,g4,g5⟩:=j;obtain ⟨F3,e1,e2,e3⟩:=Tu p.blk t (0,0) vs (p.off+o) w cs r Z2
 grind [AY]
def Pc (l:List DV)(o:Nat)(ds:List DV):List DV:=(ds.zipIdx).foldl (λcs x=>cs.set (o+x.2) x.1) l
theorem iE: ∀ (ds:List DV) (k o:Nat) (l:List DV),((ds.zipIdx k).foldl (λcs x=>cs.set (o+x.2) x.1) l).length=l.length/\
 ∀ j,j<l.length -> ((ds.zipIdx k).foldl (λcs x=>cs.set (o+x.2) x.1) l).getD j .any=if o+k<=j/\ j<o+k+ds.length then ds.getD (j-(o+k)) .any else l.getD j .any
 | [],k,o,l=>⟨rfl,λj _=>by
  simp_all [zEO]⟩
 | d::ds,k,o,l=>by
  obtain ⟨h1,h2⟩:=iE ds (k+1) o (l.set (o+k) d)
  grind [List.zipIdx_cons]
def iD (l:List DV)(o:Nat)(ds:List DV):(Pc l o ds).length=l.length:=(iE ds 0 o l).1
def iF (l:List DV)(o:Nat)(ds:List DV){j:Nat}(i:j<l.length):(Pc l o ds).getD j .any=if o<=j/\ j<o+ds.length then ds.getD (j-o) .any else l.getD j .any:=by
 have:=(iE ds 0 o l).2 j i;simpa [Pc] using this
def PZ (P:Program)(S:St)(t:TypeId)(x d:DV):Option (DH×Prop):=match x with
 | .ref k j=>match S.h[k]? with
  | some (some (.cells l))=>match Je d with
   | some ds=>if P.info? t |>.any (λi=>i.size==ds.length) then (if ds.all Ie&&decide (j+ds.length<=l.length) then some (S.h.set k (some (.cells (Pc l j ds))),True) else none) else none
   | none=>none
  | _=>none
 | .mp k m i j=>if P.info? t |>.any (λi=>i.size==1) then match S.h[k]? with
  | some (some (.ints l))=>match d with
   | .int .i64 n=>if m==1&&j==0 then some (S.h.set k (some (.ints (l.set i n))),i<l.length) else none
   | _=>none
  | some (some (.bools l))=>match d with
   | .bool b=>if m==1&&j==0 then some (S.h.set k (some (.bools (l.set i b))),i<l.length) else none
   | _=>none
  | some (some (.arr c n f))=>if TC d&&(m==c)&&decide (j<m) then some (S.h.set k (some (.arr m n (λQ a=>if Q=i/\ a=j then d else f Q a))),i<n) else none
  | _=>none
  else none
 | _=>none
def zHK {d:DV}(h:TC d=true):Ie d=true:=by cases d <;> first | rfl | cases h
variable {v:Value}{b:Nat}{i:TypeInfo}{t:TypeId}
theorem ik (hi:P.info? t=some i)(hs:v.cells.size=i.size)(hc: ∀ j,j<v.cells.size -> (w.cell? ⟨b,o+j,none⟩).isSome=true)(hf: ∀ j,w.frozen? ⟨b,j,none⟩=false)(h1: ∀ u∈v.cells.toList,u.oneCell'=true):
 (Instr.storeAt t (.pointer (some ⟨b,o,none⟩)) v).run P w= .ok () (w.setCells b o v.cells.toList):=by
 simp_all [run_storeCells_cells,Instr.storeAt,Instr.sureAddr,storeVar,LE]
variable {k:Nat}
theorem ZR (R:AU P Γ N S ρ a w){ob ob':DO}(hk:S.h[k]? =some (some ob))(f:ρ[k]? =some p){Rw:Nat -> Value -> Prop}(d:AY w p n Rw){o':Nat} 
 (hi:P.info? t=some i) (l:v.cells.size=i.size) (hl:o'+v.cells.size<=n) (g: ∀ u∈v.cells.toList,u.oneCell'=true)
 (m: ∀ M ρ' w',BL (MS N S.h ρ) w ρ M w' ρ' -> w'=w.setCells p.blk (p.off+o') v.cells.toList -> BT P M w' ρ' p ob')
 (o:Oper) (tx x:Operand) (y:o.op= .store t tx x) (q:a.eval tx= .pointer (some ⟨p.blk,p.off+o',none⟩)) (r:a.eval x=v):
 BH P (execOp a.eval o) w (B8 P Γ N S.h ρ w false .any (S.h.set k (some ob'))):=by
 have A:p.foot=λb=>b=p.blk:=d.1
 have e:AS p.foot w (w.setCells p.blk (p.off+o') v.cells.toList):=by grind [Ru]
 refine BH.skip (s:=Instr.storeAt t (a.eval tx) (a.eval x)) (by unfold execOp;rw [y]) (w':=w.setCells p.blk (p.off+o') v.cells.toList) ?_ ?_
 ·rw [q,r];refine ik hi l (λj hj=>?_) (λj=>d.frozen j) g;obtain ⟨u,B,_⟩:=d.cell (j:=o'+j) Z2;rw [zQP,B];rfl
 ·have Y: ∀ b,p.foot b -> Ds (w.setCells p.blk (p.off+o') v.cells.toList) b:=λb C=>by
   rw [A] at C;obtain ⟨_,cs,T,D,g3,_⟩:=d;obtain ⟨c,e1,_⟩:=Tu p.blk T (0,0) v.cells.toList (p.off+o') w cs D Z7;exact .cells (c:=c) (t:=T) (z:=(0,0)) Z4
  exact ⟨⟨ρ,R.hr.write hk f e Y (m _ _ _ (BL.write trivial hk f e) rfl),trivial,A3.write hk f e,λ_ _ h=>h⟩,λh=>by cases h⟩
theorem qz (R:AU P Γ N S ρ a w){tx x:Operand}{h':DH}{H:Prop}(b:PZ P S t (Ad S.fr tx) (Ad S.fr x)=some (h',H))(V:H)(o:Oper)(A:o.op= .store t tx x):
 BH P (execOp a.eval o) w (B8 P Γ N S.h ρ w false .any h'):=by
 have rx:=BV R tx;have Z:=BV R x;unfold PZ at b;split at b
 ·rename_i k j e;rw [e] at rx;obtain ⟨p,c,s⟩:=rx;split at b
  ·rename_i l hk;obtain ⟨p',L,d⟩:=R.hr.obj k _ hk;have e:p'=p:=zA2 (L.symm.trans c);subst e;split at b
   ·rename_i ds W;split at b
    ·rename_i g;split at b
     ·rename_i I;cases b;simp only [zAD,zJ4] at I;cases hi:P.info? t with
      | none=>rw [hi] at g;cases g
      | some i=>
       rw [hi] at g;have B:i.size=ds.length:=by simpa using g
       obtain ⟨X,Y⟩:=YB W Z
       have C: ∀ u∈(a.eval x).cells.toList,u.oneCell'=true:=λu y=>by
        obtain ⟨q,Q,rfl⟩:=zJ3 y;have D:q<ds.length:=by rw [←X];simpa using Q
        have h3:=zBk.1 I.1 (ds.getD q .any) (by simp [D])
        grind [cA]
       refine ZR R hk c d hi Z2 (o':=j) Z2 C (λM ρ' w' O r=>?_) o tx x A s rfl;subst r
       show AY _ _ (Pc l j ds).length _
       rw [iD];refine AY.writes d Z7 (λq v Q=>?_) (λq u Q J y=>?_)
       ·have Oi:q<(a.eval x).cells.size:=Z4
        have D:q<ds.length:=Z2
        obtain ⟨u,g1,g2⟩:=Y q D
        have:u=v:=by
         grind
        subst this;rw [iF l j ds Z2,zAE Z2,show j+q-j=q by omega];exact g2.out _ O
       ·rw [iF l j ds Q,zEO (by simp at J;omega)];exact y.out _ O
     ·cases b
    ·cases b
   ·cases b
  ·cases b
 ·rename_i k m i j e;rw [e] at rx;obtain ⟨p,c,s⟩:=rx;split at b
  ·rename_i g;cases hi:P.info? t with
   | none=>rw [hi] at g;cases g
   | some ti=>
    rw [hi] at g;have B:ti.size=1:=by simpa using g
    split at b
    ·rename_i l hk;obtain ⟨p',L,d⟩:=R.hr.obj k _ hk;have e:p'=p:=zA2 (L.symm.trans c);subst e;split at b
     ·rename_i n F;split at b
      ·rename_i z;cases b;simp only [zAD,zH2] at z;obtain ⟨rfl,rfl⟩:=z;rw [F] at Z;have G:a.eval x= .int .i64 n:=Z;refine ZR R hk c d hi (v:=.int .i64 n) (by rw [B];rfl) (o':=i) (by simp [Value.cells];omega) (by simp [Value.cells,Value.oneCell']) (λM ρ' w' O r=>?_) o tx x A (by simpa using s) G;subst r
       show AY _ _ (l.set i n).length _
       rw [zJy]
       grind [AY.writes,Value.cells,BT]
      ·cases b
     ·cases b
    ·rename_i l hk;obtain ⟨p',L,d⟩:=R.hr.obj k _ hk;have e:p'=p:=zA2 (L.symm.trans c);subst e;split at b
     ·rename_i n F;split at b
      ·rename_i z;cases b;simp only [zAD,zH2] at z;obtain ⟨rfl,rfl⟩:=z;rw [F] at Z;have G:a.eval x= .bool n:=Z;refine ZR R hk c d hi (v:=.bool n) (by rw [B];rfl) (o':=i) (by simp [Value.cells];omega) (by simp [Value.cells,Value.oneCell']) (λM ρ' w' O r=>?_) o tx x A (by simpa using s) G;subst r
       show AY _ _ (l.set i n).length _
       rw [zJy]
       grind [AY.writes,Value.cells,BT]
      ·cases b
     ·cases b
    ·rename_i m' n f hk;obtain ⟨p',L,d⟩:=R.hr.obj k _ hk;have e:p'=p:=zA2 (L.symm.trans c);subst e;split at b
     ·rename_i z;cases b;simp only [zAD,zH2,zJ4] at z;obtain ⟨⟨K,rfl⟩,hj⟩:=z;have Ec:i<n:=V;obtain ⟨o1,E⟩:=cA (zHK K) Z
      have inb:i*m+j<n*m:=by
       have:(i+1)*m<=n*m:=zL2 _ Ec
       grind
      have AB:0<m:=Z2
      refine ZR R hk c d hi (v:=a.eval x) (by rw [B,E];rfl) (o':=i*m+j) (by rw [E];simp;omega) (by rw [E];simp [o1]) (λM ρ' w' O r=>?_) o tx x A s rfl;subst r;refine AY.writes d (by rw [E];simp;omega) (λq v Q=>?_) (λq u Q J y=>?_)
      ·rw [E] at Q;have:q=0:=Z4
       subst this;have:v=a.eval x:=by simpa using Q.symm
       rw [this,Nat.add_zero];have T:(i*m+j)/m=i:=by simp_all [zPz,Nat.mul_add_div]
       have U:(i*m+j) % m=j:=by rw [zPz,Nat.mul_add_mod,Nat.mod_eq_of_lt hj]
       show AI M _ (if (i*m+j)/m=i/\ (i*m+j) % m=j then Ad S.fr x else f ((i*m+j)/m) ((i*m+j) % m)) [] _
       rw [zAE ⟨T,U⟩];exact AI.out _ O.nil (jh K Z)
      ·have: ¬ (q/m=i/\ q % m=j):=λ⟨T,U⟩=>by
        grind [Nat.div_add_mod,Nat.mul_comm]
       show AI M _ (if q/m=i/\ q % m=j then Ad S.fr x else f (q/m) (q % m)) [] _
       rw [zEO this];exact AI.out _ O.nil y
     ·cases b
    ·cases b
  ·cases b
 ·cases b
def MO.kill (c:MO (h.set k none) ρ b):MO h ρ b:=MO.unset c
theorem Lr {i:Nat}{o:DO}(hi:(h.set k none)[i]? =some (some o)):i≠k/\ h[i]? =some (some o):=by
 grind
def As.kill (H:As P Γ N h ρ w)(k:Nat):As P Γ N (h.set k none) ρ w:=by
 have O:BL (MS N h ρ) w ρ (MS N (h.set k none) ρ) w ρ:=⟨λ_ _ _ _=>rfl,λb e=>.inl (e.imp id MO.kill),λ_ _ h=>h⟩;refine ⟨by simp [H.len],λi o hi=>?_,λi o p b a c d=>H.cel i o p b (Lr a).2 c d,λi Q o o' p p' b K a c d A f r=>H.dis i Q o o' p p' b K (Lr a).2 (Lr c).2 d A f r,H.nlt,H.gi⟩;obtain ⟨p,g,j⟩:=H.obj i o (Lr hi).2;exact ⟨p,g,j.out O (S:=λ_=>False) (AS.refl _ w) (λ_ h=>h.elim) (λ_ _ _ h=>h)⟩
def BL.kill (k:Nat):BL (MS N h ρ) w ρ (MS N (h.set k none) ρ) w ρ:=⟨λ_ _ _ _=>rfl,λb c=>.inl (c.imp id MO.kill),λ_ _ h=>h⟩
def A3.kill (k:Nat):A3 h ρ w (h.set k none) ρ w:=⟨AS.refl _ w,λb c=>.inl (MO.kill c)⟩
theorem As.regrow (H:As P Γ N h ρ w){w':World}{o o':DO}{p':AK}(hk:h[k]? =some (some o))(g:ρ[k]? =some p)(j:AS p.foot w w')(v: ∀ b,p'.foot b -> (p.foot b∨w.heap.size<=b)/\ Ds w' b) 
 (B:BT P (MS N (h.set k none++[some o']) (ρ++[p'])) w' (ρ++[p']) p' o'):
 As P Γ N (h.set k none++[some o']) (ρ++[p']) w'/\ A3 h ρ w (h.set k none++[some o']) (ρ++[p']) w':=by
 have G:(h.set k none).length=h.length:=Z3
 have Y: ∀ b,p.foot b -> MO h ρ b:=λb a=>⟨k,o,p,hk,g,a⟩
 have n: ∀ {i:Nat} {o1:DO} {C:AK},(h.set k none++[some o'])[i]? =some (some o1) -> (ρ++[p'])[i]? =some C -> (i≠k/\ i<h.length/\ h[i]? =some (some o1)/\ ρ[i]? =some C)∨(i=h.length/\ o1=o'/\ C=p'):=by
  intro i o1 C e d;rcases Eg e with ⟨m,e⟩ | ⟨m,e⟩
  ·rcases Eg d with ⟨_,d⟩ | ⟨s,_⟩
   ·grind
   ·rw [H.len] at s;omega
  ·rcases Eg d with ⟨s,_⟩ | ⟨_,d⟩
   ·rw [H.len] at s;omega
   grind
 have M: ∀ b,MO (h.set k none++[some o']) (ρ++[p']) b -> MO h ρ b∨w.heap.size<=b:=by
  grind [MO]
 have O:BL (MS N h ρ) w ρ (MS N (h.set k none++[some o']) (ρ++[p'])) w' (ρ++[p']):=by
  refine ⟨λb a D _=>j.block b a λu=>D (.inr (Y b u)),λb a=>?_,λi q hi=>Ef hi⟩
  grind [MS]
 refine ⟨⟨by simp [H.len],λi o1 hi=>?_,λi o1 C b e d l=>?_,λi Q o1 E C I b K e d l J x y=>?_,λb a=>⟨zCD (H.nlt b a).1 j.size,(H.nlt b a).2⟩,Γ.st _ _ H.gi (j.mono λb _ a=>(H.cel k o p b hk g a).1)⟩,⟨j.mono λb _ a=>Y b a,M⟩⟩
 ·rcases Eg hi with ⟨m,hi⟩ | ⟨m,hi⟩
  ·obtain ⟨C,A,L⟩:=H.obj i o1 (Lr hi).2;refine ⟨C,Ef A,L.out O j (λb a=>.inr (Y b a)) λb _ e d=>H.dis i k o1 o C p b (Lr hi).1 (Lr hi).2 hk A g e d⟩
  ·cases hi;exact ⟨p',by rw [m,G,←H.len];simp,B⟩
 ·rcases n e d with ⟨K,_,f,r⟩ | ⟨_,_,rfl⟩
  ·obtain ⟨e1,F,c,t,z,S⟩:=H.cel i o1 C b f r l;exact ⟨e1,F,c,t,z,(j.block b (zA0.1 S).1 λu=>H.dis i k o1 o C p b K f hk r g l u).trans S⟩
  ·obtain ⟨e1,F⟩:=v b l;rcases e1 with e1 | e1
   ·obtain ⟨T,V,_⟩:=H.cel k o p b hk g e1;exact ⟨T,V,F⟩
   ·exact ⟨zA4 (Γ.lo _ H.gi) e1,λW=>by have:=H.nlt b W;omega,F⟩
 ·have key: ∀ {i o1 C},i≠k -> h[i]? =some (some o1) -> ρ[i]? =some C -> C.foot b -> p'.foot b -> False:=λ{i o1 C} K f r R U=>by
   rcases (v b U).1 with e1 | e1
   ·exact H.dis i k o1 o C p b K f hk r g R e1
   ·have:=H.lt (.inr ⟨i,o1,C,f,r,R⟩);omega
  rcases n e l with ⟨X,_,f,r⟩ | ⟨e1,_,rfl⟩
  ·rcases n d J with ⟨_,_,R,U⟩ | ⟨_,_,rfl⟩
   ·exact H.dis i Q o1 E C I b K f R r U x y
   ·exact key X f r x y
  grind
def Hp (n:Nat)(R:Nat -> Value -> Prop)(i:List Value)(j:Nat)(u:Value):Prop:=if j<n then R j u else i[j-n]? =some u
variable {c:Nat}{I z:Value}{ty e:TypeId}
theorem fh (k:P.underlying t=some (.slice e))(hi:P.info? e=some i)(l:i.zero=some z)(Th:i.size≠0)(Z:z.cells.size=i.size)(S:i.bytes<=128) 
  {cap:Nat}  (h:AY w p (n*i.size) R) (Qy:n<=cap) (m:p.off+cap*i.size<=p.room)
   {a:List Value} (hy:Src P i.size t I c a w) (d:n+c<=1000000000000):
 ∃ w' p' O,(Builtin.append_ #[t,t] ty #[.slice (some ⟨p.blk,p.off,none⟩) n cap,I]).run P w= .ok (.slice (some ⟨p'.blk,p'.off,none⟩) (n+c) O) w'/\ n+c<=O/\ p'.off+O*i.size<=p'.room/\
  AS p.foot w w'/\ (∀ b,p'.foot b -> p.foot b∨w.heap.size<=b)/\ AY w' p' ((n+c)*i.size) (Hp (n*i.size) R a):=by
 have o:a.length=c*i.size:=hy.newsLen
 by_cases D:n+c<=cap
 ·obtain ⟨q,cs,H,r,g3,g4,g5⟩:=h;have E:(n+c)*i.size<=cap*i.size:=zL2 _ D;rw [zPu] at E;have C:p.off+n*i.size+a.length<=cs.size:=Z2
  refine ⟨w.setCells p.blk (p.off+n*i.size) a,p,cap,run_append_room_src w t t ty e i k hi p.blk p.off n cap I c a hy D (λj f=>?_) (λj _=>by grind [World.frozen?]),D,m,?_,λb d=>.inl d,?_⟩
  ·grind [World.cell?]
  ·grind [Ru]
  ·obtain ⟨v,B,e2,s⟩:=Tu p.blk H (0,0) a (p.off+n*i.size) w cs r C;refine ⟨q,v,H,B,by rw [zPu];omega,Z2,λj f=>?_⟩;rw [zPu] at f;rw [s]
   by_cases hjn:j<n*i.size
   ·rw [zEO Z2]
    simp_all [Hp]
   ·have Ab:j-n*i.size<a.length:=Z2
    refine ⟨a[j-n*i.size],Z4,?_⟩
    simp_all [Hp,zEO]
 ·obtain ⟨g,hg⟩: ∃ g:Nat -> Value,∀ j,j<n*i.size -> w.cell? ⟨p.blk,p.off+j,none⟩=some (g j)/\ R j (g j):=by
   refine ⟨λj=>(w.cell? ⟨p.blk,p.off+j,none⟩).getD undef,λj f=>?_⟩;obtain ⟨u,x,y⟩:=h.cell f;simp [x,y]
  have A:(Builtin.firstCells i.size n (.slice (some ⟨p.blk,p.off,none⟩) n cap)).run P w.drew= .ok (((List.range (n*i.size)).map g).toArray) w.drew:=by
   simp_all [run_loadCells,Kv,Builtin.firstCells]
  have zLY:(n+c)*i.bytes<=1000000000000*128:=Nat.mul_le_mul d S;have F:=run_append_grow_src (P:=P) w t t ty e i z k hi l (some ⟨p.blk,p.off,none⟩) n cap _ A I c a hy Z2 Z2 (growslice_fits Z2 Z2);have G:n+c<=grownCap w (n+c) cap e:=grownCap_ge w (n+c) cap e
  have J:((((List.range (n*i.size)).map g)++a).toArray++Builtin.zeroCells z.cells (grownCap w (n+c) cap e-(n+c))).size=grownCap w (n+c) cap e*i.size:=by
   simp only [Array.size_append,List.size_toArray,zKH,zJu,zPs,o,size_zeroCells,Z,←zPu]
   congr 1;omega
  refine ⟨_,D1 w (grownCap w (n+c) cap e*i.size),grownCap w (n+c) cap e,F,G,by simp [D1],?_,λb d=>.inr (Nat.le_of_eq (Eq.symm d)),?_⟩
  ·exact AS.ofExt ((Az.toDrew w).allocR _)
  ·refine AY.out (iw (w:=w) (w1:=w.drew) (t:=e) (cs:=(((List.range (n*i.size)).map g)++a).toArray++Builtin.zeroCells z.cells (grownCap w (n+c) cap e-(n+c))) rfl J |>λh=>?_) rfl (R:=λj u=>((((List.range (n*i.size)).map g)++a).toArray++Builtin.zeroCells z.cells (grownCap w (n+c) cap e-(n+c)))[j]? =some u) λj u f EF=>?_
   ·grind [AY]
   grind [Hp]
theorem fj (s:Option Addr:=none)(b:P.underlying t=some (.slice e))(hi:P.info? e=some i)(d:i.zero=some z)(Z:z.cells.size=i.size)(S:i.bytes<=128) 
   {a:List Value} (hy:Src P i.size t I c a w) (hc:0<c) (f:c<=1000000000000):
 ∃ w' O,(Builtin.append_ #[t,t] ty #[.slice s 0 0,I]).run P w= .ok (.slice (some ⟨w.heap.size,0,none⟩) c O) w'/\ c<=O/\ ∃ cs,w'=w.drew.alloc (.cells cs e)/\ cs.size=O*i.size/\ ∀ j,j<c*i.size -> cs[j]? =a[j]? :=by
 have m:a.length=c*i.size:=hy.newsLen;have u:(Builtin.firstCells i.size 0 (.slice s 0 0)).run P w.drew= .ok (([]:List Value).toArray) w.drew:=by cases s <;> simp [Builtin.firstCells,loadCells,loadCellsFrom]
 have zLY:c*i.bytes<=1000000000000*128:=Nat.mul_le_mul f S;have v:=run_append_grow_src (P:=P) w t t ty e i z b hi d s 0 0 [] u I c a hy Z2 Z2 (growslice_fits Z2 (by rw [zJv];omega));rw [zJv] at v;have G:c<=grownCap w c 0 e:=grownCap_ge w c 0 e;refine ⟨_,_,v,G,_,rfl,?_,λj hj=>?_⟩
 ·simp only [zLn,Array.size_append,List.size_toArray,m,size_zeroCells,Z,←zPu]
  congr 1;omega
 grind
end
abbrev zL1:=@List.mem_map
def Mo (S:St):DV -> Option (Ξ×Prop)
 | .nils=>some ([],True)
 | .ints l=>some (l,True)
 | .msl k m off n=>match S.h[k]? with
  | some (some (.ints l))=>if m==1 then some (l,off=0/\ n=l.length) else none
  | _=>none
 | _=>none
def RH (S:St):DV -> Option (Ω×Prop)
 | .nils=>some ([],True)
 | .bools l=>some (l,True)
 | .msl k m off n=>match S.h[k]? with
  | some (some (.bools l))=>if m==1 then some (l,off=0/\ n=l.length) else none
  | _=>none
 | _=>none
def Q6 (S:St)(m:Nat):DV -> Option (Nat×(Nat -> Nat -> DV)×Prop)
 | .nils=>some (0,(λ_ _=>.any),True)
 | .sl a n f=>if a==m then some (n,f,True) else none
 | .msl k a off n=>match S.h[k]? with
  | some (some (.arr p V f))=>if a==m&&p==m then some (V,f,off=0/\ n=V) else none
  | _=>none
 | _=>none
def Av:Nat:=1000000000000
def Ub (P:Program)(S:St)(t:TypeId)(x y:DV):Option (DV×DH×Prop):=match Lw P t with
 | some (k,_,i,_)=>if 128<i.bytes then none else match k with
  | .ints=>match Mo S y with
   | some (ys,I)=>match x with
    | .nils=>some (.msl S.h.length 1 0 ys.length,S.h++[some (.ints ys)],I/\ 0<ys.length/\ ys.length<=Av)
    | .msl k m off n=>match S.h[k]? with
     | some (some (.ints xs))=>if m==1 then some (.msl S.h.length 1 0 (xs.length+ys.length),S.h.set k none++[some (.ints (xs++ys))],I/\ (off=0/\ n=xs.length)/\ xs.length+ys.length<=Av) else none
     | _=>none
    | _=>none
   | none=>none
  | .bools=>match RH S y with
   | some (ys,I)=>match x with
    | .nils=>some (.msl S.h.length 1 0 ys.length,S.h++[some (.bools ys)],I/\ 0<ys.length/\ ys.length<=Av)
    | .msl k m off n=>match S.h[k]? with
     | some (some (.bools xs))=>if m==1 then some (.msl S.h.length 1 0 (xs.length+ys.length),S.h.set k none++[some (.bools (xs++ys))],I/\ (off=0/\ n=xs.length)/\ xs.length+ys.length<=Av) else none
     | _=>none
    | _=>none
   | none=>none
  | .gen m=>match Q6 S m y with
   | some (c,g,I)=>match x with
    | .nils=>some (.msl S.h.length m 0 c,S.h++[some (.arr m c g)],(I/\ ∀ i j,i<c -> j<m -> Ie (g i j)=true)/\ 0<c/\ c<=Av)
    | .msl k a off n=>match S.h[k]? with
     | some (some (.arr p V f))=>if a==m&&p==m then some (.msl S.h.length m 0 (V+c),S.h.set k none++[some (.arr m (V+c) (λi j=>if i<V then f i j else g (i-V) j))],(I/\ ∀ i j,i<c -> j<m -> Ie (g i j)=true)/\ (off=0/\ n=V)/\ V+c<=Av) else none
     | _=>none
    | .gr k=>match S.h[k]? with
     | some (some (.gro p V f))=>if p==m then some (.gr S.h.length,S.h.set k none++[some (.gro m (V+c) (λi j=>if i<V then f i j else g (i-V) j))],(I/\ ∀ i j,i<c -> j<m -> Ie (g i j)=true)/\ 0<c/\ V+c<=Av) else none
     | _=>none
    | _=>none
   | none=>none
 | none=>none
section
variable {P:Program} {Γ:Ay} {N:Ψ} {S:St} {ρ:List AK} {a:Act} {w:World} {h:DH}
variable {c cap m:Nat}{t e:TypeId}
theorem U9 (hu:P.underlying t=some (.slice e)){s:Option Addr}{i:List Value}(hl:i.length=c*m)(hc: ∀ j u,i[j]? =some u -> ∃ b o,s=some ⟨b,o,none⟩/\ w.cell? ⟨b,o+j,none⟩=some u) 
 (h1: ∀ u∈i,u.oneCell'=true) (hm:0<m) (xg:s=none -> c=0):Src P m t (.slice s c cap) c i w:=by
 cases s with
 | none=>
  simp_all [Src.ofNil]
 | some s=>
  grind [Src.ofSlice,Kv]
variable {ys:Ξ}{v:Value}
theorem Wg (R:AU P Γ N S ρ a w)(b:P.underlying t=some (.slice e)){y:DV}(hy:AI (MS N S.h ρ) w y ρ v){I:Prop}(h:Mo S y=some (ys,I))(s:I):
 Src P 1 t v ys.length (ys.map (Value.int .i64)) w:=by
 have one: ∀ u∈ys.map (Value.int .i64),u.oneCell'=true:=λu b=>by obtain ⟨n,_,rfl⟩:=zL1.1 b;rfl
 have val: ∀ {j:Nat} {u:Value},(ys.map (Value.int .i64))[j]? =some u -> j<ys.length/\ u= .int .i64 (ys.getD j 0):=λ{j u} i=>by
  grind
 unfold Mo at h;split at h
 ·grind [Src.ofNil,AI]
 ·cases h;obtain ⟨ad,cap,rfl,c,d,f⟩:=hy;refine U9 b Z3 (λj u i=>?_) one Z2 (λe=>?_)
  ·grind
  ·rcases Nat.eq_zero_or_pos ys.length with h0 | h0
   ·exact h0
   grind
 ·rename_i k m off n;obtain ⟨p,cap,g,rfl,c,d,f⟩:=hy;split at h
  ·rename_i l hk;split at h
   ·rename_i z;cases h;have E:m=1:=by simpa using z
    subst E;obtain ⟨p',L,hr⟩:=R.hr.obj k _ hk;have e:p'=p:=zA2 (L.symm.trans g);subst e;obtain ⟨rfl,rfl⟩:=s;refine U9 b Z3 (λj u i=>?_) one Z2 (λe=>by cases e);obtain ⟨Ab,rfl⟩:=val i
    grind [AY.cell,BT]
   ·cases h
  ·cases h
 ·cases h
theorem zAH (R:AU P Γ N S ρ a w)(b:P.underlying t=some (.slice e)){y:DV}(hy:AI (MS N S.h ρ) w y ρ v){ys:Ω}{I:Prop}(h:RH S y=some (ys,I))(s:I):
 Src P 1 t v ys.length (ys.map Value.bool) w:=by
 have one: ∀ u∈ys.map Value.bool,u.oneCell'=true:=λu b=>by obtain ⟨n,_,rfl⟩:=zL1.1 b;rfl
 have val: ∀ {j:Nat} {u:Value},(ys.map Value.bool)[j]? =some u -> j<ys.length/\ u= .bool (ys.getD j false):=λ{j u} i=>by
  grind
 unfold RH at h;split at h
 ·grind [Src.ofNil,AI]
 ·cases h;obtain ⟨ad,cap,rfl,c,d,f⟩:=hy;refine U9 b Z3 (λj u i=>?_) one Z2 (λe=>?_)
  ·grind
  ·rcases Nat.eq_zero_or_pos ys.length with h0 | h0
   ·exact h0
   grind
 ·rename_i k m off n;obtain ⟨p,cap,g,rfl,c,d,f⟩:=hy;split at h
  ·rename_i l hk;split at h
   ·rename_i z;cases h;have E:m=1:=by simpa using z
    subst E;obtain ⟨p',L,hr⟩:=R.hr.obj k _ hk;have e:p'=p:=zA2 (L.symm.trans g);subst e;obtain ⟨rfl,rfl⟩:=s;refine U9 b Z3 (λj u i=>?_) one Z2 (λe=>by cases e);obtain ⟨Ab,rfl⟩:=val i
    grind [AY.cell,BT]
   ·cases h
  ·cases h
 ·cases h
variable {x y:Operand}
def NB {ρ':Operand -> Value}{o:Oper}{c:Call}{E:TypeId}(a:o.op= .call c)(n:c.callee= .builtin .append)(K:c.args.toList= [x,y])(V:c.argTypes.toList= [t,E]):
 execOp ρ' o=(do pure (.value (←Builtin.append_ #[t,E] o.type #[ρ' x,ρ' y]))):=by
 unfold execOp;rw [a]
 show (resolve ρ' c o.type>>=λd=>invoke d.target d.args)=_
 unfold resolve;rw [n,ZI K,ZI V];simp;rfl
variable {p p':AK}{k:Nat}{w':World}
def As.regrowO (H:As P Γ N h ρ w){o o':DO}(hk:h[k]? =some (some o))(f:ρ[k]? =some p)(A:AS p.foot w w')(e: ∀ b,p'.foot b -> p.foot b∨w.heap.size<=b):
 BL (MS N h ρ) w ρ (MS N (h.set k none++[some o']) (ρ++[p'])) w' (ρ++[p']):=by
 have G:(h.set k none).length=h.length:=Z3
 refine ⟨λb hb z _=>A.block b hb λd=>z (.inr ⟨k,o,p,hk,f,d⟩),λb hb=>?_,λi q hi=>Ef hi⟩;rcases hb with hb | hb
 ·exact .inl (.inl hb)
 ·obtain ⟨j,o1,C,a,r,R⟩:=hb;rcases Eg a with ⟨c,a⟩ | ⟨c,_⟩
  ·rcases Eg r with ⟨_,r⟩ | ⟨M,_⟩
   ·exact .inl (.inr ⟨j,o1,C,(Lr a).2,r,R⟩)
   ·rw [G] at c;rw [H.len] at M;omega
  ·rcases Eg r with ⟨M,_⟩ | ⟨_,rfl⟩
   ·rw [G] at c;rw [H.len] at M;omega
   ·exact (e b R).imp (λd=>.inr ⟨k,o,p,hk,f,d⟩) id
variable {I z:Value}{n:Nat}{ob':DO}{i:TypeInfo}
theorem oV (R:AU P Γ N S ρ a w)(m:P.underlying t=some (.slice e))(hi:P.info? e=some i)(q:i.zero=some z)(s:i.size≠0)(Z:z.cells.size=i.size)(u:i.bytes<=128) 
  {ob:DO}  (hk:S.h[k]? =some (some ob)) (g:ρ[k]? =some p)  {Rw:Nat -> Value -> Prop} (v:AY w p (n*i.size) Rw) (B:n<=cap) (C:p.off+cap*i.size<=p.room)
  {j:List Value} (hy:Src P i.size t I c j w) (d:n+c<=Av)
 (D: ∀ M ρ' w' p',BL (MS N S.h ρ) w ρ M w' ρ' -> AY w' p' ((n+c)*i.size) (Hp (n*i.size) Rw j) -> BT P M w' ρ' p' ob')
 (o:Oper) {f:Call}  (E:o.op= .call f) (F:f.callee= .builtin .append) (K:f.args.toList= [x,y]) (V:f.argTypes.toList= [t,t]) (G:a.eval x= .slice (some ⟨p.blk,p.off,none⟩) n cap) (H:a.eval y=I):
 BH P (execOp a.eval o) w (B8 P Γ N S.h ρ w false (.msl S.h.length i.size 0 (n+c)) (S.h.set k none++[some ob'])):=by
 obtain ⟨w',p',J,L,Q,T,A,l,r⟩:=fh (ty:=o.type) m hi q s Z u v B C hy d;refine BH.value (NB E F K V) (by rw [G,H];exact L) ?_
 have U: ∀ b,p'.foot b -> Ds w' b:=λb d=>by
  obtain ⟨W,cs,X,Y,_⟩:=r;rw [W] at d;exact .cells (c:=cs) (t:=X) (z:=(0,0)) (by rw [show b=p'.blk from d];exact Y)
 have O:=R.hr.regrowO (o':=ob') hk g A l;obtain ⟨g1,g2⟩:=R.hr.regrow (o':=ob') hk g A (λb d=>⟨l b d,U b d⟩) (D _ _ _ _ O r);refine ⟨⟨ρ++[p'],g1,⟨p',J,by rw [←R.hr.len];simp,Z3,Q,by grind [LB,Av],by simpa using T⟩,g2,λ_ _ h=>Ef h⟩,λh=>by cases h⟩
theorem oX (R:AU P Γ N S ρ a w)(l:P.underlying t=some (.slice e))(hi:P.info? e=some i)(m:i.zero=some z)(Z:z.cells.size=i.size)(n:i.bytes<=128) 
    {f:List Value} (hy:Src P i.size t I c f w) (p:0<c) (q:c<=Av)
 (r: ∀ M ρ' w' p',BL (MS N S.h ρ) w ρ M w' ρ' -> AY w' p' (c*i.size) (λj u=>f[j]? =some u) -> BT P M w' ρ' p' ob') (ext:Bool)
 (o:Oper) {b:Call}  (s:o.op= .call b) (v:b.callee= .builtin .append) (K:b.args.toList= [x,y]) (V:b.argTypes.toList= [t,t]) (A:a.eval x= .slice none 0 0) (B:a.eval y=I):
 BH P (execOp a.eval o) w (B8 P Γ N S.h ρ w ext (.msl S.h.length i.size 0 c) (S.h++[some ob'])):=by
 obtain ⟨w',g,C,k,cs,rfl,h4,h5⟩:=fj none (ty:=o.type) l hi m Z n hy p q;refine BH.value (NB s v K V) (by rw [A,B];exact C) ?_;have Bc:c*i.size<=g*i.size:=zL2 _ k;refine T4 (d:=.msl S.h.length i.size 0 c) R.hr ⟨Az.toDrew w,rfl⟩ (λM ρ' O=>r _ _ _ _ O ?_) (λM ρ' D=>⟨_,g,D,by simp [D1],k,by grind [LB,Av],by simp only [D1];omega⟩) ext;refine Nr rfl Z2 λj hj=>?_
 grind
variable {s:Nat}{ρ':List AK}{M:Ψ}
theorem kq {xs:Ξ}(l:s=1)(h:AY w' p' ((xs.length+ys.length)*s) (Hp (xs.length*s) (λj u=>u= .int .i64 (xs.getD j 0)) (ys.map (Value.int .i64)))):BT P M w' ρ' p' (.ints (xs++ys)):=by
 subst l
 show AY _ _ (xs++ys).length _
 rw [zKH];rw [zME,zME] at h;refine AY.out h rfl λj u hj hu=>?_
 grind [Hp]
theorem zOl {xs ys:Ω}(l:s=1)(h:AY w' p' ((xs.length+ys.length)*s) (Hp (xs.length*s) (λj u=>u= .bool (xs.getD j false)) (ys.map Value.bool))):BT P M w' ρ' p' (.bools (xs++ys)):=by
 subst l
 show AY _ _ (xs++ys).length _
 rw [zKH];rw [zME,zME] at h;refine AY.out h rfl λj u hj hu=>?_
 grind [Hp]
variable {g:Nat -> Nat -> DV}
theorem nN (R:AU P Γ N S ρ a w)(B:P.underlying t=some (.slice e)){y:DV}(hy:AI (MS N S.h ρ) w y ρ v)(q:0<m){r:Prop}(h:Q6 S m y=some (c,g,r))(C:r) 
 (h1: ∀ i j,i<c -> j<m -> Ie (g i j)=true): ∃ l,Src P m t v c l w/\ ∀ j u,l[j]? =some u -> AI (MS N S.h ρ) w (g (j/m) (j % m)) [] u:=by
 have E: ∀ {j:Nat},j<c*m -> j/m<c/\ j % m<m/\ j/m*m+j % m=j:=λ{j} d=>⟨by simp_all [zMc],Nat.mod_lt _ q,by grind [Nat.div_add_mod]⟩
 have F: ∀ (s:Option Addr) (cap:Nat),(∀ j,j<c*m -> ∃ b o u,s=some ⟨b,o,none⟩/\ w.cell? ⟨b,o+j,none⟩=some u/\ AI (MS N S.h ρ) w (g (j/m) (j % m)) [] u) -> v= .slice s c cap -> (s=none -> c=0) ->
  ∃ l,Src P m t v c l w/\ ∀ j u,l[j]? =some u -> AI (MS N S.h ρ) w (g (j/m) (j % m)) [] u:=by
  intro s cap hc I D
  obtain ⟨f,hf⟩: ∃ f:Nat -> Value,∀ j,j<c*m -> ∃ b o,s=some ⟨b,o,none⟩/\ w.cell? ⟨b,o+j,none⟩=some (f j)/\ AI (MS N S.h ρ) w (g (j/m) (j % m)) [] (f j):=by
   refine ⟨λj=>(match s with | some a=>w.cell? ⟨a.block,a.off+j,none⟩ | none=>none).getD undef,λj d=>?_⟩
   grind
  refine ⟨(List.range (c*m)).map f,?_,λj u d=>?_⟩
  ·rw [I];refine U9 B Z3 (λj u d=>?_) (λu EF=>?_) q D
   ·grind
   ·grind [cA]
  grind
 unfold Q6 at h;split at h
 ·grind [AI]
 ·rename_i x n f;split at h
  ·rename_i z;cases h;have G:x=m:=by simpa using z
   subst G;obtain ⟨s,cap,rfl,H,J,A⟩:=hy;refine F s cap (λj d=>?_) rfl (λe=>?_)
   ·obtain ⟨b,o,u,K,_,e2,L⟩:=A _ _ (E d).1 (E d).2.1;exact ⟨b,o,u,K,by simp_all,L⟩
   ·rcases Nat.eq_zero_or_pos c with h0 | h0
    ·exact h0
    grind
  ·cases h
 ·rename_i k x off n;obtain ⟨p,cap,M,rfl,H,J,A⟩:=hy;split at h
  ·rename_i O n2 f hk;split at h
   ·rename_i z;cases h;simp only [zAD,zH2] at z;obtain ⟨rfl,rfl⟩:=z;obtain ⟨p',Q,hr⟩:=R.hr.obj k _ hk;have e:p'=p:=zA2 (Q.symm.trans M);subst e;obtain ⟨rfl,rfl⟩:=C;refine F (some ⟨p'.blk,p'.off+0*O,none⟩) cap (λj d=>?_) rfl (λe=>by cases e)
    grind [AY.cell,BT]
   ·cases h
  ·cases h
 ·cases h
variable {f:Nat -> Nat -> DV}
def zAa {i:List Value}{M':Ψ}(k:0<m)(O:BL M w ρ M' w' ρ')(x: ∀ j u,i[j]? =some u -> AI M w (g (j/m) (j % m)) [] u) 
 (b:AY w' p' ((n+c)*m) (Hp (n*m) (λj u=>AI M w (f (j/m) (j % m)) [] u) i)):AY w' p' ((n+c)*m) λj u=>AI M' w' (if j/m<n then f (j/m) (j % m) else g (j/m-n) (j % m)) [] u:=by
 refine AY.out b rfl λj u hj D=>?_
 unfold Hp at D
 by_cases A:j<n*m
 ·rw [zAE A] at D;rw [zAE (by rw [zMc k];exact A)];exact AI.out _ O.nil D
 ·rw [zEO A] at D;rw [zEO (by rw [zMc k];exact A)];have a:=x _ _ D;have B:(j-n*m)/m=j/m-n:=by rw [zPz n m];exact Nat.sub_mul_div ..
  have F:(j-n*m) % m=j % m:=by
   have l:j=(j-n*m)+n*m:=Z2
   rw [l,Nat.add_mul_mod_self_right,Nat.add_sub_cancel]
  rw [B,F] at a;exact AI.out _ O.nil a
theorem zO9 (R:AU P Γ N S ρ a w)(G:P.underlying t=some (.slice e))(hi:P.info? e=some i)(H:i.zero=some z)(L:i.size≠0)(Z:z.cells.size=i.size)(J:i.bytes<=128) 
    (hk:S.h[k]? =some (some (.gro i.size n f))) (s:ρ[k]? =some p)  {m:List Value} (hy:Src P i.size t I c m w) (M:0<c) (d:n+c<=Av)
 (Q: ∀ j u,m[j]? =some u -> AI (MS N S.h ρ) w (g (j/i.size) (j % i.size)) [] u)
 (o:Oper) {r:Call}  (T:o.op= .call r) (U:r.callee= .builtin .append) (V:r.args.toList= [x,y]) (W:r.argTypes.toList= [t,t]) (X:a.eval x=p.val) (Y:a.eval y=I):
 BH P (execOp a.eval o) w (B8 P Γ N S.h ρ w false (.gr S.h.length) (S.h.set k none++[some (.gro i.size (n+c) λi j=>if i<n then f i j else g (i-n) j)])):=by
 have key: ∃ w' p' l,(Builtin.append_ #[t,t] o.type #[p.val,I]).run P w= .ok (.slice (some ⟨p'.blk,p'.off,none⟩) (n+c) l) w'/\ n+c<=l/\ p'.off+l*i.size<=p'.room/\
  AS p.foot w w'/\ (∀ b,p'.foot b -> p.foot b∨w.heap.size<=b)/\ AY w' p' ((n+c)*i.size) (Hp (n*i.size) (λj u=>AI (MS N S.h ρ) w (f (j/i.size) (j % i.size)) [] u) m):=by
  obtain ⟨p1,Li,v⟩:=R.hr.obj k _ hk;obtain rfl:p1=p:=zA2 (Li.symm.trans s);rcases v with ⟨rfl,B,F⟩ | ⟨cap,B,F,e3,e4,v⟩
  ·obtain ⟨w',l,A,C,cs,rfl,D,E⟩:=fj none (ty:=o.type) G hi H Z J hy M (by unfold Av at d;omega);have Bc:c*i.size<=l*i.size:=zL2 _ C;have Ok:m.length=c*i.size:=hy.newsLen;refine ⟨_,D1 w cs.size,l,by rw [B,zJv];exact A,Z2,by simp only [D1];omega,AS.ofExt ((Az.toDrew w).allocR _),λb d=>.inr (Nat.le_of_eq (Eq.symm d)),?_⟩;rw [zJv];refine Nr rfl Z2 λj hj=>?_
   grind [Hp]
  ·rw [B];exact fh (ty:=o.type) G hi H L Z J v F e4 hy d
 obtain ⟨w',p',l,A,C,h3,D,E,K⟩:=key
 let q:AK:={ p' with val:=.slice (some ⟨p'.blk,p'.off,none⟩) (n+c) l }
 refine BH.value (NB T U V W) (by rw [X,Y];exact A) ?_
 have mr: ∀ b,q.foot b -> Ds w' b:=λb d=>by
  obtain ⟨B,cs,tt,F,_⟩:=K;have d:p'.foot b:=d;rw [B] at d;exact .cells (c:=cs) (t:=tt) (z:=(0,0)) (by rw [show b=p'.blk from d];exact F)
 have O:=R.hr.regrowO (o':=.gro i.size (n+c) λi j=>if i<n then f i j else g (i-n) j) (p':=q) hk s D E;obtain ⟨g1,g2⟩:=R.hr.regrow (o':=.gro i.size (n+c) λi j=>if i<n then f i j else g (i-n) j) (p':=q) hk s D (λb d=>⟨E b d,mr b d⟩) (Or.inr ⟨l,rfl,C,by unfold LB;unfold Av at d;omega,h3,zAa (p':=q) Z2 O Q K⟩);exact ⟨⟨ρ++[q],g1,⟨q,_,_,_,by rw [←R.hr.len];simp,rfl,rfl⟩,g2,λ_ _ h=>Ef h⟩,λh=>by cases h⟩
theorem zAf (R:AU P Γ N S ρ a w){d:DV}{h':DH}{vc:Prop}(v:Ub P S t (Ad S.fr x) (Ad S.fr y)=some (d,h',vc))(s:vc)(o:Oper){cl:Call}(C:o.op= .call cl)(D:cl.callee= .builtin .append) 
 (K:cl.args.toList= [x,y]) (V:cl.argTypes.toList= [t,t]):BH P (execOp a.eval o) w (B8 P Γ N S.h ρ w false d h'):=by
 have rx:=BV R x;have I:=BV R y;unfold Ub at v;split at v
 ·rename_i kk e i z hk;obtain ⟨q,hi,E,h0,Z,GN,hq1,dT⟩:=Xw hk;clear hq1 dT;split at v
  ·cases v
  ·have F:i.bytes<=128:=Z2
   split at v
   ·have G:i.size=1:=GN.symm;split at v
    ·rename_i ys vy hy;split at v
     ·rename_i l;cases v;rw [l] at rx
      have:=oX (ob':=.ints ys) R q hi E Z F (by rw [G];exact Wg R q I hy s.1) s.2.1 s.2.2 (λM ρ' w' p' O b=>by
       simp_all [BT,AY]) false o C D K V rx rfl
      grind
     ·rename_i k m off n l;rw [l] at rx;obtain ⟨p,cap,r,J,L,g2,Q⟩:=rx;split at v
      ·rename_i xs A;split at v
       ·rename_i B;cases v;have EG:m=1:=by simpa using B
        subst EG;obtain ⟨q1,⟨rfl,rfl⟩,T⟩:=s;obtain ⟨p',U,b⟩:=R.hr.obj k _ A;have e:p'=p:=zA2 (U.symm.trans r);subst e
        have:=oV (ob':=.ints (xs++ys)) (n:=xs.length) (cap:=cap) (c:=ys.length) R q hi E h0 Z F A r (Rw:=λj u=>u= .int .i64 (xs.getD j 0)) (by simp_all [BT]) L (by rw [G];simpa using Q) (by grind [Wg]) T
         (λM ρ' w' p' O b=>kq G b) o C D K V (by simpa using J) rfl
        grind
       ·cases v
      ·cases v
     ·cases v
    ·cases v
   ·have G:i.size=1:=GN.symm;split at v
    ·rename_i ys vy hy;split at v
     ·rename_i l;cases v;rw [l] at rx
      have:=oX (ob':=.bools ys) R q hi E Z F (by rw [G];exact zAH R q I hy s.1) s.2.1 s.2.2 (λM ρ' w' p' O b=>by
       simp_all [BT,AY]) false o C D K V rx rfl
      grind
     ·rename_i k m off n l;rw [l] at rx;obtain ⟨p,cap,r,J,L,g2,Q⟩:=rx;split at v
      ·rename_i xs A;split at v
       ·rename_i B;cases v;have EG:m=1:=by simpa using B
        subst EG;obtain ⟨q1,⟨rfl,rfl⟩,T⟩:=s;obtain ⟨p',U,b⟩:=R.hr.obj k _ A;have e:p'=p:=zA2 (U.symm.trans r);subst e
        have:=oV (ob':=.bools (xs++ys)) (n:=xs.length) (cap:=cap) (c:=ys.length) R q hi E h0 Z F A r (Rw:=λj u=>u= .bool (xs.getD j false)) (by simp_all [BT]) L (by rw [G];simpa using Q) (by grind [zAH]) T
         (λM ρ' w' p' O b=>zOl G b) o C D K V (by simpa using J) rfl
        grind
       ·cases v
      ·cases v
     ·cases v
    ·cases v
   ·rename_i m;have H:i.size=m:=GN.symm;have AB:0<m:=Z2
    split at v
    ·rename_i c g vy hy;split at v
     ·rename_i l;cases v;rw [l] at rx;obtain ⟨Bz,W,X⟩:=nN R q I AB hy s.1.1 s.1.2
      have:=oX (ob':=.arr m c g) R q hi E Z F (by rw [H];exact W) s.2.1 s.2.2 (λM ρ' w' p' O b=>by
       rw [H] at b;exact AY.out b rfl λj u hj EF=>AI.out _ O.nil (X j u EF)) false o C D K V rx rfl
      grind
     ·rename_i k m' off n l;rw [l] at rx;obtain ⟨p,cap,r,J,L,g2,Q⟩:=rx;split at v
      ·rename_i Y n2 f A;split at v
       ·rename_i B;cases v;simp only [zAD,zH2] at B;obtain ⟨rfl,rfl⟩:=B;obtain ⟨q1,⟨rfl,rfl⟩,T⟩:=s;obtain ⟨p',U,b⟩:=R.hr.obj k _ A;have e:p'=p:=zA2 (U.symm.trans r);subst e;obtain ⟨Bz,W,X⟩:=nN R q I AB hy q1.1 q1.2
        have:=oV (ob':=.arr Y (n+c) (λi j=>if i<n then f i j else g (i-n) j)) (n:=n) (cap:=cap) (c:=c) R q hi E h0 Z F A r (Rw:=λj u=>AI (MS N S.h ρ) w (f (j/Y) (j % Y)) [] u) (by rw [H];exact b) L (by rw [H];simpa using Q) (by rw [H];exact W) T
         (λM ρ' w' p' O b=>by rw [H] at b;exact zAa AB O X b) o C D K V (by simpa using J) rfl
        grind
       ·cases v
      ·cases v
     ·rename_i k l;rw [l] at rx;obtain ⟨p,_,_,_,r,e1,e2⟩:=rx;split at v
      ·rename_i Y n2 f A;split at v
       ·rename_i B;cases v;obtain rfl:Y=m:=by simpa using B
        obtain ⟨Bz,W,X⟩:=nN R q I AB hy s.1.1 s.1.2;subst H;exact zO9 R q hi E h0 Z F A r W s.2.1 s.2.2 X o C D K V e1 rfl
       ·cases v
      ·cases v
     ·cases v
    ·cases v
 ·cases v
end
abbrev zIN:=@List.mem_range
abbrev zJr:=@Nat.le_of_ble_eq_true
abbrev zLo:=@Option.map_some
abbrev zMS:=@List.map_cons
abbrev zPm:=@List.all_cons
abbrev zP6:=@Go.run_equalIn_int
def eM (Y:Nat -> X9)(cells:List DV):List (Nat×DV) -> Option (List DV)
 | []=>some cells
 | (i,d)::rest=>match Y i with
  | none=>none
  | some (off,N)=>match Je d with
   | none=>none
   | some l=>if l.length=N/\ off+l.length<=cells.length then eM Y (Pc cells off l) rest else none
def ji (P:Program)(t:TypeId):Option (Value×(Nat -> X9)):=match P.info? t with
 | some a=>match P.underlying t with
  | some (.array _ e)=>match a.zero with
   | some z=>match P.info? e with
    | some G=>some (z,λi=>some (i*G.size,G.size))
    | none=>none
   | none=>none
  | some (.struct K)=>match a.zero with
   | some z=>match K.toList.mapM (λf=>(P.info? f.type).map λi=>(f.offset,i.size)) with
    | some d=>some (z,λi=>d.toArray[i]?)
    | none=>none
   | none=>none
  | _=>none
 | none=>none
def cW (P:Program)(S:St)(t:TypeId)(parts:List (Nat×Operand)):Option (DV×Prop):=match ji P t with
 | some (z,Y)=>match eM Y (z.cells.toList.map ON) (parts.map λx=>(x.1,Ad S.fr x.2)) with
  | some l=>some (.agg l.length (λj=>l.getD j .any),True)
  | none=>none
 | none=>none
def MZ (P:Program)(t:TypeId)(m:Nat)(f:Nat -> DV)(off N:Nat):Option DV:= if off+N<=m then (if Gg P t then (if N=1 then some (f off) else none) else if Ye P t N then some (.agg N (GD N λj=>f (off+j))) else none) else none
def km (P:Program)(t:TypeId)(x:DV)(n:Int):Option (DV×Prop):=match x with
 | .agg m f=>match P.underlying t with
  | some (.array len e)=>match P.info? e with
   | some i=>if Gg P e&&i.size==1&&len==m then some (f n.toNat,0<=n/\ n<len) else none
   | none=>none
  | _=>none
 | _=>none
def eH (P:Program)(t:TypeId)(x:DV)(X:Nat):Option (DV×Prop):=match x with
 | .agg m f=>match P.underlying t with
  | some (.struct z)=>match z[X]? with
   | some l=>match P.info? l.type with
    | some i=>match MZ P l.type m f l.offset i.size with
     | some d=>some (d,True)
     | none=>none
    | none=>none
   | none=>none
  | _=>none
 | _=>none
def nq (P:Program)(t:TypeId)(x:DV)(lo hi:Option Int):Option (DV×Prop):=match P.underlying t with
 | some (.slice e)=>match P.info? e with
  | some i=>match x with
   | .ints l=>if i.size=1 then some (.ints ((l.take (hi.getD l.length).toNat).drop (lo.getD 0).toNat),0<=lo.getD 0/\ lo.getD 0<=hi.getD l.length/\ hi.getD l.length<=l.length) else none
   | .bools l=>if i.size=1 then some (.bools ((l.take (hi.getD l.length).toNat).drop (lo.getD 0).toNat),0<=lo.getD 0/\ lo.getD 0<=hi.getD l.length/\ hi.getD l.length<=l.length) else none
   | .sl m n f=>if i.size=m then some (.sl m ((hi.getD n).toNat-(lo.getD 0).toNat) (λi j=>f ((lo.getD 0).toNat+i) j),0<=lo.getD 0/\ lo.getD 0<=hi.getD n/\ hi.getD n<=n) else none
   | .msl k m off n=>if i.size=m then some (.mse k m (off+(lo.getD 0).toNat) ((hi.getD n).toNat-(lo.getD 0).toNat),0<=lo.getD 0/\ lo.getD 0<=hi.getD n/\ hi.getD n<=n) else none
   | _=>none
  | none=>none
 | _=>none
def ct (S:St):Option Operand -> Option (Option Int)
 | none=>some none
 | some x=>match Ad S.fr x with
  | .int _ n=>some (some n)
  | _=>none
def O4 (f g:Nat -> DV):Θ -> Bool
 | []=>true
 | i::x=>(H8 (f i)==H8 (g i))&&O4 f g x
def nV (P:Program)(m:Nat)(f g:Nat -> DV)(l:Field):Bool:=l.name != "_" &&((match P.info? l.type with | some i=>i.size==1 | none=>false)&&(Gg P l.type&&((match P.underlying l.type with | some (.int _)=>true | _=>false)&&(Nat.blt l.offset m&&(JL (f l.offset)&&JL (g l.offset))))))
def eQ (P:Program)(t:TypeId)(f g:Nat -> DV)(m a:Nat):Option Θ:=match P.underlying t with
 | some (.struct z)=>if P.stoodInHeld t==false&&(P.eqGuardType P.depth t==false&&(m==a&&z.toList.all (nV P m f g))) then some (z.toList.map (·.offset)) else none
 | some (.array n e)=>match P.info? e with
  | some i=>match P.underlying e with
   | some (.int _)=>if i.size==1&&Gg P e&&P.eqGuardType P.depth t==false&&n==m&&n==a&&(List.range n).all (λi=>JL (f i)&&JL (g i)) then some (List.range n) else none
   | _=>none
  | none=>none
 | _=>none
def Xs (P:Program)(c:BinOp)(t:TypeId)(x y:DV):Option (DV×Prop):=match c,x,y with
 | .eql,.agg m f,.agg a g=>match eQ P t f g m a with
  | some b=>some (.bool (O4 f g b),True)
  | none=>none
 | .neq,.agg m f,.agg a g=>match eQ P t f g m a with
  | some b=>some (.bool (!(O4 f g b)),True)
  | none=>none
 | _,_,_=>none
def fK (P:Program)(t:TypeId):Bool:=match P.underlying t with
 | some (.interface _)=>false
 | some _=>true
 | none=>false
def oS (P:Program)(Z:TypeId)(ok:Bool):DV -> Option DV
 | .cst (.iface t (.int k n))=>if t=Z&&fK P Z then some (if ok then .tup 2 (λj=>[DV.int k n,.bool true].getD j .any) else .int k n) else none
 | .cst .nilIface=>if ok&&fK P Z then match P.info? Z with
  | some i=>match i.zero with
   | some (.int k n)=>some (.tup 2 (λj=>[DV.int k n,.bool false].getD j .any))
   | _=>none
  | none=>none
  else none
 | _=>none
theorem zO8 {P:Program}{M:Ψ}{w:World}{ρ:List AK}{xt Z:TypeId}{ok:Bool}{d d':DV}{v:Value}(c:AI M w d ρ v)(h:oS P Z ok d=some d'): ∃ u,(∀ W,(Instr.typeAssert v xt Z ok).run P W= .ok u W)/\ AI M w d' ρ u:=by
 have two: ∀ (k:IntKind) (n:Int) (b:Bool),AI M w (.tup 2 (λj=>[DV.int k n,.bool b].getD j .any)) ρ (.tuple #[.int k n,.bool b]):=λk n b=>⟨_,rfl,rfl,λj i=>match j,i with
  | 0,_=>⟨_,rfl,rfl⟩
  | 1,_=>⟨_,rfl,rfl⟩
  | j+2,i=>absurd i Z2⟩
 unfold oS at h;split at h
 ·rename_i t k n;split at h
  ·rename_i a;simp only [zAD,zJ4] at a;obtain ⟨rfl,a⟩:=a;obtain ⟨rfl,_⟩:=c;unfold fK at a;cases h;cases ok
   ·refine ⟨.int k n,λW=>?_,rfl⟩;split at a <;> first | (cases a) | skip
    simp_all [Instr.typeAssert,zJt]
   ·split at a <;> first | (cases a) | skip
    simp_all [Instr.typeAssert,zJt]
  ·cases h
 ·split at h
  ·rename_i a;simp only [zAD] at a;obtain ⟨rfl,a⟩:=a;obtain ⟨rfl,_⟩:=c;unfold fK at a;split at h
   ·split at h
    ·cases h;split at a <;> first | (cases a) | skip
     simp_all [Instr.typeAssert,zJt,zeroValue,typeInfo]
    ·cases h
   ·cases h
  ·cases h
 ·cases h
def WE (P:Program)(S:St):Op -> Option (DV×Prop)
 | .typeAssert x _ Z ok=>match oS P Z ok (Ad S.fr x) with
  | some d=>some (d,True)
  | none=>none
 | .build t parts=>cW P S t parts.toList
 | .index t x i=>match Ad S.fr i with
  | .int _ n=>km P t (Ad S.fr x) n
  | _=>none
 | .field t x f=>eH P t (Ad S.fr x) f
 | .slice t x lo hi none=>match ct S lo with
  | some l=>match ct S hi with
   | some h=>nq P t (Ad S.fr x) l h
   | none=>none
  | none=>none
 | .binOp op t x y T=>match Xs P op t (Ad S.fr x) (Ad S.fr y) with
  | some r=>some r
  | none=>pop P S (.binOp op t x y T)
 | op=>pop P S op
section
variable {P:Program} {Γ:Ay} {N:Ψ} {S:St} {ρ:List AK} {a:Act} {w:World}
def gD (M:Ψ)(w:World)(ρ:List AK)(l:List DV)(cs:Array Value):Prop:=cs.size=l.length/\ ∀ j,j<l.length -> ∃ u,cs[j]? =some u/\ AI M w (l.getD j .any) ρ u
theorem zAZ: ∀ (vs:List Value) (k off:Nat) (cs:Array Value),((vs.zipIdx k).foldl (λ(cs:Array Value) (x:Value×Nat)=>cs.setIfInBounds (off+x.2) x.1) cs).size=cs.size/\
 ∀ j,((vs.zipIdx k).foldl (λ(cs:Array Value) (x:Value×Nat)=>cs.setIfInBounds (off+x.2) x.1) cs)[j]? =if off+k<=j/\ j<off+k+vs.length/\ j<cs.size then vs[j-(off+k)]? else cs[j]?
 | [],k,off,cs=>⟨rfl,λj=>by
  rw [zEO]
  ·rfl
  grind⟩
 | v::vs,k,off,cs=>by
  obtain ⟨h1,h2⟩:=zAZ vs (k+1) off (cs.setIfInBounds (off+k) v)
  grind [List.zipIdx_cons]
variable {Y:Nat -> X9}{M:Ψ}
theorem yv : ∀ (parts:List (Nat×Operand)) (l:List DV) (cs:Array Value) (r:List DV),gD M w ρ l cs -> (∀ x,AI M w (Ad S.fr x) ρ (a.eval x)) ->
 eM Y l (parts.map λx=>(x.1,Ad S.fr x.2))=some r -> ∃ t,Instr.fill Y cs (parts.map λx=>(x.1,a.eval x.2))=some t/\ gD M w ρ r t
 | [],l,cs,r,n,_,h=>by cases h;exact ⟨cs,rfl,n⟩
 | (i,x)::rest,l,cs,r,n,d,h=>by
  simp only [zMS,eM] at h;split at h
  ·cases h
  ·rename_i off size FS;split at h
   ·cases h
   ·rename_i ds F;split at h
    ·obtain ⟨f,c2⟩:=YB F (d x);have xr: ¬ (off+(a.eval x).cells.size>cs.size):=by rw [f,n.1];omega
     obtain ⟨B,v⟩:=zAZ (a.eval x).cells.toList 0 off cs
     have g:gD M w ρ (Pc l off ds) ((a.eval x).cells.zipIdx.foldl (λcs (c,j)=>cs.setIfInBounds (off+j) c) cs):=by
      have N:((a.eval x).cells.zipIdx.foldl (λcs (c,j)=>cs.setIfInBounds (off+j) c) cs)=(((a.eval x).cells.toList.zipIdx 0).foldl (λ(cs:Array Value) (x:Value×Nat)=>cs.setIfInBounds (off+x.2) x.1) cs):=by
       rw [←Array.foldl_toList];simp
      rw [N];refine ⟨by rw [B,iD,n.1],λj b=>?_⟩;rw [iD] at b;rw [v j,iF l off ds b]
      by_cases e:off<=j/\ j<off+ds.length
      ·grind
      ·rw [zEO Z7,zEO e];exact n.2 j b
     obtain ⟨t,g1,g2⟩:=yv rest _ _ r g d h
     simp_all [Instr.fill]
    ·cases h
variable {t:TypeId}
theorem zHL {z:Value}(h:ji P t=some (z,Y))(parts:List (Nat×Value)):P.built t parts=Instr.fill Y z.cells parts:=by
 grind [ji,Program.built]
variable {O:Prop}{d:DV}
theorem zIs (R:AU P Γ N S ρ a w){parts:Array (Nat×Operand)}(h:cW P S t parts.toList=some (d,O)):Yl P N w (MS N S.h ρ) ρ (Instr.build t (parts.map λ(i,x)=>(i,a.eval x))) d:=by
 unfold cW at h;split at h
 ·rename_i z KE f;split at h
  ·rename_i l o;cases h
   have h0:gD (MS N S.h ρ) w ρ (z.cells.toList.map ON) z.cells:=⟨Z3,λj hj=>by
    grind [cD]⟩
   obtain ⟨b,g1,r,c⟩:=yv parts.toList _ _ _ h0 (BV R) o;refine Yl.pure (v:=.agg b) (λW=>run_build W t _ b ?_) ⟨b,rfl,r,c⟩;rw [zHL f]
   simp_all
  ·cases h
 ·cases h
variable {i:TypeInfo}{f:Nat -> DV}{m:Nat}
theorem aA {cs:Array Value}{off a:Nat}(hi:P.info? t=some i)(BR:i.size=a)(Ed:cs.size=m)(c: ∀ j,j<m -> ∃ u,cs[j]? =some u/\ AI M w (f j) ρ u)(h:MZ P t m f off a=some d):Yl P N w M ρ (part t cs off) d:=by
 unfold MZ at h;split at h
 ·split at h
  ·rename_i b;split at h
   ·obtain ⟨u,p,r⟩:=c off Z2;unfold Gg at b;simp only [zAD,zP4,zFN] at b;obtain ⟨⟨J,e⟩,hn⟩:=b
    simp_all [Yl.pure,part,Vb]
   ·cases h
  ·split at h
   ·rename_i g;cases h;obtain ⟨k,i',Bq,dQ⟩:=ow g;obtain ⟨J,e⟩:=wq k;refine Yl.pure (v:=.agg (cs.extract off (off+a))) (λW=>?_) ⟨_,rfl,Z7,λj hj=>?_⟩
    ·simp_all [part,Vb,LE]
    ·obtain ⟨u,p,r⟩:=c (off+j) Z2
     grind [K5]
   ·cases h
 ·cases h
variable {n:Int}{k:IntKind}{v:Value}
theorem zJM (R:AU P Γ N S ρ a w){x:DV}(g:AI (MS N S.h ρ) w x ρ v)(h:km P t x n=some (d,O))(s:O):Yl P N w (MS N S.h ρ) ρ (Instr.index t v (.int k n)) d:=by
 unfold km at h;split at h
 ·rename_i m f;obtain ⟨cs,rfl,l,j⟩:=g;split at h
  ·rename_i len e o;split at h
   ·rename_i i hi;split at h
    ·rename_i b;cases h;simp only [zAD,zH2] at b;obtain ⟨⟨h1,c⟩,rfl⟩:=b
     have p:MZ P e len f n.toNat 1=some (f n.toNat):=by
      grind [MZ]
     obtain ⟨u,q,r⟩:=aA (P:=P) hi c l j p;refine ⟨u,λW H=>?_,r⟩;unfold Instr.index;simp only [asIntOf,zJ2,Sem.run_pure,Result.andThen,zJt o];rw [zAE ⟨s.1,s.2⟩];simp only [zJ2,LE hi,Result.andThen,c,zME];exact q W H
    ·cases h
   ·cases h
  ·cases h
 ·cases h
def zMw (R:AU P Γ N S ρ a w){x:DV}{X:Nat}(b:AI (MS N S.h ρ) w x ρ v)(h:eH P t x X=some (d,O)):Yl P N w (MS N S.h ρ) ρ (Instr.field t v X) d:=by
 unfold eH at h;split at h
 ·obtain ⟨cs,rfl,l,j⟩:=b;split at h
  ·rename_i fs c;split at h
   ·rename_i fd e;split at h
    ·rename_i i hi;split at h
     ·rename_i d' f;cases h;obtain ⟨u,p,r⟩:=aA (P:=P) hi rfl l j f;refine ⟨u,λW H=>?_,r⟩;unfold Instr.field;simp only [zJ2,zJt c,Result.andThen,e,asAgg,Sem.run_pure];exact p W H
     ·cases h
    ·cases h
   ·cases h
  ·cases h
 ·cases h
theorem zEo {y:Nat}{c:BoundsCode}(h0:0<=n)(h1:n<=y)(W:World):(Instr.sliceBound (.int k n) y c).run P W= .ok n.toNat W:=by
 simp_all [Instr.sliceBound,asIntOf]
theorem wv (R:AU P Γ N S ρ a w){o:Option Operand}{l:Option Int}(h:ct S o=some l): ∃ k,o.map a.eval=l.map (Value.int k):=by
 cases o with
 | none=>cases h;exact ⟨.i64,rfl⟩
 | some x=>
  simp only [ct] at h;split at h
  ·rename_i k n e;cases h;have:=BV R x
   grind [AI]
  ·cases h
variable {lo hi:Option Int}{T:IntKind}{e:TypeId}
theorem aC {s:Option Addr}{len cap:Nat}{U:IntKind}(hu:P.underlying t=some (.slice e))(Bq:P.info? e=some i)(h0:0<=lo.getD 0)(h1:lo.getD 0<=hi.getD len)(h2:hi.getD len<=len)(h3:len<=cap)(W:World):
 (Instr.sliceAt t (.slice s len cap) (lo.map (Value.int T)) (hi.map (Value.int U)) none).run P W=
  .ok (.slice (if cap=(lo.getD 0).toNat then s else s.map (·.add ((lo.getD 0).toNat*i.size))) ((hi.getD len).toNat-(lo.getD 0).toNat) (cap-(lo.getD 0).toNat)) W:=by
 have hb:(Instr.sliceBounds true len cap (lo.map (Value.int T)) (hi.map (Value.int U)) none).run P W= .ok ((lo.getD 0).toNat,(hi.getD len).toNat,cap) W:=by
  cases lo <;> cases hi <;> simp only [Option.map_none,zLo,Option.getD_none,Option.getD_some] at* <;>
   simp (disch:=omega) [Instr.sliceBounds,zEo,zJ2,Result.andThen]
 simp_all [Instr.sliceAt,zJt,Instr.slice,LE]
theorem zN0 (R:AU P Γ N S ρ a w){x:DV}{G:Prop}{J:IntKind}(y:AI (MS N S.h ρ) w x ρ v)(h:nq P t x lo hi=some (d,G))(z:G):
 Yl P N w (MS N S.h ρ) ρ (Instr.sliceAt t v (lo.map (Value.int T)) (hi.map (Value.int J)) none) d:=by
 unfold nq at h;split at h
 ·rename_i e A;split at h
  ·rename_i i U
   have gd: ∀ {α:Type} (l:List α) (q c j:Nat) (d:α),j<((l.take c).drop q).length -> ((l.take c).drop q).getD j d=l.getD (q+j) d:=λl q c j d B=>by
    grind
   split at h
   ·rename_i l;split at h
    ·rename_i C;cases h;obtain ⟨H,cap,rfl,g,D,r⟩:=y;obtain ⟨F,O,v3⟩:=z;have E:((l.take (hi.getD l.length).toNat).drop (lo.getD 0).toNat).length=(hi.getD l.length).toNat-(lo.getD 0).toNat:=Z7
     refine Yl.pure (λW=>aC A U F O v3 g W) ⟨_,_,by rw [E],Z2,Z2,λj B=>?_⟩;obtain ⟨b,o,rfl,s,I⟩:=r ((lo.getD 0).toNat+j) Z2;refine ⟨b,o+(lo.getD 0).toNat,?_,s,?_⟩
     ·rw [zEO Z2];simp_all [Kv]
     grind
    ·cases h
   ·rename_i l;split at h
    ·rename_i C;cases h;obtain ⟨H,cap,rfl,g,D,r⟩:=y;obtain ⟨F,O,v3⟩:=z;have E:((l.take (hi.getD l.length).toNat).drop (lo.getD 0).toNat).length=(hi.getD l.length).toNat-(lo.getD 0).toNat:=Z7
     refine Yl.pure (λW=>aC A U F O v3 g W) ⟨_,_,by rw [E],Z2,Z2,λj B=>?_⟩;obtain ⟨b,o,rfl,s,I⟩:=r ((lo.getD 0).toNat+j) Z2;refine ⟨b,o+(lo.getD 0).toNat,?_,s,?_⟩
     ·rw [zEO Z2];simp_all [Kv]
     grind
    ·cases h
   ·rename_i m n f;split at h
    ·rename_i C;cases h;obtain ⟨H,cap,rfl,g,D,r⟩:=y;obtain ⟨F,O,v3⟩:=z;refine Yl.pure (λW=>aC A U F O v3 g W) ⟨_,_,rfl,Z2,Z2,λK j Oo B=>?_⟩;obtain ⟨b,o,u,rfl,s,I,L⟩:=r ((lo.getD 0).toNat+K) j Z2 B;refine ⟨b,o+(lo.getD 0).toNat*m,u,?_,s,?_,L⟩
     ·rw [zEO Z2];grind [Kv]
     grind
    ·cases h
   ·rename_i k m off n;split at h
    ·rename_i C;cases h;obtain ⟨p,cap,M,rfl,g,D,r⟩:=y;obtain ⟨F,O,v3⟩:=z;refine Yl.pure (λW=>aC A U F O v3 g W) ⟨p,_,cap-(lo.getD 0).toNat,M,rfl,Z2,Z2,λhc=>⟨?_,?_⟩⟩
     ·rw [zEO Z2];grind [Kv]
     ·have:cap*m=(lo.getD 0).toNat*m+(cap-(lo.getD 0).toNat)*m:=by rw [←zPu];congr 1;omega
      rw [zPu];omega
    ·cases h
   ·cases h
  ·cases h
 ·cases h
variable {g:Nat -> DV}{xs ys:Array Value}
theorem si {o:IntKind}{n d:Nat}(hi:P.info? e=some i)(l:i.size=1)(m:Gg P e=true)(hk:P.underlying e=some (.int o))(b:xs.size=n)(hy:ys.size=n) 
 (rx: ∀ j,j<n -> ∃ u,xs[j]? =some u/\ AI M w (f j) ρ u) (G: ∀ j,j<n -> ∃ u,ys[j]? =some u/\ AI M w (g j) ρ u) (h: ∀ j,j<n -> JL (f j)=true/\ JL (g j)=true):
 ∀ (x:Θ),(∀ j∈x,j<n) -> ∀ W,Keep N w W -> (Op.eqItems (d+1) e 1 xs ys x).run P W= .ok (O4 f g x) W
 | [],_,W,_=>rfl
 | j::x,c,W,H=>by
  have a:j<n:=c j Z3
  have k: ∀ {cs:Array Value} {f:Nat -> DV},cs.size=n -> (∀ j,j<n -> ∃ u,cs[j]? =some u/\ AI M w (f j) ρ u) -> JL (f j)=true -> (part e cs (j*1)).run P W= .ok (.int .i64 (H8 (f j))) W:=by
   intro cs f p q O
   have r:MZ P e n f (j*1) 1=some (f j):=by
    unfold MZ
    grind
   obtain ⟨u,s,t⟩:=aA (P:=P) hi l p q r;rw [s W H,cr O t]
  simp only [Op.eqItems,zJ2,k b rx (h j a).1,k hy G (h j a).2,Result.andThen,zP6 W d e .i64 o _ _ hk];unfold O4;cases hq:(H8 (f j)==H8 (g j)) with
  | false=>rfl
  | true=>
   exact si hi l m hk b hy rx G h x (λj a=>c j (by simp [a])) W H
theorem sj {d:Nat}(e:xs.size=m)(hy:ys.size=m) 
 (rx: ∀ j,j<m -> ∃ u,xs[j]? =some u/\ AI M w (f j) ρ u) (G: ∀ j,j<m -> ∃ u,ys[j]? =some u/\ AI M w (g j) ρ u):
 ∀ (z:List Field),z.all (nV P m f g)=true -> ∀ W,Keep N w W -> (Op.eqFields (d+1) xs ys z).run P W= .ok (O4 f g (z.map (·.offset))) W
 | [],_,W,_=>rfl
 | fd::z,h,W,H=>by
  rw [zPm,zAD] at h;obtain ⟨h,a⟩:=h;unfold nV at h;simp only [zAD] at h;obtain ⟨c,b,h3,A,k,r,Z⟩:=h;have c:fd.name≠ "_" :=by simpa using c
  have k:fd.offset<m:=zJr k;split at b
  ·rename_i i hi;have b:i.size=1:=by simpa using b
   split at A
   ·rename_i o hk
    have n: ∀ {cs:Array Value} {f:Nat -> DV},cs.size=m -> (∀ j,j<m -> ∃ u,cs[j]? =some u/\ AI M w (f j) ρ u) -> JL (f fd.offset)=true -> (part fd.type cs fd.offset).run P W= .ok (.int .i64 (H8 (f fd.offset))) W:=by
     intro cs f l a O
     have p:MZ P fd.type m f fd.offset 1=some (f fd.offset):=by
      grind [MZ]
     obtain ⟨u,q,s⟩:=aA (P:=P) hi b l a p;rw [q W H,cr O s]
    simp only [Op.eqFields,zAE c,zJ2,n e rx r,n hy G Z,Result.andThen,zP6 W d fd.type .i64 o _ _ hk];rw [zMS];unfold O4;cases hq:(H8 (f fd.offset)==H8 (g fd.offset)) with
    | false=>rfl
    | true=>
     exact sj e hy rx G z a W H
   ·cases A
  ·cases b
theorem zNZ {l:BinOp}{x y:DV}{o I:Value}(B C:Operand)(z:AI M w x ρ o)(hy:AI M w y ρ I)(h:Xs P l t x y=some (d,O)):
 Yl P N w M ρ (do eqGuard l t B C o I;binOp l t o I) d:=by
 have key: ∀ {m b:Nat} {f g:Nat -> DV} {p:Θ} {xs ys:Array Value},eQ P t f g m b=some p -> xs.size=m -> ys.size=b -> (∀ j,j<m -> ∃ u,xs[j]? =some u/\ AI M w (f j) ρ u) -> (∀ j,j<b -> ∃ u,ys[j]? =some u/\ AI M w (g j) ρ u) ->
  P.eqGuardType P.depth t=false/\ ∀ W,Keep N w W -> (Op.equalIn 10000 t (.agg xs) (.agg ys)).run P W= .ok (O4 f g p) W:=by
  intro m b f g p xs ys c V k rx G;unfold eQ at c;split at c
  ·rename_i A q;split at c
   ·rename_i a;cases c;simp only [zAD,zH2] at a;obtain ⟨r,s,E,v⟩:=a;subst E;have e:P.fieldsOf t=A:=by grind [Program.fieldsOf]
    refine ⟨s,λW H=>?_⟩;rw [run_equalIn_struct W 9999 t xs ys (by rw [e];exact q) r,e];exact sj (d:=9998) V k rx G A.toList v W H
   ·cases c
  ·rename_i n e q;split at c
   ·rename_i i hi;split at c
    ·rename_i k' hk;split at c
     ·rename_i a;cases c;simp only [zAD,zH2,zBk,zIN] at a;obtain ⟨⟨⟨⟨⟨r,s⟩,E⟩,v⟩,D⟩,F⟩:=a;subst v;subst D;refine ⟨E,λW H=>?_⟩;have Y:P.cellsOf e=1:=by grind [Program.cellsOf]
      rw [run_equalIn_array W 9999 xs ys q hi,Y];exact si (d:=9998) hi r s hk V k rx G F _ (λj J=>zIN.1 J) W H
     ·cases c
    ·cases c
   ·cases c
  ·cases c
 unfold Xs at h;split at h
 ·split at h
  ·cases h;obtain ⟨xs,rfl,V,rx⟩:=z;obtain ⟨ys,rfl,k,G⟩:=hy;refine ⟨.bool _,λW H=>?_,rfl⟩
   grind [Sem.run_bind,run_eqGuard_agg,Result.andThen,run_eql_struct]
  ·cases h
 ·split at h
  ·cases h;obtain ⟨xs,rfl,V,rx⟩:=z;obtain ⟨ys,rfl,k,G⟩:=hy;refine ⟨.bool _,λW H=>?_,rfl⟩
   grind [Sem.run_bind,run_eqGuard_agg,Result.andThen,run_neq_struct]
  ·cases h
 ·cases h
theorem zHI (R:AU P Γ N S ρ a w)(o:Oper)(h:WE P S o.op=some (d,O))(c:O):
 ∃ v,(∀ W,Keep N w W -> (execOp a.eval o).run P W= .ok (.value v) W)/\ AI (MS N S.h ρ) w d ρ v:=by
 unfold WE at h;split at h
 ·rename_i x xt Z ok b;split at h
  ·rename_i d' g;cases h;obtain ⟨u,j,m⟩:=zO8 (xt:=xt) (BV R x) g;exact IJ (s:=Instr.typeAssert (a.eval x) xt Z ok) (by unfold execOp;rw [b]) ⟨u,λW _=>j W,m⟩
  ·cases h
 ·rename_i t parts b;exact IJ (by unfold execOp;rw [b]) (zIs R h)
 ·rename_i t x i b;have hi:=BV R i;split at h
  ·rename_i k n e;rw [e] at hi;refine IJ (s:=Instr.index t (a.eval x) (a.eval i)) (by unfold execOp;rw [b]) ?_;rw [show a.eval i=_ from hi];exact zJM R (BV R x) h c
  ·cases h
 ·rename_i t x f b;exact IJ (s:=Instr.field t (a.eval x) f) (by unfold execOp;rw [b]) (zMw R (BV R x) h)
 ·rename_i t x lo hi b;split at h
  ·rename_i l p;split at h
   ·rename_i hh L;obtain ⟨k1,B⟩:=wv R p;obtain ⟨k2,F⟩:=wv R L;refine IJ (s:=Instr.sliceAt t (a.eval x) (lo.map a.eval) (hi.map a.eval) none) (by unfold execOp;rw [b];rfl) ?_;rw [B,F];exact zN0 R (BV R x) h c
   ·cases h
  ·cases h
 ·rename_i op t x y t' b;split at h
  ·rename_i r q;cases h;exact IJ (by unfold execOp;rw [b]) (zNZ x y (BV R x) (BV R y) q)
  grind [u0]
 ·exact u0 R o h c
end
abbrev zJs:=@Nat.zero_le
abbrev zJ0:=@List.getElem?_eq_some_iff
abbrev zKG:=@List.getElem?_map
abbrev zLT:=@List.getElem?_append_left
abbrev zQR:=@or_congr
def BX:List Prop -> Prop
 | []=>True
 | p::V=>p/\ BX V
def Da {l l':List Prop}:BX (l++l')↔BX l/\ BX l':=by
 induction l with
 | nil=>simp [BX]
 | cons p ps b=>simp [BX,b,and_assoc]
def AM (d d':DV):Prop:=∀ (M:Ψ) (w:World) (ρ:List AK) (v:Value),AI M w d ρ v -> AI M w d' ρ v
section
variable {P:Program} {Γ:Ay} {N:Ψ}
variable {M M':Ψ}{w:World}
def DK (h: ∀ b,M' b -> M b)(ρ:List AK):BL M w ρ M' w ρ:=⟨λ_ _ _ _=>rfl,λb c=>.inl (h b c),λ_ _ h=>h⟩
def nQ:DO -> Option (Nat×Nat×DV)
 | .ints l=>some (1,l.length,.ints l)
 | .bools l=>some (1,l.length,.bools l)
 | .arr m n f=>some (m,n,.sl m n f)
 | .gro m n f=>some (m,n,.sl m n f)
 | .mo (.rws B none)=>some (1,B.length,.sl 1 B.length λi j=>([.ints (B.getD i default)]:List DV).getD j .any)
 | _=>none
def gB:DO -> Bool
 | .gro .. =>true
 | _=>false
def Iq (b:Bool)(k m:Nat)(v:DV):DV -> DV
 | .msl o f off n=>if o=k/\ f=m/\ off=0 then v else .msl o f off n
 | .gr o=>if b=true/\ o=k then v else .gr o
 | d=>d
def T7 (k m n:Nat):DV -> List Prop
 | .msl o f off e=>if o=k/\ f=m/\ off=0 then [e=n] else []
 | _=>[]
def eD (b:Bool)(k m:Nat)(v:DV):Option DO -> Option DO
 | some (.cells l)=>some (.cells (l.map (Iq b k m v)))
 | some (.ro l)=>some (.ro (l.map (Iq b k m v)))
 | o=>o
def yi (k m n:Nat):Option DO -> List Prop
 | some (.cells l)=>l.flatMap (T7 k m n)
 | some (.ro l)=>l.flatMap (T7 k m n)
 | _=>[]
def Kh (b:Bool)(k m:Nat)(v:DV)(S:St):St:=⟨S.fr.map (Iq b k m v),(S.h.set k none).map (eD b k m v)⟩
variable {d:DV}
theorem om {l:List DV}{f:DV -> List Prop}(h:BX (l.flatMap f))(v:d∈l):BX (f d):=by
 induction l with
 | nil=>simp at v
 | cons x l ih=>
  rw [List.flatMap_cons] at h;obtain ⟨h1,h2⟩:=Da.1 h
  grind
theorem zAk {l:List (Option DO)}{f:Option DO -> List Prop}(h:BX (l.flatMap f)){d:Option DO}(v:d∈l):BX (f d):=by
 induction l with
 | nil=>simp at v
 | cons x l ih=>
  rw [List.flatMap_cons] at h;obtain ⟨h1,h2⟩:=Da.1 h
  grind
variable {cap m n:Nat}{u:Value}{f:Nat -> Nat -> DV}{p:AK}{ρ:List AK}
def oT (c:AY w p (n*m) λj u=>AI M w (f (j/m) (j % m)) [] u)(W: ¬ M' p.blk)(Y: ∀ b,M' b -> M b)(t:u= .slice (some ⟨p.blk,p.off+0*m,none⟩) n cap)(d:n<=cap)(e:n<=LB):AI M' w (.sl m n f) ρ u:=by
 refine ⟨_,cap,t,d,e,λi j hi a=>?_⟩;have A:i*m+j<n*m:=zCD (by rw [Nat.succ_mul];omega:i*m+j<(i+1)*m) (zL2 m hi);obtain ⟨x,B,F⟩:=AY.cell c A;have z:0<m:=Z2
 have q:(i*m+j)/m=i:=by rw [zPz,Nat.mul_add_div z];simp [Nat.div_eq_of_lt a]
 have g:(i*m+j) % m=j:=by rw [zPz,Nat.mul_add_mod];exact Nat.mod_eq_of_lt a
 rw [q,g] at F;exact ⟨p.blk,p.off,x,Z3,W,B,AI.out _ (DK Y []) F⟩
variable {v:DV}{o:DO}
theorem zMt (d:nQ o=some (m,n,v))(a:BT P M w ρ p o)(W: ∀ b,p.foot b -> ¬ M' b)(Y: ∀ b,M' b -> M b)(g:u= .slice (some ⟨p.blk,p.off+0*m,none⟩) n cap)(h:n<=cap)(r:n<=LB):AI M' w v ρ u:=by
 cases o with
 | cells l=>cases d
 | iter e=>cases d
 | ro l=>cases d
 | mo x=>
  cases x with
  | rws ls D=>
   cases D with
   | some y=>cases d
   | none=>
    cases d;obtain ⟨vs,s⟩:=a;obtain ⟨cs,t,B,F,e3,E⟩:=s.row;refine ⟨_,cap,g,h,r,λi j hi z=>?_⟩;obtain rfl:j=0:=Z2
    have U:i+1<vs.size:=by rw [s.size];omega
    have A:=E i hi;rw [zMd U] at A;refine ⟨p.blk,p.off,vs[i+1],Z3,W _ s.blk,by unfold World.cell?;simp [B,A],?_⟩;have C:=s.has i hi λL e=>by cases e
    rw [show vs.getD (i+1) undef=vs[i+1] by simp [U]] at C;rcases C with ⟨e,e'⟩ | ⟨q,c,e,G,g2,R,H,I⟩
    ·simp_all [AI]
    ·rw [e];refine ⟨_,c,rfl,G,R,λk hk=>⟨q.blk,q.off,rfl,W _ H.1,?_⟩⟩;obtain ⟨x,J,K⟩:=I.cell hk;rw [J,K]
  | _=>cases d
 | ints l=>
  cases d;have W:=W p.blk (by rw [a.1]);refine ⟨_,cap,g,h,r,λj z=>⟨p.blk,p.off,Z3,W,?_⟩⟩;obtain ⟨x,B,F⟩:=AY.cell a z;rw [B,F]
 | bools l=>
  cases d;have W:=W p.blk (by rw [a.1]);refine ⟨_,cap,g,h,r,λj z=>⟨p.blk,p.off,Z3,W,?_⟩⟩;obtain ⟨x,B,F⟩:=AY.cell a z;rw [B,F]
 | arr m n f=>cases d;exact oT a (W p.blk (by rw [a.1])) Y g h r
 | gro m n f=>
  cases d;rcases a with ⟨rfl,_⟩ | ⟨_,_,_,_,_,a⟩
  ·exact ⟨_,cap,g,h,r,λi j hi _=>absurd hi (zA6 i)⟩
  ·exact oT a (W p.blk (by rw [a.1])) Y g h r
def zMi {ρ':List AK}(a:BT P M w ρ p (.gro m n f))(W: ∀ b,p.foot b -> ¬ M' b)(Y: ∀ b,M' b -> M b):AI M' w (.sl m n f) ρ' p.val:=by
 rcases a with ⟨rfl,h,_⟩ | ⟨cap,h,c,d,_,a⟩
 ·exact ⟨_,0,h,zBT _,zJs _,λi j hi _=>absurd hi (zA6 i)⟩
 ·exact oT a (W p.blk (by rw [a.1])) Y (by simpa using h) c d
variable {o':DO}{h:DH}{k:Nat}
theorem Xe {b:Bool}{i:Nat}(hi:((h.set k none).map (eD b k m v))[i]? =some (some o')):i≠k/\ ∃ o,h[i]? =some (some o)/\ eD b k m v (some o)=some o':=by
 rw [zKG] at hi;cases d:(h.set k none)[i]? with
 | none=>rw [d] at hi;cases hi
 | some x=>
  rw [d] at hi;have hi:eD b k m v x=some o':=zA2 hi;cases x with
  | none=>cases hi
  | some o=>grind
def Db (S S':St):Prop:=∀ (P:Program) (Γ:Ay) (N:Ψ) (ρ:List AK) (a:Act) (w:World),AU P Γ N S ρ a w -> AU P Γ N S' ρ a w/\ A3 S.h ρ w S'.h ρ w
variable {S:St}
theorem Db.frz (k:Nat)(hk:S.h[k]? =some (some o))(K:nQ o=some (m,n,v))(M:BX (S.fr.flatMap (T7 k m n)))(J:BX (S.h.flatMap (yi k m n))):Db S (Kh (gB o) k m v S):=λP Γ N ρ a w R=>by
 obtain ⟨p,z,T⟩:=R.hr.obj k _ hk
 have Q: ∀ b,MO (Kh (gB o) k m v S).h ρ b -> ∃ i o p',i≠k/\ S.h[i]? =some (some o)/\ ρ[i]? =some p'/\ p'.foot b:=by
  rintro b ⟨i,o',p',q,r,c⟩;obtain ⟨B,E,F,_⟩:=Xe q;exact ⟨i,E,p',B,F,r,c⟩
 have W: ∀ b,p.foot b -> ¬ MS N (Kh (gB o) k m v S).h ρ b:=by
  rintro b O (X | hb)
  ·exact (R.hr.cel k _ p b hk z O).2.1 X
  ·obtain ⟨i,E,p',B,F,r,c⟩:=Q _ hb;exact R.hr.dis i k _ _ p' p b B F hk r z c O
 have Y: ∀ b,MS N (Kh (gB o) k m v S).h ρ b -> MS N S.h ρ b:=λb hb=>hb.imp id λhb=>by
  obtain ⟨i,E,p',_,F,r,c⟩:=Q _ hb;exact ⟨i,E,p',F,r,c⟩
 have conv: ∀ (d:DV) (u:Value),BX (T7 k m n d) -> AI (MS N S.h ρ) w d ρ u -> AI (MS N (Kh (gB o) k m v S).h ρ) w (Iq (gB o) k m v d) ρ u:=by
  intro d u C s;cases d with
  | msl Z m' off n'=>
   simp only [T7,Iq] at C ⊢;split at C
   ·rename_i e;obtain ⟨rfl,rfl,rfl⟩:=e;rw [zAE ⟨rfl,rfl,rfl⟩];obtain ⟨p',cap,L,e,q,r,_⟩:=s;have ep:p'=p:=zA2 (L.symm.trans z);subst ep;have en:=C.1
    grind [zMt]
   ·rename_i e;rw [zEO e];exact AI.out _ (DK Y ρ) s
  | gr Z=>
   simp only [Iq];split
   ·rename_i e;obtain ⟨p',_,_,_,L,rfl,_⟩:=s;obtain rfl:p'=p:=zA2 ((e.2▸L).symm.trans z);cases o with
    | gro m n f=>cases K;exact zMi T W Y
    | _=>cases e.1
   ·exact AI.out _ (DK Y ρ) s
  | _=>exact AI.out _ (DK Y ρ) s
 refine ⟨⟨⟨by simp [Kh,R.hr.len],λi o' hi=>?_,λi o' p' b q r c=>?_,λi i' o1 E p1 p2 b Ah q r c g4 g5 g6=>?_,R.hr.nlt,R.hr.gi⟩,⟨by simp [Kh,R.fr.1],λi hi=>?_⟩⟩,⟨AS.refl _ w,λb hb=>.inl ?_⟩⟩
 ·obtain ⟨B,E,F,g⟩:=Xe hi;obtain ⟨p',L,V⟩:=R.hr.obj i E F;refine ⟨p',L,?_⟩;cases E with
  | cells l=>
   cases g
   show AY w p' (l.map (Iq (gB o) k m v)).length _
   rw [zJu];refine AY.out V rfl λj u y t=>?_
   have:(l.map (Iq (gB o) k m v)).getD j .any=Iq (gB o) k m v (l.getD j .any):=by simp [y]
   rw [this];refine conv _ _ ?_ t
   have D:some (DO.cells l)∈S.h:=zJ1 F;have:=zAk J D;exact om (l:=l) this (by simp [y])
  | ints l=>cases g;exact AY.out V rfl λj u _ t=>t
  | bools l=>cases g;exact AY.out V rfl λj u _ t=>t
  | arr m n f=>cases g;exact AY.out V rfl λj u _ t=>AI.out _ (DK Y []) t
  | gro m n f=>cases g;exact BT.gr V (λ_=>rfl) λt=>AI.out _ (DK Y []) t
  | iter encs=>
   cases g;obtain ⟨gf,lb,Rd,G,H,A,q4⟩:=V;exact ⟨gf,lb,Rd,G,H,λb hb=>⟨λI=>(A b hb).1 (Y b I),(A b hb).2⟩,q4⟩
  | ro l=>
   cases g;obtain ⟨r1,r2,r3⟩:=V;refine ⟨r1,λI=>r2 (Y _ I),?_⟩
   show AY w _ (l.map (Iq (gB o) k m v)).length _
   rw [zJu];refine AY.out r3 rfl λj u y t=>?_
   have:(l.map (Iq (gB o) k m v)).getD j .any=Iq (gB o) k m v (l.getD j .any):=by simp [y]
   rw [this];refine conv _ _ ?_ t
   have D:some (DO.ro l)∈S.h:=zJ1 F;have:=zAk J D;exact om (l:=l) this (by simp [y])
  | mo x=>cases g;exact V
 ·obtain ⟨B,E,F,g⟩:=Xe q;obtain ⟨G,H,A⟩:=R.hr.cel i E p' b F r c;exact ⟨G,H,A⟩
 ·obtain ⟨B,o3,F,_⟩:=Xe q;obtain ⟨UG,o4,Xx,_⟩:=Xe r;exact R.hr.dis i i' o3 o4 p1 p2 b Ah F Xx c g4 g5 g6
 ·have U:i<S.fr.length:=by simpa [Kh] using hi
  have:(Kh (gB o) k m v S).fr.getD i .any=Iq (gB o) k m v (S.fr.getD i .any):=by simp [Kh,U]
  rw [this];refine conv _ _ (om M (by simp [U])) (R.fr.2 i U)
 ·obtain ⟨i,E,p',_,F,r,c⟩:=Q _ hb;exact ⟨i,E,p',F,r,c⟩
def Xf (k:Nat)(S:St):Option (St×List Prop):=match S.h.getD k none with
 | some o=>match nQ o with
  | some (m,n,v)=>some (Kh (gB o) k m v S,S.fr.flatMap (T7 k m n)++S.h.flatMap (yi k m n))
  | none=>none
 | none=>none
theorem Db.frzE (k:Nat)(S':St)(vs:List Prop)(h:Xf k S=some (S',vs))(s:BX vs):Db S S':=by
 unfold Xf at h;split at h
 ·rename_i o ho;split at h
  ·rename_i m n v O;cases h;obtain ⟨a,b⟩:=Da.1 s;refine Db.frz k ?_ O a b
   grind
  ·cases h
 ·cases h
theorem Db.refl (S:St):Db S S:=λ_ _ _ _ _ _ R=>⟨R,A3.refl _ _ _⟩
def Db.trans {A B C:St}(h:Db A B)(k:Db B C):Db A C:=λP Γ N ρ a w R=>by
 obtain ⟨y,b⟩:=h P Γ N ρ a w R;obtain ⟨Z,v⟩:=k P Γ N ρ a w y;exact ⟨Z,b.trans v⟩
theorem MO.put (hk:h[k]? =some (some o)){b:Nat}:MO (h.set k (some o')) ρ b↔MO h ρ b:=by
 have A:=(zJ0.1 hk).1;constructor
 ·rintro ⟨i,x,p,d,a,c⟩;rw [zMD] at d
  by_cases e:k=i
  ·subst e;exact ⟨k,o,p,hk,a,c⟩
  ·rw [zEO e] at d;exact ⟨i,x,p,d,a,c⟩
 ·rintro ⟨i,x,p,d,a,c⟩
  by_cases e:k=i
  ·subst e;exact ⟨k,o',p,by simp [A],a,c⟩
  ·exact ⟨i,x,p,Z4,a,c⟩
theorem Db.objR {a:Act}(R:AU P Γ N S ρ a w)(hk:S.h[k]? =some (some o))(l: ∀ p,ρ[k]? =some p -> BT P (MS N (S.h.set k (some o')) ρ) w ρ p o -> BT P (MS N (S.h.set k (some o')) ρ) w ρ p o'):AU P Γ N ⟨S.fr,S.h.set k (some o')⟩ ρ a w/\ A3 S.h ρ w (S.h.set k (some o')) ρ w:=by
 have Y: ∀ b,MS N (S.h.set k (some o')) ρ b↔MS N S.h ρ b:=λb=>zQR Iff.rfl (MO.put hk)
 have back: ∀ {i:Nat} {x:DO},(S.h.set k (some o'))[i]? =some (some x) -> ∃ y,S.h[i]? =some (some y)/\ (i=k/\ x=o'∨y=x):=by
  grind
 have O:BL (MS N S.h ρ) w ρ (MS N (S.h.set k (some o')) ρ) w ρ:=DK (λb c=>(Y b).1 c) ρ;refine ⟨⟨⟨by simp [R.hr.len],λi x hi=>?_,λi x p b d r g=>?_,λi Q o1 o2 C F b K d r g U D m=>?_,R.hr.nlt,R.hr.gi⟩,R.fr.out O⟩,⟨AS.refl _ w,λb c=>.inl ((MO.put hk).1 c)⟩⟩
 ·rw [zMD] at hi
  by_cases e:k=i
  ·subst e;rw [zAE rfl,zAE (zJ0.1 hk).1] at hi;cases hi;obtain ⟨p,f,j⟩:=R.hr.obj k o hk;exact ⟨p,f,l p f (j.out O (S:=λ_=>False) (AS.refl _ _) (λ_ h=>h.elim) λ_ _ _ h=>h)⟩
  ·rw [zEO e] at hi;obtain ⟨p,f,j⟩:=R.hr.obj i x hi;exact ⟨p,f,j.out O (S:=λ_=>False) (AS.refl _ _) (λ_ h=>h.elim) λ_ _ _ h=>h⟩
 ·obtain ⟨y,e,_⟩:=back d;exact R.hr.cel i y p b e r g
 ·obtain ⟨n,B,_⟩:=back d;obtain ⟨q,s,_⟩:=back r;exact R.hr.dis i Q n q C F b K B s g U D m
def Db.obj (hk:S.h[k]? =some (some o))(a: ∀ (P:Program) (M:Ψ) (w:World) (ρ:List AK) (p:AK),BT P M w ρ p o -> BT P M w ρ p o'):Db S ⟨S.fr,S.h.set k (some o')⟩:=λP _ _ ρ _ w R=>Db.objR R hk λp _=>a P _ w ρ p
inductive Fz where
 | frz (k:Nat)
 | arr (k n:Nat) (f:Nat -> Nat -> DV)
 | unf (k:Nat)
 | rws
def zAb (k e:Nat)(L:Nat -> Nat -> DV)(S:St):Option (St×List Prop):=match S.h.getD k none with
 | some (.arr m n f)=>some (⟨S.fr,S.h.set k (some (.arr m e L))⟩,[n=e/\ ∀ i j,i<n -> j<m -> AM (f i j) (L i j)])
 | some (.gro m n f)=>some (⟨S.fr,S.h.set k (some (.gro m e L))⟩,[n=e/\ ∀ i j,i<n -> j<m -> AM (f i j) (L i j)])
 | _=>none
def eB:Fz -> St -> Option (St×List Prop)
 | .frz k,S=>Xf k S
 | .arr k n f,S=>zAb k n f S
 | .unf k,S=>match S.h.getD k none with
  | some (.mo (.rows f (some (_,_,false))))=>some (⟨S.fr,S.h.set k (some (.mo (.rows f none)))⟩,[])
  | _=>none
 | .rws,_=>none
def FZ.unf {f:Int -> Ξ}{x:Int}{L:Ξ}{es:Array MapEntry}{Y:Nat}(h:FZ w p f (some (x,L,false)) u es Y):FZ w p f none u es Y:=
 { h with
  key:=λe M=>let ⟨k,a,b⟩:=h.key e M;⟨k,a,λ_=>b λL e=>by cases e⟩
  inHand:=λk L g e=>by cases e }
theorem getD_some (ho:h.getD k none=some o):h[k]? =some (some o):=by
 grind
theorem Db.fz (z:Fz)(S':St)(vs:List Prop)(h:eB z S=some (S',vs))(s:BX vs):Db S S':=by
 have row: ∀ (m n:Nat) (f b:Nat -> Nat -> DV),(∀ i j,i<n -> j<m -> AM (f i j) (b i j)) -> ∀ (M:Ψ) (w:World) (p:AK),AY w p (n*m) (λj u=>AI M w (f (j/m) (j % m)) [] u) -> AY w p (n*m) λj u=>AI M w (b (j/m) (j % m)) [] u:=λm n f b v M w p a=>
  AY.out a rfl λj u d t=>by
   have c:0<m:=by
    grind
   exact v _ _ ((zMc c).2 d) (Nat.mod_lt _ c) M w [] u t
 cases z with
 | frz k=>exact Db.frzE k S' vs h s
 | arr k n' b=>
  simp only [eB,zAb] at h;split at h
  ·rename_i m n f y;cases h;obtain ⟨⟨rfl,v⟩,_⟩:=s;exact Db.obj (getD_some y) λP M w ρ p a=>row _ _ _ _ v _ _ _ a
  ·rename_i m n f y;cases h;obtain ⟨⟨rfl,v⟩,_⟩:=s;exact Db.obj (getD_some y) λP M w ρ p a=>a.imp id λ⟨cap,B,F,e,C,a⟩=>⟨cap,B,F,e,C,row _ _ _ _ v _ _ _ a⟩
  ·cases h
 | unf k=>
  simp only [eB] at h;split at h
  ·rename_i f x L y;cases h;exact Db.obj (getD_some y) λP M w ρ p ⟨u,es,Y,E⟩=>⟨u,es,Y,E.unf⟩
  ·cases h
 | rws=>cases h
def Xd:List (Nat×Fz) -> Option Nat -> St -> Option (St×List Prop×List (Nat×Fz))
 | [],_,S=>some (S,[],[])
 | (t,z)::rest,dst,S=>if dst=some t then match eB z S with
  | some (S',vs)=>match Xd rest dst S' with
   | some (U,j,r)=>some (U,vs++j,r)
   | none=>none
  | none=>some (S,[],(t,z)::rest)
  else some (S,[],(t,z)::rest)
def Xc: ∀ (l:List (Nat×Fz)) {dst:Option Nat} {S S':St} {vs:List Prop} {r:List (Nat×Fz)},Xd l dst S=some (S',vs,r) -> BX vs -> Db S S'
 | [],dst,S,S',vs,r,h,_=>by cases h;exact Db.refl S
 | (t,z)::rest,dst,S,S',vs,r,h,s=>by
  simp only [Xd] at h;split at h
  ·split at h
   ·rename_i c P a;split at h
    ·rename_i S2 FD r2 b;cases h;obtain ⟨V,H⟩:=Da.1 s;exact (Db.fz z c P a V).trans (Xc rest b H)
    ·cases h
   ·cases h;exact Db.refl S
  ·cases h;exact Db.refl S
abbrev Pi {α:Type} [Inhabited α] (enc:α -> Nat -> DV) (L:List α):Nat -> Nat -> DV:=λi j=>enc (L.getD i default) j
variable {g:Nat -> Nat -> DV}{α:Type}
theorem Vf [Inhabited α] {enc:α -> Nat -> DV} {L L':List α} {c:Nat}  (u:n=L.length) (a:c=L'.length) (b: ∀ i j,i<c -> j<m -> AM (g i j) (Pi enc L' i j)):n+c=(L++L').length/\ ∀ i j,i<n+c -> j<m -> AM (if i<n then Pi enc L i j else g (i-n) j) (Pi enc (L++L') i j):=by
 subst u;subst a;refine ⟨Z3,λi j hi hj=>?_⟩;simp only [Pi,zBS] at b ⊢
 by_cases h:i<L.length
 ·rw [zAE h,zLT h];exact λ_ _ _ _ h=>h
 grind
theorem zE4 [Inhabited α] {enc:α -> Nat -> DV}  {x:α}  (hg: ∀ i j,j<m -> AM (g i j) (enc x j)):n=(List.replicate n x).length/\ ∀ i j,i<n -> j<m -> AM (g i j) (Pi enc (List.replicate n x) i j):=by
 grind
theorem Ar :AM d d:=λ_ _ _ _ h=>h
theorem zHv {l:List DV}(hl:l.all Ie=true)(hm:m=l.length): ∀ j,j<m -> Ie (l.getD j .any)=true:=λj hj=>by
 grind
def Jg:List DV -> List DV -> Prop
 | [],[]=>True
 | d::ds,e::es=>AM d e/\ Jg ds es
 | _,_=>False
theorem Uh: ∀ {l l':List DV},Jg l l' -> l.length=l'.length/\ ∀ j,j<l.length -> AM (l.getD j .any) (l'.getD j .any)
 | [],[],_=>⟨rfl,λj i=>absurd i (zA6 j)⟩
 | d::ds,e::es,⟨h1,b⟩=>by
  obtain ⟨q1,q2⟩:=Uh b
  grind
 | [],_::_,h=>h.elim
 | _::_,[],h=>h.elim
theorem zAo {l l':List DV}(h:Jg l l')(j:Nat):AM (l.getD j .any) (l'.getD j .any):=by
 grind [Uh,Ar]
def ix:List DV -> List (List DV) -> Prop
 | [],[]=>True
 | v::vs,c::cs=>(∃ l,Je v=some l/\ Jg l c)/\ ix vs cs
 | _,_=>False
theorem tE: ∀ {vs:List DV} {cs:List (List DV)},ix vs cs -> vs.length=cs.length/\ ∀ i,i<vs.length -> ∃ l,Je (vs.getD i .any)=some l/\ Jg l (cs.getD i [])
 | [],[],_=>⟨rfl,λi hi=>absurd hi (zA6 i)⟩
 | v::vs,c::cs,⟨h1,b⟩=>by
  obtain ⟨q1,q2⟩:=tE b
  grind
 | [],_::_,h=>h.elim
 | _::_,[],h=>h.elim
theorem Gb [Inhabited α] {c:α -> List DV} {L:List α} {vals:List DV}  (hn:n=vals.length) (h:ix vals (L.map c)):n=L.length/\ ∀ i j,i<n -> j<m -> AM (match Je (vals.getD i .any) with | some l=>l.getD j .any | none=>.any) (Pi (λx j=>(c x).getD j .any) L i j):=by
 grind [tE,List.length_map,zAo]
def tA [Inhabited α] {c:α -> List DV} {x:α} {l:List DV}  (h:Jg l (c x)):n=(List.replicate n x).length/\ ∀ i j,i<n -> j<m -> AM (l.getD j .any) (Pi (λx j=>(c x).getD j .any) (List.replicate n x) i j):=
 zE4 λ_ j _=>zAo h j
end
end Go.Proofs.YtodinaconebmdaaGreatDoor
