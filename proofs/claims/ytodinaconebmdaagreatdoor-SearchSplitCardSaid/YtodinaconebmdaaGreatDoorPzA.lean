/- Part 1 of 8 of what the proofs of these laws stand on. -/
import Derived.WalkKit
import Derived.WalkSpells
import Derived.WalkLawsBesides
import Derived.Lib.Hide
import Derived.OrdersHeld
import Derived.Deep.RegionHeld
import Derived.BigQuiet
import Derived.OrdersIn
import Derived.TacticsIn
import Derived.RangeFuncOwn
import Derived.RangeFuncNested
import Derived.RangeFuncCalls
import Derived.Laws.IdiomRangeMap
import Derived.Laws.Cells
import Derived.Laws.Cover3
import Derived.Laws.StructEq
import Derived.ChangeKeysEq
import Derived.RowKit
import Derived.Deep.AppendSrc
import Derived.Laws.MakeOwn
import Derived.Great.BuildSlice
import Derived.Sort.LoopGhostIn
set_option linter.all false
namespace Go.Proofs.YtodinaconebmdaaGreatDoor
open Go.RowKit
abbrev Ξ:=List Int
abbrev Ω:=List Bool
abbrev Ψ:=Nat -> Prop
abbrev Θ:=List Nat
abbrev Δ:=Int×Int
abbrev zGT:=@Nat.le_refl
abbrev zIb:=@Go.World.block_lt_of_cell?
section
def A0 (w w':World):Prop:=Below w.heap.size w w'
theorem A0.refl (w:World):A0 w w:=Below.refl _ _
def A0.trans {a b c:World}(h:A0 a b)(k:A0 b c):A0 a c:=Below.trans h (Below.mono k h.size)
def A0.alloc (w:World)(o:Obj):A0 w (w.alloc o):=(Below.refl _ _).alloc (zGT _) o
variable {w w':World}
def A0.allocR (h:A0 w w')(o:Obj):A0 w (w'.alloc o):=h.trans (A0.alloc w' o)
def A0.drewR (h:A0 w w'):A0 w w'.drew:=Below.drew h
def A0.size (h:A0 w w'):w.heap.size<=w'.heap.size:=Below.size h
theorem A0.cells (h:A0 w w'): ∀ b o,b<w.heap.size -> w'.cell? ⟨b,o,none⟩=w.cell? ⟨b,o,none⟩:=
 λb o c=>Below.cell h (p:=⟨b,o,none⟩) c
theorem A0.cell (h:A0 w w'){b o:Nat}{u:Value}(l:w.cell? ⟨b,o,none⟩=some u):w'.cell? ⟨b,o,none⟩=some u:=by
 rw [h.cells b o (zIb w ⟨b,o,none⟩ l)];exact l
def Dd (b:Bool)(e:Int):Int:=if b then 0 else e
def zJx (e:Int):Dd true e=0:=rfl
structure AD where
 kind:Int
 cells:Ξ
 set:Int
 other:Int
 lo:Int
 hi:Int
 runs:Ξ
 rule:Int
 spot:Int
 deriving DecidableEq,Inhabited
structure AA where
 cells:Int
 symbols:Int
 values:Ξ
 nbrs:List Ξ
 cons:List AD
 deriving DecidableEq,Inhabited
end
abbrev zEZ:=@if_pos
abbrev zEh:=@Bool.and_eq_true
abbrev zGN:=@if_neg
abbrev zGk:=@beq_iff_eq
abbrev zGq:=@Bool.or_eq_true
abbrev zGu:=@Go.Sem.run_bind
abbrev zIp:=@Bool.false_eq_true
abbrev zNK:=@Go.mem_ready
section
def VT:Op -> Bool
 | .move _ | .assign _ | .pick .. | .load .. | .binOp .. | .unOp .. | .convert .. | .makeFunc .. | .slice .. | .fieldAddr .. | .field .. | .indexAddr .. | .index .. | .extract .. | .build .. | .lookup .. | .makeInterface .. | .nilCheck _ | .typeAssert .. =>true
 | .call c=>match c.callee with
  | .builtin .len | .builtin .cap | .builtin .min | .builtin .max=>true
  | _=>false
 | _=>false
variable {n:Next}{w w':World}{P:Program}
def RC {α:Type}{s:Sem α}{f:α -> Value}(h:(s>>=λx=>(pure (.value (f x)):Sem Next)).run P w= .ok n w'): ∃ v,n= .value v:=by
 rw [zGu] at h;cases j:s.run P w with
 | ok v w1=>rw [j] at h;simp only [Result.andThen] at h;cases h;exact ⟨_,rfl⟩
 | halt x w1=>simp_all
def zDZ {ρ:Operand -> Value}{o:Oper}(g:VT o.op=true)(h:(execOp ρ o).run P w= .ok n w'): ∃ v,n= .value v:=by
 unfold execOp at h;cases t:o.op <;> rw [t] at g h <;> simp only [VT,zIp] at g
 all_goals first | exact RC (f:=λx=>x) h | (cases h;exact ⟨_,rfl⟩) | skip
 ·rename_i c x y;exact RC (s:=asBool (ρ c)) (f:=λb=>if b then ρ x else ρ y) h
 ·rename_i x
  have j: ∀ {α:Type} (s:Sem α) (f:α -> Sem Next) (w0:World),(∀ a w1,(f a).run P w1= .ok n w' -> ∃ v,n= .value v) -> (s>>=f).run P w0= .ok n w' -> ∃ v,n= .value v:=by
   intro α s f w0 M i;rw [zGu] at i;cases u:s.run P w0 with
   | ok v w1=>rw [u] at i;exact M _ _ i
   | halt x w1=>simp_all
  have X:(runtimePanic .nilDeref:Sem Next).run P w= .ok n w' -> ∃ v,n= .value v:=by
   simp_all [runtimePanic]
  simp only at h;split at h
  ·exact X h
  ·exact X h
  ·exact X h
  ·split at h
   ·exact X h
   ·refine j _ _ _ ?_ h;intro p w1 z;refine j _ _ _ ?_ z;intro q w2 k;split at k
    ·simp_all
    ·cases k;exact ⟨_,rfl⟩
   ·cases h;exact ⟨_,rfl⟩
  ·cases h;exact ⟨_,rfl⟩
 ·rename_i c;replace h:((resolve ρ c o.type)>>=λd=>invoke d.target d.args).run P w= .ok n w':=h;rw [zGu] at h;unfold resolve at h;cases l:c.callee with
  | value f=>rw [l] at g;simp at g
  | invoke r m=>rw [l] at g;simp at g
  | builtin b=>
   rw [l] at g h;have e: ∀ d:Deferred,(pure d:Sem Deferred).run P w= .ok d w:=λ_=>rfl
   simp only [e,Result.andThen] at h;unfold invoke at h;cases b <;> simp at g <;> exact RC (f:=λx=>x) h
structure Xh (w:World) where
 W:World
 le:A0 w W
def Tx (w:World):World -> Prop:=λw'=>∃ x:Xh w,w'=x.W
def Tx.iff :Tx w w'↔A0 w w':=⟨λ⟨x,e⟩=>e▸x.le,λh=>⟨⟨w',h⟩,rfl⟩⟩
def A0.toDrew (w:World):A0 w w.drew:=A0.drewR (A0.refl w)
section
variable {P:Program} {ops:Array Oper} {Q:Exit -> Act -> World -> Prop}
def xR {w:World}{o:Oper}{a:Act}{v:Value}(g:VT o.op=true)(U:Region.wanted o (yielded ops a.tmps)=true) 
 (h: ∀ w',Tx w w' -> o.quietAt P a (Tx w) w' v):YieldsIf P ops (A0 w) o v a:=by
 refine .inl ⟨U,λw' C=>?_⟩;have:=h w' (Tx.iff.2 C);unfold Oper.quietAt at this;cases i:(execOp a.eval o).run P w' with
 | halt x w1=>grind [Oper.quietUpon]
 | ok n w1=>
  obtain ⟨u,rfl⟩:=zDZ g i;rw [i] at this;obtain ⟨rfl,rfl⟩:=this;rfl
def NP (Q:Exit -> Act -> World -> Prop):Exit -> Act -> World -> Prop
 | .panic _,_,_=>False
 | e,a,w=>Q e a w
def NP.put (c:List PanicEntry)(a:Act)(d:Option Tmp)(v:Value)(w:World)(h:NP Q (.panic c) (a.put d v) w):NP Q (.panic c) a w:=h.elim
def HJ (ops:Array Oper)(H:Array Bool):Prop:=∀ (j:Nat) (x:Oper),ops[j]? =some x -> H.getD j false=true -> ∀ e∈x.after,Region.binds .any e=true -> H.getD e.on false=true
variable {H:Array Bool}
def HJ.set {i:Nat}(h:HJ ops H)(hi:i∈Region.ready .any ops H):HJ ops (H.setIfInBounds i true):=by
 obtain ⟨_,oi,hoi,QP⟩:=zNK.1 hi;intro j x d m e J c
 by_cases Y:i=j
 ·grind [getD_set_true]
 ·rw [getD_set_ne false Y] at m;exact getD_set_true (h j x d m e J c)
def Gl (ops:Array Oper):Nat -> Nat -> Nat -> Bool
 | 0,_,_=>false
 | n+1,t,i=>match ops[t]? with
  | none=>false
  | some o=>o.after.any λe=>Region.binds .any e&&(e.on==i||Gl ops n e.on i)
theorem Xr (l:HJ ops H): ∀ (n t i:Nat) (o:Oper),ops[t]? =some o -> (∀ e∈o.after,Region.binds .any e=true -> H.getD e.on false=true) -> Gl ops n t i=true -> H.getD i false=true
 | 0,_,_,_,_,_,h=>by simp [Gl] at h
 | n+1,t,i,o,x,K,h=>by
  simp only [Gl,x] at h;obtain ⟨e,J,c⟩:=Array.any_eq_true'.1 h;simp only [zEh,zGq,zGk] at c;obtain ⟨c,h1 | h1⟩:=c
  ·rw [←h1];exact K e J c
  ·cases E:ops[e.on]? with
   | none=>cases n <;> simp [Gl,E] at h1
   | some F=>exact Xr l n e.on i F E (l e.on F E (K e J c)) h1
def CQ (ops:Array Oper):Θ -> List Oper
 | []=>[]
 | i::l=>match ops[i]? with | some o=>o::CQ ops l | none=>CQ ops l
def Ue (ops:Array Oper)(h:Nat -> Bool):Θ -> Array Bool -> Bool
 | [],_=>true
 | i::l,H=>(Region.ready .any ops H).contains i&&Region.free .any ops H i&&(match ops[i]? with | some o=>VT o.op | none=>false)&&
  ((List.range ops.size).all λj=>!h j||Gl ops ops.size j i)&&Ue ops h l (H.setIfInBounds i true)
def Lv (l:Θ)(H:Array Bool):Array Bool:=l.foldl (λs i=>s.setIfInBounds i true) H
def UH (ops:Array Oper):Θ -> Array Bool -> Bool
 | [],H=>(Region.ready .any ops H).isEmpty
 | t::d,H=>Region.ready .any ops H== [t]&&UH ops d (H.setIfInBounds t true)
def Uf (ops:Array Oper)(h:Nat -> Bool):List (Θ×Nat) -> Θ -> Θ -> Array Bool -> Bool
 | [],B,e,H=>Ue ops h B H&&((List.range ops.size).all λj=>h j||(Lv B H).getD j true)&&UH ops e (Lv B H)
 | (a,i)::b,B,e,H=>Ue ops h a H&&(Region.ready .any ops (Lv a H)== [i])&&Uf ops h b B e ((Lv a H).setIfInBounds i true)
def Su:List (Θ×Nat) -> Θ -> Nat
 | [],B=>B.length
 | (H,_)::e,B=>H.length+(1+Su e B)
def eJ (ops:Array Oper)(s:List (Θ×Nat))(B e:Θ):Bool:= Region.noSelect ops&&Su s B+e.length==ops.size&&Uf ops (λj=>e.contains j) s B e (Array.replicate ops.size false)
def dL {C:World -> Prop}: ∀ (l:List Oper) (a:Act) (K Y:Act -> Prop),(∀ a,K a -> Y a) -> wpQuiet P ops C K l a -> wpQuiet P ops C Y l a
 | [],a,K,Y,hk,h=>hk a h
 | o::l,a,K,Y,hk,h=>by
  unfold wpQuiet at*
  by_cases U:Region.wanted o (yielded ops a.tmps)=true
  ·rw [zEZ U] at h ⊢;exact Oper.quiet_mono (λa h=>dL l a K Y hk h) h
  ·rw [zGN U] at h ⊢;exact dL l _ K Y hk h
end
end
abbrev zGI:=@Array.getElem?_eq_some_iff
abbrev zGh:=@List.mem_singleton
abbrev zGw:=@Nat.zero_add
abbrev zIW:=@Nat.lt_or_ge
abbrev zIe:=@Array.getElem?_eq_getElem
abbrev zI1:=@Go.Oper.semAt_eq
abbrev zI6:=@if_true
abbrev zMp:=@List.length_nil
abbrev zMu:=@Array.mem_of_getElem?
abbrev zMx:=@Go.wpOpIn_mono
def DF (ops:Array Oper):Bool:=ops.all λo=>match o.op with
 | .defer _=>false
 | _=>true
theorem Hw {ops:Array Oper}(h:DF ops=true){j:Nat}{o:Oper}(d:ops[j]? =some o): ∀ c,o.op≠.defer c:=by
 intro c l;have v:o∈ops:=zMu d;have:=Array.all_eq_true'.1 h o v;rw [l] at this;cases this
section
variable {F:Fence} {n:Nat} {P:Program} {ops:Array Oper} {Q:Exit -> Act -> World -> Prop}
variable {w:World}{K:Act -> World -> Prop}{a:Act}{v:Value}{i:Nat}{S:World -> Prop}
theorem Xj {o:Oper}(hF: ∀ f,F.fn f)(hd: ∀ c,o.op≠.defer c)(hi:ops[i]? =some o)(hy:YieldsIf P ops S o v a) 
   (hS:S w) (h:K (a.put o.dst v) w):wpOpIn F n P ops Q i K a w:=by
 unfold Go.wpOpIn;simp only [hi];rcases hy with ⟨U,hv⟩ | ⟨U,rfl⟩
 ·simp_all [Oper.wpIn,zI1,Oper.uponIn]
 grind
variable {V:Oper}
def mP {j:Nat}{e:Oper}(o: ∀ f,F.fn f)(i: ∀ c,e.op≠.defer c)(p:ops[j]? =some e)(L:V.apart ops e=true) 
 (g: ∀ cs b,V.op≠.select cs b) (G: ∀ cs b,e.op≠.select cs b)
 (q: ∀ c a w,Q (.panic c) (a.put V.dst v) w -> Q (.panic c) a w)   
 (hy:YieldsIf P ops S V v a) (h:wpOpIn F n P ops Q j K (a.put V.dst v) w):
 wpOpIn F n P ops Q j (λk w'=>YieldsIf P ops S V v k/\ K (k.put V.dst v) w') a w:=by
 obtain ⟨l,h2,m⟩:=Oper.apart_spec L
 have keep: ∀ (a:Act),YieldsIf P ops S V v a -> ∀ u,YieldsIf P ops S V v (a.put e.dst u):=λa hy u=>
  hy.of_same (execOp_put V g a e.dst u m) (wanted_put V a e.dst u m)
 have keepD: ∀ d,YieldsIf P ops S V v { a with defers:=d::a.defers }:=λd=>hy.of_same rfl rfl
 unfold wpOpIn at*;simp only [p] at*;rw [wanted_put e a V.dst v l] at h;split
 ·rename_i U;simp only [U,zI6] at h;unfold Oper.wpIn at*;refine ⟨λf _=>o f,?_⟩;have h:=h.2;rw [zI1 _ _ _ i,execOp_put e G a V.dst v l] at h;rw [zI1 _ _ _ i]
  generalize (execOp a.eval e).run P w=r at*
  cases r with
  | ok x w'=>
   cases x <;> simp only [Oper.uponIn] at h ⊢
   case value u=>grind [Act.put_comm]
   case skip=>grind [Act.put_comm]
   case defer d=>
    grind [Act.put_comm,Act.put_defers]
   case enter f args=>
    grind [CallsIn.mono,Act.put_comm]
   case row row args=>grind [Act.put_comm]
   grind [RoundIn.mono,Act.put_comm]
  | halt x w'=>
   cases x <;> simp only [Oper.uponIn] at h ⊢
   case panic u=>exact q _ _ _ h
 grind [Act.put_comm]
def xW (h:wpOpIn F n P ops (NP Q) i K a w):wpOpIn F n P ops Q i K a w:=by
 unfold wpOpIn at*;split
 ·grind
 ·rename_i o b;simp only [b] at h;have m:LetsOut (NP Q) -> LetsOut Q:=λ⟨a,w,h⟩=>⟨a,w,h⟩
  by_cases U:Region.wanted o (yielded ops a.tmps)=true
  ·rw [zEZ U] at h ⊢;unfold Oper.wpIn at*;refine ⟨h.1,?_⟩;have h:=h.2
   generalize (o.semAt F.round a.eval).run P w=r at*
   cases r with
   | ok x w'=>
    cases x <;> simp only [Oper.uponIn] at h ⊢ <;> first | exact h | skip
    ·refine ⟨h.1,CallsIn.mono h.2 λe G J=>?_⟩;cases e with
     | returned v=>exact J
     | panicked c=>exact J.elim
     | outgrown=>exact m J
    ·refine ⟨h.1,RoundIn.mono h.2 λe G J=>?_⟩;cases e with
     | returned v=>exact J
     | panicked c=>exact J.elim
     | outgrown=>exact m J
   | halt x w'=>cases x <;> simp only [Oper.uponIn] at h ⊢;exact h.elim
  ·rw [zGN U] at h ⊢;exact h
def Kf (F:Fence)(n:Nat)(P:Program)(ops:Array Oper)(Q:Exit -> Act -> World -> Prop)(h:Nat -> Bool)(g:Nat)(S:World -> Prop):Nat -> Array Bool -> Act -> World -> Prop
 | 0,H,a,w=>(∀ j,j<ops.size -> h j=false -> H.getD j true=true)/\ wpAnyIn F n P .any ops Q g H a w
 | m+1,H,a,w=>Region.ready .any ops H≠[]/\ ∀ i∈Region.ready .any ops H,wpOpIn F n P ops (NP Q) i (λb w'=>S w'/\ Kf F n P ops Q h g S m (H.setIfInBounds i true) b w') a w
variable {g:Nat}{b:Nat -> Bool}
def dM {S':World -> Prop}(c: ∀ w,S' w -> S w): ∀ (m:Nat) (H:Array Bool) (a:Act) (w:World),
 Kf F n P ops Q b g S' m H a w -> Kf F n P ops Q b g S m H a w
 | 0,_,_,_,h=>h
 | m+1,_,_,_,h=>⟨h.1,λi hi=>zMx (λ_ _ h'=>⟨c _ h'.1,dM c m _ _ _ h'.2⟩) (h.2 i hi)⟩
def mU : ∀ (m:Nat) (H:Array Bool) (a:Act) (w:World),Kf F n P ops Q b g S m H a w -> wpAnyIn F n P .any ops Q (m+g) H a w
 | 0,_,_,_,h=>by rw [zGw];exact h.2
 | m+1,_,_,_,h=>by
  rw [show m+1+g=(m+g)+1 by omega];exact ⟨λh0=>absurd h0 h.1,λi hi=>zMx (λc w' h'=>mU m _ c w' h'.2) (xW (h.2 i hi))⟩
def mT (y: ∀ f,F.fn f)(z:DF ops=true){r:Nat -> Bool}{k:Nat}(hi:ops[i]? =some V)(Z: ∀ (j:Nat) (o:Oper) cs b,ops[j]? =some o -> o.op≠.select cs b) 
 (hT: ∀ j,j<ops.size -> r j=true -> Gl ops k j i=true):
 ∀ (m:Nat) (d:Array Bool) (a:Act) (w:World),HJ ops d ->
  (∀ j x,ops[j]? =some x -> j≠i -> d.getD j true=false -> (∀ e∈x.after,Region.binds .any e=true -> e.on≠i) -> V.apart ops x=true) ->
  i∈Region.ready .any ops d -> YieldsIf P ops S V v a -> S w ->
  Kf F n P ops Q r g S m (d.setIfInBounds i true) (a.put V.dst v) w -> Kf F n P ops Q r g S (m+1) d a w:=by
 intro m
 induction m with
 | zero=>
  intro d a w T _ l hy A H;have J:=(zNK.1 l).1;refine ⟨λh=>(by rw [h] at l;cases l),λj q=>?_⟩
  by_cases s:j=i
  ·grind [Xj,Hw]
  ·exfalso
   obtain ⟨X,x,p,K⟩:=zNK.1 q;have B:=(zGI.1 p).1;cases C:r j with
   | true=>
    grind [Xr]
   | false=>
    have:=H.1 j B C
    simp_all [Ne.symm]
 | succ m U=>
  intro d a w T u l hy A H;have J:=(zNK.1 l).1;refine ⟨λh=>(by rw [h] at l;cases l),λj q=>?_⟩
  by_cases s:j=i
  ·grind [Xj,Hw]
  ·have D:=H.2 j (ready_mono q s);obtain ⟨X,x,p,K⟩:=zNK.1 q
   have E: ∀ e∈x.after,Region.binds .any e=true -> e.on≠i:=λe he hb bD=>by
    grind
   have G:=mP y (Hw z p) p (u j x p s X E) (λcs b=>Z i V cs b hi) (λcs b=>Z j x cs b p) (λc a w h=>NP.put c a _ _ w h) hy D
   have L: ∀ k ok,ops[k]? =some ok -> k≠i -> (d.setIfInBounds j true).getD k true=false ->
    (∀ e∈ok.after,Region.binds .any e=true -> e.on≠i) -> V.apart ops ok=true:=λk ok hk I IW Y=>by
    refine u k ok hk I ?_ Y
    by_cases M:j=k
    ·subst M;exact X
    simp_all
   refine zMx (λN w' t=>⟨t.2.1,U (d.setIfInBounds j true) N w' (T.set q) L (ready_mono l (Ne.symm s)) t.1 t.2.1 ?_⟩) G
   grind [Array.setIfInBounds_comm]
def RN (F:Fence)(n:Nat)(P:Program)(ops:Array Oper)(Q:Exit -> Act -> World -> Prop):Θ -> Act -> World -> Prop
 | [],a,w=>Q .normal a w
 | t::d,a,w=>wpOpIn F n P ops Q t (RN F n P ops Q d) a w
def bw (H:Θ)(b w:World):World:=match H with
 | []=>b
 | _=>w
def QJ (F:Fence)(n:Nat)(P:Program)(ops:Array Oper)(Q:Exit -> Act -> World -> Prop):World -> List (Θ×Nat) -> Θ -> Θ -> Act -> World -> Prop
 | _,[],B,e,a,w=>wpQuiet P ops (λw'=>∃ x:Xh w,w'=x.W) (λc=>RN F n P ops Q e c w) (CQ ops B) a
 | b,(H,i)::d,B,e,a,w=>wpQuiet P ops (λw'=>∃ x:Xh w,w'=x.W) (λc=>wpOpIn F n P ops (NP Q) i (λK G=>A0 (bw H b w) G/\ QJ F n P ops Q (bw H b w) d B e K G) c w) (CQ ops H) a
def nQ: ∀ (e:Θ) (H:Array Bool) (a:Act) (w:World),UH ops e H=true -> RN F n P ops Q e a w -> wpAnyIn F n P .any ops Q e.length H a w
 | [],H,a,w,hk,h=>⟨by simpa [UH] using hk,h⟩
 | t::d,H,a,w,hk,h=>by
  simp only [UH,zEh,zGk] at hk;refine ⟨λh0=>(by rw [hk.1] at h0;cases h0),λi hi=>?_⟩;rw [hk.1,zGh] at hi;subst hi;exact zMx (λb w' h'=>nQ d _ b w' hk.2 h') h
def Ya (b: ∀ f,F.fn f)(c:DF ops=true){d:Nat -> Bool}(e:Region.noSelect ops=true){next:Act -> Prop}{m:Nat}:
 ∀ (l:Θ) (H:Array Bool) (a:Act),HJ ops H -> Ue ops d l H=true -> wpQuiet P ops (Tx w) next (CQ ops l) a ->
  (∀ q,HJ ops (Lv l H) -> next q -> Kf F n P ops Q d g (A0 w) m (Lv l H) q w) -> Kf F n P ops Q d g (A0 w) (l.length+m) H a w
 | [],H,a,T,_,h,u=>by
  simp only [zMp,zGw];exact u a T h
 | i::l,H,a,T,hk,h,u=>by
  simp only [Ue,zEh] at hk;obtain ⟨⟨⟨⟨s,M⟩,k⟩,hT⟩,L⟩:=hk;have p:i∈Region.ready .any ops H:=by simpa using s
  have r: ∀ j,j<ops.size -> d j=true -> Gl ops ops.size j i=true:=λj hj ht=>by
   grind
  have t:(i::l).length+m=(l.length+m)+1:=by simp;omega
  rw [t];cases hi:ops[i]? with
  | none=>rw [hi] at k;simp at k
  | some o=>
   rw [hi] at k;simp only [CQ,hi] at h;unfold wpQuiet at h
   by_cases U:Region.wanted o (yielded ops a.tmps)=true
   ·rw [zEZ U] at h;obtain ⟨v,x,y⟩:=h;exact mT b c hi (Region.noSelect_spec e) r _ H a w T (Region.free_spec hi M) p (xR k U x) (A0.refl _) (Ya b c e l _ _ (T.set p) L y u)
   ·rw [zGN U] at h;exact mT b c hi (Region.noSelect_spec e) r _ H a w T (Region.free_spec hi M) p (.inr ⟨by simpa using U,rfl⟩) (A0.refl _) (Ya b c e l _ _ (T.set p) L h u)
def tn (l: ∀ f,F.fn f)(v:DF ops=true){o:Nat -> Bool}(p:Region.noSelect ops=true):
 ∀ (s:List (Θ×Nat)) (B e:Θ) (H:Array Bool) (a:Act) (b w:World),A0 b w -> HJ ops H -> Uf ops o s B e H=true -> QJ F n P ops Q b s B e a w ->
  Kf F n P ops Q o e.length (A0 b) (Su s B) H a w
 | [],B,e,H,a,b,w,g,T,hk,h=>by
  simp only [Uf,zEh] at hk;obtain ⟨⟨q,r⟩,t⟩:=hk
  have:=Ya (m:=0) l v p B H a T q h (λc _ L=>⟨λj k ht=>by
   grind,nQ e _ c w t L⟩)
  refine dM (λW u=>g.trans u) _ _ _ _ ?_;simpa [Su] using this
 | (x,i)::y,B,e,H,a,b,w,g,T,hk,h=>by
  simp only [Uf,zEh,zGk] at hk;obtain ⟨⟨q,r⟩,t⟩:=hk
  have one: ∀ (c:Act) (d:World),A0 d w -> HJ ops (Lv x H) -> wpOpIn F n P ops (NP Q) i (λK G=>A0 d G/\ QJ F n P ops Q d y B e K G) c w ->
   Kf F n P ops Q o e.length (A0 d) (Su y B+1) (Lv x H) c w:=λc d En N L=>by
   refine ⟨λh0=>(by rw [r] at h0;cases h0),λj k=>?_⟩;have z:=k;rw [r,zGh] at k;subst k;refine zMx (λK G h'=>⟨h'.1,?_⟩) L;exact tn l v p y B e _ K d G h'.1 (N.set z) t h'.2
  cases x with
  | nil=>
   have:=one a b g T h;simpa [Su,Nat.add_comm,Lv] using this
  | cons A ss=>
   refine dM (λW u=>g.trans u) _ _ _ _ ?_;refine Ya l v p (A::ss) H a T q h λc N L=>?_
   rw [Nat.add_comm 1];exact one c w (A0.refl w) N L
def xY {id:Nat}(b: ∀ f,F.fn f)(s:List (Θ×Nat))(B e:Θ)(v:P.follows .mixedOrders=true)(H:(eJ ops s B e&&DF ops)=true) 
 (h:QJ F n P ops Q w.drew s B e a w.drew):(Code.region id ops true).wpIn F n P Q a w:=by
 simp only [eJ,zEh,zGk] at H;obtain ⟨⟨⟨c,d⟩,g⟩,A⟩:=H
 have T:HJ ops (Array.replicate ops.size false):=λj oj _ m=>by
  exfalso
  rcases zIW j ops.size with h | h
  ·simp [h] at m
  ·simp [h] at m
 have:=mU _ _ _ _ (tn b A c s B e _ a w.drew w.drew (A0.refl _) T g h);rw [d] at this;exact wpIn_region_any v this
theorem nR: ∀ (e:Θ) (a:Act) (w:World),(∀ t∈e,t<ops.size) -> wpListIn F n P ops Q (CQ ops e) a w -> RN F n P ops Q e a w
 | [],_,_,_,h=>h
 | t::d,a,w,m,h=>by
  have X:ops[t]? =some (ops[t]'(m t (by simp))):=zIe _;simp only [CQ,X] at h;unfold RN wpOpIn;simp only [X];unfold wpListIn at h;have v: ∀ a w,wpListIn F n P ops Q (CQ ops d) a w -> RN F n P ops Q d a w:=λa w h=>nR d a w (λt X=>m t (by simp [X])) h
  by_cases U:Region.wanted (ops[t]'(m t (by simp))) (yielded ops a.tmps)=true
  ·rw [zEZ U] at h ⊢;exact Oper.wpIn_mono v h
  grind
theorem zIV {B e:Θ}{b:World}(ht:(e.all λt=>decide (t<ops.size))=true) 
 (h:wpQuiet P ops (λw'=>∃ x:Xh w,w'=x.W) (λc=>wpListIn F n P ops Q (CQ ops e) c w) (CQ ops B) a):
 QJ F n P ops Q b [] B e a w:=by
 refine dL _ _ _ _ (λc h=>?_) h
 grind [nR]
end
abbrev zGK:=@Nat.le_trans
abbrev zGS:=@Nat.lt_of_lt_of_le
abbrev zHw:=@List.mem_of_getElem?
abbrev zII:=@Go.World.putObj_heap_other
abbrev zIq:=@List.mem_cons
abbrev zIt:=@Go.StepsIn.trans
abbrev zLb:=@Go.fenced_calm
abbrev zMP:=@Go.wpIn_mono
abbrev zMh:=@Go.stepR_block
abbrev zMy:=@if_false
abbrev zM4:=@Go.callsIn_wide
abbrev zNL:=@Go.RowKit.Below.block
abbrev zNe:=@Go.leaves_stepsInM
section
structure AQ (S:Ψ)(w w':World):Prop where
 os:w'.os=w.os
 tape:w'.tape=w.tape
 output:w'.output=w.output
 size:w.heap.size<=w'.heap.size
 block: ∀ k,k<w.heap.size -> ¬ S k -> w'.heap[k]? =w.heap[k]?
theorem AQ.refl (S:Ψ)(w:World):AQ S w w:=⟨rfl,rfl,rfl,zGT _,λ_ _ _=>rfl⟩
variable {a b c:World}{S S':Ψ}
def AQ.comp (h:AQ S a b)(k:AQ S' b c)(j: ∀ i,i<a.heap.size -> S' i -> S i):AQ S a c:=
 ⟨k.os.trans h.os,k.tape.trans h.tape,k.output.trans h.output,zGK h.size k.size,
  λi hi u=>(k.block i (zGS hi h.size) (λe=>u (j i hi e))).trans (h.block i hi u)⟩
def AQ.trans (h:AQ S a b)(k:AQ S b c):AQ S a c:=h.comp k λ_ _ h=>h
theorem AQ.mono (h:AQ S a b)(j: ∀ i,i<a.heap.size -> S i -> S' i):AQ S' a b:=
 ⟨h.os,h.tape,h.output,h.size,λi hi u=>h.block i hi λe=>u (j i hi e)⟩
def AQ.ofExt (h:A0 a b):AQ S a b:=⟨Below.os h,Below.tape h,Below.output h,Below.size h,λi hi _=>zNL h i hi⟩
def AQ.toExt (h:AQ S a b)(j: ∀ i,i<a.heap.size -> ¬ S i):A0 a b:=⟨h.os,h.tape,h.output,h.size,λi hi=>h.block i hi (j i hi)⟩
def AQ.alloc (h:AQ S a b)(o:Obj):AQ S a (b.alloc o):=h.trans (AQ.ofExt (A0.alloc b o))
variable {p:Addr}
def AQ.setCell (h:AQ S a b)(g:p.block<a.heap.size -> S p.block)(u:Value):AQ S a (b.setCell p u):=by
 refine h.comp (S':=λk=>k=p.block) ⟨rfl,rfl,rfl,?_,λk _ hk=>?_⟩ (λi hi e=>by cases e;exact g hi)
 ·simp_all
 ·exact Below.heap_setCell b p u k hk
def AQ.putObj (h:AQ S a b){l:Nat}(m:l<a.heap.size -> S l)(o:Obj):AQ S a (b.putObj l o):=by
 refine h.comp (S':=λk=>k=l) ⟨rfl,rfl,rfl,by simp,λk _ hk=>zII hk⟩ (λi hi e=>by cases e;exact m hi)
theorem AQ.cell (h:AQ S a b){u:Value}(j: ¬ S p.block)(l:a.cell? p=some u):b.cell? p=some u:=by
 rw [World.cell?_of_block (h.block p.block (zIb a p l) j)];exact l
def C0 (I:(Ψ) -> (Ψ) -> World -> Prop):Prop:= ∀ (G R Z R':Ψ) (A B:World),I G R A -> AQ G A B -> (∀ k,Z k -> G k∨A.heap.size<=k) -> (∀ k,R' k -> R k∨G k∨A.heap.size<=k) -> (∀ k,G k∨R k -> Z k∨R' k) -> (∀ k,Z k -> ¬ R' k) -> (∀ k,Z k∨R' k -> k<B.heap.size) -> I Z R' B
structure EE (G R:Ψ)(W:World):Prop where
 dis: ∀ k,G k -> ¬ R k
 lt: ∀ k,G k∨R k -> k<W.heap.size
variable {A:World}{G R:Ψ}
def EE.upd {B:World}(h:EE G R A)(q:AQ S A B):EE G R B:=⟨h.dis,λk hk=>zGS (h.lt k hk) q.size⟩
def C0.same {I:(Ψ) -> (Ψ) -> World -> Prop}(h:C0 I){B:World}(j:EE G R A)(hi:I G R A)(q:AQ G A B):I G R B:=
 h G R G R A B hi q (λ_ h=>.inl h) (λ_ h=>.inl h) (λ_ h=>h) j.dis (j.upd q).lt
def Ef (B:Nat):List Deferred -> World -> Prop
 | [],_=>True
 | d::ds,w=>∃ D,d= { target:=.collected D,args:=#[] }/\ B<=D/\ w.heap[D]? =some (.deferred (some []))/\ (∀ d'∈ds,d'.target≠.collected D)/\ Ef B ds w
variable {w:World}{B:Nat}
def Ef.upd {w':World}(q:AQ S w w'): ∀ {ds:List Deferred},Ef B ds w -> (∀ k,B<=k -> S k -> w.heap[k]? ≠some (.deferred (some []))) -> Ef B ds w'
 | [],_,_=>trivial
 | _::_,⟨D,a,b,h,A,f⟩,j=>⟨D,a,b,(q.block D (zGI.1 h).1 (λe=>j D b e h)).trans h,A,Ef.upd q f j⟩
def Ef.lt : ∀ {ds:List Deferred} (_:Ef B ds w) {d:Deferred} {D:Nat},d∈ds -> d.target= .collected D -> D<w.heap.size
 | _::_,⟨D,h1,h2,h3,h4,f⟩,d,D',hm,X=>by
  rcases zIq.1 hm with rfl | hm
  ·grind
  ·exact Ef.lt f hm X
def Ms (B:Nat)(w W:World):Prop:=AQ (λk=>B<=k/\ w.heap[k]? =some (.deferred (some []))) w W
variable {tmps:Array Value}{fn:Func}{P:Program}
def aG {F:Fence}{n:Nat}{R:Ending -> World -> Prop}{u:FrameMode}(q:u≠.run): ∀ (ds:List Deferred) (w:World),Ef B ds w ->
 (∀ W,Ms B w W -> LeavesIn F n P fn tmps R [] u W) -> LeavesInM F n P fn tmps R ds u w
 | [],w,_,h=>h w (AQ.refl _ w)
 | _::ds,w,⟨D,b,c,a,A,f⟩,h=>by
  refine ⟨q,.inl ⟨D,_,by rw [b],run_takeDeferred a,?_⟩⟩;have g:AQ (λk=>k=D) w (w.putObj D (.deferred none)):=(AQ.refl (λk=>k=D) w).putObj (λ_=>rfl) _
  have j: ∀ {ds:List Deferred},(∀ d'∈ds,d'.target≠.collected D) -> Ef B ds w -> Ef B ds (w.putObj D (.deferred none)):=by
   intro ds
   induction ds with
   | nil=>intro _ _;trivial
   | cons d ds U=>
    intro r ⟨D',o,s,g3,l,G⟩;refine ⟨D',o,s,?_,l,U (λd' v=>r d' (by simp [v])) G⟩
    simp_all [zII]
  refine aG q ds _ (j A f) λW m=>h W ?_
  refine g.mono (S':=λk=>B<=k/\ w.heap[k]? =some (.deferred (some []))) (λi _ e=>by cases e;exact ⟨c,a⟩) |>.comp m λi hi p=>⟨p.1,?_⟩
  grind [World.putObj_heap_other]
def aF {R:Ending -> World -> Prop}(ds:List Deferred)(w:World)(a:Ef B ds w) 
 (h: ∀ W,Ms B w W -> ∃ v,(results fn tmps).run P W= .ok v W/\ R (.returned v) W):LeavesInM Fence.wide 0 P fn tmps R ds .returning w:=
 aG (by simp) ds w a h
def Il (F:Fence)(n:Nat)(P:Program)(fn:FuncId)(c:Code)(Q:Exit -> Act -> World -> Prop)(a:Act)(w:World):Prop:= ∀ (b:Frame) (k:List Item) (cs:List Frame),b.roundOf=F.round -> F.fn b.fn -> F.room (cs.length+1+n) -> b.fn=fn -> ∃ e d w',Q e d w'/\ ArrivesIn (Machine.fenced P F) P (lone (b.atR a (.code c::k)) cs w) b k cs e d w'
section
variable {F:Fence} {n:Nat} {P:Program} {fi:FuncId} {c:Code} {Q:Exit -> Act -> World -> Prop} {a:Act} {w:World}
def M2 (h:c.wpIn F n P Q a w):Il F n P fi c Q a w:=λb k cs d e f _=>h b k cs d e f
def xb (h: ∀ fi,Il F n P fi c Q a w):c.wpIn F n P Q a w:=λb k cs d e f=>h b.fn b k cs d e f rfl
def Q7 {x y:Code}(h:Il F n P fi x (Exit.then (Il F n P fi y Q) Q) a w):Il F n P fi (.seq x y) Q a w:=by
 intro b k cs O c i d;have h0:(lone (b.atR a (.code (.seq x y)::k)) cs w).fenced P F:=zLb c i rfl;obtain ⟨e,o,p,L,M⟩:=h b (.code y::k) cs O c i d;cases e with
 | normal=>
  obtain ⟨f,R,z,G,g⟩:=L b k cs O c i d;exact ⟨f,R,z,G,.of_steps (.head h0 stepR_seq M) g⟩
 | exit id=>exact ⟨_,o,p,L,.of_steps (.one h0 stepR_seq) (.pass (x:=.code y) rfl (λ_ _=>.inl (by simp)) M)⟩
 | goto l=>exact ⟨_,o,p,L,.of_steps (.one h0 stepR_seq) (.pass (x:=.code y) rfl (λ_ _=>.inl (by simp)) M)⟩
 | ret=>exact ⟨_,o,p,L,.of_steps (.one h0 stepR_seq) (.pass (x:=.code y) rfl (λ_ _=>.inl (by simp)) M)⟩
 | panic ch=>exact ⟨_,o,p,L,.of_steps (.one h0 stepR_seq) (.pass (x:=.code y) rfl (λ_ _=>.inl (by simp)) M)⟩
 | outgrown=>exact ⟨_,o,p,L,.of_steps (.one h0 stepR_seq) (.pass (x:=.code y) rfl (λ_ _=>.inl (by simp)) M)⟩
def xd {id:Nat}(h:Il F n P fi c (Exit.inBlock id Q) a w):Il F n P fi (.block id c) Q a w:=by
 intro b k cs O g i s;have h0:(lone (b.atR a (.code (.block id c)::k)) cs w).fenced P F:=zLb g i rfl;obtain ⟨e,o,p,L,M⟩:=h b (.inBlock id::k) cs O g i s;cases e with
 | normal=>exact ⟨.normal,o,p,L,.head h0 zMh (zIt M (.one (zLb g i rfl) stepR_inBlock))⟩
 | exit d=>
  by_cases hid:d=id
  ·simp only [Exit.inBlock,hid,zI6] at L;exact ⟨.normal,o,p,L,.head h0 zMh (M.1 k (by simp [exitTo,hid]))⟩
  ·simp only [Exit.inBlock,hid,zMy] at L;have this:(id==d)=false:=by simp;exact λh=>hid h.symm
   have f:exitTo d (.inBlock id::k)=exitTo d k:=by simp [exitTo,this]
   exact ⟨.exit d,o,p,L,λj hk=>.head h0 zMh (M.1 j (by rw [f];exact hk)),
    λm hk=>let ⟨Y,q,r⟩:=M.2 m (by rw [f];exact hk);⟨Y,q,.head h0 zMh r⟩⟩
 | goto l=>
  have f:gotoIn l (.inBlock id::k)=gotoIn l k:=by simp [gotoIn]
  exact ⟨_,o,p,L,λj hk=>.head h0 zMh (M.1 j (by rw [f];exact hk)),
   λm hk=>let ⟨Y,q,r⟩:=M.2 m (by rw [f];exact hk);⟨Y,q,.head h0 zMh r⟩⟩
 | ret=>exact ⟨_,o,p,L,.of_steps (.one h0 zMh) M⟩
 | panic ch=>exact ⟨_,o,p,L,.of_steps (.one h0 zMh) M⟩
 | outgrown=>exact ⟨_,o,p,L,.of_steps (.one h0 zMh) M⟩
variable {assign body:Code}
def xc {g:Operand}{ps:Array Tmp} 
 (h:F.fn fi -> ∃ (l:Nat) (mark:List Deferred) (p:World) (d:Deferred) (x:World) (f:FuncId) (args:Array Value) (z:World),
  (Instr.enterLoop fi a.tmps ps assign body F.round).run P w= .ok (l,mark) p/\
  (resolve a.eval (rangeCall g l) 0).run P p= .ok d x/\
  (∀ W,Target.leads P x d.target d.args=some W -> F.fn W)/\
  (invoke d.target d.args).run P x= .ok (.enter f args) z/\
  (F.depth.isSome=true -> 1<=n)/\
  CallsIn F (n-1) P f args z (rangePost F n P l Q { a with defers:=mark++a.defers })):
 Il F n P fi (.rangeFunc g ps assign body) Q a w:=by
 intro b k cs O i j N;obtain ⟨l,mark,p,d,x,f,args,z,J,D,hlead,hinv,E,s,m⟩:=h (N▸i);rw [←O,←N] at J
 have h0:(lone (b.atR a (.code (.rangeFunc g ps assign body)::k)) cs w).fenced P F:=by
  grind [fenced_lone,Fence.room_le,Frame.eval_atR,Frame.atR,Frame.about]
 have o:=stepR_rangeFunc (P:=P) (b:=b) (a:=a) (k:=k) (cs:=cs) (w:=w) J D hinv;have Z:F.room ((b.atR { a with defers:=mark++a.defers } (.inRangeFunc l::k)::cs).length+1+(n-1)):=Fence.room_enter j E;obtain ⟨e,T,fr,hR,q,t,y⟩:=m (b.atR { a with defers:=mark++a.defers } (.inRangeFunc l::k)::cs) Z;cases e with
 | outgrown=>
  obtain ⟨G,H,L⟩:=hR;exact ⟨.outgrown,G,H,L,.inr (Outgrown.of_steps (.one o) q)⟩
 | returned v=>
  have r:(lone fr (b.atR { a with defers:=mark++a.defers } (.inRangeFunc l::k)::cs) T).fenced P F:=fenced_leaving (t▸s) Z y;obtain ⟨u,A,I,B⟩:=hR
  have C:StepsIn (Machine.fenced P F) P (lone (b.atR a (.code (.rangeFunc g ps assign body)::k)) cs w) (lone (b.atR { a with defers:=mark++a.defers } ((u.map Item.code).toList++k)) cs A):=by
   refine .head h0 o (zIt q (.head r ?_ (.one (zLb (fr:=b.atR { a with defers:=mark++a.defers } (.endRangeFunc l::k)) i j rfl) (stepR_endRangeFunc I))));rw [←finish_atR_inRangeFunc l v];exact step_leave_returned y
  cases u with
  | none=>exact ⟨.normal,_,A,B,C⟩
  | some c=>
   obtain ⟨R,K,M,L,S⟩:=B b k cs O i j;exact ⟨R,K,M,L,.of_steps C S⟩
 | panicked U=>
  have r:(lone fr (b.atR { a with defers:=mark++a.defers } (.inRangeFunc l::k)::cs) T).fenced P F:=fenced_leaving (t▸s) Z y;refine ⟨.panic U,_,T,hR,.inRangeFunc l::k,.head h0 o (zIt q (.one r ?_))⟩;rw [←Frame.raise_atR];exact step_leave_panicked y
def zLL {fn:Func}{args:Array Value}{R:Ending -> World -> Prop}(g:P.funcs[fi]? =some fn)(p:fn.body=some c)(Q:F.fn fi) 
 (h:Il F n P fi c (bodyPostM F n P fn R) { tmps:=args++Array.replicate (fn.ntmps-args.size) undef,defers:=[] } w) (O:F.round=none:=by rfl):CallsIn F n P fi args w R:=by
 refine ⟨Q,λcs i=>?_⟩
 let b:Frame:={ (default:Frame) with fn:=fi,kind:=.normal,roundOf:=none }
 have q:Frame.enter P fi args .normal=b.atR { tmps:=args++Array.replicate (fn.ntmps-args.size) undef,defers:=[] } [.code c]:=by
  simp [Frame.enter,Frame.atR,g,p,b]
 obtain ⟨e,a,w',L,M⟩:=h b [] cs O.symm Q i rfl;rw [←q] at M;cases e with
 | normal=>
  obtain ⟨d,G,fr',hR,j,f,m⟩:=zNe a.defers .returning w' { b.atR a [] with mode:=.returning } cs rfl rfl rfl g rfl Q i L;exact ⟨d,G,fr',hR,ComesIn.of_steps (zIt M (.one (zLb (fr:=b.atR a []) Q i rfl) (stepR_end rfl))) j,f,m⟩
 | ret=>
  obtain ⟨k,o⟩:=M.1 rfl;obtain ⟨d,G,fr',hR,j,f,m⟩:=zNe a.defers .returning w' { b.atR a k with mode:=.returning } cs rfl rfl rfl g rfl Q i L;exact ⟨d,G,fr',hR,ComesIn.of_steps o j,f,m⟩
 | panic r=>
  obtain ⟨k,o⟩:=M;obtain ⟨d,G,fr',hR,j,f,m⟩:=zNe a.defers (.panicking r) w' { b.atR a k with mode:=.panicking r } cs rfl rfl rfl g rfl Q i L;exact ⟨d,G,fr',hR,ComesIn.of_steps o j,f,m⟩
 | exit id=>exact L.elim
 | goto l=>exact L.elim
 | outgrown=>exact ⟨.outgrown,w',b,L,M.resolve_left (by simp [b]),rfl,trivial⟩
def zCI (F:Fence)(n:Nat)(P:Program)(l:Nat)(f:FuncId)(R:Ending -> World -> Prop):Exit -> Act -> World -> Prop
 | .panic H,a,w=>∃ fn,P.funcs[f]? =some fn/\ LeavesInM (F.inRound l) n P fn a.tmps (λe w'=>e= .panicked H/\ R e w') a.defers (.panicking H) w
 | e,a,w=>roundPost P l R e a w
def zCK {l:Nat}{f:FuncId}{tmps:Array Value}{R:Ending -> World -> Prop}(Q:F.fn f) 
 (h:assign.wpIn (F.inRound l) n P (Exit.then (λo p=>∃ z,(Instr.beginRound l).run P p= .ok () z/\ body.wpIn (F.inRound l) n P (zCI F n P l f R) o z) (λ_ _ _=>False))
  { tmps:=tmps,defers:=[] } w):
 RoundIn F n P l f tmps assign body w R:=by
 refine ⟨Q,λc cs y=>?_⟩
 let b:Frame:={ (default:Frame) with fn:=f,kind:=.normal,roundOf:=some l }
 have B:Frame.round l f tmps assign body .normal=b.atR { tmps:=tmps,defers:=[] } [.code assign,.beginRound,.code body]:=by
  simp [Frame.round,Frame.atR,b]
 have i:(F.inRound l).room ((c::cs).length+1+n):=y;have M:(F.inRound l).fn b.fn:=Q;obtain ⟨e,o,p,L,g⟩:=h b [.beginRound,.code body] (c::cs) rfl M i;rw [←B] at g;cases e with
 | normal=>
  obtain ⟨z,q,C⟩:=L
  have k:StepsIn (Machine.fenced P (F.inRound l)) P (lone (b.atR o [.beginRound,.code body]) (c::cs) p) (lone (b.atR o [.code body]) (c::cs) z):=
   .one (zLb (fr:=b.atR o [.beginRound,.code body]) M i rfl) (stepR_beginRound rfl q)
  obtain ⟨D,a,T,G,m⟩:=C b [] (c::cs) rfl M i;cases D with
  | normal=>
   obtain ⟨v,A,d,hR⟩:=G;exact ⟨.returned v,A,hR,(zIt g k).trans (zIt m (.one (zLb (fr:=b.atR a []) M i rfl) (stepR_round_end rfl rfl d)))⟩
  | ret=>
   obtain ⟨v,A,d,hR⟩:=G;obtain ⟨Y,j⟩:=m.2 rfl;exact ⟨.returned v,A,hR,(zIt g k).trans (zIt j (.one (zLb (fr:=b.atR a (.code .ret::Y)) M i rfl) (stepR_round_ret rfl rfl d)))⟩
  | exit id=>
   obtain ⟨v,A,d,hR⟩:=G;obtain ⟨Y,hk,j⟩:=m.2 rfl rfl;exact ⟨.returned v,A,hR,(zIt g k).trans (zIt j (.one (zLb (fr:=b.atR a (.code (.exit id)::Y)) M i rfl) (stepR_round_exit rfl rfl hk d)))⟩
  | goto t=>
   obtain ⟨v,A,d,hR⟩:=G;obtain ⟨Y,hk,j⟩:=m.2 rfl rfl;exact ⟨.returned v,A,hR,(zIt g k).trans (zIt j (.one (zLb (fr:=b.atR a (.code (.goto t)::Y)) M i rfl) (stepR_round_goto rfl rfl hk d)))⟩
  | panic r=>
   obtain ⟨fn,E,G⟩:=G;obtain ⟨s,H⟩:=m;obtain ⟨e',u,fr',⟨rfl,hR⟩,j,I,x⟩:=zNe a.defers (.panicking r) T { b.atR a s with mode:=.panicking r } (c::cs) rfl rfl rfl E rfl M i G;have j:StepsIn (Machine.fenced P (F.inRound l)) P (lone { b.atR a s with mode:=.panicking r } (c::cs) T) (lone fr' (c::cs) u):=j;exact ⟨.panicked r,u,hR,(zIt g k).trans ((zIt H j).trans (.one (fenced_leaving (n:=n) (by rw [I];exact M) i x) (step_leave_panicked x)))⟩
  | outgrown=>exact G.elim
 | exit id=>exact L.elim
 | goto t=>exact L.elim
 | ret=>exact L.elim
 | panic r=>exact L.elim
 | outgrown=>exact L.elim
end
def zCH (Keep:Ψ)(I:World -> Prop)(b:Code -> World -> Prop)(h:List PanicEntry -> World -> Prop)(W:World):Exit -> Act -> World -> Prop
 | .normal,_,o=>AQ (λk=>¬ Keep k) W o/\ I o
 | .ret,_,o=>AQ (λk=>¬ Keep k) W o/\ b .ret o
 | .exit id,_,o=>AQ (λk=>¬ Keep k) W o/\ b (.exit id) o
 | .goto t,_,o=>AQ (λk=>¬ Keep k) W o/\ b (.goto t) o
 | .panic c,a,o=>∃ B,Ef B a.defers o/\ ∀ u,Ms B o u -> AQ (λk=>¬ Keep k) W u/\ h c u
 | .outgrown,_,_=>False
def mE (nv:Prop)(P:Program)(g:Nat)(lb:Array Value){X:Type}(E:X -> (Ψ) -> World -> Array Value -> Prop)(encs:List X)(GP:Ending -> (Ψ) -> (Ψ) -> World -> Prop)(G0 Rd:Ψ)(w:World):Prop:= ∀ (l:Nat) (J:Nat -> (Ψ) -> (Ψ) -> World -> Prop) (a:(Ψ) -> (Ψ) -> World -> Prop) (W:World), (∀ i,C0 (J i)) -> C0 a -> AQ (λk=>¬ (G0 k∨Rd k)) w W -> (∀ i x args G R y,encs[i]? =some x -> E x R y args -> J i G R y -> EE G R y -> YieldAt Fence.wide 0 P l args y λe o=> AQ (λk=>¬ (G k∨R k)) y o/\ ((e= .returned (.bool true)/\ J (i+1) G R o)∨(e= .returned (.bool false)/\ a G R o))) -> J 0 G0 Rd W -> (nv -> ∀ G R W,¬ a G R W) -> CallsIn Fence.wide 0 P g (#[.func (.yield l) #[] #[]]++lb) W λe o=>∃ G R,EE G R o/\ ((J encs.length G R o/\ GP e G R o)∨((∃ v,e= .returned v)/\ a G R o))
def Tw (nv np:Prop)(P:Program)(g:Nat)(lb:Array Value){X:Type}(E:X -> (Ψ) -> World -> Array Value -> Prop)(encs:List X)(GP:Ending -> (Ψ) -> (Ψ) -> World -> Prop)(G0 Rd:Ψ)(w:World):Prop:= ∀ (l:Nat) (J:Nat -> (Ψ) -> (Ψ) -> World -> Prop) (a:(Ψ) -> (Ψ) -> World -> Prop) (Q:List PanicEntry -> (Ψ) -> (Ψ) -> World -> Prop) (W:World), (∀ i,C0 (J i)) -> C0 a -> (∀ c,C0 (Q c)) -> AQ (λk=>¬ (G0 k∨Rd k)) w W -> (∀ i x args G R y,encs[i]? =some x -> E x R y args -> J i G R y -> EE G R y -> YieldAt Fence.wide 0 P l args y λe o=> AQ (λk=>¬ (G k∨R k)) y o/\ ((e= .returned (.bool true)/\ J (i+1) G R o)∨(e= .returned (.bool false)/\ a G R o)∨∃ c,e= .panicked c/\ Q c G R o)) -> J 0 G0 Rd W -> (nv -> ∀ G R W,¬ a G R W) -> (np -> ∀ c G R W,¬ Q c G R W) -> CallsIn Fence.wide 0 P g (#[.func (.yield l) #[] #[]]++lb) W λe o=>∃ G R,EE G R o/\ ((J encs.length G R o/\ GP e G R o)∨((∃ v,e= .returned v)/\ a G R o)∨∃ c,e= .panicked c/\ Q c G R o)
theorem YieldAt.mono {P:Program}{l:Nat}{args:Array Value}{w:World}{R R':Ending -> World -> Prop}(h:YieldAt Fence.wide 0 P l args w R)(hR: ∀ e w',R e w' -> R' e w'):YieldAt Fence.wide 0 P l args w R':=by
 obtain ⟨fn,tmps,O,body,a,b⟩:=h;exact ⟨fn,tmps,O,body,a,b.mono hR⟩
def mE.gen {nv:Prop}{P:Program}{g:Nat}{lb:Array Value}{X:Type}{E:X -> (Ψ) -> World -> Array Value -> Prop}{encs:List X}{GP:Ending -> (Ψ) -> (Ψ) -> World -> Prop}{G0 Rd:Ψ}{w:World}(h:mE nv P g lb E encs GP G0 Rd w):Tw nv True P g lb E encs GP G0 Rd w:=
 λl J b Jp W hJ d _ f hy h0 p j=>(h l J b W hJ d f (λi x args G R y m n o A=>YieldAt.mono (hy i x args G R y m n o A) λe r ⟨a,k⟩=>⟨a,k.imp id λq=>q.resolve_right λ⟨c,_,q⟩=>j trivial c _ _ _ q⟩) h0 p).mono λe r ⟨G,R,a,k⟩=>⟨G,R,a,k.imp id .inl⟩
abbrev Og:=@mE False
section
variable {P:Program} {X:Type} {E:X -> (Ψ) -> World -> Array Value -> Prop} {GP:Ending -> (Ψ) -> (Ψ) -> World -> Prop} {encs:List X} {G0 Rd:Ψ} {ps:Array Tmp} {assign body:Code} {a:Act} {gf:Nat} {lb:Array Value}
def Xf (P:Program)(E:X -> (Ψ) -> World -> Array Value -> Prop)(encs:List X)(ps:Array Tmp)(assign body:Code)(a:Act)(l:Nat)(I:Nat -> (Ψ) -> (Ψ) -> World -> Prop)(e:Code -> (Ψ) -> (Ψ) -> World -> Prop)(h:List PanicEntry -> (Ψ) -> (Ψ) -> World -> Prop):Prop:= ∀ (G R:Ψ) (i:Nat) (x:X) (args:Array Value) (W:World),encs[i]? =some x -> E x R W args -> I i G R W -> EE G R W -> (∃ r,W.heap[l]? =some (.loop r)) -> G l -> assign.wpIn (Fence.wide.inRound l) 0 P (Exit.then (λo d=>∃ K:(Ψ) -> (Ψ) -> World -> Prop,C0 K/\ AQ (λk=>¬ (G k∨R k)) W d/\ K G R d/\ ∀ b,K G R b -> (∃ r,b.heap[l]? =some (.loop r)) -> body.wpIn (Fence.wide.inRound l) 0 P (zCH (λk=>G k∨R k) (I (i+1) G R) (λc=>e c G R) (λc=>h c G R) b) o b) (λ_ _ _=>False)) { tmps:=(ps.zip args).foldl (λt (p,v)=>t.setIfInBounds p v) a.tmps,defers:=[] } W
variable {nv np:Prop}
def qP {w0 F:World}{l D dd:Nat}{fn:FuncId}{loose:Bool}(i4:np∨∃ f,P.funcs[fn]? =some f) 
 (hseq:Tw nv np P gf lb E encs GP G0 Rd w0) (WT:AQ (λk=>¬ (G0 k∨Rd k)) w0 F) (Gc: ∀ k,G0 k∨Rd k -> k<l/\ k≠D) (Sw: ∀ k,G0 k -> ¬ Rd k) (Ea: ∀ x∈encs,∀ R W args,E x R W args -> args.size=ps.size)
 (b:LoopState -> Option Code -> Loop) (EA: ∀ st pe,b st pe= { state:=st,pending:=pe,fn,tmps:=a.tmps,params:=ps,assign,body,defers:=dd })
 (Hi:F.heap[l]? =some (.loop (b .ready none))) (hD1:loose=false -> F.heap[D]? =some (.deferred (some []))) (tV:D≠l)
 (I:Nat -> (Ψ) -> (Ψ) -> World -> Prop) (Q:Code -> (Ψ) -> (Ψ) -> World -> Prop) (H:List PanicEntry -> (Ψ) -> (Ψ) -> World -> Prop) (hI: ∀ i,C0 (I i)) (JQ: ∀ c,C0 (Q c)) (QS: ∀ c,C0 (H c)) (Nz:nv -> ∀ c G R W,¬ Q c G R W) (J8:np -> ∀ c G R W,¬ H c G R W) (own:Ψ) (Sh: ∀ k,own k -> k=l∨(loose=false/\ k=D)) (y:own l) (V:loose=false -> own D)
 (h0:I 0 (λk=>G0 k∨own k) Rd F) (DT:Xf P E encs ps assign body a l I Q H):
 CallsIn Fence.wide 0 P gf (#[.func (.yield l) #[] #[]]++lb) F λe C=>∃ G R,EE (λk=>G k∨own k) R C/\ (∀ k,own k -> ¬ G k)/\ (loose=false -> C.heap[D]? =some (.deferred (some [])))/\
  ((I encs.length (λk=>G k∨own k) R C/\ GP e G R C/\ C.heap[l]? =some (.loop (b .ready none)))∨((∃ v,e= .returned v)/\ ∃ c,Q c (λk=>G k∨own k) R C/\ C.heap[l]? =some (.loop (b .done (some c))))∨∃ c,e= .panicked c/\ H c (λk=>G k∨own k) R C):=by
 have Zf: ∀ {W:World} {r:Loop} {k:Nat},W.heap[l]? =some (.loop r) -> (loose=false -> W.heap[D]? =some (.deferred (some []))) -> own k -> k<W.heap.size:=λJ L ho=>
  (Sh _ ho).elim (λe=>e▸(zGI.1 J).1) (λe=>e.2▸(zGI.1 (L e.1)).1)
 have shr: ∀ {G R:Ψ} {W:World} {r:Loop},EE G R W -> (∀ k,own k -> ¬ G k/\ ¬ R k) -> W.heap[l]? =some (.loop r) -> (loose=false -> W.heap[D]? =some (.deferred (some []))) -> EE (λk=>G k∨own k) R W:=λX d J L=>
  ⟨λk hk=>hk.elim (X.dis k) λh=>(d k h).2,λk hk=>hk.elim (λh=>h.elim (λh=>X.lt k (.inl h)) (Zf J L)) λh=>X.lt k (.inr h)⟩
 have ED: ∀ (Φ:(Ψ) -> (Ψ) -> World -> Prop) (r:Loop),C0 Φ -> C0 (λG R W=>Φ (λk=>G k∨own k) R W/\ (∀ k,own k -> ¬ G k/\ ¬ R k)/\ W.heap[l]? =some (.loop r)/\ (loose=false -> W.heap[D]? =some (.deferred (some [])))):=by
  rintro Φ r hΦ G R G' R' A B ⟨h1,h2,J,L⟩ Y hg m IW q p
  have d: ∀ k,own k -> ¬ G' k/\ ¬ R' k:=λk ho=>by
   grind
  have bN:=(Y.block l (Zf J L y) (h2 l y).1).trans J;have uM:loose=false -> B.heap[D]? =some (.deferred (some [])):=λn=>(Y.block D (Zf J L (V n)) (h2 D (V n)).1).trans (L n)
  refine ⟨hΦ _ R _ R' A B h1 (Y.mono λi _ h=>.inl h) (λk hk=>hk.elim (λh=>(hg k h).imp .inl id) λh=>.inl (.inr h)) (λk hk=>(m k hk).imp id λh=>h.imp .inl id) (λk hk=>?_) (λk hk=>hk.elim (q k) λh=>(d k h).2) (λk hk=>hk.elim (λh=>h.elim (λh=>p k (.inl h)) (Zf bN uM)) λh=>p k (.inr h)),d,bN,uM⟩
  grind
 have hGl: ∀ k,G0 k∨Rd k -> k<F.heap.size:=λk h=>Nat.lt_trans (Gc k h).1 (zGI.1 Hi).1
 have GJ: ∀ k,own k -> ¬ G0 k/\ ¬ Rd k:=λk ho=>by
  grind
 refine (hseq l
  (λi G R W=>I i (λk=>G k∨own k) R W/\ (∀ k,own k -> ¬ G k/\ ¬ R k)/\ W.heap[l]? =some (.loop (b .ready none))/\ (loose=false -> W.heap[D]? =some (.deferred (some []))))
  (λG R W=>∃ c,Q c (λk=>G k∨own k) R W/\ (∀ k,own k -> ¬ G k/\ ¬ R k)/\ W.heap[l]? =some (.loop (b .done (some c)))/\ (loose=false -> W.heap[D]? =some (.deferred (some []))))
  (λc G R W=>H c (λk=>G k∨own k) R W/\ (∀ k,own k -> ¬ G k/\ ¬ R k)/\ W.heap[l]? =some (.loop { b .ready none with state:=.busy })/\ (loose=false -> W.heap[D]? =some (.deferred (some []))))
  F (λi=>ED (I i) _ (hI i)) (λG R G' R' A B ⟨c,h⟩ Y hg m IW q p=>⟨c,ED (Q c) _ (JQ c) G R G' R' A B h Y hg m IW q p⟩) (λc=>ED (H c) _ (QS c)) WT ?_ ⟨h0,GJ,Hi,hD1⟩ (λd G R W ⟨c,h,_⟩=>Nz d c _ _ _ h) (λd c G R W ⟨h,_⟩=>J8 d c _ _ _ h)).mono ?_
 ·rintro i x args G R W g hE ⟨hi,d,n,q⟩ X;have Px:x∈encs:=zHw g;have p:l<W.heap.size:=(zGI.1 n).1;have Ga:=shr X d n q;have hy:=run_yield (P:=P) (args:=args) n (by rw [EA];exact Ea x Px R W args hE);rw [EA] at hy;refine ⟨fn,_,assign,body,hy,zCK trivial (zMP (DT _ R i x args W g hE hi Ga ⟨_,n⟩ (.inr y)) ?_)⟩;rintro e a1 s hq;cases e <;> first | exact hq.elim | skip
  obtain ⟨K,hK,Z,hk1,hb⟩:=hq;have sr:AQ (λk=>¬ (G k∨R k)) W s:=Z.mono λk _ h g=>h (g.imp .inl id)
  have n:=(Z.block l p (λh=>h (.inl (.inr y)))).trans n;have q:loose=false -> s.heap[D]? =some (.deferred (some [])):=λh=>(Z.block D (zGI.1 (q h)).1 (λg=>g (.inl (.inr (V h))))).trans (q h)
  have p:l<s.heap.size:=zGS p Z.size;have al:=Ga.upd Z;refine ⟨_,run_beginRound n (by rw [EA]),?_⟩;have Cb:(s.putObj l (.loop { b .ready none with state:=.busy })).heap[l]? =some (.loop { b .ready none with state:=.busy }):=World.putObj_heap_same p;have JO:loose=false -> (s.putObj l (.loop { b .ready none with state:=.busy })).heap[D]? =some (.deferred (some [])):=λh=>(zII tV).trans (q h)
  have V0:AQ (λk=>G k∨own k) s (s.putObj l (.loop { b .ready none with state:=.busy })):=(AQ.refl _ s).putObj (λ_=>.inr y) _;refine zMP (hb _ (hK.same al hk1 V0) ⟨_,Cb⟩) ?_
  have w: ∀ (o:Option Code) (u:World),AQ (λk=>¬ ((G k∨own k)∨R k)) (s.putObj l (.loop { b .ready none with state:=.busy })) u ->
   (Instr.endRound l o).run P u= .ok (.bool o.isNone) (u.putObj l (.loop (b (if o.isNone then .ready else .done) o)))/\
   (u.putObj l (.loop (b (if o.isNone then .ready else .done) o))).heap[l]? =some (.loop (b (if o.isNone then .ready else .done) o))/\
   (loose=false -> (u.putObj l (.loop (b (if o.isNone then .ready else .done) o))).heap[D]? =some (.deferred (some [])))/\
   AQ (λk=>¬ (G k∨R k)) W (u.putObj l (.loop (b (if o.isNone then .ready else .done) o)))/\
   EE (λk=>G k∨own k) R u/\ AQ (λk=>G k∨own k) u (u.putObj l (.loop (b (if o.isNone then .ready else .done) o))):=λo u z=>by
   have ay:u.heap[l]? =some (.loop { b .ready none with state:=.busy }):=(z.block l (by simpa using p) (λh=>h (.inl (.inr y)))).trans Cb;have:=run_endRound (P:=P) o ay;refine ⟨by rw [EA] at this ⊢;exact this,World.putObj_heap_same (zGI.1 ay).1,λh=>(zII tV).trans ((z.block D ?_ (λg=>g (.inl (.inr (V h))))).trans (JO h)),sr.comp (S':=λk=>¬ (G k∨R k)) ?_ (λ_ _ h=>h),(al.upd V0).upd z,(AQ.refl _ u).putObj (λ_=>.inr y) _⟩
   ·grind
   ·refine ⟨z.os,z.tape,z.output,by simpa using z.size,λk hk N7=>?_⟩;have kE:G k∨R k:=Classical.not_not.1 N7
    by_cases E6:k=l
    ·grind
    ·rw [zII E6,z.block k (by simpa using hk) (λg=>g (kE.imp .inl id)),zII E6]
  rintro e a3 u j;cases e with
  | normal=>
   obtain ⟨z,jZ⟩:=j;obtain ⟨m,M,S,N,O,U⟩:=w none u z;exact ⟨_,_,m,N,.inl ⟨rfl,(hI _).same O jZ U,d,M,S⟩⟩
  | ret=>
   obtain ⟨m,M,S,N,O,U⟩:=w (some .ret) u j.1;exact ⟨_,_,m,N,.inr (.inl ⟨rfl,.ret,(JQ _).same O j.2 U,d,M,S⟩)⟩
  | exit id=>
   obtain ⟨m,M,S,N,O,U⟩:=w (some (.exit id)) u j.1;exact ⟨_,_,m,N,.inr (.inl ⟨rfl,(.exit id),(JQ _).same O j.2 U,d,M,S⟩)⟩
  | goto t=>
   obtain ⟨m,M,S,N,O,U⟩:=w (some (.goto t)) u j.1;exact ⟨_,_,m,N,.inr (.inl ⟨rfl,(.goto t),(JQ _).same O j.2 U,d,M,S⟩)⟩
  | panic ch=>
   obtain ⟨B,hm,j⟩:=j
   have key: ∀ T,Ms B u T -> AQ (λk=>¬ (G k∨R k)) W T/\ (H ch (λk=>G k∨own k) R T/\ (∀ k,own k -> ¬ G k/\ ¬ R k)/\ T.heap[l]? =some (.loop { b .ready none with state:=.busy })/\ (loose=false -> T.heap[D]? =some (.deferred (some [])))):=λT IX=>by
    obtain ⟨z,jZ⟩:=j T IX;have ay:T.heap[l]? =some (.loop { b .ready none with state:=.busy }):=(z.block l (by simpa using p) (λh=>h (.inl (.inr y)))).trans Cb;refine ⟨sr.comp (S':=λk=>¬ (G k∨R k)) ⟨z.os,z.tape,z.output,by simpa using z.size,λk hk N7=>?_⟩ (λ_ _ h=>h),jZ,d,ay,λh=>(z.block D ?_ (λg=>g (.inl (.inr (V h))))).trans (JO h)⟩
    ·have kE:G k∨R k:=Classical.not_not.1 N7;have E6:k≠l:=λe=>by grind
     rw [z.block k (by simpa using hk) (λg=>g (kE.imp .inl id)),zII E6]
    grind
   rcases i4 with zHy | ⟨f,hf⟩
   ·exact (J8 zHy _ _ _ _ (j u (AQ.refl _ _)).2).elim
   ·exact ⟨f,hf,aG (by simp) _ _ hm λT IX=>⟨rfl,(key T IX).1,.inr (.inr ⟨ch,rfl,(key T IX).2⟩)⟩⟩
  | outgrown=>exact j.elim
 grind
variable {Q:Exit -> Act -> World -> Prop}{g:Operand}
def mS {fi:FuncId}(L:np∨∃ f,P.funcs[fi]? =some f){w:World}(M:a.eval g= .func (.func gf) #[] lb)(N: ∀ args w,(callFunc gf args).run P w= .ok (.enter gf args) w) 
 (hseq:Tw nv np P gf lb E encs GP G0 Rd w) (O:EE G0 Rd w) (T: ∀ x∈encs,∀ R W args,E x R W args -> args.size=ps.size)
 (I:Nat -> (Ψ) -> (Ψ) -> World -> Prop) (d:Code -> (Ψ) -> (Ψ) -> World -> Prop) (j:List PanicEntry -> (Ψ) -> (Ψ) -> World -> Prop) (u: ∀ i,C0 (I i)) (C: ∀ c,C0 (d c)) (U: ∀ c,C0 (j c)) (V:nv -> ∀ c G R W,¬ d c G R W) (X:np -> ∀ c G R W,¬ j c G R W) (h0:I 0 G0 Rd w) (Y: ∀ l,Xf P E encs ps assign body a l I d j)
 (q: ∀ (D:Nat) (e:Ending) (G R own:Ψ) (W b:World),GP e G R W -> I encs.length (λk=>G k∨own k) R b -> EE (λk=>G k∨own k) R b -> (∀ k,own k -> ¬ G k) -> AQ own W b -> b.heap[D]? =some (.deferred (some [])) -> w.heap.size<=D ->
  match e with
  | .returned _=>Q .normal { a with defers:={ target:=.collected D,args:=#[] }::a.defers } b
  | .panicked c=>Q (.panic c) { a with defers:={ target:=.collected D,args:=#[] }::a.defers } b
  | .outgrown=>False)
 (Z: ∀ (D:Nat) (c:Code) (G R:Ψ) (W:World),d c G R W -> W.heap[D]? =some (.deferred (some [])) -> w.heap.size<=D ->
  c.wpIn Fence.wide 0 P Q { a with defers:={ target:=.collected D,args:=#[] }::a.defers } W)
 (Se: ∀ (D:Nat) (c:List PanicEntry) (G R:Ψ) (W:World),j c G R W -> W.heap[D]? =some (.deferred (some [])) -> w.heap.size<=D -> Q (.panic c) { a with defers:={ target:=.collected D,args:=#[] }::a.defers } W):
 Il Fence.wide 0 P fi (.rangeFunc g ps assign body) Q a w:=by
 refine xc λ_=>?_
 have Ga:(w.alloc (.deferred (some []))).heap.size=w.heap.size+1:=World.size_alloc _ _;obtain ⟨m,t⟩: ∃ m:LoopState -> Option Code -> Loop,∀ st J,m st J= { state:=st,pending:=J,fn:=fi,tmps:=a.tmps,params:=ps,assign,body,defers:=w.heap.size }:=⟨_,λ_ _=>rfl⟩;obtain ⟨y,S5⟩: ∃ y,(w.alloc (.deferred (some []))).alloc (.loop (m .ready none))=y:=⟨_,rfl⟩
 have F:y.heap[w.heap.size+1]? =some (.loop (m .ready none)):=by
  grind [World.alloc_heap_new]
 have r:y.heap[w.heap.size]? =some (.deferred (some [])):=by
  grind [Below.heap_alloc,World.alloc_heap_new]
 have H: ∀ S,AQ S w y:=λS=>by rw [←S5];exact ((AQ.refl S w).alloc _).alloc _
 have AU:=(zGI.1 F).1
 refine ⟨w.heap.size+1,[{ target:=.collected w.heap.size,args:=#[] }],y,{ target:=.fn (.func gf) lb,args:=#[.func (.yield (w.heap.size+1)) #[] #[]] },y,gf,
  #[.func (.yield (w.heap.size+1)) #[] #[]]++lb,y,?_,?_,λ_ _=>trivial,?_,(λh=>by cases h),?_⟩
 ·simp_all [run_enterLoop_outer]
 ·simp only [resolve,M];simp [go_sem]
 ·simp [invoke,go_sem,N]
 ·refine (qP L (loose:=false) (D:=w.heap.size) hseq (H _) (λk h=>by have:=O.lt k h;omega) O.dis T m t F (λ_=>r) (by omega)
   I d j u C U V X (λk=>k=w.heap.size+1∨k=w.heap.size) (λk h=>h.imp id λh=>⟨rfl,h⟩) (.inl rfl) (λ_=>.inr rfl)
   (u 0 G0 Rd _ Rd _ _ h0 (H _) (λk h=>h.imp id (by omega)) (λk h=>.inl h) (λk h=>h.imp .inl id) (λk h K=>?_) (λk h=>?_)) (Y _)).mono ?_
  ·rcases h with h | h
   ·exact O.dis k h K
   ·have:=O.lt k (.inr K);omega
  ·rcases h with (h | h) | h
   ·have:=O.lt k (.inl h);omega
   ·omega
   ·have:=O.lt k (.inr h);omega
  rintro e p ⟨G,R,n,s,hk,(⟨hi,z,A⟩ | ⟨⟨v,rfl⟩,c,hi,A⟩ | ⟨c,rfl,hi⟩)⟩
  ·have B: ∀ o,AQ (λk=>k=w.heap.size+1∨k=w.heap.size) p (p.putObj (w.heap.size+1) o):=λo=>(AQ.refl _ p).putObj (λ_=>.inl rfl) _
   have BG: ∀ o,AQ (λk=>G k∨k=w.heap.size+1∨k=w.heap.size) p (p.putObj (w.heap.size+1) o):=λo=>(B o).mono λ_ _ h=>.inr h
   cases e with
   | returned v=>exact ⟨none,_,by have:=run_endLoop (P:=P) A (by rw [t];simp);rw [t] at this;exact this,
    q _ (.returned v) G R _ p _ z ((u _).same n hi (BG _)) (n.upd (B _)) s (B _) ((zII (by omega)).trans (hk rfl)) (zGT _)⟩
   | panicked c=>exact q _ (.panicked c) G R _ p p z hi n s (AQ.refl _ _) (hk rfl) (zGT _)
   | outgrown=>exact (q _ .outgrown G R _ p p z hi n s (AQ.refl _ _) (hk rfl) (zGT _)).elim
  ·exact ⟨some c,_,by have:=run_endLoop (P:=P) A (by rw [t];simp);rw [t] at this;exact this,
    Z _ c _ _ _ ((C _).same n hi ((AQ.refl _ p).putObj (λ_=>.inr (.inl rfl)) _)) ((zII (by omega)).trans (hk rfl)) (zGT _)⟩
  ·exact Se _ c _ _ _ hi (hk rfl) (zGT _)
def xZ {w:World}(j:a.eval g= .func (.func gf) #[] lb)(m: ∀ args w,(callFunc gf args).run P w= .ok (.enter gf args) w) 
 (hseq:Tw nv True P gf lb E encs GP G0 Rd w) (O:EE G0 Rd w) (n: ∀ x∈encs,∀ R W args,E x R W args -> args.size=ps.size)
 (I:Nat -> (Ψ) -> (Ψ) -> World -> Prop) (b:Code -> (Ψ) -> (Ψ) -> World -> Prop) (d:List PanicEntry -> (Ψ) -> (Ψ) -> World -> Prop) (u: ∀ i,C0 (I i)) (s: ∀ c,C0 (b c)) (p: ∀ c,C0 (d c)) (q:nv -> ∀ c G R W,¬ b c G R W) (f: ∀ c G R W,¬ d c G R W) (h0:I 0 G0 Rd w) (S: ∀ l,Xf P E encs ps assign body a l I b d)
 (v: ∀ (D:Nat) (e:Ending) (G R own:Ψ) (W o:World),GP e G R W -> I encs.length (λk=>G k∨own k) R o -> EE (λk=>G k∨own k) R o -> (∀ k,own k -> ¬ G k) -> AQ own W o -> o.heap[D]? =some (.deferred (some [])) -> w.heap.size<=D ->
  match e with
  | .returned _=>Q .normal { a with defers:={ target:=.collected D,args:=#[] }::a.defers } o
  | .panicked c=>Q (.panic c) { a with defers:={ target:=.collected D,args:=#[] }::a.defers } o
  | .outgrown=>False)
 (r: ∀ (D:Nat) (c:Code) (G R:Ψ) (W:World),b c G R W -> W.heap[D]? =some (.deferred (some [])) -> w.heap.size<=D ->
  c.wpIn Fence.wide 0 P Q { a with defers:={ target:=.collected D,args:=#[] }::a.defers } W):
 (Code.rangeFunc g ps assign body).wpIn Fence.wide 0 P Q a w:=
 xb λ_=>mS (.inl trivial) j m hseq O n I b d u s p q (λ_=>f) h0 S v r λD c G R W h=>(f c G R W h).elim
def xa {l0:Nat}{w:World}(L:a.eval g= .func (.func gf) #[] lb)(M: ∀ args w,(callFunc gf args).run P w= .ok (.enter gf args) w)(N: ∃ r,w.heap[l0]? =some (.loop r)) 
 (hseq:Tw nv True P gf lb E encs GP G0 Rd w) (O:EE G0 Rd w) (T: ∀ x∈encs,∀ R W args,E x R W args -> args.size=ps.size)
 (I:Nat -> (Ψ) -> (Ψ) -> World -> Prop) (b:Code -> (Ψ) -> (Ψ) -> World -> Prop) (m:List PanicEntry -> (Ψ) -> (Ψ) -> World -> Prop) (u: ∀ i,C0 (I i)) (B: ∀ c,C0 (b c)) (U: ∀ c,C0 (m c)) (V:nv -> ∀ c G R W,¬ b c G R W) (C: ∀ c G R W,¬ m c G R W) (h0:I 0 G0 Rd w) (X: ∀ l,Xf P E encs ps assign body a l I b m)
 (n: ∀ (e:Ending) (G R own:Ψ) (W d:World),GP e G R W -> I encs.length (λk=>G k∨own k) R d -> EE (λk=>G k∨own k) R d -> (∀ k,own k -> ¬ G k) -> AQ own W d ->
  match e with
  | .returned _=>Q .normal a d
  | .panicked c=>Q (.panic c) a d
  | .outgrown=>False)
 (Y: ∀ (c:Code) (G R:Ψ) (W:World),b c G R W -> c.wpIn (Fence.wide.inRound l0) 0 P Q a W):
 (Code.rangeFunc g ps assign body).wpIn (Fence.wide.inRound l0) 0 P Q a w:=by
 refine wpIn_rangeFunc ?_;intro fn _;obtain ⟨r0,E5⟩:=N;obtain ⟨f,t⟩: ∃ f:LoopState -> Option Code -> Loop,∀ st J,f st J= { state:=st,pending:=J,fn,tmps:=a.tmps,params:=ps,assign,body,defers:=r0.defers }:=⟨_,λ_ _=>rfl⟩;obtain ⟨y,Z⟩: ∃ y,w.alloc (.loop (f .ready none))=y:=⟨_,rfl⟩
 have F:y.heap[w.heap.size]? =some (.loop (f .ready none)):=by
  grind [World.alloc_heap_new]
 have H: ∀ S,AQ S w y:=λS=>by rw [←Z];exact (AQ.refl S w).alloc _
 have AU:=(zGI.1 F).1
 refine ⟨w.heap.size,[],y,{ target:=.fn (.func gf) lb,args:=#[.func (.yield w.heap.size) #[] #[]] },y,gf,
  #[.func (.yield w.heap.size) #[] #[]]++lb,y,?_,?_,λ_ _=>trivial,?_,(λh=>by cases h),?_⟩
 ·simp_all [run_enterLoop_inner]
 ·simp only [resolve,L];simp [go_sem]
 ·simp [invoke,go_sem,M]
 ·refine CallsIn.inRound _ ((qP (.inl trivial) (loose:=true) (D:=w.heap.size+1) (G0:=G0) hseq (H _) (λk h=>by have:=O.lt k h;omega) O.dis T f t F (λh=>by cases h) (by omega)
   I b m u B U V (λ_=>C) (λk=>k=w.heap.size) (λk h=>.inl h) rfl (λh=>by cases h)
   (u 0 G0 Rd _ Rd _ _ h0 (H _) (λk h=>h.imp id (by omega)) (λk h=>.inl h) (λk h=>h.imp .inl id) (λk h K=>?_) (λk h=>?_)) (X _)).mono ?_)
  ·rcases h with h | h
   ·exact O.dis k h K
   ·have:=O.lt k (.inr K);omega
  ·rcases h with (h | h) | h
   ·have:=O.lt k (.inl h);omega
   ·omega
   ·have:=O.lt k (.inr h);omega
  rintro e p ⟨G,R,j,q,_,(⟨hi,s,z⟩ | ⟨⟨v,rfl⟩,c,hi,z⟩ | ⟨c,rfl,hi⟩)⟩
  ·have A: ∀ o,AQ (λk=>k=w.heap.size) p (p.putObj w.heap.size o):=λo=>(AQ.refl (λk=>k=w.heap.size) p).putObj (λ_=>rfl) _
   cases e with
   | returned v=>exact ⟨none,_,by have:=run_endLoop (P:=P) z (by rw [t];simp);rw [t] at this;exact this,
    n (.returned v) G R _ p _ s ((u _).same j hi ((A _).mono λ_ _ h=>.inr h)) (j.upd (A _)) q (A _)⟩
   | panicked c=>exact n (.panicked c) G R _ p p s hi j q (AQ.refl _ _)
   | outgrown=>exact (n .outgrown G R _ p p s hi j q (AQ.refl _ _)).elim
  ·exact ⟨some c,_,by have:=run_endLoop (P:=P) z (by rw [t];simp);rw [t] at this;exact this,
    Y c _ _ _ ((B _).same j hi ((AQ.refl _ p).putObj (λ_=>.inr rfl) _))⟩
  ·exact (C _ _ _ _ hi).elim
end
def zDX (B:Nat)(P:Program)(fn:Func)(R:Ending -> World -> Prop):Exit -> Act -> World -> Prop
 | .normal,a,w | .ret,a,w=>Ef B a.defers w/\ ∀ W,Ms B w W -> ∃ v,(results fn a.tmps).run P W= .ok v W/\ R (.returned v) W
 | _,_,_=>False
def zLK (B:Nat){P:Program}{f:FuncId}{fn:Func}{c:Code}{args:Array Value}{w:World}{R:Ending -> World -> Prop} 
 (M:P.funcs[f]? =some fn) (a:fn.body=some c)
 (h:c.wp P (zDX B P fn R) { tmps:=args++Array.replicate (fn.ntmps-args.size) undef,defers:=[] } w):Calls P f args w R:=by
 refine (zM4 (n:=0)).1 (callsIn_of_wp_marks M a trivial ?_);refine zMP (wpIn_wide.2 h) λe a' w' L=>?_
 cases e <;> first | exact aF _ _ L.1 L.2 | exact L.elim
end
abbrev zGH:=@List.getD_eq_getElem?_getD
abbrev zGJ:=@Option.some.inj
abbrev zGZ:=@List.length_set
abbrev zGe:=@List.getElem?_eq_some_iff
abbrev zH6:=@Array.getD_eq_getD_getElem?
abbrev zJB:=@List.getElem?_set
section
inductive DV where
 | any
 | nils
 | int (k:IntKind) (n:Int)
 | bool (b:Bool)
 | str (s:ByteArray)
 | ints (l:Ξ)
 | bools (l:Ω)
 | sl (m n:Nat) (f:Nat -> Nat -> DV)
 | fp (m:Nat) (f:Nat -> DV)
 | agg (m:Nat) (f:Nat -> DV)
 | tup (m:Nat) (f:Nat -> DV)
 | ref (k j:Nat)
 | msl (k m off n:Nat)
 | mp (k m i j:Nat)
 | fn (g:Nat) (m:Nat) (c:Nat -> DV)
 | it (k:Nat)
 | yl (l:Nat)
 | mse (k m off n:Nat)
 | mri (k i:Nat)
 | cst (u:Value)
structure AI where
 blk:Nat
 off:Nat
 room:Nat
 val:Value
 foot:Ψ
def HL (m:Nat)(f:Nat -> DV):Nat -> DV:=λj=>((List.range m).map f).getD j .any
variable {j m:Nat}{f:Nat -> DV}
def X3 (h:j<m):HL m f j=f j:=by simp [HL,h]
def LB:Nat:=140737488355328
def AJ (M:Ψ)(w:World):DV -> List AI -> Value -> Prop
 | .any,_,_=>True
 | .nils,_,v=>v= .slice none 0 0
 | .int k n,_,v=>v= .int k n
 | .bool b,_,v=>v= .bool b
 | .str s,_,v=>v= .string s
 | .ints l,_,v=>∃ (a:Option Addr) (cap:Nat),v= .slice a l.length cap/\ l.length<=cap/\ l.length<=LB/\
  ∀ j,j<l.length -> ∃ b o,a=some ⟨b,o,none⟩/\ ¬ M b/\ w.cell? ⟨b,o+j,none⟩=some (.int .i64 (l.getD j 0))
 | .bools l,_,v=>∃ (a:Option Addr) (cap:Nat),v= .slice a l.length cap/\ l.length<=cap/\ l.length<=LB/\
  ∀ j,j<l.length -> ∃ b o,a=some ⟨b,o,none⟩/\ ¬ M b/\ w.cell? ⟨b,o+j,none⟩=some (.bool (l.getD j false))
 | .sl m n f,_,v=>∃ (a:Option Addr) (cap:Nat),v= .slice a n cap/\ n<=cap/\ n<=LB/\
  ∀ i j,i<n -> j<m -> ∃ b o u,a=some ⟨b,o,none⟩/\ ¬ M b/\ w.cell? ⟨b,o+(i*m+j),none⟩=some u/\ AJ M w (f i j) [] u
 | .fp m f,_,v=>∃ b o,v= .pointer (some ⟨b,o,none⟩)/\ ∀ j,j<m -> ¬ M b/\ ∃ u,w.cell? ⟨b,o+j,none⟩=some u/\ AJ M w (f j) [] u
 | .agg m f,ρ,v=>∃ cs,v= .agg cs/\ cs.size=m/\ ∀ j,j<m -> ∃ u,cs[j]? =some u/\ AJ M w (f j) ρ u
 | .tup m f,ρ,v=>∃ cs,v= .tuple cs/\ cs.size=m/\ ∀ j,j<m -> ∃ u,cs[j]? =some u/\ AJ M w (f j) ρ u
 | .ref k j,ρ,v=>∃ p:AI,ρ[k]? =some p/\ v= .pointer (some ⟨p.blk,p.off+j,none⟩)
 | .msl k m off n,ρ,v=>∃ (p:AI) (cap:Nat),ρ[k]? =some p/\ v= .slice (some ⟨p.blk,p.off+off*m,none⟩) n cap/\ n<=cap/\ n<=LB/\ p.off+off*m+cap*m<=p.room
 | .mp k m i j,ρ,v=>∃ p:AI,ρ[k]? =some p/\ v= .pointer (some ⟨p.blk,p.off+(i*m+j),none⟩)
 | .fn g m c,ρ,v=>∃ Y,v= .func (.func g) #[] Y/\ Y.size=m/\ ∀ j,j<m -> ∃ u,Y[j]? =some u/\ AJ M w (c j) ρ u
 | .it k,ρ,v=>∃ p:AI,ρ[k]? =some p/\ v=p.val
 | .yl l,_,v=>v= .func (.yield l) #[] #[]
 | .cst u,_,v=>v=u/\ u.oneCell'=true
 | .mri k i,ρ,v=>∃ (p:AI) (vs:Array Value),ρ[k]? =some p/\ p.val= .tuple vs/\ vs[i]? =some v
 | .mse k m off n,ρ,v=>∃ (p:AI) (a:Option Addr) (cap:Nat),ρ[k]? =some p/\ v= .slice a n cap/\ n<=cap/\ n<=LB/\ (0<cap -> a=some ⟨p.blk,p.off+off*m,none⟩/\ p.off+off*m+cap*m<=p.room)
variable {v:Value}{ρ:List AI}{w:World}{M:Ψ}
theorem Ir (h:j<m)(i:AJ M w (f j) ρ v):AJ M w (HL m f j) ρ v:=by rw [X3 h];exact i
def AX (w:World)(p:AI)(n:Nat)(R:Nat -> Value -> Prop):Prop:= p.foot=(λb=>b=p.blk)/\ ∃ cs t,w.heap[p.blk]? =some (.cells cs t (0,0))/\ p.off+n<=cs.size/\ p.room<=cs.size/\ ∀ j,j<n -> ∃ u,cs[p.off+j]? =some u/\ R j u
/-! ### Rows that an object owns-/
def If (w:World)(F:Ψ)(u:Value)(L:Ξ):Prop:= (L= []/\ u= .slice none 0 0)∨∃ (q:AI) (cap:Nat),u= .slice (some ⟨q.blk,q.off,none⟩) L.length cap/\ L.length<=cap/\ q.off+cap<=q.room/\ L.length<=LB/\ F q.blk/\ AX w q L.length λj x=>x= .int .i64 (L.getD j 0)
def Di:Value -> Option Nat
 | .slice (some a) _ _=>some a.block
 | _=>none
variable {b:Nat}{L:Ξ}{u:Value}{F:Ψ}
def If.blk (h:If w F u L)(c:Di u=some b):F b/\ b<w.heap.size:=by
 rcases h with ⟨_,rfl⟩ | ⟨q,cap,rfl,_,_,_,h5,_,cs,t,h6,_⟩
 ·cases c
 ·cases c;grind
variable {w':World}
theorem If.out {r:Ψ}(h:If w F u L)(c: ∀ b,F b -> Di u=some b -> b<w.heap.size -> w'.heap[b]? =w.heap[b]?)(Q: ∀ b,F b -> Di u=some b -> r b):If w' r u L:=by
 rcases h with h | ⟨q,cap,a,d,e,A,f,k⟩
 ·exact .inl h
 ·refine .inr ⟨q,cap,a,d,e,A,Q _ f (by rw [a];rfl),?_⟩;obtain ⟨o,cs,t,s,O⟩:=k;exact ⟨o,cs,t,(c _ f (by rw [a];rfl) (zGI.1 s).1).trans s,O⟩
structure FV (w:World)(p:AI)(f:Int -> Ξ)(B6:Option (Int×Ξ×Bool))(u:Value)(es:Array MapEntry)(Ak:Nat):Prop where
 val:p.val= .tuple #[Value.map (some p.blk),u]
 blk:w.heap[p.blk]? =some (.map es Ak)
 own:p.foot p.blk
 key: ∀ e∈es.toList,∃ k,e.key= .int .i64 k/\ ((∀ L,B6≠some (k,L,true)) -> If w (λb=>p.foot b/\ b≠p.blk) e.val (f k))
 no: ∀ k,(∀ e∈es.toList,e.key≠.int .i64 k) -> f k= []
 nd:(es.toList.map (·.key)).Nodup
 apart: ∀ e∈es.toList,∀ e'∈es.toList,∀ b,Di e.val=some b -> Di e'.val=some b -> e.key=e'.key
 born: ∀ e∈es.toList,e.born<Ak
 stamps:(es.toList.map (·.born)).Nodup
 inHand: ∀ k L g,B6=some (k,L,g) -> If w (λb=>p.foot b/\ b≠p.blk) u L/\ ∀ e∈es.toList,∀ b,Di u=some b -> Di e.val=some b -> e.key= .int .i64 k
variable {Y:Nat}{es:Array MapEntry}{p:AI}
theorem FV.out {f:Int -> Ξ}{v:Option (Int×Ξ×Bool)}(h:FV w p f v u es Y)(c: ∀ b,p.foot b -> b<w.heap.size -> w'.heap[b]? =w.heap[b]?):FV w' p f v u es Y:=
 { h with
  blk:=(c _ h.own (zGI.1 h.blk).1).trans h.blk
  key:=λe J=>let ⟨k,a,d⟩:=h.key e J;⟨k,a,λx=>(d x).out (λb M _ m=>c b M.1 m) λ_ h _=>h⟩
  inHand:=λk L g e=>let ⟨a,d⟩:=h.inHand k L g e;⟨a.out (λb M _ m=>c b M.1 m) λ_ h _=>h,d⟩ }
/-! ### Maps:sets of keys-/
abbrev KS:=List Ξ
def Bb:Ξ -> Value
 | [a]=>.int .i64 a
 | l=>.agg (l.map λa=>.int .i64 a).toArray
theorem sS: ∀ {a b:Ξ},Bb a=Bb b -> a=b:=by
 have c: ∀ {l m:Ξ},(l.map λa=>Value.int .i64 a).toArray=(m.map λa=>Value.int .i64 a).toArray -> l=m:=λ{l m} h=>by
  grind [List.map_inj_right]
 intro a b h
 match a,b with
 | [x],[y]=>cases h;rfl
 | [],[]=>rfl
 | [x],[]=>cases h
 | [],[y]=>cases h
 | [x],y::B::m=>cases h
 | x::x'::l,[y]=>cases h
 | x::x'::l,[]=>exact c (Value.agg.inj h)
 | [],y::B::m=>exact c (Value.agg.inj h)
 | x::x'::l,y::B::m=>exact c (Value.agg.inj h)
structure Fi (w:World)(b n:Nat)(l:KS)(es:Array MapEntry)(Ak:Nat):Prop where
 blk:w.heap[b]? =some (.map es Ak)
 keys:(es.toList.map (·.key)).Perm (l.map Bb)
 nd:l.Nodup
 len: ∀ y∈l,y.length=n
 tru: ∀ e∈es.toList,e.val= .bool true
 born: ∀ e∈es.toList,e.born<Ak
 stamps:(es.toList.map (·.born)).Nodup
variable {n:Nat}
theorem Fi.out {l:KS}(h:Fi w b n l es Y)(c:w'.heap[b]? =w.heap[b]?):Fi w' b n l es Y:={ h with blk:=c.trans h.blk }
inductive MX where
 | set (n:Nat) (l:KS)
 | sets (n:Nat) (ls:List (Option KS)) (lk:Option (Nat×Nat×Array MapEntry×Nat))
 | mit (n mb:Nat) (es:Array MapEntry) (Ak:Nat) (rem:KS) (Ff:Option Ξ)
 | rows (f:Int -> Ξ) (B6:Option (Int×Ξ×Bool))
 | rws (ls:List Ξ) (B6:Option (Nat×Ξ))
structure Li (w:World)(p:AI)(ls:List Ξ)(B6:Option (Nat×Ξ))(vs:Array Value):Prop where
 val:p.val= .tuple vs
 size:vs.size=ls.length+1
 row: ∃ cs t,w.heap[p.blk]? =some (.cells cs t (0,0))/\ p.off+ls.length<=cs.size/\ p.room<=cs.size/\ ∀ j,j<ls.length -> cs[p.off+j]? =vs[j+1]?
 blk:p.foot p.blk
 has: ∀ j,j<ls.length -> (∀ L,B6≠some (j,L)) -> If w (λb=>p.foot b/\ b≠p.blk) (vs.getD (j+1) undef) (ls.getD j default)
 apart: ∀ (i j b:Nat),i<ls.length -> j<ls.length -> (∀ L,B6≠some (i,L)) -> (∀ L,B6≠some (j,L)) -> Di (vs.getD (i+1) undef)=some b -> Di (vs.getD (j+1) undef)=some b -> i=j
 inHand: ∀ k L,B6=some (k,L) -> If w (λb=>p.foot b/\ b≠p.blk) (vs.getD 0 undef) L/\ ∀ (j b:Nat),j<ls.length -> Di (vs.getD 0 undef)=some b -> Di (vs.getD (j+1) undef)=some b -> j=k
variable {vs:Array Value}
theorem Li.out {E:List Ξ}{v:Option (Nat×Ξ)}(h:Li w p E v vs)(c: ∀ b,p.foot b -> b<w.heap.size -> w'.heap[b]? =w.heap[b]?):Li w' p E v vs:=
 { h with
  row:=let ⟨cs,t,a,d⟩:=h.row;⟨cs,t,(c _ h.blk (zGI.1 a).1).trans a,d⟩
  has:=λj f x=>(h.has j f x).out (λb M _ m=>c b M.1 m) λ_ h _=>h
  inHand:=λk L e=>let ⟨a,d⟩:=h.inHand k L e;⟨a.out (λb M _ m=>c b M.1 m) λ_ h _=>h,d⟩ }
structure Fu (w:World)(p:AI)(n:Nat)(ls:List (Option KS))(lk:Option (Nat×Nat×Array MapEntry×Nat))(vs:Array Value):Prop where
 val:p.val= .tuple vs
 size:vs.size=ls.length
 row: ∃ cs t,w.heap[p.blk]? =some (.cells cs t (0,0))/\ p.off+ls.length<=cs.size/\ p.room<=cs.size/\ ∀ j,j<ls.length -> cs[p.off+j]? =vs[j]?
 blk:p.foot p.blk
 has: ∀ (j:Nat) (l:KS),ls[j]? =some (some l) -> ∃ b:Nat,vs[j]? =some (Value.map (some b))/\ b≠p.blk/\ p.foot b/\ ∃ es Ak,Fi w b n l es Ak/\ ∀ x,lk=some x -> x.1=j -> x.2=(b,es,Ak)
 nil: ∀ (j:Nat),ls[j]? =some none -> vs[j]? =some (Value.map none)
 foot: ∀ b,p.foot b -> b=p.blk∨∃ (j:Nat) (l:KS),ls[j]? =some (some l)/\ vs[j]? =some (Value.map (some b))
 inj: ∀ (i j b:Nat),vs[i]? =some (Value.map (some b)) -> vs[j]? =some (Value.map (some b)) -> i=j
theorem Fu.out {E:List (Option KS)}{G:Option (Nat×Nat×Array MapEntry×Nat)}(h:Fu w p n E G vs)(f: ∀ b,p.foot b -> b<w.heap.size -> w'.heap[b]? =w.heap[b]?):Fu w' p n E G vs:=by
 have d: ∀ {b o},p.foot b -> w.heap[b]? =some o -> w'.heap[b]? =some o:=λ{b o} M x=>(f b M (zGI.1 x).1).trans x
 refine { h with row:=?_,has:=λj l m=>?_ }
 ·obtain ⟨cs,t,a,c⟩:=h.row;exact ⟨cs,t,d h.blk a,c⟩
 ·obtain ⟨b,a,c,e,es,Y,A,g⟩:=h.has j l m;exact ⟨b,a,c,e,es,Y,{ A with blk:=d e A.blk },g⟩
def Oe (w:World)(p:AI):MX -> Prop
 | .set n l=>p.val=Value.map (some p.blk)/\ p.foot=(λb=>b=p.blk)/\ ∃ es Y,Fi w p.blk n l es Y
 | .sets n E G=>∃ vs,Fu w p n E G vs
 | .mit n Q es Y z a=>(∀ x,(x∈z∨a=some x) -> x.length=n)/\ p.val= .pointer (some ⟨p.blk,0,none⟩)/\ p.foot=(λb=>b=p.blk)/\ ∃ seen,w.heap[p.blk]? =some (.mapIter (some Q) Y seen Y)/\ ((leftOf es seen).toList.map (·.key)).Perm (z.map Bb)/\
  ∀ x,a=some x -> ∃ e∈es.toList,e.key=Bb x/\ seen.back? =some e.born
 | .rows f v=>∃ u es Y,FV w p f v u es Y
 | .rws E v=>∃ vs,Li w p E v vs
theorem Oe.out : ∀ {x:MX},Oe w p x -> (∀ b,p.foot b -> b<w.heap.size -> w'.heap[b]? =w.heap[b]?) -> Oe w' p x
 | .set n l,⟨e,a,es,Y,d⟩,c=>⟨e,a,es,Y,d.out (c _ (by rw [a]) (zGI.1 d.blk).1)⟩
 | .sets n E lk,⟨vs,h⟩,c=>⟨vs,h.out c⟩
 | .rows f v,⟨u,es,Y,h⟩,c=>⟨u,es,Y,h.out c⟩
 | .rws E v,⟨vs,h⟩,c=>⟨vs,h.out c⟩
 | .mit n mb es Y rem Ff,⟨h0,e,a,seen,d,A⟩,c=>⟨h0,e,a,seen,(c _ (by rw [a]) (zGI.1 d).1).trans d,A⟩
inductive DO where
 | cells (l:List DV)
 | ints (l:Ξ)
 | bools (l:Ω)
 | arr (m n:Nat) (f:Nat -> Nat -> DV)
 | iter (encs:List (List DV))
 | ro (l:List DV)
 | mo (x:MX)
abbrev DH:=List (Option DO)
def MO (h:DH)(ρ:List AI)(b:Nat):Prop:=∃ (k:Nat) (o:DO) (p:AI),h[k]? =some (some o)/\ ρ[k]? =some p/\ p.foot b
def MS (N:Ψ)(h:DH)(ρ:List AI)(b:Nat):Prop:=N b∨MO h ρ b
def YV (ds:List DV)(R:Ψ)(W:World)(args:Array Value):Prop:=ds.length=args.size/\ ∀ j,j<ds.length -> AJ (λb=>b<W.heap.size/\ ¬ R b) W (ds.getD j .any) [] (args.getD j undef)
def Tu:Ending -> (Ψ) -> (Ψ) -> World -> Prop:=λe _ _ _=>∃ v,e= .returned v
def EF (P:Program)(M:Ψ)(w:World)(ρ:List AI)(p:AI):DO -> Prop
 | .cells l=>AX w p l.length λj u=>AJ M w (l.getD j .any) ρ u
 | .ints l=>AX w p l.length λj u=>u= .int .i64 (l.getD j 0)
 | .bools l=>AX w p l.length λj u=>u= .bool (l.getD j false)
 | .arr m n f=>AX w p (n*m) λj u=>AJ M w (f (j/m) (j % m)) [] u
 | .iter encs=>∃ H Y Rd,(p.val= .func (.func H) #[] Y/\ ∀ args W,(callFunc H args).run P W= .ok (.enter H args) W)/\ Og P H Y YV encs Tu p.foot Rd w/\ (∀ b,Rd b -> ¬ M b/\ b<w.heap.size)/\ ∀ b,p.foot b -> b<w.heap.size
 | .ro l=>p.foot=(λ_=>False)/\ ¬ M p.blk/\ AX w { p with foot:=λb=>b=p.blk } l.length λj u=>AJ M w (l.getD j .any) ρ u
 | .mo x=>Oe w p x
def tq:Obj -> Bool
 | .cells .. =>true
 | .map .. =>true
 | .mapIter .. =>true
 | _=>false
abbrev EG (w:World)(b:Nat):Prop:=∃ (c:Obj) (_:tq c=true) (_:Unit),w.heap[b]? =some c
theorem EG.cells {c:Array Value}{t:TypeId}{z:Nat×Nat}(h:w.heap[b]? =some (.cells c t z)):EG w b:=⟨_,rfl,(),h⟩
structure Au where
 ng:Nat
 gi:World -> Prop
 st: ∀ w w',gi w -> AQ (λb=>ng<=b) w w' -> gi w'
 lo: ∀ w,gi w -> ng<=w.heap.size
structure Aq (P:Program)(Γ:Au)(N:Ψ)(h:DH)(ρ:List AI)(w:World):Prop where
 len:ρ.length=h.length
 obj: ∀ (k:Nat) (o:DO),h[k]? =some (some o) -> ∃ p:AI,ρ[k]? =some p/\ EF P (MS N h ρ) w ρ p o
 cel: ∀ (k:Nat) (o:DO) (p:AI) (b:Nat),h[k]? =some (some o) -> ρ[k]? =some p -> p.foot b -> Γ.ng<=b/\ ¬ N b/\ EG w b
 dis: ∀ (k k':Nat) (o o':DO) (p p':AI) (b:Nat),k≠k' -> h[k]? =some (some o) -> h[k']? =some (some o') -> ρ[k]? =some p -> ρ[k']? =some p' -> p.foot b -> p'.foot b -> False
 nlt: ∀ b,N b -> b<w.heap.size/\ Γ.ng<=b
 gi:Γ.gi w
structure St where
 fr:List DV
 h:DH
def BE (M:Ψ)(w:World)(ρ:List AI)(fr:List DV)(t:Array Value):Prop:= fr.length=t.size/\ ∀ i,i<fr.length -> AJ M w (fr.getD i .any) ρ (t.getD i undef)
structure AS (P:Program)(Γ:Au)(N:Ψ)(S:St)(ρ:List AI)(a:Act)(w:World):Prop where
 hr:Aq P Γ N S.h ρ w
 fr:BE (MS N S.h ρ) w ρ S.fr a.tmps
structure A3 (h:DH)(ρ:List AI)(w:World)(h':DH)(ρ':List AI)(w':World):Prop where
 upd:AQ (MO h ρ) w w'
 grow: ∀ b,MO h' ρ' b -> MO h ρ b∨w.heap.size<=b
theorem A3.refl (h:DH)(ρ:List AI)(w:World):A3 h ρ w h ρ w:=⟨AQ.refl _ _,λ_ h=>.inl h⟩
variable {G:World}{ρ' ρ'':List AI}{h' l:DH}
def A3.trans {h:DH}(x:A3 h ρ w h' ρ' w')(y:A3 h' ρ' w' l ρ'' G):A3 h ρ w l ρ'' G:=
 ⟨x.upd.comp y.upd λi hi v=>(x.grow i v).resolve_right (by omega),λb c=>(y.grow b c).elim (λh=>x.grow b h) (λh=>.inr (zGK x.upd.size h))⟩
structure DJ (h:DH)(ρ:List AI)(w:World)(h':DH)(ρ':List AI)(w':World):Prop where
 st:A3 h ρ w h' ρ' w'
 pl: ∀ (k:Nat) (p:AI),ρ[k]? =some p -> ρ'[k]? =some p
theorem DJ.refl (h:DH)(ρ:List AI)(w:World):DJ h ρ w h ρ w:=⟨A3.refl _ _ _,λ_ _ h=>h⟩
def DJ.trans {h:DH}(x:DJ h ρ w h' ρ' w')(y:DJ h' ρ' w' l ρ'' G):DJ h ρ w l ρ'' G:=
 ⟨x.st.trans y.st,λk p hk=>y.pl k p (x.pl k p hk)⟩
structure BQ (M:Ψ)(w:World)(ρ:List AI)(M':Ψ)(w':World)(ρ':List AI):Prop where
 blk: ∀ b,b<w.heap.size -> ¬ M b -> (∃ c t z,w.heap[b]? =some (.cells c t z)) -> w'.heap[b]? =w.heap[b]?
 m: ∀ b,M' b -> M b∨w.heap.size<=b
 pl: ∀ (k:Nat) (p:AI),ρ[k]? =some p -> ρ'[k]? =some p
variable {o:Nat}
def zLF (h:w.cell? ⟨b,o,none⟩=some u): ∃ c t z,w.heap[b]? =some (.cells c t z):=by
 grind [World.cell?]
def BQ.nil {a:Ψ}(h:BQ M w ρ a w' ρ'):BQ M w [] a w' []:=⟨h.blk,h.m,λk p hk=>by simp at hk⟩
def vq (h:w'.heap[b]? =w.heap[b]?):w'.cell? ⟨b,o,none⟩=w.cell? ⟨b,o,none⟩:=by
 unfold World.cell?;rw [h]
variable {k:Ψ}
theorem BQ.cell (h:BQ M w ρ k w' ρ')(Y: ¬ M b)(l:w.cell? ⟨b,o,none⟩=some u):w'.cell? ⟨b,o,none⟩=some u/\ ¬ k b:=by
 have p:b<w.heap.size:=zIb w ⟨b,o,none⟩ l;exact ⟨(vq (h.blk b p Y (zLF l))).trans l,λv=>(h.m b v).elim Y (by omega)⟩
theorem AJ.out : ∀ (d:DV) {ρ ρ':List AI} {v:Value},BQ M w ρ F w' ρ' -> AJ M w d ρ v -> AJ F w' d ρ' v:=by
 intro d
 induction d with
 | any=>intros;trivial
 | nils=>intro ρ ρ' v _ h;exact h
 | int k n=>intro ρ ρ' v _ h;exact h
 | bool b=>intro ρ ρ' v _ h;exact h
 | str s=>intro ρ ρ' v _ h;exact h
 | ints l=>
  rintro ρ ρ' v H ⟨a,cap,e,t,x,B⟩;refine ⟨a,cap,e,t,x,λj q=>?_⟩;obtain ⟨b,o,D,Y,y⟩:=B j q;obtain ⟨z,A⟩:=H.cell Y y;exact ⟨b,o,D,A,z⟩
 | bools l=>
  rintro ρ ρ' v H ⟨a,cap,e,t,x,B⟩;refine ⟨a,cap,e,t,x,λj q=>?_⟩;obtain ⟨b,o,D,Y,y⟩:=B j q;obtain ⟨z,A⟩:=H.cell Y y;exact ⟨b,o,D,A,z⟩
 | sl m n f U=>
  rintro ρ ρ' v H ⟨a,cap,e,t,x,B⟩;refine ⟨a,cap,e,t,x,λi j hi q=>?_⟩;obtain ⟨b,o,u,D,Y,y,E⟩:=B i j hi q;obtain ⟨z,A⟩:=H.cell Y y;exact ⟨b,o,u,D,A,z,U i j H.nil E⟩
 | fp m f U=>
  rintro ρ ρ' v H ⟨b,o,e,h⟩;refine ⟨b,o,e,λj q=>?_⟩;obtain ⟨Y,u,y,E⟩:=h j q;obtain ⟨z,A⟩:=H.cell Y y;exact ⟨A,u,z,U j H.nil E⟩
 | agg m f U=>
  rintro ρ ρ' v H ⟨cs,e,C,h⟩;exact ⟨cs,e,C,λj q=>let ⟨u,t,x⟩:=h j q;⟨u,t,U j H x⟩⟩
 | tup m f U=>
  rintro ρ ρ' v H ⟨cs,e,C,h⟩;exact ⟨cs,e,C,λj q=>let ⟨u,t,x⟩:=h j q;⟨u,t,U j H x⟩⟩
 | ref k j=>rintro ρ ρ' v H ⟨p,h,e⟩;exact ⟨p,H.pl _ _ h,e⟩
 | msl k m off n=>rintro ρ ρ' v H ⟨p,cap,h,r⟩;exact ⟨p,cap,H.pl _ _ h,r⟩
 | mp k m i j=>rintro ρ ρ' v H ⟨p,h,e⟩;exact ⟨p,H.pl _ _ h,e⟩
 | fn g m c U=>
  rintro ρ ρ' v H ⟨cs,e,C,h⟩;exact ⟨cs,e,C,λj q=>let ⟨u,t,x⟩:=h j q;⟨u,t,U j H x⟩⟩
 | it k=>rintro ρ ρ' v H ⟨p,h,e⟩;exact ⟨p,H.pl _ _ h,e⟩
 | yl l=>intro ρ ρ' v _ h;exact h
 | mse k m off n=>rintro ρ ρ' v H ⟨p,a,cap,h,r⟩;exact ⟨p,a,cap,H.pl _ _ h,r⟩
 | mri k i=>rintro ρ ρ' v H ⟨p,vs,h,r⟩;exact ⟨p,vs,H.pl _ _ h,r⟩
 | cst u=>intro ρ ρ' v _ h;exact h
variable {t:Array Value}
theorem BE.out {fr:List DV}(h:BE M w ρ fr t)(H:BQ M w ρ k w' ρ'):BE k w' ρ' fr t:=
 ⟨h.1,λi hi=>(h.2 i hi).out _ H⟩
def BE.at {fr:List DV}(h:BE M w ρ fr t)(i:Nat):AJ M w (fr.getD i .any) ρ (t.getD i undef):=by
 rcases zIW i fr.length with hi | hi
 ·exact h.2 i hi
 ·have:fr.getD i .any= .any:=by grind
  rw [this];trivial
def BE.set {fr:List DV}(h:BE M w ρ fr t)(i:Nat){d:DV}(hv:AJ M w d ρ v):BE M w ρ (fr.set i d) (t.setIfInBounds i v):=by
 refine ⟨by simp [h.1],λj a=>?_⟩;rw [zGZ] at a;have Cv:j<t.size:=by rw [←h.1];exact a
 have h0:=h.2 j a;simp only [zGH,zH6,zJB,Array.getElem?_setIfInBounds] at h0 ⊢
 grind
variable {S:Ψ}{P:Program}
def Og.later {g:Nat}{Y:Array Value}{X:Type}{E:X -> (Ψ) -> World -> Array Value -> Prop}{encs:List X}{N:Ending -> (Ψ) -> (Ψ) -> World -> Prop}{G0 Rd:Ψ}(h:Og P g Y E encs N G0 Rd w)(q:AQ S w w')(j: ∀ b,b<w.heap.size -> S b -> ¬ (G0 b∨Rd b)):Og P g Y E encs N G0 Rd w':=
 λl J a W c d e=>h l J a W c d (q.mono (λi hi f=>j i hi f) |>.trans e)
variable {R:Nat -> Value -> Prop}
theorem AX.out {R':Nat -> Value -> Prop}(h:AX w p n R)(c:w'.heap[p.blk]? =w.heap[p.blk]?)(hR: ∀ j u,j<n -> R j u -> R' j u):AX w' p n R':=by
 obtain ⟨a,cs,t,b,e,A,f⟩:=h;exact ⟨a,cs,t,c.trans b,e,A,λj d=>let ⟨u,o,s⟩:=f j d;⟨u,o,hR j u d s⟩⟩
theorem AX.cell (h:AX w p n R)(hj:j<n): ∃ u,w.cell? ⟨p.blk,p.off+j,none⟩=some u/\ R j u:=by
 obtain ⟨h1,cs,t,h2,h3,h4,h5⟩:=h
 grind [World.cell?]
def AX.frozen (h:AX w p n R)(o:Nat):w.frozen? ⟨p.blk,o,none⟩=false:=by
 obtain ⟨h1,cs,t,b,_⟩:=h;unfold World.frozen?;simp [b]
theorem EF.out {o:DO}(h:EF P M w ρ p o)(H:BQ M w ρ k w' ρ')(q:AQ S w w')(A: ∀ b,S b -> M b)(r: ∀ b,b<w.heap.size -> p.foot b -> ¬ S b):EF P k w' ρ' p o:=by
 have c: ∀ {n R},AX w p n R -> w'.heap[p.blk]? =w.heap[p.blk]? :=λ{n R} i=>by
  obtain ⟨e,cs,t,d,_⟩:=i;have a:=(zGI.1 d).1;exact q.block _ a (r _ a (by rw [e]))
 cases o with
 | cells l=>exact AX.out h (c h) λj u _ i=>AJ.out _ H i
 | ints l=>exact AX.out h (c h) λj u _ i=>i
 | bools l=>exact AX.out h (c h) λj u _ i=>i
 | arr m n f=>exact AX.out h (c h) λj u _ i=>AJ.out _ H.nil i
 | iter encs=>
  obtain ⟨B,Y,Rd,e,d,g,C⟩:=h;refine ⟨B,Y,Rd,e,d.later q (λb c s hx=>?_),λb c=>⟨λv=>(H.m b v).elim (g b c).1 (by have:=(g b c).2;omega),zGS (g b c).2 q.size⟩,λb c=>zGS (C b c) q.size⟩
  grind
 | ro l=>
  obtain ⟨D,y,z⟩:=h
  have a:p.blk<w.heap.size:=by
   obtain ⟨_,cs,t,d,_⟩:=z
   grind
  exact ⟨D,λv=>(H.m _ v).elim y (by omega),AX.out z (q.block _ a λs=>y (A _ s)) λj u _ i=>AJ.out _ H i⟩
 | mo x=>exact Oe.out h λb c a=>q.block b a (r b a c)
section
variable {P:Program} {Γ:Au} {N:Ψ} {h:DH} {ρ:List AI} {w:World}
def MO.unset {k:Nat}{b:Nat}(v:MO (h.set k none) ρ b):MO h ρ b:=by
 obtain ⟨i,o,p,a,c,d⟩:=v;rw [zJB] at a
 by_cases e:k=i
 ·grind
 ·rw [zGN e] at a;exact ⟨i,o,p,a,c,d⟩
def Aq.lt (H:Aq P Γ N h ρ w){b:Nat}(a:MS N h ρ b):b<w.heap.size:=by
 rcases a with a | ⟨k,o,p,d,e,f⟩
 ·exact (H.nlt b a).1
 ·obtain ⟨_,_,c,t,z,h4⟩:=H.cel k o p b d e f
  grind
def Aq.low (H:Aq P Γ N h ρ w){b:Nat}(c:MO h ρ b):Γ.ng<=b:=by
 obtain ⟨k,o,p,a,d,e⟩:=c;exact (H.cel k o p b a d e).1
def Aq.lt2 (H:Aq P Γ N h ρ w){b:Nat}(c:MS N h ρ b):b<w.heap.size/\ Γ.ng<=b:=⟨H.lt c,c.elim (λh=>(H.nlt b h).2) H.low⟩
def Aq.ext (H:Aq P Γ N h ρ w){w':World}(C:A0 w w'):Aq P Γ N h ρ w':=by
 have O:BQ (MS N h ρ) w ρ (MS N h ρ) w' ρ:=⟨λb a _ _=>zNL C b a,λb h=>.inl h,λ_ _ h=>h⟩;refine ⟨H.len,λk o hk=>?_,λk o p b e f g=>?_,H.dis,λb a=>⟨zGS (H.nlt b a).1 C.size,(H.nlt b a).2⟩,Γ.st _ _ H.gi (AQ.ofExt C)⟩
 ·obtain ⟨p,i,x⟩:=H.obj k o hk;exact ⟨p,i,x.out O (S:=λ_=>False) (AQ.ofExt C) (λ_ h=>h.elim) (λ_ _ _ h=>h)⟩
 ·obtain ⟨j,s,c,t,z,d⟩:=H.cel k o p b e f g;exact ⟨j,s,c,t,z,(zNL C b (zGI.1 d).1).trans d⟩
def BQ.ext {M:Ψ}{w w':World}(ρ:List AI)(C:A0 w w'):BQ M w ρ M w' ρ:=⟨λb c _ _=>zNL C b c,λb h=>.inl h,λ_ _ h=>h⟩
def A3.ext {w w':World}(C:A0 w w'):A3 h ρ w h ρ w':=⟨AQ.ofExt C,λ_ h=>.inl h⟩
variable {α:Type}
def EO {l:List α}{x y:α}{k:Nat}(hk:(l++[x])[k]? =some y):(k<l.length/\ l[k]? =some y)∨(k=l.length/\ x=y):=by
 grind
def Eo {l:List α}{x y:α}{k:Nat}(hk:l[k]? =some y):(l++[x])[k]? =some y:=by
 grind
def MO.snoc (H:Aq P Γ N h ρ w){o:DO}{p:AI}{b:Nat}(e:MO (h++[some o]) (ρ++[p]) b):MO h ρ b∨p.foot b:=by
 obtain ⟨k,o',p',c,a,d⟩:=e;rcases EO c with ⟨m,c⟩ | ⟨m,c⟩
 ·rcases EO a with ⟨_,a⟩ | ⟨Q,_⟩
  ·exact .inl ⟨k,o',p',c,a,d⟩
  ·rw [Q,H.len] at m;omega
 ·rcases EO a with ⟨Q,_⟩ | ⟨_,a⟩
  ·rw [H.len,←m] at Q;omega
  ·subst a;exact .inr d
def Aq.snoc (H:Aq P Γ N h ρ w){w':World}(C:A0 w w'){o:DO}{p:AI}(M: ∀ b,p.foot b -> w.heap.size<=b/\ EG w' b) 
 (x:EF P (MS N (h++[some o]) (ρ++[p])) w' (ρ++[p]) p o):Aq P Γ N (h++[some o]) (ρ++[p]) w':=by
 have O:BQ (MS N h ρ) w ρ (MS N (h++[some o]) (ρ++[p])) w' (ρ++[p]):=by
  refine ⟨λb hb _ _=>zNL C b hb,λb hb=>?_,λk q hk=>Eo hk⟩;rcases hb with hb | hb
  ·exact .inl (.inl hb)
  ·rcases MO.snoc H hb with hb | hb
   ·exact .inl (.inr hb)
   ·exact .inr (M b hb).1
 refine ⟨by simp [H.len],λk o' hk=>?_,λk o' p' b d a e=>?_,λk g o1 F I p2 b D d a e A n r=>?_,λb hb=>⟨zGS (H.nlt b hb).1 C.size,(H.nlt b hb).2⟩,Γ.st _ _ H.gi (AQ.ofExt C)⟩
 ·rcases EO hk with ⟨m,hk⟩ | ⟨m,hk⟩
  ·obtain ⟨p',u,v⟩:=H.obj k o' hk;exact ⟨p',Eo u,v.out O (S:=λ_=>False) (AQ.ofExt C) (λ_ h=>h.elim) (λ_ _ _ h=>h)⟩
  ·cases hk;exact ⟨p,by rw [m,←H.len];simp,x⟩
 ·rcases EO d with ⟨m,d⟩ | ⟨m,d⟩
  ·rcases EO a with ⟨_,a⟩ | ⟨Q,_⟩
   ·obtain ⟨f,s,c,t,z,i⟩:=H.cel k o' p' b d a e;exact ⟨f,s,c,t,z,(zNL C b (zGI.1 i).1).trans i⟩
   ·rw [Q,H.len] at m;omega
  ·rcases EO a with ⟨Q,_⟩ | ⟨_,a⟩
   ·rw [H.len,←m] at Q;omega
   ·subst a;obtain ⟨f,s⟩:=M b e;exact ⟨zGK (Γ.lo _ H.gi) f,λy=>by have:=H.nlt b y;omega,s⟩
 ·have K1: ∀ {k:Nat} {o':DO} {p':AI},(h++[some o])[k]? =some (some o') -> (ρ++[p])[k]? =some p' -> p'.foot b -> k≠h.length -> b<w.heap.size:=by
   intro k o' p' d a e D;rcases EO d with ⟨m,d⟩ | ⟨m,d⟩
   ·rcases EO a with ⟨_,a⟩ | ⟨Q,_⟩
    ·exact H.lt (.inr ⟨k,o',p',d,a,e⟩)
    ·rw [Q,H.len] at m;omega
   ·exact absurd m D
  have new: ∀ {k:Nat} {o':DO} {p':AI},(h++[some o])[k]? =some (some o') -> (ρ++[p])[k]? =some p' -> p'.foot b -> k=h.length -> w.heap.size<=b:=by
   intro k o' p' d a e J;rcases EO a with ⟨Q,_⟩ | ⟨_,a⟩
   ·rw [H.len,←J] at Q;omega
   ·subst a;exact (M b e).1
  by_cases j:k=h.length
  ·grind
  ·by_cases l:g=h.length
   ·grind
   ·rcases EO d with ⟨_,d⟩ | ⟨m,_⟩
    ·rcases EO a with ⟨_,a⟩ | ⟨m,_⟩
     ·rcases EO e with ⟨_,e⟩ | ⟨m,_⟩
      ·rcases EO A with ⟨_,A⟩ | ⟨m,_⟩
       ·exact H.dis k g o1 F I p2 b D d a e A n r
       ·rw [H.len] at m;exact l m
      ·rw [H.len] at m;exact j m
     ·exact l m
    ·exact j m
def BQ.snoc (H:Aq P Γ N h ρ w){w':World}(C:A0 w w'){o:DO}{p:AI}(M: ∀ b,p.foot b -> w.heap.size<=b):BQ (MS N h ρ) w ρ (MS N (h++[some o]) (ρ++[p])) w' (ρ++[p]):=by
 refine ⟨λb hb _ _=>zNL C b hb,λb hb=>?_,λk q hk=>Eo hk⟩;rcases hb with hb | hb
 ·exact .inl (.inl hb)
 ·rcases MO.snoc H hb with hb | hb
  ·exact .inl (.inr hb)
  ·exact .inr (M b hb)
def A3.snoc (H:Aq P Γ N h ρ w){w':World}(C:A0 w w'){o:DO}{p:AI}(M: ∀ b,p.foot b -> w.heap.size<=b):A3 h ρ w (h++[some o]) (ρ++[p]) w':=
 ⟨AQ.ofExt C,λb c=>(MO.snoc H c).imp id (M b)⟩
variable {o':DO}
def MO.set {k:Nat}{o:DO}(hk:h[k]? =some (some o)){b:Nat}:MO (h.set k (some o')) ρ b↔MO h ρ b:=by
 have m:=(zGe.1 hk).1;constructor
 ·rintro ⟨i,o1,p,d,a,c⟩;rw [zJB] at d
  by_cases e:k=i
  ·subst e;exact ⟨k,o,p,hk,a,c⟩
  ·rw [zGN e] at d;exact ⟨i,o1,p,d,a,c⟩
 ·rintro ⟨i,o1,p,d,a,c⟩
  by_cases e:k=i
  ·subst e;exact ⟨k,o',p,by simp [m],a,c⟩
  ·exact ⟨i,o1,p,by grind,a,c⟩
def MS.set {k:Nat}{o:DO}(hk:h[k]? =some (some o)){b:Nat}:MS N (h.set k (some o')) ρ b↔MS N h ρ b:=by unfold MS;rw [MO.set hk]
def Aq.write (H:Aq P Γ N h ρ w){w':World}{k:Nat}{o:DO}{p:AI}(hk:h[k]? =some (some o))(g:ρ[k]? =some p)(q:AQ p.foot w w') 
 (u: ∀ b,p.foot b -> EG w' b) (ho:EF P (MS N (h.set k (some o')) ρ) w' ρ p o'):Aq P Γ N (h.set k (some o')) ρ w':=by
 have hl:=(zGe.1 hk).1;have Y: ∀ b,p.foot b -> MS N h ρ b:=λb a=>.inr ⟨k,o,p,hk,g,a⟩
 have O:BQ (MS N h ρ) w ρ (MS N (h.set k (some o')) ρ) w' ρ:=⟨λb a v _=>q.block b a λm=>v (Y b m),λb a=>.inl ((MS.set hk).1 a),λ_ _ h=>h⟩;have K: ∀ {i:Nat} {o1:DO},i≠k -> (h.set k (some o'))[i]? =some (some o1) -> h[i]? =some (some o1):=λ{i} {o1} D d=>by grind
 refine ⟨by simp [H.len],λi o1 hi=>?_,λi o1 I b d f j=>?_,λi x o1 F I p2 b D d f j A y B=>?_,λb a=>⟨zGS (H.nlt b a).1 q.size,(H.nlt b a).2⟩,Γ.st _ _ H.gi (q.mono λb _ a=>(H.cel k o p b hk g a).1)⟩
 ·by_cases e:i=k
  ·grind
  ·obtain ⟨I,J,C⟩:=H.obj i o1 (K e hi);exact ⟨I,J,C.out O q Y λb _ d f=>H.dis i k o1 o I p b e (K e hi) hk J g d f⟩
 ·by_cases e:i=k
  ·subst e;have:p=I:=zGJ (g.symm.trans f);subst this;obtain ⟨l,s,_⟩:=H.cel i o p b hk g j;exact ⟨l,s,u b j⟩
  ·obtain ⟨l,s,c,t,z,n⟩:=H.cel i o1 I b (K e d) f j;refine ⟨l,s,c,t,z,(q.block b (zGI.1 n).1 λm=>H.dis i k o1 o I p b e (K e d) hk f g j m).trans n⟩
 ·have r: ∀ {i:Nat} {o1:DO},(h.set k (some o'))[i]? =some (some o1) -> ∃ F,h[i]? =some (some F):=λ{i} {o1} d=>by
   grind
  obtain ⟨E,l⟩:=r d;obtain ⟨G,s⟩:=r f;exact H.dis i x E G I p2 b D l s j A y B
def BQ.write (hN:True){w':World}{k:Nat}{o:DO}{p:AI}(hk:h[k]? =some (some o))(g:ρ[k]? =some p)(q:AQ p.foot w w'):BQ (MS N h ρ) w ρ (MS N (h.set k (some o')) ρ) w' ρ:=
 ⟨λb c v _=>q.block b c λe=>v (.inr ⟨k,o,p,hk,g,e⟩),λb c=>.inl ((MS.set hk).1 c),λ_ _ h=>h⟩
def A3.write {w':World}{k:Nat}{o:DO}{p:AI}(hk:h[k]? =some (some o))(g:ρ[k]? =some p)(q:AQ p.foot w w'):A3 h ρ w (h.set k (some o')) ρ w':=
 ⟨q.mono λb _ c=>⟨k,o,p,hk,g,c⟩,λb c=>.inl ((MO.set hk).1 c)⟩
end
end
abbrev zGR:=@Nat.not_lt_zero
abbrev zGr:=@Bool.not_eq_true'
abbrev zGs:=@Go.run_underlying
abbrev zHx:=@decide_eq_true_eq
abbrev zHz:=@Option.some.injEq
abbrev zIP:=@Prod.mk.injEq
abbrev zI0:=@Nat.mul_le_mul_right
abbrev zI7:=@Nat.mul_comm
abbrev zMZ:=@Nat.add_mul
abbrev zMc:=@Nat.add_assoc
abbrev zMi:=@Nat.succ_mul
abbrev zNC:=@Option.isSome_iff_exists
def Nf:Value -> DV
 | .int k n=>.int k n
 | .bool b=>.bool b
 | .string s=>.str s
 | .slice none 0 0=>.nils
 | v=>if v.oneCell' then .cst v else .any
def AZ (fr:List DV):Operand -> DV
 | .tmp t=>fr.getD t .any
 | .const v=>Nf v
 | .global _=>.any
 | .func f=>.fn f 0 λ_=>.any
def JC (P:Program)(t:TypeId):Bool:=match P.underlying t with
 | some (.struct _)=>true
 | some (.array _ _)=>true
 | _=>false
def Qd (P:Program)(t:TypeId)(m:Nat):Bool:=match P.underlying t with
 | some (.slice e)=>match P.info? e with
  | some i=>i.size==m&&m != 0
  | none=>false
 | _=>false
def GX (P:Program)(t:TypeId):Bool:=(P.underlying t).isSome&&!JC P t
def Xb (P:Program)(t:TypeId)(m:Nat):Bool:=JC P t&&(match P.info? t with | some i=>i.size==m | none=>false)
def bg (P:Program)(s:TypeId)(f:Nat):Option (Nat×Nat):=match P.underlying s with
 | some (.struct m)=>match m[f]? with
  | some w=>match P.info? w.type with
   | some i=>if i.size=0 then none else some (w.offset,i.size)
   | none=>none
  | none=>none
 | _=>none
def XY (P:Program)(t:TypeId):Option (Nat×Nat):=match P.underlying t with
 | some (.array n e)=>match P.info? e with
  | some i=>if n<=1 then none else some (n,i.size)
  | none=>none
 | _=>none
def iI (P:Program)(t:TypeId):Option IntKind:=match P.underlying t with
 | some (.int k)=>some k
 | _=>none
def cg (S:BinOp)(k:IntKind)(a b:Int):Option (DV×Prop):=match S with
 | .add=>some (.int k (k.wrap (a+b)),True)
 | .sub=>some (.int k (k.wrap (a-b)),True)
 | .mul=>some (.int k (k.wrap (a*b)),True)
 | .and=>some (.int k (bits .and k a b),True)
 | .or=>some (.int k (bits .or k a b),True)
 | .xor=>some (.int k (bits .xor k a b),True)
 | .andNot=>some (.int k (bits .andNot k a b),True)
 | .eql=>some (.bool (a==b),True)
 | .neq=>some (.bool (a != b),True)
 | .lss=>some (.bool (decide (a<b)),True)
 | .leq=>some (.bool (decide (a<=b)),True)
 | .gtr=>some (.bool (decide (a>b)),True)
 | .geq=>some (.bool (decide (a>=b)),True)
 | _=>none
def Td (P:Program)(t:TypeId):Nat:=match P.underlying t with
 | some .bool=>1
 | some (.slice _)=>2
 | _=>0
def ck (m:Nat)(op:BinOp)(x y:DV):Option (DV×Prop):=match op,x,y with
 | .eql,.bool a,.bool b=>if m=1 then some (.bool (a==b),True) else none
 | .neq,.bool a,.bool b=>if m=1 then some (.bool (!(a==b)),True) else none
 | .eql,.ints l,.nils=>if m=2 then some (.bool false,0<l.length) else none
 | .eql,.bools l,.nils=>if m=2 then some (.bool false,0<l.length) else none
 | .neq,.ints l,.nils=>if m=2 then some (.bool true,0<l.length) else none
 | .shl,.int k a,.int _ b=>some (.int k (k.wrap (a*2 ^ b.toNat)),0<=b/\ b<=k.bits)
 | .shr,.int k a,.int _ b=>some (.int k (a/2 ^ b.toNat),0<=b/\ b<=k.bits)
 | .quo,.int k a,.int g b=>if k=g then some (.int k (k.wrap (a.tdiv b)),b≠0) else none
 | .rem,.int k a,.int g b=>if k=g then some (.int k (a.tmod b),b≠0) else none
 | op,.int k a,.int g b=>if k=g then cg op k a b else none
 | _,_,_=>none
def Pe (P:Program)(S:St)(t:TypeId):DV -> Option (DV×Prop)
 | .fp m f=>if GX P t then (if m=0 then none else some (f 0,True)) else if Xb P t m then some (.agg m f,True) else none
 | .ref k j=>match S.h[k]? with
  | some (some (.cells l))=>if GX P t then (if j<l.length then some (l.getD j .any,True) else none)
   else match P.info? t with
    | some i=>if JC P t&&decide (j+i.size<=l.length) then some (.agg i.size (HL i.size λc=>l.getD (j+c) .any),True) else none
    | none=>none
  | some (some (.ro l))=>if GX P t then (if j<l.length then some (l.getD j .any,True) else none)
   else match P.info? t with
    | some i=>if JC P t&&decide (j+i.size<=l.length) then some (.agg i.size (HL i.size λc=>l.getD (j+c) .any),True) else none
    | none=>none
  | _=>none
 | .mp k m i j=>match S.h[k]? with
  | some (some (.ints l))=>if GX P t&&(m==1)&&(j==0) then some (.int .i64 (l.getD i 0),i<l.length) else none
  | some (some (.bools l))=>if GX P t&&(m==1)&&(j==0) then some (.bool (l.getD i false),i<l.length) else none
  | some (some (.arr Z n f))=>if GX P t&&(m==Z)&&decide (j<m) then some (f i j,i<n)
   else if Xb P t m&&(m==Z)&&(j==0) then some (.agg m (f i),i<n) else none
  | some (some (.mo (.sets _ E _)))=>if GX P t&&(m==1)&&(j==0) then some (.mri k i,i<E.length) else none
  | some (some (.mo (.rws E none)))=>if GX P t&&(m==1)&&(j==0) then some (.mri k (i+1),i<E.length) else none
  | _=>none
 | _=>none
def iP (P:Program)(t:TypeId)(x:DV)(n:Int):Option (DV×Prop):=match x with
 | .ints l=>if Qd P t 1 then some (.fp 1 (λ_=>.int .i64 (l.getD n.toNat 0)),0<=n/\ n<l.length) else none
 | .bools l=>if Qd P t 1 then some (.fp 1 (λ_=>.bool (l.getD n.toNat false)),0<=n/\ n<l.length) else none
 | .sl m c f=>if Qd P t m then some (.fp m (f n.toNat),0<=n/\ n<c) else none
 | .msl k m off c=>if Qd P t m then some (.mp k m (off+n.toNat) 0,0<=n/\ n<c) else none
 | .ref k j=>match XY P t with
  | some (len,a)=>some (.ref k (j+n.toNat*a),0<=n/\ n<len)
  | none=>none
 | .mp k m i 0=>match XY P t with
  | some (len,a)=>if a=m then some (.mp k m (i+n.toNat) 0,0<=n/\ n<len) else none
  | none=>none
 | .fp m f=>match XY P t with
  | some (len,a)=>if n.toNat*a+a<=m then some (.fp a (HL a λj=>f (n.toNat*a+j)),0<=n/\ n<len) else none
  | none=>none
 | _=>none
def aE (P:Program)(t:TypeId)(d:DV):Option (DV×Prop):=match P.underlying t,d with
 | some (.slice _),.nils=>some (.int .i64 0,True)
 | some (.slice _),.ints l=>some (.int .i64 l.length,True)
 | some (.slice _),.bools l=>some (.int .i64 l.length,True)
 | some (.slice _),.sl _ n _=>some (.int .i64 n,True)
 | some (.slice _),.msl _ _ _ n=>some (.int .i64 n,True)
 | some .string,.str s=>some (.int .i64 s.size,True)
 | _,_=>none
def gW (x y:DV):Option (DV×Prop):=match x,y with
 | .int k a,.int _ b=>some (.int k (if b>a then b else a),True)
 | _,_=>none
def gV (x y:DV):Option (DV×Prop):=match x,y with
 | .int k a,.int _ b=>some (.int k (if b<a then b else a),True)
 | _,_=>none
def ca (P:Program)(S:St)(b:Builtin)(args:List Operand)(E:List TypeId):Option (DV×Prop):=match b with
 | .len=>match args with
  | [x]=>match E with
   | [t]=>aE P t (AZ S.fr x)
   | _=>none
  | _=>none
 | .max=>match args with
  | [x,y]=>gW (AZ S.fr x) (AZ S.fr y)
  | _=>none
 | .min=>match args with
  | [x,y]=>gV (AZ S.fr x) (AZ S.fr y)
  | _=>none
 | _=>none
def pop (P:Program)(S:St):Op -> Option (DV×Prop)
 | .move x=>some (AZ S.fr x,True)
 | .assign x=>some (AZ S.fr x,True)
 | .pick c a b=>match AZ S.fr c with
  | .bool true=>some (AZ S.fr a,True)
  | .bool false=>some (AZ S.fr b,True)
  | _=>none
 | .load t x=>Pe P S t (AZ S.fr x)
 | .binOp e t x y _=>ck (Td P t) e (AZ S.fr x) (AZ S.fr y)
 | .unOp e _ x=>match e,AZ S.fr x with
  | .not,.bool b=>some (.bool !b,True)
  | .neg,.int k n=>some (.int k (k.wrap (0-n)),True)
  | .xor,.int k n=>some (.int k (bits .xor k (if k.signed then-1 else k.max) n),True)
  | _,_=>none
 | .convert s d x=>match P.underlying s,iI P d,AZ S.fr x with
  | some _,some k,.int _ n=>some (.int k (k.wrap n),True)
  | _,_,_=>none
 | .nilCheck x=>match AZ S.fr x with
  | .fp m f=>some (.fp m f,True)
  | .ref k j=>some (.ref k j,True)
  | .mp k m i j=>some (.mp k m i j,True)
  | .fn g m c=>some (.fn g m c,True)
  | _=>none
 | .fieldAddr s x f=>match bg P s f with
  | some (off,h)=>match AZ S.fr x with
   | .fp m g=>if off+h<=m then some (.fp h (HL h λj=>g (off+j)),True) else none
   | .ref k j=>some (.ref k (j+off),True)
   | .mp k m i j=>some (.mp k m i (j+off),True)
   | _=>none
  | none=>none
 | .indexAddr t x i=>match AZ S.fr i with
  | .int _ n=>iP P t (AZ S.fr x) n
  | _=>none
 | .extract x i=>match AZ S.fr x with
  | .tup m f=>if i<m then some (f i,True) else none
  | _=>none
 | .makeFunc (.func g) first c=>if first.size=0 then some (.fn g c.size (HL c.size λj=>AZ S.fr (c.getD j (.const undef))),True) else none
 | .call c=>match c.callee with
  | .builtin b=>ca P S b c.args.toList c.argTypes.toList
  | _=>none
 | _=>none
section
variable {P:Program} {Γ:Au} {N:Ψ} {S:St} {ρ:List AI} {a:Act} {w:World}
variable {M:Ψ}
theorem Zv (v:Value):AJ M w (Nf v) ρ v:=by
 unfold Nf;split
 ·rfl
 ·rfl
 ·rfl
 ·rfl
 ·split
  ·exact ⟨rfl,by assumption⟩
  ·trivial
theorem BW (R:AS P Γ N S ρ a w)(x:Operand):AJ (MS N S.h ρ) w (AZ S.fr x) ρ (a.eval x):=by
 cases x with
 | tmp t=>exact R.fr.at t
 | const v=>exact Zv v
 | global g=>trivial
 | func f=>exact ⟨#[],rfl,rfl,λj d=>absurd d (zGR j)⟩
variable {t:TypeId}
def Uv {d:TypeDesc}(h:P.underlying t=some d):(isAgg t).run P w= .ok (JC P t) w:=by
 unfold isAgg JC;rw [zGu,zGs h];simp only [Result.andThen,h];cases d <;> rfl
variable {i:TypeInfo}
def Kq (h:P.info? t=some i):(sizeOf t).run P w= .ok i.size w:=by
 grind [run_sizeOf,Program.cellsOf]
variable {u:Value}
def zBv {b:Addr}(h:GX P t=true)(hc:w.cell? b=some u):(loadVar t b).run P w= .ok u w:=by
 unfold GX at h;simp only [zEh,zNC,zGr] at h;obtain ⟨⟨d,hd⟩,hn⟩:=h
 simp_all [loadVar,Uv]
def sW (h:JC P t=true): ∃ d,P.underlying t=some d:=by
 grind [JC]
variable {b o:Nat}
def zBw (h:JC P t=true)(hi:P.info? t=some i)(g:Nat -> Value)(hc: ∀ j,j<i.size -> w.cell? ⟨b,o+j,none⟩=some (g j)):
 (loadVar t ⟨b,o,none⟩).run P w= .ok (.agg ((List.range i.size).map g).toArray) w:=by
 obtain ⟨d,r⟩:=sW h;unfold loadVar;rw [zGu,Uv r];simp only [Result.andThen,h,zI6];rw [zGu,Kq hi];simp only [Result.andThen]
 rw [zGu,run_loadCells w ⟨b,o,none⟩ i.size g (λj hj=>by
  grind [Addr.add])]
 simp [Result.andThen]
def Keep (N:Ψ)(w W:World):Prop:=∀ b o u,¬ N b -> w.cell? ⟨b,o,none⟩=some u -> W.cell? ⟨b,o,none⟩=some u
variable {W:World}
def Keep.ofExt {N:Ψ}{w:World}(h:A0 w W):Keep N w W:=λ_ _ _ _ l=>h.cell l
def Yl (P:Program)(N:Ψ)(w:World)(M:Ψ)(ρ:List AI)(s:Sem Value)(d:DV):Prop:=∃ v,(∀ W,Keep N w W -> s.run P W= .ok v W)/\ AJ M w d ρ v
variable {n:Nat}
def Ro {k:Nat}{o:DO}{p:AI}{Rw:Nat -> Value -> Prop}(R:AS P Γ N S ρ a w)(hk:S.h[k]? =some (some o))(g:ρ[k]? =some p)(i:AX w p n Rw): ¬ N p.blk:=(R.hr.cel k o p p.blk hk g (by rw [i.1])).2.1
variable {v:Value}{f:Nat -> DV}{m:Nat}
def bW (h:AJ M w (.fp m f) ρ v): ∃ b o,v= .pointer (some ⟨b,o,none⟩)/\ ∀ j,j<m -> ¬ M b/\ ∃ u,w.cell? ⟨b,o+j,none⟩=some u/\ AJ M w (f j) [] u:=h
variable {d:DV}
theorem Rp (h:AJ M w d [] v):AJ M w d ρ v:=h.out d ⟨λ_ _ _ _=>rfl,λ_ h=>.inl h,λk p hk=>by simp at hk⟩
def er {b:Addr}:(Instr.loadAt t (.pointer (some b))).run P W=(loadVar t b).run P W:=rfl
def Nl (X: ¬ N b)(a:GX P t=true)(l:w.cell? ⟨b,o,none⟩=some u)(i:AJ M w d ρ u):Yl P N w M ρ (Instr.loadAt t (.pointer (some ⟨b,o,none⟩))) d:=
 ⟨u,λW C=>by rw [er];exact zBv a (C _ _ _ X l),i⟩
def aB (X:0<i.size -> ¬ N b)(a:JC P t=true)(hi:P.info? t=some i)(h: ∀ j,j<i.size -> ∃ u,w.cell? ⟨b,o+j,none⟩=some u/\ AJ M w (f j) ρ u):
 Yl P N w M ρ (Instr.loadAt t (.pointer (some ⟨b,o,none⟩))) (.agg i.size f):=by
 obtain ⟨g,c⟩: ∃ g:Nat -> Value,∀ j,j<i.size -> w.cell? ⟨b,o+j,none⟩=some (g j)/\ AJ M w (f j) ρ (g j):=by
  refine ⟨λj=>(w.cell? ⟨b,o+j,none⟩).getD undef,λj d=>?_⟩
  grind
 refine ⟨_,λW C=>by rw [er];exact zBw a hi g λj d=>C _ _ _ (X (by omega)) (c j d).1,_,rfl,by simp,λj d=>?_⟩
 grind
def lx (h:Xb P t m=true):JC P t=true/\ ∃ i,P.info? t=some i/\ i.size=m:=by
 unfold Xb at h
 grind
variable {x:DV}
def sH (R:AS P Γ N S ρ a w){I:Prop}(E:AJ (MS N S.h ρ) w x ρ v)(h:Pe P S t x=some (d,I))(C:I):
 Yl P N w (MS N S.h ρ) ρ (Instr.loadAt t v) d:=by
 unfold Pe at h;split at h
 ·rename_i m f;obtain ⟨b,o,rfl,D⟩:=bW E;split at h
  ·rename_i g;split at h
   ·cases h
   ·cases h;obtain ⟨Y,u,y,s⟩:=D 0 (by omega);exact Nl (λh=>Y (.inl h)) g y (Rp s)
  ·split at h
   ·rename_i z;cases h;obtain ⟨F,i,hi,rfl⟩:=lx z;exact aB (λq h=>(D 0 q).1 (.inl h)) F hi λj A=>let ⟨_,u,y,s⟩:=D j A;⟨u,y,Rp s⟩
   ·cases h
 ·rename_i k j;obtain ⟨p,q,rfl⟩:=E;split at h
  ·rename_i l hk;obtain ⟨p',U,r⟩:=R.hr.obj k _ hk;have e:p'=p:=zGJ (U.symm.trans q);subst e;split at h
   ·rename_i g;split at h
    ·rename_i A;cases h;obtain ⟨u,y,s⟩:=AX.cell r A;exact Nl (Ro R hk q r) g y s
    ·cases h
   ·split at h
    ·rename_i i hi;split at h
     ·rename_i z;cases h;simp only [zEh,zHx] at z;refine aB (λ_=>Ro R hk q r) z.1 hi λc D=>?_
      obtain ⟨u,y,s⟩:=AX.cell r (j:=j+c) (by omega)
      grind [Ir]
     ·cases h
    ·cases h
  ·rename_i l hk;obtain ⟨p',U,_,J,r⟩:=R.hr.obj k _ hk;have e:p'=p:=zGJ (U.symm.trans q);subst e;split at h
   ·rename_i g;split at h
    ·rename_i A;cases h;obtain ⟨u,y,s⟩:=AX.cell r A;exact Nl (λh=>J (.inl h)) g y s
    ·cases h
   ·split at h
    ·rename_i i hi;split at h
     ·rename_i z;cases h;simp only [zEh,zHx] at z;refine aB (λ_ h=>J (.inl h)) z.1 hi λc D=>?_
      obtain ⟨u,y,s⟩:=AX.cell r (j:=j+c) (by omega)
      grind [Ir]
     ·cases h
    ·cases h
  ·cases h
 ·rename_i k m i j;obtain ⟨p,q,rfl⟩:=E;split at h
  ·rename_i l hk;obtain ⟨p',U,r⟩:=R.hr.obj k _ hk;have e:p'=p:=zGJ (U.symm.trans q);subst e;split at h
   ·rename_i g;cases h;simp only [zEh,zGk] at g;obtain ⟨⟨g,rfl⟩,rfl⟩:=g;obtain ⟨u,y,s⟩:=AX.cell r C;exact Nl (Ro R hk q r) g (by simpa using y) s
   ·cases h
  ·rename_i l hk;obtain ⟨p',U,r⟩:=R.hr.obj k _ hk;have e:p'=p:=zGJ (U.symm.trans q);subst e;split at h
   ·rename_i g;cases h;simp only [zEh,zGk] at g;obtain ⟨⟨g,rfl⟩,rfl⟩:=g;obtain ⟨u,y,s⟩:=AX.cell r C;exact Nl (Ro R hk q r) g (by simpa using y) s
   ·cases h
  ·rename_i Z n f hk;obtain ⟨p',U,r⟩:=R.hr.obj k _ hk;have e:p'=p:=zGJ (U.symm.trans q);subst e
   have K: ∀ {i j:Nat},i<n -> j<Z -> i*Z+j<n*Z:=λ{i j} hi A=>by
    have:(i+1)*Z<=n*Z:=zI0 _ hi;rw [zMi] at this;omega
   have dv: ∀ {i j:Nat},j<Z -> (i*Z+j)/Z=i/\ (i*Z+j) % Z=j:=λ{i j} A=>by
    have hm:0<Z:=by omega
    simp_all [zI7,Nat.mul_add_div,Nat.mod_eq_of_lt]
   split at h
   ·rename_i g;cases h;simp only [zEh,zGk,zHx] at g;obtain ⟨⟨g,rfl⟩,A⟩:=g;obtain ⟨u,y,s⟩:=AX.cell r (K C A);rw [(dv A).1,(dv A).2] at s;exact Nl (Ro R hk q r) g y (Rp s)
   ·split at h
    ·rename_i z;cases h;simp only [zEh,zGk] at z;obtain ⟨⟨z,rfl⟩,rfl⟩:=z;obtain ⟨F,ti,hi,rfl⟩:=lx z;refine aB (λ_=>Ro R hk q r) F hi λc D=>?_
     obtain ⟨u,y,s⟩:=AX.cell r (K C D)
     grind [Rp]
    ·cases h
  ·rename_i n L lk hk;obtain ⟨p',U,vs,B⟩:=R.hr.obj k _ hk;have e:p'=p:=zGJ (U.symm.trans q);subst e;split at h
   ·rename_i g;cases h;simp only [zEh,zGk] at g;obtain ⟨⟨g,rfl⟩,rfl⟩:=g;obtain ⟨cs,M,O,Q,T,G⟩:=B.row;have hi:i<vs.size:=by rw [B.size];exact C
    have H:=G i C;rw [zIe hi] at H;refine Nl (u:=vs[i]) (R.hr.cel k _ p' p'.blk hk q B.blk).2.1 g ?_ ⟨p',vs,q,B.val,zIe hi⟩
    grind [World.cell?]
   ·cases h
  ·rename_i L hk;obtain ⟨p',U,vs,B⟩:=R.hr.obj k _ hk;have e:p'=p:=zGJ (U.symm.trans q);subst e;split at h
   ·rename_i g;cases h;simp only [zEh,zGk] at g;obtain ⟨⟨g,rfl⟩,rfl⟩:=g;obtain ⟨cs,M,O,Q,T,G⟩:=B.row;have hi:i+1<vs.size:=by rw [B.size];omega
    have H:=G i C;rw [zIe hi] at H;refine Nl (u:=vs[i+1]) (R.hr.cel k _ p' p'.blk hk q B.blk).2.1 g ?_ ⟨p',vs,q,B.val,zIe hi⟩
    grind [World.cell?]
   ·cases h
  ·cases h
 ·cases h
variable {s:Sem Value}
def Yl.pure (h: ∀ W,s.run P W= .ok v W)(i:AJ M w d ρ v):Yl P N w M ρ s d:=⟨v,λW _=>h W,i⟩
def vH (h:Qd P t m=true):P.underlying t=some (.slice (P.elem t))/\ (∃ i,P.info? (P.elem t)=some i/\ i.size=m)/\ m≠0:=by
 unfold Qd at h;split at h
 ·rename_i e J;have:P.elem t=e:=by unfold Program.elem;rw [J]
  grind
 ·cases h
def lX (h:XY P t=some (n,m)):P.underlying t=some (.array (P.arrayLen t) (P.elem t))/\ P.arrayLen t=n/\ ∃ i,P.info? (P.elem t)=some i/\ i.size=m:=by
 unfold XY at h;split at h
 ·rename_i W e J;have h1:P.elem t=e:=by unfold Program.elem;rw [J]
  have h2:P.arrayLen t=W:=by unfold Program.arrayLen;rw [J]
  grind
 ·cases h
theorem KZ (b o n:Nat):Addr.add ⟨b,o,none⟩ n=⟨b,o+n,none⟩:=by
 grind [Addr.add]
variable {k:IntKind}
def Yu {len cap:Nat}{n:Int}(h:Qd P t m=true)(h1:0<=n)(h2:n<len)(W:World):
 (Instr.indexAt t (.slice (some ⟨b,o,none⟩) len cap) (.int k n)).run P W= .ok (.pointer (some ⟨b,o+n.toNat*m,none⟩)) W:=by
 obtain ⟨hu,⟨i,hi,rfl⟩,_⟩:=vH h
 simp_all [run_indexAt_slice,Kq,KZ]
def zGG (R:AS P Γ N S ρ a w){C:Prop}{n:Int}(q:AJ (MS N S.h ρ) w x ρ v)(h:iP P t x n=some (d,C))(g:C):
 Yl P N w (MS N S.h ρ) ρ (Instr.indexAt t v (.int k n)) d:=by
 unfold iP at h;split at h
 ·rename_i l;obtain ⟨E,cap,rfl,y,z,r⟩:=q;split at h
  ·rename_i J;cases h;obtain ⟨b,o,rfl,Y,A⟩:=r n.toNat (by omega);refine Yl.pure (λW=>Yu J g.1 g.2 W) ⟨b,o+n.toNat*1,rfl,λj B=>⟨Y,_,?_,rfl⟩⟩
   grind
  ·cases h
 ·rename_i l;obtain ⟨E,cap,rfl,y,z,r⟩:=q;split at h
  ·rename_i J;cases h;obtain ⟨b,o,rfl,Y,A⟩:=r n.toNat (by omega);refine Yl.pure (λW=>Yu J g.1 g.2 W) ⟨b,o+n.toNat*1,rfl,λj B=>⟨Y,_,?_,rfl⟩⟩
   grind
  ·cases h
 ·rename_i m c f;obtain ⟨E,cap,rfl,y,z,r⟩:=q;split at h
  ·rename_i J;cases h;have hm:=(vH J).2;obtain ⟨b,o,u,rfl,Y,A,hr⟩:=r n.toNat 0 (by omega) (by omega);refine Yl.pure (λW=>Yu J g.1 g.2 W) ⟨b,o+n.toNat*m,rfl,λj B=>?_⟩;obtain ⟨b',o',u',e,hM',JP,CG⟩:=r n.toNat j (by omega) B
   grind
  ·cases h
 ·rename_i F m off c;obtain ⟨p,cap,s,rfl,y,z,r⟩:=q;split at h
  ·rename_i J;cases h;exact Yl.pure (λW=>Yu J g.1 g.2 W) ⟨p,s,by grind⟩
  ·cases h
 ·rename_i F j;obtain ⟨p,s,rfl⟩:=q;split at h
  ·rename_i len G D;cases h;obtain ⟨H,I,i,hi,rfl⟩:=lX D;refine Yl.pure (λW=>?_) ⟨p,s,rfl⟩
   simp_all [run_indexAt_array,Kq,KZ]
  ·cases h
 ·rename_i F m i0;obtain ⟨p,s,rfl⟩:=q;split at h
  ·rename_i len G D;split at h
   ·rename_i K;subst K;cases h;obtain ⟨H,I,i,hi,rfl⟩:=lX D;refine Yl.pure (λW=>?_) ⟨p,s,rfl⟩
    simp_all [run_indexAt_array,Kq,KZ,zMZ]
   ·cases h
  ·cases h
 ·rename_i m f;obtain ⟨b,o,rfl,A⟩:=bW q;split at h
  ·rename_i len G D;split at h
   ·rename_i K;cases h;obtain ⟨H,I,i,hi,rfl⟩:=lX D;refine Yl.pure (λW=>?_) ⟨b,o+n.toNat*i.size,rfl,λj B=>?_⟩
    ·simp_all [run_indexAt_array,Kq,KZ]
    ·obtain ⟨Y,u,y,z⟩:=A (n.toNat*i.size+j) (by omega)
     grind [Ir]
   ·cases h
  ·cases h
 ·cases h
def zB2 {S:BinOp}{x y:Int}{a:Prop}(t:TypeId)(h:cg S k x y=some (d,a))(M:Ψ):Yl P N w M ρ (binOp S t (.int k x) (.int k y)) d:=by
 cases S <;> simp only [cg,zHz,zIP,reduceCtorEq] at h <;> obtain ⟨rfl,-⟩:=h
 ·exact Yl.pure (λW=>by rw [binOp_add];rfl) rfl
 ·exact Yl.pure (λW=>by rw [binOp_sub];rfl) rfl
 ·exact Yl.pure (λW=>by rw [binOp_mul];rfl) rfl
 ·exact Yl.pure (λW=>by rw [binOp_and];rfl) rfl
 ·exact Yl.pure (λW=>by rw [binOp_or];rfl) rfl
 ·exact Yl.pure (λW=>by rw [binOp_xor];rfl) rfl
 ·exact Yl.pure (λW=>by rw [binOp_andNot];rfl) rfl
 ·exact Yl.pure (λW=>by rw [binOp_eql];rfl) rfl
 ·exact Yl.pure (λW=>by rw [binOp_neq];rfl) rfl
 ·exact Yl.pure (λW=>by rw [binOp_lss];rfl) rfl
 ·exact Yl.pure (λW=>by rw [binOp_leq];rfl) rfl
 ·exact Yl.pure (λW=>by rw [binOp_gtr];rfl) rfl
 ·exact Yl.pure (λW=>by rw [binOp_geq];rfl) rfl
theorem zJ4 {S:BinOp}{x y:Operand}{n:Int}:eqGuard S t x y (.int k n) v=pure ():=by
 cases S <;> rfl
def zLV {S:BinOp}{y:DV}{g Q:Value}{u:Prop}(j m:Operand)(f:AJ M w x ρ g)(hy:AJ M w y ρ Q)(h:ck (Td P t) S x y=some (d,u))(p:u):
 Yl P N w M ρ (do eqGuard S t j m g Q;binOp S t g Q) d:=by
 have key: ∀ {k v:IntKind} {n A:Int},g= .int k n -> Q= .int v A -> Yl P N w M ρ (binOp S t (.int k n) (.int v A)) d -> Yl P N w M ρ (do eqGuard S t j m g Q;binOp S t g Q) d:=by
  grind [zJ4]
 have B:Td P t=1 -> P.underlying t=some .bool:=λh=>by
  grind [Td]
 have q:Td P t=2 -> ∃ e,P.underlying t=some (.slice e):=λh=>by
  grind [Td]
 have C: ∀ {e:TypeId} {a:Addr} {l c:Nat} (W:World),P.underlying t=some (.slice e) -> (do eqGuard .eql t j m (.slice (some a) l c) (.slice none 0 0);binOp .eql t (.slice (some a) l c) (.slice none 0 0):Sem Value).run P W= .ok (.bool false) W:=by
  simp_all [eqGuard,binOp,run_equal_slice_nil]
 have r: ∀ {e:TypeId} {a:Addr} {l c:Nat} (W:World),P.underlying t=some (.slice e) -> (do eqGuard .neq t j m (.slice (some a) l c) (.slice none 0 0);binOp .neq t (.slice (some a) l c) (.slice none 0 0):Sem Value).run P W= .ok (.bool true) W:=by
  simp_all [eqGuard,binOp,run_equal_slice_nil]
 unfold ck at h;split at h
 ·split at h
  ·rename_i e;cases h;have s:g= .bool _:=f;have z:Q= .bool _:=hy;subst s;subst z;exact Yl.pure (λW=>run_eql_bool W t _ _ (B e)) rfl
  ·cases h
 ·split at h
  ·rename_i e;cases h;have s:g= .bool _:=f;have z:Q= .bool _:=hy;subst s;subst z;exact Yl.pure (λW=>run_neq_bool W t _ _ (B e)) rfl
  ·cases h
 ·split at h
  ·rename_i e;cases h;obtain ⟨G,J⟩:=q e;obtain ⟨D,cap,rfl,E,F,i⟩:=f;obtain ⟨b,o,rfl,_⟩:=i 0 p;have z:Q= .slice none 0 0:=hy;subst z;exact Yl.pure (λW=>C W J) rfl
  ·cases h
 ·split at h
  ·rename_i e;cases h;obtain ⟨G,J⟩:=q e;obtain ⟨D,cap,rfl,E,F,i⟩:=f;obtain ⟨b,o,rfl,_⟩:=i 0 p;have z:Q= .slice none 0 0:=hy;subst z;exact Yl.pure (λW=>C W J) rfl
  ·cases h
 ·split at h
  ·rename_i e;cases h;obtain ⟨G,J⟩:=q e;obtain ⟨D,cap,rfl,E,F,i⟩:=f;obtain ⟨b,o,rfl,_⟩:=i 0 p;have z:Q= .slice none 0 0:=hy;subst z;exact Yl.pure (λW=>r W J) rfl
  ·cases h
 ·cases h;refine key f hy ?_;exact Yl.pure (λW=>by simp_all [binOp_shl,shift_shl]) rfl
 ·cases h;refine key f hy ?_;exact Yl.pure (λW=>by simp_all [binOp_shr,shift_shr]) rfl
 ·split at h
  ·rename_i e;subst e;cases h;exact key f hy (Yl.pure (λW=>by rw [binOp_quo,Op.intDiv,zGN p];rfl) rfl)
  ·cases h
 ·split at h
  ·rename_i e;subst e;cases h;exact key f hy (Yl.pure (λW=>by rw [binOp_rem,Op.intDiv,zGN p];rfl) rfl)
  ·cases h
 ·split at h
  ·rename_i e;subst e;exact key f hy (zB2 t h M)
  ·cases h
 ·cases h
variable {ρ':Operand -> Value}
def H5 {o:Oper}(J:execOp ρ' o=(do pure (.value (←s))))(h:Yl P N w M ρ s d): ∃ v,(∀ W,Keep N w W -> (execOp ρ' o).run P W= .ok (.value v) W)/\ AJ M w d ρ v:=by
 obtain ⟨v,a,b⟩:=h;refine ⟨v,λW C=>?_,b⟩;rw [J,zGu,a W C];rfl
variable {off:Nat}
def zJr {s:TypeId}{f a:Nat}(h:bg P s f=some (off,a)): ∃ m w i,P.underlying s=some (.struct m)/\ m[f]? =some w/\ w.offset=off/\ P.info? w.type=some i/\ i.size=a/\ a≠0:=by
 unfold bg at h
 grind
def e9 {s:TypeId}{f a:Nat}(h:bg P s f=some (off,a))(W:World):(Instr.fieldAt s (.pointer (some ⟨b,o,none⟩)) f).run P W= .ok (.pointer (some ⟨b,o+off,none⟩)) W:=by
 obtain ⟨fs,fd,i,h1,h2,rfl,h4,rfl,h6⟩:=zJr h
 simp_all [Instr.fieldAt,zGs,Instr.sureAddr,fieldPlace,Kq,KZ]
def zFr (h:iI P t=some k):P.underlying t=some (.int k):=by
 grind [iI]
variable {ty:TypeId}
def Uu {e:TypeId}{j:Option Addr}{c:Nat}(h:P.underlying t=some (.slice e))(W:World):(Builtin.len_ #[t] ty #[.slice j n c]).run P W= .ok (.int .i64 n) W:=by
 simp [Builtin.len_,zGs h,goInt]
def zBx {s:ByteArray}(h:P.underlying t=some .string)(W:World):(Builtin.len_ #[t] ty #[.string s]).run P W= .ok (.int .i64 s.size) W:=by
 simp [Builtin.len_,zGs h,goInt]
variable {c:Call}
def kZ {o:Oper}{b:Builtin}(ho:o.op= .call c)(hc:c.callee= .builtin b) 
 (hb:builtin b c.argTypes o.type (c.args.map λ| .const _=>true | _=>false) (c.args.map ρ')=(do pure (.value (←s)))) (h:Yl P N w M ρ s d):
 ∃ v,(∀ W,Keep N w W -> (execOp ρ' o).run P W= .ok (.value v) W)/\ AJ M w d ρ v:=by
 refine H5 (s:=s) ?_ h
 grind [execOp,resolve,invoke]
def zFJ {a:Prop}(e:AJ M w x ρ v)(h:aE P t x=some (d,a)):Yl P N w M ρ (Builtin.len_ #[t] ty #[v]) d:=by
 unfold aE at h;split at h
 ·rename_i R q;cases h;rw [show v=_ from e];exact Yl.pure (λW=>Uu q W) rfl
 ·rename_i R l q;cases h;obtain ⟨j,cap,rfl,_⟩:=e;exact Yl.pure (λW=>Uu q W) rfl
 ·rename_i R l q;cases h;obtain ⟨j,cap,rfl,_⟩:=e;exact Yl.pure (λW=>Uu q W) rfl
 ·rename_i R m n f q;cases h;obtain ⟨j,cap,rfl,_⟩:=e;exact Yl.pure (λW=>Uu q W) rfl
 ·rename_i R k m off n q;cases h;obtain ⟨p,cap,_,rfl,_⟩:=e;exact Yl.pure (λW=>Uu q W) rfl
 ·rename_i s q;cases h;rw [show v=_ from e];exact Yl.pure (λW=>zBx q W) rfl
 ·cases h
variable {α:Type}
theorem yO {l:Array α}{x:α}(h:l.toList= [x]):l= #[x]:=by cases l;simp at h;rw [h]
def Xy {l:Array α}{x y:α}(h:l.toList= [x,y]):l= #[x,y]:=by cases l;simp at h;rw [h]
theorem zLO (R:AS P Γ N S ρ a w)(o:Oper){b:Builtin}{i:Prop}(f:o.op= .call c)(l:c.callee= .builtin b)(h:ca P S b c.args.toList c.argTypes.toList=some (d,i)):
 ∃ v,(∀ W,Keep N w W -> (execOp a.eval o).run P W= .ok (.value v) W)/\ AJ (MS N S.h ρ) w d ρ v:=by
 have Q:=λx=>BW R x
 unfold ca at h;split at h
 ·split at h
  ·rename_i x D;split at h
   ·rename_i t ht;exact kZ (s:=Builtin.len_ #[t] o.type #[a.eval x]) f l (by grind [yO,builtin]) (zFJ (Q x) h)
   ·cases h
  ·cases h
 ·split at h
  ·rename_i x y D;have e:=Q x;have hy:=Q y;unfold gW at h;split at h
   ·rename_i k n j m g z;cases h;rw [g] at e;rw [z] at hy;refine kZ (s:=Builtin.max_ c.argTypes o.type #[a.eval x,a.eval y]) f l (by rw [Xy D];simp [builtin]) ?_;rw [show a.eval x=_ from e,show a.eval y=_ from hy];exact Yl.pure (λW=>by simp [Builtin.max_,Builtin.max2]) rfl
   ·cases h
  ·cases h
 ·split at h
  ·rename_i x y D;have e:=Q x;have hy:=Q y;unfold gV at h;split at h
   ·rename_i k n j m g z;cases h;rw [g] at e;rw [z] at hy;refine kZ (s:=Builtin.min_ c.argTypes o.type #[a.eval x,a.eval y]) f l (by rw [Xy D];simp [builtin]) ?_;rw [show a.eval x=_ from e,show a.eval y=_ from hy];exact Yl.pure (λW=>by simp [Builtin.min_,Builtin.min2]) rfl
   ·cases h
  ·cases h
 ·cases h
theorem qh (R:AS P Γ N S ρ a w)(o:Oper){D:Prop}(h:pop P S o.op=some (d,D))(C:D):
 ∃ v,(∀ W,Keep N w W -> (execOp a.eval o).run P W= .ok (.value v) W)/\ AJ (MS N S.h ρ) w d ρ v:=by
 have Q:=λx=>BW R x
 unfold pop at h;split at h
 ·rename_i x q;cases h;exact ⟨a.eval x,λW _=>by unfold execOp;rw [q];rfl,Q x⟩
 ·rename_i x q;cases h;exact ⟨a.eval x,λW _=>by unfold execOp;rw [q];rfl,Q x⟩
 ·rename_i c x y q;have B:=Q c;split at h
  ·rename_i e;cases h;rw [e] at B;exact ⟨a.eval x,λW _=>by unfold execOp;rw [q];simp only [show a.eval c= .bool true from B];rfl,Q x⟩
  ·rename_i e;cases h;rw [e] at B;exact ⟨a.eval y,λW _=>by unfold execOp;rw [q];simp only [show a.eval c= .bool false from B];rfl,Q y⟩
  ·cases h
 ·rename_i t x q;exact H5 (by unfold execOp;rw [q]) (sH R (Q x) h C)
 ·rename_i E t x y t' q;exact H5 (by unfold execOp;rw [q]) (zLV x y (Q x) (Q y) h C)
 ·rename_i E t x q;have l:=Q x;refine H5 (s:=Op.unary E (a.eval x)) (by unfold execOp;rw [q]) ?_;split at h
  ·rename_i b e;cases h;rw [e] at l;rw [show a.eval x= .bool b from l];exact Yl.pure (λW=>rfl) rfl
  ·rename_i k n e;cases h;rw [e] at l;rw [show a.eval x= .int k n from l];exact Yl.pure (λW=>rfl) rfl
  ·rename_i k n e;cases h;rw [e] at l;rw [show a.eval x= .int k n from l];exact Yl.pure (λW=>rfl) rfl
  ·cases h
 ·rename_i G H x q;have l:=Q x;split at h
  ·rename_i dd k I n J hd e;cases h;rw [e] at l;refine H5 (s:=convert G H (a.eval x)) (by unfold execOp;rw [q]) ?_;rw [show a.eval x= .int I n from l];refine Yl.pure (v:=.int k (k.wrap n)) (λW=>?_) rfl
   simp_all [convert,zGs,zFr,Conv.intToInt]
  ·cases h
 ·rename_i x q;have l:=Q x;split at h
  ·rename_i m f e;cases h;rw [e] at l;obtain ⟨b,F,r,z⟩:=bW l;exact ⟨_,λW _=>by simp_all [execOp],b,F,rfl,z⟩
  ·rename_i k j e;cases h;rw [e] at l;obtain ⟨p,A,r⟩:=l;exact ⟨_,λW _=>by simp_all [execOp],p,A,rfl⟩
  ·rename_i k m i j e;cases h;rw [e] at l;obtain ⟨p,A,r⟩:=l;exact ⟨_,λW _=>by simp_all [execOp],p,A,rfl⟩
  ·rename_i g m c e;cases h;rw [e] at l;obtain ⟨Y,r,z⟩:=l;exact ⟨_,λW _=>by simp_all [execOp],Y,rfl,z⟩
  ·cases h
 ·rename_i st x f q;have l:=Q x;split at h
  ·rename_i off sz M;refine H5 (s:=Instr.fieldAt st (a.eval x) f) (by unfold execOp;rw [q]) ?_;split at h
   ·rename_i m g e;split at h
    ·cases h;rw [e] at l;obtain ⟨b,F,r,z⟩:=bW l;rw [r];refine Yl.pure (λW=>e9 M W) ⟨b,_,rfl,λj K=>?_⟩;obtain ⟨L,u,O,g3⟩:=z (off+j) (by omega)
     grind [Ir]
    ·cases h
   ·rename_i k j e;cases h;rw [e] at l;obtain ⟨p,A,r⟩:=l;rw [r];exact Yl.pure (λW=>e9 M W) ⟨p,A,by rw [zMc]⟩
   ·rename_i k m i j e;cases h;rw [e] at l;obtain ⟨p,A,r⟩:=l;rw [r];exact Yl.pure (λW=>e9 M W) ⟨p,A,by rw [zMc,zMc]⟩
   ·cases h
  ·cases h
 ·rename_i t x i q;have hi:=Q i;split at h
  ·rename_i k n e;rw [e] at hi;refine H5 (s:=Instr.indexAt t (a.eval x) (a.eval i)) (by unfold execOp;rw [q]) ?_;rw [show a.eval i= .int k n from hi];exact zGG R (Q x) h C
  ·cases h
 ·rename_i x i q;have l:=Q x;split at h
  ·rename_i m f e;split at h
   ·rename_i hi;cases h;rw [e] at l;obtain ⟨cs,r,J,z⟩:=l;obtain ⟨u,L,O⟩:=z i hi;refine H5 (s:=Instr.extract (a.eval x) i) (by unfold execOp;rw [q]) ?_
    simp_all [Yl.pure,Instr.extract]
   ·cases h
  ·cases h
 ·rename_i g first c q
  split at h
  ·rename_i M;cases h;refine ⟨.func (.func g) #[] (c.map a.eval),λW _=>?_,c.map a.eval,rfl,by simp,λj K=>?_⟩
   ·simp_all [execOp,Instr.makeFunc]
   simp_all [Ir]
  ·cases h
 ·grind [zLO]
 ·cases h
end
abbrev zGL:=@List.all_eq_true
abbrev zGU:=@List.getElem?_eq_getElem
abbrev zGX:=@List.length_map
abbrev zGl:=@Int.le_refl
abbrev zGt:=@List.getElem_of_mem
abbrev zH0:=@List.length_replicate
abbrev zH1:=@List.getElem?_append_right
abbrev zIS:=@Nat.mul_one
abbrev zMR:=@Go.heap_alloc_new
abbrev zMV:=@Nat.div_lt_iff_lt_mul
abbrev zNN:=@List.flatMap_cons
abbrev zNO:=@Nat.mul_le_mul
def J1:DV -> Bool
 | .any=>false
 | .agg .. =>false
 | .tup .. =>false
 | .it _=>false
 | .mri .. =>false
 | _=>true
def KT:DV -> Option (List DV)
 | .agg m f=>some ((List.range m).map f)
 | .any=>none
 | .tup .. =>none
 | .it _=>none
 | .mri .. =>none
 | d=>some [d]
def Ry:DV -> Bool
 | .int .. =>true
 | .bool _=>true
 | .str _=>true
 | .nils=>true
 | .ints _=>true
 | .bools _=>true
 | .sl .. =>true
 | _=>false
section
variable {P:Program} {Γ:Au} {N:Ψ} {S:St} {ρ:List AI} {a:Act} {w:World}
variable {v:Value}{d:DV}{M:Ψ}
theorem Zt (h:J1 d=true)(a:AJ M w d ρ v):v.oneCell'=true/\ v.cells= #[v]:=by
 have key:(∀ cs,v≠.agg cs) -> (∀ cs,v≠.tuple cs) -> v.oneCell'=true/\ v.cells= #[v]:=λp q=>by
  cases v <;> first | exact ⟨rfl,rfl⟩ | exact absurd rfl (p _) | exact absurd rfl (q _)
 cases d with
 | any=>cases h
 | agg m f=>cases h
 | tup m f=>cases h
 | nils=>exact key (λcs e=>by rw [a] at e;cases e) (λcs e=>by rw [a] at e;cases e)
 | int k n=>exact key (λcs e=>by rw [a] at e;cases e) (λcs e=>by rw [a] at e;cases e)
 | bool b=>exact key (λcs e=>by rw [a] at e;cases e) (λcs e=>by rw [a] at e;cases e)
 | str s=>exact key (λcs e=>by rw [a] at e;cases e) (λcs e=>by rw [a] at e;cases e)
 | ints l=>obtain ⟨_,_,rfl,_⟩:=a;exact ⟨rfl,rfl⟩
 | bools l=>obtain ⟨_,_,rfl,_⟩:=a;exact ⟨rfl,rfl⟩
 | sl m n f=>obtain ⟨_,_,rfl,_⟩:=a;exact ⟨rfl,rfl⟩
 | fp m f=>obtain ⟨_,_,rfl,_⟩:=a;exact ⟨rfl,rfl⟩
 | ref k j=>obtain ⟨_,_,rfl⟩:=a;exact ⟨rfl,rfl⟩
 | msl k m off n=>obtain ⟨_,_,_,rfl,_⟩:=a;exact ⟨rfl,rfl⟩
 | mp k m i j=>obtain ⟨_,_,rfl⟩:=a;exact ⟨rfl,rfl⟩
 | fn g m c=>obtain ⟨_,rfl,_⟩:=a;exact ⟨rfl,rfl⟩
 | it k=>cases h
 | yl l=>exact key (λcs e=>by rw [a] at e;cases e) (λcs e=>by rw [a] at e;cases e)
 | mse k m o n=>obtain ⟨_,_,_,_,rfl,_⟩:=a;exact ⟨rfl,rfl⟩
 | mri k i=>cases h
 | cst u=>obtain ⟨rfl,r⟩:=a;cases v <;> first | exact ⟨rfl,rfl⟩ | (cases r;done)
variable {l:List DV}
def XA (h:KT d=some l)(a:AJ M w d ρ v):v.cells.size=l.length/\ ∀ j,j<l.length -> ∃ u,v.cells[j]? =some u/\ AJ M w (l.getD j .any) ρ u:=by
 have one:J1 d=true -> l= [d] -> v.cells.size=l.length/\ ∀ j,j<l.length -> ∃ u,v.cells[j]? =some u/\ AJ M w (l.getD j .any) ρ u:=by
  intro e p;subst p;rw [(Zt e a).2]
  grind
 cases d with
 | any=>cases h
 | tup m f=>cases h
 | it k=>cases h
 | yl l=>cases h;exact one rfl rfl
 | mse k m o n=>cases h;exact one rfl rfl
 | mri k i=>cases h
 | cst u=>exact one rfl (zGJ h).symm
 | agg m f=>
  cases h;obtain ⟨cs,rfl,hs,hc⟩:=a
  grind [Value.cells]
 | nils=>cases h;exact one rfl rfl
 | int k n=>cases h;exact one rfl rfl
 | bool b=>cases h;exact one rfl rfl
 | str s=>cases h;exact one rfl rfl
 | ints l=>cases h;exact one rfl rfl
 | bools l=>cases h;exact one rfl rfl
 | sl m n f=>cases h;exact one rfl rfl
 | fp m f=>cases h;exact one rfl rfl
 | ref k j=>cases h;exact one rfl rfl
 | msl k m off n=>cases h;exact one rfl rfl
 | mp k m i j=>cases h;exact one rfl rfl
 | fn g m c=>cases h;exact one rfl rfl
def fe (h:Ry d=true)(i:AJ M w d ρ v):AJ M w d [] v:=by
 cases d <;> first | exact i | (cases h;done)
structure CC (P:Program)(Γ:Au)(N:Ψ)(h:DH)(ρ:List AI)(w:World)(ext:Bool)(d:DV)(h':DH)(v:Value)(w':World):Prop where
 ex: ∃ ρ',Aq P Γ N h' ρ' w'/\ AJ (MS N h' ρ') w' d ρ' v/\ A3 h ρ w h' ρ' w'/\ (∀ (k:Nat) (p:AI),ρ[k]? =some p -> ρ'[k]? =some p)
 ext:ext=true -> A0 w w'
def BP (P:Program)(s:Sem Next)(w:World)(G:Value -> World -> Prop):Prop:= (∃ v w',s.run P w= .ok (.value v) w'/\ G v w')∨(∃ w',s.run P w= .ok .skip w'/\ G undef w')∨ (∃ f args w',s.run P w= .ok (.enter f args) w'/\ Calls P f args w' λe a=>∃ v,e= .returned v/\ G v a)
variable {w':World}{o:Oper}{ρ':Operand -> Value}{G:Value -> World -> Prop}
def BP.value {s:Sem Value}(J:execOp ρ' o=(do pure (.value (←s))))(h:s.run P w= .ok v w')(r:G v w'):BP P (execOp ρ' o) w G:=
 .inl ⟨v,w',by rw [J,zGu,h];rfl,r⟩
theorem BP.skip {s:Sem Unit}(J:execOp ρ' o=(do s;pure .skip))(h:s.run P w= .ok () w')(r:G undef w'):BP P (execOp ρ' o) w G:=
 .inr (.inl ⟨w',by rw [J,zGu,h];rfl,r⟩)
def E3 (w:World)(n:Nat):AI:=⟨w.heap.size,0,n,undef,λb=>b=w.heap.size⟩
variable {w1:World}{t:TypeId}{cs:Array Value}
def TB (H:Aq P Γ N S.h ρ w){o:DO}(G:A0 w w1/\ w1.heap.size=w.heap.size) 
 (x: ∀ M ρ',BQ (MS N S.h ρ) w ρ M (w1.alloc (.cells cs t)) ρ' -> EF P M (w1.alloc (.cells cs t)) ρ' (E3 w cs.size) o)
 (g: ∀ M ρ',ρ'[S.h.length]? =some (E3 w cs.size) -> AJ M (w1.alloc (.cells cs t)) d ρ' v) (ext:Bool):
 CC P Γ N S.h ρ w ext d (S.h++[some o]) v (w1.alloc (.cells cs t)):=by
 have C:A0 w (w1.alloc (.cells cs t)):=G.1.allocR _;have a: ∀ b,(E3 w cs.size).foot b -> w.heap.size<=b:=λb e=>Nat.le_of_eq (Eq.symm e)
 have e:(w1.alloc (.cells cs t)).heap[w.heap.size]? =some (.cells cs t (0,0)):=by grind [heap_alloc_new]
 refine ⟨⟨ρ++[E3 w cs.size],H.snoc C (λb f=>⟨a b f,.cells (c:=cs) (t:=t) (z:=(0,0)) (by rw [show b=w.heap.size from f];exact e)⟩) (x _ _ (BQ.snoc H C a)),?_,A3.snoc H C a,λk p hk=>Eo hk⟩,λ_=>C⟩;exact g _ _ (by rw [←H.len];simp)
variable {n:Nat}
def PB (a:w1.heap.size=w.heap.size){R:Nat -> Value -> Prop}(b:n<=cs.size)(hR: ∀ j,j<n -> ∃ u,cs[j]? =some u/\ R j u):AX (w1.alloc (.cells cs t)) (E3 w cs.size) n R:=by
 refine ⟨rfl,cs,t,?_,by simpa [E3] using b,zGT _,λj d=>by simpa [E3] using hR j d⟩
 show (w1.alloc (.cells cs t)).heap[w.heap.size]? =_
 rw [←a];exact zMR w1 _
variable {x:Operand}
theorem zLR (R:AS P Γ N S ρ a w)(h:KT (AZ S.fr x)=some l)(o:Oper)(b:o.op= .box t x)(ext:Bool):
 BP P (execOp a.eval o) w (CC P Γ N S.h ρ w ext (.ref S.h.length 0) (S.h++[some (.cells l)])):=by
 obtain ⟨h1,c⟩:=XA h (BW R x);refine BP.value (s:=Instr.box t (a.eval x)) (by unfold execOp;rw [b]) (v:=.pointer (some ⟨w.heap.size,0,none⟩)) (w':=w.alloc (.cells (a.eval x).cells t)) ?_ ?_
 ·rfl
 ·refine TB (d:=.ref S.h.length 0) R.hr ⟨A0.refl w,rfl⟩ (λM ρ' O=>?_) (λM ρ' g=>⟨_,g,rfl⟩) ext;refine PB rfl (by omega) λj e=>?_
  obtain ⟨u,f,i⟩:=c j e;exact ⟨u,f,i.out _ O⟩
variable {z:Value}{i:TypeInfo}
theorem zL0 (R:AS P Γ N S ρ a w)(hi:P.info? t=some i)(b:i.zero=some z)(o:Oper)(x:o.op= .alloc t)(ext:Bool):
 BP P (execOp a.eval o) w (CC P Γ N S.h ρ w ext (.ref S.h.length 0) (S.h++[some (.cells (z.cells.toList.map Nf))])):=by
 refine BP.value (s:=Instr.alloc t true (.tuple #[])) (by unfold execOp;rw [x]) (v:=.pointer (some ⟨w.heap.size,0,none⟩)) (w':=w.alloc (.cells z.cells t)) ?_ ?_
 ·simp [Instr.alloc,zeroValue,typeInfo,hi,b,newVar,newRow,newObj];rfl
 ·refine TB (d:=.ref S.h.length 0) R.hr ⟨A0.refl w,rfl⟩ (λM ρ' O=>?_) (λM ρ' g=>⟨_,g,rfl⟩) ext;refine PB rfl (by simp) λj hj=>?_
  grind [Zv]
def uz:Value -> Bool
 | .bool false=>true
 | _=>false
def dE (z:Value):Bool:=decide (2<z.cells.size)&&z.cells.toList.all uz
theorem zL1 (R:AS P Γ N S ρ a w)(hi:P.info? t=some i)(b:i.zero=some z)(c:dE z=true)(o:Oper)(x:o.op= .alloc t)(ext:Bool):
 BP P (execOp a.eval o) w (CC P Γ N S.h ρ w ext (.mp S.h.length 1 0 0) (S.h++[some (.bools (List.replicate z.cells.size false))])):=by
 refine BP.value (s:=Instr.alloc t true (.tuple #[])) (by unfold execOp;rw [x]) (v:=.pointer (some ⟨w.heap.size,0,none⟩)) (w':=w.alloc (.cells z.cells t)) ?_ ?_
 ·simp [Instr.alloc,zeroValue,typeInfo,hi,b,newVar,newRow,newObj];rfl
 ·refine TB (d:=.mp S.h.length 1 0 0) R.hr ⟨A0.refl w,rfl⟩ (λM ρ' O=>?_) (λM ρ' g=>⟨_,g,rfl⟩) ext;refine PB rfl (by simp) λj e=>?_
  have f:j<z.cells.size:=by simpa using e
  refine ⟨z.cells[j],by simp [f],?_⟩;simp only [dE,zEh,zGL] at c;have:=c.2 z.cells[j] (by simp)
  grind [uz]
inductive EK where
 | ints
 | bools
 | gen (m:Nat)
def Lc (P:Program)(t:TypeId):Option (EK×TypeId×TypeInfo×Value):=match P.underlying t with
 | some (.slice e)=>match P.info? e with
  | some i=>match i.zero with
   | some z=>if i.size=0 then none else if z.cells.size≠i.size then none else match P.underlying e with
    | some (.int .i64)=>if i.size=1 then (match z with | .int .i64 0=>some (.ints,e,i,z) | _=>none) else none
    | some .bool=>if i.size=1 then (match z with | .bool false=>some (.bools,e,i,z) | _=>none) else none
    | _=>some (.gen i.size,e,i,z)
   | none=>none
  | none=>none
 | _=>none
def EK.cells:EK -> Nat
 | .ints=>1
 | .bools=>1
 | .gen m=>m
variable {e:TypeId}{k:EK}
def Ww (h:Lc P t=some (k,e,i,z)):P.underlying t=some (.slice e)/\ P.info? e=some i/\ i.zero=some z/\ i.size≠0/\ z.cells.size=i.size/\ k.cells=i.size/\
 (k= .ints -> z= .int .i64 0)/\ (k= .bools -> z= .bool false):=by
 unfold Lc at h
 repeat' (split at h)
 all_goals first
  | (cases h;done)
  | skip
 all_goals
  simp only [zHz,zIP] at h;obtain ⟨rfl,rfl,rfl,rfl⟩:=h
  grind [EK.cells]
def kI {s:Nat}(a:0<s): ∀ (vs:List Value),(∀ v∈vs,v.cells.size=s) -> ∀ i j,i<vs.length -> j<s -> (vs.flatMap λv=>v.cells.toList)[i*s+j]? =(vs[i]?).bind (λv=>v.cells[j]?)
 | [],_,i,j,hi,_=>absurd hi (zGR i)
 | v::vs,p,i,j,hi,d=>by
  have q:v.cells.toList.length=s:=by simpa using p v (by simp)
  rw [zNN];cases i with
  | zero=>grind
  | succ i=>
   rw [zH1 (by rw [q,zMi];omega),q,show (i+1)*s+j-s=i*s+j by rw [zMi];omega];rw [kI a vs (λv h=>p v (by simp [h])) i j (by simpa using hi) d];simp
def Hy:DV -> Int
 | .int _ n=>n
 | _=>0
def cd:DV -> Bool
 | .bool b=>b
 | _=>false
def JA:DV -> Bool
 | .int .i64 _=>true
 | _=>false
def iG:DV -> Bool
 | .bool _=>true
 | _=>false
def Tc (k:EK)(ds:List DV):Option DO:=match k with
 | .ints=>if ds.all JA then some (.ints (ds.map Hy)) else none
 | .bools=>if ds.all iG then some (.bools (ds.map cd)) else none
 | .gen m=>if ds.all λd=>(match KT d with | some l=>l.length==m&&l.all Ry | none=>false) then
  some (.arr m ds.length (λi j=>match KT (ds.getD i .any) with | some l=>l.getD j .any | none=>.any)) else none
theorem aP (h:JA d=true)(i:AJ M w d ρ v):v= .int .i64 (Hy d):=by
 unfold JA at h;split at h
 ·exact i
 ·cases h
def zFo (h:iG d=true)(i:AJ M w d ρ v):v= .bool (cd d):=by
 unfold iG at h;split at h
 ·exact i
 ·cases h
def zLQ {ds:List DV}{o:DO}{vs:List Value}(hk:0<k.cells)(h:Tc k ds=some o)(H:vs.length=ds.length)(g: ∀ i,i<ds.length -> AJ M w (ds.getD i .any) ρ (vs.getD i undef)):
 (∀ v∈vs,v.cells.size=k.cells)/\ ∀ r (w':World) ρ',BQ M w ρ r w' ρ' -> ∀ (cs:Array Value) (t:TypeId) (p:AI),cs.toList=(vs.flatMap λv=>v.cells.toList) -> AX w' p (ds.length*k.cells) (λj u=>cs[j]? =some u) -> EF P r w' ρ' p o:=by
 have one: ∀ {j:Nat},k.cells=1 -> j<ds.length*k.cells -> (∀ v∈vs,v.cells.size=k.cells) -> ∀ {u},(vs.flatMap λv=>v.cells.toList)[j]? =some u -> (vs[j]?).bind (λv=>v.cells[0]?)=some u:=λ{j} n b a {u} x=>by
  rw [n] at b a;have:=kI (s:=1) (by omega) vs a j 0 (by omega) (by omega)
  grind
 have c: ∀ v∈vs,∃ i,i<ds.length/\ v=vs.getD i undef/\ vs[i]? =some v:=λv g=>by
  obtain ⟨i,hi,rfl⟩:=zGt g
  grind
 have E: ∀ i,i<ds.length -> ds.getD i .any∈ds:=λi hi=>by simp [hi]
 cases k with
 | ints=>
  simp only [Tc] at h;split at h
  ·rename_i D;cases h;have q: ∀ i,i<ds.length -> vs.getD i undef= .int .i64 (Hy (ds.getD i .any)):=λi hi=>aP (zGL.1 D _ (E i hi)) (g i hi)
   have a: ∀ v∈vs,v.cells.size=EK.ints.cells:=λv L=>by obtain ⟨i,hi,e,_⟩:=c v L;rw [e,q i hi];rfl
   refine ⟨a,λr w' ρ' O cs t p J f=>?_⟩;have z:ds.length*EK.ints.cells=(ds.map Hy).length:=by simp [EK.cells]
   rw [z] at f;refine AX.out f rfl λj u b x=>?_
   have A:j<ds.length:=by simpa using b
   have y:=one rfl (by simpa [EK.cells] using A) a (u:=u) (by rw [←J];simpa using x)
   grind [Value.cells]
  ·cases h
 | bools=>
  simp only [Tc] at h;split at h
  ·rename_i D;cases h;have q: ∀ i,i<ds.length -> vs.getD i undef= .bool (cd (ds.getD i .any)):=λi hi=>zFo (zGL.1 D _ (E i hi)) (g i hi)
   have a: ∀ v∈vs,v.cells.size=EK.bools.cells:=λv L=>by obtain ⟨i,hi,e,_⟩:=c v L;rw [e,q i hi];rfl
   refine ⟨a,λr w' ρ' O cs t p J f=>?_⟩;have z:ds.length*EK.bools.cells=(ds.map cd).length:=by simp [EK.cells]
   rw [z] at f;refine AX.out f rfl λj u b x=>?_
   have A:j<ds.length:=by simpa using b
   have y:=one rfl (by simpa [EK.cells] using A) a (u:=u) (by rw [←J];simpa using x)
   grind [Value.cells]
  ·cases h
 | gen m=>
  simp only [Tc] at h;split at h
  ·rename_i D;cases h;have B:0<m:=hk
   have q: ∀ i,i<ds.length -> ∃ l,KT (ds.getD i .any)=some l/\ l.length=m/\ (∀ d∈l,Ry d=true):=λi hi=>by
    grind
   have a: ∀ v∈vs,v.cells.size=(EK.gen m).cells:=λv L=>by
    obtain ⟨i,hi,e,_⟩:=c v L;obtain ⟨l,n,y,_⟩:=q i hi;rw [e,(XA n (g i hi)).1,y];rfl
   refine ⟨a,λr w' ρ' O cs t p J f=>?_⟩;refine AX.out f rfl λj u b x=>?_
   have C:j<ds.length*m:=b;have hi:j/m<ds.length:=by rw [zMV B];exact C
   have F:j % m<m:=Nat.mod_lt _ B;obtain ⟨l,n,y,I⟩:=q (j/m) hi;have G:=kI (s:=m) B vs a (j/m) (j % m) (by omega) F;rw [show j/m*m+j % m=j by rw [zI7];exact Nat.div_add_mod j m] at G;obtain ⟨_,K⟩:=XA n (g (j/m) hi);obtain ⟨N,Q,R⟩:=K (j % m) (by omega);have S:vs.getD (j/m) undef=vs[j/m]'(by omega):=by simp [H,hi]
   have T:j/m<vs.length:=by omega
   rw [zGU T] at G;rw [S] at Q
   have:u=N:=by
    grind
   subst this;simp only [n];refine AJ.out _ O.nil (fe (I _ ?_) R);simp [y,F]
  ·cases h
def fF (hs:w1.heap.size=w.heap.size)(a:cs.size=n):AX (w1.alloc (.cells cs t)) (E3 w n) n (λj u=>cs[j]? =some u):=by
 subst a
 simp_all [PB]
def cA (parts:List (Nat×Operand))(len:Nat):Bool:=parts.map (·.1)==List.range len
def zKS {parts:List (Nat×Operand)}{len:Nat}(h:cA parts len=true)(f:Operand -> Value):parts.length=len/\ (parts.map λx=>(x.1,f x.2))=((parts.map λx=>f x.2).zipIdx 0).map λx=>(x.2,x.1):=by
 simp only [cA,zGk] at h;have m:parts.length=len:=by have:=congrArg List.length h;simpa using this
 refine ⟨m,List.ext_getElem? λi=>?_⟩
 by_cases hi:i<parts.length
 ·have a:parts[i].1=i:=by
   have h2:=congrArg (λl:Θ=>l[i]?) h
   grind
  simp [hi,a]
 grind
theorem zLP (R:AS P Γ N S ρ a w){t:TypeId}{len:Nat}{parts:Array (Nat×Operand)}{k:EK}{e:TypeId}{i:TypeInfo}{z:Value}{ob:DO}(hk:Lc P t=some (k,e,i,z))(r:cA parts.toList len=true)(m:len<=65536/\ k.cells<=64) 
 (n:Tc k (parts.toList.map λx=>AZ S.fr x.2)=some ob) (o:Oper) (p:o.op= .buildSlice t len parts) (ext:Bool):
 BP P (execOp a.eval o) w (CC P Γ N S.h ρ w ext (.msl S.h.length k.cells 0 len) (S.h++[some ob])):=by
 obtain ⟨q,hi,u,h0,C7,Fd,_,_⟩:=Ww hk;obtain ⟨A,P9⟩:=zKS r a.eval;have b:=m.1;have zH8:=m.2;have X:0<k.cells:=by omega
 obtain ⟨hs,y⟩:=zLQ (w:=w) (M:=MS N S.h ρ) (ρ:=ρ) (vs:=parts.toList.map λx=>a.eval x.2) X n (by simp) (λj hj=>by
  grind [BW])
 have G5:(parts.toList.map λx=>a.eval x.2).length=len:=by simpa using A
 have T:((parts.toList.map λx=>a.eval x.2).flatMap λv=>v.cells.toList).toArray.size=len*k.cells:=by
  have: ∀ (l:List Value),(∀ v∈l,v.cells.size=k.cells) -> (l.flatMap λv=>v.cells.toList).length=l.length*k.cells:=by
   intro l
   induction l with
   | nil=>intro _;simp
   | cons v l ih=>grind
  grind
 refine BP.value (s:=Instr.buildSlice t len (parts.map λ(i,x)=>(i,a.eval x))) (by unfold execOp;rw [p]) (v:=.slice (some ⟨w.heap.size,0,none⟩) len len) (w':=w.alloc (.cells ((parts.toList.map λx=>a.eval x.2).flatMap λv=>v.cells.toList).toArray e)) ?_ ?_
 ·have c: ¬ len*i.size>2 ^ 24:=by
   have:len*i.size<=65536*64:=zNO b (by omega);omega
  by_cases B:len=0
  ·subst B
   have g:parts= #[]:=by
    grind
   subst g;have E5:Array.map (λ(x:Nat)=>(default:Value)) (Array.range 0)= #[]:=by simp [Array.range_zero']
   simp [Instr.buildSlice,zGs q,sizeOf,typeInfo,hi,newRow,Instr.fill,Array.range_zero']
  ·have f: ¬ len*i.size=0:=by rw [Nat.mul_eq_zero];omega
   refine run_buildSlice w t e len _ _ i z q hi u c f ?_;have e1:(parts.map λ(i,x)=>(i,a.eval x)).toList=parts.toList.map λx=>(x.1,a.eval x.2):=by simp
   grind [Great.fill_whole]
 ·have:=TB (d:=.msl S.h.length k.cells 0 len) (o:=ob) (v:=.slice (some ⟨w.heap.size,0,none⟩) len len) (cs:=((parts.toList.map λx=>a.eval x.2).flatMap λv=>v.cells.toList).toArray) (t:=e) R.hr ⟨A0.refl w,rfl⟩
   (λM ρ' O=>y _ _ _ O ((parts.toList.map λx=>a.eval x.2).flatMap λv=>v.cells.toList).toArray e _ rfl (by rw [T,zGX,A];exact fF (w:=w) (w1:=w) (t:=e) rfl T))
   (λM ρ' g=>⟨_,len,g,by simp [E3],zGT _,by unfold LB;omega,by simp only [E3];rw [T];omega⟩) ext
  exact this
def r9 (k:EK)(n:Nat)(z:Value):DO:=match k with
 | .ints=>.ints (List.replicate n 0)
 | .bools=>.bools (List.replicate n false)
 | .gen m=>.arr m n (λ_ j=>(z.cells.toList.map Nf).getD j .any)
theorem zEs (R:AS P Γ N S ρ a w){y:Operand}{g Y:IntKind}{n:Int}(hk:Lc P t=some (k,e,i,z))(C:AZ S.fr x= .int g n)(hy:AZ S.fr y= .int Y n) 
 (q:0<=n/\ n<=1000000000000) (Eb:i.bytes<=128) (o:Oper) (D:o.op= .makeSlice t x y) (ext:Bool):
 BP P (execOp a.eval o) w (CC P Γ N S.h ρ w ext (.msl S.h.length k.cells 0 n.toNat) (S.h++[some (r9 k n.toNat z)])):=by
 obtain ⟨F,hi,G,h0,H,Fd,l,f⟩:=Ww hk;have r:=q.1;have I:=q.2;have rx:=BW R x;have A:=BW R y;rw [C] at rx;rw [hy] at A;have J:(madeCells z.cells (n.toNat*i.size)).size=n.toNat*k.cells:=by rw [size_madeCells,Fd]
 refine BP.value (s:=Instr.makeSlice t (a.eval x) (a.eval y)) (by unfold execOp;rw [D]) (v:=.slice (some ⟨w.heap.size,0,none⟩) n.toNat n.toNat) (w':=w.alloc (.cells (madeCells z.cells (n.toNat*i.size)) e)) ?_ ?_
 ·rw [show a.eval x=_ from rx,show a.eval y=_ from A];refine run_make w t e i z F hi G g Y n n r (zGl _) ?_ (by omega);have:(i.bytes:Int)*n<=128*1000000000000:=Int.mul_le_mul (by omega) I r (by omega);omega
 ·refine TB (d:=.msl S.h.length k.cells 0 n.toNat) R.hr ⟨A0.refl w,rfl⟩ (λM ρ' O=>?_) (λM ρ' K=>⟨_,n.toNat,K,by simp [E3],zGT _,by unfold LB;omega,by simp only [E3];rw [J];omega⟩) ext;have b:=fF (w:=w) (w1:=w) (t:=e) rfl J;rw [J]
  have B: ∀ j u,j<n.toNat*k.cells -> (madeCells z.cells (n.toNat*i.size))[j]? =some u -> z.cells[j % z.cells.size]? =some u:=by
   grind [Nat.mod_lt,madeCells]
  cases k with
  | ints=>
   have p:=l rfl;subst p
   show AX _ _ (List.replicate n.toNat (0:Int)).length _
   rw [zH0];simp only [EK.cells,zIS] at b B ⊢;refine AX.out b rfl λj u c E=>?_
   have:=B j u c E;have L:j % (Value.cells (.int .i64 0)).size=0:=by simp [Value.cells,Nat.mod_one]
   grind [Value.cells]
  | bools=>
   have p:=f rfl;subst p
   show AX _ _ (List.replicate n.toNat false).length _
   rw [zH0];simp only [EK.cells,zIS] at b B ⊢;refine AX.out b rfl λj u c E=>?_
   have:=B j u c E;have L:j % (Value.cells (.bool false)).size=0:=by simp [Value.cells,Nat.mod_one]
   grind [Value.cells]
  | gen m=>
   refine AX.out b rfl λj u c E=>?_
   have h1:=B j u c E;have hm:m=z.cells.size:=by rw [H];exact Fd
   grind [Zv]
end
abbrev zGY:=@List.length_append
abbrev zGp:=@List.length_cons
abbrev zIg:=@List.nil_append
abbrev zIr:=@List.foldl_cons
abbrev zMv:=@Array.getElem?_modify
abbrev zMw:=@List.length_range
abbrev zNh:=@Nat.add_zero
section
variable {P:Program} {Γ:Au} {N:Ψ} {S:St} {ρ:List AI} {a:Act} {w:World} {h:DH}
def Ss (b:Nat)(t:TypeId)(z:Nat×Nat): ∀ (vs:List Value) (o:Nat) (w:World) (f:Array Value),w.heap[b]? =some (.cells f t z) -> o+vs.length<=f.size ->
 ∃ q,(w.setCells b o vs).heap[b]? =some (.cells q t z)/\ q.size=f.size/\ ∀ k,q[k]? =if o<=k/\ k<o+vs.length then vs[k-o]? else f[k]?
 | [],o,w,f,c,_=>⟨f,c,rfl,λk=>by grind⟩
 | v::vs,o,w,f,c,m=>by
  have Fc:o+(vs.length+1)<=f.size:=m;obtain ⟨q,a,d,h3⟩:=Ss b t z vs (o+1) (w.setCell ⟨b,o,none⟩ v) (f.setIfInBounds o v) (by simp [World.setCell,zMv,c]) (by simp;omega);refine ⟨q,a,by simpa using d,λk=>?_⟩
  grind
def RD (b:Nat): ∀ (vs:List Value) (o:Nat) (w:World),AQ (λk=>k=b) w (w.setCells b o vs)
 | [],_,w=>AQ.refl _ w
 | v::vs,o,w=>((AQ.refl (λk=>k=b) w).setCell (p:=⟨b,o,none⟩) (λ_=>rfl) v).trans (RD b vs (o+1) (w.setCell ⟨b,o,none⟩ v))
variable {o n:Nat}{R:Nat -> Value -> Prop}{p:AI}
def AX.writes {R':Nat -> Value -> Prop}(a:AX w p n R){vs:List Value}(hl:o+vs.length<=n)(h1: ∀ i v,vs[i]? =some v -> R' (o+i) v) 
 (h2: ∀ i u,i<n -> (i<o∨o+vs.length<=i) -> R i u -> R' i u):AX (w.setCells p.blk (p.off+o) vs) p n R':=by
 obtain ⟨b,cs,t,s,g3,g4,g5⟩:=a;obtain ⟨V,c,e2,e3⟩:=Ss p.blk t (0,0) vs (p.off+o) w cs s (by omega);refine ⟨b,V,t,c,by omega,by omega,λj hj=>?_⟩
 grind
def Oz (l:List DV)(o:Nat)(ds:List DV):List DV:=(ds.zipIdx).foldl (λcs x=>cs.set (o+x.2) x.1) l
def dp: ∀ (ds:List DV) (k o:Nat) (l:List DV),((ds.zipIdx k).foldl (λcs x=>cs.set (o+x.2) x.1) l).length=l.length/\
 ∀ j,j<l.length -> ((ds.zipIdx k).foldl (λcs x=>cs.set (o+x.2) x.1) l).getD j .any=if o+k<=j/\ j<o+k+ds.length then ds.getD (j-(o+k)) .any else l.getD j .any
 | [],k,o,l=>⟨rfl,λj _=>by
  simp_all [zGN]⟩
 | d::ds,k,o,l=>by
  obtain ⟨h1,h2⟩:=dp ds (k+1) o (l.set (o+k) d);rw [List.zipIdx_cons,zIr]
  grind
def dl (l:List DV)(o:Nat)(ds:List DV):(Oz l o ds).length=l.length:=(dp ds 0 o l).1
def dq (l:List DV)(o:Nat)(ds:List DV){j:Nat}(d:j<l.length):(Oz l o ds).getD j .any=if o<=j/\ j<o+ds.length then ds.getD (j-o) .any else l.getD j .any:=by
 have:=(dp ds 0 o l).2 j d;simpa [Oz] using this
def Ov (P:Program)(S:St)(t:TypeId)(x d:DV):Option (DH×Prop):=match x with
 | .ref k j=>match S.h[k]? with
  | some (some (.cells l))=>match KT d with
   | some ds=>if P.info? t |>.any (λi=>i.size==ds.length) then (if ds.all J1&&decide (j+ds.length<=l.length) then some (S.h.set k (some (.cells (Oz l j ds))),True) else none) else none
   | none=>none
  | _=>none
 | .mp k m i j=>if P.info? t |>.any (λi=>i.size==1) then match S.h[k]? with
  | some (some (.ints l))=>match d with
   | .int .i64 n=>if m==1&&j==0 then some (S.h.set k (some (.ints (l.set i n))),i<l.length) else none
   | _=>none
  | some (some (.bools l))=>match d with
   | .bool b=>if m==1&&j==0 then some (S.h.set k (some (.bools (l.set i b))),i<l.length) else none
   | _=>none
  | some (some (.arr Z n f))=>if Ry d&&(m==Z)&&decide (j<m) then some (S.h.set k (some (.arr m n (λv W=>if v=i/\ W=j then d else f v W))),i<n) else none
  | _=>none
  else none
 | _=>none
def zDa {d:DV}(h:Ry d=true):J1 d=true:=by cases d <;> first | rfl | cases h
variable {v:Value}{b:Nat}{i:TypeInfo}{t:TypeId}
def eo (hi:P.info? t=some i)(hs:v.cells.size=i.size)(hc: ∀ j,j<v.cells.size -> (w.cell? ⟨b,o+j,none⟩).isSome=true)(hf: ∀ j,w.frozen? ⟨b,j,none⟩=false)(h1: ∀ u∈v.cells.toList,u.oneCell'=true):
 (Instr.storeAt t (.pointer (some ⟨b,o,none⟩)) v).run P w= .ok () (w.setCells b o v.cells.toList):=by
 simp_all [run_storeCells_cells,Instr.storeAt,Instr.sureAddr,storeVar,Kq]
variable {k:Nat}
def YC (R:AS P Γ N S ρ a w){ob ob':DO}(hk:S.h[k]? =some (some ob))(g:ρ[k]? =some p){Rw:Nat -> Value -> Prop}(d:AX w p n Rw){o':Nat} 
 (hi:P.info? t=some i) (m:v.cells.size=i.size) (hl:o'+v.cells.size<=n) (r: ∀ u∈v.cells.toList,u.oneCell'=true)
 (y: ∀ M ρ' w',BQ (MS N S.h ρ) w ρ M w' ρ' -> w'=w.setCells p.blk (p.off+o') v.cells.toList -> EF P M w' ρ' p ob')
 (o:Oper) (tx x:Operand) (A:o.op= .store t tx x) (B:a.eval tx= .pointer (some ⟨p.blk,p.off+o',none⟩)) (C:a.eval x=v):
 BP P (execOp a.eval o) w (CC P Γ N S.h ρ w false .any (S.h.set k (some ob'))):=by
 have e:p.foot=λb=>b=p.blk:=d.1
 have q:AQ p.foot w (w.setCells p.blk (p.off+o') v.cells.toList):=by rw [e];exact RD _ _ _ _
 refine BP.skip (s:=Instr.storeAt t (a.eval tx) (a.eval x)) (by unfold execOp;rw [A]) (w':=w.setCells p.blk (p.off+o') v.cells.toList) ?_ ?_
 ·rw [B,C];refine eo hi m (λj hj=>?_) (λj=>d.frozen j) r;obtain ⟨u,D,_⟩:=d.cell (j:=o'+j) (by omega);rw [zMc,D];rfl
 ·have E: ∀ b,p.foot b -> EG (w.setCells p.blk (p.off+o') v.cells.toList) b:=λb f=>by
   rw [e] at f;obtain ⟨_,cs,l,F,g3,_⟩:=d;obtain ⟨c,G,_⟩:=Ss p.blk l (0,0) v.cells.toList (p.off+o') w cs F (by simp;omega);exact .cells (c:=c) (t:=l) (z:=(0,0)) (by rw [show b=p.blk from f];exact G)
  exact ⟨⟨ρ,R.hr.write hk g q E (y _ _ _ (BQ.write trivial hk g q) rfl),trivial,A3.write hk g q,λ_ _ h=>h⟩,λh=>by cases h⟩
def oA (R:AS P Γ N S ρ a w){tx x:Operand}{h':DH}{D:Prop}(r:Ov P S t (AZ S.fr tx) (AZ S.fr x)=some (h',D))(V:D)(o:Oper)(z:o.op= .store t tx x):
 BP P (execOp a.eval o) w (CC P Γ N S.h ρ w false .any h'):=by
 have rx:=BW R tx;have W:=BW R x;unfold Ov at r;split at r
 ·rename_i k j e;rw [e] at rx;obtain ⟨p,g,y⟩:=rx;split at r
  ·rename_i l hk;obtain ⟨p',U,b⟩:=R.hr.obj k _ hk;have e:p'=p:=zGJ (U.symm.trans g);subst e;split at r
   ·rename_i ds Z;split at r
    ·rename_i c;split at r
     ·rename_i E;cases r;simp only [zEh,zHx] at E;cases hi:P.info? t with
      | none=>rw [hi] at c;cases c
      | some i=>
       rw [hi] at c;have A:i.size=ds.length:=by simpa using c
       obtain ⟨c1,G⟩:=XA Z W
       have jJ: ∀ u∈(a.eval x).cells.toList,u.oneCell'=true:=λu d=>by
        obtain ⟨q,L,rfl⟩:=zGt d;have X:q<ds.length:=by rw [←c1];simpa using L
        obtain ⟨u,g1,H⟩:=G q X;have h3:=zGL.1 E.1 (ds.getD q .any) (by simp [X])
        grind [Zt]
       refine YC R hk g b hi (by omega) (o':=j) (by omega) jJ (λM ρ' w' O Y=>?_) o tx x z y rfl;subst Y
       show AX _ _ (Oz l j ds).length _
       rw [dl];refine AX.writes b (by simp;omega) (λq v L=>?_) (λq u L K d=>?_)
       ·have Sd:q<(a.eval x).cells.size:=by grind
        have X:q<ds.length:=by omega
        obtain ⟨u,g1,H⟩:=G q X
        have:u=v:=by
         grind
        subst this;rw [dq l j ds (by omega),zEZ (by omega),show j+q-j=q by omega];exact H.out _ O
       ·rw [dq l j ds L,zGN (by simp at K;omega)];exact d.out _ O
     ·cases r
    ·cases r
   ·cases r
  ·cases r
 ·rename_i k m i j e;rw [e] at rx;obtain ⟨p,g,y⟩:=rx;split at r
  ·rename_i c;cases hi:P.info? t with
   | none=>rw [hi] at c;cases c
   | some ti=>
    rw [hi] at c;have A:ti.size=1:=by simpa using c
    split at r
    ·rename_i l hk;obtain ⟨p',U,b⟩:=R.hr.obj k _ hk;have e:p'=p:=zGJ (U.symm.trans g);subst e;split at r
     ·rename_i n B;split at r
      ·rename_i s;cases r;simp only [zEh,zGk] at s;obtain ⟨rfl,rfl⟩:=s;rw [B] at W;have C:a.eval x= .int .i64 n:=W;refine YC R hk g b hi (v:=.int .i64 n) (by rw [A];rfl) (o':=i) (by simp [Value.cells];omega) (by simp [Value.cells,Value.oneCell']) (λM ρ' w' O Y=>?_) o tx x z (by simpa using y) C;subst Y
       show AX _ _ (l.set i n).length _
       rw [zGZ];refine AX.writes b (by simp [Value.cells];omega) (λq v L=>?_) (λq u L K d=>?_)
       ·grind [Value.cells]
       ·rw [d];simp only [Value.cells,zGp,zMp] at K
        grind
      ·cases r
     ·cases r
    ·rename_i l hk;obtain ⟨p',U,b⟩:=R.hr.obj k _ hk;have e:p'=p:=zGJ (U.symm.trans g);subst e;split at r
     ·rename_i n B;split at r
      ·rename_i s;cases r;simp only [zEh,zGk] at s;obtain ⟨rfl,rfl⟩:=s;rw [B] at W;have C:a.eval x= .bool n:=W;refine YC R hk g b hi (v:=.bool n) (by rw [A];rfl) (o':=i) (by simp [Value.cells];omega) (by simp [Value.cells,Value.oneCell']) (λM ρ' w' O Y=>?_) o tx x z (by simpa using y) C;subst Y
       show AX _ _ (l.set i n).length _
       rw [zGZ];refine AX.writes b (by simp [Value.cells];omega) (λq v L=>?_) (λq u L K d=>?_)
       ·grind [Value.cells]
       ·rw [d];simp only [Value.cells,zGp,zMp] at K
        grind
      ·cases r
     ·cases r
    ·rename_i m' n f hk;obtain ⟨p',U,b⟩:=R.hr.obj k _ hk;have e:p'=p:=zGJ (U.symm.trans g);subst e;split at r
     ·rename_i s;cases r;simp only [zEh,zGk,zHx] at s;obtain ⟨⟨I,rfl⟩,J⟩:=s;have D9:i<n:=V;obtain ⟨o1,F⟩:=Zt (zDa I) W
      have iM:i*m+j<n*m:=by
       have:(i+1)*m<=n*m:=zI0 _ D9;rw [zMi] at this;omega
      have AB:0<m:=by omega
      refine YC R hk g b hi (v:=a.eval x) (by rw [A,F];rfl) (o':=i*m+j) (by rw [F];simp;omega) (by rw [F];simp [o1]) (λM ρ' w' O Y=>?_) o tx x z y rfl;subst Y;refine AX.writes b (by rw [F];simp;omega) (λq v L=>?_) (λq u L K d=>?_)
      ·rw [F] at L;have:q=0:=by grind
       subst this;have:v=a.eval x:=by simpa using L.symm
       rw [this,zNh];have Q:(i*m+j)/m=i:=by rw [zI7,Nat.mul_add_div AB,Nat.div_eq_of_lt J,zNh]
       have T:(i*m+j) % m=j:=by rw [zI7,Nat.mul_add_mod,Nat.mod_eq_of_lt J]
       show AJ M _ (if (i*m+j)/m=i/\ (i*m+j) % m=j then AZ S.fr x else f ((i*m+j)/m) ((i*m+j) % m)) [] _
       rw [zEZ ⟨Q,T⟩];exact AJ.out _ O.nil (fe I W)
      ·rw [F] at K;simp at K
       have: ¬ (q/m=i/\ q % m=j):=λ⟨Q,T⟩=>by
        grind [Nat.div_add_mod,Nat.mul_comm]
       show AJ M _ (if q/m=i/\ q % m=j then AZ S.fr x else f (q/m) (q % m)) [] _
       rw [zGN this];exact AJ.out _ O.nil d
     ·cases r
    ·cases r
  ·cases r
 ·cases r
def MO.kill (c:MO (h.set k none) ρ b):MO h ρ b:=MO.unset c
def LX {i:Nat}{o:DO}(hi:(h.set k none)[i]? =some (some o)):i≠k/\ h[i]? =some (some o):=by
 grind
def Aq.kill (H:Aq P Γ N h ρ w)(k:Nat):Aq P Γ N (h.set k none) ρ w:=by
 have O:BQ (MS N h ρ) w ρ (MS N (h.set k none) ρ) w ρ:=⟨λ_ _ _ _=>rfl,λb e=>.inl (e.imp id MO.kill),λ_ _ h=>h⟩;refine ⟨by simp [H.len],λi o hi=>?_,λi o p b a c d=>H.cel i o p b (LX a).2 c d,λi v o o' p p' b D a c d A f g=>H.dis i v o o' p p' b D (LX a).2 (LX c).2 d A f g,H.nlt,H.gi⟩;obtain ⟨p,j,l⟩:=H.obj i o (LX hi).2;exact ⟨p,j,l.out O (S:=λ_=>False) (AQ.refl _ w) (λ_ h=>h.elim) (λ_ _ _ h=>h)⟩
def BQ.kill (k:Nat):BQ (MS N h ρ) w ρ (MS N (h.set k none) ρ) w ρ:=⟨λ_ _ _ _=>rfl,λb c=>.inl (c.imp id MO.kill),λ_ _ h=>h⟩
def A3.kill (k:Nat):A3 h ρ w (h.set k none) ρ w:=⟨AQ.refl _ w,λb c=>.inl (MO.kill c)⟩
def Aq.regrow (H:Aq P Γ N h ρ w){w':World}{o o':DO}{p':AI}(hk:h[k]? =some (some o))(j:ρ[k]? =some p)(l:AQ p.foot w w')(M: ∀ b,p'.foot b -> (p.foot b∨w.heap.size<=b)/\ EG w' b) 
 (E:EF P (MS N (h.set k none++[some o']) (ρ++[p'])) w' (ρ++[p']) p' o'):
 Aq P Γ N (h.set k none++[some o']) (ρ++[p']) w'/\ A3 h ρ w (h.set k none++[some o']) (ρ++[p']) w':=by
 have K:=H.kill k;have v:(h.set k none).length=h.length:=by simp
 have Y: ∀ b,p.foot b -> MO h ρ b:=λb hb=>⟨k,o,p,hk,j,hb⟩
 have r: ∀ {i:Nat} {o1:DO} {I:AI},(h.set k none++[some o'])[i]? =some (some o1) -> (ρ++[p'])[i]? =some I -> (i≠k/\ i<h.length/\ h[i]? =some (some o1)/\ ρ[i]? =some I)∨(i=h.length/\ o1=o'/\ I=p'):=by
  intro i o1 I d a;rcases EO d with ⟨m,d⟩ | ⟨m,d⟩
  ·rw [v] at m;rcases EO a with ⟨_,a⟩ | ⟨Q,_⟩
   ·grind
   ·rw [H.len] at Q;omega
  ·rw [v] at m;rcases EO a with ⟨Q,_⟩ | ⟨_,a⟩
   ·rw [H.len] at Q;omega
   grind
 have f: ∀ b,MO (h.set k none++[some o']) (ρ++[p']) b -> MO h ρ b∨w.heap.size<=b:=by
  rintro b ⟨i,o1,I,d,a,g⟩;rcases r d a with ⟨_,_,e,s⟩ | ⟨_,_,rfl⟩
  ·exact .inl ⟨i,o1,I,e,s,g⟩
  ·exact (M b g).1.imp (Y b) id
 have O:BQ (MS N h ρ) w ρ (MS N (h.set k none++[some o']) (ρ++[p'])) w' (ρ++[p']):=by
  refine ⟨λb hb F _=>l.block b hb λx=>F (.inr (Y b x)),λb hb=>?_,λi q hi=>Eo hi⟩;rcases hb with hb | hb
  ·exact .inl (.inl hb)
  ·exact (f b hb).imp .inr id
 refine ⟨⟨by simp [H.len],λi o1 hi=>?_,λi o1 I b d a g=>?_,λi G o1 L I p2 b D d a g R A B=>?_,λb hb=>⟨zGS (H.nlt b hb).1 l.size,(H.nlt b hb).2⟩,Γ.st _ _ H.gi (l.mono λb _ hb=>(H.cel k o p b hk j hb).1)⟩,⟨l.mono λb _ hb=>Y b hb,f⟩⟩
 ·rcases EO hi with ⟨m,hi⟩ | ⟨m,hi⟩
  ·obtain ⟨I,J,S⟩:=H.obj i o1 (LX hi).2;refine ⟨I,Eo J,S.out O l (λb hb=>.inr (Y b hb)) λb _ d a=>H.dis i k o1 o I p b (LX hi).1 (LX hi).2 hk J j d a⟩
  ·cases hi;exact ⟨p',by rw [m,v,←H.len];simp,E⟩
 ·rcases r d a with ⟨D,_,e,s⟩ | ⟨_,_,rfl⟩
  ·obtain ⟨e1,n,c,t,z,C⟩:=H.cel i o1 I b e s g;exact ⟨e1,n,c,t,z,(l.block b (zGI.1 C).1 λx=>H.dis i k o1 o I p b D e hk s j g x).trans C⟩
  ·obtain ⟨e1,n⟩:=M b g;rcases e1 with e1 | e1
   ·obtain ⟨T,U,_⟩:=H.cel k o p b hk j e1;exact ⟨T,U,n⟩
   ·exact ⟨zGK (Γ.lo _ H.gi) e1,λV=>by have:=H.nlt b V;omega,n⟩
 ·have key: ∀ {i o1 I},i≠k -> h[i]? =some (some o1) -> ρ[i]? =some I -> I.foot b -> p'.foot b -> False:=λ{i o1 I} D e s u y=>by
   rcases (M b y).1 with e1 | e1
   ·exact H.dis i k o1 o I p b D e hk s j u e1
   ·have:=H.lt (.inr ⟨i,o1,I,e,s,u⟩);omega
  rcases r d g with ⟨W,_,e,s⟩ | ⟨e1,_,rfl⟩
  ·rcases r a R with ⟨_,_,u,y⟩ | ⟨_,_,rfl⟩
   ·exact H.dis i G o1 L I p2 b D e u s y A B
   ·exact key W e s A B
  grind
def JW (n:Nat)(R:Nat -> Value -> Prop)(A:List Value)(j:Nat)(u:Value):Prop:=if j<n then R j u else A[j-n]? =some u
variable {A:List Value}{c:Nat}{Q z:Value}{ty e:TypeId}
def lY (q:P.underlying t=some (.slice e))(hi:P.info? e=some i)(v:i.zero=some z)(LL:i.size≠0)(C:z.cells.size=i.size)(S:i.bytes<=128) 
  {cap:Nat}  (f:AX w p (n*i.size) R) (QL:n<=cap) (Z:p.off+cap*i.size<=p.room)
    (hy:Src P i.size t Q c A w) (a:n+c<=1000000000000):
 ∃ w' p' h,(Builtin.append_ #[t,t] ty #[.slice (some ⟨p.blk,p.off,none⟩) n cap,Q]).run P w= .ok (.slice (some ⟨p'.blk,p'.off,none⟩) (n+c) h) w'/\ n+c<=h/\ p'.off+h*i.size<=p'.room/\
  AQ p.foot w w'/\ (∀ b,p'.foot b -> p.foot b∨w.heap.size<=b)/\ AX w' p' ((n+c)*i.size) (JW (n*i.size) R A):=by
 have m:A.length=c*i.size:=hy.newsLen
 by_cases r:n+c<=cap
 ·obtain ⟨k,cs,o,l,g3,g4,g5⟩:=f;have s:(n+c)*i.size<=cap*i.size:=zI0 _ r;rw [zMZ] at s;have x:p.off+n*i.size+A.length<=cs.size:=by omega
  refine ⟨w.setCells p.blk (p.off+n*i.size) A,p,cap,run_append_room_src w t t ty e i q hi p.blk p.off n cap Q c A hy r (λj d=>?_) (λj _=>by unfold World.frozen?;simp [l]),r,Z,?_,λb a=>.inl a,?_⟩
  ·grind [World.cell?]
  ·rw [k];exact RD _ _ _ _
  ·obtain ⟨V,y,e2,B⟩:=Ss p.blk o (0,0) A (p.off+n*i.size) w cs l x;refine ⟨k,V,o,y,by rw [zMZ];omega,by omega,λj d=>?_⟩;rw [zMZ] at d;rw [B]
   by_cases hjn:j<n*i.size
   ·rw [zGN (by omega)]
    simp_all [JW]
   ·rw [zEZ (by omega)];have AU:j-n*i.size<A.length:=by omega
    refine ⟨A[j-n*i.size],by grind,?_⟩
    simp_all [JW,zGN]
 ·obtain ⟨g,hg⟩: ∃ g:Nat -> Value,∀ j,j<n*i.size -> w.cell? ⟨p.blk,p.off+j,none⟩=some (g j)/\ R j (g j):=by
   refine ⟨λj=>(w.cell? ⟨p.blk,p.off+j,none⟩).getD undef,λj d=>?_⟩;obtain ⟨u,D,E⟩:=f.cell d;simp [D,E]
  have F:(Builtin.firstCells i.size n (.slice (some ⟨p.blk,p.off,none⟩) n cap)).run P w.drew= .ok (((List.range (n*i.size)).map g).toArray) w.drew:=by
   simp_all [run_loadCells,KZ,Builtin.firstCells]
  have zH2:(n+c)*i.bytes<=1000000000000*128:=zNO a S;have G:=run_append_grow_src (P:=P) w t t ty e i z q hi v (some ⟨p.blk,p.off,none⟩) n cap _ F Q c A hy (by omega) (by omega) (growslice_fits (by omega) (by omega));have H:n+c<=grownCap w (n+c) cap e:=grownCap_ge w (n+c) cap e
  have J:((((List.range (n*i.size)).map g)++A).toArray++Builtin.zeroCells z.cells (grownCap w (n+c) cap e-(n+c))).size=grownCap w (n+c) cap e*i.size:=by
   simp only [Array.size_append,List.size_toArray,zGY,zGX,zMw,m,size_zeroCells,C,←zMZ]
   congr 1;omega
  refine ⟨_,E3 w (grownCap w (n+c) cap e*i.size),grownCap w (n+c) cap e,G,H,by simp [E3],?_,λb a=>.inr (Nat.le_of_eq (Eq.symm a)),?_⟩
  ·exact AQ.ofExt ((A0.toDrew w).allocR _)
  ·refine AX.out (fF (w:=w) (w1:=w.drew) (t:=e) (cs:=(((List.range (n*i.size)).map g)++A).toArray++Builtin.zeroCells z.cells (grownCap w (n+c) cap e-(n+c))) rfl J |>λf=>?_) rfl (R:=λj u=>((((List.range (n*i.size)).map g)++A).toArray++Builtin.zeroCells z.cells (grownCap w (n+c) cap e-(n+c)))[j]? =some u) λj u d DG=>?_
   ·obtain ⟨I,cs,o,K,q3,L,M⟩:=f;have BU:(n+c)*i.size<=grownCap w (n+c) cap e*i.size:=zI0 _ H;exact ⟨I,cs,o,K,by omega,L,λj d=>M j (by omega)⟩
   ·rw [zMZ] at d;unfold JW
    grind
def ld (a:Option Addr:=none)(q:P.underlying t=some (.slice e))(hi:P.info? e=some i)(v:i.zero=some z)(C:z.cells.size=i.size)(S:i.bytes<=128) 
    (hy:Src P i.size t Q c A w) (hc:0<c) (b:c<=1000000000000):
 ∃ w' g,(Builtin.append_ #[t,t] ty #[.slice a 0 0,Q]).run P w= .ok (.slice (some ⟨w.heap.size,0,none⟩) c g) w'/\ c<=g/\ ∃ cs,w'=w.drew.alloc (.cells cs e)/\ cs.size=g*i.size/\ ∀ j,j<c*i.size -> cs[j]? =A[j]? :=by
 have d:A.length=c*i.size:=hy.newsLen;have h:(Builtin.firstCells i.size 0 (.slice a 0 0)).run P w.drew= .ok (([]:List Value).toArray) w.drew:=by cases a <;> simp [Builtin.firstCells,loadCells,loadCellsFrom]
 have zH2:c*i.bytes<=1000000000000*128:=zNO b S;have s:=run_append_grow_src (P:=P) w t t ty e i z q hi v a 0 0 [] h Q c A hy (by omega) (by omega) (growslice_fits (by omega) (by rw [zGw];omega));rw [zGw] at s;have H:c<=grownCap w c 0 e:=grownCap_ge w c 0 e;refine ⟨_,_,s,H,_,rfl,?_,λj hj=>?_⟩
 ·simp only [zIg,Array.size_append,List.size_toArray,d,size_zeroCells,C,←zMZ]
  congr 1;omega
 grind
end
abbrev zIH:=@List.mem_map
abbrev zMj:=@Nat.eq_zero_or_pos
def MJ (S:St):DV -> Option (Ξ×Prop)
 | .nils=>some ([],True)
 | .ints l=>some (l,True)
 | .msl k m off n=>match S.h[k]? with
  | some (some (.ints l))=>if m==1 then some (l,off=0/\ n=l.length) else none
  | _=>none
 | _=>none
def Qk (S:St):DV -> Option (Ω×Prop)
 | .nils=>some ([],True)
 | .bools l=>some (l,True)
 | .msl k m off n=>match S.h[k]? with
  | some (some (.bools l))=>if m==1 then some (l,off=0/\ n=l.length) else none
  | _=>none
 | _=>none
def QX (S:St)(m:Nat):DV -> Option (Nat×(Nat -> Nat -> DV)×Prop)
 | .nils=>some (0,(λ_ _=>.any),True)
 | .sl Z n f=>if Z==m then some (n,f,True) else none
 | .msl k Z off n=>match S.h[k]? with
  | some (some (.arr E a f))=>if Z==m&&E==m then some (a,f,off=0/\ n=a) else none
  | _=>none
 | _=>none
def Ay:Nat:=1000000000000
def Ti (P:Program)(S:St)(t:TypeId)(x y:DV):Option (DV×DH×Prop):=match Lc P t with
 | some (k,_,i,_)=>if 128<i.bytes then none else match k with
  | .ints=>match MJ S y with
   | some (ys,Q)=>match x with
    | .nils=>some (.msl S.h.length 1 0 ys.length,S.h++[some (.ints ys)],Q/\ 0<ys.length/\ ys.length<=Ay)
    | .msl k m off n=>match S.h[k]? with
     | some (some (.ints xs))=>if m==1 then some (.msl S.h.length 1 0 (xs.length+ys.length),S.h.set k none++[some (.ints (xs++ys))],Q/\ (off=0/\ n=xs.length)/\ xs.length+ys.length<=Ay) else none
     | _=>none
    | _=>none
   | none=>none
  | .bools=>match Qk S y with
   | some (ys,Q)=>match x with
    | .nils=>some (.msl S.h.length 1 0 ys.length,S.h++[some (.bools ys)],Q/\ 0<ys.length/\ ys.length<=Ay)
    | .msl k m off n=>match S.h[k]? with
     | some (some (.bools xs))=>if m==1 then some (.msl S.h.length 1 0 (xs.length+ys.length),S.h.set k none++[some (.bools (xs++ys))],Q/\ (off=0/\ n=xs.length)/\ xs.length+ys.length<=Ay) else none
     | _=>none
    | _=>none
   | none=>none
  | .gen m=>match QX S m y with
   | some (c,g,Q)=>match x with
    | .nils=>some (.msl S.h.length m 0 c,S.h++[some (.arr m c g)],(Q/\ ∀ i j,i<c -> j<m -> J1 (g i j)=true)/\ 0<c/\ c<=Ay)
    | .msl k Z off n=>match S.h[k]? with
     | some (some (.arr E a f))=>if Z==m&&E==m then some (.msl S.h.length m 0 (a+c),S.h.set k none++[some (.arr m (a+c) (λi j=>if i<a then f i j else g (i-a) j))],(Q/\ ∀ i j,i<c -> j<m -> J1 (g i j)=true)/\ (off=0/\ n=a)/\ a+c<=Ay) else none
     | _=>none
    | _=>none
   | none=>none
 | none=>none
section
variable {P:Program} {Γ:Au} {N:Ψ} {S:St} {ρ:List AI} {a:Act} {w:World} {h:DH}
variable {A:List Value}{c cap m:Nat}{t e:TypeId}
def UP (hu:P.underlying t=some (.slice e)){a:Option Addr}(hl:A.length=c*m)(hc: ∀ j u,A[j]? =some u -> ∃ b o,a=some ⟨b,o,none⟩/\ w.cell? ⟨b,o+j,none⟩=some u) 
 (h1: ∀ u∈A,u.oneCell'=true) (hm:0<m) (tR:a=none -> c=0):Src P m t (.slice a c cap) c A w:=by
 cases a with
 | none=>
  simp_all [Src.ofNil]
 | some a=>
  grind [Src.ofSlice,KZ]
variable {Q:Prop}{ys:Ξ}{v:Value}
theorem Vs (R:AS P Γ N S ρ a w)(q:P.underlying t=some (.slice e)){y:DV}(hy:AJ (MS N S.h ρ) w y ρ v)(h:MJ S y=some (ys,Q))(b:Q):
 Src P 1 t v ys.length (ys.map (Value.int .i64)) w:=by
 have one: ∀ u∈ys.map (Value.int .i64),u.oneCell'=true:=λu q=>by obtain ⟨n,_,rfl⟩:=zIH.1 q;rfl
 have val: ∀ {j:Nat} {u:Value},(ys.map (Value.int .i64))[j]? =some u -> j<ys.length/\ u= .int .i64 (ys.getD j 0):=λ{j u} d=>by
  grind
 unfold MJ at h;split at h
 ·cases h;rw [show v=_ from hy];exact Src.ofNil w q 0
 ·cases h;obtain ⟨ad,cap,rfl,c,f,g⟩:=hy;refine UP q (by simp) (λj u d=>?_) one (by omega) (λe=>?_)
  ·grind
  ·rcases zMj ys.length with h0 | h0
   ·exact h0
   grind
 ·rename_i k m off n;obtain ⟨p,cap,i,rfl,c,f,g⟩:=hy;split at h
  ·rename_i l hk;split at h
   ·rename_i o;cases h;have U:m=1:=by simpa using o
    subst U;obtain ⟨p',r,s⟩:=R.hr.obj k _ hk;have e:p'=p:=zGJ (r.symm.trans i);subst e;obtain ⟨rfl,rfl⟩:=b;refine UP q (by simp) (λj u d=>?_) one (by omega) (λe=>by cases e);obtain ⟨x,rfl⟩:=val d;obtain ⟨u,e1,e2⟩:=AX.cell s x
    grind
   ·cases h
  ·cases h
 ·cases h
theorem wG (R:AS P Γ N S ρ a w)(q:P.underlying t=some (.slice e)){y:DV}(hy:AJ (MS N S.h ρ) w y ρ v){ys:Ω}(h:Qk S y=some (ys,Q))(b:Q):
 Src P 1 t v ys.length (ys.map Value.bool) w:=by
 have one: ∀ u∈ys.map Value.bool,u.oneCell'=true:=λu q=>by obtain ⟨n,_,rfl⟩:=zIH.1 q;rfl
 have val: ∀ {j:Nat} {u:Value},(ys.map Value.bool)[j]? =some u -> j<ys.length/\ u= .bool (ys.getD j false):=λ{j u} d=>by
  grind
 unfold Qk at h;split at h
 ·cases h;rw [show v=_ from hy];exact Src.ofNil w q 0
 ·cases h;obtain ⟨ad,cap,rfl,c,f,g⟩:=hy;refine UP q (by simp) (λj u d=>?_) one (by omega) (λe=>?_)
  ·grind
  ·rcases zMj ys.length with h0 | h0
   ·exact h0
   grind
 ·rename_i k m off n;obtain ⟨p,cap,i,rfl,c,f,g⟩:=hy;split at h
  ·rename_i l hk;split at h
   ·rename_i o;cases h;have U:m=1:=by simpa using o
    subst U;obtain ⟨p',r,s⟩:=R.hr.obj k _ hk;have e:p'=p:=zGJ (r.symm.trans i);subst e;obtain ⟨rfl,rfl⟩:=b;refine UP q (by simp) (λj u d=>?_) one (by omega) (λe=>by cases e);obtain ⟨x,rfl⟩:=val d;obtain ⟨u,e1,e2⟩:=AX.cell s x
    grind
   ·cases h
  ·cases h
 ·cases h
variable {x y:Operand}
def OO {ρ':Operand -> Value}{o:Oper}{c:Call}{V:TypeId}(a:o.op= .call c)(l:c.callee= .builtin .append)(D:c.args.toList= [x,y])(X:c.argTypes.toList= [t,V]):
 execOp ρ' o=(do pure (.value (←Builtin.append_ #[t,V] o.type #[ρ' x,ρ' y]))):=by
 unfold execOp;rw [a]
 show (resolve ρ' c o.type>>=λd=>invoke d.target d.args)=_
 unfold resolve;rw [l,Xy D,Xy X];simp;rfl
variable {ob':DO}{z:Value}{i:TypeInfo}
def lZ (R:AS P Γ N S ρ a w)(E:P.underlying t=some (.slice e))(hi:P.info? e=some i)(F:i.zero=some z)(L:i.size≠0)(G:z.cells.size=i.size)(H:i.bytes<=128) 
 {k:Nat} {ob:DO} {p:AI} (hk:S.h[k]? =some (some ob)) (j:ρ[k]? =some p) {n:Nat} {Rw:Nat -> Value -> Prop} (I:AX w p (n*i.size) Rw) (Z:n<=cap) (J:p.off+cap*i.size<=p.room)
 {l:Value}  (hy:Src P i.size t l c A w) (hb:n+c<=Ay)
 (K: ∀ M ρ' w' p',BQ (MS N S.h ρ) w ρ M w' ρ' -> AX w' p' ((n+c)*i.size) (JW (n*i.size) Rw A) -> EF P M w' ρ' p' ob')
 (o:Oper) {g:Call}  (T:o.op= .call g) (U:g.callee= .builtin .append) (V:g.args.toList= [x,y]) (X:g.argTypes.toList= [t,t]) (d:a.eval x= .slice (some ⟨p.blk,p.off,none⟩) n cap) (W:a.eval y=l):
 BP P (execOp a.eval o) w (CC P Γ N S.h ρ w false (.msl S.h.length i.size 0 (n+c)) (S.h.set k none++[some ob'])):=by
 obtain ⟨w',p',Y,h1,h2,h3,r,u,B⟩:=lY (ty:=o.type) E hi F L G H I Z J hy hb;refine BP.value (OO T U V X) (by rw [d,W];exact h1) ?_
 have v: ∀ b,p'.foot b -> EG w' b:=λb hb=>by
  obtain ⟨e1,cs,tt,e2,_⟩:=B;rw [e1] at hb;exact .cells (c:=cs) (t:=tt) (z:=(0,0)) (by rw [show b=p'.blk from hb];exact e2)
 have C:(S.h.set k none).length=S.h.length:=by simp
 have O:BQ (MS N S.h ρ) w ρ (MS N (S.h.set k none++[some ob']) (ρ++[p'])) w' (ρ++[p']):=by
  refine ⟨λb hb hm _=>r.block b hb λd=>hm (.inr ⟨k,ob,p,hk,j,d⟩),λb hb=>?_,λi q hi=>Eo hi⟩;rcases hb with hb | hb
  ·exact .inl (.inl hb)
  ·obtain ⟨i1,o1,p1,f,s,D⟩:=hb;rcases EO f with ⟨m,f⟩ | ⟨m,_⟩
   ·rcases EO s with ⟨_,s⟩ | ⟨Q,_⟩
    ·exact .inl (.inr ⟨i1,o1,p1,(LX f).2,s,D⟩)
    ·rw [C] at m;rw [R.hr.len] at Q;omega
   ·rcases EO s with ⟨Q,_⟩ | ⟨_,rfl⟩
    ·rw [C] at m;rw [R.hr.len] at Q;omega
    ·exact (u b D).imp (λd=>.inr ⟨k,ob,p,hk,j,d⟩) id
 obtain ⟨f,s⟩:=R.hr.regrow (o':=ob') hk j r (λb hb=>⟨u b hb,v b hb⟩) (K _ _ _ _ O B);refine ⟨⟨ρ++[p'],f,⟨p',Y,by rw [←R.hr.len];simp,by simp,h2,by unfold LB;unfold Ay at hb;omega,by simpa using h3⟩,s,λ_ _ h=>Eo h⟩,λh=>by cases h⟩
def lf (R:AS P Γ N S ρ a w)(q:P.underlying t=some (.slice e))(hi:P.info? e=some i)(v:i.zero=some z)(C:z.cells.size=i.size)(l:i.bytes<=128) 
   {Q:Value}  (hy:Src P i.size t Q c A w) (m:0<c) (f:c<=Ay)
 (n: ∀ M ρ' w' p',BQ (MS N S.h ρ) w ρ M w' ρ' -> AX w' p' (c*i.size) (λj u=>A[j]? =some u) -> EF P M w' ρ' p' ob') (ext:Bool)
 (o:Oper) {b:Call}  (p:o.op= .call b) (r:b.callee= .builtin .append) (D:b.args.toList= [x,y]) (X:b.argTypes.toList= [t,t]) (s:a.eval x= .slice none 0 0) (B:a.eval y=Q):
 BP P (execOp a.eval o) w (CC P Γ N S.h ρ w ext (.msl S.h.length i.size 0 c) (S.h++[some ob'])):=by
 obtain ⟨w',g,E,k,cs,rfl,h4,h5⟩:=ld none (ty:=o.type) q hi v C l hy m f;have N5:A.length=c*i.size:=hy.newsLen;refine BP.value (OO p r D X) (by rw [s,B];exact E) ?_;have BU:c*i.size<=g*i.size:=zI0 _ k;refine TB (d:=.msl S.h.length i.size 0 c) R.hr ⟨A0.toDrew w,rfl⟩ (λM ρ' O=>n _ _ _ _ O ?_) (λM ρ' F=>⟨_,g,F,by simp [E3],k,by unfold LB;unfold Ay at f;omega,by simp only [E3];omega⟩) ext;refine PB rfl (by omega) λj hj=>?_
 grind
variable {s:Nat}{p':AI}{ρ':List AI}{w':World}{M:Ψ}
def iH {xs:Ξ}(a:s=1)(h:AX w' p' ((xs.length+ys.length)*s) (JW (xs.length*s) (λj u=>u= .int .i64 (xs.getD j 0)) (ys.map (Value.int .i64)))):EF P M w' ρ' p' (.ints (xs++ys)):=by
 subst a
 show AX _ _ (xs++ys).length _
 rw [zGY];rw [zIS,zIS] at h;refine AX.out h rfl λj u hj hu=>?_
 grind [JW]
def zLS {xs ys:Ω}(a:s=1)(h:AX w' p' ((xs.length+ys.length)*s) (JW (xs.length*s) (λj u=>u= .bool (xs.getD j false)) (ys.map Value.bool))):EF P M w' ρ' p' (.bools (xs++ys)):=by
 subst a
 show AX _ _ (xs++ys).length _
 rw [zGY];rw [zIS,zIS] at h;refine AX.out h rfl λj u hj hu=>?_
 grind [JW]
def uW (R:AS P Γ N S ρ a w)(D:P.underlying t=some (.slice e)){y:DV}(hy:AJ (MS N S.h ρ) w y ρ v)(r:0<m){g:Nat -> Nat -> DV}(h:QX S m y=some (c,g,Q))(E:Q) 
 (h1: ∀ i j,i<c -> j<m -> J1 (g i j)=true): ∃ A,Src P m t v c A w/\ ∀ j u,A[j]? =some u -> AJ (MS N S.h ρ) w (g (j/m) (j % m)) [] u:=by
 have s: ∀ {j:Nat},j<c*m -> j/m<c/\ j % m<m/\ j/m*m+j % m=j:=λ{j} d=>⟨by rw [zMV r];exact d,Nat.mod_lt _ r,by rw [zI7];exact Nat.div_add_mod j m⟩
 have x: ∀ (l:Option Addr) (cap:Nat),(∀ j,j<c*m -> ∃ b o u,l=some ⟨b,o,none⟩/\ w.cell? ⟨b,o+j,none⟩=some u/\ AJ (MS N S.h ρ) w (g (j/m) (j % m)) [] u) -> v= .slice l c cap -> (l=none -> c=0) ->
  ∃ A,Src P m t v c A w/\ ∀ j u,A[j]? =some u -> AJ (MS N S.h ρ) w (g (j/m) (j % m)) [] u:=by
  intro l cap hc z F
  obtain ⟨f,hf⟩: ∃ f:Nat -> Value,∀ j,j<c*m -> ∃ b o,l=some ⟨b,o,none⟩/\ w.cell? ⟨b,o+j,none⟩=some (f j)/\ AJ (MS N S.h ρ) w (g (j/m) (j % m)) [] (f j):=by
   refine ⟨λj=>(match l with | some a=>w.cell? ⟨a.block,a.off+j,none⟩ | none=>none).getD undef,λj d=>?_⟩
   grind
  have val: ∀ {j:Nat} {u:Value},((List.range (c*m)).map f)[j]? =some u -> j<c*m/\ u=f j:=λ{j u} d=>by
   grind
  refine ⟨(List.range (c*m)).map f,?_,λj u d=>?_⟩
  ·rw [z];refine UP D (by simp) (λj u d=>?_) (λu G=>?_) r F
   ·grind
   ·obtain ⟨j,d,rfl⟩:=zIH.1 G
    grind [Zt]
  grind
 unfold QX at h;split at h
 ·cases h;refine x none 0 (λj d=>by rw [Nat.zero_mul] at d;omega) hy (λ_=>rfl)
 ·rename_i Z n f;split at h
  ·rename_i q;cases h;have U:Z=m:=by simpa using q
   subst U;obtain ⟨l,cap,rfl,H,I,O⟩:=hy;refine x l cap (λj d=>?_) rfl (λe=>?_)
   ·obtain ⟨b,o,u,C,_,B,J⟩:=O _ _ (s d).1 (s d).2.1;exact ⟨b,o,u,C,by rw [(s d).2.2] at B;exact B,J⟩
   ·rcases zMj c with h0 | h0
    ·exact h0
    grind
  ·cases h
 ·rename_i k Z off n;obtain ⟨p,cap,K,rfl,H,I,O⟩:=hy;split at h
  ·rename_i L n2 f hk;split at h
   ·rename_i q;cases h;simp only [zEh,zGk] at q;obtain ⟨rfl,rfl⟩:=q;obtain ⟨p',M,T⟩:=R.hr.obj k _ hk;have e:p'=p:=zGJ (M.symm.trans K);subst e;obtain ⟨rfl,rfl⟩:=E;refine x (some ⟨p'.blk,p'.off+0*L,none⟩) cap (λj d=>?_) rfl (λe=>by cases e);obtain ⟨u,C,B⟩:=AX.cell T d
    grind
   ·cases h
  ·cases h
 ·cases h
def wf (R:AS P Γ N S ρ a w){d:DV}{h':DH}{vc:Prop}(r:Ti P S t (AZ S.fr x) (AZ S.fr y)=some (d,h',vc))(l:vc)(o:Oper){Z:Call}(D:o.op= .call Z)(F:Z.callee= .builtin .append) 
 (G:Z.args.toList= [x,y]) (X:Z.argTypes.toList= [t,t]):BP P (execOp a.eval o) w (CC P Γ N S.h ρ w false d h'):=by
 have rx:=BW R x;have ry:=BW R y;unfold Ti at r;split at r
 ·rename_i kk e i z hk;obtain ⟨s,hi,H,h0,I,Fd,hq1,LN⟩:=Ww hk;clear hq1 LN;split at r
  ·cases r
  ·rename_i Eb;have J:i.bytes<=128:=by omega
   split at r
   ·have q:i.size=1:=Fd.symm;split at r
    ·rename_i ys vy hy;split at r
     ·rename_i V;cases r;rw [V] at rx
      have:=lf (ob':=.ints ys) R s hi H I J (by rw [q];exact Vs R s ry hy l.1) l.2.1 l.2.2 (λM ρ' w' p' O b=>by
       have L:=b;rw [q,zIS] at L;refine AX.out L rfl λj u hj v=>?_
       grind) false o D F G X rx rfl
      rw [q] at this;exact this
     ·rename_i k m off n V;rw [V] at rx;obtain ⟨p,cap,A,Q,T,g2,U⟩:=rx;split at r
      ·rename_i xs B;split at r
       ·rename_i K;cases r;have DU:m=1:=by simpa using K
        subst DU;obtain ⟨q1,⟨rfl,rfl⟩,W⟩:=l;obtain ⟨p',Y,b⟩:=R.hr.obj k _ B;have e:p'=p:=zGJ (Y.symm.trans A);subst e
        have:=lZ (ob':=.ints (xs++ys)) (n:=xs.length) (cap:=cap) (c:=ys.length) R s hi H h0 I J B A (Rw:=λj u=>u= .int .i64 (xs.getD j 0)) (by rw [q,zIS];exact b) T (by rw [q];simpa using U) (by grind [Vs]) W
         (λM ρ' w' p' O b=>iH q b) o D F G X (by simpa using Q) rfl
        grind
       ·cases r
      ·cases r
     ·cases r
    ·cases r
   ·have q:i.size=1:=Fd.symm;split at r
    ·rename_i ys vy hy;split at r
     ·rename_i V;cases r;rw [V] at rx
      have:=lf (ob':=.bools ys) R s hi H I J (by rw [q];exact wG R s ry hy l.1) l.2.1 l.2.2 (λM ρ' w' p' O b=>by
       have L:=b;rw [q,zIS] at L;refine AX.out L rfl λj u hj v=>?_
       grind) false o D F G X rx rfl
      rw [q] at this;exact this
     ·rename_i k m off n V;rw [V] at rx;obtain ⟨p,cap,A,Q,T,g2,U⟩:=rx;split at r
      ·rename_i xs B;split at r
       ·rename_i K;cases r;have DU:m=1:=by simpa using K
        subst DU;obtain ⟨q1,⟨rfl,rfl⟩,W⟩:=l;obtain ⟨p',Y,b⟩:=R.hr.obj k _ B;have e:p'=p:=zGJ (Y.symm.trans A);subst e
        have:=lZ (ob':=.bools (xs++ys)) (n:=xs.length) (cap:=cap) (c:=ys.length) R s hi H h0 I J B A (Rw:=λj u=>u= .bool (xs.getD j false)) (by rw [q,zIS];exact b) T (by rw [q];simpa using U) (by grind [wG]) W
         (λM ρ' w' p' O b=>zLS q b) o D F G X (by simpa using Q) rfl
        grind
       ·cases r
      ·cases r
     ·cases r
    ·cases r
   ·rename_i m;have C:i.size=m:=Fd.symm;have AB:0<m:=by omega
    split at r
    ·rename_i c g vy hy;split at r
     ·rename_i V;cases r;rw [V] at rx;obtain ⟨CR,iv,jN⟩:=uW R s ry AB hy l.1.1 l.1.2
      have:=lf (ob':=.arr m c g) R s hi H I J (by rw [C];exact iv) l.2.1 l.2.2 (λM ρ' w' p' O b=>by
       rw [C] at b;exact AX.out b rfl λj u hj v=>AJ.out _ O.nil (jN j u v)) false o D F G X rx rfl
      rw [C] at this;exact this
     ·rename_i k m' off n V;rw [V] at rx;obtain ⟨p,cap,A,Q,T,g2,U⟩:=rx;split at r
      ·rename_i E n2 f B;split at r
       ·rename_i K;cases r;simp only [zEh,zGk] at K;obtain ⟨rfl,rfl⟩:=K;obtain ⟨q1,⟨rfl,rfl⟩,W⟩:=l;obtain ⟨p',Y,b⟩:=R.hr.obj k _ B;have e:p'=p:=zGJ (Y.symm.trans A);subst e;obtain ⟨CR,iv,jN⟩:=uW R s ry AB hy q1.1 q1.2
        have:=lZ (ob':=.arr E (n+c) (λi j=>if i<n then f i j else g (i-n) j)) (n:=n) (cap:=cap) (c:=c) R s hi H h0 I J B A (Rw:=λj u=>AJ (MS N S.h ρ) w (f (j/E) (j % E)) [] u) (by rw [C];exact b) T (by rw [C];simpa using U) (by rw [C];exact iv) W
         (λM ρ' w' p' O b=>by
          rw [C] at b;refine AX.out b rfl λj u hj v=>?_
          show AJ M w' (if j/E<n then f (j/E) (j % E) else g (j/E-n) (j % E)) [] u
          unfold JW at v
          by_cases AU:j<n*E
          ·rw [zEZ AU] at v;rw [zEZ (by rw [zMV AB];exact AU)];exact AJ.out _ O.nil v
          ·rw [zGN AU] at v;rw [zGN (by rw [zMV AB];exact AU)];have h1:=jN _ _ v;have e1:(j-n*E)/E=j/E-n:=by rw [zI7 n E];exact Nat.sub_mul_div ..
           have e2:(j-n*E) % E=j % E:=by
            have WH:j=(j-n*E)+n*E:=by omega
            rw [WH,Nat.add_mul_mod_self_right,Nat.add_sub_cancel]
           rw [e1,e2] at h1;exact AJ.out _ O.nil h1) o D F G X (by simpa using Q) rfl
        grind
       ·cases r
      ·cases r
     ·cases r
    ·cases r
 ·cases r
end
abbrev zGQ:=@List.mem_range
abbrev zIA:=@Bool.not_true
abbrev zID:=@Option.map_some
abbrev zIa:=@Nat.le_of_ble_eq_true
abbrev zIy:=@Bool.true_and
abbrev zMN:=@List.map_cons
abbrev zMs:=@List.all_cons
abbrev zNE:=@Go.run_equalIn_int
abbrev zNX:=@Option.getD_some
def bf (Z:Nat -> Option (Nat×Nat))(cells:List DV):List (Nat×DV) -> Option (List DV)
 | []=>some cells
 | (i,d)::rest=>match Z i with
  | none=>none
  | some (off,r)=>match KT d with
   | none=>none
   | some l=>if l.length=r/\ off+l.length<=cells.length then bf Z (Oz cells off l) rest else none
def ff (P:Program)(t:TypeId):Option (Value×(Nat -> Option (Nat×Nat))):=match P.info? t with
 | some v=>match P.underlying t with
  | some (.array _ e)=>match v.zero with
   | some z=>match P.info? e with
    | some B=>some (z,λi=>some (i*B.size,B.size))
    | none=>none
   | none=>none
  | some (.struct C)=>match v.zero with
   | some z=>match C.toList.mapM (λf=>(P.info? f.type).map λi=>(f.offset,i.size)) with
    | some I=>some (z,λi=>I.toArray[i]?)
    | none=>none
   | none=>none
  | _=>none
 | none=>none
def aD (P:Program)(S:St)(t:TypeId)(parts:List (Nat×Operand)):Option (DV×Prop):=match ff P t with
 | some (z,Z)=>match bf Z (z.cells.toList.map Nf) (parts.map λx=>(x.1,AZ S.fr x.2)) with
  | some l=>some (.agg l.length (λj=>l.getD j .any),True)
  | none=>none
 | none=>none
def L6 (P:Program)(t:TypeId)(m:Nat)(f:Nat -> DV)(off r:Nat):Option DV:= if off+r<=m then (if GX P t then (if r=1 then some (f off) else none) else if Xb P t r then some (.agg r (HL r λj=>f (off+j))) else none) else none
def iE (P:Program)(t:TypeId)(x:DV)(n:Int):Option (DV×Prop):=match x with
 | .agg m f=>match P.underlying t with
  | some (.array len e)=>match P.info? e with
   | some i=>if GX P e&&i.size==1&&len==m then some (f n.toNat,0<=n/\ n<len) else none
   | none=>none
  | _=>none
 | _=>none
def bY (P:Program)(t:TypeId)(x:DV)(c:Nat):Option (DV×Prop):=match x with
 | .agg m f=>match P.underlying t with
  | some (.struct a)=>match a[c]? with
   | some w=>match P.info? w.type with
    | some i=>match L6 P w.type m f w.offset i.size with
     | some d=>some (d,True)
     | none=>none
    | none=>none
   | none=>none
  | _=>none
 | _=>none
def kj (P:Program)(t:TypeId)(x:DV)(lo hi:Option Int):Option (DV×Prop):=match P.underlying t with
 | some (.slice e)=>match P.info? e with
  | some i=>match x with
   | .ints l=>if i.size=1 then some (.ints ((l.take (hi.getD l.length).toNat).drop (lo.getD 0).toNat),0<=lo.getD 0/\ lo.getD 0<=hi.getD l.length/\ hi.getD l.length<=l.length) else none
   | .bools l=>if i.size=1 then some (.bools ((l.take (hi.getD l.length).toNat).drop (lo.getD 0).toNat),0<=lo.getD 0/\ lo.getD 0<=hi.getD l.length/\ hi.getD l.length<=l.length) else none
   | .sl m n f=>if i.size=m then some (.sl m ((hi.getD n).toNat-(lo.getD 0).toNat) (λi j=>f ((lo.getD 0).toNat+i) j),0<=lo.getD 0/\ lo.getD 0<=hi.getD n/\ hi.getD n<=n) else none
   | .msl k m off n=>if i.size=m then some (.mse k m (off+(lo.getD 0).toNat) ((hi.getD n).toNat-(lo.getD 0).toNat),0<=lo.getD 0/\ lo.getD 0<=hi.getD n/\ hi.getD n<=n) else none
   | _=>none
  | none=>none
 | _=>none
def aQ (S:St):Option Operand -> Option (Option Int)
 | none=>some none
 | some x=>match AZ S.fr x with
  | .int _ n=>some (some n)
  | _=>none
def OP (f g:Nat -> DV):Θ -> Bool
 | []=>true
 | i::R=>(Hy (f i)==Hy (g i))&&OP f g R
def kQ (P:Program)(m:Nat)(f g:Nat -> DV)(w:Field):Bool:=w.name != "_" &&((match P.info? w.type with | some i=>i.size==1 | none=>false)&&(GX P w.type&&((match P.underlying w.type with | some (.int _)=>true | _=>false)&&(Nat.blt w.offset m&&(JA (f w.offset)&&JA (g w.offset))))))
def bq (P:Program)(t:TypeId)(f g:Nat -> DV)(m Z:Nat):Option Θ:=match P.underlying t with
 | some (.struct a)=>if P.stoodInHeld t==false&&(P.eqGuardType P.depth t==false&&(m==Z&&a.toList.all (kQ P m f g))) then some (a.toList.map (·.offset)) else none
 | some (.array n e)=>match P.info? e with
  | some i=>match P.underlying e with
   | some (.int _)=>if i.size==1&&GX P e&&P.eqGuardType P.depth t==false&&n==m&&n==Z&&(List.range n).all (λi=>JA (f i)&&JA (g i)) then some (List.range n) else none
   | _=>none
  | none=>none
 | _=>none
def Wt (P:Program)(S:BinOp)(t:TypeId)(x y:DV):Option (DV×Prop):=match S,x,y with
 | .eql,.agg m f,.agg Z g=>match bq P t f g m Z with
  | some R=>some (.bool (OP f g R),True)
  | none=>none
 | .neq,.agg m f,.agg Z g=>match bq P t f g m Z with
  | some R=>some (.bool (!(OP f g R)),True)
  | none=>none
 | _,_,_=>none
def cM (P:Program)(t:TypeId):Bool:=match P.underlying t with
 | some (.interface _)=>false
 | some _=>true
 | none=>false
def lW (P:Program)(a:TypeId)(ok:Bool):DV -> Option DV
 | .cst (.iface t (.int k n))=>if t=a&&cM P a then some (if ok then .tup 2 (λj=>[DV.int k n,.bool true].getD j .any) else .int k n) else none
 | .cst .nilIface=>if ok&&cM P a then match P.info? a with
  | some i=>match i.zero with
   | some (.int k n)=>some (.tup 2 (λj=>[DV.int k n,.bool false].getD j .any))
   | _=>none
  | none=>none
  else none
 | _=>none
def zLp {P:Program}{M:Ψ}{w:World}{ρ:List AI}{xt c:TypeId}{ok:Bool}{d d':DV}{v:Value}(e:AJ M w d ρ v)(h:lW P c ok d=some d'): ∃ u,(∀ W,(Instr.typeAssert v xt c ok).run P W= .ok u W)/\ AJ M w d' ρ u:=by
 have s: ∀ (k:IntKind) (n:Int) (b:Bool),AJ M w (.tup 2 (λj=>[DV.int k n,.bool b].getD j .any)) ρ (.tuple #[.int k n,.bool b]):=λk n b=>⟨_,rfl,rfl,λj a=>match j,a with
  | 0,_=>⟨_,rfl,rfl⟩
  | 1,_=>⟨_,rfl,rfl⟩
  | j+2,a=>absurd a (by omega)⟩
 unfold lW at h;split at h
 ·rename_i t k n;split at h
  ·rename_i l;simp only [zEh,zHx] at l;obtain ⟨rfl,l⟩:=l;obtain ⟨rfl,_⟩:=e;unfold cM at l;cases h;cases ok
   ·refine ⟨.int k n,λW=>?_,rfl⟩;split at l <;> first | (cases l;done) | skip
    simp_all [Instr.typeAssert,zGs]
   ·refine ⟨.tuple #[.int k n,.bool true],λW=>?_,s k n true⟩;split at l <;> first | (cases l;done) | skip
    simp_all [Instr.typeAssert,zGs]
  ·cases h
 ·split at h
  ·rename_i l;simp only [zEh] at l;obtain ⟨rfl,l⟩:=l;obtain ⟨rfl,_⟩:=e;unfold cM at l;split at h
   ·rename_i i hi;split at h
    ·rename_i k n hz;cases h;refine ⟨.tuple #[.int k n,.bool false],λW=>?_,s k n false⟩;split at l <;> first | (cases l;done) | skip
     simp_all [Instr.typeAssert,zGs,zeroValue,typeInfo]
    ·cases h
   ·cases h
  ·cases h
 ·cases h
def VS (P:Program)(S:St):Op -> Option (DV×Prop)
 | .typeAssert x _ a ok=>match lW P a ok (AZ S.fr x) with
  | some d=>some (d,True)
  | none=>none
 | .build t parts=>aD P S t parts.toList
 | .index t x i=>match AZ S.fr i with
  | .int _ n=>iE P t (AZ S.fr x) n
  | _=>none
 | .field t x f=>bY P t (AZ S.fr x) f
 | .slice t x lo hi none=>match aQ S lo with
  | some l=>match aQ S hi with
   | some h=>kj P t (AZ S.fr x) l h
   | none=>none
  | none=>none
 | .binOp op t x y N=>match Wt P op t (AZ S.fr x) (AZ S.fr y) with
  | some r=>some r
  | none=>pop P S (.binOp op t x y N)
 | op=>pop P S op
section
variable {P:Program} {Γ:Au} {N:Ψ} {S:St} {ρ:List AI} {a:Act} {w:World}
def dB (M:Ψ)(w:World)(ρ:List AI)(l:List DV)(cs:Array Value):Prop:=cs.size=l.length/\ ∀ j,j<l.length -> ∃ u,cs[j]? =some u/\ AJ M w (l.getD j .any) ρ u
def wZ: ∀ (vs:List Value) (k off:Nat) (cs:Array Value),((vs.zipIdx k).foldl (λ(cs:Array Value) (x:Value×Nat)=>cs.setIfInBounds (off+x.2) x.1) cs).size=cs.size/\
 ∀ j,((vs.zipIdx k).foldl (λ(cs:Array Value) (x:Value×Nat)=>cs.setIfInBounds (off+x.2) x.1) cs)[j]? =if off+k<=j/\ j<off+k+vs.length/\ j<cs.size then vs[j-(off+k)]? else cs[j]?
 | [],k,off,cs=>⟨rfl,λj=>by
  rw [zGN]
  ·rfl
  ·simp only [zMp];omega⟩
 | v::vs,k,off,cs=>by
  obtain ⟨h1,h2⟩:=wZ vs (k+1) off (cs.setIfInBounds (off+k) v);rw [List.zipIdx_cons,zIr]
  grind
variable {Z:Nat -> Option (Nat×Nat)}{M:Ψ}
def us : ∀ (parts:List (Nat×Operand)) (l:List DV) (cs:Array Value) (r:List DV),dB M w ρ l cs -> (∀ x,AJ M w (AZ S.fr x) ρ (a.eval x)) ->
 bf Z l (parts.map λx=>(x.1,AZ S.fr x.2))=some r -> ∃ k,Instr.fill Z cs (parts.map λx=>(x.1,a.eval x.2))=some k/\ dB M w ρ r k
 | [],l,cs,r,b,_,h=>by cases h;exact ⟨cs,rfl,b⟩
 | (i,x)::rest,l,cs,r,b,m,h=>by
  simp only [zMN,bf] at h;split at h
  ·cases h
  ·rename_i off d FL;split at h
   ·cases h
   ·rename_i ds C;split at h
    ·rename_i n;obtain ⟨f,c2⟩:=XA C (m x);have Am:(a.eval x).cells.size=d:=by rw [f,n.1]
     have tk: ¬ (off+(a.eval x).cells.size>cs.size):=by rw [f,b.1];omega
     obtain ⟨o,D⟩:=wZ (a.eval x).cells.toList 0 off cs
     have p:dB M w ρ (Oz l off ds) ((a.eval x).cells.zipIdx.foldl (λcs (c,j)=>cs.setIfInBounds (off+j) c) cs):=by
      have G:((a.eval x).cells.zipIdx.foldl (λcs (c,j)=>cs.setIfInBounds (off+j) c) cs)=(((a.eval x).cells.toList.zipIdx 0).foldl (λ(cs:Array Value) (x:Value×Nat)=>cs.setIfInBounds (off+x.2) x.1) cs):=by
       rw [←Array.foldl_toList];simp
      rw [G];refine ⟨by rw [o,dl,b.1],λj g=>?_⟩;rw [dl] at g;rw [D j,dq l off ds g]
      by_cases e:off<=j/\ j<off+ds.length
      ·grind
      ·rw [zGN (by simp;rw [f];omega),zGN e];exact b.2 j g
     obtain ⟨k,g1,g2⟩:=us rest _ _ r p m h
     simp_all [Instr.fill]
    ·cases h
variable {t:TypeId}
def zDb {z:Value}(h:ff P t=some (z,Z))(parts:List (Nat×Value)):P.built t parts=Instr.fill Z z.cells parts:=by
 grind [ff,Program.built]
variable {b:Prop}{d:DV}
def zFF (R:AS P Γ N S ρ a w){parts:Array (Nat×Operand)}(h:aD P S t parts.toList=some (d,b)):Yl P N w (MS N S.h ρ) ρ (Instr.build t (parts.map λ(i,x)=>(i,a.eval x))) d:=by
 unfold aD at h;split at h
 ·rename_i z J0 g;split at h
  ·rename_i l m;cases h
   have h0:dB (MS N S.h ρ) w ρ (z.cells.toList.map Nf) z.cells:=⟨by simp,λj hj=>by
    grind [Zv]⟩
   obtain ⟨k,g1,s,O⟩:=us parts.toList _ _ _ h0 (BW R) m;refine Yl.pure (v:=.agg k) (λW=>run_build W t _ k ?_) ⟨k,rfl,s,O⟩;rw [zDb g]
   simp_all
  ·cases h
 ·cases h
variable {i:TypeInfo}{f:Nat -> DV}{m:Nat}
def Yt {cs:Array Value}{off r:Nat}(hi:P.info? t=some i)(BK:i.size=r)(EM:cs.size=m)(b: ∀ j,j<m -> ∃ u,cs[j]? =some u/\ AJ M w (f j) ρ u)(h:L6 P t m f off r=some d):Yl P N w M ρ (part t cs off) d:=by
 unfold L6 at h;split at h
 ·rename_i BU;split at h
  ·rename_i a;split at h
   ·rename_i hs;cases h;obtain ⟨u,o,s⟩:=b off (by omega);unfold GX at a;simp only [zEh,zNC,zGr] at a;obtain ⟨⟨z,c⟩,hn⟩:=a
    simp_all [Yl.pure,part,Uv]
   ·cases h
  ·split at h
   ·rename_i e;cases h;obtain ⟨g,k,K,s7⟩:=lx e;have y:k=i:=zGJ (K.symm.trans hi);subst y;obtain ⟨z,c⟩:=sW g;refine Yl.pure (v:=.agg (cs.extract off (off+r))) (λW=>?_) ⟨_,rfl,by simp;omega,λj l=>?_⟩
    ·simp_all [part,Uv,Kq]
    ·obtain ⟨u,o,s⟩:=b (off+j) (by omega);refine ⟨u,?_,Ir l s⟩
     grind
   ·cases h
 ·cases h
variable {n:Int}{k:IntKind}{v:Value}
def zFn (R:AS P Γ N S ρ a w){x:DV}(g:AJ (MS N S.h ρ) w x ρ v)(h:iE P t x n=some (d,b))(p:b):Yl P N w (MS N S.h ρ) ρ (Instr.index t v (.int k n)) d:=by
 unfold iE at h;split at h
 ·rename_i m f;obtain ⟨cs,rfl,j,o⟩:=g;split at h
  ·rename_i len e q;split at h
   ·rename_i i hi;split at h
    ·rename_i l;cases h;simp only [zEh,zGk] at l;obtain ⟨⟨h1,c⟩,rfl⟩:=l
     have r:L6 P e len f n.toNat 1=some (f n.toNat):=by
      unfold L6
      grind
     obtain ⟨u,s,y⟩:=Yt (P:=P) hi c j o r;refine ⟨u,λW C=>?_,y⟩;unfold Instr.index;simp only [asIntOf,zGu,Sem.run_pure,Result.andThen,zGs q];rw [zEZ ⟨p.1,p.2⟩];simp only [zGu,Kq hi,Result.andThen,c,zIS];exact s W C
    ·cases h
   ·cases h
  ·cases h
 ·cases h
def zJW (R:AS P Γ N S ρ a w){x:DV}{c:Nat}(e:AJ (MS N S.h ρ) w x ρ v)(h:bY P t x c=some (d,b)):Yl P N w (MS N S.h ρ) ρ (Instr.field t v c) d:=by
 unfold bY at h;split at h
 ·rename_i m f;obtain ⟨cs,rfl,j,g⟩:=e;split at h
  ·rename_i fs q;split at h
   ·rename_i fd M;split at h
    ·rename_i i hi;split at h
     ·rename_i d' k;cases h;obtain ⟨u,o,s⟩:=Yt (P:=P) hi rfl j g k;refine ⟨u,λW C=>?_,s⟩;unfold Instr.field;simp only [zGu,zGs q,Result.andThen,M,asAgg,Sem.run_pure];exact o W C
     ·cases h
    ·cases h
   ·cases h
  ·cases h
 ·cases h
def zB1 {y:Nat}{c:BoundsCode}(h0:0<=n)(h1:n<=y)(W:World):(Instr.sliceBound (.int k n) y c).run P W= .ok n.toNat W:=by
 simp_all [Instr.sliceBound,asIntOf]
def sY (R:AS P Γ N S ρ a w){o:Option Operand}{l:Option Int}(h:aQ S o=some l): ∃ k,o.map a.eval=l.map (Value.int k):=by
 cases o with
 | none=>cases h;exact ⟨.i64,rfl⟩
 | some x=>
  simp only [aQ] at h;split at h
  ·rename_i k n e;cases h;have:=BW R x;rw [e] at this;exact ⟨k,by simp only [zID];rw [show a.eval x=_ from this]⟩
  ·cases h
variable {lo hi:Option Int}{J:IntKind}{e:TypeId}
def Yv {j:Option Addr}{len cap:Nat}{K:IntKind}(hu:P.underlying t=some (.slice e))(Bt:P.info? e=some i)(h0:0<=lo.getD 0)(h1:lo.getD 0<=hi.getD len)(h2:hi.getD len<=len)(h3:len<=cap)(W:World):
 (Instr.sliceAt t (.slice j len cap) (lo.map (Value.int J)) (hi.map (Value.int K)) none).run P W=
  .ok (.slice (if cap=(lo.getD 0).toNat then j else j.map (·.add ((lo.getD 0).toNat*i.size))) ((hi.getD len).toNat-(lo.getD 0).toNat) (cap-(lo.getD 0).toNat)) W:=by
 have hb:(Instr.sliceBounds true len cap (lo.map (Value.int J)) (hi.map (Value.int K)) none).run P W= .ok ((lo.getD 0).toNat,(hi.getD len).toNat,cap) W:=by
  cases lo <;> cases hi <;> simp only [Option.map_none,zID,Option.getD_none,zNX] at* <;>
   simp (disch:=omega) [Instr.sliceBounds,zB1,zGu,Result.andThen]
 simp_all [Instr.sliceAt,zGs,Instr.slice,Kq]
def zKV (R:AS P Γ N S ρ a w){x:DV}{G:Prop}{M:IntKind}(A:AJ (MS N S.h ρ) w x ρ v)(h:kj P t x lo hi=some (d,G))(B:G):
 Yl P N w (MS N S.h ρ) ρ (Instr.sliceAt t v (lo.map (Value.int J)) (hi.map (Value.int M)) none) d:=by
 unfold kj at h;split at h
 ·rename_i e C;split at h
  ·rename_i i D
   have gd: ∀ {α:Type} (l:List α) (q c j:Nat) (d:α),j<((l.take c).drop q).length -> ((l.take c).drop q).getD j d=l.getD (q+j) d:=λl q c j d s=>by
    grind
   split at h
   ·rename_i l;split at h
    ·rename_i g;cases h;obtain ⟨H,cap,rfl,r,E,O⟩:=A;obtain ⟨K,L,v3⟩:=B;have y:((l.take (hi.getD l.length).toNat).drop (lo.getD 0).toNat).length=(hi.getD l.length).toNat-(lo.getD 0).toNat:=by simp;omega
     refine Yl.pure (λW=>Yv C D K L v3 r W) ⟨_,_,by rw [y],by omega,by omega,λj s=>?_⟩;have F:=s;rw [y] at F;obtain ⟨b,o,rfl,z,I⟩:=O ((lo.getD 0).toNat+j) (by omega);refine ⟨b,o+(lo.getD 0).toNat,?_,z,?_⟩
     ·rw [zGN (by omega)];simp only [zID,KZ,g,zIS]
     grind
    ·cases h
   ·rename_i l;split at h
    ·rename_i g;cases h;obtain ⟨H,cap,rfl,r,E,O⟩:=A;obtain ⟨K,L,v3⟩:=B;have y:((l.take (hi.getD l.length).toNat).drop (lo.getD 0).toNat).length=(hi.getD l.length).toNat-(lo.getD 0).toNat:=by simp;omega
     refine Yl.pure (λW=>Yv C D K L v3 r W) ⟨_,_,by rw [y],by omega,by omega,λj s=>?_⟩;have F:=s;rw [y] at F;obtain ⟨b,o,rfl,z,I⟩:=O ((lo.getD 0).toNat+j) (by omega);refine ⟨b,o+(lo.getD 0).toNat,?_,z,?_⟩
     ·rw [zGN (by omega)];simp only [zID,KZ,g,zIS]
     grind
    ·cases h
   ·rename_i m n f;split at h
    ·rename_i g;cases h;obtain ⟨H,cap,rfl,r,E,O⟩:=A;obtain ⟨K,L,v3⟩:=B;refine Yl.pure (λW=>Yv C D K L v3 r W) ⟨_,_,rfl,by omega,by omega,λX j KA s=>?_⟩;obtain ⟨b,o,u,rfl,z,I,Q⟩:=O ((lo.getD 0).toNat+X) j (by omega) s;refine ⟨b,o+(lo.getD 0).toNat*m,u,?_,z,?_,Q⟩
     ·rw [zGN (by omega)];simp only [zID,KZ,g]
     grind
    ·cases h
   ·rename_i k m off n;split at h
    ·rename_i g;cases h;obtain ⟨p,cap,T,rfl,r,E,O⟩:=A;obtain ⟨K,L,v3⟩:=B;have BU:(lo.getD 0).toNat<=cap:=by omega
     refine Yl.pure (λW=>Yv C D K L v3 r W) ⟨p,_,cap-(lo.getD 0).toNat,T,rfl,by omega,by omega,λhc=>⟨?_,?_⟩⟩
     ·rw [zGN (by omega)];simp only [zID,KZ,g,zMZ,zMc]
     ·have:cap*m=(lo.getD 0).toNat*m+(cap-(lo.getD 0).toNat)*m:=by rw [←zMZ];congr 1;omega
      rw [zMZ];omega
    ·cases h
   ·cases h
  ·cases h
 ·cases h
variable {g:Nat -> DV}{xs ys:Array Value}
def pT {c:IntKind}{n d:Nat}(hi:P.info? e=some i)(h:i.size=1)(m:GX P e=true)(hk:P.underlying e=some (.int c))(k:xs.size=n)(hy:ys.size=n) 
 (rx: ∀ j,j<n -> ∃ u,xs[j]? =some u/\ AJ M w (f j) ρ u) (z: ∀ j,j<n -> ∃ u,ys[j]? =some u/\ AJ M w (g j) ρ u) (b: ∀ j,j<n -> JA (f j)=true/\ JA (g j)=true):
 ∀ (R:Θ),(∀ j∈R,j<n) -> ∀ W,Keep N w W -> (Op.eqItems (d+1) e 1 xs ys R).run P W= .ok (OP f g R) W
 | [],_,W,_=>rfl
 | j::R,l,W,C=>by
  have a:j<n:=l j (by simp)
  have t: ∀ {cs:Array Value} {f:Nat -> DV},cs.size=n -> (∀ j,j<n -> ∃ u,cs[j]? =some u/\ AJ M w (f j) ρ u) -> JA (f j)=true -> (part e cs (j*1)).run P W= .ok (.int .i64 (Hy (f j))) W:=by
   intro cs f o p q
   have r:L6 P e n f (j*1) 1=some (f j):=by
    unfold L6
    grind
   obtain ⟨u,s,v⟩:=Yt (P:=P) hi h o p r;rw [s W C,aP q v]
  simp only [Op.eqItems,zGu,t k rx (b j a).1,t hy z (b j a).2,Result.andThen,zNE W d e .i64 c _ _ hk];unfold OP;cases hq:(Hy (f j)==Hy (g j)) with
  | false=>rfl
  | true=>
   simp only [zIA,zIp,zMy,zIy];exact pT hi h m hk k hy rx z b R (λj a=>l j (by simp [a])) W C
def pU {d:Nat}(k:xs.size=m)(hy:ys.size=m) 
 (rx: ∀ j,j<m -> ∃ u,xs[j]? =some u/\ AJ M w (f j) ρ u) (z: ∀ j,j<m -> ∃ u,ys[j]? =some u/\ AJ M w (g j) ρ u):
 ∀ (a:List Field),a.all (kQ P m f g)=true -> ∀ W,Keep N w W -> (Op.eqFields (d+1) xs ys a).run P W= .ok (OP f g (a.map (·.offset))) W
 | [],_,W,_=>rfl
 | fd::a,h,W,C=>by
  rw [zMs,zEh] at h;obtain ⟨h,c⟩:=h;unfold kQ at h;simp only [zEh] at h;obtain ⟨e,b,h3,A,l,n,o⟩:=h;have e:fd.name≠ "_" :=by simpa using e
  have l:fd.offset<m:=zIa l;split at b
  ·rename_i i hi;have b:i.size=1:=by simpa using b
   split at A
   ·rename_i p hk
    have t: ∀ {cs:Array Value} {f:Nat -> DV},cs.size=m -> (∀ j,j<m -> ∃ u,cs[j]? =some u/\ AJ M w (f j) ρ u) -> JA (f fd.offset)=true -> (part fd.type cs fd.offset).run P W= .ok (.int .i64 (Hy (f fd.offset))) W:=by
     intro cs f q c r
     have s:L6 P fd.type m f fd.offset 1=some (f fd.offset):=by
      unfold L6
      grind
     obtain ⟨u,v,x⟩:=Yt (P:=P) hi b q c s;rw [v W C,aP r x]
    simp only [Op.eqFields,zEZ e,zGu,t k rx n,t hy z o,Result.andThen,zNE W d fd.type .i64 p _ _ hk];rw [zMN];unfold OP;cases hq:(Hy (f fd.offset)==Hy (g fd.offset)) with
    | false=>rfl
    | true=>
     simp only [zIA,zIp,zMy,zIy];exact pU k hy rx z a c W C
   ·cases A
  ·cases b
def zJ3 {S:BinOp}{x y:DV}{b Q:Value}{A:Prop}(B D:Operand)(s:AJ M w x ρ b)(hy:AJ M w y ρ Q)(h:Wt P S t x y=some (d,A)):
 Yl P N w M ρ (do eqGuard S t B D b Q;binOp S t b Q) d:=by
 have key: ∀ {m Z:Nat} {f g:Nat -> DV} {R:Θ} {xs ys:Array Value},bq P t f g m Z=some R -> xs.size=m -> ys.size=Z -> (∀ j,j<m -> ∃ u,xs[j]? =some u/\ AJ M w (f j) ρ u) -> (∀ j,j<Z -> ∃ u,ys[j]? =some u/\ AJ M w (g j) ρ u) ->
  P.eqGuardType P.depth t=false/\ ∀ W,Keep N w W -> (Op.equalIn 10000 t (.agg xs) (.agg ys)).run P W= .ok (OP f g R) W:=by
  intro m Z f g R xs ys c k a rx z;unfold bq at c;split at c
  ·rename_i v q;split at c
   ·rename_i l;cases c;simp only [zEh,zGk] at l;obtain ⟨o,p,r,V⟩:=l;subst r;have e:P.fieldsOf t=v:=by unfold Program.fieldsOf;rw [q]
    refine ⟨p,λW C=>?_⟩;rw [run_equalIn_struct W 9999 t xs ys (by rw [e];exact q) o,e];exact pU (d:=9998) k a rx z v.toList V W C
   ·cases c
  ·rename_i n e q;split at c
   ·rename_i i hi;split at c
    ·rename_i k' hk;split at c
     ·rename_i l;cases c;simp only [zEh,zGk,zGL,zGQ] at l;obtain ⟨⟨⟨⟨⟨o,p⟩,r⟩,V⟩,E⟩,F⟩:=l;subst V;subst E;refine ⟨r,λW C=>?_⟩;have G:P.cellsOf e=1:=by grind [Program.cellsOf]
      rw [run_equalIn_array W 9999 xs ys q hi,G];exact pT (d:=9998) hi o p hk k a rx z F _ (λj H=>zGQ.1 H) W C
     ·cases c
    ·cases c
   ·cases c
  ·cases c
 unfold Wt at h;split at h
 ·rename_i m f Z g;split at h
  ·rename_i R c;cases h;obtain ⟨xs,rfl,k,rx⟩:=s;obtain ⟨ys,rfl,a,z⟩:=hy;obtain ⟨I,J⟩:=key c k a rx z;refine ⟨.bool _,λW C=>?_,rfl⟩
   grind [Sem.run_bind,run_eqGuard_agg,Result.andThen,run_eql_struct]
  ·cases h
 ·rename_i m f Z g;split at h
  ·rename_i R c;cases h;obtain ⟨xs,rfl,k,rx⟩:=s;obtain ⟨ys,rfl,a,z⟩:=hy;obtain ⟨I,J⟩:=key c k a rx z;refine ⟨.bool _,λW C=>?_,rfl⟩
   grind [Sem.run_bind,run_eqGuard_agg,Result.andThen,run_neq_struct]
  ·cases h
 ·cases h
def zDY (R:AS P Γ N S ρ a w)(o:Oper){c:Prop}(h:VS P S o.op=some (d,c))(p:c):
 ∃ v,(∀ W,Keep N w W -> (execOp a.eval o).run P W= .ok (.value v) W)/\ AJ (MS N S.h ρ) w d ρ v:=by
 unfold VS at h;split at h
 ·rename_i x xt g ok b;split at h
  ·rename_i d' j;cases h;obtain ⟨u,m,q⟩:=zLp (xt:=xt) (BW R x) j;exact H5 (s:=Instr.typeAssert (a.eval x) xt g ok) (by unfold execOp;rw [b]) ⟨u,λW _=>m W,q⟩
  ·cases h
 ·rename_i t parts b;exact H5 (by unfold execOp;rw [b]) (zFF R h)
 ·rename_i t x i b;have hi:=BW R i;split at h
  ·rename_i k n e;rw [e] at hi;refine H5 (s:=Instr.index t (a.eval x) (a.eval i)) (by unfold execOp;rw [b]) ?_;rw [show a.eval i=_ from hi];exact zFn R (BW R x) h p
  ·cases h
 ·rename_i t x f b;exact H5 (s:=Instr.field t (a.eval x) f) (by unfold execOp;rw [b]) (zJW R (BW R x) h)
 ·rename_i t x lo hi b;split at h
  ·rename_i l z;split at h
   ·rename_i hh D;obtain ⟨k1,A⟩:=sY R z;obtain ⟨k2,B⟩:=sY R D;refine H5 (s:=Instr.sliceAt t (a.eval x) (lo.map a.eval) (hi.map a.eval) none) (by unfold execOp;rw [b];rfl) ?_;rw [A,B];exact zKV R (BW R x) h p
   ·cases h
  ·cases h
 ·rename_i op t x y t' b;split at h
  ·rename_i r C;cases h;exact H5 (by unfold execOp;rw [b]) (zJ3 x y (BW R x) (BW R y) C)
  grind [qh]
 ·exact qh R o h p
end
abbrev zIC:=@List.getElem?_map
abbrev zIu:=@List.getElem?_append_left
def Bp:List Prop -> Prop
 | []=>True
 | p::V=>p/\ Bp V
def DY {l l':List Prop}:Bp (l++l')↔Bp l/\ Bp l':=by
 induction l with
 | nil=>simp [Bp]
 | cons p ps U=>simp [Bp,U,and_assoc]
def AN (d d':DV):Prop:=∀ (M:Ψ) (w:World) (ρ:List AI) (v:Value),AJ M w d ρ v -> AJ M w d' ρ v
section
variable {P:Program} {Γ:Au} {N:Ψ}
variable {M:Ψ}{w:World}
def D5 {k:Ψ}(h: ∀ b,k b -> M b)(ρ:List AI):BQ M w ρ k w ρ:=⟨λ_ _ _ _=>rfl,λb c=>.inl (h b c),λ_ _ h=>h⟩
def kL:DO -> Option (Nat×Nat×DV)
 | .ints l=>some (1,l.length,.ints l)
 | .bools l=>some (1,l.length,.bools l)
 | .arr m n f=>some (m,n,.sl m n f)
 | .mo (.rws E none)=>some (1,E.length,.sl 1 E.length λi j=>([.ints (E.getD i default)]:List DV).getD j .any)
 | _=>none
def JS (k m:Nat)(v:DV):DV -> DV
 | .msl g Z off n=>if g=k/\ Z=m/\ off=0 then v else .msl g Z off n
 | d=>d
def TF (k m n:Nat):DV -> List Prop
 | .msl g Z off W=>if g=k/\ Z=m/\ off=0 then [W=n] else []
 | _=>[]
def bU (k m:Nat)(v:DV):Option DO -> Option DO
 | some (.cells l)=>some (.cells (l.map (JS k m v)))
 | some (.ro l)=>some (.ro (l.map (JS k m v)))
 | o=>o
def ug (k m n:Nat):Option DO -> List Prop
 | some (.cells l)=>l.flatMap (TF k m n)
 | some (.ro l)=>l.flatMap (TF k m n)
 | _=>[]
def KL (k m:Nat)(v:DV)(S:St):St:=⟨S.fr.map (JS k m v),(S.h.set k none).map (bU k m v)⟩
variable {d:DV}
def lr {l:List DV}{f:DV -> List Prop}(h:Bp (l.flatMap f))(r:d∈l):Bp (f d):=by
 induction l with
 | nil=>simp at r
 | cons x l ih=>
  rw [zNN] at h;obtain ⟨h1,h2⟩:=DY.1 h
  grind
def wn {l:List (Option DO)}{f:Option DO -> List Prop}(h:Bp (l.flatMap f)){d:Option DO}(r:d∈l):Bp (f d):=by
 induction l with
 | nil=>simp at r
 | cons x l ih=>
  rw [zNN] at h;obtain ⟨h1,h2⟩:=DY.1 h
  grind
variable {u:Value}{v:DV}{m n:Nat}{o:DO}{p:AI}{ρ:List AI}
theorem zJT {C:Ψ}(a:kL o=some (m,n,v))(d:EF P M w ρ p o)(X: ∀ b,p.foot b -> ¬ C b)(Y: ∀ b,C b -> M b){cap:Nat}(r:u= .slice (some ⟨p.blk,p.off+0*m,none⟩) n cap)(s:n<=cap)(A:n<=LB):AJ C w v ρ u:=by
 cases o with
 | cells l=>cases a
 | iter e=>cases a
 | ro l=>cases a
 | mo x=>
  cases x with
  | rws ls F=>
   cases F with
   | some y=>cases a
   | none=>
    cases a;obtain ⟨vs,B⟩:=d;obtain ⟨cs,t,g,z,e3,G⟩:=B.row;refine ⟨_,cap,r,s,A,λi j hi h=>?_⟩;obtain rfl:j=0:=by omega
    have K:i+1<vs.size:=by rw [B.size];omega
    have D:=G i hi;rw [zIe K] at D;refine ⟨p.blk,p.off,vs[i+1],by simp,X _ B.blk,by unfold World.cell?;simp [g,D],?_⟩;have E:=B.has i hi λL e=>by cases e
    rw [show vs.getD (i+1) undef=vs[i+1] by simp [K]] at E;rcases E with ⟨e,e'⟩ | ⟨q,c,e,H,g2,O,I,J⟩
    ·simp_all [AJ]
    ·rw [e];refine ⟨_,c,rfl,H,O,λk hk=>⟨q.blk,q.off,rfl,X _ I.1,?_⟩⟩;obtain ⟨x,N,Z⟩:=J.cell hk;rw [N,Z]
  | _=>cases a
 | ints l=>
  cases a;have X:=X p.blk (by rw [d.1]);refine ⟨_,cap,r,s,A,λj h=>⟨p.blk,p.off,by simp,X,?_⟩⟩;obtain ⟨x,g,z⟩:=AX.cell d h;rw [g,z]
 | bools l=>
  cases a;have X:=X p.blk (by rw [d.1]);refine ⟨_,cap,r,s,A,λj h=>⟨p.blk,p.off,by simp,X,?_⟩⟩;obtain ⟨x,g,z⟩:=AX.cell d h;rw [g,z]
 | arr m n f=>
  cases a;have X:=X p.blk (by rw [d.1]);refine ⟨_,cap,r,s,A,λi j hi h=>?_⟩;have Q:i*m+j<n*m:=zGS (by rw [zMi];omega:i*m+j<(i+1)*m) (zI0 m hi);obtain ⟨x,g,z⟩:=AX.cell d Q;have R:0<m:=by omega
  have S:(i*m+j)/m=i:=by rw [zI7,Nat.mul_add_div R];simp [Nat.div_eq_of_lt h]
  have T:(i*m+j) % m=j:=by rw [zI7,Nat.mul_add_mod];exact Nat.mod_eq_of_lt h
  rw [S,T] at z;exact ⟨p.blk,p.off,x,by simp,X,g,AJ.out _ (D5 Y []) z⟩
variable {o':DO}{h:DH}{k:Nat}
def Wg {i:Nat}(hi:((h.set k none).map (bU k m v))[i]? =some (some o')):i≠k/\ ∃ o,h[i]? =some (some o)/\ bU k m v (some o)=some o':=by
 rw [zIC] at hi;cases e:(h.set k none)[i]? with
 | none=>rw [e] at hi;cases hi
 | some x=>
  rw [e] at hi;have hi:bU k m v x=some o':=zGJ hi;cases x with
  | none=>cases hi
  | some o=>grind
def ER (S S':St):Prop:=∀ (P:Program) (Γ:Au) (N:Ψ) (ρ:List AI) (a:Act) (w:World),AS P Γ N S ρ a w -> AS P Γ N S' ρ a w/\ A3 S.h ρ w S'.h ρ w
variable {S:St}
def ER.frz (k:Nat)(hk:S.h[k]? =some (some o))(ho:kL o=some (m,n,v))(Q:Bp (S.fr.flatMap (TF k m n)))(J:Bp (S.h.flatMap (ug k m n))):ER S (KL k m v S):=λP Γ N ρ a w R=>by
 obtain ⟨p,B,hr⟩:=R.hr.obj k _ hk
 have M: ∀ b,MO (KL k m v S).h ρ b -> ∃ i o p',i≠k/\ S.h[i]? =some (some o)/\ ρ[i]? =some p'/\ p'.foot b:=by
  rintro b ⟨i,o',p',r,s,O⟩;obtain ⟨t,F,z,_⟩:=Wg r;exact ⟨i,F,p',t,z,s,O⟩
 have hN: ∀ b,p.foot b -> ¬ MS N (KL k m v S).h ρ b:=by
  rintro b L (T | hb)
  ·exact (R.hr.cel k _ p b hk B L).2.1 T
  ·obtain ⟨i,F,p',t,z,s,O⟩:=M _ hb;exact R.hr.dis i k _ _ p' p b t z hk s B O L
 have Y: ∀ b,MS N (KL k m v S).h ρ b -> MS N S.h ρ b:=λb hb=>hb.imp id λhb=>by
  obtain ⟨i,F,p',_,z,s,O⟩:=M _ hb;exact ⟨i,F,p',z,s,O⟩
 have conv: ∀ (d:DV) (u:Value),Bp (TF k m n d) -> AJ (MS N S.h ρ) w d ρ u -> AJ (MS N (KL k m v S).h ρ) w (JS k m v d) ρ u:=by
  intro d u C D;cases d with
  | msl k' m' off n'=>
   simp only [TF,JS] at C ⊢;split at C
   ·rename_i e;obtain ⟨rfl,rfl,rfl⟩:=e;rw [zEZ ⟨rfl,rfl,rfl⟩];obtain ⟨p',cap,U,e,r,s,_⟩:=D;have V:p'=p:=zGJ (U.symm.trans B);subst V;have en:=C.1
    grind [zJT]
   ·rename_i e;rw [zGN e];exact AJ.out _ (D5 Y ρ) D
  | _=>exact AJ.out _ (D5 Y ρ) D
 refine ⟨⟨⟨by simp [KL,R.hr.len],λi o' hi=>?_,λi o' p' b r s O=>?_,λi W o1 F X p2 b Z r s O g4 g5 g6=>?_,R.hr.nlt,R.hr.gi⟩,⟨by simp [KL,R.fr.1],λi hi=>?_⟩⟩,⟨AQ.refl _ w,λb hb=>.inl ?_⟩⟩
 ·obtain ⟨t,F,z,c⟩:=Wg hi;obtain ⟨p',U,g⟩:=R.hr.obj i F z;refine ⟨p',U,?_⟩;cases F with
  | cells l=>
   cases c
   show AX w p' (l.map (JS k m v)).length _
   rw [zGX];refine AX.out g rfl λj u y q=>?_
   have:(l.map (JS k m v)).getD j .any=JS k m v (l.getD j .any):=by simp [y]
   rw [this];refine conv _ _ ?_ q
   have E:some (DO.cells l)∈S.h:=zHw z;have:=wn J E;exact lr (l:=l) this (by simp [y])
  | ints l=>cases c;exact AX.out g rfl λj u _ q=>q
  | bools l=>cases c;exact AX.out g rfl λj u _ q=>q
  | arr m n f=>cases c;exact AX.out g rfl λj u _ q=>AJ.out _ (D5 Y []) q
  | iter encs=>
   cases c;obtain ⟨gf,lb,Rd,G,H,A,q4⟩:=g;exact ⟨gf,lb,Rd,G,H,λb hb=>⟨λI=>(A b hb).1 (Y b I),(A b hb).2⟩,q4⟩
  | ro l=>
   cases c;obtain ⟨r1,r2,r3⟩:=g;refine ⟨r1,λI=>r2 (Y _ I),?_⟩
   show AX w _ (l.map (JS k m v)).length _
   rw [zGX];refine AX.out r3 rfl λj u y q=>?_
   have:(l.map (JS k m v)).getD j .any=JS k m v (l.getD j .any):=by simp [y]
   rw [this];refine conv _ _ ?_ q
   have E:some (DO.ro l)∈S.h:=zHw z;have:=wn J E;exact lr (l:=l) this (by simp [y])
  | mo x=>cases c;exact g
 ·obtain ⟨t,F,z,c⟩:=Wg r;obtain ⟨G,H,A⟩:=R.hr.cel i F p' b z s O;exact ⟨G,H,A⟩
 ·obtain ⟨t,o3,z,_⟩:=Wg r;obtain ⟨TQ,o4,Wx,_⟩:=Wg s;exact R.hr.dis i W o3 o4 X p2 b Z z Wx O g4 g5 g6
 ·have K:i<S.fr.length:=by simpa [KL] using hi
  have:(KL k m v S).fr.getD i .any=JS k m v (S.fr.getD i .any):=by simp [KL,K]
  rw [this];refine conv _ _ (lr Q (by simp [K])) (R.fr.2 i K)
 ·obtain ⟨i,F,p',_,z,s,O⟩:=M _ hb;exact ⟨i,F,p',z,s,O⟩
def Wh (k:Nat)(S:St):Option (St×List Prop):=match S.h.getD k none with
 | some o=>match kL o with
  | some (m,n,v)=>some (KL k m v S,S.fr.flatMap (TF k m n)++S.h.flatMap (ug k m n))
  | none=>none
 | none=>none
def ER.frzE (k:Nat)(S':St)(vs:List Prop)(h:Wh k S=some (S',vs))(p:Bp vs):ER S S':=by
 unfold Wh at h;split at h
 ·rename_i o ho;split at h
  ·rename_i m n v M;cases h;obtain ⟨a,b⟩:=DY.1 p;refine ER.frz k ?_ M a b
   grind
  ·cases h
 ·cases h
theorem ER.refl (S:St):ER S S:=λ_ _ _ _ _ _ R=>⟨R,A3.refl _ _ _⟩
def ER.trans {A B C:St}(h:ER A B)(k:ER B C):ER A C:=λP Γ N ρ a w R=>by
 obtain ⟨H,b⟩:=h P Γ N ρ a w R;obtain ⟨T,D⟩:=k P Γ N ρ a w H;exact ⟨T,b.trans D⟩
def MO.put (hk:h[k]? =some (some o)){b:Nat}:MO (h.set k (some o')) ρ b↔MO h ρ b:=by
 have f:=(zGe.1 hk).1;constructor
 ·rintro ⟨i,x,p,d,a,c⟩;rw [zJB] at d
  by_cases e:k=i
  ·subst e;exact ⟨k,o,p,hk,a,c⟩
  ·rw [zGN e] at d;exact ⟨i,x,p,d,a,c⟩
 ·rintro ⟨i,x,p,d,a,c⟩
  by_cases e:k=i
  ·subst e;exact ⟨k,o',p,by simp [f],a,c⟩
  ·exact ⟨i,x,p,by grind,a,c⟩
def ER.obj (hk:S.h[k]? =some (some o))(I: ∀ (P:Program) (M:Ψ) (w:World) (ρ:List AI) (p:AI),EF P M w ρ p o -> EF P M w ρ p o'):ER S ⟨S.fr,S.h.set k (some o')⟩:=λP Γ N ρ a w R=>by
 have Y: ∀ b,MS N (S.h.set k (some o')) ρ b↔MS N S.h ρ b:=λb=>or_congr Iff.rfl (MO.put hk)
 have back: ∀ {i:Nat} {x:DO},(S.h.set k (some o'))[i]? =some (some x) -> ∃ y,S.h[i]? =some (some y)/\ (i=k/\ x=o'∨y=x):=by
  grind
 have O:BQ (MS N S.h ρ) w ρ (MS N (S.h.set k (some o')) ρ) w ρ:=D5 (λb c=>(Y b).1 c) ρ;refine ⟨⟨⟨by simp [R.hr.len],λi x hi=>?_,λi x p b d s f=>?_,λi v o1 o2 l p2 b D d s f m G n=>?_,R.hr.nlt,R.hr.gi⟩,R.fr.out O⟩,⟨AQ.refl _ w,λb c=>.inl ((MO.put hk).1 c)⟩⟩
 ·rw [zJB] at hi
  by_cases e:k=i
  ·subst e;rw [zEZ rfl,zEZ (zGe.1 hk).1] at hi;cases hi;obtain ⟨p,g,j⟩:=R.hr.obj k o hk;exact ⟨p,g,I P _ w ρ p (j.out O (S:=λ_=>False) (AQ.refl _ _) (λ_ h=>h.elim) λ_ _ _ h=>h)⟩
  ·rw [zGN e] at hi;obtain ⟨p,g,j⟩:=R.hr.obj i x hi;exact ⟨p,g,j.out O (S:=λ_=>False) (AQ.refl _ _) (λ_ h=>h.elim) λ_ _ _ h=>h⟩
 ·obtain ⟨y,e,_⟩:=back d;exact R.hr.cel i y p b e s f
 ·obtain ⟨q,r,_⟩:=back d;obtain ⟨t,z,_⟩:=back s;exact R.hr.dis i v q t l p2 b D r z f m G n
inductive Fz where
 | frz (k:Nat)
 | arr (k n:Nat) (f:Nat -> Nat -> DV)
 | unf (k:Nat)
 | rws
def wa (k W:Nat)(a:Nat -> Nat -> DV)(S:St):Option (St×List Prop):=match S.h.getD k none with
 | some (.arr m n f)=>some (⟨S.fr,S.h.set k (some (.arr m W a))⟩,[n=W/\ ∀ i j,i<n -> j<m -> AN (f i j) (a i j)])
 | _=>none
def bT:Fz -> St -> Option (St×List Prop)
 | .frz k,S=>Wh k S
 | .arr k n f,S=>wa k n f S
 | .unf k,S=>match S.h.getD k none with
  | some (.mo (.rows f (some (_,_,false))))=>some (⟨S.fr,S.h.set k (some (.mo (.rows f none)))⟩,[])
  | _=>none
 | .rws,_=>none
def FV.unf {f:Int -> Ξ}{x:Int}{L:Ξ}{es:Array MapEntry}{Y:Nat}(h:FV w p f (some (x,L,false)) u es Y):FV w p f none u es Y:=
 { h with
  key:=λe J=>let ⟨k,a,b⟩:=h.key e J;⟨k,a,λ_=>b λL e=>by cases e⟩
  inHand:=λk L g e=>by cases e }
def getD_some (ho:h.getD k none=some o):h[k]? =some (some o):=by
 grind
def ER.fz (z:Fz)(S':St)(vs:List Prop)(h:bT z S=some (S',vs))(b:Bp vs):ER S S':=by
 cases z with
 | frz k=>exact ER.frzE k S' vs h b
 | arr k n' f'=>
  simp only [bT,wa] at h;split at h
  ·rename_i m n f a;cases h;obtain ⟨⟨rfl,r⟩,_⟩:=b;refine ER.obj (getD_some a) λP M w ρ p i=>?_
   refine AX.out i rfl λj u d q=>?_
   have v:0<m:=by
    grind
   exact r _ _ ((zMV v).2 d) (Nat.mod_lt _ v) M w [] u q
  ·cases h
 | unf k=>
  simp only [bT] at h;split at h
  ·rename_i f x L a;cases h;exact ER.obj (getD_some a) λP M w ρ p ⟨u,es,Y,A⟩=>⟨u,es,Y,A.unf⟩
  ·cases h
 | rws=>cases h
def Wf:List (Nat×Fz) -> Option Nat -> St -> Option (St×List Prop×List (Nat×Fz))
 | [],_,S=>some (S,[],[])
 | (t,z)::rest,dst,S=>if dst=some t then match bT z S with
  | some (S',vs)=>match Wf rest dst S' with
   | some (R,b,r)=>some (R,vs++b,r)
   | none=>none
  | none=>some (S,[],(t,z)::rest)
  else some (S,[],(t,z)::rest)
def We: ∀ (l:List (Nat×Fz)) {dst:Option Nat} {S S':St} {vs:List Prop} {r:List (Nat×Fz)},Wf l dst S=some (S',vs,r) -> Bp vs -> ER S S'
 | [],dst,S,S',vs,r,h,_=>by cases h;exact ER.refl S
 | (t,z)::rest,dst,S,S',vs,r,h,p=>by
  simp only [Wf] at h;split at h
  ·split at h
   ·rename_i e f a;split at h
    ·rename_i S2 FW r2 b;cases h;obtain ⟨L,I⟩:=DY.1 p;exact (ER.fz z e f a L).trans (We rest b I)
    ·cases h
   ·cases h;exact ER.refl S
  ·cases h;exact ER.refl S
abbrev PA {α:Type} [Inhabited α] (enc:α -> Nat -> DV) (L:List α):Nat -> Nat -> DV:=λi j=>enc (L.getD i default) j
variable {g:Nat -> Nat -> DV}{α:Type}
def Rn [Inhabited α] {enc:α -> Nat -> DV} {L L':List α} {c:Nat}  (u:n=L.length) (l:c=L'.length) (a: ∀ i j,i<c -> j<m -> AN (g i j) (PA enc L' i j)):n+c=(L++L').length/\ ∀ i j,i<n+c -> j<m -> AN (if i<n then PA enc L i j else g (i-n) j) (PA enc (L++L') i j):=by
 subst u;subst l;refine ⟨by simp,λi j hi hj=>?_⟩;simp only [PA,zGH] at a ⊢
 by_cases h:i<L.length
 ·rw [zEZ h,zIu h];exact λ_ _ _ _ h=>h
 grind
def zCD [Inhabited α] {enc:α -> Nat -> DV}  {x:α}  (hg: ∀ i j,j<m -> AN (g i j) (enc x j)):n=(List.replicate n x).length/\ ∀ i j,i<n -> j<m -> AN (g i j) (PA enc (List.replicate n x) i j):=by
 grind
theorem Aw :AN d d:=λ_ _ _ _ h=>h
def zD9 {l:List DV}(hl:l.all J1=true)(hm:m=l.length): ∀ j,j<m -> J1 (l.getD j .any)=true:=λj hj=>by
 grind
def JY:List DV -> List DV -> Prop
 | [],[]=>True
 | d::ds,e::es=>AN d e/\ JY ds es
 | _,_=>False
theorem Tm: ∀ {l l':List DV},JY l l' -> l.length=l'.length/\ ∀ j,j<l.length -> AN (l.getD j .any) (l'.getD j .any)
 | [],[],_=>⟨rfl,λj a=>absurd a (zGR j)⟩
 | d::ds,e::es,⟨h1,b⟩=>by
  obtain ⟨q1,q2⟩:=Tm b
  grind
 | [],_::_,h=>h.elim
 | _::_,[],h=>h.elim
theorem ww {l l':List DV}(h:JY l l')(j:Nat):AN (l.getD j .any) (l'.getD j .any):=by
 grind [Tm,Aw]
def fG:List DV -> List (List DV) -> Prop
 | [],[]=>True
 | v::vs,c::cs=>(∃ l,KT v=some l/\ JY l c)/\ fG vs cs
 | _,_=>False
theorem pm: ∀ {vs:List DV} {cs:List (List DV)},fG vs cs -> vs.length=cs.length/\ ∀ i,i<vs.length -> ∃ l,KT (vs.getD i .any)=some l/\ JY l (cs.getD i [])
 | [],[],_=>⟨rfl,λi hi=>absurd hi (zGR i)⟩
 | v::vs,c::cs,⟨h1,b⟩=>by
  obtain ⟨q1,q2⟩:=pm b
  grind
 | [],_::_,h=>h.elim
 | _::_,[],h=>h.elim
def El [Inhabited α] {c:α -> List DV} {L:List α} {vals:List DV}  (hn:n=vals.length) (h:fG vals (L.map c)):n=L.length/\ ∀ i j,i<n -> j<m -> AN (match KT (vals.getD i .any) with | some l=>l.getD j .any | none=>.any) (PA (λx j=>(c x).getD j .any) L i j):=by
 grind [pm,List.length_map,ww]
def ph [Inhabited α] {c:α -> List DV} {x:α} {l:List DV}  (h:JY l (c x)):n=(List.replicate n x).length/\ ∀ i j,i<n -> j<m -> AN (l.getD j .any) (PA (λx j=>(c x).getD j .any) (List.replicate n x) i j):=
 zCD λ_ j _=>ww h j
end
end Go.Proofs.YtodinaconebmdaaGreatDoor
