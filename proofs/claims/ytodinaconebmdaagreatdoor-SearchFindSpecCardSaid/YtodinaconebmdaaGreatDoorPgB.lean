/- Part 2 of 8 of what the proofs of these laws stand on. -/
import Derived.Test.YtodinaconebmdaaGreatDoorPgA
import Derived.MapKept
import Derived.Test.YtodinaconebmdaaGreatDoorProg
import Derived.Shelf.Spec.TrailingZeros
set_option linter.all false
namespace Go.Proofs.YtodinaconebmdaaGreatDoor
open Go.RowKit
abbrev zLW:=@List.mem_append
abbrev zLa:=@Bool.not_true
abbrev zLl:=@Go.MapKept.run_getObj_map
abbrev zMP:=@List.not_mem_nil
abbrev zMZ:=@Go.heap_alloc_new
abbrev zPj:=@Go.MapKept.run_setObj_map
abbrev zP0:=@beq_self_eq_true
abbrev zP2:=@Go.MapKept.run_findKey
abbrev zQD:=@List.Perm.refl
abbrev zQH:=@Array.getElem?_modify
section
def TX (P:Program)(t:TypeId):Bool:=match P.underlying t with
 | some (.int .i64)=>true
 | _=>false
theorem zJP {P:Program}{t:TypeId}(h:TX P t=true):P.underlying t=some (.int .i64):=by
 grind [TX]
def Hj (P:Program)(t:TypeId):Option Nat:=match P.underlying t with
 | some (.int .i64)=>some 1
 | some (.struct z)=>match z.toList with
  | [f,g]=>if f.name != "_" &&g.name != "_" &&decide (f.offset=0)&&decide (g.offset=1)&&TX P f.type&&TX P g.type&&!P.stoodInHeld t then some 2 else none
  | _=>none
 | _=>none
section
variable {P:Program} {w:World} {t:TypeId}
variable {n:Nat}
theorem TU (h:Hj P t=some n):(n=1/\ P.underlying t=some (.int .i64))∨∃ f g z,n=2/\ P.underlying t=some (.struct z)/\ z.toList= [f,g]/\ f.name≠ "_" /\ g.name≠ "_" /\ f.offset=0/\ g.offset=1/\ P.underlying f.type=some (.int .i64)/\ P.underlying g.type=some (.int .i64)/\ P.stoodInHeld t=false:=by
 unfold Hj at h;split at h
 ·grind
 ·split at h
  ·grind [TX]
  ·cases h
 ·cases h
theorem Va {t:TypeId}(h:P.underlying t=some (.int .i64))(cs:Array Value)(o:Nat)(v:Value)(hv:cs[o]? =some v):(part t cs o).run P w= .ok v w:=by
 simp_all [part,Vb,JN]
variable {x:Ξ}
def ck (h:x.length=2): ∃ a b,x= [a,b]:=by
 match x,h with
 | [a,b],_=>exact ⟨a,b,rfl⟩
def QW (h:x.length=1): ∃ a,x= [a]:=by
 match x,h with
 | [a],_=>exact ⟨a,rfl⟩
theorem TT (hk:Hj P t=some n)(d:x.length=n)(e:Bool):(Instr.checkKey e 10000 t (BW x)).run P w= .ok () w:=by
 rcases TU hk with ⟨rfl,c⟩ | ⟨f,g,fs,rfl,c,O,n1,n2,o1,o2,v,E,_⟩
 ·obtain ⟨a,rfl⟩:=QW d;exact MapKept.run_checkKey c (by trivial) e 9999
 ·obtain ⟨a,b,rfl⟩:=ck d
  show (Instr.checkKey e (9999+1) t (.agg #[.int .i64 a,.int .i64 b])).run P w=_
  unfold Instr.checkKey;have c1: ∀ a,(Instr.checkKey e 9999 f.type (.int .i64 a)).run P w= .ok () w:=λa=>MapKept.run_checkKey v (by trivial) e 9998
  have c2: ∀ a,(Instr.checkKey e 9999 g.type (.int .i64 a)).run P w= .ok () w:=λa=>MapKept.run_checkKey E (by trivial) e 9998
  simp only [zJ2,zJt c,Result.andThen];rw [←Array.forIn_toList,O]
  simp_all [Va]
theorem zJG (hk:Hj P t=some n){y:Ξ}(e:x.length=n)(hy:y.length=n):(Op.equal t (BW x) (BW y)).run P w= .ok (x==y) w:=by
 rcases TU hk with ⟨rfl,h⟩ | ⟨f,g,z,rfl,h,O,i,V,o1,j,v,E,l⟩
 ·obtain ⟨a,rfl⟩:=QW e;obtain ⟨b,rfl⟩:=QW hy
  show (Op.equalIn (9999+1) t (.int .i64 a) (.int .i64 b)).run P w=_
  simp_all [zP6]
 ·obtain ⟨a,b,rfl⟩:=ck e;obtain ⟨c,d,rfl⟩:=ck hy;have S:P.fieldsOf t=z:=by grind [Program.fieldsOf]
  show (Op.equalIn (9999+1) t (.agg #[.int .i64 a,.int .i64 b]) (.agg #[.int .i64 c,.int .i64 d])).run P w=_
  rw [run_equalIn_struct w 9999 t _ _ (by rw [S];exact h) l,S,O];have B: ∀ a c:Int,(Op.equalIn 9999 f.type (.int .i64 a) (.int .i64 c)).run P w= .ok (a==c) w:=λa c=>zP6 w 9998 f.type .i64 .i64 a c v
  have F: ∀ a c:Int,(Op.equalIn 9999 g.type (.int .i64 a) (.int .i64 c)).run P w= .ok (a==c) w:=λa c=>zP6 w 9998 g.type .i64 .i64 a c E
  simp only [Op.eqFields,i,V,ne_eq,not_false_eq_true,zL0,o1,j,zJ2];rw [Va v _ 0 (.int .i64 a) rfl];simp only [Result.andThen];rw [Va v _ 0 (.int .i64 c) rfl];simp only [Result.andThen,B,Sem.run_ite]
  by_cases k:a=c
  ·subst k;simp only [zP0,zLa,zLk,zP3,zJ2];rw [Va E _ 1 (.int .i64 b) rfl];simp only [Result.andThen];rw [Va E _ 1 (.int .i64 d) rfl];simp only [Result.andThen,F,Sem.run_ite]
   by_cases m:b=d
   ·subst m;simp
   simp_all
  simp_all
theorem zJF (hk:Hj P t=some n)(m:x.length=n){T:KS}(o: ∀ y∈T,y.length=n){es:List MapEntry}(M: ∀ e∈es,∃ y∈T,e.key=BW y):
 ((Instr.findKey t (BW x) es).run P w= .ok none w/\ ∀ e∈es,e.key≠BW x)∨∃ j e,(Instr.findKey t (BW x) es).run P w= .ok (some (j,e.val)) w/\ es[j]? =some e/\ e.key=BW x:=by
 have ask: ∀ (es:List MapEntry) (i:Nat),(∀ e∈es,∃ y∈T,e.key=BW y) -> ((Instr.findAsking t (BW x) es i).run P w= .ok none w/\ ∀ e∈es,e.key≠BW x)∨∃ j e,(Instr.findAsking t (BW x) es i).run P w= .ok (some (i+j,e.val)) w/\ es[j]? =some e/\ e.key=BW x:=by
  intro es
  induction es with
  | nil=>intro i _;exact .inl ⟨rfl,λe M=>by cases M⟩
  | cons e es q=>
   intro i M;obtain ⟨y,hy,A⟩:=M e Z3;have c:(Op.equal t (BW x) e.key).run P w= .ok (x==y) w:=by grind [zJG]
   by_cases I:x=y
   ·subst I;exact .inr ⟨0,e,by simp_all [Instr.findAsking],rfl,A⟩
   ·have O:(x==y)=false:=by simp [I]
    rcases q (i+1) (λe Ln=>M e (by simp [Ln])) with ⟨p,r⟩ | ⟨j,h,p,r,R⟩
    ·refine .inl ⟨by simp_all [Instr.findAsking],λh Ln=>?_⟩;rcases zKP.1 Ln with rfl | Ln
     ·grind [wl]
     ·exact r h Ln
    ·exact .inr ⟨j+1,h,by simp [Instr.findAsking,c,O,Result.andThen,p];omega,by simpa using r,R⟩
 rcases TU hk with ⟨rfl,s⟩ | ⟨f,g,fs,rfl,s,_⟩
 ·obtain ⟨a,rfl⟩:=QW m
  rcases MapKept.findNow_spec (d:=.int .i64) (k:=.int .i64 a) (by trivial) es 0 (λe z=>by
   obtain ⟨y,hy,A⟩:=M e z;obtain ⟨b,rfl⟩:=QW (o y hy);rw [A];trivial) with ⟨c,l⟩ | ⟨j,e,c,l,u⟩
  ·grind [MapKept.run_findKey,BW]
  ·exact .inr ⟨j,e,by simp_all [zP2,BW],l,u⟩
 ·have hn: ∀ es:List MapEntry,(∀ e∈es,∃ y∈T,e.key=BW y) -> (Instr.findKey t (BW x) es).run P w=(match es with | []=>.ok none w | _=>(Instr.findAsking t (BW x) es 0).run P w):=λes M=>by
   cases es with
   | nil=>simp_all [Instr.findKey,zJt,Instr.findNow]
   | cons e es=>
    simp_all [Instr.findNow,Instr.sameNow,Instr.findKey,zJt]
  grind
theorem zJE (hk:Hj P t=some n)(c:x.length=n):(Instr.keyThatStays (BW x) (BW x)).run P w= .ok (BW x) w:=by
 rcases TU hk with ⟨rfl,e⟩ | ⟨f,g,fs,rfl,e,_⟩
 ·obtain ⟨a,rfl⟩:=QW c;exact MapKept.run_keyThatStays (d:=.int .i64) (by trivial)
 ·obtain ⟨a,b,rfl⟩:=ck c
  simp_all [Instr.sameBits,BW,Instr.keyThatStays]
end
/-! ### Sets in order-/
def wN:Ξ -> Ξ -> Bool
 | _,[]=>false
 | [],_::_=>true
 | a::r,b::s=>decide (a<b)||(a==b&&wN r s)
def cu (x:Ξ):KS -> KS
 | []=>[x]
 | y::r=>if wN x y then x::y::r else y::cu x r
def Co (x:Ξ)(l:KS):KS:=if l.contains x then l else cu x l
theorem ww (x:Ξ): ∀ l:KS,(cu x l).Perm (x::l)
 | []=>zQD _
 | y::r=>by
  unfold cu;split
  ·exact zQD _
  ·exact ((ww x r).cons y).trans (List.Perm.swap x y r)
variable {l:KS}{x:Ξ}
theorem ul (h:x∈l):Co x l=l:=by unfold Co;simp [h]
theorem jY (h:x∉l):(Co x l).Perm (x::l):=by grind [Co,ww]
theorem QN {y:Ξ}:y∈Co x l↔y=x∨y∈l:=by
 grind [ul,jY]
section
variable {P:Program} {w:World} {b n:Nat} {l:KS} {es:Array MapEntry} {Ao:Nat}
def Fm.key (h:Fm w b n l es Ao): ∀ e∈es.toList,∃ y∈l,e.key=BW y:=λe M=>by
 have:e.key∈es.toList.map (·.key):=zL1.2 ⟨e,M,rfl⟩;obtain ⟨y,a,c⟩:=zL1.1 (h.keys.mem_iff.1 this);exact ⟨y,a,c.symm⟩
theorem Fm.has (h:Fm w b n l es Ao){x:Ξ}:x∈l↔∃ e∈es.toList,e.key=BW x:=by
 constructor
 ·intro d;have:BW x∈l.map BW:=zL1.2 ⟨x,d,rfl⟩;obtain ⟨e,a,c⟩:=zL1.1 (h.keys.mem_iff.2 this);exact ⟨e,a,c⟩
 ·rintro ⟨e,a,c⟩;obtain ⟨y,h3,h4⟩:=h.key e a
  grind [wl]
def Fm.find (h:Fm w b n l es Ao){t:TypeId}(hk:Hj P t=some n){x:Ξ}(d:x.length=n):
 (x∉l/\ (Instr.findKey t (BW x) es.toList).run P w= .ok none w)∨(x∈l/\ ∃ j e,(Instr.findKey t (BW x) es.toList).run P w= .ok (some (j,.bool true)) w/\ es[j]? =some e/\ e.key=BW x/\ e.val= .bool true):=by
 rcases zJF (w:=w) hk d h.len h.key with ⟨c,a⟩ | ⟨j,e,c,a,f⟩
 ·exact .inl ⟨λd=>by obtain ⟨e,p,r⟩:=h.has.1 d;exact a e p r,c⟩
 ·have z:e∈es.toList:=zJ1 a;have s:=h.tru e z;exact .inr ⟨h.has.2 ⟨e,z,f⟩,j,e,by rw [←s];exact c,by simpa using a,f,s⟩
def Uy {w:World}{b:Nat}(o:Obj):AS (λk=>k=b) w { w with heap:=w.heap.setIfInBounds b o }:=
 ⟨rfl,rfl,rfl,Z3,λk _ K=>by simp [Ne.symm K]⟩
variable {mt I:TypeId}
def Fm.put (h:Fm w b n l es Ao){p:TypeId}(z:P.underlying mt=some (.map I p))(hk:Hj P I=some n){x:Ξ}(d:x.length=n):
 ∃ w' q r,(Instr.mapUpdate mt (.map (some b)) (BW x) (.bool true)).run P w= .ok () w'/\ AS (λk=>k=b) w w'/\ Fm w' b n (Co x l) q r:=by
 have A:b<w.heap.size:=(zA0.1 h.blk).1;rcases h.find hk d with ⟨f,g⟩ | ⟨f,j,e,g,m,o,s⟩
 ·refine ⟨{ w with heap:=w.heap.setIfInBounds b (.map (es.push { key:=BW x,val:=.bool true,born:=Ao }) (Ao+1)) },es.push { key:=BW x,val:=.bool true,born:=Ao },Ao+1,?_,Uy _,?_⟩
  ·simp [Instr.mapUpdate,zJt z,zLl h.blk,TT hk d,g,zPj _ h.blk,Result.andThen]
  ·refine ⟨by simp [A],?_,((jY f).nodup_iff).2 (List.nodup_cons.2 ⟨f,h.nd⟩),λy hy=>?_,λe M=>?_,λe M=>?_,?_⟩
   ·have B:((es.push { key:=BW x,val:=.bool true,born:=Ao }).toList.map (·.key))=es.toList.map (·.key)++[BW x]:=Z3
    rw [B];refine (List.perm_append_comm).trans ?_;exact (h.keys.cons (BW x)).trans (((jY f).map BW).symm)
   ·rcases QN.1 hy with rfl | hy
    ·exact d
    ·exact h.len y hy
   ·simp only [Array.toList_push,zLW,zMJ] at M;rcases M with M | rfl
    ·exact h.tru e M
    ·rfl
   ·simp only [Array.toList_push,zLW,zMJ] at M;rcases M with M | rfl
    ·exact Nat.lt_succ_of_lt (h.born e M)
    ·exact Nat.lt_succ_self _
   ·have B:((es.push { key:=BW x,val:=.bool true,born:=Ao }).toList.map (·.born))=es.toList.map (·.born)++[Ao]:=Z3
    rw [B];refine List.nodup_append.2 ⟨h.stamps,Z3,λa K c t=>?_⟩;obtain ⟨e,u,g2⟩:=zL1.1 K;have:=h.born e u;simp at t;omega
 ·have O:(es.modify j λe=>{ e with key:=BW x,val:=.bool true })=es:=by
   apply Array.ext_getElem?;intro i;rw [zQH];split
   ·rename_i H;subst H;rw [m]
    show some ({ e with key:=BW x,val:=.bool true }:MapEntry)=some e
    rw [←o,←s]
   ·rfl
  refine ⟨{ w with heap:=w.heap.setIfInBounds b (.map es Ao) },es,Ao,?_,Uy _,?_⟩
  ·have v:((es[j]?).map (·.key)).getD (BW x)=BW x:=by rw [m];exact o
   simp [Instr.mapUpdate,zJt z,zLl h.blk,TT hk d,g,v,zJE hk d,zPj _ h.blk,Result.andThen,O]
  ·rw [ul f];exact { h with blk:=by simp [A] }
def Fm.look (h:Fm w b n l es Ao){z:TypeId}(f:P.underlying mt=some (.map I z))(hk:Hj P I=some n){x:Ξ}(d:x.length=n)(g:(zeroValue z).run P w= .ok (.bool false) w):
 (Instr.lookup mt (.map (some b)) (BW x) false).run P w= .ok (.bool (l.contains x)) w:=by
 rcases h.find hk d with ⟨a,c⟩ | ⟨a,j,e,c,h3,h4,h5⟩
 ·have:l.contains x=false:=by simpa using a
  simp [Instr.lookup,zJt f,zLl h.blk,TT hk d,c,g,Result.andThen,this,a]
 ·have:l.contains x=true:=by simpa using a
  simp [Instr.lookup,zJt f,zLl h.blk,TT hk d,c,Result.andThen,this,a]
end
/-! ### On p6 view-/
def Wd (lk:Option (Nat×Nat×Array MapEntry×Nat))(i:Nat):Prop:=∀ y,lk=some y -> y.1≠i
section
variable {P:Program} {w w':World} {p:AK} {n:Nat} {ls:List (Option KS)} {lk:Option (Nat×Nat×Array MapEntry×Nat)} {vs:Array Value}
variable {b:Nat}
def F5.lies (h:F5 w p n ls lk vs)(c:p.foot b):Ds w b:=by
 rcases h.foot b c with rfl | ⟨j,l,d,a⟩
 ·obtain ⟨cs,t,e,_⟩:=h.row;exact .cells e
 ·obtain ⟨A,f,_,_,es,Ao,r,_⟩:=h.has j l d;have:A=b:=by rw [f] at a;cases a;rfl
  subst this;exact ⟨_,rfl,(),r.blk⟩
theorem F5.put (h:F5 w p n ls lk vs){i:Nat}{l l':KS}{es:Array MapEntry}{Ao:Nat}(hi:ls[i]? =some (some l))(d:vs[i]? =some (Value.map (some b)))(f:AS (λk=>k=b) w w')(hm:Fm w' b n l' es Ao)(xf:Wd lk i):F5 w' p n (ls.set i (some l')) lk vs:=by
 obtain ⟨r,m,o,g3,_⟩:=h.has i l hi;have:r=b:=by rw [m] at d;cases d;rfl
 subst this
 have get: ∀ {j:Nat} {x:Option KS},(ls.set i (some l'))[j]? =some x -> (j=i/\ x=some l')∨(j≠i/\ ls[j]? =some x):=λ{j x} a=>by
  grind
 refine ⟨h.val,by simp [h.size],?_,h.blk,λj u a=>?_,λj a=>?_,λA q=>?_,h.inj⟩
 ·obtain ⟨cs,t,F,c⟩:=h.row;exact ⟨cs,t,(f.block _ (zA0.1 F).1 (λe=>o e.symm)).trans F,by simpa using c⟩
 ·rcases get a with ⟨rfl,e⟩ | ⟨K,a⟩
  ·grind [Wd]
  ·obtain ⟨g,F,c,v,S,y,s,z⟩:=h.has j u a;refine ⟨g,F,c,v,S,y,s.out (f.block _ (zA0.1 s.blk).1 λe=>K ?_),z⟩;subst e;exact h.inj j i g F d
 ·rcases get a with ⟨rfl,e⟩ | ⟨K,a⟩
  ·cases e
  ·exact h.nil j a
 ·rcases h.foot A q with e | ⟨j,u,F,c⟩
  ·exact .inl e
  grind
end
def cm (n:Nat)(d:DV):Option Ξ:=match d with
 | .int .i64 a=>if n=1 then some [a] else none
 | .agg m f=>if m=n/\ n≠1 then if (List.range m).all λj=>JL (f j) then some ((List.range m).map λj=>H8 (f j)) else none else none
 | _=>none
def ki (n:Nat)(x:Ξ):DV:=if n=1 then .int .i64 (x.getD 0 0) else .agg n (GD n λj=>.int .i64 (x.getD j 0))
section
variable {P:Program} {w:World} {ρ:List AK} {M:Ψ}
def wm {x:Ξ}(h:x.length≠1):BW x= .agg (x.map λa=>.int .i64 a).toArray:=by
 unfold BW;split
 ·simp at h
 ·rfl
variable {n:Nat}
theorem wn {d:DV}{x:Ξ}{v:Value}(h:cm n d=some x)(a:AI M w d ρ v):v=BW x/\ x.length=n:=by
 unfold cm at h;split at h
 ·grind [BW,AI]
 ·rename_i m f;split at h
  ·rename_i z;split at h
   ·cases h;have o:((List.range m).map λj=>H8 (f j)).length=m:=Z3
    refine ⟨?_,by rw [o];exact z.1⟩;obtain ⟨cs,rfl,hs,hc⟩:=a;rw [wm Z2]
    congr 1
    grind [cr]
   ·cases h
  ·cases h
 ·cases h
theorem zJH {x:Ξ}(h:x.length=n):AI M w (ki n x) ρ (BW x):=by
 unfold ki;split
 ·rename_i e;subst e;obtain ⟨a,rfl⟩:=QW h;rfl
 ·rename_i e;rw [wm Z2]
  simp_all [AI,GD]
end
def Xk:Nat -> DH -> Option (Nat×Nat×List (Option KS)×Nat×Nat×Array MapEntry×Nat)
 | _,[]=>none
 | k,some (.mo (.sets n ls (some y)))::_=>some (k,n,ls,y)
 | k,_::r=>Xk (k+1) r
variable {n:Nat}
theorem zNI {ls:List (Option KS)}{y:Nat×Nat×Array MapEntry×Nat}{k:Nat}: ∀ (h:DH) (a:Nat),Xk a h=some (k,n,ls,y) -> a<=k/\ h[k-a]? =some (some (.mo (.sets n ls (some y)))):=by
 intro h
 induction h with
 | nil=>intro a e;cases e
 | cons x r ih=>
  intro a e
  have step:Xk (a+1) r=some (k,n,ls,y) -> a<=k/\ (x::r)[k-a]? =some (some (.mo (.sets n ls (some y)))):=λe=>by
   grind
  match x,e with
  | none,e=>exact step e
  | some (.cells _),e=>exact step e
  | some (.ints _),e=>exact step e
  | some (.bools _),e=>exact step e
  | some (.arr _ _ _),e=>exact step e
  | some (.gro _ _ _),e=>exact step e
  | some (.iter _),e=>exact step e
  | some (.ro _),e=>exact step e
  | some (.mo (.set _ _)),e=>exact step e
  | some (.mo (.mit _ _ _ _ _ _)),e=>exact step e
  | some (.mo (.rows _ _)),e=>exact step e
  | some (.mo (.rws _ _)),e=>exact step e
  | some (.mo (.sets _ _ none)),e=>exact step e
  | some (.mo (.sets _ _ (some _))),e=>simp_all [Xk]
def QP (P:Program)(t:TypeId):Option (Nat×TypeId):=match P.underlying t with
 | some (.map k e)=>match Hj P k with
  | some n=>match P.info? e with
   | some i=>match i.zero with
    | some (.bool false)=>some (n,k)
    | _=>none
   | none=>none
  | none=>none
 | _=>none
theorem kN {P:Program}{t k:TypeId}(h:QP P t=some (n,k)): ∃ e,P.underlying t=some (.map k e)/\ Hj P k=some n/\ ∀ w,(zeroValue e).run P w= .ok (.bool false) w:=by
 unfold QP at h;split at h
 ·split at h
  ·split at h
   ·split at h
    ·simp_all [zeroValue,typeInfo]
    ·cases h
   ·cases h
  ·cases h
 ·cases h
def bN (P:Program)(S:St)(t:TypeId)(m k x:DV):Option (DV×DH×List Prop×Bool):=match QP P t with
 | some (n,_)=>match cm n k,x with
  | some x,.bool true=>match m with
   | .it j=>match S.h[j]? with
    | some (some (.mo (.set e l)))=>if e=n then some (.any,S.h.set j (some (.mo (.set n (Co x l)))),[],false) else none
    | _=>none
   | .mri j i=>match S.h[j]? with
    | some (some (.mo (.sets e ls lk)))=>if e=n then some (.any,S.h.set j (some (.mo (.sets n (ls.set i (some (Co x ((ls.getD i none).getD [])))) lk))),[(ls.getD i none).isSome=true,Wd lk i],false) else none
    | _=>none
   | _=>none
  | _,_=>none
 | none=>none
def kO (P:Program)(S:St):Op -> Option (DV×DH×List Prop×Bool)
 | .makeMap t none=>match QP P t with
  | some (n,_)=>some (.it S.h.length,S.h++[some (.mo (.set n []))],[],true)
  | none=>none
 | .mapUpdate t m k x=>bN P S t (Ad S.fr m) (Ad S.fr k) (Ad S.fr x)
 | .insert t m k x=>bN P S t (Ad S.fr m) (Ad S.fr k) (Ad S.fr x)
 | .lookup t m k false=>match QP P t with
  | some (n,_)=>match cm n (Ad S.fr k) with
   | some x=>match Ad S.fr m with
    | .it j=>match S.h[j]? with
     | some (some (.mo (.set e l)))=>if e=n then some (.bool (l.contains x),S.h,[],true) else none
     | _=>none
    | .mri j i=>match S.h[j]? with
     | some (some (.mo (.sets e ls _)))=>if e=n then some (.bool (((ls.getD i none).getD []).contains x),S.h,[(ls.getD i none).isSome=true],true) else none
     | _=>none
    | _=>none
   | none=>none
  | none=>none
 | .range t m=>match QP P t with
  | some (n,_)=>match Ad S.fr m with
   | .mri j i=>match S.h[j]? with
    | some (some (.mo (.sets e ls (some (Q,X,es,Ao)))))=>if e=n then some (.it S.h.length,S.h++[some (.mo (.mit n X es Ao ((ls.getD i none).getD []) none))],[(ls.getD i none).isSome=true,Q=i],true) else none
    | _=>none
   | _=>none
  | none=>none
 | .entry m=>match Ad S.fr m with
  | .it j=>match S.h[j]? with
   | some (some (.mo (.mit n X es Ao _ (some x))))=>match Xk 0 S.h with
    | some (_,_,ls,i,K,a,b)=>some (.tup 2 (GD 2 λc=>if c=0 then ki n x else .bool true),S.h,[(ls.getD i none).isSome=true,K=X,a=es,b=Ao],true)
    | none=>none
   | _=>none
  | _=>none
 | _=>none
section
variable {P:Program} {Γ:Ay} {N:Ψ} {S:St} {ρ:List AK} {a:Act} {w:World}
variable {i:Nat}{ls:List (Option KS)}
def Xa (h:(ls.getD i none).isSome=true):ls[i]? =some (some ((ls.getD i none).getD [])):=by
 rw [zBS] at h ⊢;cases d:ls[i]? with
 | none=>rw [d] at h;cases h
 | some x=>
  rw [d] at h;cases x with
  | none=>cases h
  | some l=>simp
variable {v:Value}{j:Nat}
theorem iR (R:AU P Γ N S ρ a w){n:Nat}{l:KS}(hk:S.h[j]? =some (some (.mo (.set n l))))(s:AI (MS N S.h ρ) w (.it j) ρ v): ∃ p es Ao,ρ[j]? =some p/\ v= .map (some p.blk)/\ p.foot=(λb=>b=p.blk)/\ p.val=Value.map (some p.blk)/\ Fm w p.blk n l es Ao:=by
 obtain ⟨p,hp,rfl⟩:=s;obtain ⟨p',BE,h1,h2,es,Ao,h3⟩:=R.hr.obj j _ hk
 grind
theorem iP (R:AU P Γ N S ρ a w){n:Nat}{lk:Option (Nat×Nat×Array MapEntry×Nat)}(hk:S.h[j]? =some (some (.mo (.sets n ls lk))))(s:AI (MS N S.h ρ) w (.mri j i) ρ v)(l:(ls.getD i none).isSome=true):
 ∃ p vs b es Ao,ρ[j]? =some p/\ F5 w p n ls lk vs/\ v= .map (some b)/\ vs[i]? =some (Value.map (some b))/\ p.foot b/\ Fm w b n ((ls.getD i none).getD []) es Ao/\ ∀ y,lk=some y -> y.1=i -> y.2=(b,es,Ao):=by
 obtain ⟨p,vs,f,d,D7⟩:=s;obtain ⟨p',L,e,c⟩:=R.hr.obj j _ hk;have:p'=p:=zA2 (L.symm.trans f);subst this;have:e=vs:=by have:=c.val.symm.trans d;cases this;rfl
 obtain ⟨b,g1,g2,g3,es,Ao,g4,g5⟩:=c.has i _ (Xa l)
 grind
variable {d:DV}
def iV (R:AU P Γ N S ρ a w)(s:AI (MS N S.h ρ) w d ρ v):B8 P Γ N S.h ρ w true d S.h v w:=⟨⟨ρ,R.hr,s,A3.refl _ _ _,λ_ _ h=>h⟩,λ_=>Az.refl w⟩
theorem XW (H:As P Γ N S.h ρ w){ob:Obj}(g:dh ob=true){pl:AK}(Hn:pl.foot=λb=>b=w.heap.size){o:DO}(y: ∀ M ρ',BT P M (w.alloc ob) ρ' pl o) 
 (s: ∀ M ρ',ρ'[S.h.length]? =some pl -> AI M (w.alloc ob) d ρ' v) (ext:Bool):B8 P Γ N S.h ρ w ext d (S.h++[some o]) v (w.alloc ob):=by
 have a:Az w (w.alloc ob):=(Az.refl w).allocR _;have O: ∀ b,pl.foot b -> w.heap.size<=b:=λb c=>Z4
 have c:(w.alloc ob).heap[w.heap.size]? =some ob:=zMZ w _;refine ⟨⟨ρ++[pl],H.snoc a (λb e=>⟨O b e,ob,g,(),Z4⟩) (y _ _),?_,A3.snoc H a O,λk p hk=>Ef hk⟩,λ_=>a⟩;exact s _ _ (by rw [←H.len];simp)
variable {ext:Bool}{vs:List Prop}{h':DH}
theorem um (R:AU P Γ N S ρ a w){t:TypeId}{m k x:Operand}(v:bN P S t (Ad S.fr m) (Ad S.fr k) (Ad S.fr x)=some (d,h',vs,ext))(H:BX vs):
 ∃ w',(Instr.mapUpdate t (a.eval m) (a.eval k) (a.eval x)).run P w= .ok () w'/\ B8 P Γ N S.h ρ w ext d h' undef w':=by
 have J:=BV R m;have I:=BV R k;have rx:=BV R x;unfold bN at v;split at v
 ·rename_i n kt L;obtain ⟨e,B,hk,hz⟩:=kN L;split at v
  ·rename_i xs K M;obtain ⟨O,el⟩:=wn K I;rw [M] at rx;have Q:a.eval x= .bool true:=rx;rw [O,Q];split at v
   ·rename_i j Y;split at v
    ·rename_i T l f;split at v
     ·rename_i u;cases v;subst u;rw [Y] at J;obtain ⟨p,es,Ao,g,y,z,U,E⟩:=iR R f J;rw [y];obtain ⟨w',C,D,A,q,r⟩:=E.put B hk el;have o:AS p.foot w w':=by rw [z];exact q
      refine ⟨w',A,⟨ρ,R.hr.write f g o (λb s=>?_) ⟨U,z,C,D,r⟩,trivial,A3.write f g o,λ_ _ h=>h⟩,λh=>by cases h⟩;rw [z] at s;exact ⟨_,rfl,(),by rw [show b=p.blk from s];exact r.blk⟩
     ·cases v
    ·cases v
   ·rename_i j i Y;split at v
    ·rename_i T ls lk f;split at v
     ·rename_i u;cases v;subst u;obtain ⟨F,V,_⟩:=H;rw [Y] at J;obtain ⟨p,vs,b,es,Ao,g,W,y,X,IG,E,_⟩:=iP R f J F;rw [y];obtain ⟨w',C,D,A,q,r⟩:=E.put B hk el;have o:AS p.foot w w':=q.mono λc _ hc=>Z4
      have G:=W.put (Xa F) X q r V;exact ⟨w',A,⟨ρ,R.hr.write f g o (λb s=>G.lies s) ⟨vs,G⟩,trivial,A3.write f g o,λ_ _ h=>h⟩,λh=>by cases h⟩
     ·cases v
    ·cases v
   ·cases v
  ·cases v
 ·cases v
theorem zIw (es:Array MapEntry):leftOf es #[]=es:=by
 grind [leftOf,Array.filter_eq_self]
theorem zEm {r f a Ao:Nat}{seen:Array Nat}{es:Array MapEntry}{e:MapEntry}(hr:w.heap[r]? =some (.mapIter (some f) a seen Ao))(hs:seen.back? =some e.born)(hb:w.heap[f]? =some (.map es Ao))(he:e∈es.toList)(hn:(es.toList.map (·.born)).Nodup):
 (Instr.entry (.pointer (some ⟨r,0,none⟩))).run P w= .ok (.tuple #[e.key,e.val]) w:=by
 have hf:es.find? (·.born==e.born)=some e:=by rw [←Array.find?_toList];grind [find_born]
 simp_all [Instr.entry,getObj,Sem.run]
theorem zIT (R:AU P Γ N S ρ a w)(o:Oper)(f:kO P S o.op=some (d,h',vs,ext))(D:BX vs):BH P (execOp a.eval o) w (B8 P Γ N S.h ρ w ext d h'):=by
 unfold kO at f;split at f
 ·rename_i t g;split at f
  ·rename_i n V L;cases f;refine BH.value (s:=Instr.makeMap t none) (by unfold execOp;rw [g];rfl) (v:=.map (some w.heap.size)) (w':=w.alloc (.map #[] 0)) (by rfl) ?_;refine XW (ob:=.map #[] 0) (o:=.mo (.set n [])) (d:=.it S.h.length) (v:=.map (some w.heap.size)) (pl:=⟨w.heap.size,0,0,.map (some w.heap.size),λb=>b=w.heap.size⟩) R.hr rfl rfl (λM ρ'=>⟨rfl,rfl,#[],0,⟨zMZ w _,Z3,List.nodup_nil,λy hy=>absurd hy zMP,λe F=>absurd F Z3,λe F=>absurd F Z3,Z3⟩⟩) (λM ρ' r=>⟨_,r,rfl⟩) true
  ·cases f
 ·grind [um,BH.skip,execOp]
 ·grind [um,BH.skip,execOp]
 ·rename_i t m k g;have J:=BV R m;have rk:=BV R k;split at f
  ·rename_i n V L;obtain ⟨e,B,hk,G⟩:=kN L;split at f
   ·rename_i xs hK;obtain ⟨W,el⟩:=wn hK rk;split at f
    ·rename_i j Y;split at f
     ·rename_i C l u;split at f
      ·rename_i A;cases f;subst A;rw [Y] at J;obtain ⟨p,es,Ao,r,z,Hn,Fg,E⟩:=iR R u J;exact BH.value (s:=Instr.lookup t (a.eval m) (a.eval k) false) (by unfold execOp;rw [g]) (by rw [W,z];exact E.look B hk el (G w)) (iV R rfl)
      ·cases f
     ·cases f
    ·rename_i j i Y;split at f
     ·rename_i C ls lk u;split at f
      ·rename_i A;cases f;subst A;rw [Y] at J;obtain ⟨p,vs,b,es,Ao,r,H,z,D7,IG,E,_⟩:=iP R u J D.1;exact BH.value (s:=Instr.lookup t (a.eval m) (a.eval k) false) (by unfold execOp;rw [g]) (by rw [W,z];exact E.look B hk el (G w)) (iV R rfl)
      ·cases f
     ·cases f
    ·cases f
   ·cases f
  ·cases f
 ·rename_i t m g;have J:=BV R m;split at f
  ·rename_i n V L;obtain ⟨e,B,hk,G⟩:=kN L;split at f
   ·rename_i j i Y;split at f
    ·rename_i C ls i' X es Ao u;split at f
     ·rename_i A;cases f;subst A;obtain ⟨I,hi,_⟩:=D;subst hi;rw [Y] at J;obtain ⟨p,vs,b,Lv,n7,r,H,z,D7,IG,E,K⟩:=iP R u J I;have K:=K _ rfl rfl;cases K;refine BH.value (s:=Instr.range t (a.eval m)) (by unfold execOp;rw [g]) (by rw [z];exact run_range_map w t _ _ _ _ _ B E.blk) ?_;refine XW (ob:=.mapIter (some X) Ao #[] Ao) (o:=.mo (.mit C X es Ao ((ls.getD i' none).getD []) none)) (d:=.it S.h.length) (v:=.pointer (some ⟨w.heap.size,0,none⟩)) (pl:=⟨w.heap.size,0,0,.pointer (some ⟨w.heap.size,0,none⟩),λb=>b=w.heap.size⟩) R.hr rfl rfl (λM ρ'=>⟨λx O=>O.elim (E.len x) (λe=>by cases e),rfl,rfl,#[],zMZ w _,by rw [zIw];exact E.keys,λx O=>by cases O⟩) (λM ρ' r=>⟨_,r,rfl⟩) true
     ·cases f
    ·cases f
   ·cases f
  ·cases f
 ·rename_i m g;have J:=BV R m;split at f
  ·rename_i j Y;split at f
   ·rename_i n X es Ao rem x u;split at f
    ·rename_i k C ls i wD Ew Fj Q;cases f;obtain ⟨I,e1,e2,e3,_⟩:=D;subst e1 e2 e3;rw [Y] at J;obtain ⟨p,r,z⟩:=J;obtain ⟨p',BE,h0,h1,h2,seen,h3,h4,h5⟩:=R.hr.obj j _ u;have:p'=p:=zA2 (BE.symm.trans r);subst this;obtain ⟨e,Z,g2,g3⟩:=h5 x rfl;have Q:=(zNI _ _ Q).2;obtain ⟨q,hq,vs,H⟩:=R.hr.obj _ _ Q;obtain ⟨b,k1,k2,k3,Lv,n7,T,U⟩:=H.has i _ (Xa I);have U:=U _ rfl rfl;cases U;refine BH.value (s:=Instr.entry (a.eval m)) (by unfold execOp;rw [g]) (by rw [z,h1];exact zEm h3 g3 T.blk Z T.stamps) (iV R ?_);refine ⟨_,rfl,rfl,λc hc=>?_⟩;rw [gx hc,g2,T.tru e Z]
     match c,hc with
     | 0,_=>exact ⟨BW x,rfl,zJH (h0 x (.inr rfl))⟩
     | 1,_=>simp_all [AI]
    ·cases f
   ·cases f
  ·cases f
 ·cases f
end
end
def cM (P:Program)(t:TypeId):Option (Nat×TypeId×TypeInfo):=match P.underlying t with
 | some (.slice e)=>match QP P e with
  | some (n,_)=>match P.info? e with
   | some i=>match i.zero with
    | some (.map none)=>if i.size=1/\ i.bytes<=128 then some (n,e,i) else none
    | _=>none
   | none=>none
  | none=>none
 | _=>none
theorem zIP {P:Program}{t e:TypeId}{n:Nat}{i:TypeInfo}(h:cM P t=some (n,e,i)):P.underlying t=some (.slice e)/\ P.info? e=some i/\ i.zero=some (.map none)/\ i.size=1/\ i.bytes<=128:=by
 grind [cM]
section
variable {P:Program} {Γ:Ay} {N:Ψ} {S:St} {ρ:List AK} {a:Act} {w:World} {h:DH}
variable {n:Nat}
theorem zIb (R:AU P Γ N S ρ a w){t e:TypeId}{x y:Operand}{i:TypeInfo}{g X:IntKind}{m:Int}(L:cM P t=some (n,e,i))(q:Ad S.fr x= .int g m)(hy:Ad S.fr y= .int X m) 
 (u:0<=m/\ m<=1000000000000) (o:Oper) (r:o.op= .makeSlice t x y) (ext:Bool):
 BH P (execOp a.eval o) w (B8 P Γ N S.h ρ w ext (.msl S.h.length 1 0 m.toNat) (S.h++[some (.mo (.sets n (List.replicate m.toNat none) none))])):=by
 obtain ⟨z,hi,A,k,Ee⟩:=zIP L;have p:=u.1;have K:=u.2;have rx:=BV R x;have G:=BV R y;rw [q] at rx;rw [hy] at G;have f:(madeCells (Value.map none).cells (m.toNat*i.size)).size=m.toNat:=by rw [size_madeCells,k,zME]
 have Y: ∀ j,j<m.toNat -> (madeCells (Value.map none).cells (m.toNat*i.size))[j]? =some (Value.map none):=λj c=>by
  simp [madeCells,k,c,Value.cells,Nat.mod_one]
 refine BH.value (s:=Instr.makeSlice t (a.eval x) (a.eval y)) (by unfold execOp;rw [r]) (v:=.slice (some ⟨w.heap.size,0,none⟩) m.toNat m.toNat) (w':=w.alloc (.cells (madeCells (Value.map none).cells (m.toNat*i.size)) e)) ?_ ?_
 ·rw [show a.eval x=_ from rx,show a.eval y=_ from G];refine run_make w t e i _ z hi A g X m m p (zJB _) ?_ Z2;have:(i.bytes:Int)*m<=128*1000000000000:=Int.mul_le_mul Z2 K p Z2;omega
 ·generalize hC:madeCells (Value.map none).cells (m.toNat*i.size)=cs at f Y ⊢
  refine XW (ob:=.cells cs e) (o:=.mo (.sets n (List.replicate m.toNat none) none)) (d:=.msl S.h.length 1 0 m.toNat) (pl:=⟨w.heap.size,0,cs.size,.tuple (Array.replicate m.toNat (Value.map none)),λb=>b=w.heap.size⟩) R.hr rfl rfl (λM ρ'=>?_) (λM ρ' B=>⟨_,m.toNat,B,Z3,zBT _,by unfold LB;omega,by simp [f]⟩) ext;refine ⟨Array.replicate m.toNat (Value.map none),rfl,Z3,⟨cs,e,zMZ w _,by simp [f],zBT _,λj c=>?_⟩,rfl,λj l c=>?_,λj c=>?_,λb C=>.inl C,λi j b h1 h2=>?_⟩
  ·grind
  ·grind
  ·grind
  grind
variable {p:AK}
theorem As.merge (H:As P Γ N h ρ w){w':World}{k j:Nat}{o D o':DO}{q p':AK}(mP:k≠j)(hk:h[k]? =some (some o))(l:ρ[k]? =some p)(u:h[j]? =some (some D))(Q:ρ[j]? =some q)(m:AS p.foot w w')(I: ∀ b,p'.foot b -> (p.foot b∨q.foot b)/\ Ds w' b) 
 (V:BT P (MS N ((h.set k none).set j none++[some o']) (ρ++[p'])) w' (ρ++[p']) p' o'):
 As P Γ N ((h.set k none).set j none++[some o']) (ρ++[p']) w'/\ A3 h ρ w ((h.set k none).set j none++[some o']) (ρ++[p']) w':=by
 have G:((h.set k none).set j none).length=h.length:=Z3
 have Y: ∀ b,p.foot b -> MO h ρ b:=λb a=>⟨k,o,p,hk,l,a⟩
 have hMq: ∀ b,q.foot b -> MO h ρ b:=λb a=>⟨j,D,q,u,Q,a⟩
 have v: ∀ {i:Nat} {o1:DO},((h.set k none).set j none)[i]? =some (some o1) -> i≠k/\ i≠j/\ h[i]? =some (some o1):=λ{i o1} hi=>by
  grind
 have s: ∀ {i:Nat} {o1:DO} {C:AK},((h.set k none).set j none++[some o'])[i]? =some (some o1) -> (ρ++[p'])[i]? =some C -> (i≠k/\ i≠j/\ i<h.length/\ h[i]? =some (some o1)/\ ρ[i]? =some C)∨(i=h.length/\ o1=o'/\ C=p'):=by
  intro i o1 C e d;rcases Eg e with ⟨n,e⟩ | ⟨n,e⟩
  ·rw [G] at n;rcases Eg d with ⟨_,d⟩ | ⟨x,_⟩
   ·grind
   ·rw [H.len] at x;omega
  ·rw [G] at n;rcases Eg d with ⟨x,_⟩ | ⟨_,d⟩
   ·rw [H.len] at x;omega
   grind
 have M: ∀ b,MO ((h.set k none).set j none++[some o']) (ρ++[p']) b -> MO h ρ b:=by
  rintro b ⟨i,o1,C,e,d,g⟩;rcases s e d with ⟨_,_,_,f,r⟩ | ⟨_,_,rfl⟩
  ·exact ⟨i,o1,C,f,r,g⟩
  grind
 have O:BL (MS N h ρ) w ρ (MS N ((h.set k none).set j none++[some o']) (ρ++[p'])) w' (ρ++[p']):=
  ⟨λb a W _=>m.block b a λy=>W (.inr (Y b y)),λb a=>.inl (a.imp id (M b)),λi q hi=>Ef hi⟩
 refine ⟨⟨by simp [H.len],λi o1 hi=>?_,λi o1 C b e d g=>?_,λi X o1 Z C p2 b K e d g h4 J L=>?_,λb a=>⟨zCD (H.nlt b a).1 m.size,(H.nlt b a).2⟩,Γ.st _ _ H.gi (m.mono λb _ a=>(H.cel k o p b hk l a).1)⟩,⟨m.mono λb _ a=>Y b a,λb a=>.inl (M b a)⟩⟩
 ·rcases Eg hi with ⟨n,hi⟩ | ⟨n,hi⟩
  ·obtain ⟨e1,F,S⟩:=v hi;obtain ⟨C,T,hr⟩:=H.obj i o1 S;exact ⟨C,Ef T,hr.out O m (λb a=>.inr (Y b a)) λb _ e d=>H.dis i k o1 o C p b e1 S hk T l e d⟩
  ·cases hi;exact ⟨p',by rw [n,G,←H.len];simp,V⟩
 ·rcases s e d with ⟨K,_,_,f,r⟩ | ⟨_,_,rfl⟩
  ·obtain ⟨e1,F,c,t,z,S⟩:=H.cel i o1 C b f r g;exact ⟨e1,F,c,t,z,(m.block b (zA0.1 S).1 λy=>H.dis i k o1 o C p b K f hk r l g y).trans S⟩
  ·obtain ⟨e1,F⟩:=I b g;rcases e1 with e1 | e1
   ·obtain ⟨A,B,_⟩:=H.cel k o p b hk l e1;exact ⟨A,B,F⟩
   ·obtain ⟨A,B,_⟩:=H.cel j D q b u Q e1;exact ⟨A,B,F⟩
 ·have key: ∀ {i o1 C},i≠k -> i≠j -> h[i]? =some (some o1) -> ρ[i]? =some C -> C.foot b -> p'.foot b -> False:=λ{i o1 C} K E f r R U=>by
   rcases (I b U).1 with e1 | e1
   ·exact H.dis i k o1 o C p b K f hk r l R e1
   ·exact H.dis i j o1 D C q b E f u r Q R e1
  rcases s e g with ⟨mM,E,_,f,r⟩ | ⟨e1,_,rfl⟩
  ·rcases s d h4 with ⟨hne3,_,_,R,U⟩ | ⟨F,_,rfl⟩
   ·exact H.dis i X o1 Z C p2 b K f R r U J L
   ·exact key mM E f r J L
  grind
def OU (k a:Nat):DV -> DV
 | .msl F m o n=>if F=k then .msl a m o n else .msl F m o n
 | d=>d
def iC (P:Program)(S:St)(o:Oper):Option (St×List Prop):=match o.op with
 | .store t x y=>match o.dst with
  | none=>match Ad S.fr x with
   | .mp k 1 i 0=>match Ad S.fr y with
    | .it j=>match S.h[k]? with
     | some (some (.mo (.sets n B none)))=>match S.h[j]? with
      | some (some (.mo (.set e l)))=>if e=n/\ (P.info? t).any (λi=>i.size==1)=true then some (⟨S.fr.map (OU k S.h.length),(S.h.set k none).set j none++[some (.mo (.sets n (B.set i (some l)) none))]⟩,[i<B.length]) else none
      | _=>none
     | _=>none
    | _=>none
   | _=>none
  | some _=>none
 | _=>none
theorem F5.of_map {B:List (Option KS)}{z:Option (Nat×Nat×Array MapEntry×Nat)}{vs:Array Value}(a:F5 w p n B z vs){i b:Nat}(h:vs[i]? =some (Value.map (some b))): ∃ l,B[i]? =some (some l)/\ p.foot b/\ b≠p.blk/\ ∃ es Y,Fm w b n l es Y:=by
 have hi:i<B.length:=by rw [←a.size];grind
 cases o:B[i] with
 | none=>
  have:=a.nil i (by rw [zKF hi,o]);rw [this] at h;cases h
 | some l=>
  have c:B[i]? =some (some l):=by rw [zKF hi,o]
  obtain ⟨b',g1,g2,g3,es,Y,g4,_⟩:=a.has i l c
  grind
theorem zB5 (R:AU P Γ N S ρ a w){o:Oper}{S':St}{vs:List Prop}(h:iC P S o=some (S',vs))(hv:BX vs):
 BH P (execOp a.eval o) w (λv w'=>(∃ ρ',AU P Γ N S' ρ' (a.put o.dst v) w'/\ DF S.h ρ w S'.h ρ' w')/\ ∃ k i p t x y,o.op= .store t x y/\ Ad S.fr x= .mp k 1 i 0/\ ρ[k]? =some p/\ AS p.foot w w'):=by
 unfold iC at h;split at h
 case h_2=>cases h
 rename_i t x y ho;split at h
 case h_2=>cases h
 rename_i md;split at h
 case h_2=>cases h
 rename_i k i hX;split at h
 case h_2=>cases h
 rename_i j hY;split at h
 case h_2=>cases h
 rename_i n B I;split at h
 case h_2=>cases h
 rename_i Z l hJ;split at h
 case isFalse=>cases h
 rename_i J;cases h;obtain ⟨Wy,M⟩:=J;subst Wy;have hi:i<B.length:=hv.1;have rx:=BV R x;have ry:=BV R y;rw [hX] at rx;rw [hY] at ry;obtain ⟨p,r,ex⟩:=rx;obtain ⟨q,es,Ao,hq,ey,hqf,hqv,hA⟩:=iR R hJ ry;obtain ⟨p',BE,Q,f⟩:=R.hr.obj k _ I;have:p'=p:=zA2 (BE.symm.trans r);subst this;have mP:k≠j:=λe=>by subst e;rw [I] at hJ;cases hJ
 obtain ⟨cs,ty,d,In,DY,Gi⟩:=f.row;cases Ms:P.info? t with
 | none=>rw [Ms] at M;cases M
 | some ti=>
 rw [Ms] at M;have Tf:ti.size=1:=by simpa using M
 have hisz:i<Q.size:=by rw [f.size];exact hi
 have lv: ∀ b,p'.foot b -> b≠q.blk:=λb d e=>R.hr.dis k j _ _ p' q b mP I hJ r hq d (by rw [hqf];exact e)
 have nj:a.eval x= .pointer (some ⟨p'.blk,p'.off+i,none⟩):=by rw [ex];simp
 have Bl:w.cell? ⟨p'.blk,p'.off+i,none⟩=some Q[i]:=by
  grind [World.cell?]
 have HB: ∀ jj,w.frozen? ⟨p'.blk,jj,none⟩=false:=λjj=>by unfold World.frozen?;simp [d]
 have A:AS p'.foot w (w.setCells p'.blk (p'.off+i) (a.eval y).cells.toList):=(Ru _ _ _ _).mono λb _ e=>by rw [show b=p'.blk from e];exact f.blk
 refine BH.skip (s:=Instr.storeAt t (a.eval x) (a.eval y)) (by unfold execOp;rw [ho]) (w':=w.setCells p'.blk (p'.off+i) (a.eval y).cells.toList) ?_ ?_
 ·rw [nj];refine ik Ms (by rw [ey,Tf];rfl) (λjj da=>?_) HB (λu hu=>?_)
  ·simp_all [Value.cells]
  ·rw [ey] at hu;have:u= .map (some q.blk):=by simpa [Value.cells] using hu
   subst this;rfl
 ·rw [md];rw [ey] at A ⊢;have eC:(Value.map (some q.blk)).cells.toList= [Value.map (some q.blk)]:=rfl;rw [eC] at A ⊢;obtain ⟨F3,e1,C,e3⟩:=Tu p'.blk ty (0,0) [Value.map (some q.blk)] (p'.off+i) w cs d Z7
  generalize hW:w.setCells p'.blk (p'.off+i) [Value.map (some q.blk)]=W at A e1 ⊢
  have at_: ∀ {b ob},b≠p'.blk -> w.heap[b]? =some ob -> W.heap[b]? =some ob:=λ{b ob} T Do=>by
   rw [←Do,←hW];exact (Ru p'.blk [Value.map (some q.blk)] (p'.off+i) w).block b (zA0.1 Do).1 T
  have uk:q.blk≠p'.blk:=λe=>lv p'.blk f.blk e.symm
  let D:=Q.setIfInBounds i (Value.map (some q.blk))
  have E: ∀ m:Nat,D[m]? =if i=m then some (Value.map (some q.blk)) else Q[m]? :=λm=>by
   grind
  let F:AK:=⟨p'.blk,p'.off,p'.room,.tuple D,λb=>b=p'.blk∨∃ m:Nat,D[m]? =some (Value.map (some b))⟩
  have wP: ∀ {m:Nat} {z:Option KS},(B.set i (some l))[m]? =some z -> (m=i/\ z=some l)∨(m≠i/\ B[m]? =some z):=λ{m z} c=>by
   grind
  have SA:F5 W F Z (B.set i (some l)) none D:=by
   refine ⟨rfl,by simp [D,f.size],⟨F3,ty,e1,by simpa [C] using In,by rw [C];exact DY,λm c=>?_⟩,.inl rfl,λm l1 c=>?_,λm c=>?_,λb d=>?_,λm m' b G g=>?_⟩
   ·grind
   ·rcases wP c with ⟨rfl,e⟩ | ⟨T,c⟩
    ·cases e;refine ⟨q.blk,by rw [E,zAE rfl],uk,.inr ⟨m,by rw [E,zAE rfl]⟩,es,Ao,{ hA with blk:=at_ uk hA.blk },λx K=>by cases K⟩
    ·obtain ⟨b,L,k2,k3,Lv,U,k4,_⟩:=f.has m l1 c;exact ⟨b,Z4,k2,.inr ⟨m,Z4⟩,Lv,U,{ k4 with blk:=at_ k2 k4.blk },λx K=>by cases K⟩
   ·rcases wP c with ⟨rfl,e⟩ | ⟨T,c⟩
    ·cases e
    ·rw [E,zEO (Ne.symm T)];exact f.nil m c
   ·rcases d with d | ⟨m,c⟩
    ·exact .inl d
    ·refine .inr ?_;have AB:=c;rw [E] at c
     by_cases e:i=m
     ·grind
     ·rw [zEO e] at c;obtain ⟨l1,g1,_⟩:=f.of_map c
      grind
   ·rw [E] at G g
    by_cases U:i=m
    ·by_cases V:i=m'
     ·omega
     ·rw [zAE U] at G;rw [zEO V] at g;cases G;obtain ⟨_,_,H,_⟩:=f.of_map g;exact absurd rfl (lv _ H)
    ·rw [zEO U] at G
     by_cases V:i=m'
     ·rw [zAE V] at g;cases g;obtain ⟨_,_,H,_⟩:=f.of_map G;exact absurd rfl (lv _ H)
     ·rw [zEO V] at g;exact f.inj m m' b G g
  have Hn: ∀ b,F.foot b -> (p'.foot b∨q.foot b)/\ Ds W b:=λb d=>by
   refine ⟨?_,SA.lies d⟩;rcases d with d | ⟨m,c⟩
   ·exact .inl (by rw [d];exact f.blk)
   ·rw [E] at c
    by_cases e:i=m
    ·grind
    ·rw [zEO e] at c;exact .inl (f.of_map c).choose_spec.2.1
  obtain ⟨g1,H⟩:=R.hr.merge (o':=.mo (.sets Z (B.set i (some l)) none)) (p':=F) mP I r hJ hq A Hn ⟨D,SA⟩
  have O:BL (MS N S.h ρ) w ρ (MS N ((S.h.set k none).set j none++[some (.mo (.sets Z (B.set i (some l)) none))]) (ρ++[F])) W (ρ++[F]):=
   ⟨λb d c _=>A.block b d λK=>c (.inr ⟨k,_,p',I,r,K⟩),λb d=>d.elim (λh=>.inl (.inl h)) (λh=>(H.grow b h).imp .inr id),λk q hk=>Ef hk⟩
  refine ⟨⟨ρ++[F],⟨g1,by simp [R.fr.1,Act.put],λm c=>?_⟩,H,λk q hk=>Ef hk⟩,k,i,p',t,x,y,ho,hX,r,A⟩;have EG:m<S.fr.length:=by simpa using c
  have e:(S.fr.map (OU k S.h.length)).getD m .any=OU k S.h.length (S.fr.getD m .any):=by simp [EG]
  show AI _ W ((S.fr.map (OU k S.h.length)).getD m .any) _ _
  rw [e];have r0:=R.fr.2 m EG;cases hd:S.fr.getD m .any with
  | msl L X o1 Y=>
   rw [hd] at r0
   by_cases J:L=k
   ·have C:OU k S.h.length (.msl L X o1 Y)= .msl S.h.length X o1 Y:=by simp only [OU,zAE J]
    rw [C];rw [J] at r0;obtain ⟨q0,cap,Oi,lW,u1,u2,u3⟩:=r0;have eq0:q0=p':=zA2 (Oi.symm.trans r);subst eq0;exact ⟨F,cap,by rw [←R.hr.len];simp,lW,u1,u2,u3⟩
   ·have C:OU k S.h.length (.msl L X o1 Y)= .msl L X o1 Y:=by simp only [OU,zEO J]
    rw [C];exact AI.out _ O r0
  | _=>rw [hd] at r0;exact AI.out _ O r0
end
section
def Ry:DV:=.tup 0 (λj=>([]:List DV).getD j .any)
def ZH {M:Ψ}{w:World}{ρ:List AK}:AI M w Ry ρ undef:=⟨#[],rfl,rfl,λj i=>absurd i (zA6 j)⟩
def Cn (fr:List DV)(dst:Option Nat)(d:DV):List DV:=match dst with
 | some t=>fr.set t d
 | none=>fr
section
variable {P:Program} {Γ:Ay} {N:Ψ} {S:St} {ρ:List AK} {a:Act} {w:World}
variable {v:Value}{d:DV}
def HP (R:AU P Γ N S ρ a w)(dst:Option Nat)(s:AI (MS N S.h ρ) w d ρ v):AU P Γ N ⟨Cn S.fr dst d,S.h⟩ ρ (a.put dst v) w:=by
 refine ⟨R.hr,?_⟩;cases dst with
 | none=>exact R.fr
 | some t=>exact R.fr.set t s
def Ox (R:AU P Γ N S ρ a w){d':DV}{h':DH}{ext:Bool}{w':World}(dst:Option Nat)(G:B8 P Γ N S.h ρ w ext d h' v w')(f: ∀ M ρ',AI M w' d ρ' v -> AI M w' d' ρ' v):
 ∃ ρ',AU P Γ N ⟨Cn S.fr dst d',h'⟩ ρ' (a.put dst v) w'/\ DF S.h ρ w h' ρ' w':=by
 obtain ⟨ρ',p,r,c,U⟩:=G.ex;have O:BL (MS N S.h ρ) w ρ (MS N h' ρ') w' ρ':=⟨λb e z _=>c.upd.block b e λg=>z (.inr g),λb e=>e.elim (λh=>.inl (.inl h)) (λh=>(c.grow b h).imp .inr id),U⟩;have R':AU P Γ N ⟨S.fr,h'⟩ ρ' a w':=⟨p,R.fr.out O⟩;exact ⟨ρ',HP R' dst (f _ _ r),c,U⟩
end
def Vg (P:Program)(t:TypeId):Option (TypeId×TypeId):=match P.underlying t with
 | some (.map k e)=>if TX P k then match P.info? e with
  | some i=>match i.zero with
   | some (.slice none 0 0)=>some (k,e)
   | _=>none
  | none=>none
  else none
 | _=>none
variable {t:TypeId}{P:Program}
theorem tC {k e:TypeId}(h:Vg P t=some (k,e)):P.underlying t=some (.map k e)/\ Hj P k=some 1/\ ∀ w,(zeroValue e).run P w= .ok (.slice none 0 0) w:=by
 unfold Vg at h;split at h
 ·split at h
  ·split at h
   ·split at h
    ·simp_all [Hj,zJP,zeroValue,typeInfo]
    ·cases h
   ·cases h
  ·cases h
 ·cases h
def TM (j q:Nat):DV -> DV
 | .mri k i=>if k=j then (if i=0 then .mri q 0 else .any) else .mri k i
 | d=>d
def IS (f:Int -> Ξ)(k:Int)(L:Ξ):Int -> Ξ:=λx=>if x=k then L else f x
def Vh (P:Program)(S:St)(o:Oper):Option (St×List Prop):=match o.op with
 | .makeMap t none=>match Vg P t with
  | some _=>some (⟨Cn S.fr o.dst (.mri S.h.length 0),S.h++[some (.mo (.rows (λ_=>[]) none))]⟩,[])
  | none=>none
 | .lookup t m k false=>match Vg P t with
  | some _=>match Ad S.fr m,Ad S.fr k with
   | .mri j 0,.int .i64 x=>match S.h[j]? with
    | some (some (.mo (.rows f B7)))=>if B7.all (λy=>!y.2.2) then some (⟨Cn (S.fr.map (TM j S.h.length)) o.dst (.mri S.h.length 1),S.h.set j none++[some (.mo (.rows f (some (x,f x,false))))]⟩,[]) else none
    | _=>none
   | _,_=>none
  | none=>none
 | .mapUpdate t m k y=>match Vg P t with
  | some _=>match Ad S.fr m,Ad S.fr k,Ad S.fr y with
   | .mri j 0,.int .i64 x,.mri a 1=>match S.h[j]? with
    | some (some (.mo (.rows f (some (x',L,_)))))=>if a=j then some (⟨Cn S.fr o.dst Ry,S.h.set j (some (.mo (.rows (IS f x' L) none)))⟩,[x'=x]) else none
    | _=>none
   | _,_,_=>none
  | none=>none
 | .call c=>match c.callee with
  | .builtin .append=>match c.args.toList with
   | [x,y]=>match c.argTypes.toList with
    | [t,T]=>if t=T then match Lw P t with
     | some (.ints,_,i,_)=>if 128<i.bytes then none else match Ad S.fr x,Mo S (Ad S.fr y) with
      | .mse j 1 off n,some (ys,I)=>match S.h[j]? with
       | some (some (.ints xs))=>some (⟨Cn S.fr o.dst (.mse S.h.length 1 0 (n+ys.length)),S.h.set j none++[some (.ints (xs.drop off++ys))]⟩,[I,0<ys.length,off+n=xs.length,n+ys.length<=Av])
       | _=>none
      | .mri j 1,some (ys,I)=>match S.h[j]? with
       | some (some (.mo (.rows f (some (x',L,_)))))=>some (⟨Cn (S.fr.map (TM j S.h.length)) o.dst (.mri S.h.length 1),S.h.set j none++[some (.mo (.rows f (some (x',L++ys,true))))]⟩,[I,0<ys.length,L.length+ys.length<=Av])
       | _=>none
      | _,_=>none
     | _=>none
     else none
    | _=>none
   | _=>none
  | _=>none
 | _=>none
theorem zE6 {S:St}{o:Oper}{r:St×List Prop}(h:Vh P S o=some r){x y:Operand}:o.op≠.store t x y:=by
 grind [Vh]
theorem BB.map {M:Ψ}{w:World}{ρ:List AK}{fr:List DV}{t:Array Value}(h:BB M w ρ fr t){g:DV -> DV}(hg: ∀ d v,AI M w d ρ v -> AI M w (g d) ρ v):BB M w ρ (fr.map g) t:=
 ⟨by simp [h.1],λi hi=>by
  grind [BB]⟩
section
variable {P:Program} {Γ:Ay} {N:Ψ} {S:St} {ρ:List AK} {a:Act} {w w':World} {p p':AK} {f:Int -> Ξ} {B7:X4} {u:Value} {es:Array MapEntry} {Ao:Nat}
variable {I:TypeId}
theorem vS (h:FZ w p f B7 u es Ao)(hk:P.underlying I=some (.int .i64))(x:Int):
 ((Instr.findKey I (.int .i64 x) es.toList).run P w= .ok none w/\ ∀ e∈es.toList,e.key≠.int .i64 x)∨∃ j e,(Instr.findKey I (.int .i64 x) es.toList).run P w= .ok (some (j,e.val)) w/\ es[j]? =some e/\ e.key= .int .i64 x:=by
 rcases MapKept.findNow_spec (d:=.int .i64) (k:=.int .i64 x) (by trivial) es.toList 0 (λe z=>by
  obtain ⟨k,hk,_⟩:=h.key e z;rw [hk];trivial) with ⟨a,b⟩ | ⟨j,e,a,b,h3⟩
 ·grind [MapKept.run_findKey]
 grind [MapKept.run_findKey]
variable {v:Value}{j:Nat}
theorem bp (R:AU P Γ N S ρ a w){i:Nat}(hk:S.h[j]? =some (some (.mo (.rows f B7))))(s:AI (MS N S.h ρ) w (.mri j i) ρ v): ∃ p u es Ao,ρ[j]? =some p/\ FZ w p f B7 u es Ao/\ (#[Value.map (some p.blk),u]:Array Value)[i]? =some v:=by
 obtain ⟨p,vs,b,c,D7⟩:=s;obtain ⟨p',L,u,es,Ao,d⟩:=R.hr.obj j _ hk;have:p'=p:=zA2 (L.symm.trans b);subst this;have: #[Value.map (some p'.blk),u]=vs:=by have:=d.val.symm.trans c;cases this;rfl
 grind
def FZ.lies (h:FZ w p f B7 u es Ao):Ds w p.blk:=⟨_,rfl,(),h.blk⟩
def s9 (R:AU P Γ N S ρ a w)(m:S.h[j]? =some (some (.mo (.rows f B7))))(c:ρ[j]? =some p)(x:FZ w p f B7 u es Ao){L:Int -> Ξ}{U:X4}{s:Value}{n:Array MapEntry}{o:Nat} 
 (t:AS p.foot w w') (y: ∀ b,p'.foot b -> (p.foot b∨w.heap.size<=b)/\ Ds w' b) (C:FZ w' p' L U s n o) (z:p'.blk=p.blk) (dst:Option Nat):
 ∃ ρ',AU P Γ N ⟨Cn (S.fr.map (TM j S.h.length)) dst (.mri S.h.length 1),S.h.set j none++[some (.mo (.rows L U))]⟩ ρ' (a.put dst s) w'/\ DF S.h ρ w (S.h.set j none++[some (.mo (.rows L U))]) ρ' w':=by
 obtain ⟨A,r⟩:=R.hr.regrow (o':=.mo (.rows L U)) m c t y ⟨s,n,o,C⟩;have E: ∀ (k:Nat) (q:AK),ρ[k]? =some q -> (ρ++[p'])[k]? =some q:=λk q hk=>Ef hk
 have O:BL (MS N S.h ρ) w ρ (MS N (S.h.set j none++[some (.mo (.rows L U))]) (ρ++[p'])) w' (ρ++[p']):=
  ⟨λb i B _=>t.block b i λD=>B (.inr ⟨j,_,p,m,c,D⟩),λb i=>i.elim (λh=>.inl (.inl h)) (λh=>(r.grow b h).imp .inr id),E⟩
 have Q:(ρ++[p'])[S.h.length]? =some p':=by rw [←R.hr.len];simp
 have F:=(R.fr.out O).map (g:=TM j S.h.length) (λd v l=>by
  unfold TM;split
  ·split
   ·rename_i e;split
    ·rename_i G;subst e G;obtain ⟨q,vs,H,I,J⟩:=l;have:q=p:=zA2 (H.symm.trans (E _ _ c));subst this;have K: #[Value.map (some q.blk),u]=vs:=by have:=x.val.symm.trans I;cases this;rfl
     subst K;exact ⟨p',_,Q,C.val,by rw [z];simpa using J⟩
    ·trivial
   ·exact l
  ·exact l)
 exact ⟨ρ++[p'],HP (S:=⟨S.fr.map (TM j S.h.length),_⟩) ⟨A,F⟩ dst ⟨p',_,Q,C.val,rfl⟩,r,E⟩
theorem zHd (h:FZ w p f B7 u es Ao)(l: ∀ k L,B7≠some (k,L,true)){t z:TypeId}(m:P.underlying t=some (.map I z))(hk:Hj P I=some 1)(q:(zeroValue z).run P w= .ok (.slice none 0 0) w)(x:Int):
 ∃ s,(Instr.lookup t (.map (some p.blk)) (.int .i64 x) false).run P w= .ok s w/\ FZ w { p with val:=.tuple #[Value.map (some p.blk),s] } f (some (x,f x,false)) s es Ao:=by
 have r:P.underlying I=some (.int .i64):=by
  grind [TU]
 have n:=λe=>TT (w:=w) hk (x:=[x]) rfl e
 have o: ∀ s,(Hq w (λb=>p.foot b/\ b≠p.blk) s (f x)/\ ∀ e∈es.toList,∀ b,C7 s=some b -> C7 e.val=some b -> e.key= .int .i64 x) -> FZ w { p with val:=.tuple #[Value.map (some p.blk),s] } f (some (x,f x,false)) s es Ao:=λs D=>
  ⟨rfl,h.blk,h.own,λe M=>let ⟨k,a,c⟩:=h.key e M;⟨k,a,λ_=>c λL=>l k L⟩,h.no,h.nd,h.apart,h.born,h.stamps,λk L g e=>by cases e;exact D⟩
 rcases vS h r x with ⟨a,c⟩ | ⟨j,e,a,c,d⟩
 ·refine ⟨.slice none 0 0,?_,o _ ⟨.inl ⟨h.no x c,rfl⟩,λe _ b i=>by cases i⟩⟩;have W:=n es.isEmpty;simp only [BW] at W;simp [Instr.lookup,zJt m,zLl h.blk,W,a,q,Result.andThen]
 ·have E:e∈es.toList:=Array.mem_toList_iff.2 (zPp c);obtain ⟨k,v,y⟩:=h.key e E;have:k=x:=by rw [v] at d;cases d;rfl
  subst this;refine ⟨e.val,?_,o _ ⟨y λL=>l k L,λA R b i B=>(h.apart A R e E b B i).trans d⟩⟩;have W:=n es.isEmpty;simp only [BW] at W;simp [Instr.lookup,zJt m,zLl h.blk,W,a,Result.andThen]
variable {ys L:Ξ}{z:Value}{i:TypeInfo}{e ty:TypeId}
theorem rU {F:Ψ}(m:Hq w F u L){t:TypeId}(a:P.underlying t=some (.slice e))(hi:P.info? e=some i)(c:i.zero=some z)(f:i.size=1)(Z:z.cells.size=i.size)(S:i.bytes<=128) 
 {I:Value}  (hy:Src P i.size t I ys.length (ys.map (Value.int .i64)) w) (n:0<ys.length) (d:L.length+ys.length<=Av):
 ∃ w' q O,(Builtin.append_ #[t,t] ty #[u,I]).run P w= .ok (.slice (some ⟨q.blk,q.off,none⟩) (L++ys).length O) w'/\ (L++ys).length<=O/\ q.off+O<=q.room/\ AS (λb=>C7 u=some b) w w'/\ (C7 u=some q.blk∨w.heap.size<=q.blk)/\ AY w' q (L++ys).length (λj v=>v= .int .i64 ((L++ys).getD j 0)):=by
 have G:(L++ys).length=L.length+ys.length:=zKH;rcases m with ⟨rfl,rfl⟩ | ⟨q,cap,rfl,o,h2,h3,h4,g⟩
 ·obtain ⟨w',O,r,U,cs,rfl,V,h⟩:=fj none (ty:=ty) a hi c Z S hy n (by grind [Av]);rw [f,zME] at V;refine ⟨_,D1 w cs.size,O,by simpa [D1] using r,by simpa using U,by simp [D1,V],AS.ofExt ((Az.toDrew w).allocR _),.inr (zBT _),Nr rfl Z7 λj hj=>?_⟩
  grind
 ·obtain ⟨w',D,O,r,U,k,V,h,l⟩:=fh (ty:=ty) (R:=λj v=>v= .int .i64 (L.getD j 0)) (cap:=cap) a hi c Z2 Z S (by rw [f,zME];exact g) o Z4 hy (by unfold Av at d;omega);rw [f,zME] at k;have hq:q.foot=(λb=>b=q.blk):=g.1;have hR:=kq (P:=P) (M:=λ_=>False) (ρ':=[]) f l;refine ⟨w',D,O,by rw [G];exact r,by rw [G];exact U,k,V.mono λb _ d=>by grind [C7],?_,hR⟩;have p:=l.1;rcases h D.blk (by rw [p]) with e | e
  ·grind [C7]
  ·exact .inr e
variable {g:Bool}{x:Int}
theorem zHe (h:FZ w p f B7 u es Ao)(B:B7=some (x,L,g))(o: ∀ b,p.foot b -> Ds w b){t:TypeId}(C:P.underlying t=some (.slice e))(hi:P.info? e=some i)(D:i.zero=some z)(E:i.size=1)(Z:z.cells.size=i.size)(S:i.bytes<=128) 
 {I:Value}  (hy:Src P i.size t I ys.length (ys.map (Value.int .i64)) w) (F:0<ys.length) (c:L.length+ys.length<=Av):
 ∃ w' s p',(Builtin.append_ #[t,t] ty #[u,I]).run P w= .ok s w'/\ AS p.foot w w'/\ (∀ b,p'.foot b -> (p.foot b∨w.heap.size<=b)/\ Ds w' b)/\ FZ w' p' f (some (x,L++ys,true)) s es Ao/\ p'.blk=p.blk:=by
 obtain ⟨n,G⟩:=h.inHand x L g B;have Ag:(L++ys).length=L.length+ys.length:=zKH;have H:=rU (ty:=ty) n C hi D E Z S hy F c;obtain ⟨w',q,r,J,U,K,V,r5,v⟩:=H;have j: ∀ b,C7 u=some b -> (p.foot b/\ b≠p.blk)/\ b<w.heap.size:=λb c=>n.blk c
 have keep: ∀ b,b<w.heap.size -> C7 u≠some b -> w'.heap[b]? =w.heap[b]? :=λb c l=>V.block b c l
 have m:C7 u≠some p.blk:=λe=>(j _ e).1.2 rfl
 have N:p.blk<w.heap.size:=(zA0.1 h.blk).1;have Q:q.blk≠p.blk:=λe=>r5.elim (λd=>m (by rw [←e];exact d)) (λd=>Z2)
 refine ⟨w',_,⟨p.blk,p.off,p.room,.tuple #[Value.map (some p.blk),.slice (some ⟨q.blk,q.off,none⟩) (L++ys).length r],λb=>(p.foot b/\ C7 u≠some b)∨b=q.blk⟩,J,V.mono λb _ c=>(j b c).1.1,λb c=>?_,?_,rfl⟩
 ·rcases c with ⟨g1,g2⟩ | g1
  ·grind
  ·obtain ⟨_,cs,tt,g,_⟩:=v;subst g1;exact ⟨r5.imp (λe=>(j _ e).1.1) id,.cells g⟩
 ·have R: ∀ d∈es.toList,∀ k,d.key= .int .i64 k -> k≠x -> Hq w (λb=>p.foot b/\ b≠p.blk) d.val (f k):=λd M k hk Tt=>by
   obtain ⟨T,a,h2⟩:=h.key d M
   grind
  refine ⟨rfl,(keep _ N m).trans h.blk,.inl ⟨h.own,m⟩,λd M=>?_,h.no,h.nd,h.apart,h.born,h.stamps,λk L' g' d=>?_⟩
  ·obtain ⟨k,a,_⟩:=h.key d M;refine ⟨k,a,λl=>?_⟩;have hk:k≠x:=λe=>by subst e;exact l _ rfl
   have y: ∀ b,C7 d.val=some b -> C7 u≠some b:=λb c A=>hk Z4
   exact (R d M k a hk).out (λb O c o=>keep b o (y b c)) λb O c=>⟨.inl ⟨O.1,y b c⟩,O.2⟩
  ·cases d;refine ⟨.inr ⟨q,r,rfl,U,K,by grind [LB,Av],⟨.inr rfl,Q⟩,v⟩,λd M b c A=>?_⟩;cases c;rcases r5 with r5 | r5
   ·exact G d M _ r5 A
   ·obtain ⟨T,a,_⟩:=h.key d M
    grind [Hq,C7]
theorem zHc (h:FZ w p f B7 u es Ao)(F:B7=some (x,L,g)){t G:TypeId}(A:P.underlying t=some (.map I G))(hk:Hj P I=some 1):
 ∃ w' l i,(Instr.mapUpdate t (.map (some p.blk)) (.int .i64 x) u).run P w= .ok () w'/\ AS (λb=>b=p.blk) w w'/\ FZ w' p (IS f x L) none u l i:=by
 have H:P.underlying I=some (.int .i64):=by
  grind [TU]
 have s:=TT (w:=w) hk (x:=[x]) rfl false;simp only [BW] at s;obtain ⟨J,hd⟩:=h.inHand x L g F;have N:p.blk<w.heap.size:=(zA0.1 h.blk).1
 have B: ∀ (l:Array MapEntry) (i:Nat),(∀ e∈l.toList,(e.key= .int .i64 x/\ e.val=u)∨(e∈es.toList/\ e.key≠.int .i64 x)) -> (∃ e∈l.toList,e.key= .int .i64 x) -> (∀ e∈es.toList,e.key≠.int .i64 x -> e∈l.toList) -> MapKept.Stamped l i ->
  FZ { w with heap:=w.heap.setIfInBounds p.blk (.map l i) } p (IS f x L) none u l i:=λl i v m2 m3 st=>by
  have stay: ∀ b,b≠p.blk -> (w.heap.setIfInBounds p.blk (.map l i))[b]? =w.heap[b]? :=λb y=>by simp [Ne.symm y]
  have Q: ∀ a∈es.toList,∀ k,a.key= .int .i64 k -> k≠x -> Hq w (λb=>p.foot b/\ b≠p.blk) a.val (f k):=λa M k hk q=>by
   obtain ⟨k',c,o⟩:=h.key a M
   grind
  refine ⟨h.val,by simp [N],h.own,λe M=>?_,λk C=>?_,st.2.2,λe M a R b y S=>?_,st.1,st.2.1,λk L' g' e=>by cases e⟩
  ·rcases v e M with ⟨n,r⟩ | ⟨n,r⟩
   ·refine ⟨x,n,λ_=>?_⟩;rw [r];unfold IS;rw [zAE rfl];exact J.out (λb O _ _=>stay b O.2) λ_ h _=>h
   ·obtain ⟨k,c,_⟩:=h.key e n;have q:k≠x:=λa=>r (by rw [c,a])
    refine ⟨k,c,λ_=>?_⟩;unfold IS;rw [zEO q];exact (Q e n k c q).out (λb O _ _=>stay b O.2) λ_ h _=>h
  ·have q:k≠x:=λe=>Z4
   unfold IS;rw [zEO q];refine h.no k λe M hk2=>?_
   grind
  ·rcases v e M with ⟨n,r⟩ | ⟨n,r⟩
   ·grind
   ·rcases v a R with ⟨K,T⟩ | ⟨K,T⟩
    ·grind
    ·exact h.apart e n a K b y S
 have st:MapKept.Stamped es Ao:=⟨h.born,h.stamps,h.nd⟩;rcases vS h H x with ⟨c,o⟩ | ⟨j,e,c,o,D⟩
 ·refine ⟨_,es.push { key:=.int .i64 x,val:=u,born:=Ao },Ao+1,?_,Uy _,B _ _ (λe M=>?_) ⟨{ key:=.int .i64 x,val:=u,born:=Ao },Z3,rfl⟩ (λe M _=>Z4) (MapKept.stamped_push st o)⟩
  ·simp [Instr.mapUpdate,zJt A,zLl h.blk,s,c,zPj _ h.blk,Result.andThen]
  grind
 ·have U:((es[j]?).map (·.key)).getD (.int .i64 x)= .int .i64 x:=by rw [o];exact D
  have hst:=MapKept.run_keyThatStays (P:=P) (w:=w) (d:=.int .i64) (k:=.int .i64 x) (by trivial);have hj:j<es.size:=(zA0.1 o).1
  have inj: ∀ (m:Nat) (a:MapEntry),es[m]? =some a -> a.key= .int .i64 x -> m=j:=λm a E C=>by
   have V:m<es.size:=(zA0.1 E).1;have W:(es.toList.map (·.key))[m]? =some (.int .i64 x):=by simp [E,C]
   have X:(es.toList.map (·.key))[j]? =some (.int .i64 x):=by simp [o,D]
   exact (List.getElem?_inj (by simpa using V) h.nd).1 (W.trans X.symm)
  have get: ∀ (m:Nat),(es.modify j λe=>{ e with key:=.int .i64 x,val:=u })[m]? =if j=m then (es[m]?).map (λe=>{ e with key:=.int .i64 x,val:=u }) else es[m]? :=λm=>zQH
  refine ⟨_,es.modify j λe=>{ e with key:=.int .i64 x,val:=u },Ao,?_,Uy _,B _ _ (λY z=>?_) ⟨{ e with key:=.int .i64 x,val:=u },?_,rfl⟩ (λY z Ah=>?_) (MapKept.stamped_modify st _ _ (λ_ _=>rfl) λa _ R=>Z4)⟩
  ·simp [Instr.mapUpdate,zJt A,zLl h.blk,s,c,U,hst,zPj _ h.blk,Result.andThen]
  ·grind [List.mem_iff_getElem?]
  ·grind
  grind [List.mem_iff_getElem?]
theorem zIQ (R:AU P Γ N S ρ a w){off n:Nat}{xs:Ξ}(y:S.h[j]? =some (some (.ints xs)))(A:AI (MS N S.h ρ) w (.mse j 1 off n) ρ v)(hn:off+n=xs.length){t:TypeId}(g:P.underlying t=some (.slice e))(hi:P.info? e=some i)(k:i.zero=some z)(f:i.size=1)(Z:z.cells.size=i.size)(l:i.bytes<=128) 
 {I:Value}  (hy:Src P i.size t I ys.length (ys.map (Value.int .i64)) w) (B:0<ys.length) (d:n+ys.length<=Av):
 ∃ u w' p' O,v=u/\ (Builtin.append_ #[t,t] ty #[u,I]).run P w= .ok (.slice (some ⟨p'.blk,p'.off,none⟩) (n+ys.length) O) w'/\ n+ys.length<=O/\ p'.off+O<=p'.room/\ (∃ p,ρ[j]? =some p/\ AS p.foot w w'/\ ∀ b,p'.foot b -> (p.foot b∨w.heap.size<=b)/\ Ds w' b)/\
  (∀ {M ρ'},BT P M w' ρ' p' (.ints (xs.drop off++ys)))/\ True:=by
 obtain ⟨p,s,cap,m,rfl,C,h2,D⟩:=A;obtain ⟨F,E,G⟩:=R.hr.obj j _ y;have:F=p:=zA2 (E.symm.trans m);subst this;have X:(xs.drop off).length=n:=Z7
 have J: ∃ w' p' O,(Builtin.append_ #[t,t] ty #[.slice s n cap,I]).run P w= .ok (.slice (some ⟨p'.blk,p'.off,none⟩) (n+ys.length) O) w'/\ n+ys.length<=O/\ p'.off+O*i.size<=p'.room/\ AS F.foot w w'/\ (∀ b,p'.foot b -> F.foot b∨w.heap.size<=b)/\ AY w' p' ((n+ys.length)*i.size) (Hp (n*i.size) (λj u=>u= .int .i64 ((xs.drop off).getD j 0)) (ys.map (Value.int .i64))):=by
  by_cases K:cap=0
  ·subst K;have L:n=0:=Z2
   subst L;obtain ⟨w',O,r,U,cs,rfl,V,o⟩:=fj s (ty:=ty) g hi k Z l hy B (by unfold Av at d;omega);refine ⟨_,D1 w cs.size,O,by simpa [D1] using r,Z2,by simp [D1,V],AS.ofExt ((Az.toDrew w).allocR _),λb d=>.inr (Nat.le_of_eq (Eq.symm d)),Nr rfl ?_ λj hj=>?_⟩
   ·grind
   simp_all [Hp]
  ·obtain ⟨rfl,Q⟩:=D Z2;obtain ⟨c1,cs,H,c2,c3,c4,c5⟩:=G
   exact fh (ty:=ty) (p:={ F with off:=F.off+off*1 }) (cap:=cap) g hi k Z2 Z l (R:=λj u=>u= .int .i64 ((xs.drop off).getD j 0)) (by
    grind [AY]) C (by rw [f];simpa using Q) hy (by unfold Av at d;omega)
 obtain ⟨w',p',O,r,U,q,V,o,x⟩:=J;rw [f,zME] at q;refine ⟨_,w',p',O,rfl,r,U,q,⟨F,m,V,λb d=>⟨o b d,?_⟩⟩,λ{M ρ'}=>kq (xs:=xs.drop off) (ys:=ys) f (by rw [X];exact x),trivial⟩;obtain ⟨T,cs,H,e2,_⟩:=x;rw [T] at d;exact .cells (c:=cs) (t:=H) (z:=(0,0)) Z4
variable {vs:List Prop}{S':St}{o:Oper}
theorem zE5 (R:AU P Γ N S ρ a w)(h:Vh P S o=some (S',vs))(Y:BX vs):
 BH P (execOp a.eval o) w (λv w'=>∃ ρ',AU P Γ N S' ρ' (a.put o.dst v) w'/\ DF S.h ρ w S'.h ρ' w'):=by
 unfold Vh at h;split at h
 ·rename_i t A;split at h
  ·cases h;refine BH.value (s:=Instr.makeMap t none) (by unfold execOp;rw [A];rfl) (v:=.map (some w.heap.size)) (w':=w.alloc (.map #[] 0)) (by rfl) ?_;have G:=XW (ob:=.map #[] 0) (o:=.mo (.rows (λ_=>[]) none)) (d:=.mri S.h.length 0) (v:=.map (some w.heap.size)) (pl:=⟨w.heap.size,0,0,.tuple #[.map (some w.heap.size),undef],λb=>b=w.heap.size⟩) R.hr rfl rfl (λM ρ'=>⟨undef,#[],0,rfl,zMZ w _,rfl,λe J=>absurd J Z3,λ_ _=>rfl,Z3,λe J=>absurd J Z3,λe J=>absurd J Z3,Z3,λk L g e=>by cases e⟩) (λM ρ' l=>⟨_,_,l,rfl,rfl⟩) true;exact Ox R o.dst G λ_ _ h=>h
  ·cases h
 ·rename_i t m k A;split at h
  ·rename_i r Z;obtain ⟨B,hk,K⟩:=tC Z;have O:=BV R m;have Q:=BV R k;split at h
   ·rename_i j x hM hK;split at h
    ·rename_i f B7 q;split at h
     ·rename_i hh;cases h;rw [hM] at O;rw [hK] at Q;obtain ⟨p,u,es,Ao,l,E,T⟩:=bp R q O;have em:a.eval m= .map (some p.blk):=by simpa using T.symm
      have ek:a.eval k= .int .i64 x:=Q;obtain ⟨u',F,C⟩:=zHd E (λk L e=>by subst e;simp at hh) B hk (K w) x;refine BH.value (s:=Instr.lookup t (a.eval m) (a.eval k) false) (by unfold execOp;rw [A]) (by rw [em,ek];exact F) ?_;exact s9 (p':={ p with val:=.tuple #[Value.map (some p.blk),u'] }) R q l E (AS.refl _ _) (λb D=>⟨.inl D,(R.hr.cel j _ p b q l D).2.2⟩) C rfl o.dst
     ·cases h
    ·cases h
   ·cases h
  ·cases h
 ·rename_i t m k y A;split at h
  ·rename_i r Z;obtain ⟨B,hk,K⟩:=tC Z;have O:=BV R m;have Q:=BV R k;have U:=BV R y;split at h
   ·rename_i j x j' hM hK V;split at h
    ·rename_i f x' L g q;split at h
     ·rename_i hj;cases h;subst hj;have hx:x'=x:=Y.1;subst hx;rw [hM] at O;rw [hK] at Q;rw [V] at U;obtain ⟨p,u,es,Ao,l,E,T⟩:=bp R q O;obtain ⟨H,u2,es2,clock2,Qn,hA2,hvi2⟩:=bp R q U;have:H=p:=zA2 (Qn.symm.trans l);subst this;have eu:u2=u:=by have:=hA2.val.symm.trans E.val;simp at this;exact this
      have em:a.eval m= .map (some H.blk):=by simpa using T.symm
      have ek:a.eval k= .int .i64 x':=Q;have ey:a.eval y=u:=Z4
      obtain ⟨w',Ew,Fj,F,C,I⟩:=zHc E rfl B hk;refine BH.skip (s:=Instr.mapUpdate t (a.eval m) (a.eval k) (a.eval y)) (by unfold execOp;rw [A]) (w':=w') (by rw [em,ek,ey];exact F) ?_;have Oc:AS H.foot w w':=C.mono λb _ D=>by rw [show b=H.blk from D];exact E.own
      have hl: ∀ b,H.foot b -> Ds w' b:=λb D=>by
       by_cases e:b=H.blk
       ·rw [e];exact I.lies
       ·obtain ⟨c,t1,t2,W⟩:=(R.hr.cel _ _ H b q l D).2.2;exact ⟨c,t1,t2,(C.block b (zA0.1 W).1 e).trans W⟩
      have G:B8 P Γ N S.h ρ w false Ry (S.h.set j' (some (.mo (.rows (IS f x' L) none)))) undef w':=⟨⟨ρ,R.hr.write q l Oc hl ⟨u,Ew,Fj,I⟩,ZH,A3.write q l Oc,λ_ _ h=>h⟩,λh=>by cases h⟩;exact Ox R o.dst G λ_ _ h=>h
     ·cases h
    ·cases h
   ·cases h
  ·cases h
 ·rename_i c A;split at h
  ·rename_i W;split at h
   ·rename_i x y ha;split at h
    ·rename_i t t' ht;split at h
     ·rename_i e;subst e;split at h
      ·rename_i e i z hk;obtain ⟨B,hi,K,h0,Ch,GN,_⟩:=Xw hk;have X:i.size=1:=GN.symm;split at h
       ·cases h
       ·have rx:=BV R x;have U:=BV R y;split at h
        ·rename_i j off n ys vy hX V;split at h
         ·rename_i xs q;cases h;obtain ⟨v1,v2,v3,v4,_⟩:=Y;rw [hX] at rx;obtain ⟨ad,w',p',Bn,e0,F,C,I,g4,g5,_⟩:=zIQ (ty:=o.type) R q rx v3 B hi K X Ch Z2 (by rw [X];exact Wg R B U V v1) v2 v4;refine BH.value (NB A W ha ht) (by rw [e0];exact F) ?_;obtain ⟨p,l⟩:=g4;obtain ⟨q1,q2⟩:=R.hr.regrow (o':=.ints (xs.drop off++ys)) q l.1 l.2.1 l.2.2 g5
          have G:B8 P Γ N S.h ρ w false (.mse S.h.length 1 0 (n+ys.length)) (S.h.set j none++[some (.ints (xs.drop off++ys))]) (.slice (some ⟨p'.blk,p'.off,none⟩) (n+ys.length) Bn) w':=
           ⟨⟨ρ++[p'],q1,⟨p',_,Bn,by rw [←R.hr.len];simp,rfl,C,by grind [LB,Av],λ_=>⟨Z3,by simpa using I⟩⟩,q2,λ_ _ h=>Ef h⟩,λh=>by cases h⟩
          exact Ox R o.dst G λ_ _ h=>h
         ·cases h
        ·rename_i j ys vy hX V;split at h
         ·rename_i f x' L g q;cases h;obtain ⟨v1,v2,v3,_⟩:=Y;rw [hX] at rx;obtain ⟨p,u,es,Ao,l,E,T⟩:=bp R q rx;have ex:a.eval x=u:=by simpa using T.symm
          obtain ⟨w',u',p',F,C,I,g4,g5⟩:=zHe (ty:=o.type) E rfl (λb D=>(R.hr.cel j _ p b q l D).2.2) B hi K X Ch Z2 (by rw [X];exact Wg R B U V v1) v2 v3;refine BH.value (NB A W ha ht) (by rw [ex];exact F) ?_;exact s9 R q l E C I g4 g5 o.dst
         ·cases h
        ·cases h
      ·cases h
     ·cases h
    ·cases h
   ·cases h
  ·cases h
 ·cases h
def ZS (P:Program)(S:St)(o:Oper):Option (St×List Prop):=match iC P S o with
 | some r=>some r
 | none=>Vh P S o
theorem qy (R:AU P Γ N S ρ a w)(h:ZS P S o=some (S',vs))(hv:BX vs):
 BH P (execOp a.eval o) w (λv w'=>(∃ ρ',AU P Γ N S' ρ' (a.put o.dst v) w'/\ DF S.h ρ w S'.h ρ' w')/\ ((∀ t x y,o.op≠.store t x y)∨∃ k i p t x y,o.op= .store t x y/\ Ad S.fr x= .mp k 1 i 0/\ ρ[k]? =some p/\ AS p.foot w w')):=by
 have wk: ∀ {G d:Value -> World -> Prop},(∀ v w',G v w' -> d v w') -> BH P (execOp a.eval o) w G -> BH P (execOp a.eval o) w d:=λn D=>by
  rcases D with ⟨v,w',b,c⟩ | ⟨w',b,c⟩ | ⟨f,args,w',b,c⟩
  ·grind [BH]
  ·grind [BH]
  ·exact .inr (.inr ⟨f,args,w',b,c.mono λe CV ⟨v,B,F⟩=>⟨v,B,n _ _ F⟩⟩)
 grind [ZS,zB5,zE6,zE5]
end
end
def ib (P:Program)(t:TypeId):Option (TypeId×TypeInfo):=match P.underlying t with
 | some (.slice e)=>match P.info? e with
  | some i=>match i.zero with
   | some (.slice none 0 0)=>if i.size=1/\ i.bytes<=128 then some (e,i) else none
   | _=>none
  | none=>none
 | _=>none
theorem zET {P:Program}{t e:TypeId}{i:TypeInfo}(h:ib P t=some (e,i)):P.underlying t=some (.slice e)/\ P.info? e=some i/\ i.zero=some (.slice none 0 0)/\ i.size=1/\ i.bytes<=128:=by
 grind [ib]
def TL (j q:Nat):DV -> DV
 | .msl k m o n=>if k=j then .msl q m o n else .msl k m o n
 | .mp k m i c=>if k=j then .mp q m i c else .mp k m i c
 | .mri k i=>if k=j then .any else .mri k i
 | d=>d
def Zu (P:Program)(S:St)(E:List (Nat×Fz))(o:Oper):Option (St×List Prop×List (Nat×Fz)):=match o.op with
 | .makeSlice t x y=>match E with
  | (d,.rws)::rest=>if o.dst=some d then match ib P t with
   | some _=>match Ad S.fr x,Ad S.fr y with
    | .int _ m,.int _ f=>some (⟨Cn S.fr o.dst (.msl S.h.length 1 0 m.toNat),S.h++[some (.mo (.rws (List.replicate m.toNat []) none))]⟩,[f=m/\ 0<=m/\ m<=1000000000000],rest)
    | _,_=>none
   | none=>none
   else none
  | _=>none
 | .call c=>match c.callee with
  | .builtin .append=>match c.args.toList with
   | [x,y]=>match c.argTypes.toList with
    | [t,T]=>if t=T then match Lw P t with
     | some (.ints,_,i,_)=>if 128<i.bytes then none else match Ad S.fr x,Mo S (Ad S.fr y) with
      | .mri j (r+1),some (ys,I)=>match S.h[j]? with
       | some (some (.mo (.rws ls none)))=>some (⟨Cn (S.fr.map (TL j S.h.length)) o.dst (.mri S.h.length 0),S.h.set j none++[some (.mo (.rws ls (some (r,ls.getD r default++ys))))]⟩,[I,0<ys.length,r<ls.length,(ls.getD r default).length+ys.length<=Av],E)
       | _=>none
      | _,_=>none
     | _=>none
     else none
    | _=>none
   | _=>none
  | _=>none
 | .store t x y=>match o.dst with
  | none=>match Ad S.fr x,Ad S.fr y with
   | .mp j 1 r 0,.mri a 0=>match S.h[j]? with
    | some (some (.mo (.rws ls (some (F,L)))))=>if a=j/\ (P.info? t).any (λi=>i.size==1)=true then some (⟨S.fr.map (TL j S.h.length),S.h.set j none++[some (.mo (.rws (ls.set r L) none))]⟩,[F=r,r<ls.length],E) else none
    | _=>none
   | _,_=>none
  | some _=>none
 | _=>none
section
variable {P:Program} {Γ:Ay} {N:Ψ} {S:St} {ρ:List AK} {a:Act} {w w':World} {p p':AK} {ls Wb:List Ξ} {B7 Ki:Option (Nat×Ξ)} {vs Bv:Array Value}
variable {v:Value}{j:Nat}
theorem sS (R:AU P Γ N S ρ a w){i:Nat}(hk:S.h[j]? =some (some (.mo (.rws ls B7))))(s:AI (MS N S.h ρ) w (.mri j i) ρ v): ∃ p vs,ρ[j]? =some p/\ L2 w p ls B7 vs/\ vs[i]? =some v:=by
 obtain ⟨p,vs,f,c,D7⟩:=s;obtain ⟨p',L,Bv,b⟩:=R.hr.obj j _ hk;have:p'=p:=zA2 (L.symm.trans f);subst this;have:Bv=vs:=by have:=b.val.symm.trans c;cases this;rfl
 grind
def sR (R:AU P Γ N S ρ a w)(u:S.h[j]? =some (some (.mo (.rws ls B7))))(l:ρ[j]? =some p)(x:AS p.foot w w')(z: ∀ b,p'.foot b -> (p.foot b∨w.heap.size<=b)/\ Ds w' b)(C:L2 w' p' Wb Ki Bv) 
 (B:p'.blk=p.blk) (F:p'.off=p.off) (A:p'.room=p.room) (dst:Option Nat) {d:DV}  (f: ∀ M ρ',ρ'[S.h.length]? =some p' -> AI M w' d ρ' v):
 ∃ ρ',AU P Γ N ⟨Cn (S.fr.map (TL j S.h.length)) dst d,S.h.set j none++[some (.mo (.rws Wb Ki))]⟩ ρ' (a.put dst v) w'/\ DF S.h ρ w (S.h.set j none++[some (.mo (.rws Wb Ki))]) ρ' w':=by
 obtain ⟨D,y⟩:=R.hr.regrow (o':=.mo (.rws Wb Ki)) u l x z ⟨Bv,C⟩;have E: ∀ (k:Nat) (q:AK),ρ[k]? =some q -> (ρ++[p'])[k]? =some q:=λk q hk=>Ef hk
 have O:BL (MS N S.h ρ) w ρ (MS N (S.h.set j none++[some (.mo (.rws Wb Ki))]) (ρ++[p'])) w' (ρ++[p']):=
  ⟨λb r G _=>x.block b r λH=>G (.inr ⟨j,_,p,u,l,H⟩),λb r=>r.elim (λh=>.inl (.inl h)) (λh=>(y.grow b h).imp .inr id),E⟩
 have Q:(ρ++[p'])[S.h.length]? =some p':=by rw [←R.hr.len];simp
 have I:=(R.fr.out O).map (g:=TL j S.h.length) (λd v f=>by
  unfold TL;split
  ·rename_i k m o n;split
   ·rename_i e;subst e;obtain ⟨q,cap,s,t,J,K,L⟩:=f;have:q=p:=zA2 (s.symm.trans (E _ _ l));subst this;exact ⟨p',cap,Q,by rw [B,F];exact t,J,K,by rw [F,A];exact L⟩
   ·exact f
  ·rename_i k m i c;split
   ·rename_i e;subst e;obtain ⟨q,s,t⟩:=f;have:q=p:=zA2 (s.symm.trans (E _ _ l));subst this;exact ⟨p',Q,by rw [B,F];exact t⟩
   ·exact f
  ·split
   ·trivial
   ·exact f
  ·exact f)
 exact ⟨ρ++[p'],HP (S:=⟨S.fr.map (TL j S.h.length),_⟩) ⟨D,I⟩ dst (f _ _ Q),y,E⟩
variable {t:TypeId}{r:Nat}
theorem zES (h:L2 w p ls none vs)(m:r<ls.length)(o: ∀ b,p.foot b -> Ds w b){e ty:TypeId}{i:TypeInfo}{z:Value}(E:P.underlying t=some (.slice e))(hi:P.info? e=some i)(G:i.zero=some z)(J:i.size=1)(Z:z.cells.size=i.size)(S:i.bytes<=128) 
 {I:Value} {ys:Ξ} (hy:Src P i.size t I ys.length (ys.map (Value.int .i64)) w) (M:0<ys.length) (c:(ls.getD r default).length+ys.length<=Av):
 ∃ w' n p',(Builtin.append_ #[t,t] ty #[vs.getD (r+1) undef,I]).run P w= .ok n w'/\ AS p.foot w w'/\ (∀ b,p'.foot b -> (p.foot b∨w.heap.size<=b)/\ Ds w' b)/\ L2 w' p' ls (some (r,ls.getD r default++ys)) (vs.setIfInBounds 0 n)/\ p'.blk=p.blk/\ p'.off=p.off/\ p'.room=p.room:=by
 have v:=h.has r m λL e=>by cases e
 obtain ⟨w',q,O,N,U,Q,V,r5,y⟩:=rU (ty:=ty) v E hi G J Z S hy M c
 generalize R:vs.getD (r+1) undef=u at*
 have d: ∀ b,C7 u=some b -> (p.foot b/\ b≠p.blk)/\ b<w.heap.size:=λb c=>v.blk c
 have keep: ∀ b,b<w.heap.size -> C7 u≠some b -> w'.heap[b]? =w.heap[b]? :=λb c T=>V.block b c T
 have f:C7 u≠some p.blk:=λe=>(d _ e).1.2 rfl
 obtain ⟨cs,H,F,W,X,k4⟩:=h.row;have Y:p.blk<w.heap.size:=(zA0.1 F).1;have lu:q.blk≠p.blk:=λe=>r5.elim (λA=>f (by rw [←e];exact A)) (λA=>Z2)
 have s: ∀ j,(vs.setIfInBounds 0 (.slice (some ⟨q.blk,q.off,none⟩) (ls.getD r default++ys).length O)).getD (j+1) undef=vs.getD (j+1) undef:=λj=>by
  simp_all
 have JS:(vs.setIfInBounds 0 (.slice (some ⟨q.blk,q.off,none⟩) (ls.getD r default++ys).length O)).getD 0 undef= .slice (some ⟨q.blk,q.off,none⟩) (ls.getD r default++ys).length O:=by
  have:0<vs.size:=by rw [h.size];omega
  simp_all
 have B: ∀ j b,j<ls.length -> j≠r -> C7 (vs.getD (j+1) undef)=some b -> C7 u≠some b:=λj b a K c x=>K (h.apart j r b a m (λL e=>by cases e) (λL e=>by cases e) c (by rw [R];exact x))
 refine ⟨w',_,⟨p.blk,p.off,p.room,.tuple (vs.setIfInBounds 0 (.slice (some ⟨q.blk,q.off,none⟩) (ls.getD r default++ys).length O)),λb=>(p.foot b/\ C7 u≠some b)∨b=q.blk⟩,N,V.mono λb _ c=>(d b c).1.1,λb c=>?_,?_,rfl,rfl,rfl⟩
 ·rcases c with ⟨g1,g2⟩ | g1
  ·grind
  ·obtain ⟨_,cs,H,g,_⟩:=y;subst g1;exact ⟨r5.imp (λe=>(d _ e).1.1) id,.cells g⟩
 ·refine ⟨rfl,by simpa using h.size,⟨cs,H,(keep _ Y f).trans F,W,X,λj a=>?_⟩,.inl ⟨h.blk,f⟩,λj a hh=>?_,λi j b hi a _ _ C D=>?_,λk L e=>?_⟩
  ·grind
  ·have K:j≠r:=λe=>hh _ (by rw [e])
   rw [s];exact (h.has j a λL e=>by cases e).out (λb l c o=>keep b o (B j b a K c)) λb l c=>⟨.inl ⟨l.1,B j b a K c⟩,l.2⟩
  ·rw [s] at C D;exact h.apart i j b hi a (λL e=>by cases e) (λL e=>by cases e) C D
  ·cases e;rw [JS];refine ⟨.inr ⟨q,O,rfl,U,Q,by grind [LB,Av],⟨.inr rfl,lu⟩,y⟩,λj b a c x=>?_⟩;cases c;rw [s] at x;rcases r5 with r5 | r5
   ·grind
   ·exact absurd ((h.has j a λL e=>by cases e).blk x).2 (Nat.not_lt.2 r5)
theorem zER (h:L2 w p ls B7 vs){L:Ξ}(s:B7=some (r,L))(hr:r<ls.length){y:TypeInfo}(E:P.info? t=some y)(G:y.size=1):
 ∃ w',(Instr.storeAt t (.pointer (some ⟨p.blk,p.off+r,none⟩)) (vs.getD 0 undef)).run P w= .ok () w'/\ AS (λb=>b=p.blk) w w'/\ L2 w' { p with val:=.tuple (vs.setIfInBounds (r+1) (vs.getD 0 undef)) } (ls.set r L) none (vs.setIfInBounds (r+1) (vs.getD 0 undef))/\ Ds w' p.blk:=by
 obtain ⟨l,hd⟩:=h.inHand r L s;obtain ⟨cs,H,F,I,J,k4⟩:=h.row
 generalize hU:vs.getD 0 undef=u at*
 have n:u.cells= #[u]:=by rcases l with ⟨_,rfl⟩ | ⟨q,cap,rfl,_⟩ <;> rfl
 have Tk:r+1<vs.size:=by rw [h.size];omega
 have Bl:w.cell? ⟨p.blk,p.off+r,none⟩=some vs[r+1]:=by
  grind [World.cell?]
 have K: ∀ f,w.frozen? ⟨p.blk,f,none⟩=false:=λf=>by unfold World.frozen?;simp [F]
 have g: ∀ j,j≠r -> (vs.setIfInBounds (r+1) u).getD (j+1) undef=vs.getD (j+1) undef:=λj a=>by
  rw [zKC,zKC,Array.getElem?_setIfInBounds_ne Z2]
 have Q:(vs.setIfInBounds (r+1) u).getD (r+1) undef=u:=by
  simp_all
 obtain ⟨R,B,z,e3⟩:=Tu p.blk H (0,0) [u] (p.off+r) w cs F Z7;have m:AS (λb=>b=p.blk) w (w.setCells p.blk (p.off+r) [u]):=Ru _ _ _ _
 generalize S:w.setCells p.blk (p.off+r) [u]=W at m B
 have stay: ∀ b,b≠p.blk -> b<w.heap.size -> W.heap[b]? =w.heap[b]? :=λb T c=>m.block b c T
 refine ⟨W,?_,m,?_,.cells B⟩
 ·rw [←S]
  have:=ik (w:=w) (b:=p.blk) (o:=p.off+r) (v:=u) E (by rw [n,G];rfl) (λf da=>by
   grind) K (λx A=>by
   have:x=u:=by rw [n] at A;simpa using A
   subst this;rcases l with ⟨_,rfl⟩ | ⟨q,cap,rfl,_⟩ <;> rfl)
  rw [n] at this;exact this
 ·have U: ∀ j,j≠r -> (ls.set r L).getD j default=ls.getD j default:=λj a=>by
   grind
  refine ⟨rfl,by simpa using h.size,⟨R,H,B,by simpa [z] using I,by rw [z];exact J,λj a=>?_⟩,h.blk,λj a _=>?_,λi j b hi a _ _ C D=>?_,λk L e=>by cases e⟩
  ·grind
  ·rw [zJy] at a
   by_cases e:j=r
   ·subst e;rw [Q,show (ls.set j L).getD j default=L by simp [zBS,a]];exact l.out (λb O _ c=>stay b O.2 c) λ_ h _=>h
   ·rw [g j e,U j e];exact (h.has j a λL' d=>by rw [s] at d;cases d;exact e rfl).out (λb O _ c=>stay b O.2 c) λ_ h _=>h
  ·rw [zJy] at hi a
   by_cases M:i=r
   ·grind
   ·rw [g i M] at C
    by_cases N:j=r
    ·grind
    ·rw [g j N] at D;exact h.apart i j b hi a (λL' d=>by rw [s] at d;cases d;exact M rfl) (λL' d=>by rw [s] at d;cases d;exact N rfl) C D
theorem sT (R:AU P Γ N S ρ a w){o:Oper}{S':St}{fz Ls:List (Nat×Fz)}{vc:List Prop}(h:Zu P S fz o=some (S',vc,Ls))(I:BX vc):
 BH P (execOp a.eval o) w (λv w'=>(∃ ρ',AU P Γ N S' ρ' (a.put o.dst v) w'/\ DF S.h ρ w S'.h ρ' w')/\ ((∀ t x y,o.op≠.store t x y)∨∃ k i p t x y,o.op= .store t x y/\ Ad S.fr x= .mp k 1 i 0/\ ρ[k]? =some p/\ AS p.foot w w')):=by
 unfold Zu at h;split at h
 ·rename_i t x y l;split at h
  case h_2=>cases h
  rename_i d rest;split at h
  case isFalse=>cases h
  split at h
  case h_2=>cases h
  rename_i r hT;obtain ⟨e,i⟩:=r;split at h
  case h_2=>cases h
  rename_i k1 m k2 f hx hy;cases h;obtain ⟨⟨rfl,Hl,IE⟩,_⟩:=I;obtain ⟨C,hi,J,hs,Ee⟩:=zET hT;have rx:=BV R x;have G:=BV R y;rw [hx] at rx;rw [hy] at G;have K:(madeCells (Value.slice none 0 0).cells (f.toNat*i.size)).size=f.toNat:=by rw [size_madeCells,hs,zME]
  have Gi: ∀ j,j<f.toNat -> (madeCells (Value.slice none 0 0).cells (f.toNat*i.size))[j]? =some (Value.slice none 0 0):=λj u=>by
   simp [madeCells,hs,u,Value.cells,Nat.mod_one]
  refine BH.value (s:=Instr.makeSlice t (a.eval x) (a.eval y)) (by unfold execOp;rw [l]) (v:=.slice (some ⟨w.heap.size,0,none⟩) f.toNat f.toNat) (w':=w.alloc (.cells (madeCells (Value.slice none 0 0).cells (f.toNat*i.size)) e)) ?_ ?_
  ·rw [show a.eval x=_ from rx,show a.eval y=_ from G];refine run_make w t e i _ C hi J k1 k2 f f Hl (zJB _) ?_ Z2;have:(i.bytes:Int)*f<=128*1000000000000:=Int.mul_le_mul Z2 IE Hl Z2;omega
  ·generalize hC:madeCells (Value.slice none 0 0).cells (f.toNat*i.size)=cs at K Gi ⊢
   have hg: ∀ j,j<f.toNat -> (#[undef]++Array.replicate f.toNat (Value.slice none 0 0)).getD (j+1) undef= .slice none 0 0:=λj u=>by
    simp [zKC,Array.getElem?_append,u]
   refine ⟨Ox R o.dst (XW (ob:=.cells cs e) (o:=.mo (.rws (List.replicate f.toNat []) none)) (d:=.msl S.h.length 1 0 f.toNat) (pl:=⟨w.heap.size,0,cs.size,.tuple (#[undef]++Array.replicate f.toNat (Value.slice none 0 0)),λb=>b=w.heap.size⟩) R.hr rfl rfl (λM ρ'=>?_) (λM ρ' g=>⟨_,f.toNat,g,Z3,zBT _,by unfold LB;omega,by simp [K]⟩) true) λ_ _ h=>h,.inl λt x y e=>by rw [l] at e;cases e⟩;refine ⟨#[undef]++Array.replicate f.toNat (Value.slice none 0 0),rfl,Z7,⟨cs,e,zMZ w _,by simp [K],zBT _,λj u=>?_⟩,rfl,λj u _=>.inl ⟨?_,?_⟩,λi j b hi u _ _ h1 h2=>?_,λk L e=>by cases e⟩
   ·grind
   ·grind
   ·grind
   ·rw [zKM] at hi;rw [hg i hi] at h1;cases h1
 ·rename_i c l;split at h
  case h_2=>cases h
  rename_i A;split at h
  case h_2=>cases h
  rename_i x y ha;split at h
  case h_2=>cases h
  rename_i t t' ht;split at h
  case isFalse=>cases h
  rename_i e;subst e;split at h
  case h_2=>cases h
  rename_i e i z hk;obtain ⟨C,hi,J,h0,Ch,GN,_⟩:=Xw hk;have FO:i.size=1:=GN.symm;split at h
  case isTrue=>cases h
  rename_i Ee;have rx:=BV R x;have G:=BV R y;split at h
  case h_2=>cases h
  rename_i j r ys vy D O;split at h
  case h_2=>cases h
  rename_i ls q;cases h;obtain ⟨v1,Q,v3,v4,_⟩:=I;rw [D] at rx;obtain ⟨p,vs,g,E,T⟩:=sS R q rx;have V:a.eval x=vs.getD (r+1) undef:=by simp [zKC,T]
  obtain ⟨w',u',p',X,B,Y,U,g5,g6,g7⟩:=zES (ty:=o.type) E v3 (λb n=>(R.hr.cel j _ p b q g n).2.2) C hi J FO Ch Z2 (by rw [FO];exact Wg R C G O v1) Q v4;refine BH.value (NB l A ha ht) (by rw [V];exact X) ?_
  exact ⟨sR R q g B Y U g5 g6 g7 o.dst λM ρ' hq=>⟨p',_,hq,U.val,by
   grind⟩,.inl λt x y e=>by rw [l] at e;cases e⟩
 ·rename_i t x y l;split at h
  case h_2=>cases h
  rename_i md;split at h
  case h_2=>cases h
  rename_i j r j' D O;split at h
  case h_2=>cases h
  rename_i ls Z L q;split at h
  case isFalse=>cases h
  rename_i A;cases h;obtain ⟨rfl,H⟩:=A;obtain ⟨rfl,Q,_⟩:=I;have rx:=BV R x;have G:=BV R y;rw [D] at rx;rw [O] at G;obtain ⟨p,vs,g,E,T⟩:=sS R q G;obtain ⟨F,Qn,V⟩:=rx;have:F=p:=zA2 (Qn.symm.trans g);subst this;cases Ms:P.info? t with
  | none=>rw [Ms] at H;cases H
  | some ti=>
  rw [Ms] at H;have nj:a.eval x= .pointer (some ⟨F.blk,F.off+Z,none⟩):=by rw [V];simp
  have ey:a.eval y=vs.getD 0 undef:=by simp [zKC,T]
  obtain ⟨W,X,B,Y,U⟩:=zER E rfl Q Ms (by simpa using H);refine BH.skip (s:=Instr.storeAt t (a.eval x) (a.eval y)) (by unfold execOp;rw [l]) (w':=W) (by rw [nj,ey];exact X) ?_
  have:=sR (a:=a) (p':={ F with val:=.tuple (vs.setIfInBounds (Z+1) (vs.getD 0 undef)) }) R q g (B.mono λb _ n=>by rw [show b=F.blk from n];exact E.blk) (λb n=>⟨.inl n,by
   by_cases e:b=F.blk
   ·rw [e];exact U
   ·obtain ⟨c,t1,t2,A⟩:=(R.hr.cel _ _ F b q g n).2.2;exact ⟨c,t1,t2,(B.block b (zA0.1 A).1 e).trans A⟩⟩) Y rfl rfl rfl none (d:=.any) (v:=undef) λ_ _ _=>trivial
  rw [md];exact ⟨this,.inr ⟨j',Z,F,t,x,y,l,D,g,B.mono λb _ n=>by rw [show b=F.blk from n];exact E.blk⟩⟩
 ·cases h
end
abbrev zNg:=@Bool.false_or
def ES (P:Program)(Γ:Ay)(f:Nat)(ds:List DV)(h:DH)(d:DV)(h':DH)(ext:Bool):Prop:=
 (∃ fn,P.funcs[f]? =some fn/\ fn.name≠ "runtime.NumGoroutine" /\ fn.body.isSome=true)/\
 ∀ (N:Ψ) (ρ:List AK) (w:World) (args:Array Value),As P Γ N h ρ w -> BB (MS N h ρ) w ρ ds args ->
  Calls P f args w λe w'=>∃ v,e= .returned v/\ B8 P Γ N h ρ w ext d h' v w'
def cq (h h':DH):Bool:=(List.range h.length).all λk=>!(h.getD k none).isSome||(h'.getD k none).isSome
def ESu (P:Program)(Γ:Ay)(f:Nat)(ds:List DV)(h:DH)(d:DV)(h':DH)(k:Nat):Prop:=
 (∃ fn,P.funcs[f]? =some fn/\ fn.name≠ "runtime.NumGoroutine" /\ fn.body.isSome=true)/\
 ∀ (N:Ψ) (ρ:List AK) (w:World) (args:Array Value),As P Γ N h ρ w -> BB (MS N h ρ) w ρ ds args ->
  Calls P f args w λe w'=>∃ v,e= .returned v/\ B8 P Γ N h ρ w false d h' v w'/\ AS (λb=>∃ i o p,k<=i/\ h[i]? =some (some o)/\ ρ[i]? =some p/\ p.foot b) w w'
structure BS where
 calls:List (DV×DH×Bool)
 co:List (Nat×DV)
 fz:List (Nat×Fz):=[]
 tg:List (List (Nat×Nat)×St):=[]
def K3 (ops:Array Oper)(S:St)(o:Oper):W9:=match o.guard with
 | none=>some true
 | some (j,T)=>match (ops[j]?).bind (·.dst) with
  | some t=>match S.fr.getD t .any with
   | .bool b=>some (b==T)
   | .tup _ _=>some false
   | _=>none
  | none=>none
def YJ (J:List (Nat×DV))(dst:Option Nat)(d:DV):DV×List Prop×List (Nat×DV):=match J with
 | []=>(d,[],[])
 | (t,d')::rest=>match dst with
  | some T=>if T=t then (d',[AM d d'],rest) else (d,[],J)
  | none=>(d,[],J)
def NZ (S:St):Op -> Bool
 | .move _=>true
 | .assign _=>true
 | .pick .. =>true
 | .binOp .shl .. =>false
 | .binOp .shr .. =>false
 | .binOp .quo .. =>false
 | .binOp .rem .. =>false
 | .binOp _ _ _ y _=>match Ad S.fr y with
  | .nils=>false
  | _=>true
 | .unOp .. =>true
 | .convert .. =>true
 | .nilCheck _=>true
 | .fieldAddr .. =>true
 | .extract .. =>true
 | .makeFunc .. =>true
 | .build .. =>true
 | .field .. =>true
 | .call _=>true
 | .load _ x=>match Ad S.fr x with
  | .mp .. =>false
  | _=>true
 | _=>false
def zJO:Op -> Bool
 | .box .. =>true
 | .alloc _=>true
 | .buildSlice .. =>true
 | .makeSlice .. =>true
 | .store .. =>true
 | .makeMap .. =>true
 | .mapUpdate .. =>true
 | .insert .. =>true
 | .lookup .. =>true
 | .range .. =>true
 | .entry _=>true
 | .call c=>match c.callee with
  | .builtin .append=>true
  | .value _=>true
  | _=>false
 | _=>false
def V5 (P:Program)(ops:Array Oper)(S:St)(J:List (Nat×DV))(o:Oper):Option (St×List Prop×List (Nat×DV)):=match K3 ops S o with
 | none=>none
 | some false=>some (⟨Cn S.fr o.dst Ry,S.h⟩,[],J)
 | some true=>match WE P S o.op with
  | none=>none
  | some (d,O)=>match YJ J o.dst d with
   | (d',vs,i)=>some (⟨Cn S.fr o.dst d',S.h⟩,(if NZ S o.op then vs else O::vs),i)
def V7 (P:Program)(ops:Array Oper):List Oper -> St -> List (Nat×DV) -> Option (St×List Prop×List (Nat×DV))
 | [],S,J=>some (S,[],J)
 | o::rest,S,J=>match V5 P ops S J o with
  | none=>none
  | some (S',vs,i)=>match V7 P ops rest S' i with
   | none=>none
   | some (U,j,a)=>some (U,vs++j,a)
def PG (P:Program)(Γ:Ay)(S:St)(a:List (DV×DH×Bool)):Op -> Option (DV×DH×List Prop×Bool×List (DV×DH×Bool))
 | .box _ x=>match Je (Ad S.fr x) with
  | some l=>some (.ref S.h.length 0,S.h++[some (.cells l)],[],true,a)
  | none=>none
 | .alloc t=>match P.info? t with
  | some i=>match i.zero with
   | some z=>if gE z then some (.mp S.h.length 1 0 0,S.h++[some (.bools (List.replicate z.cells.size false))],[],true,a)
    else some (.ref S.h.length 0,S.h++[some (.cells (z.cells.toList.map ON))],[],true,a)
   | none=>none
  | none=>none
 | .buildSlice t len parts=>match Lw P t with
  | some (k,_,_,_)=>if fA parts.toList len&&decide (len<=65536/\ k.cells<=64) then match US k (parts.toList.map λx=>Ad S.fr x.2) with
   | some ob=>some (.msl S.h.length k.cells 0 len,S.h++[some ob],[],true,a)
   | none=>none
   else none
  | none=>none
 | .makeSlice t x y=>match cM P t with
  | some (n,_,_)=>match Ad S.fr x,Ad S.fr y with
   | .int _ m,.int _ b=>some (.msl S.h.length 1 0 m.toNat,S.h++[some (.mo (.sets n (List.replicate m.toNat none) none))],[b=m/\ 0<=m/\ m<=1000000000000],true,a)
   | _,_=>none
  | none=>match Lw P t with
   | some (k,_,i,z)=>if decide (i.bytes<=128) then match Ad S.fr x,Ad S.fr y with
    | .int _ n,.int _ e=>some (.msl S.h.length k.cells 0 n.toNat,S.h++[some (wM k n.toNat z)],[e=n/\ 0<=n/\ n<=1000000000000],true,a)
    | _,_=>none
    else none
   | none=>none
 | .store t x y=>match PZ P S t (Ad S.fr x) (Ad S.fr y) with
  | some (h',O)=>some (.any,h',[O],false,a)
  | none=>none
 | .call c=>match c.callee with
  | .builtin .append=>match c.args.toList with
   | [x,y]=>match c.argTypes.toList with
    | [t,T]=>if t=T then match Ub P S t (Ad S.fr x) (Ad S.fr y) with
     | some (d,h',O)=>some (d,h',[O],false,a)
     | none=>none
     else none
    | _=>none
   | _=>none
  | .value f=>match Ad S.fr f,a with
   | .fn g m cap,(d,h',ext)::rest=>some (d,h',[ES P Γ g (c.args.toList.map (Ad S.fr)++(List.range m).map cap) S.h d h' ext],ext,rest)
   | _,_=>none
  | _=>none
 | op=>match kO P S op with
  | some (d,h',vs,ext)=>some (d,h',vs,ext,a)
  | none=>none
def RP (P:Program)(Γ:Ay)(ops:Array Oper)(S:St)(Q:BS)(o:Oper):Option (St×List Prop×Bool×BS):=match K3 ops S o with
 | none=>none
 | some false=>some (⟨Cn S.fr o.dst Ry,S.h⟩,[],true,Q)
 | some true=>match Zu P S Q.fz o with
  | some (S',vs,V)=>some (S',vs,false,⟨Q.calls,Q.co,V,Q.tg⟩)
  | none=>match ZS P S o with
  | some (S',vs)=>some (S',vs,false,Q)
  | none=>match PG P Γ S Q.calls o.op with
   | none=>none
   | some (d,h',vs,ext,t)=>match YJ Q.co o.dst d with
    | (d',j,i)=>match Xd Q.fz o.dst ⟨Cn S.fr o.dst d',h'⟩ with
     | none=>none
     | some (S',m,V)=>some (S',vs++(j++m),ext,⟨t,i,V,Q.tg⟩)
def EL (P:Program)(Γ:Ay)(ops:Array Oper):List Oper -> St -> BS -> Option (St×List Prop×BS)
 | [],S,Q=>some (S,[],Q)
 | o::rest,S,Q=>match zJO o.op with
  | true=>match RP P Γ ops S Q o with
   | none=>none
   | some (S',vs,_,B)=>match EL P Γ ops rest S' B with
    | none=>none
    | some (U,j,q)=>some (U,vs++j,q)
  | false=>match V5 P ops S Q.co o with
   | none=>none
   | some (S',vs,i)=>match EL P Γ ops rest S' ⟨Q.calls,i,Q.fz,Q.tg⟩ with
    | none=>none
    | some (U,j,q)=>some (U,vs++j,q)
def oG (P:Program)(Γ:Ay)(a:DH)(ops:Array Oper)(S:St)(Q:BS)(o:Oper):Option (St×List Prop×BS):=match o.op with
 | .call c=>match c.callee with
  | .value f=>match Ad S.fr f,Q.calls with
   | .fn g m cap,(d,h',false)::rest=>match K3 ops S o,cq a S.h with
    | some true,true=>match YJ Q.co o.dst d with
     | (d',j,i)=>match Xd Q.fz o.dst ⟨Cn S.fr o.dst d',h'⟩ with
      | some (S',b,V)=>some (S',ESu P Γ g (c.args.toList.map (Ad S.fr)++(List.range m).map cap) S.h d h' a.length::(j++b),⟨rest,i,V,Q.tg⟩)
      | none=>none
    | _,_=>none
   | _,_=>none
  | _=>none
 | _=>none
def bh (z:Θ)(c h:DH):DH:=match z with
 | []=>c
 | _=>h
def Tg (P:Program)(Γ:Ay)(ops:Array Oper):DH -> List (Θ×Nat) -> Θ -> St -> BS -> Option (St×List Prop×BS)
 | _,[],z,S,Q=>match V7 P ops (CM ops z) S Q.co with
  | none=>none
  | some (S',vs,a)=>some (S',vs,⟨Q.calls,a,Q.fz,Q.tg⟩)
 | hb,(b,i)::c,z,S,Q=>match V7 P ops (CM ops b) S Q.co with
  | none=>none
  | some (S',vs,a)=>match ops[i]? with
   | none=>none
   | some o=>match oG P Γ (bh b hb S.h) ops S' ⟨Q.calls,a,Q.fz,Q.tg⟩ o with
    | some (U,j,B)=>match Tg P Γ ops (bh b hb S.h) c z U B with
     | none=>none
     | some (w,k,F)=>some (w,vs++(j++k),F)
    | none=>match RP P Γ ops S' ⟨Q.calls,a,Q.fz,Q.tg⟩ o with
     | none=>none
     | some (U,j,ext,B)=>match ext with
      | false=>none
      | true=>match Tg P Γ ops (bh b hb S.h) c z U B with
       | none=>none
       | some (w,k,F)=>some (w,vs++(j++k),F)
def hseq (P:Program)(Γ:Ay)(ops:Array Oper)(c:DH)(p:List (Θ×Nat))(z e:Θ)(S:St)(Q:BS):Option (St×List Prop×BS):=match Tg P Γ ops c p z S Q with
 | none=>none
 | some (S',vs,B)=>match EL P Γ ops (CM ops e) S' B with
  | none=>none
  | some (U,j,q)=>some (U,vs++j,q)
section
variable {P:Program} {Γ:Ay} {N:Ψ} {S:St} {ρ:List AK} {a:Act} {w:World} {F:Fence}
structure Du (F:Fence)(P:Program):Prop where
 fn: ∀ f,F.fn f
 dep:F.depth=none
 calls: ∀ {f:FuncId} {args:Array Value} {w:World} {R:Ending -> World -> Prop},Calls P f args w R -> CallsIn F 0 P f args w R
def Du.wide:Du Fence.wide P:=⟨λ_=>trivial,rfl,λh=>zPy.2 h⟩
def Du.round (l:Nat):Du (Fence.wide.inRound l) P:=⟨λ_=>trivial,rfl,λh=>CallsIn.inRound _ (zPy.2 h)⟩
variable {o:Oper}{ops:Array Oper}
theorem I2 (R:AU P Γ N S ρ a w){r:Bool}(h:K3 ops S o=some r):Region.wanted o (yielded ops a.tmps)=r:=by
 unfold K3 at h;unfold Region.wanted;split at h
 ·grind
 ·rename_i j pi n;rw [n];split at h
  ·rename_i t V;split at h
   ·rename_i b d;cases h;have c:=R.fr.at t;rw [d] at c;have s:a.tmps.getD t undef= .bool b:=c
    have:a.tmps[t]? =some (.bool b):=by
     rw [zKC] at s;cases e:a.tmps[t]? with
     | none=>rw [e] at s;cases s
     | some u=>grind
    simp [yielded,V,this]
   ·rename_i m f d;cases h;have c:=R.fr.at t;rw [d] at c;obtain ⟨cs,s,_⟩:=c
    have:yielded ops a.tmps j=none:=by
     unfold yielded;rw [zKC] at s
     grind
    simp [this]
   ·cases h
  ·cases h
variable {M:Ψ}{i J:List (Nat×DV)}
theorem YI {dst:Option Nat}{d d':DV}{vs:List Prop}(h:YJ J dst d=(d',vs,i))(hv:BX vs){v:Value}(j:AI M w d ρ v):AI M w d' ρ v:=by
 unfold YJ at h;split at h
 ·cases h;exact j
 ·split at h
  ·grind [BX,AM]
  ·cases h;exact j
variable {O:Prop}
theorem uz {a:Op}{d:DV}(h:pop P S a=some (d,O))(V:NZ S a=true):O:=by
 unfold pop at h;split at h
 ·cases h;trivial
 ·cases h;trivial
 ·grind
 ·simp only [NZ] at V;unfold QT at h
  grind
 ·unfold ff at h;split at h
  ·grind
  ·grind
  ·grind [NZ]
  ·grind [NZ]
  ·grind [NZ]
  ·cases V
  ·cases V
  ·cases V
  ·cases V
  ·split at h
   ·unfold fe at h
    grind
   ·cases h
  ·cases h
 ·grind
 ·grind
 ·grind
 ·grind
 ·cases V
 ·grind
 ·grind
 ·split at h
  ·unfold fY at h;split at h
   ·split at h
    ·split at h
     ·unfold cX at h;split at h;· grind
      unfold cY at h;grind
     ·cases h
    ·cases h
   ·split at h
    ·unfold kL at h
     grind
    ·cases h
   ·split at h
    ·unfold kK at h
     grind
    ·cases h
   ·cases h
  ·cases h
 ·cases h
theorem zNY {a:BinOp}{t:TypeId}{x y d:DV}(h:Xs P a t x y=some (d,O)):O:=by
 unfold Xs at h
 grind
theorem zBl {a:Op}{d:DV}(h:WE P S a=some (d,O))(V:NZ S a=true):O:=by
 unfold WE at h;split at h
 ·grind
 ·grind [cW]
 ·cases V
 ·unfold eH at h
  repeat' (split at h)
  all_goals grind
 ·cases V
 ·grind [zNY,uz]
 ·exact uz h V
theorem bO (R:AU P Γ N S ρ a w){S':St}{vs:List Prop}(h:V5 P ops S J o=some (S',vs,i))(s:BX vs):
 S'.h=S.h/\ ((Region.wanted o (yielded ops a.tmps)=true/\ ∃ v,(∀ W,Keep N w W -> (execOp a.eval o).run P W= .ok (.value v) W)/\ AU P Γ N S' ρ (a.put o.dst v) w)∨(Region.wanted o (yielded ops a.tmps)=false/\ AU P Γ N S' ρ (a.put o.dst undef) w)):=by
 unfold V5 at h;split at h
 ·cases h
 ·rename_i X;cases h;exact ⟨rfl,.inr ⟨I2 R X,HP R _ ZH⟩⟩
 ·rename_i X;split at h
  ·cases h
  ·rename_i d O f;split at h;rename_i d' j zh t;cases h
   have n:O/\ BX j:=by
    by_cases V:NZ S o.op=true
    ·rw [zAE V] at s;grind [zBl]
    simp_all [BX]
   obtain ⟨v,p,r⟩:=zHI R o f n.1;exact ⟨rfl,.inl ⟨I2 R X,v,p,HP R _ (YI t n.2 r)⟩⟩
theorem V6 {Q:Act -> Prop}: ∀ (l:List Oper) {S:St} {a:Act} {J:List (Nat×DV)} {S':St} {vs:List Prop} {i:List (Nat×DV)},AU P Γ N S ρ a w -> V7 P ops l S J=some (S',vs,i) -> BX vs ->
 (∀ a',S'.h=S.h -> AU P Γ N S' ρ a' w -> a'.defers=a.defers -> Q a') -> wpQuiet P ops (λw'=>∃ x:Yk w,w'=x.W) Q l a
 | [],S,a,J,S',vs,i,R,h,_,u=>by
  cases h;exact u a rfl R rfl
 | o::rest,S,a,J,S',vs,i,R,h,d,u=>by
  simp only [V7] at h;split at h
  ·cases h
  ·rename_i S1 DQ fM e;split at h
   ·cases h
   ·rename_i S2 FD co2 c;cases h;obtain ⟨V,H⟩:=Da.1 d;obtain ⟨B,f⟩:=bO R e V;unfold wpQuiet;have t: ∀ v,(a.put o.dst v).defers=a.defers:=λv=>by cases ho:o.dst <;> simp [Act.put]
    rcases f with ⟨X,v,p,r⟩ | ⟨X,r⟩
    ·rw [zAE X];refine ⟨v,?_,V6 rest r c H λa' q s b=>u a' (q.trans B) s (b.trans (t v))⟩;rintro W ⟨x,rfl⟩;unfold Oper.quietAt;rw [p x.W (Keep.ofExt x.le)];exact ⟨rfl,rfl⟩
    ·rw [zEO Z4];exact V6 rest r c H λa' q s b=>u a' (q.trans B) s (b.trans (t undef))
theorem BB.append {l l':List DV}{t T:Array Value}(h:BB M w ρ l t)(h':BB M w ρ l' T):BB M w ρ (l++l') (t++T):=by
 refine ⟨by simp [h.1,h'.1],λi hi=>?_⟩;rcases zKL i l.length with hl | hl
 ·have:=h.2 i hl
  simp_all [BB]
 ·have U:i-l.length<l'.length:=by simp at hi;omega
  have:=h'.2 _ U
  simp_all [BB]
variable {g:Nat}
theorem zEn {args:Array Value}{fn:Func}(E:P.funcs[g]? =some fn)(l:fn.name≠ "runtime.NumGoroutine")(xz:fn.body.isSome=true):(callFunc g args).run P w= .ok (.enter g args) w:=by
 have h:fn.body.isNone=false:=by simp_all
 have m:(fn.name== "runtime.NumGoroutine")=false:=by simpa using l
 unfold callFunc;rw [zJ2,show Sem.run P program w= .ok P w from rfl];simp only [Result.andThen,E,m,h,zLk,zP3];rfl
variable {cap:Nat -> DV}{m:Nat}{f:Operand}{c:Call}
theorem oF (R:AU P Γ N S ρ a w)(o:Oper)(y:o.op= .call c)(n:c.callee= .value f)(O:Ad S.fr f= .fn g m cap) 
 (b: ∀ args W,(callFunc g args).run P W= .ok (.enter g args) W): ∃ args,(execOp a.eval o).run P w= .ok (.enter g args) w/\ BB (MS N S.h ρ) w ρ (c.args.toList.map (Ad S.fr)++(List.range m).map cap) args:=by
 have j:=BV R f;rw [O] at j;obtain ⟨e,s,l,Qy⟩:=j;refine ⟨c.args.map a.eval++e,?_,BB.append ⟨Z3,λi hi=>?_⟩ ⟨by simp [l],λi hi=>?_⟩⟩
 ·unfold execOp;rw [y]
  show ((resolve a.eval c o.type)>>=λd=>invoke d.target d.args).run P w=_
  unfold resolve;rw [n];simp only [Deferred.ofValue,s];have M:((pure { target:=.fn (.func g) e,args:=#[]++Array.map a.eval c.args }:Sem Deferred)>>=λd=>invoke d.target d.args).run P w=(callFunc g (#[]++Array.map a.eval c.args++e)).run P w:=rfl;rw [M,b];simp
 ·have U:i<c.args.size:=by simpa using hi
  have:=BV R c.args[i];simp [U,this]
 simp_all
variable {G:Value -> World -> Prop}
def z8 (R:AU P Γ N S ρ a w)(o:Oper)(y:o.op= .call c)(n:c.callee= .value f)(O:Ad S.fr f= .fn g m cap) 
 (E: ∃ fn,P.funcs[g]? =some fn/\ fn.name≠ "runtime.NumGoroutine" /\ fn.body.isSome=true) (H: ∀ args,BB (MS N S.h ρ) w ρ (c.args.toList.map (Ad S.fr)++(List.range m).map cap) args -> Calls P g args w λe w'=>∃ v,e= .returned v/\ G v w'):BH P (execOp a.eval o) w G:=
 let ⟨_,b,d,i⟩:=E
 let ⟨args,A,j⟩:=oF R o y n O λ_ _=>zEn b d i
 .inr (.inr ⟨g,args,w,A,H _ j⟩)
variable {ext:Bool}{h':DH}
theorem zOf (R:AU P Γ N S ρ a w){d:DV}(o:Oper)(y:o.op= .call c)(n:c.callee= .value f)(O:Ad S.fr f= .fn g m cap) 
 (H:ES P Γ g (c.args.toList.map (Ad S.fr)++(List.range m).map cap) S.h d h' ext):BH P (execOp a.eval o) w (B8 P Γ N S.h ρ w ext d h'):=
 z8 R o y n O H.1 λargs K=>H.2 N ρ w args R.hr K
theorem pA (R:AU P Γ N S ρ a w){b:List (DV×DH×Bool)}{d:DV}{vs:List Prop}{n:List (DV×DH×Bool)}(h:PG P Γ S b o.op=some (d,h',vs,ext,n))(s:BX vs):
 BH P (execOp a.eval o) w (B8 P Γ N S.h ρ w ext d h'):=by
 unfold PG at h;split at h
 ·grind [zOk]
 ·grind [zPL,zPK]
 ·split at h
  ·split at h
   ·grind [zOi]
   ·cases h
  ·cases h
 ·split at h
  ·split at h
   ·cases h;obtain ⟨⟨rfl,F,O⟩,_⟩:=s
    grind [zIb]
   ·cases h
  split at h
  ·split at h
   ·split at h
    ·cases h;obtain ⟨⟨rfl,F,O⟩,_⟩:=s
     grind [zIa]
    ·cases h
   ·cases h
  ·cases h
 ·rename_i t x y g;split at h
  ·grind [qz,BX]
  ·cases h
 ·rename_i c g;split at h
  ·rename_i i;split at h
   ·rename_i x y ha;split at h
    ·rename_i t t' ht;split at h
     ·rename_i e;subst e;split at h
      ·grind [zAf,BX]
      ·cases h
     ·cases h
    ·cases h
   ·cases h
  ·rename_i f i;split at h
   ·grind [zOf,BX]
   ·cases h
  ·cases h
 grind [zIT]
variable {Q:Exit -> Act -> World -> Prop}{K:Act -> World -> Prop}
theorem Lx (S:Du F P)(g: ∀ c,o.op≠.defer c)(h:BH P (execOp a.eval o) w G)(l: ∀ v w',G v w' -> K (a.put o.dst v) w'):o.wpIn F 0 P a w K Q:=by
 refine ⟨λf _=>S.fn f,?_⟩;rw [zLv _ _ _ g];rcases h with ⟨v,w',b,d⟩ | ⟨w',b,d⟩ | ⟨f,args,w',b,d⟩
 ·rw [b];exact l v w' d
 ·rw [b];exact l undef w' d
 ·rw [b];refine ⟨λe=>(by rw [S.dep] at e;cases e),(S.calls d).mono ?_⟩
  grind
def oR (b:Du F P)(R:AU P Γ N S ρ a w){j:BS}(g: ∀ c,o.op≠.defer c){S':St}{vs:List Prop}{B:BS}(h:RP P Γ ops S j o=some (S',vs,ext,B))(s:BX vs) 
   (l: ∀ ρ' a' w',AU P Γ N S' ρ' a' w' -> DF S.h ρ w S'.h ρ' w' -> a'.defers=a.defers -> (ext=true -> Az w w') -> K a' w'):
 if Region.wanted o (yielded ops a.tmps) then o.wpIn F 0 P a w K Q else (∀ f,o.about P w a.eval=some f -> F.fn f)/\ K (a.put o.dst undef) w:=by
 have t: ∀ v,(a.put o.dst v).defers=a.defers:=λv=>by cases ho:o.dst <;> simp [Act.put]
 unfold RP at h;split at h
 ·cases h
 ·rename_i X;cases h;rw [zEO (by rw [I2 R X];exact Bool.false_ne_true)];exact ⟨λf _=>b.fn f,l ρ _ _ (HP R _ ZH) (DF.refl _ _ _) (t _) λ_=>Az.refl w⟩
 ·rename_i X;rw [zAE (I2 R X)];split at h
  ·rename_i k i fz1 Y;cases h;exact Lx b g (sT R Y s) λv w' ⟨⟨ρ',p,r⟩,_⟩=>l ρ' _ _ p r (t v) λe=>by cases e
  split at h
  ·rename_i k i Y;cases h;exact Lx b g (qy R Y s) λv w' ⟨⟨ρ',p,r⟩,_⟩=>l ρ' _ _ p r (t v) λe=>by cases e
  split at h
  ·cases h
  ·rename_i d h1 i ext1 calls m;split at h;rename_i d' Bv Dq n;split at h
   ·cases h
   ·rename_i S2 Rs Ls q;cases h;obtain ⟨V,u⟩:=Da.1 s;obtain ⟨H,A⟩:=Da.1 u;refine Lx b g (pA R m V) λv w' G=>?_
    obtain ⟨ρ',p,r⟩:=Ox R o.dst G (d':=d') λM ρ' x=>YI n H x
    obtain ⟨y,U⟩:=Xc _ q A P Γ N ρ' _ _ p;exact l ρ' _ _ y (r.trans ⟨U,λ_ _ h=>h⟩) (t v) G.ext
theorem Lp (b:Du F P)(p:Ct ops=true): ∀ (l:List Oper) (_: ∀ o∈l,o∈ops) {S:St} {ρ:List AK} {a:Act} {w:World} {d:BS} {S':St} {vs:List Prop} {B:BS},
 AU P Γ N S ρ a w -> EL P Γ ops l S d=some (S',vs,B) -> BX vs ->
 (∀ ρ' a' w',AU P Γ N S' ρ' a' w' -> DF S.h ρ w S'.h ρ' w' -> a'.defers=a.defers -> Q .normal a' w') -> wpListIn F 0 P ops Q l a w
 | [],_,S,ρ,a,w,d,S',vs,B,R,h,_,u=>by
  cases h;exact u ρ a w R (DF.refl _ _ _) rfl
 | o::rest,q,S,ρ,a,w,d,S',vs,B,R,h,s,u=>by
  have t: ∀ c,o.op≠.defer c:=by
   obtain ⟨j,hj,e⟩:=Array.getElem_of_mem (q o Z3)
   grind [Ct]
  have Y: ∀ o∈rest,o∈ops:=λo y=>q o (by simp [y])
  have A: ∀ v,(a.put o.dst v).defers=a.defers:=λv=>by cases y:o.dst <;> simp [Act.put]
  simp only [EL] at h;unfold wpListIn;split at h
  ·split at h
   ·cases h
   ·rename_i x C ext1 G7 g;split at h
    ·cases h
    ·rename_i D E G i;cases h;obtain ⟨V,H⟩:=Da.1 s;exact oR b R t g V λρ' a' w' R' st I _=>Lp b p rest Y R' i H λρ'' k K L m n=>u ρ'' k K L (st.trans m) (n.trans I)
  ·split at h
   ·cases h
   ·rename_i x C fM g;split at h
    ·cases h
    ·rename_i D E G i;cases h;obtain ⟨V,H⟩:=Da.1 s;obtain ⟨J,M⟩:=bO R g V
     have z: ∀ v,AU P Γ N x ρ (a.put o.dst v) w -> wpListIn F 0 P ops Q rest (a.put o.dst v) w:=λv R'=>
      Lp b p rest Y R' i H λρ'' k K L m n=>u ρ'' k K L (by rw [←J];exact m) (n.trans (A v))
     rcases M with ⟨X,v,O,r⟩ | ⟨X,r⟩
     ·rw [zAE X];refine ⟨λf _=>b.fn f,?_⟩;rw [zLv _ _ _ t,O w (Keep.ofExt (Az.refl w))];exact z v r
     ·rw [zEO Z4];exact ⟨λf _=>b.fn f,z undef r⟩
theorem P8 : ∀ (l:Θ),∀ o∈CM ops l,o∈ops
 | [],o,h=>by simp [CM] at h
 | i::l,o,h=>by
  simp only [CM] at h;split at h
  ·rename_i o' ho;rcases zKP.1 h with rfl | h
   ·grind
   ·exact P8 l o h
  ·exact P8 l o h
def zAA (k:Du F P)(R:AU P Γ N S ρ a w){j:DH}{l:BS}{S':St}{vs:List Prop}{B:BS}(h:oG P Γ j ops S l o=some (S',vs,B))(s:BX vs) 
   (n: ∀ ρ' a' w',AU P Γ N S' ρ' a' w' -> DF S.h ρ w S'.h ρ' w' -> a'.defers=a.defers -> AS (λb=>∃ i o p,j.length<=i/\ S.h[i]? =some (some o)/\ ρ[i]? =some p/\ p.foot b) w w' -> K a' w'):
 cq j S.h=true/\ if Region.wanted o (yielded ops a.tmps) then o.wpIn F 0 P a w K Q else (∀ f,o.about P w a.eval=some f -> F.fn f)/\ K (a.put o.dst undef) w:=by
 have t: ∀ v,(a.put o.dst v).defers=a.defers:=λv=>by cases y:o.dst <;> simp [Act.put]
 unfold oG at h;split at h
 case h_2=>cases h
 rename_i c y;split at h
 case h_2=>cases h
 rename_i f q;split at h
 case h_2=>cases h
 rename_i g m cap d h' rest O hcalls;split at h
 case h_2=>cases h
 rename_i X hk;split at h;rename_i d' Bv Dq r;split at h
 case h_2=>cases h
 rename_i S1 Rs Ls u;cases h;obtain ⟨V,x⟩:=s;obtain ⟨H,A⟩:=Da.1 x;refine ⟨hk,?_⟩;rw [zAE (I2 R X)];refine Lx k (λc e=>by rw [y] at e;cases e) (z8 R o y q O V.1 λargs z=>V.2 N ρ w args R.hr z) λv w' G=>?_
 obtain ⟨ρ',C,D⟩:=Ox R o.dst G.1 (d':=d') λM ρ' E=>YI r H E
 obtain ⟨I,U⟩:=Xc _ u A P Γ N ρ' _ _ C;exact n ρ' _ _ I (D.trans ⟨U,λ_ _ h=>h⟩) (t v) G.2
variable {b:World}{ρb:List AK}
theorem zIL {c h:DH}{ρ:List AK}{w w':World}(HR:As P Γ N h ρ w)(d:DF c ρb b h ρ w)(H:Az b w)(hk:cq c h=true)(t:AS (λx=>∃ i o p,c.length<=i/\ h[i]? =some (some o)/\ ρ[i]? =some p/\ p.foot x) w w'):Az b w':=by
 refine ((AS.ofExt (S:=λx=>∃ i o p,c.length<=i/\ h[i]? =some (some o)/\ ρ[i]? =some p/\ p.foot x) H).comp t λ_ _ h=>h).toExt ?_;rintro x hx ⟨i,o,p,h1,e,f,A⟩;rcases d.st.grow x ⟨i,o,p,e,f,A⟩ with ⟨k,o',q,g,r,R⟩ | H9
 ·have B:=(zJ0.1 g).1;have:=zBk.1 hk k (zIN.2 B);rw [show (c.getD k none).isSome=true by grind,zLa,zNg] at this;obtain ⟨E,a⟩:=zP4.1 this;have a:h[k]? =some (some E):=getD_some a;exact HR.dis i k o E p q x Z2 e a f (d.pl k q r) A R
 ·omega
theorem lj (f:Du F P)(u:Ct ops=true){Q:Exit -> Act -> World -> Prop}: ∀ (I:List (Θ×Nat)) (c e:Θ) {S:St} {ρ:List AK} {a:Act} {w:World} {k:BS} {S':St} {vs:List Prop} {l:BS} {d:DH} {ρb:List AK} {b:World},
 (e.all λt=>decide (t<ops.size))=true -> AU P Γ N S ρ a w -> DF d ρb b S.h ρ w -> Az b w -> Tg P Γ ops d I c S k=some (S',vs,l) -> BX vs ->
 (∀ ρ' a' w',AU P Γ N S' ρ' a' w' -> DF S.h ρ w S'.h ρ' w' -> a'.defers=a.defers -> wpListIn F 0 P ops Q (CM ops e) a' w') -> Qu F 0 P ops Q b I c e a w
 | [],c,e,S,ρ,a,w,k,S',vs,l,d,ρb,b,V,R,_,_,h,s,n=>by
  grind [Tg,zL3,V6,DF.refl]
 | (z,i)::J,c,e,S,ρ,a,w,k,S',vs,l,d,ρb,b,V,R,X,Y,h,s,n=>by
  have Z: ∃ ρb',DF (bh z d S.h) ρb' (bw z b w) S.h ρ w/\ Az (bw z b w) w:=by
   cases z with
   | nil=>exact ⟨ρb,X,Y⟩
   | cons s0 ss=>exact ⟨ρ,DF.refl _ _ _,Az.refl w⟩
  obtain ⟨ρb',q,O⟩:=Z;simp only [Tg] at h;split at h
  ·cases h
  ·rename_i S1 DQ fM U;split at h
   ·cases h
   ·rename_i o y;split at h
    ·rename_i S2 FD G6 j;split at h
     ·cases h
     ·rename_i S3 PT Me p;cases h;obtain ⟨r,T⟩:=Da.1 s;obtain ⟨H,A⟩:=Da.1 T;refine V6 _ R U r λa' B R' G=>?_
      unfold wpOpIn;simp only [y];have hk:cq (bh z d S.h) S1.h=true:=(zAA (K:=λ_ _=>True) (Q:=λ_ _ _=>True) f R' j H λ_ _ _ _ _ _ _=>trivial).1;refine (zAA f R' j H λρ'' Gu v L m x W=>?_).2;rw [B] at m hk;have g:Az (bw z b w) v:=zIL R.hr q O hk (by rw [B] at W;exact W);exact ⟨g,lj f u J c e V L (q.trans m) g p A λρ3 a3 C D M E=>n ρ3 a3 C D (m.trans M) (E.trans (x.trans G))⟩
    ·split at h
     ·cases h
     ·rename_i S2 FD ext G6 j;split at h
      ·cases h
      ·split at h
       ·cases h
       ·rename_i S3 PT Me p;cases h;obtain ⟨r,T⟩:=Da.1 s;obtain ⟨H,A⟩:=Da.1 T;refine V6 _ R U r λa' B R' G=>?_
        unfold wpOpIn;simp only [y];refine oR f R' (JJ u y) j H λρ'' Gu v L m x Lm=>?_
        rw [B] at m;have g:Az (bw z b w) v:=O.trans (Lm rfl);exact ⟨g,lj f u J c e V L (q.trans m) g p A λρ3 a3 C D M E=>n ρ3 a3 C D (m.trans M) (E.trans (x.trans G))⟩
def zKE (c:Du F P)(u:Ct ops=true)(p:List (Θ×Nat))(z e:Θ){S:St}{ρ:List AK}{a:Act}{w:World}{f:BS}{S':St}{vs:List Prop}{B:BS}{d:DH} 
 (V:(e.all λt=>decide (t<ops.size))=true) (R:AU P Γ N S ρ a w) (g:DF d ρb b S.h ρ w) (i:Az b w) (h:hseq P Γ ops d p z e S f=some (S',vs,B)) (s:BX vs)
 (j: ∀ ρ' a' w',AU P Γ N S' ρ' a' w' -> DF S.h ρ w S'.h ρ' w' -> a'.defers=a.defers -> Q .normal a' w'):Qu F 0 P ops Q b p z e a w:=by
 unfold hseq at h;split at h
 ·cases h
 rename_i S1 DQ G7 k;split at h
 ·cases h
 rename_i S2 FD G6 r;cases h;obtain ⟨l,H⟩:=Da.1 s;exact lj c u p z e V R g i k l λρ1 a1 w1 y m K=>Lp c u _ (P8 e) y r H λρ2 n o Z q v=>j ρ2 n o Z (m.trans q) (v.trans K)
end
abbrev zLp:=@Go.wpIn_seq
abbrev zQB:=@Go.wpIn_skip
abbrev zQE:=@Go.wpIn_ret
section
def B0 (L:Nat)(ρ ρ':List AK):Prop:=∀ (k:Nat) (p:AK),k<L -> ρ[k]? =some p -> ρ'[k]? =some p
theorem B0.refl (L:Nat)(ρ:List AK):B0 L ρ ρ:=λ_ _ _ h=>h
variable {L:Nat}
def B0.trans {a b c:List AK}(h:B0 L a b)(k:B0 L b c):B0 L a c:=λi p hi f=>k i p hi (h i p hi f)
structure Bd (F:Fence)(B:Option Nat)(w:World):Prop where
 le: ∀ b,B=some b -> b<=w.heap.size
 rd: ∀ l,F.round=some l -> ∃ r,w.heap[l]? =some (.loop r)
variable {w:World}
theorem Bd.step {P:Program}{Γ:Ay}{N:Ψ}{h h':DH}{ρ ρ':List AK}{F:Fence}{B:Option Nat}{w':World}(b:Bd F B w)(H:As P Γ N h ρ w)(st:A3 h ρ w h' ρ' w'):Bd F B w':=
 ⟨λx e=>zA4 (b.le x e) st.upd.size,λl a=>by
  obtain ⟨r,j⟩:=b.rd l a;refine ⟨r,(st.upd.block l (zA0.1 j).1 ?_).trans j⟩;rintro ⟨k,o,p,d,f,g⟩;obtain ⟨_,_,c,t,z,h4⟩:=H.cel k o p l d f g
  grind [dh]⟩
def Bd.wide {B:Nat}(h:B<=w.heap.size):Bd Fence.wide (some B) w:=⟨λb e=>by cases e;exact h,λl o=>by cases o⟩
def Bd.none :Bd Fence.wide none w:=⟨λb e=>(by cases e),λl o=>by cases o⟩
def Jk:Option Nat -> List Deferred -> World -> Prop
 | none,ds,_=>ds= []
 | some B,ds,w=>EM B ds w
structure BK (P:Program)(Γ:Ay)(L:Nat) where
 I:(Ψ) -> DH -> List AK -> World -> Prop
 st: ∀ {N:Ψ} {h:DH} {ρ:List AK} {w:World} {h':DH} {ρ':List AK} {w':World},I N h ρ w -> As P Γ N h ρ w -> As P Γ N h' ρ' w' -> A3 h ρ w h' ρ' w' -> B0 L ρ ρ' -> I N h' ρ' w'
def SG (P:Program)(Γ:Ay)(L:Nat)(a:Ψ)(h0:DH)(ρ0:List AK)(w0:World):BK P Γ L where
 I:=λN h ρ w=>N=a/\ A3 h0 ρ0 w0 h ρ w/\ B0 L ρ0 ρ
 st:=λ⟨e,s,k⟩ _ _ st o=>⟨e,s.trans st,k.trans o⟩
abbrev QY (P:Program)(Γ:Ay)(L:Nat):=Exit -> St -> BK P Γ L -> Prop
def QE {P:Program}{Γ:Ay}{L:Nat}(Q:QY P Γ L):Exit -> St -> BK P Γ L -> Prop
 | .outgrown,_,_=>False
 | e,S,Y=>Q e S Y
def Tr (P:Program)(Γ:Ay)(F:Fence)(B:Option Nat)(L:Nat)(Y:BK P Γ L)(c:Code)(S:St)(Q:QY P Γ L):Prop:= ∀ N ρ a w,AU P Γ N S ρ a w -> Y.I N S.h ρ w -> Jk B a.defers w -> Bd F B w -> c.wpIn F 0 P (λe a' w'=>∃ S' ρ' b d,QE Q e S' d/\ AU P Γ b S' ρ' a' w'/\ d.I b S'.h ρ' w'/\ Jk B a'.defers w'/\ Bd F B w') a w
def A7 (L:Nat)(S S':St):Prop:=∀ P Γ N ρ a w,AU P Γ N S ρ a w -> ∃ ρ',AU P Γ N S' ρ' a w/\ A3 S.h ρ w S'.h ρ' w/\ B0 L ρ ρ'
theorem A7.refl (L:Nat)(S:St):A7 L S S:=λ_ _ _ ρ _ _ R=>⟨ρ,R,A3.refl _ _ _,B0.refl _ _⟩
def A7.trans {A B C:St}(h:A7 L A B)(k:A7 L B C):A7 L A C:=λP Γ N ρ a w R=>by
 obtain ⟨ρ1,y,b,F⟩:=h P Γ N ρ a w R;obtain ⟨ρ2,Z,v,t⟩:=k P Γ N ρ1 a w y;exact ⟨ρ2,Z,b.trans v,F.trans t⟩
section
variable {P:Program} {Γ:Ay} {N:Ψ} {S:St} {F:Fence} {B:Option Nat} {L:Nat} {Y:BK P Γ L} {Q Q':QY P Γ L}
variable {e:Exit}
theorem QE.mono (h: ∀ e S Y,Q e S Y -> Q' e S Y){S:St}(a:QE Q e S Y):QE Q' e S Y:=by
 cases e <;> first | exact a | exact h _ _ _ a
variable {c:Code}
theorem Tr.mono (h:Tr P Γ F B L Y c S Q)(d: ∀ e S Y,Q e S Y -> Q' e S Y):Tr P Γ F B L Y c S Q':=λN ρ a w R y m b=>
 zMY (h N ρ a w R y m b) λ_ _ _ ⟨S',ρ',f,g,i,j⟩=>⟨S',ρ',f,g,i.mono d,j⟩
variable {S':St}
def Tr.weaken (i:A7 L S S')(h:Tr P Γ F B L Y c S' Q):Tr P Γ F B L Y c S Q:=λN ρ a w R y m b=>by
 obtain ⟨ρ1,d,e,f⟩:=i P Γ N ρ a w R;exact h N ρ1 a w d (Y.st y R.hr d.hr e f) m b
variable {w':World}{ρ ρ':List AK}
theorem WY {h':DH}{ds:List Deferred}{w:World}(H:As P Γ N S.h ρ w)(st:A3 S.h ρ w h' ρ' w')(m:Jk B ds w):Jk B ds w':=by
 cases B with
 | none=>exact m
 | some B=>
 refine EM.upd st.upd m λk _ hk e=>?_
 obtain ⟨i,o,p,a,b,d⟩:=hk;obtain ⟨_,_,c,t,z,h4⟩:=H.cel i o p k a b d
 grind [dh]
theorem Tr.skip (h:Q .normal S Y):Tr P Γ F B L Y .skip S Q:=λN ρ _ _ R y m b=>zQB ⟨S,ρ,N,Y,h,R,y,m,b⟩
def Tr.ret (h:Q .ret S Y):Tr P Γ F B L Y .ret S Q:=λN ρ _ _ R y m b=>zQE ⟨S,ρ,N,Y,h,R,y,m,b⟩
variable {id:Nat}
def Tr.exit (h:Q (.exit id) S Y):Tr P Γ F B L Y (.exit id) S Q:=λN ρ _ _ R y m b=>wpIn_exit ⟨S,ρ,N,Y,h,R,y,m,b⟩
def PV (K:St -> BK P Γ L -> Prop)(Q:QY P Γ L):QY P Γ L
 | .normal,S,Y=>K S Y
 | e,S,Y=>Q e S Y
variable {x y:Code}
def Tr.seq (h:Tr P Γ F B L Y x S (PV (λS' d=>Tr P Γ F B L d y S' Q) Q)):Tr P Γ F B L Y (.seq x y) S Q:=λN ρ a w R y m b=>by
 refine zLp (zMY (h N ρ a w R y m b) ?_);rintro e a' w' ⟨S',ρ',g,d,f,i,j,A,k⟩;cases e with
 | normal=>exact f g ρ' a' w' i j A k
 | ret=>exact ⟨S',ρ',g,d,f,i,j,A,k⟩
 | exit id=>exact ⟨S',ρ',g,d,f,i,j,A,k⟩
 | goto t=>exact ⟨S',ρ',g,d,f,i,j,A,k⟩
 | panic c=>exact ⟨S',ρ',g,d,f,i,j,A,k⟩
 | outgrown=>exact f.elim
variable {b:Bool}
theorem Tr.cond {c:Operand}(n:Ad S.fr c= .bool b)(h1:b=true -> Tr P Γ F B L Y x S Q)(h2:b=false -> Tr P Γ F B L Y y S Q):Tr P Γ F B L Y (.cond c x y) S Q:=λN ρ a w R y m bb=>by
 have j:=BV R c;rw [n] at j;refine wpIn_cond (t:=b) j ?_
 grind [Tr]
variable {a:Act}
def zBB {F:Fence}{n:Nat}{P:Program}{Q:Exit -> Act -> World -> Prop}{w:World}(h:c.wpIn F n P (Exit.noGoto Q) a w):(Code.scope c).wpIn F n P Q a w:=by
 intro b k cs M g j;have h0:(lone (b.atR a (.code (.scope c)::k)) cs w).fenced P F:=zMT g j rfl;have H:step P (lone (b.atR a (.code (.scope c)::k)) cs w)= .next (lone (b.atR a (.code c:: .inScope c::k)) cs w):=step_lone_go (by simp [stepG,stepG.exec,Frame.atR]);obtain ⟨e,v,d,f,S⟩:=h b (.inScope c::k) cs M g j;have B:step P (lone (b.atR v (.inScope c::k)) cs d)= .next (lone (b.atR v k) cs d):=step_lone_go (by simp [stepG,stepG.exec,Frame.atR]);cases e with
 | normal=>exact ⟨.normal,v,d,f,.head h0 H (zLi S (.one (zMT g j rfl) B))⟩
 | exit id=>exact ⟨.exit id,v,d,f,λo hk=>.head h0 H (S.1 o hk),λV hk=>let ⟨X,i,m⟩:=S.2 V hk;⟨X,i,.head h0 H m⟩⟩
 | goto l=>exact f.elim
 | ret=>exact ⟨_,v,d,f,.of_steps (.one h0 H) S⟩
 | panic ch=>exact ⟨_,v,d,f,.of_steps (.one h0 H) S⟩
 | outgrown=>exact ⟨_,v,d,f,.of_steps (.one h0 H) S⟩
def zIJ (Q:QY P Γ L):QY P Γ L
 | .goto _,_,_=>False
 | e,S,Y=>Q e S Y
def Tr.scope (h:Tr P Γ F B L Y c S (zIJ Q)):Tr P Γ F B L Y (.scope c) S Q:=λN ρ a w R y m b=>by
 refine zBB (zMY (h N ρ a w R y m b) ?_);rintro e a' w' ⟨S',ρ',f,g,d,i⟩;cases e with
 | goto l=>exact d.elim
 | _=>exact ⟨S',ρ',f,g,d,i⟩
def Tr.label {l:Nat}(h:Q .normal S Y):Tr P Γ F B L Y (.label l) S Q:=λN ρ a w R y m b=>wpIn_label ⟨S,ρ,N,Y,h,R,y,m,b⟩
def zAI (id:Nat)(Q:QY P Γ L):QY P Γ L
 | .exit i,S,Y=>if i=id then Q .normal S Y else Q (.exit i) S Y
 | e,S,Y=>Q e S Y
theorem Tr.block (h:Tr P Γ F B L Y c S (zAI id Q)):Tr P Γ F B L Y (.block id c) S Q:=λN ρ a w R y m b=>by
 refine wpIn_block (zMY (h N ρ a w R y m b) ?_);rintro e a' w' ⟨S',ρ',f,g,d,j⟩;cases e with
 | exit i=>
  show if i=id then _ else _
  grind [QE,zAI]
 | normal=>exact ⟨S',ρ',f,g,d,j⟩
 | ret=>exact ⟨S',ρ',f,g,d,j⟩
 | goto t=>exact ⟨S',ρ',f,g,d,j⟩
 | panic c=>exact ⟨S',ρ',f,g,d,j⟩
 | outgrown=>exact d.elim
def Tr.loop (I:Nat -> St -> BK P Γ L -> Prop)(n:Nat)(h0:I n S Y)(h: ∀ n S Y,I n S Y -> Tr P Γ F B L Y c S (PV (λS' d=>∃ j,j<n/\ I j S' d) Q)):Tr P Γ F B L Y (.loop c) S Q:=λN ρ a w R y m b=>by
 refine wpIn_loop_ghost (λk a' w'=>∃ S' ρ' l d,I k S' d/\ AU P Γ l S' ρ' a' w'/\ d.I l S'.h ρ' w'/\ Jk B a'.defers w'/\ Bd F B w') n ⟨S,ρ,N,Y,h0,R,y,m,b⟩ ?_;rintro k a' w' ⟨S',ρ',l,d,o,q,s,A,u⟩;refine zMY (h k S' d o l ρ' a' w' q s A u) ?_;rintro e a2 w2 ⟨X,ρ2,g,f,p,r,i,U,D⟩;cases e with
 | normal=>
  obtain ⟨j,v,x⟩:=p;exact ⟨j,v,X,ρ2,g,f,x,r,i,U,D⟩
 | ret=>exact ⟨X,ρ2,g,f,p,r,i,U,D⟩
 | exit id=>exact ⟨X,ρ2,g,f,p,r,i,U,D⟩
 | goto t=>exact ⟨X,ρ2,g,f,p,r,i,U,D⟩
 | panic c=>exact ⟨X,ρ2,g,f,p,r,i,U,D⟩
 | outgrown=>exact p.elim
def AU.ext {w:World}(R:AU P Γ N S ρ a w)(H:Az w w'):AU P Γ N S ρ a w':=⟨R.hr.ext H,R.fr.out (BL.ext ρ H)⟩
def Tr.done {a':Act}{w:World}(R:AU P Γ N S ρ a w)(y:Y.I N S.h ρ w)(m:Jk B a.defers w)(b:Bd F B w)(hk:QE Q e S' Y)(R':AU P Γ N S' ρ' a' w')(st:A3 S.h ρ w S'.h ρ' w')(s:B0 L ρ ρ')(G:a'.defers=a.defers):
 ∃ S' ρ' c d,QE Q e S' d/\ AU P Γ c S' ρ' a' w'/\ d.I c S'.h ρ' w'/\ Jk B a'.defers w'/\ Bd F B w':=
 ⟨S',ρ',N,Y,hk,R',Y.st y R.hr R'.hr st s,by rw [G];exact WY R.hr st m,b.step R.hr st⟩
def A7.fr {fr fr':List DV}{h:DH}(o:fr'.length=fr.length)(v: ∀ i,i<fr.length -> AM (fr.getD i .any) (fr'.getD i .any)):A7 L ⟨fr,h⟩ ⟨fr',h⟩:=λP Γ N ρ a w R=>
 ⟨ρ,⟨R.hr,⟨by rw [o];exact R.fr.1,λi hi=>v i (by rw [←o];exact hi) _ _ _ _ (R.fr.2 i (by rw [←o];exact hi))⟩⟩,A3.refl _ _ _,B0.refl _ _⟩
theorem AM.refl (d:DV):AM d d:=λ_ _ _ _ h=>h
theorem AM.any (d:DV):AM d .any:=λ_ _ _ _ _=>trivial
theorem AM.int {k:IntKind}{a b:Int}(h:a=b):AM (.int k a) (.int k b):=by rw [h];exact AM.refl _
theorem AM.bool {a:Bool}(h:a=b):AM (.bool a) (.bool b):=by rw [h];exact AM.refl _
def AM.ints_nil:AM .nils (.ints []):=λM w ρ v h=>⟨none,0,h,zBT _,zJs _,λj i=>absurd i (zA6 j)⟩
def AM.sl_nil (m:Nat)(f:Nat -> Nat -> DV):AM .nils (.sl m 0 f):=λM w ρ v h=>⟨none,0,h,zBT _,zJs _,λi j hi=>absurd hi (zA6 i)⟩
def forget (C:Θ)(fr:List DV):List DV:=(fr.zipIdx).map λx=>if C.contains x.2 then x.1 else .any
theorem Xh (C:Θ)(fr:List DV):(forget C fr).length=fr.length:=by simp [forget]
theorem nU (C:Θ)(fr:List DV){i:Nat}(hi:i<fr.length):(forget C fr).getD i .any=if C.contains i then fr.getD i .any else .any:=by
 simp [forget,hi]
theorem A7.forget (C:Θ)(fr:List DV)(h:DH):A7 L ⟨fr,h⟩ ⟨forget C fr,h⟩:=A7.fr (Xh _ _) λi hi=>by
 grind [nU,AM.refl,AM.any]
def EW:Θ -> Nat -> Option Nat
 | [],_=>none
 | x::σ,k=>if x=k then some 0 else (EW σ k).map (· +1)
def EX (σ:Θ):DV -> DV
 | .ref k j=>match EW σ k with
  | some o=>.ref o j
  | none=>.any
 | .mse k m off n=>match EW σ k with
  | some o=>.mse o m off n
  | none=>.any
 | .mri k i=>match EW σ k with
  | some o=>.mri o i
  | none=>.any
 | .msl k m off n=>match EW σ k with
  | some o=>.msl o m off n
  | none=>.any
 | .mp k m i j=>match EW σ k with
  | some o=>.mp o m i j
  | none=>.any
 | .it k=>match EW σ k with
  | some o=>.it o
  | none=>.any
 | .gr k=>match EW σ k with
  | some o=>.gr o
  | none=>.any
 | .agg m f=>.agg m λj=>((List.range m).map λi=>EX σ (f i)).getD j .any
 | .tup m f=>.tup m λj=>((List.range m).map λi=>EX σ (f i)).getD j .any
 | .fn g m c=>.fn g m λj=>((List.range m).map λi=>EX σ (c i)).getD j .any
 | d=>d
def N4 (σ:Θ):Option DO -> Option DO
 | some (.cells l)=>some (.cells (l.map (EX σ)))
 | some (.ro l)=>some (.ro (l.map (EX σ)))
 | o=>o
def Gp (σ:Θ)(S:St):St:=⟨S.fr.map (EX σ),σ.map λk=>N4 σ (S.h.getD k none)⟩
theorem J4: ∀ {σ:Θ} {k o:Nat},EW σ k=some o -> σ[o]? =some k
 | [],_,_,h=>by cases h
 | x::σ,k,o,h=>by
  unfold EW at h;split at h
  ·grind
  ·cases j:EW σ k with
   | none=>rw [j] at h;cases h
   | some i=>
    rw [j] at h;have e:o=i+1:=(zA2 h).symm;subst e;have:=J4 j;simpa using this
theorem zFU {M M':Ψ}{w:World}{σ:Θ}(Y: ∀ b,M' b -> M b)(q: ∀ (k o:Nat) (p:AK),σ[o]? =some k -> ρ[k]? =some p -> ρ'[o]? =some p): ∀ (d:DV) {v:Value},AI M w d ρ v -> AI M' w (EX σ d) ρ' v:=by
 have low: ∀ (d:DV) {v:Value},AI M w d [] v -> AI M' w d [] v:=λd v h=>h.out d ⟨λ_ _ _ _=>rfl,λb x=>.inl (Y b x),λk p hk=>by simp at hk⟩
 intro d
 induction d with
 | any=>intro v _;trivial
 | nils=>intro v h;exact h
 | int k n=>intro v h;exact h
 | bool b=>intro v h;exact h
 | str s=>intro v h;exact h
 | ints l=>grind [AI,EX]
 | bools l=>grind [AI,EX]
 | sl m n f _=>grind [AI,EX]
 | fp m f _=>grind [AI,EX]
 | agg m f t=>
  grind [AI,EX]
 | tup m f t=>
  grind [AI,EX]
 | fn g m c t=>
  grind [AI,EX]
 | ref k j=>
  grind [EX,J4,AI]
 | msl k m off n=>
  grind [EX,J4,AI]
 | mp k m i j=>
  grind [EX,J4,AI]
 | yl l=>intro v h;exact h
 | cst u=>intro v h;exact h
 | mse k m off n=>
  grind [EX,J4,AI]
 | mri k i=>
  rintro v ⟨p,vs,e,r⟩;simp only [EX];cases hk:EW σ k with
  | none=>trivial
  | some o=>exact ⟨p,vs,q k o p (J4 hk) e,r⟩
 | gr k=>
  rintro v ⟨p,a,n,cap,e,r⟩;simp only [EX];cases hk:EW σ k with
  | none=>trivial
  | some o=>exact ⟨p,a,n,cap,q k o p (J4 hk) e,r⟩
 | it k=>
  grind [EX,J4,AI]
def kI:AK:=⟨0,0,0,undef,λ_=>False⟩
theorem A7.compact (σ:Θ)(S:St)(h1:σ.Nodup)(I: ∀ k∈σ,k<S.h.length)(V: ∀ k,k<L -> σ[k]? =some k):A7 L S (Gp σ S):=λP Γ N ρ a w R=>by
 obtain ⟨ρ',J⟩: ∃ ρ',ρ'=σ.map λk=>ρ.getD k kI:=⟨_,rfl⟩
 have get: ∀ {c:Nat} {p:AK},ρ'[c]? =some p -> ∃ k,σ[c]? =some k/\ ρ[k]? =some p:=λ{c p} h=>by
  rw [J,zKG] at h;cases hk:σ[c]? with
  | none=>rw [hk] at h;cases h
  | some k=>
   have K:k<ρ.length:=by rw [R.hr.len];exact I k (zJ1 hk)
   grind
 have q: ∀ (k c:Nat) (p:AK),σ[c]? =some k -> ρ[k]? =some p -> ρ'[c]? =some p:=λk c p hk y=>by
  grind
 have z: ∀ {c:Nat} {o':DO},(Gp σ S).h[c]? =some (some o') -> ∃ k o,σ[c]? =some k/\ S.h[k]? =some (some o)/\ N4 σ (some o)=some o':=λ{c o'} h=>by
  have h:(σ.map λk=>N4 σ (S.h.getD k none))[c]? =some (some o'):=h;rw [zKG] at h;cases hk:σ[c]? with
  | none=>rw [hk] at h;cases h
  | some k=>
   rw [hk] at h;have K:k<S.h.length:=I k (zJ1 hk);have h:N4 σ (S.h.getD k none)=some o':=zA2 h;have e:S.h.getD k none=S.h[k]:=by simp [K]
   rw [e] at h;cases W:S.h[k] with
   | none=>rw [W] at h;cases h
   | some o=>grind
 have Y: ∀ b,MO (Gp σ S).h ρ' b -> MO S.h ρ b:=by
  grind [MO]
 have C: ∀ b,MS N (Gp σ S).h ρ' b -> MS N S.h ρ b:=λb r=>r.imp id (Y b)
 have O:BL (MS N S.h ρ) w [] (MS N (Gp σ S).h ρ') w []:=⟨λ_ _ _ _=>rfl,λb r=>.inl (C b r),λk p hk=>by simp at hk⟩;have low: ∀ (d:DV) {v:Value},AI (MS N S.h ρ) w d ρ v -> AI (MS N (Gp σ S).h ρ') w (EX σ d) ρ' v:=λd v h=>zFU C q d h
 refine ⟨ρ',⟨⟨by simp [J,Gp],λc o' X=>?_,λc o' p b D E G=>?_,λi i' o1 M Z p2 b Ah D E G g4 g5 g6=>?_,R.hr.nlt,R.hr.gi⟩,⟨by simp [Gp,R.fr.1],λi hi=>?_⟩⟩,⟨AS.refl _ w,λb r=>.inl (Y b r)⟩,λk p hk y=>q k k p (V k hk) y⟩
 ·obtain ⟨k,o,B,F,g⟩:=z X;obtain ⟨p,y,s⟩:=R.hr.obj k o F;refine ⟨p,q k c p B y,?_⟩;cases o with
  | cells l=>
   cases g
   show AY w p (l.map (EX σ)).length _
   rw [zJu];refine AY.out s rfl λj u hj t=>?_
   grind
  | ints l=>grind [BT,N4]
  | bools l=>grind [BT,N4]
  | arr m n f=>cases g;exact AY.out s rfl λj u _ t=>AI.out _ O t
  | gro m n f=>cases g;exact BT.gr s (λ_=>rfl) λt=>AI.out _ O t
  | iter encs=>
   grind [BT,N4]
  | ro l=>
   cases g;obtain ⟨r1,r2,r3⟩:=s;refine ⟨r1,λhm=>r2 (C _ hm),?_⟩;rw [zJu];refine AY.out r3 rfl λj u hj t=>?_
   grind
  | mo x=>cases g;exact s
 ·obtain ⟨k,o,B,F,_⟩:=z D;obtain ⟨A,g,H⟩:=get E;have:A=k:=zA2 (g.symm.trans B);subst this;exact R.hr.cel A o p b F H G
 ·obtain ⟨k,o,B,F,_⟩:=z D;obtain ⟨A,M,g,H,_⟩:=z E;obtain ⟨Q,e5,e6⟩:=get G;obtain ⟨T,e7,e8⟩:=get g4;have:Q=k:=zA2 (e5.symm.trans B);subst this;have:T=A:=zA2 (e7.symm.trans g);subst this;refine R.hr.dis Q T o M Z p2 b (λe=>Ah ?_) F H e6 e8 g5 g6
  grind [List.getElem?_inj]
 ·have U:i<S.fr.length:=by simpa [Gp] using hi
  have:(Gp σ S).fr.getD i .any=EX σ (S.fr.getD i .any):=by simp [Gp,U]
  rw [this];exact low _ (R.fr.2 i U)
end
end
abbrev zLw:=@List.eq_nil_of_length_eq_zero
def tU (P:Program)(S:St):ResultVar -> Option DV
 | .tmp t=>some (S.fr.getD t .any)
 | .cell x t=>match S.fr.getD x .any with
  | .ref k j=>match QT P S t (.ref k j) with
   | some (d,_)=>some d
   | none=>none
  | _=>none
def Nz (P:Program)(S:St):List ResultVar -> Option (List DV)
 | []=>some []
 | r::t=>match tU P S r with
  | some d=>match Nz P S t with
   | some ds=>some (d::ds)
   | none=>none
  | none=>none
def IT:List DV -> DV
 | [d]=>d
 | ds=>.tup ds.length λj=>ds.getD j .any
section
variable {P:Program} {Γ:Ay} {N:Ψ} {S:St} {ρ:List AK} {a:Act} {w:World}
variable {d:DV}{k:Nat}
theorem zIo {t:TypeId}{j:Nat}{O:Prop}(h:QT P S t (.ref k j)=some (d,O)):O:=by
 grind [QT]
def aR (tmps:Array Value):ResultVar -> Sem Value
 | .tmp t=>pure (tmps.getD t undef)
 | .cell x t=>do loadVar t (←asAddr (tmps.getD x undef))
theorem tV (R:AU P Γ N S ρ a w): ∀ (c:List ResultVar) (ds:List DV),Nz P S c=some ds -> ∃ vs:List Value,(c.mapM (aR a.tmps)).run P w= .ok vs w/\ vs.length=ds.length/\ ∀ i,i<ds.length -> AI (MS N S.h ρ) w (ds.getD i .any) ρ (vs.getD i undef)
 | [],ds,h=>by
  cases h
  simp_all
 | r::c,ds,h=>by
  simp only [Nz] at h;split at h
  ·rename_i d b;split at h
   ·rename_i m F;cases h;obtain ⟨vs,h1,g,h3⟩:=tV R c m F
    obtain ⟨v,g1,g2⟩: ∃ v,(aR a.tmps r).run P w= .ok v w/\ AI (MS N S.h ρ) w d ρ v:=by
     unfold tU at b;split at b
     ·cases b;exact ⟨_,rfl,R.fr.at _⟩
     ·rename_i x t;split at b
      ·rename_i k j e;split at b
       ·rename_i d' vc o;cases b;have f:=R.fr.at x;rw [e] at f;obtain ⟨v,l,n⟩:=wT R f o (zIo o);obtain ⟨p,hp,s⟩:=f;have q:=l w (Keep.ofExt (Az.refl w));rw [s,sc] at q;refine ⟨v,?_,n⟩
        show (do loadVar t (←asAddr (a.tmps.getD x undef)):Sem Value).run P w=_
        rw [s];exact q
       ·cases b
      ·cases b
    refine ⟨v::vs,?_,by simp [g],λi hi=>?_⟩
    ·simp_all
    grind
   ·cases h
  ·cases h
variable {ds:List DV}{fn:Func}
theorem aQ (R:AU P Γ N S ρ a w)(h:Nz P S fn.results.toList=some ds): ∃ v,(results fn a.tmps).run P w= .ok v w/\ AI (MS N S.h ρ) w (IT ds) ρ v:=by
 obtain ⟨vs,e,c,b⟩:=tV R _ _ h
 have z:(fn.results.mapM (aR a.tmps)).run P w= .ok vs.toArray w:=by
  rw [Array.mapM_eq_mapM_toList,←bind_pure_comp,zJ2,e];rfl
 have Y:(results fn a.tmps).run P w= .ok (if h:vs.toArray.size=1 then vs.toArray[0] else .tuple vs.toArray) w:=by
  show (do let vs←fn.results.mapM (aR a.tmps);pure (if h:vs.size=1 then vs[0] else .tuple vs):Sem Value).run P w=_
  rw [zJ2,z];rfl
 refine ⟨_,Y,?_⟩
 match ds,vs,c,b with
 | [],[],_,_=>exact ⟨#[],rfl,rfl,λj i=>absurd i (zA6 j)⟩
 | [d],[v],_,b=>exact b 0 Z3
 | d::d'::ds,v::p::vs,c,b=>
  have: ¬ ((v::p::vs).toArray.size=1):=Z3
  rw [dif_neg this];refine ⟨_,rfl,by simpa using c,λj i=>?_⟩
  grind
def QK (h:DH):Prop:=∀ (k:Nat) (encs:List (List DV)),h[k]? ≠some (some (.iter encs))
variable {W:World}
theorem AU.shut (R:AU P Γ N S ρ a w)(hi:QK S.h){B:Nat}(H:Γ.ng<=B)(r:NM B w W):AU P Γ N S ρ a W:=by
 have s: ∀ {b:Nat},Ds w b -> W.heap[b]? =w.heap[b]? :=λ{b} ⟨c,t,z,h⟩=>
  r.block b (zA0.1 h).1 λg=>by rw [h] at g;cases g.2;cases t
 have O:BL (MS N S.h ρ) w ρ (MS N S.h ρ) W ρ:=⟨λb _ _ ⟨_,_,_,D⟩=>s (.cells D),λb h=>.inl h,λ_ _ h=>h⟩
 have e: ∀ {p:AK} {n:Nat} {Rw:Nat -> Value -> Prop},AY w p n Rw -> W.heap[p.blk]? =w.heap[p.blk]? :=λ{p n Rw} h=>by
  obtain ⟨_,cs,t,v,_⟩:=h;exact s (.cells v)
 refine ⟨⟨R.hr.len,λk o hk=>?_,λk o p b E v F=>?_,R.hr.dis,λb q=>⟨zCD (R.hr.nlt b q).1 r.size,(R.hr.nlt b q).2⟩,Γ.st _ _ R.hr.gi (r.mono λi _ g=>zA4 H g.1)⟩,R.fr.out O⟩
 ·obtain ⟨p,A,y⟩:=R.hr.obj k o hk;refine ⟨p,A,?_⟩;cases o with
  | cells l=>exact AY.out y (e y) λj u _ d=>AI.out _ O d
  | ints l=>exact AY.out y (e y) λj u _ d=>d
  | bools l=>exact AY.out y (e y) λj u _ d=>d
  | arr m n f=>exact AY.out y (e y) λj u _ d=>AI.out _ O.nil d
  | gro m n f=>exact BT.gr y e λd=>AI.out _ O.nil d
  | iter encs=>exact absurd hk (hi k encs)
  | ro l=>obtain ⟨G,U,C⟩:=y;exact ⟨G,U,AY.out C (e C) λj u _ d=>AI.out _ O d⟩
  | mo x=>exact PL.out y λb q Ab=>s (R.hr.cel k _ p b hk A q).2.2
 ·obtain ⟨g1,g2,c,t,z,g3⟩:=R.hr.cel k o p b E v F
  grind
variable {h:DH}
def A3.shut {h0:DH}{ρ0 ρ:List AK}{w0 w:World}(st:A3 h0 ρ0 w0 h ρ w)(l:NM w0.heap.size w W):A3 h0 ρ0 w0 h ρ W:=
 ⟨st.upd.comp l λi hi d=>absurd d.1 Z2,st.grow⟩
theorem BB.anys (M:Ψ)(w:World)(ρ:List AK)(n:Nat):BB M w ρ (List.replicate n .any) (Array.replicate n undef):=
 ⟨Z3,λi hi=>by
  have:(List.replicate n DV.any).getD i .any= .any:=by
   grind
  rw [this];trivial⟩
def Ji (d:DV):Prop:=∀ (M:Ψ) (w:World) (ρ:List AK) (v:Value),AI M w d ρ v -> AI M w d [] v
def zPq (L:Nat)(S:St)(t:List DV)(d:DV)(h':DH):Prop:= (AM (IT t) d/\ S.h=h')∨(QK S.h/\ AM (IT t) d/\ Ji d/\ L<=S.h.length/\ (Gp (List.range L) S).h=h')
def Cp (P:Program)(fn:Func)(L:Nat)(d:DV)(h':DH)(e:Exit)(S':St):Prop:= (e= .normal∨e= .ret)/\ ∃ U,A7 L S' U/\ ∃ t,Nz P U fn.results.toList=some t/\ zPq L U t d h'
theorem ES.of_tr {f:Nat}{c:Code}{h':DH}{ext:Bool}(O:P.funcs[f]? =some fn)(j:fn.body=some c)(X:fn.name≠ "runtime.NumGoroutine")(hni:QK h') 
 (H: ∀ (B:Nat) (N:BK P Γ h.length),Tr P Γ Fence.wide (some B) h.length N c ⟨ds++List.replicate (fn.ntmps-ds.length) .any,h⟩ (λe S Y=>Y=N/\ Cp P fn h.length d h' e S)) (E:ext=true -> h= []):ES P Γ f ds h d h' ext:=by
 refine ⟨⟨fn,O,X,by rw [j];rfl⟩,λN ρ w args HR F=>?_⟩;refine zOd w.heap.size O j ?_;have Z:ds.length=args.size:=F.1
 have R:AU P Γ N ⟨ds++List.replicate (fn.ntmps-ds.length) .any,h⟩ ρ { tmps:=args++Array.replicate (fn.ntmps-args.size) undef,defers:=[] } w:=
  ⟨HR,BB.append F (by rw [Z];exact BB.anys _ _ _ _)⟩
 have:=H w.heap.size (SG P Γ h.length N h ρ w) N ρ _ w R ⟨rfl,A3.refl _ _ _,B0.refl _ _⟩ trivial (Bd.wide (zBT _));refine wpIn_wide.1 (zMY this ?_);rintro e a' w' ⟨S',ρ',N',Y',a,G,m,I,n⟩
 have key:Y'=SG P Γ h.length N h ρ w -> Cp P fn h.length d h' e S' -> EM w.heap.size a'.defers w'/\ ∀ W,NM w.heap.size w' W -> ∃ v,(results fn a'.tmps).run P W= .ok v W/\ ∃ J,Ending.returned v= .returned J/\ B8 P Γ N h ρ w ext d h' J W:=by
  rintro rfl ⟨_,U,K,rs,Q,l | ⟨hi,l,hn,hl,T⟩⟩
  all_goals
   obtain ⟨q,m,n⟩:=m;have q:=q.symm;subst q
  ·obtain ⟨l,rfl⟩:=l;refine ⟨I,λW A=>?_⟩;obtain ⟨ρ'',r,s,u⟩:=K P Γ N ρ' a' w' G;have RW:=r.shut hni (Γ.lo _ HR.gi) A;obtain ⟨v,x,y⟩:=aQ RW Q;have st:A3 h ρ w U.h ρ'' W:=(m.trans s).shut A;refine ⟨v,x,v,rfl,⟨⟨ρ'',RW.hr,l _ _ _ _ y,st,λk p z=>?_⟩,λC=>?_⟩⟩
   ·have hk:k<h.length:=by rw [←HR.len];grind
    exact u k p hk (n k p hk z)
   ·have:=E C;subst this;exact st.upd.toExt λi _ ⟨k,o,p,D,_⟩=>by simp at D
  ·refine ⟨I,λW A=>?_⟩;obtain ⟨ρ'',r,s,u⟩:=K P Γ N ρ' a' w' G;have RW:=r.shut hi (Γ.lo _ HR.gi) A;obtain ⟨v,x,y⟩:=aQ RW Q;have st:A3 h ρ w U.h ρ'' W:=(m.trans s).shut A;obtain ⟨ρ3,R3,M,k3⟩:=A7.compact (L:=h.length) (List.range h.length) U List.nodup_range (λk hk=>zCD (zIN.1 hk) hl) (λk hk=>by simp [hk]) P Γ N ρ'' a' W RW;rw [T] at M;have V:=R3.hr;rw [T] at V;refine ⟨v,x,v,rfl,⟨⟨ρ3,V,?_,st.trans M,λk p z=>?_⟩,λC=>?_⟩⟩
   ·have r0:=hn _ _ _ _ (l _ _ _ _ y);have r1:AI (MS N h' ρ3) W d [] v:=AI.out _ ⟨λ_ _ _ _=>rfl,λb j=>j.elim (λg=>.inl (.inl g)) λg=>(M.grow b g).imp .inr id,λ_ _ g=>by simp at g⟩ r0;exact AI.out _ ⟨λ_ _ _ _=>rfl,λb j=>.inl j,λ_ _ g=>by simp at g⟩ r1
   ·have hk:k<h.length:=by rw [←HR.len];grind
    exact k3 k p hk (u k p hk (n k p hk z))
   ·have:=E C;subst this;exact (st.trans M).upd.toExt λi _ ⟨k,o,p,D,_⟩=>by simp at D
 cases e with
 | normal=>exact key a.1 a.2
 | ret=>exact key a.1 a.2
 | exit id=>exact absurd a.2.1 Z3
 | goto t=>exact absurd a.2.1 Z3
 | panic ch=>exact absurd a.2.1 Z3
 | outgrown=>exact a.elim
def Jh (d:DV):Prop:=∀ (M M':Ψ) (w w':World) (ρ ρ':List AK) (v:Value),AI M w d ρ v -> AI M' w' d ρ' v
variable {f:Nat -> DV}{m:Nat}
def Ji.agg (h: ∀ j,j<m -> Ji (f j)):Ji (.agg m f):=λM w ρ _ ⟨cs,e,l,n⟩=>⟨cs,e,l,λj i=>let ⟨u,a,b⟩:=n j i;⟨u,a,h j i M w ρ u b⟩⟩
theorem Ji.tup (h: ∀ j,j<m -> Ji (f j)):Ji (.tup m f):=λM w ρ _ ⟨cs,e,l,n⟩=>⟨cs,e,l,λj i=>let ⟨u,a,b⟩:=n j i;⟨u,a,h j i M w ρ u b⟩⟩
theorem Jh.int (k:IntKind)(n:Int):Jh (.int k n):=λ_ _ _ _ _ _ _ h=>h
theorem Jh.bool (b:Bool):Jh (.bool b):=λ_ _ _ _ _ _ _ h=>h
theorem Jh.tup (h: ∀ j,j<m -> Jh (f j)):Jh (.tup m f):=λM M' w w' ρ ρ' _ ⟨cs,e,l,n⟩=>⟨cs,e,l,λj i=>let ⟨u,a,b⟩:=n j i;⟨u,a,h j i M M' w w' ρ ρ' u b⟩⟩
variable {M:Ψ}
def Tj (Y: ∀ b,M b -> b<w.heap.size/\ Γ.ng<=b)(n:Γ.gi w):As P Γ M [] [] w:=
 ⟨rfl,λk o hk=>by simp at hk,λk o p b a=>by simp at a,λk k' o o' p p' b _ a=>by simp at a,Y,n⟩
def Rg {b:Nat}:MS M [] [] b↔M b:=⟨λh=>h.elim id λ⟨k,o,p,a,_⟩=>by simp at a,.inl⟩
def ES.frame {f:Nat}(h0:ES P Γ f ds [] d [] true)(a: ∀ x∈ds,Ji x)(h:DH):ES P Γ f ds h d h true:=by
 refine ⟨h0.1,λN ρ w args HR F=>?_⟩;refine (h0.2 (MS N h ρ) [] w args (Tj (λb c=>HR.lt2 c) HR.gi) ⟨F.1,λi hi=>?_⟩).mono ?_
 ·have g:=a (ds.getD i .any) (by simp [hi]);exact AI.out _ (DK (λb c=>Rg.1 c) []) (g _ _ _ _ (F.2 i hi))
 ·rintro e w' ⟨v,rfl,⟨⟨ρ',p,r,g3,g4⟩,D⟩⟩;have H:=D rfl;have n:ρ'= []:=zLw (by rw [p.len];rfl);subst n;exact ⟨v,rfl,⟨⟨ρ,HR.ext H,Sf (AI.out _ (DK (λb c=>Rg.2 c) []) r),A3.ext H,λ_ _ h=>h⟩,D⟩⟩
def Ax (h:DH)(d W:DV):Prop:=∀ (P:Program) (Γ:Ay) (N:Ψ) (ρ:List AK) (w:World) (v:Value),As P Γ N h ρ w -> AI (MS N h ρ) w d ρ v -> AI (λ_=>False) w W [] v
def Ax.nref (u:Ji d):Ax h d d:=λ_ _ _ _ _ _ _ j=>AI.out _ (DK (λ_ c=>c.elim) []) (u _ _ _ _ j)
variable {n:Nat}
def Ax.ints {l:Ξ}(hk:h[k]? =some (some (.ints l)))(a:n=l.length):Ax h (.msl k 1 0 n) (.ints l):=by
 rintro P Γ N ρ w v H ⟨p,cap,f,e,b,r,_⟩;subst a;obtain ⟨p',L,c⟩:=H.obj k _ hk;have Z:p'=p:=zA2 (L.symm.trans f);subst Z;refine ⟨_,cap,e,b,r,λj i=>⟨p'.blk,p'.off,Z3,id,?_⟩⟩;obtain ⟨u,B,F⟩:=AY.cell c i;rw [B,F]
def Ax.bools {l:Ω}(hk:h[k]? =some (some (.bools l)))(a:n=l.length):Ax h (.msl k 1 0 n) (.bools l):=by
 rintro P Γ N ρ w v H ⟨p,cap,f,e,b,r,_⟩;subst a;obtain ⟨p',L,c⟩:=H.obj k _ hk;have Z:p'=p:=zA2 (L.symm.trans f);subst Z;refine ⟨_,cap,e,b,r,λj i=>⟨p'.blk,p'.off,Z3,id,?_⟩⟩;obtain ⟨u,B,F⟩:=AY.cell c i;rw [B,F]
def Ax.ref {l:List DV}(hk:h[k]? =some (some (.cells l)))(hm:m<=l.length)(O: ∀ j,j<m -> Ax h (l.getD j .any) (f j)):Ax h (.ref k 0) (.fp m f):=by
 rintro P Γ N ρ w v H ⟨p,a,e⟩;obtain ⟨p',L,b⟩:=H.obj k _ hk;have Z:p'=p:=zA2 (L.symm.trans a);subst Z;refine ⟨p'.blk,p'.off,e,λj i=>⟨id,?_⟩⟩;obtain ⟨u,B,F⟩:=AY.cell b (j:=j) Z2;exact ⟨u,B,O j i P Γ N ρ w u H F⟩
def ES.snap {f:Nat}{X:List DV}(h0:ES P Γ f X [] d [] true)(h:DH)(o:X.length=ds.length)(l: ∀ i,i<ds.length -> Ax h (ds.getD i .any) (X.getD i .any))(a:Jh d):ES P Γ f ds h d h true:=by
 refine ⟨h0.1,λN ρ w args HR F=>?_⟩;refine (h0.2 (λ_=>False) [] w args (Tj (λb c=>c.elim) HR.gi) ⟨by rw [o];exact F.1,λi hi=>?_⟩).mono ?_
 ·rw [o] at hi;exact AI.out _ (DK (λb c=>Rg.1 c) []) (l i hi P Γ N ρ w _ HR (F.2 i hi))
 ·rintro e w' ⟨v,rfl,⟨⟨ρ',g1,r,g3,g4⟩,D⟩⟩;have H:=D rfl;exact ⟨v,rfl,⟨⟨ρ,HR.ext H,a _ _ _ _ _ _ _ r,A3.ext H,λ_ _ h=>h⟩,D⟩⟩
end
section
variable {F:Fence} {n:Nat} {P:Program} {ops:Array Oper} {Q:Exit -> Act -> World -> Prop}
def K1 (F:Fence)(n:Nat)(P:Program)(ops:Array Oper)(Q:Exit -> Act -> World -> Prop)(R:Nat -> World -> World -> Prop)(CA:Nat -> Bool)(g:Nat):Nat -> Array Bool -> Act -> World -> Prop
 | 0,M,a,w=>(∀ j,j<ops.size -> CA j=false -> M.getD j true=true)/\ wpAnyIn F n P .any ops Q g M a w
 | m+1,M,a,w=>Region.ready .any ops M≠[]/\ ∀ i∈Region.ready .any ops M,wpOpIn F n P ops Q i (λa' w'=>R i w w'/\ K1 F n P ops Q R CA g m (M.setIfInBounds i true) a' w') a w
abbrev Yw (F:Fence)(n:Nat)(P:Program)(ops:Array Oper)(Q:Exit -> Act -> World -> Prop)(R:Nat -> World -> World -> Prop):Nat -> Array Bool -> Act -> World -> Prop:=K1 F n P ops Q R (λ_=>false) 0
section
variable {CA:Nat -> Bool} {g:Nat}
variable {R:Nat -> World -> World -> Prop}
def pQ {R':Nat -> World -> World -> Prop}(hR: ∀ i w w',R' i w w' -> R i w w'): ∀ (m:Nat) (M:Array Bool) (a:Act) (w:World),K1 F n P ops Q R' CA g m M a w -> K1 F n P ops Q R CA g m M a w
 | 0,_,_,_,h=>h
 | m+1,_,_,_,h=>⟨h.1,λi hi=>zPt (λ_ _ h'=>⟨hR _ _ _ h'.1,pQ hR m _ _ _ h'.2⟩) (h.2 i hi)⟩
variable {M:Array Bool}
theorem zFV (h: ∀ j,j<ops.size -> M.getD j true=true):Region.ready .any ops M= []:=by
 simp_all [Region.ready]
variable {w:World}{a:Act}
def zA9 (h: ∀ j,j<ops.size -> M.getD j true=true)(b:Q .normal a w):Yw F n P ops Q R 0 M a w:=⟨λj i _=>h j i,zFV h,b⟩
def pY : ∀ (m:Nat) (M:Array Bool) (a:Act) (w:World),K1 F n P ops Q R CA g m M a w -> wpAnyIn F n P .any ops Q (m+g) M a w
 | 0,_,_,_,h=>by rw [zJv];exact h.2
 | m+1,_,_,_,h=>by
  rw [show m+1+g=(m+g)+1 by omega];exact ⟨λh0=>absurd h0 h.1,λi hi=>zPt (λa' w' h'=>pY m _ a' w' h'.2) (h.2 i hi)⟩
variable {v:Value}{i:Nat}
theorem zA8 (C: ∀ f,F.fn f)(E:Ct ops=true){T:World -> Prop}{p:Oper}(I: ∀ c a d v w,Q (.panic c) (Act.put a d v) w -> Q (.panic c) a w)(hi:ops[i]? =some p)(y: ∀ (j:Nat) (o:Oper) cs b,ops[j]? =some o -> o.op≠.select cs b)(hRi: ∀ w,R i w w)(yF: ∀ j,j<ops.size -> CA j=true -> Gw ops ops.size j i=true):
 ∀ (m:Nat) (M:Array Bool) (a:Act) (w:World),HK ops M ->
  (∀ j D,ops[j]? =some D -> j≠i -> M.getD j true=false -> (∀ e∈D.after,Region.binds .any e=true -> e.on≠i) -> p.apart ops D=true) ->
  (∀ j,j<ops.size -> j≠i -> M.getD j true=false -> Gw ops ops.size j i=false -> ∀ w w',T w -> R j w w' -> T w') ->
  i∈Region.ready .any ops M -> YieldsIf P ops T p v a -> T w ->
  K1 F n P ops Q R CA g m (M.setIfInBounds i true) (a.put p.dst v) w -> K1 F n P ops Q R CA g (m+1) M a w:=by
 intro m
 induction m with
 | zero=>
  intro M a w z _ _ l hy A H;have J:=(zP9.1 l).1;refine ⟨λh=>(by rw [h] at l;cases l),λj q=>?_⟩
  by_cases r:j=i
  ·grind [Yo,JJ]
  ·exfalso
   obtain ⟨s,D,G,K⟩:=zP9.1 q;have t:=(zA0.1 G).1;cases V:CA j with
   | true=>
    grind [Yy]
   | false=>
    have:=H.1 j t V
    simp_all [Ne.symm]
 | succ m N=>
  intro M a w z B L l hy A H;have J:=(zP9.1 l).1;refine ⟨λh=>(by rw [h] at l;cases l),λj q=>?_⟩
  by_cases r:j=i
  ·grind [Yo,JJ]
  ·have O:=H.2 j (ready_mono q r);obtain ⟨s,D,G,K⟩:=zP9.1 q;have t:=(zA0.1 G).1
   have U:Gw ops ops.size j i=false:=by
    grind [Yy]
   have Y: ∀ e∈D.after,Region.binds .any e=true -> e.on≠i:=λe he hb ma=>by
    grind
   have W:=pR C (JJ E G) G (B j D G r s Y) (λcs b=>y i p cs b hi) (λcs b=>y j D cs b G) (λc a w h=>I c a _ _ w h) hy O
   have X: ∀ {k:Nat},(M.setIfInBounds j true).getD k true=false -> M.getD k true=false:=λ{k} Z=>by
    by_cases mS:j=k
    ·subst mS;exact s
    simp_all
   refine zPt (λa' w' u=>⟨u.2.1,N (M.setIfInBounds j true) a' w' (z.set q) (λk ok hk S Z Mw=>B k ok hk S (X Z) Mw) (λk GN S Z x=>L k GN S (X Z) x) (ready_mono l (Ne.symm r)) u.1 (L j t r s U w w' A u.2.1) ?_⟩) W
   grind [Array.setIfInBounds_comm]
variable {m:Nat}
def pS {id:Nat}(z:P.follows .mixedOrders=true)(l:m+g=ops.size)(h:K1 F n P ops Q R CA g m (Array.replicate ops.size false) a w.drew):(Code.region id ops true).wpIn F n P Q a w:=
 wpIn_region_any z (by
  have:=pY (g:=g) m _ _ _ h;rw [l] at this;exact this)
def pT {c:Code}(h:c.wpIn F n P (NP Q) a w):c.wpIn F n P Q a w:=zMY h λe _ _ b=>by
 cases e <;> first | exact b | exact b.elim
def zk:HK ops (Array.replicate ops.size false):=λj oj _ o=>by
 exfalso
 rcases zKL j ops.size with h | h
 ·simp [h] at o
 ·simp [h] at o
def WH (ops:Array Oper)(i:Nat):Bool:=match ops[i]? with
 | some o=>WG o.op
 | none=>false
def RZ (ops:Array Oper)(early:Nat -> Bool)(Z:Nat -> Ψ)(j:Nat)(w w':World):Prop:=(WH ops j=true -> w'=w)/\ (early j=true -> AS (Z j) w w')
def aU (ops:Array Oper)(early:Nat -> Bool)(i:Nat)(M:Array Bool):Bool:= (Region.ready .any ops M).contains i&&Region.free .any ops M i&&WH ops i&& ((List.range ops.size).all λj=>M.getD j true||j==i||WH ops j||early j||Gw ops ops.size j i)
def tX (S: ∀ f,F.fn f)(u:Ct ops=true)(l:Region.noSelect ops=true){early:Nat -> Bool}{Z:Nat -> Ψ}{Zi:Ψ}{e:Oper}(o: ∀ c a d v w,Q (.panic c) (Act.put a d v) w -> Q (.panic c) a w)(hi:ops[i]? =some e)(G:HK ops M)(k:aU ops early i M=true)(p: ∀ j,Gw ops ops.size j i=false -> ∀ b,Z j b -> Zi b)(W: ∀ j,j<ops.size -> CA j=true -> Gw ops ops.size j i=true) 
 (hy:YieldsIf P ops (AS Zi w) e v a) (h:K1 F n P ops Q (RZ ops early Z) CA g m (M.setIfInBounds i true) (a.put e.dst v) w):K1 F n P ops Q (RZ ops early Z) CA g (m+1) M a w:=by
 simp only [aU,zAD,zBk,zIN,zJo,zH2] at k;obtain ⟨⟨⟨q,r⟩,h3⟩,A⟩:=k;refine zA8 S u o hi (Region.noSelect_spec l) (λw=>⟨λ_=>rfl,λ_=>AS.refl _ _⟩) W m M a w G (Region.free_spec hi r) (λj s t x X w1 w2 L hR=>?_) (by simpa using q) hy (AS.refl _ _) h;rcases A j s with (((h | h) | h) | h) | h
 ·rw [x] at h;cases h
 ·exact absurd h t
 ·rw [hR.1 h];exact L
 ·exact L.trans ((hR.2 h).mono λb _ y=>p j X b y)
 ·rw [X] at h;cases h
def n5 (G:HK ops M)(h:(Region.ready .any ops M).contains i=true):HK ops (M.setIfInBounds i true):=G.set (by simpa using h)
end
end
abbrev zLX:=@Option.map_eq_some_iff
abbrev zMq:=@Bool.eq_false_iff
section
inductive ST where
 | fin (π live:Θ)
 | rd (i:Nat) (t:ST)
 | ef (i:Nat) (t Iu:ST)
 | no
def Ud:ST -> Θ
 | .ef i _ C=>i::Ud C
 | _=>[]
def E3 (ops:Array Oper)(early:Θ):Bool -> Nat -> ST -> Array Bool -> Bool
 | false,0,.fin _ _,L=>(List.range ops.size).all λj=>L.getD j true
 | false,m+1,.rd i t,L=>aU ops (λj=>early.contains j) i L&&E3 ops early false m t (L.setIfInBounds i true)
 | b,m+1,.ef i t C,L=>(b||Region.ready .any ops L==Ud (.ef i .no C))&&!WH ops i&&E3 ops early false m t (L.setIfInBounds i true)&&E3 ops early true (m+1) C L
 | true,_,.no,_=>true
 | _,_,_,_=>false
def FH (p:Nat -> Bool)(h:DH):DH:=(List.range h.length).map λi=>if p i then h.getD i none else none
def zJD (xs:Θ)(h:DH):DH:=FH (λi=>!xs.contains i) h
def SE (S:St)(o:Oper):Option Nat:=match o.op with
 | .store _ x _=>match Ad S.fr x with
  | .ref k _=>some k
  | .mp k _ _ _=>some k
  | _=>none
 | _=>none
def Ig:DV -> Θ
 | .gr k=>[k]
 | .msl k _ _ _=>[k]
 | _=>[]
def fm (S:St)(o:Oper):Option Θ:=match o.op with
 | .call c=>match c.callee with
  | .builtin .append=>match c.args.toList with
   | [x,y]=>some (Ig (Ad S.fr x)++Ig (Ad S.fr y))
   | _=>none
  | _=>none
 | _=>none
def Uc (P:Program)(S:St)(E:List (Nat×Fz))(o:Oper):Option Θ:=match Zu P S E o,ZS P S o with
 | none,none=>fm S o
 | _,_=>none
def zJJ (x:Θ)(h h':DH):Bool:=(List.range h.length).all λk=>x.contains k|| !(h.getD k none).isSome||(h'.getD k none).isSome
def rZ (σ:Θ)(L n:Nat):Bool:=decide σ.Nodup&&σ.all (λk=>decide (k<n))&&(List.range L).all λk=>decide (σ[k]? =some k)
def K0 (xs:List (Nat×Nat))(x:Θ)(j:Nat):Θ:=(xs.filter λq=>q.1==j).map (·.2)++x
def NS (ops:Array Oper)(xs:List (Nat×Nat))(x:Θ)(i:Nat):Θ:=(xs.filter λq=>!Gw ops ops.size q.1 i).map (·.2)++x
def zQ (P:Program)(E:List (Nat×Fz))(early:Θ)(xs:List (Nat×Nat))(x:Θ)(S c:St)(i:Nat)(o:Oper)(ext:Bool):Bool:=
 zJJ x S.h c.h&&(!(early.contains i)||ext||(match SE S o with | some k=>(K0 xs x i).contains k&&(S.h.getD k none).isSome | none=>false)||(match Uc P S E o with | some l=>l.all λk=>(K0 xs x i).contains k | none=>false))
def iN (π:Θ)(z:Nat):Θ:=List.range z++π.map (· +z)
def Na (P:Program)(Γ:Ay)(ops:Array Oper)(early:Θ)(xs:List (Nat×Nat))(x:Θ)(z:Nat)(S':St):ST -> St -> BS -> Option (List Prop×BS)
 | .no,_,Q=>some ([],Q)
 | .fin π C,S,Q=>if rZ (iN π z) z S.h.length then some ([Gp (iN π z) ⟨forget C S.fr,S.h⟩=S'],Q) else none
 | .rd i t,S,Q=>match ops[i]? with
  | none=>none
  | some o=>match V5 P ops ⟨S.fr,zJD (NS ops xs x i) S.h⟩ Q.co o with
   | none=>none
   | some (c,vs,a)=>match Na P Γ ops early xs x z S' t ⟨c.fr,S.h⟩ ⟨Q.calls,a,Q.fz,Q.tg⟩ with
    | none=>none
    | some (j,B)=>some (vs++j,B)
 | .ef i t b,S,Q=>match ops[i]? with
  | none=>none
  | some o=>match RP P Γ ops S Q o with
   | none=>none
   | some (c,vs,ext,m)=>if zQ P Q.fz early xs x S c i o ext then
    match Na P Γ ops early xs x z S' t c m with
    | none=>none
    | some (d,n)=>match Na P Γ ops early xs x z S' b S n with
     | none=>none
     | some (H,F)=>some (vs++(d++H),F)
    else none
def B2 (ops:Array Oper)(early:Θ)(t:ST):Prop:=(E3 ops early false ops.size t (Array.replicate ops.size false)&&Region.noSelect ops&&Ct ops)=true
def U0 (P:Program)(Γ:Ay)(ops:Array Oper)(early:Θ)(t:ST)(S:St)(Q:BS):Option (St×List Prop×BS):=match Q.tg with
 | []=>none
 | (T,S')::rest=>match Na P Γ ops early T (List.range' S.h.length ops.size) S.h.length S' t S ⟨Q.calls,Q.co,Q.fz,rest⟩ with
  | none=>none
  | some (vs,B)=>some (S',vs,B)
variable {h:DH}{p:Nat -> Bool}
theorem XY {i:Nat}{o:DO}(hi:(FH p h)[i]? =some (some o)):h[i]? =some (some o)/\ p i=true:=by
 unfold FH at hi
 grind
theorem rq :(FH p h).length=h.length:=by simp [FH]
theorem nM {k:Nat}(hp:p k=true)(hk:k<h.length):(FH p h)[k]? =h[k]? :=by
 grind [FH]
section
variable {P:Program} {Γ:Ay} {N:Ψ} {S:St} {ρ:List AK} {a:Act} {w:World}
theorem AU.sel (R:AU P Γ N S ρ a w)(p:Nat -> Bool):AU P Γ (λb=>N b∨∃ k o q,p k=false/\ S.h[k]? =some (some o)/\ ρ[k]? =some q/\ q.foot b) ⟨S.fr,FH p S.h⟩ ρ a w:=by
 have Y: ∀ b,MS (λb=>N b∨∃ k o q,p k=false/\ S.h[k]? =some (some o)/\ ρ[k]? =some q/\ q.foot b) (FH p S.h) ρ b -> MS N S.h ρ b:=by
  rintro b ((h | ⟨k,o,q,g,d,f,A⟩) | ⟨k,o,q,g,d,f⟩)
  ·exact .inl h
  ·exact .inr ⟨k,o,q,d,f,A⟩
  ·exact .inr ⟨k,o,q,(XY g).1,d,f⟩
 refine ⟨⟨by rw [rq];exact R.hr.len,λi o hi=>?_,λi o q b l r j=>?_,λi Q o1 n C F b K l r j U s u=>R.hr.dis i Q o1 n C F b K (XY l).1 (XY r).1 j U s u,?_,R.hr.gi⟩,R.fr.out (DK Y ρ)⟩
 ·obtain ⟨q,v,x⟩:=R.hr.obj i o (XY hi).1;exact ⟨q,v,x.out (DK Y ρ) (S:=λ_=>False) (AS.refl _ _) (λ_ h=>h.elim) λ_ _ _ h=>h⟩
 ·obtain ⟨hi,hpi⟩:=XY l;obtain ⟨m,y,E⟩:=R.hr.cel i o q b hi r j;refine ⟨m,?_,E⟩;rintro (h | ⟨k,o',D,g,d,f,A⟩)
  ·exact y h
  ·exact R.hr.dis i k o o' q D b (λe=>Z4) hi d r f j A
 ·rintro b (h | ⟨k,o',D,g,d,f,A⟩)
  ·exact R.hr.nlt b h
  ·obtain ⟨m,_,c,t,z,E⟩:=R.hr.cel k o' D b d f A
   grind
theorem AU.unsel {p:Nat -> Bool}{fr:List DV}(r:As P Γ N S.h ρ w)(R:BB (MS (λb=>N b∨∃ k o q,p k=false/\ S.h[k]? =some (some o)/\ ρ[k]? =some q/\ q.foot b) (FH p S.h) ρ) w ρ fr a.tmps):AU P Γ N ⟨fr,S.h⟩ ρ a w:=by
 refine ⟨r,R.out (DK (λb c=>?_) ρ)⟩;rcases c with h | ⟨k,o,q,h1,d,e⟩
 ·exact .inl (.inl h)
 ·cases hp:p k with
  | false=>grind [MS]
  | true=>
   refine .inr ⟨k,o,q,?_,d,e⟩
   grind [nM]
def Zs (xs:Θ)(h:DH)(ρ:List AK)(w:World)(b:Nat):Prop:=(∃ k o q,k∈xs/\ h[k]? =some (some o)/\ ρ[k]? =some q/\ q.foot b)∨w.heap.size<=b
theorem zJK {xs:Θ}{W:World}(t:AS (Zs xs S.h ρ w) w W):Keep (λb=>N b∨∃ k o q,(!xs.contains k)=false/\ S.h[k]? =some (some o)/\ ρ[k]? =some q/\ q.foot b) w W:=by
 intro b o u hb n;have A:b<w.heap.size:=zKN w ⟨b,o,none⟩ n;refine (zx (t.block b A ?_)).trans n
 grind [Zs]
variable {x y:Operand}{t:TypeId}{o:Oper}{ρ':Operand -> Value}
theorem ni (ho:o.op= .store t x y){nx:Next}{w w':World}(h:(execOp ρ' o).run P w= .ok nx w'):nx= .skip:=by
 unfold execOp at h;cases hs:(Instr.storeAt t (ρ' x) (ρ' y)).run P w with
 | ok v w1=>simp_all
 | halt x w1=>simp_all
variable {G:Value -> World -> Prop}
theorem BH.store (ho:o.op= .store t x y){w:World}{a:Value -> World -> Prop}(h:BH P (execOp ρ' o) w G)(h':BH P (execOp ρ' o) w a):BH P (execOp ρ' o) w (λv W=>G v W/\ a v W):=by
 grind [ni,BH]
variable {h':DH}{k:Nat}{d:DV}
theorem zB6 {x:DV}{O:Prop}(a:(∃ j,x= .ref k j)∨∃ m i j,x= .mp k m i j)(h:PZ P S t x d=some (h',O)):k<S.h.length/\ ∃ b,PZ P ⟨S.fr,FH (λi=>i==k) S.h⟩ t x d=some (b,O):=by
 have key: ∀ {o:DO},S.h[k]? =some (some o) -> k<S.h.length/\ (FH (λi=>i==k) S.h)[k]? =some (some o):=λ{o} ho=>by
  grind [nM]
 unfold PZ at h ⊢;rcases a with ⟨j,rfl⟩ | ⟨m,i,j,rfl⟩
 ·simp only at h ⊢;split at h
  ·grind
  ·cases h
 grind
theorem BH.appendB {c:Call}{E:TypeId}(b:o.op= .call c)(n:c.callee= .builtin .append)(K:c.args.toList= [x,y])(V:c.argTypes.toList= [t,E]){w:World}{a:Value -> World -> Prop}(h:BH P (execOp ρ' o) w G)(h':BH P (execOp ρ' o) w a):BH P (execOp ρ' o) w (λv W=>G v W/\ a v W):=by
 have hv: ∀ {nx:Next} {w':World},(execOp ρ' o).run P w= .ok nx w' -> ∃ v,nx= .value v:=λM=>by
  rw [NB b n K V] at M;exact Rt (f:=λx=>x) M
 grind [BH]
theorem XZ {p:Nat -> Bool}{h:DH}(hp:p k=true):(FH p h)[k]? =h[k]? :=by
 grind [nM,rq]
theorem zPC {p:Nat -> Bool}{x y:DV}(d: ∀ k∈Ig x,p k=true)(hy: ∀ k∈Ig y,p k=true):(Ub P ⟨S.fr,FH p S.h⟩ t x y).map (·.2.2)=(Ub P S t x y).map (·.2.2):=by
 have B:Mo ⟨S.fr,FH p S.h⟩ y=Mo S y:=by
  cases y <;> try rfl
  grind [Mo,XZ,Ig]
 have F:RH ⟨S.fr,FH p S.h⟩ y=RH S y:=by
  cases y <;> try rfl
  grind [RH,XZ,Ig]
 have a: ∀ m,Q6 ⟨S.fr,FH p S.h⟩ m y=Q6 S m y:=λm=>by
  cases y <;> try rfl
  grind [Q6,XZ,Ig]
 have b: ∀ k,x= .gr k -> (FH p S.h)[k]? =S.h[k]? :=λk e=>XZ (d k (by subst e;simp [Ig]))
 have ex: ∀ k m off n,x= .msl k m off n -> (FH p S.h)[k]? =S.h[k]? :=λk m off n e=>XZ (d k (by subst e;simp [Ig]))
 unfold Ub;cases Lw P t with
 | none=>rfl
 | some v=>
  obtain ⟨k,e,i,z⟩:=v;simp only
  by_cases c:128<i.bytes
  ·simp only [c,zL0]
  simp only [c,zP3];cases k with
  | ints=>
   simp only [B];cases Mo S y with
   | none=>rfl
   | some v=>
    cases x <;> try rfl
    grind
  | bools=>
   simp only [F];cases RH S y with
   | none=>rfl
   | some v=>
    cases x <;> try rfl
    grind
  | gen f=>
   simp only [a];cases Q6 S f y with
   | none=>rfl
   | some v=>
    cases x <;> try rfl
    ·grind
    ·simp only [b _ rfl];split <;> try rfl
     split <;> rfl
variable {ext:Bool}{vs:List Prop}
theorem zPD (R:AU P Γ N S ρ a w){i:List (DV×DH×Bool)}{B:List (DV×DH×Bool)}(h:PG P Γ S i o.op=some (d,h',vs,ext,B))(C:BX vs){l:Θ}(g:fm S o=some l)(D:BH P (execOp a.eval o) w G):
 BH P (execOp a.eval o) w (λv w'=>G v w'/\ AS (λb=>∃ k o q,k∈l/\ S.h[k]? =some (some o)/\ ρ[k]? =some q/\ q.foot b) w w'):=by
 unfold fm at g;split at g
 rotate_left
 ·cases g
 rename_i c m;split at g
 rotate_left
 ·cases g
 rename_i n;split at g
 rotate_left
 ·cases g
 rename_i x y K;cases g;rw [m] at h;simp only [PG,n,K] at h;split at h
 rotate_left
 ·cases h
 rename_i t t' V;split at h
 rotate_left
 ·cases h
 rename_i E;subst E;split at h
 rotate_left
 ·cases h
 rename_i d1 h1 O F;cases h;have u:=zPC (P:=P) (S:=S) (t:=t) (x:=Ad S.fr x) (y:=Ad S.fr y) (p:=λk=>(Ig (Ad S.fr x)++Ig (Ad S.fr y)).contains k) (λk hk=>by simp [hk]) (λk hk=>by simp [hk]);rw [F] at u;obtain ⟨⟨d2,h2,r⟩,H,s⟩:=zLX.1 u;have s:r=O:=s;subst s;have I:=zAf (AU.sel R (λk=>(Ig (Ad S.fr x)++Ig (Ad S.fr y)).contains k)) H C.1 o m n K V;rcases BH.appendB m n K V D I with ⟨v,w1,j,z,A⟩ | ⟨w1,j,z,A⟩ | ⟨f,ag,w1,j,Bl⟩
 ·refine .inl ⟨v,w1,j,z,?_⟩;obtain ⟨ρ2,_,_,st,_⟩:=A.ex;refine st.upd.mono λb _ hb=>?_
  grind [FH,MO]
 ·rw [NB m n K V] at j;obtain ⟨_,e⟩:=Rt (f:=λx=>x) j;cases e
 ·rw [NB m n K V] at j;obtain ⟨_,e⟩:=Rt (f:=λx=>x) j;cases e
theorem iB (h:SE S o=some k): ∃ t x y,o.op= .store t x y/\ ((∃ j,Ad S.fr x= .ref k j)∨∃ m i j,Ad S.fr x= .mp k m i j):=by
 grind [SE]
variable {n:List (DV×DH×Bool)}
theorem zPh {a:List (DV×DH×Bool)}(ho:o.op= .store t x y)(h:PG P Γ S a o.op=some (d,h',vs,ext,n)): ∃ O,PZ P S t (Ad S.fr x) (Ad S.fr y)=some (h',O)/\ vs= [O]:=by
 grind [PG]
theorem zPi (R:AU P Γ N S ρ a w){c:List (DV×DH×Bool)}(h:PG P Γ S c o.op=some (d,h',vs,ext,n))(s:BX vs):
 BH P (execOp a.eval o) w (λv w'=>B8 P Γ N S.h ρ w ext d h' v w'/\ ∀ k,SE S o=some k -> AS (λb=>∃ q,ρ[k]? =some q/\ q.foot b) w w'):=by
 cases hst:SE S o with
 | none=>
  have D:=pA R h s
  simp_all
 | some k=>
  obtain ⟨t,x,y,e,j⟩:=iB hst;have D:=pA R h s;obtain ⟨vc,l,rfl⟩:=zPh e h;obtain ⟨_,h2,m⟩:=zB6 j l;have u:=qz (AU.sel R (λi=>i==k)) (tx:=x) (x:=y) m s.1 o e;have z:=BH.store e D u;rcases z with ⟨v,w1,g,p,r⟩ | ⟨w1,g,p,r⟩ | ⟨f,ag,w1,g,_⟩
  ·cases ni e g
  ·refine .inr (.inl ⟨w1,g,p,λk' A=>?_⟩);cases A;obtain ⟨ρ2,_,_,st,_⟩:=r.ex;refine st.upd.mono λb _ B=>?_
   obtain ⟨i,o',q,q1,q2,q3⟩:=B
   grind [FH]
  ·cases ni e g
variable {Q:Exit -> Act -> World -> Prop}{S':St}{ops:Array Oper}{F:Fence}
theorem zO7 (j:Du F P)(R:AU P Γ N S ρ a w){L:BS}(s: ∀ c,o.op≠.defer c){CG:BS}(h:RP P Γ ops S L o=some (S',vs,ext,CG))(u:BX vs) 
 {K:Act -> World -> Prop}  (m: ∀ ρ' a' w',AU P Γ N S' ρ' a' w' -> DF S.h ρ w S'.h ρ' w' -> a'.defers=a.defers -> (ext=true -> Az w w') -> (∀ k,SE S o=some k -> AS (λb=>∃ q,ρ[k]? =some q/\ q.foot b) w w') -> (∀ l,Uc P S L.fz o=some l -> AS (λb=>∃ k o q,k∈l/\ S.h[k]? =some (some o)/\ ρ[k]? =some q/\ q.foot b) w w') -> K a' w'):
 if Region.wanted o (yielded ops a.tmps) then o.wpIn F 0 P a w K Q else (∀ f,o.about P w a.eval=some f -> F.fn f)/\ K (a.put o.dst undef) w:=by
 have n: ∀ v,(a.put o.dst v).defers=a.defers:=λv=>by cases ho:o.dst <;> simp [Act.put]
 unfold RP at h;split at h
 ·cases h
 ·rename_i X;cases h;rw [zEO (by rw [I2 R X];exact Bool.false_ne_true)];exact ⟨λf _=>j.fn f,m ρ _ _ (HP R _ ZH) (DF.refl _ _ _) (n _) (λ_=>Az.refl w) (λ_ _=>AS.refl _ _) λ_ _=>AS.refl _ _⟩
 ·rename_i X;rw [zAE (I2 R X)];split at h
  ·rename_i S1 O fz1 Y;cases h;refine Lx j s (sT R Y u) λv w' ⟨⟨ρ',g,r⟩,hst⟩=>m ρ' _ _ g r (n v) (λe=>by cases e) (λz A=>?_) λl B=>?_
   obtain ⟨t0,x0,y0,Th,_⟩:=iB A;rcases hst with hst | ⟨k,i,p,t,x,y,q1,q2,C,E⟩
   ·grind
   have e:z=k:=by
    grind
   subst e;exact E.mono λb _ H=>⟨p,C,H⟩
   grind [Uc]
  split at h
  ·rename_i S1 O Y;cases h;refine Lx j s (qy R Y u) λv w' ⟨⟨ρ',g,r⟩,hst⟩=>m ρ' _ _ g r (n v) (λe=>by cases e) (λz A=>?_) λl B=>?_
   obtain ⟨t0,x0,y0,Th,_⟩:=iB A;rcases hst with hst | ⟨k,i,p,t,x,y,q1,q2,C,E⟩
   ·grind
   have e:z=k:=by
    grind
   subst e;exact E.mono λb _ H=>⟨p,C,H⟩
   grind [Uc]
  split at h
  ·cases h
  ·rename_i d h1 O ext1 calls T;split at h;rename_i d' Bv Dq V;split at h
   ·cases h
   ·rename_i S2 Rs Ls W;cases h;obtain ⟨Z,Wm⟩:=Da.1 u;obtain ⟨CS,JR⟩:=Da.1 Wm;have D:=zPi R T Z;cases XP:fm S o with
    | none=>
     refine Lx j s D λv w' G=>?_
     obtain ⟨ρ',g,r⟩:=Ox R o.dst G.1 (d':=d') λM ρ' I=>YI V CS I
     obtain ⟨J,U⟩:=Xc _ W JR P Γ N ρ' _ _ g;refine m ρ' _ _ J (r.trans ⟨U,λ_ _ h=>h⟩) (n v) G.1.ext G.2 λl B=>?_
     grind [Uc]
    | some l0=>
     refine Lx j s (zPD R T Z XP D) λv w' G=>?_
     obtain ⟨ρ',g,r⟩:=Ox R o.dst G.1.1 (d':=d') λM ρ' I=>YI V CS I
     obtain ⟨J,U⟩:=Xc _ W JR P Γ N ρ' _ _ g;refine m ρ' _ _ J (r.trans ⟨U,λ_ _ h=>h⟩) (n v) G.1.1.ext G.1.2 λl B=>?_
     grind [Uc]
variable {early:Θ}
theorem p5 (hF:Du F P)(A8:Ct ops=true)(hs:Region.noSelect ops=true){xs:List (Nat×Nat)}{x:Θ}{B:Nat}:
 ∀ (t:ST) (m:Nat) (L:Array Bool) {S:St} {ρ:List AK} {a:Act} {w:World} {vs:List Prop} {U CG:BS},HK ops L -> AU P Γ N S ρ a w -> Na P Γ ops early xs x B S' t S U=some (vs,CG) -> BX vs ->
 (∀ ρ' a' w',AU P Γ N S' ρ' a' w' -> A3 S.h ρ w S'.h ρ' w' -> (∀ k p,k<B -> ρ[k]? =some p -> ρ'[k]? =some p) -> a'.defers=a.defers -> Q .normal a' w') ->
 (E3 ops early false m t L=true -> Yw F 0 P ops (NP Q) (RZ ops (λj=>early.contains j) (λj=>Zs (K0 xs x j) S.h ρ w)) m L a w)/\
 (E3 ops early true m t L=true -> ∀ i∈Ud t,i∈Region.ready .any ops L -> ∃ g,m=g+1/\ wpOpIn F 0 P ops (NP Q) i (λa' w'=>RZ ops (λj=>early.contains j) (λj=>Zs (K0 xs x j) S.h ρ w) i w w'/\ Yw F 0 P ops (NP Q) (RZ ops (λj=>early.contains j) (λj=>Zs (K0 xs x j) S.h ρ w)) g (L.setIfInBounds i true) a' w') a w):=by
 intro t
 induction t with
 | no=>
  grind [E3,Ud]
 | fin π C=>
  intro m L S ρ a w vs U ve G R f V u;refine ⟨λh=>?_,λh=>by cases m <;> simp [E3] at h⟩;cases m with
  | succ m=>simp [E3] at h
  | zero=>
   simp only [E3,zBk,zIN] at h;refine zA9 h ?_;simp only [Na] at f;split at f
   ·rename_i Y;cases f;simp only [rZ,zAD,zJ4,zBk,zIN] at Y;obtain ⟨ρ0,R0,FG,D⟩:=A7.forget (L:=B) C S.fr S.h P Γ N ρ a w R;obtain ⟨ρ',R',En,k'⟩:=A7.compact (L:=B) (iN π B) ⟨forget C S.fr,S.h⟩ Y.1.1 (λk hk=>Y.1.2 k hk) (λk hk=>Y.2 k hk) P Γ N ρ0 a w R0;have st:=FG.trans En
    grind [NP,BX,B0]
   ·cases f
 | rd i t ih=>
  intro m L S ρ a w vs U ve G R f V u;refine ⟨λh=>?_,λh=>by cases m <;> simp [E3] at h⟩;cases m with
  | zero=>simp [E3] at h
  | succ m=>
   simp only [E3,zAD] at h;simp only [Na] at f;split at f
   ·cases f
   ·rename_i o y
    ·split at f
     ·cases f
     ·rename_i E DQ fM H;split at f
      ·cases f
      ·rename_i FD G6 Z;cases f;obtain ⟨Bp,CS⟩:=Da.1 V;have RK:=AU.sel R (λk=>!(NS ops xs x i).contains k);obtain ⟨e1,hst⟩:=bO RK H Bp;have C3: ∀ v,(a.put o.dst v).defers=a.defers:=λv=>by cases y:o.dst <;> simp [Act.put]
       have I:(Region.ready .any ops L).contains i=true:=by
        simp_all [aU]
       have back: ∀ v,BB (MS (λb=>N b∨∃ k o q,(!(NS ops xs x i).contains k)=false/\ S.h[k]? =some (some o)/\ ρ[k]? =some q/\ q.foot b) E.h ρ) w ρ E.fr (a.put o.dst v).tmps -> AU P Γ N ⟨E.fr,S.h⟩ ρ (a.put o.dst v) w:=λv n=>by
        rw [e1] at n;exact AU.unsel (p:=λk=>!(NS ops xs x i).contains k) R.hr n
       have hZ: ∀ j,Gw ops ops.size j i=false -> ∀ b,Zs (K0 xs x j) S.h ρ w b -> Zs (NS ops xs x i) S.h ρ w b:=by
        rintro j hj b (⟨k,ob,q,k1,D,k2,k3⟩ | hb)
        ·refine .inl ⟨k,ob,q,?_,D,k2,k3⟩;unfold K0 at k1;unfold NS;rcases zLW.1 k1 with k1 | k1
         ·obtain ⟨p,p1,p2⟩:=zL1.1 k1
          grind
         grind
        ·exact .inr hb
       rcases hst with ⟨X,v,g1,J⟩ | ⟨X,J⟩
       ·refine tX (Zi:=Zs (NS ops xs x i) S.h ρ w) hF.fn A8 hs (λc a d v w h=>NP.put c a d v w h) y G h.1 hZ (λ_ _ h=>by cases h) (.inl ⟨X,λW hu=>g1 W (zJK hu)⟩) ?_;exact (ih m _ (n5 G I) (back v J.fr) Z CS λρ' a' w' s z K M=>u ρ' a' w' s z K (M.trans (C3 v))).1 h.2
       ·refine tX (Zi:=Zs (NS ops xs x i) S.h ρ w) hF.fn A8 hs (v:=undef) (λc a d v w h=>NP.put c a d v w h) y G h.1 hZ (λ_ _ h=>by cases h) (.inr ⟨X,rfl⟩) ?_;exact (ih m _ (n5 G I) (back undef J.fr) Z CS λρ' a' w' s z K M=>u ρ' a' w' s z K (M.trans (C3 undef))).1 h.2
 | ef i t O Wi Wh=>
  intro m L S ρ a w vs U ve G R f V u;simp only [Na] at f;split at f
  ·cases f
  ·rename_i o y;split at f
   ·cases f
   ·rename_i E DQ ext G7 h1;split at f
    ·rename_i dj;simp only [zQ,zAD,zJo] at dj;obtain ⟨zLm,zL5⟩:=dj;split at f
     ·cases f
     rename_i FD G6 Z;split at f
     ·cases f
     ·rename_i PT Me h3;cases f;obtain ⟨Bp,Ec⟩:=Da.1 V;obtain ⟨CS,JR⟩:=Da.1 Ec;have A:=Wh m L G R h3 JR u
      have one: ∀ b,E3 ops early b m (.ef i t O) L=true -> (Region.ready .any ops L).contains i=true -> ∃ g,m=g+1/\ E3 ops early true m O L=true/\ wpOpIn F 0 P ops (NP Q) i (λa' w'=>RZ ops (λj=>early.contains j) (λj=>Zs (K0 xs x j) S.h ρ w) i w w'/\ Yw F 0 P ops (NP Q) (RZ ops (λj=>early.contains j) (λj=>Zs (K0 xs x j) S.h ρ w)) g (L.setIfInBounds i true) a' w') a w:=by
       intro b hb n;cases m with
       | zero=>cases b <;> simp [E3] at hb
       | succ m=>
        have EJ:(!WH ops i)=true/\ E3 ops early false m t (L.setIfInBounds i true)=true/\ E3 ops early true (m+1) O L=true:=by
         cases b <;> simp only [E3,zAD] at hb <;> exact ⟨hb.1.1.2,hb.1.2,hb.2⟩
        obtain ⟨b1,b2,b3⟩:=EJ;refine ⟨m,rfl,b3,?_⟩;unfold wpOpIn;simp only [y];refine zO7 hF R (JJ A8 y) h1 Bp λρ' a' w' R' st EI Lm zJ6 zMN=>?_
        refine ⟨⟨λH=>(by rw [H] at b1;cases b1),λhe=>?_⟩,?_⟩
        ·rcases zL5 with ((h | h) | h) | h
         ·grind
         ·exact AS.ofExt (Lm h)
         ·split at h
          ·rename_i k hk;rw [zAD] at h;refine (zJ6 k hk).mono λb _ hb=>?_
           obtain ⟨q,s,z⟩:=hb;cases hg:S.h.getD k none with
           | none=>rw [hg] at h;cases h.2
           | some ob=>grind [Zs]
          ·cases h
         ·split at h
          ·rename_i l hl;refine (zMN l hl).mono λb _ hb=>?_
           grind [Zs]
          ·cases h
        ·have T:=(Wi m _ (n5 G n) R' Z CS λρ2 a2 w2 s z K M=>u ρ2 a2 w2 s (st.st.trans z) (λk p hk H=>K k p hk (st.pl k p H)) (M.trans EI)).1 b2;refine pQ (λj w1 w2 hR=>⟨hR.1,λhe=>(hR.2 he).mono λb Kc hb=>?_⟩) _ _ _ _ T;rcases hb with ⟨k,ob,q,k1,D,k2,k3⟩ | hb
         ·rcases st.st.grow b ⟨k,ob,q,D,k2,k3⟩ with ⟨r,o2,p2,g1,J,g3⟩ | h
          ·by_cases CT:r∈K0 xs x j
           ·grind [Zs]
           ·exfalso
            have Mz:=(zJ0.1 g1).1;have JP:=zBk.1 zLm r (zIN.2 Mz);have e2:S.h.getD r none=some o2:=Z4
            have mI:x.contains r=false:=zMq.2 λh=>CT (zLW.2 (.inr (by simpa using h)))
            rw [e2,mI] at JP;cases xp:E.h.getD r none with
            | none=>rw [xp] at JP;cases JP
            | some ob2=>exact R'.hr.dis r k ob2 ob p2 q b (λe=>CT (e▸k1)) (getD_some xp) D (st.pl r p2 J) k2 g3 k3
          ·exact .inr h
         ·exact .inr (zA4 st.st.upd.size hb)
      refine ⟨λh=>?_,λh j hj n=>?_⟩
      ·have I:Region.ready .any ops L=i::Ud O:=by
        cases m <;> simp only [E3,zAD,zJo,zH2,Ud,zLk,false_or] at h;exact h.1.1.1
       obtain ⟨g,e,ha,X⟩:=one false h (by rw [I];simp);subst e;refine ⟨by rw [I];simp,λj hj=>?_⟩
       grind
      ·rcases zKP.1 hj with rfl | hj
       ·obtain ⟨g,e,ha,X⟩:=one true h (by simpa using n);exact ⟨g,e,X⟩
       ·have ha:E3 ops early true m O L=true:=by
         cases m <;> simp only [E3,zAD] at h
         ·cases h
         ·exact h.2
        exact A.2 ha j hj n
    ·cases f
theorem Tr.tree {B:Option Nat}{L:Nat}{Y:BK P Γ L}{Q:QY P Γ L}(d:Du F P){id:Nat}{t:ST}{e f:BS}(z:P.follows .mixedOrders=true)(H:B2 ops early t) 
 (h:U0 P Γ ops early t S e=some (S',vs,f)) (s:BX vs) (hk:Q .normal S' Y):Tr P Γ F B L Y (.region id ops true) S Q:=λN ρ a w R y m b=>by
 simp only [B2,zAD] at H;obtain ⟨⟨g,i⟩,j⟩:=H;unfold U0 at h;split at h
 ·cases h
 split at h
 ·cases h
 ·rename_i l;cases h;have c:Az w w.drew:=Az.toDrew w;refine pT (pS z (Nat.add_zero _) ((p5 d j i t ops.size _ zk (R.ext c) l s λρ' a' w' R' st n G=>?_).1 g));have o:A3 S.h ρ w S'.h ρ' w':=(A3.ext c).trans st;exact Tr.done R y m b hk R' o (λk p _ q=>n k p (by rw [←R.hr.len];grind) q) G
end
end
abbrev zL4:=@Go.wpIn_region_list
abbrev zQK:=@Go.IntKind.wrap_i64
inductive KI where
 | code (c:Code)
 | blk (id:Nat)
 | scp
 | lend (J:St -> Prop)
 | loopN (m:Nat) (b:Code)
def Ht (P:Program)(Γ:Ay)(F:Fence)(B:Option Nat)(L:Nat)(b:Code)(Q:QY P Γ L):Nat -> St -> BK P Γ L -> Prop
 | 0,_,_=>False
 | m+1,S,Y=>Tr P Γ F B L Y b S (PV (Ht P Γ F B L b Q m) Q)
def Ht.loop {P:Program}{Γ:Ay}{F:Fence}{B:Option Nat}{L:Nat}{Y:BK P Γ L}{b:Code}{Q:QY P Γ L}{m:Nat}{S:St}(h:Ht P Γ F B L b Q m S Y):Tr P Γ F B L Y (.loop b) S Q:=by
 refine Tr.loop (λm S Y=>Ht P Γ F B L b Q m S Y) m h λm S Y z=>?_
 cases m with
 | zero=>exact z.elim
 | succ m=>
  refine Tr.mono z λe S' Y' a=>?_
  cases e with
  | normal=>exact ⟨m,Nat.lt_succ_self m,a⟩
  | _=>exact a
def BG (P:Program)(Γ:Ay)(F:Fence)(B:Option Nat)(L:Nat)(Q:QY P Γ L):List KI -> QY P Γ L
 | [],e,S,Y=>Q e S Y
 | .code c::k,e,S,Y=>match e with
  | .normal=>Tr P Γ F B L Y c S (BG P Γ F B L Q k)
  | e=>BG P Γ F B L Q k e S Y
 | .blk id::k,e,S,Y=>match e with
  | .exit i=>if i=id then BG P Γ F B L Q k .normal S Y else BG P Γ F B L Q k (.exit i) S Y
  | e=>BG P Γ F B L Q k e S Y
 | .scp::k,e,S,Y=>match e with
  | .goto _=>False
  | e=>BG P Γ F B L Q k e S Y
 | .lend J::k,e,S,Y=>match e with
  | .normal=>J S
  | e=>BG P Γ F B L Q k e S Y
 | .loopN m b::k,e,S,Y=>match e with
  | .normal=>Ht P Γ F B L b (BG P Γ F B L Q k) m S Y
  | e=>BG P Γ F B L Q k e S Y
def A5 (P:Program)(Γ:Ay)(F:Fence)(B:Option Nat)(L:Nat)(Y:BK P Γ L)(Q:QY P Γ L)(k:List KI)(S:St):Prop:=BG P Γ F B L Q k .normal S Y
def stay {P:Program}{Γ:Ay}{L:Nat}(N:BK P Γ L)(Q:Exit -> St -> Prop):QY P Γ L:=λe S Y=>Y=N/\ Q e S
abbrev BI (P:Program)(Γ:Ay)(F:Fence)(B:Option Nat)(L:Nat)(N:BK P Γ L)(Q:Exit -> St -> Prop)(k:List KI)(S:St):Prop:=A5 P Γ F B L N (stay N Q) k S
def KD (id:Nat):List KI -> Option (List KI)
 | []=>none
 | .blk i::k=>if id=i then some k else KD id k
 | _::k=>KD id k
inductive pC where
 | no
 | ord (st:List (Θ×Nat)) (la ta:Θ)
 | stop
 | tre (early:Θ) (t:ST)
abbrev BF:=Nat -> pC
def pC.isStop:pC -> Bool
 | .stop=>true
 | _=>false
def AJ (i:Nat)(s:BF):BF:=λj=>if j=i then .stop else s j
def Ae (ops:Array Oper)(p:List (Θ×Nat))(z e:Θ):Prop:=(iU ops p z e&&Ct ops&&e.all λt=>decide (t<ops.size))=true
inductive KO where
 | at (k:List KI)
 | ret
def CH (P:Program)(Γ:Ay)(d:BF):Nat -> List KI -> St -> BS -> Option (KO×St×List Prop×BS)
 | 0,_,_,_=>none
 | n+1,k,S,o=>match k with
  | []=>some (.at [],S,[],o)
  | .blk _::k=>CH P Γ d n k S o
  | .scp::k=>CH P Γ d n k S o
  | .lend J::k=>some (.at (.lend J::k),S,[],o)
  | .loopN m b::k=>some (.at (.loopN m b::k),S,[],o)
  | .code c::k=>match c with
   | .skip=>CH P Γ d n k S o
   | .seq a b=>CH P Γ d n (.code a:: .code b::k) S o
   | .block id b=>CH P Γ d n (.code b:: .blk id::k) S o
   | .scope b=>CH P Γ d n (.code b:: .scp::k) S o
   | .label _=>CH P Γ d n k S o
   | .exit id=>match KD id k with
    | some i=>CH P Γ d n i S o
    | none=>some (.at (.code (.exit id)::k),S,[],o)
   | .ret=>some (.ret,S,[],o)
   | .cond x a b=>match Ad S.fr x with
    | .bool true=>CH P Γ d n (.code a::k) S o
    | .bool false=>CH P Γ d n (.code b::k) S o
    | _=>none
   | .region id ops e=>if (d id).isStop then some (.at (.code (.region id ops e)::k),S,[],o) else match e with
    | false=>if Ct ops then match EL P Γ ops ops.toList S o with
     | none=>none
     | some (S',vs,o')=>match CH P Γ d n k S' o' with
      | none=>none
      | some (r,U,j,z)=>some (r,U,vs++j,z)
     else none
    | true=>match d id with
     | .no=>none
     | .stop=>none
     | .tre early t=>match U0 P Γ ops early t S o with
      | none=>none
      | some (S',vs,o')=>match CH P Γ d n k S' o' with
       | none=>none
       | some (r,U,j,z)=>some (r,U,B2 ops early t::(vs++j),z)
     | .ord st f g=>match hseq P Γ ops S.h st f g S o with
      | none=>none
      | some (S',vs,o')=>match CH P Γ d n k S' o' with
       | none=>none
       | some (r,U,j,z)=>some (r,U,Ae ops st f g::(vs++j),z)
   | c=>some (.at (.code c::k),S,[],o)
section
variable {P:Program} {Γ:Ay} {F:Fence} {B:Option Nat} {L:Nat} {Y:BK P Γ L} {Q:QY P Γ L}
variable {vs:List Prop}{S' S:St}{ops:Array Oper}{id:Nat}
def zMh (c:Du F P){d e:BS}{Q:QY P Γ L}(u:Ct ops=true)(h:EL P Γ ops ops.toList S d=some (S',vs,e))(s:BX vs)(hk:Q .normal S' Y):Tr P Γ F B L Y (.region id ops false) S Q:=λN ρ a w R y m b=>
 zL4 (Lp c u _ (λo f=>by simpa using f) R h s λρ' a' w' R' st G=>Tr.done R y m b hk R' st.st (λk p _ g=>st.pl k p g) G)
theorem zKD (d:Du F P){c:List (Θ×Nat)}{z e:Θ}{g i:BS}{Q:QY P Γ L}(j:P.follows .mixedOrders=true)(H:Ae ops c z e) 
 (h:hseq P Γ ops S.h c z e S g=some (S',vs,i)) (s:BX vs) (hk:Q .normal S' Y):Tr P Γ F B L Y (.region id ops true) S Q:=λN ρ a w R y m b=>by
 simp only [Ae,zAD] at H;obtain ⟨⟨h1,l⟩,n⟩:=H;have f:Az w w.drew:=Az.toDrew w;refine zBC d.fn c z e j Z4 (zKE d l c z e n (R.ext f) (DF.refl _ _ _) (Az.refl _) h s λρ' a' w' R' st G=>?_);have o:A3 S.h ρ w S'.h ρ' w':=(A3.ext f).trans st.st;exact Tr.done R y m b hk R' o (λk p _ q=>st.pl k p q) G
theorem P6 : ∀ {k o:List KI},KD id k=some o -> BG P Γ F B L Q o .normal S Y -> BG P Γ F B L Q k (.exit id) S Y
 | [],_,h,_=>by cases h
 | .blk i::k,o,h,a=>by
  unfold KD at h;split at h
  ·rename_i e;cases h;subst e
   show (if id=id then _ else _)
   rw [zAE rfl];exact a
  ·rename_i e
   show (if id=i then _ else _)
   rw [zEO e];exact P6 h a
 | .code c::k,o,h,a=>P6 (k:=k) h a
 | .lend J::k,o,h,a=>P6 (k:=k) h a
 | .scp::k,o,h,a=>P6 (k:=k) h a
 | .loopN m b::k,o,h,a=>P6 (k:=k) h a
def Nx (h:Q .ret S Y): ∀ (k:List KI),BG P Γ F B L Q k .ret S Y
 | []=>h
 | .blk _::k=>Nx h k
 | .code _::k=>Nx h k
 | .lend _::k=>Nx h k
 | .scp::k=>Nx h k
 | .loopN _ _::k=>Nx h k
def KOk (P:Program)(Γ:Ay)(F:Fence)(B:Option Nat)(L:Nat)(Y:BK P Γ L)(Q:QY P Γ L):KO -> St -> Prop
 | .at k,S=>A5 P Γ F B L Y Q k S
 | .ret,S=>Q .ret S Y
def GL (d:Du F P)(z:P.follows .mixedOrders=true){C:BF}: ∀ (n:Nat) (k:List KI) (S:St) (o:BS) (r:KO) (S':St) (vs:List Prop) (o':BS),CH P Γ C n k S o=some (r,S',vs,o') -> BX vs -> KOk P Γ F B L Y Q r S' -> A5 P Γ F B L Y Q k S
 | 0,_,_,_,_,_,_,_,h,_,_=>by cases h
 | n+1,k,S,o,r,S',vs,o',h,s,hk=>by
  unfold CH at h;cases k with
  | nil=>cases h;exact hk
  | cons i k=>
   cases i with
   | blk id=>exact GL d z n k S o r S' vs o' h s hk
   | scp=>exact GL d z n k S o r S' vs o' h s hk
   | lend J=>cases h;exact hk
   | loopN m b=>cases h;exact hk
   | code c=>
    show Tr P Γ F B L Y c S (BG P Γ F B L Q k)
    cases c with
    | skip=>exact Tr.skip (GL d z n k S o r S' vs o' h s hk)
    | seq a b=>
     refine Tr.seq (Tr.mono (GL d z n (.code a:: .code b::k) S o r S' vs o' h s hk) λe X N g=>?_);cases e <;> exact g
    | block id b=>
     refine Tr.block (Tr.mono (GL d z n (.code b:: .blk id::k) S o r S' vs o' h s hk) λe X N g=>?_);cases e <;> exact g
    | exit id=>
     simp only at h;split at h
     ·rename_i D G;exact Tr.exit (P6 G (GL d z n D S o r S' vs o' h s hk))
     ·cases h;exact hk
    | ret=>cases h;exact Tr.ret (Nx hk k)
    | cond x a b=>
     simp only at h;split at h
     ·rename_i u;exact Tr.cond u (λ_=>GL d z n (.code a::k) S o r S' vs o' h s hk) (λe=>by cases e)
     ·rename_i u;exact Tr.cond u (λe=>by cases e) (λ_=>GL d z n (.code b::k) S o r S' vs o' h s hk)
     ·cases h
    | region id ops I=>
     simp only at h;split at h
     ·cases h;exact hk
     ·cases I with
      | false=>
       simp only at h;split at h
       ·rename_i K;split at h
        ·cases h
        ·rename_i j v o1 p;split at h
         ·cases h
         ·rename_i U X A E q;cases h;obtain ⟨V,H⟩:=Da.1 s;exact zMh d K p V (GL d z n k j o1 _ _ _ _ q H hk)
       ·cases h
      | true=>
       simp only at h;split at h
       ·cases h
       ·cases h
       ·rename_i early t M;split at h
        ·cases h
        ·rename_i j v o1 p;split at h
         ·cases h
         ·rename_i U X A E q;cases h;obtain ⟨y,T⟩:=s;obtain ⟨V,H⟩:=Da.1 T;exact Tr.tree d z y p V (GL d z n k j o1 _ _ _ _ q H hk)
       ·rename_i st la ta M;split at h
        ·cases h
        ·rename_i j v o1 p;split at h
         ·cases h
         ·rename_i U X A E q;cases h;obtain ⟨y,T⟩:=s;obtain ⟨V,H⟩:=Da.1 T;exact zKD d z y p V (GL d z n k j o1 _ _ _ _ q H hk)
    | loop b=>cases h;exact hk
    | rangeFunc f ps RR bd=>cases h;exact hk
    | scope b=>
     refine Tr.scope (Tr.mono (GL d z n (.code b:: .scp::k) S o r S' vs o' h s hk) λe X N g=>?_);cases e <;> exact g
    | label l=>exact Tr.label (GL d z n k S o r S' vs o' h s hk)
    | goto l=>cases h;exact hk
    | refuse w=>cases h;exact hk
variable {k:List KI}
def A5.weaken (i:A7 L S S')(h:A5 P Γ F B L Y Q k S')(hk: ∃ c o,k= .code c::o):A5 P Γ F B L Y Q k S:=by
 obtain ⟨c,o,rfl⟩:=hk;exact Tr.weaken i h
def QZ:List KI -> Bool
 | .code (.loop _)::_=>true
 | _=>false
def Em (k:List KI):List KI:=match k with
 | _::rest=>rest
 | []=>[]
def O1 (id:Nat):Θ -> Code -> List KI -> Option (List KI)
 | ms,.seq a b,k=>match O1 id ms a (.code b::k) with
  | some r=>some r
  | none=>O1 id ms b k
 | ms,.cond _ a b,k=>match O1 id ms a k with
  | some r=>some r
  | none=>O1 id ms b k
 | ms,.block i c,k=>if i=id then some (.code c:: .blk i::k) else O1 id ms c (.blk i::k)
 | ms,.scope c,k=>O1 id ms c (.scp::k)
 | m::ms,.loop b,k=>O1 id ms b (.loopN m b::k)
 | _,_,_=>none
def O3 (id:Nat):Θ -> Code -> List KI -> Option (List KI)
 | ms,.seq a b,k=>match O3 id ms a (.code b::k) with
  | some r=>some r
  | none=>O3 id ms b k
 | ms,.cond _ a b,k=>match O3 id ms a k with
  | some r=>some r
  | none=>O3 id ms b k
 | ms,.block i c,k=>O3 id ms c (.blk i::k)
 | ms,.scope c,k=>O3 id ms c (.scp::k)
 | m::ms,.loop b,k=>O3 id ms b (.loopN m b::k)
 | _,.region i ops d,k=>if i=id then some (.code (.region i ops d)::k) else none
 | _,_,_=>none
def Dx (m:Nat)(k:List KI):List KI:=match k with
 | .code (.loop b)::rest=>.loopN m b::rest
 | _=>[]
def pz (m:Nat)(k:List KI):List KI:=match k with
 | .code (.loop b)::rest=>.code b:: .loopN m b::rest
 | _=>[]
def start (f:Func):List KI:=match f.body with
 | some c=>[.code c]
 | none=>[]
def LG (c:Code)(id:Nat):Array Oper:=match c with
 | .region i ops _=>if i=id then ops else #[]
 | .seq a b=>let x:=LG a id;if x.size=0 then LG b id else x
 | .cond _ a b=>let x:=LG a id;if x.size=0 then LG b id else x
 | .block _ c=>LG c id
 | .loop c=>LG c id
 | .scope c=>LG c id
 | .rangeFunc _ _ a b=>let x:=LG a id;if x.size=0 then LG b id else x
 | _=>#[]
def A0 (f:Func)(id:Nat):Array Oper:=match f.body with
 | some c=>LG c id
 | none=>#[]
theorem BI.enter (m:Nat)(hk:QZ k=true)(h:A5 P Γ F B L Y Q (Dx m k) S):A5 P Γ F B L Y Q k S:=by
 unfold QZ at hk;split at hk
 ·exact Ht.loop h
 ·cases hk
def BI.round {n m:Nat}(z:n+1<=m)(hk:QZ k=true)(h: ∀ m,n<=m -> A5 P Γ F B L Y Q (pz m k) S):A5 P Γ F B L Y Q (Dx m k) S:=by
 cases m with
 | zero=>omega
 | succ m=>
  have h:=h m (Nat.le_of_succ_le_succ z);unfold QZ at hk;split at hk
  ·refine Tr.mono h λe S' Y' a=>?_
   cases e <;> exact a
  ·cases hk
def AH (n:Nat)(l:List (Nat×DV)):List DV:=(List.range n).map λi=>match l.find? (λx=>x.1==i) with
 | some x=>x.2
 | none=>.any
variable {h':DH}{d:DV}{fn:Func}
def Cp.le {e:Exit}(i:A7 L S S')(h:Cp P fn L d h' e S'):Cp P fn L d h' e S:=by
 obtain ⟨M,U,a,b⟩:=h;exact ⟨M,U,i.trans a,b⟩
variable {h:DH}{ds:List DV}{f:Nat}
def ES.of_trk {ext:Bool}(O:P.funcs[f]? =some fn)(a:fn.body.isSome=true)(l:(fn.name== "runtime.NumGoroutine")=false)(hni:QK h')(W:ext=true -> h= []) 
 (H: ∀ (B:Nat) (N:BK P Γ h.length),BI P Γ Fence.wide (some B) h.length N (Cp P fn h.length d h') (start fn) ⟨ds++List.replicate (fn.ntmps-ds.length) .any,h⟩):ES P Γ f ds h d h' ext:=by
 cases n:fn.body with
 | none=>rw [n] at a;cases a
 | some c=>
  refine ES.of_tr O n (by simpa using l) hni (λB N=>?_) W;have:=H B N;unfold start at this;rw [n] at this;refine Tr.mono this λe S Y Q=>?_
  cases e <;> exact Q
def GK:DV -> Bool
 | .mse .. =>false
 | .gr .. =>false
 | .mri .. =>false
 | .ref .. =>false
 | .msl .. =>false
 | .mp .. =>false
 | .it _=>false
 | .agg m f=>(List.range m).all λj=>GK (f j)
 | .tup m f=>(List.range m).all λj=>GK (f j)
 | .fn _ m f=>(List.range m).all λj=>GK (f j)
 | _=>true
def OO: ∀ {d:DV},GK d=true -> Ji d:=by
 intro d
 induction d with
 | any=>exact λ_ _ _ _ _ _=>trivial
 | nils=>exact λ_ _ _ _ _ h=>h
 | int k n=>exact λ_ _ _ _ _ h=>h
 | bool b=>exact λ_ _ _ _ _ h=>h
 | str s=>exact λ_ _ _ _ _ h=>h
 | ints l=>exact λ_ _ _ _ _ h=>h
 | bools l=>exact λ_ _ _ _ _ h=>h
 | sl m n f _=>exact λ_ _ _ _ _ h=>h
 | fp m f _=>exact λ_ _ _ _ _ h=>h
 | agg m f q=>exact λa=>Ji.agg λj p=>q j (zBk.1 a j (zIN.2 p))
 | tup m f q=>exact λa=>Ji.tup λj p=>q j (zBk.1 a j (zIN.2 p))
 | ref k j=>exact λa=>by cases a
 | msl k m o n=>exact λa=>by cases a
 | mp k m i j=>exact λa=>by cases a
 | fn g m c q=>exact λa M w ρ v ⟨cs,e,r,t⟩=>⟨cs,e,r,λj p=>let ⟨u,x,y⟩:=t j p;⟨u,x,q j (zBk.1 a j (zIN.2 p)) M w ρ u y⟩⟩
 | it k=>exact λa=>by cases a
 | yl l=>exact λ_ _ _ _ _ h=>h
 | cst u=>exact λ_ _ _ _ _ h=>h
 | mse k m o n=>exact λa=>by cases a
 | gr k=>exact λa=>by cases a
 | mri k i=>exact λa=>by cases a
def ES.frameB (h0:ES P Γ f ds [] d [] true)(h:DH)(F:ds.all GK=true):ES P Γ f ds h d h true:=h0.frame (λx a=>OO (zBk.1 F x a)) h
def Zk:DV -> Bool
 | .int .. =>true
 | .bool _=>true
 | .tup m f=>(List.range m).all λj=>match f j with
  | .int .. =>true
  | .bool _=>true
  | _=>false
 | _=>false
theorem zCt (h:Zk d=true):Jh d:=by
 unfold Zk at h
 grind [Jh.int,Jh.bool,Jh.tup]
def PE (h:DH):List DV -> List DV -> Prop
 | [],[]=>True
 | d::ds,W::X=>Ax h d W/\ PE h ds X
 | _,_=>False
theorem Ue : ∀ {ds X:List DV},PE h ds X -> X.length=ds.length/\ ∀ i,i<ds.length -> Ax h (ds.getD i .any) (X.getD i .any)
 | [],[],_=>⟨rfl,λi hi=>absurd hi (zA6 i)⟩
 | d::ds,d0::X,⟨h1,b⟩=>by
  obtain ⟨e,g⟩:=Ue b
  grind
 | [],_::_,h=>h.elim
 | _::_,[],h=>h.elim
def Ax.plain (u:GK d=true):Ax h d d:=Ax.nref (OO u)
def ES.snapB {X:List DV}(h0:ES P Γ f X [] d [] true)(h:DH)(l:PE h ds X)(v:Zk d=true):ES P Γ f ds h d h true:=ES.snap h0 h (Ue l).1 (Ue l).2 (zCt v)
theorem AM.of_eq {d':DV}(h:d=d'):AM d d':=by rw [h];exact AM.refl _
def TV {M:Ψ}{w:World}{ρ:List AK}{v:Value}{l:Ξ}(h:AI M w (.ints l) ρ v):l.length<=LB:=let ⟨_,_,_,_,h,_⟩:=h;h
def wrC {x c:Int}(a:x=c)(h2: -9223372036854775808<=c)(h3:c<=9223372036854775807):IntKind.i64.wrap x=c:=by
 subst a;rw [zQK];omega
end
def PH (w:World):Prop:=TabAt 1 Lib.deBruijn64tab w
def GG:Ay where
 ng:=2
 gi:=λw=>PH w/\ 2<=w.heap.size
 st:=λw w' h t=>⟨λj i=>t.cell (by show ¬ (2<=1);omega) (h.1 j i),zA4 h.2 t.size⟩
 lo:=λw h=>h.2
section
variable {α:Type}
theorem DE {c:Prop} [Decidable c] {a:Option α} {r:α} (h:(if c then a else none)=some r):c/\ a=some r:=by
 grind
def Gq {β:Type}{o:Option β}{f:β -> Option α}{r:α}(h:o.bind f=some r): ∃ v,o=some v/\ f v=some r:=by
 cases o with
 | none=>cases h
 | some v=>exact ⟨v,rfl,h⟩
theorem DN {b:Bool}{x y:Option α}{r:α}(h:(bif b then x else y)=some r):(b=true/\ x=some r)∨(b=false/\ y=some r):=by
 grind
def zG3:Int -> Bool
 | .ofNat n=>Nat.ble n 9223372036854775807
 | .negSucc n=>Nat.ble n 9223372036854775807
def AG (x:Int):Prop:=zG3 x=true
instance (x:Int):Decidable (AG x):=by unfold AG;infer_instance
variable {x:Int}
theorem Aa :AG x↔-9223372036854775808<=x/\ x<=9223372036854775807:=by
 unfold AG;cases x with
 | ofNat n=>
  show Nat.ble n 9223372036854775807=true↔_
  grind [Nat.ble_eq]
 | negSucc n=>
  show Nat.ble n 9223372036854775807=true↔_
  rw [Nat.ble_eq];omega
def zA7 (h:AG x):AM (.int .i64 (IntKind.i64.wrap x)) (.int .i64 x):=AM.int (wrC rfl (Aa.1 h).1 (Aa.1 h).2)
def comp (C σ:Θ)(S:St):St:=Gp σ ⟨forget C S.fr,S.h⟩
def K7 (σ:Θ)(L n:Nat):Bool:=decide σ.Nodup&&σ.all (λk=>decide (k<n))&&(List.range L).all λk=>decide (σ[k]? =some k)
def A7.comp {L:Nat}(C σ:Θ)(S:St)(h:K7 σ L S.h.length=true):A7 L S (comp C σ S):=by
 simp only [K7,zAD,zJ4,zBk,zIN] at h;exact (A7.forget C S.fr S.h).trans (A7.compact σ _ h.1.1 (λk hk=>h.1.2 k hk) (λk hk=>h.2 k hk))
def WM (C σ:Θ)(L:Nat)(r:KO×St×List Prop×BS):KO×List DV×DH×List Prop×List (DV×DH×Bool)×List (Nat×DV)×Bool:=(r.1,(Proofs.YtodinaconebmdaaGreatDoor.comp C σ r.2.1).fr,(Proofs.YtodinaconebmdaaGreatDoor.comp C σ r.2.1).h,r.2.2.1,r.2.2.2.calls,r.2.2.2.co,K7 σ L r.2.1.h.length)
section
variable {P:Program} {Γ:Ay} {F:Fence} {B:Option Nat} {L:Nat} {Y N:BK P Γ L} {Q:QY P Γ L}
variable {h':DH}{S:St}{n:Nat}
def zHj {J:BF}{k:List KI}{o:BS}{C σ:Θ}{r:KO}{fr:List DV}{vs:List Prop}(h:(CH P Γ J n k S o).map (WM C σ L)=some (r,fr,h',vs,[],[],true)):
 ∃ S' o',CH P Γ J n k S o=some (r,S',vs,o')/\ A7 L S' ⟨fr,h'⟩:=by
 cases j:CH P Γ J n k S o with
 | none=>rw [j] at h;cases h
 | some r=>
  obtain ⟨r1,c,DQ,⟨c1,o1,z1,g1⟩⟩:=r;rw [j] at h;simp only [zLo,WM,zJw,zKR] at h;obtain ⟨rfl,rfl,rfl,rfl,rfl,rfl,l⟩:=h;exact ⟨c,_,rfl,A7.comp C σ c l⟩
def JM:List KI -> Bool
 | .code _::_=>true
 | .loopN _ _::_=>true
 | _=>false
variable {S':St}{m:Nat}
def Ht.weaken {b:Code}(i:A7 L S S')(h:Ht P Γ F B L b Q m S' Y):Ht P Γ F B L b Q m S Y:=by
 cases m with
 | zero=>exact h.elim
 | succ m=>exact Tr.weaken i h
def BI.le {k:List KI}(i:A7 L S S')(n:JM k=true)(h:A5 P Γ F B L Y Q k S'):A5 P Γ F B L Y Q k S:=by
 unfold JM at n;split at n
 ·exact A5.weaken i h ⟨_,_,rfl⟩
 ·exact Ht.weaken i h
 ·cases n
def A7.frzE (k:Nat)(S':St)(vs:List Prop)(h:Xf k S=some (S',vs))(s:BX vs):A7 L S S':=λP Γ N ρ a w R=>
 ⟨ρ,(Db.frzE k S' vs h s P Γ N ρ a w R).1,(Db.frzE k S' vs h s P Γ N ρ a w R).2,B0.refl _ _⟩
theorem A7.compE (σ:Θ)(h:K7 σ L S.h.length=true):A7 L S (Gp σ S):=by
 simp_all [K7,A7.compact]
def WV:Option DO -> Bool
 | some (.iter _)=>false
 | _=>true
variable {h:DH}
def QJ (c:h.all WV=true):QK h:=λk encs hk=>by
 have:=zBk.1 c _ (zJ1 hk);cases this
variable {l l0:List DV}{k:Nat}
def Ax.refL (hk:h[k]? =some (some (.cells l)))(a:PE h l l0):Ax h (.ref k 0) (.fp l.length (λj=>l0.getD j .any)):=
 Ax.ref hk (zBT _) λj i=>(Ue a).2 j i
def Ax.fnL {g:Nat}(a:PE h l l0):Ax h (.fn g l.length (λj=>l.getD j .any)) (.fn g l.length (λj=>l0.getD j .any)):=by
 rintro P Γ N ρ w v H ⟨m,e,o,n⟩;exact ⟨m,e,o,λj i=>let ⟨u,b,c⟩:=n j i;⟨u,b,(Ue a).2 j i P Γ N ρ w u H c⟩⟩
theorem AM.ixI (l:Ξ){n:Int}(hm:m=l.length)(h:(0:Int)<=n/\ n<((m:Nat):Int)):AM ((l.map (DV.int .i64)).getD n.toNat .any) (.int .i64 (l.getD n.toNat 0)):=by
 grind [AM.refl]
variable {o:Nat}
def AM.mslN {e:Nat}(h:n=e):AM (.msl k m o n) (.msl k m o e):=by rw [h];exact AM.refl _
def zE7:DO -> Bool
 | .ints _=>true
 | .bools _=>true
 | _=>false
variable {ds X:List DV}{f:Nat}
def ES.snapNew {o:DO}(h0:ES P Γ f X [] (.msl 0 m 0 n) [some o] true)(h:DH)(a:PE h ds X)(y:zE7 o=true):ES P Γ f ds h (.msl h.length m 0 n) (h++[some o]) true:=by
 obtain ⟨g,a⟩:=Ue a;refine ⟨h0.1,λN ρ w args HR F=>?_⟩;refine (h0.2 (λ_=>False) [] w args (Tj (λb c=>c.elim) HR.gi) ⟨by rw [g];exact F.1,λi hi=>?_⟩).mono ?_
 ·rw [g] at hi;exact AI.out _ (DK (λb c=>Rg.1 c) []) (a i hi P Γ N ρ w _ HR (F.2 i hi))
 ·rintro e w' ⟨v,rfl,⟨⟨ρ',q,s,R,g4⟩,D⟩⟩;have H:=D rfl;obtain ⟨p,d,r⟩:=q.obj 0 o rfl;have O: ∀ b,p.foot b -> w.heap.size<=b:=λb c=>(R.grow b ⟨0,o,p,rfl,d,c⟩).resolve_left λ⟨k,o',p',z,_⟩=>by simp at z
  obtain ⟨p',cap,L,B,A,S,C⟩:=s;have Z:p'=p:=zA2 (L.symm.trans d);subst Z;refine ⟨v,rfl,⟨⟨ρ++[p'],HR.snoc H (λb c=>⟨O b c,(q.cel 0 o p' b rfl d c).2.2⟩) ?_,⟨p',cap,by rw [←HR.len];simp,B,A,S,C⟩,A3.snoc HR H O,λ_ _ h=>Ef h⟩,D⟩⟩;cases o with
  | ints l=>exact AY.out r rfl λj u _ t=>t
  | bools l=>exact AY.out r rfl λj u _ t=>t
  | cells l=>cases y
  | arr m n f=>cases y
  | gro m n f=>cases y
  | iter encs=>cases y
  | mo x=>cases y
  | ro l=>cases y
def oh : ∀ {ds:List DV},ds.all GK=true -> PE h ds ds
 | [],_=>trivial
 | d::ds,v=>by
  simp only [zPm,zAD] at v;exact ⟨Ax.plain v.1,oh v.2⟩
variable {l':List DV}
def AM.aggL (z:m=l.length)(h:Jg l l'):AM (.agg m (λj=>l.getD j .any)) (.agg m (λj=>l'.getD j .any)):=by
 subst z;rintro M w ρ v ⟨cs,e,a,n⟩;exact ⟨cs,e,a,λj i=>let ⟨u,b,c⟩:=n j i;⟨u,b,(Uh h).2 j i M w ρ u c⟩⟩
def AM.tupL (z:m=l.length)(h:Jg l l'):AM (.tup m (λj=>l.getD j .any)) (.tup m (λj=>l'.getD j .any)):=by
 subst z;rintro M w ρ v ⟨cs,e,a,n⟩;exact ⟨cs,e,a,λj i=>let ⟨u,b,c⟩:=n j i;⟨u,b,(Uh h).2 j i M w ρ u c⟩⟩
def ES.argsLe {d:DV}{ext:Bool}(h0:ES P Γ f X h d h' ext)(v:Jg ds X):ES P Γ f ds h d h' ext:=by
 obtain ⟨o,v⟩:=Uh v;exact ⟨h0.1,λN ρ w args HR F=>h0.2 N ρ w args HR ⟨by rw [←o];exact F.1,λi hi=>v i Z2 _ _ _ _ (F.2 i Z2)⟩⟩
variable {b:Nat}
def AM.mse_msl (h:0<n)(e:n=b):AM (.mse k m o n) (.msl k m o b):=by
 subst e;rintro M w ρ v ⟨p,a,cap,f,rfl,c,d,g⟩;obtain ⟨rfl,A⟩:=g Z2;exact ⟨p,cap,f,rfl,c,d,A⟩
def AM.mse_nil (h:n=0):AM (.mse k m o n) (.ints []):=by
 subst h;rintro M w ρ v ⟨p,a,cap,hp,rfl,h1,h2,h3⟩;exact ⟨a,cap,rfl,zJs _,zJs _,λj i=>absurd i (zA6 j)⟩
theorem bT (h:(n==0)=false):0<n:=by
 grind
def Ns (k off a:Nat):DV -> DV
 | .msl F m o n=>if F=k/\ m=1/\ o=off then .msl a 1 0 n else .msl F m o n
 | d=>d
def tF (k off:Nat)(S:St):Option (St×List Prop):=match S.h.getD k none with
 | some (.ints l)=>some (⟨S.fr.map (Ns k off S.h.length),S.h.set k none++[some (.ints (l.drop off))]⟩,[off<=l.length])
 | _=>none
theorem A7.rootE (k off:Nat)(S':St)(vs:List Prop)(h:tF k off S=some (S',vs))(s:BX vs):A7 L S S':=λP Γ N ρ a w R=>by
 unfold tF at h;split at h
 ·rename_i l x;cases h;have s:=s.1;have hk:=getD_some x;obtain ⟨p,f,d⟩:=R.hr.obj k _ hk;have d:AY w p l.length _:=d;obtain ⟨y,cs,t,z,c2,E,c4⟩:=d
  let p':AK:={ p with off:=p.off+off }
  obtain ⟨A,u⟩:=R.hr.regrow (o':=.ints (l.drop off)) (p':=p') hk f (AS.refl _ _) (λb c=>⟨.inl c,(R.hr.cel k _ p b hk f c).2.2⟩) (by
   refine ⟨y,cs,t,z,?_,E,λj hj=>?_⟩
   ·simp only [List.length_drop,p'];omega
   grind)
  have O:BL (MS N S.h ρ) w ρ (MS N (S.h.set k none++[some (.ints (l.drop off))]) (ρ++[p'])) w (ρ++[p']):=⟨λ_ _ _ _=>rfl,λb c=>c.elim (λh=>.inl (.inl h)) λh=>(u.grow b h).imp .inr id,λ_ _ h=>Ef h⟩;refine ⟨ρ++[p'],⟨A,by simp [R.fr.1],λi hi=>?_⟩,u,λ_ _ _ h=>Ef h⟩;have U:i<S.fr.length:=by simpa using hi
  have e:(S.fr.map (Ns k off S.h.length)).getD i .any=Ns k off S.h.length (S.fr.getD i .any):=by simp [U]
  show AI _ w ((S.fr.map (Ns k off S.h.length)).getD i .any) _ _
  rw [e];have r0:=R.fr.2 i U;cases v:S.fr.getD i .any with
  | msl F m o n=>
   rw [v] at r0
   by_cases g:F=k/\ m=1/\ o=off
   ·have r:Ns k off S.h.length (.msl F m o n)= .msl S.h.length 1 0 n:=by simp only [Ns,zAE g]
    rw [r];obtain ⟨B,C,D⟩:=g;rw [B,C,D] at r0;obtain ⟨q,cap,Q,G,H,T,u3⟩:=r0;have I:q=p:=zA2 (Q.symm.trans f);subst I;exact ⟨p',cap,by rw [←R.hr.len];simp,by rw [G];simp [p'],H,T,by simp only [p'];omega⟩
   ·have r:Ns k off S.h.length (.msl F m o n)= .msl F m o n:=by simp only [Ns,zEO g]
    rw [r];exact AI.out _ O r0
  | _=>rw [v] at r0;exact AI.out _ O r0
 ·cases h
def AM.msl_mse :AM (.msl k m o n) (.mse k m o n):=λ_ _ _ _ ⟨p,cap,f,s,a,b,h⟩=>⟨p,_,cap,f,s,a,b,λ_=>⟨rfl,h⟩⟩
def QL (k q:Nat):DV -> DV
 | .msl F m o n=>if F=k then .msl q m o n else .msl F m o n
 | .mse F m o n=>if F=k then .mse q m o n else .mse F m o n
 | .gr F=>if F=k then .gr q else .gr F
 | d=>d
def mapOb (g:DV -> DV):Option DO -> Option DO
 | some (.cells l)=>some (.cells (l.map g))
 | some (.ro l)=>some (.ro (l.map g))
 | o=>o
def wA (k:Nat)(S:St):Option St:=match S.h.getD k none with
 | some o=>some ⟨S.fr.map (QL k S.h.length),(S.h.set k none++[some o]).map (mapOb (QL k S.h.length))⟩
 | none=>none
variable {g:DV -> DV}
def WZ {o':DO}(hk:(h.map (mapOb g))[k]? =some (some o')): ∃ o,h[k]? =some (some o)/\ mapOb g (some o)=some o':=by
 rw [zKG] at hk;cases d:h[k]? with
 | none=>rw [d] at hk;cases hk
 | some x=>
  rw [d] at hk;have hk:mapOb g x=some o':=zA2 hk;cases x with
  | none=>cases hk
  | some o=>exact ⟨o,rfl,hk⟩
variable {ρ:List AK}
def MO.mapOb :MO (h.map (mapOb g)) ρ b↔MO h ρ b:=by
 constructor
 ·rintro ⟨k,o',p,a,c,d⟩;obtain ⟨o,e,_⟩:=WZ a;exact ⟨k,o,p,e,c,d⟩
 ·rintro ⟨k,o,p,a,c,d⟩;cases o with
  | cells l=>exact ⟨k,.cells (l.map g),p,by rw [zKG,a];rfl,c,d⟩
  | _=>exact ⟨k,_,p,by rw [zKG,a];rfl,c,d⟩
theorem As.mapCells {N:Ψ}{w:World}(H:As P Γ N h ρ w)(hg: ∀ d u,AI (MS N h ρ) w d ρ u -> AI (MS N h ρ) w (g d) ρ u):As P Γ N (h.map (mapOb g)) ρ w:=by
 have Y: ∀ b,MS N (h.map (mapOb g)) ρ b -> MS N h ρ b:=λb e=>e.imp id MO.mapOb.1
 refine ⟨by rw [H.len];simp,λk o' hk=>?_,λk o' p b i a q=>?_,λk v o1 o2 C F b K i a q A y B=>?_,H.nlt,H.gi⟩
 ·obtain ⟨o,i,a⟩:=WZ hk;obtain ⟨p,D,c⟩:=H.obj k o i;refine ⟨p,D,?_⟩;have O:BL (MS N h ρ) w ρ (MS N (h.map (mapOb g)) ρ) w ρ:=⟨λ_ _ _ _=>rfl,λb e=>.inl (Y b e),λ_ _ h=>h⟩;cases o with
  | cells l=>
   cases a
   show AY w p (l.map g).length _
   rw [zJu];refine AY.out c rfl λj u E t=>?_
   grind [AI.out]
  | ints l=>cases a;exact AY.out c rfl λj u _ t=>t
  | bools l=>cases a;exact AY.out c rfl λj u _ t=>t
  | arr m n f=>cases a;exact AY.out c rfl λj u _ t=>AI.out _ O.nil t
  | gro m n f=>cases a;exact BT.gr c (λ_=>rfl) λt=>AI.out _ O.nil t
  | iter encs=>
   cases a;obtain ⟨G,I,Rd,J,L,s,M⟩:=c;exact ⟨G,I,Rd,J,L,λb e=>⟨λz=>(s b e).1 (Y b z),(s b e).2⟩,M⟩
  | ro l=>
   cases a;obtain ⟨Q,U,R⟩:=c;refine ⟨Q,λz=>U (Y _ z),?_⟩
   show AY w _ (l.map g).length _
   rw [zJu];refine AY.out R rfl λj u E t=>?_
   grind [AI.out]
  | mo x=>cases a;exact c
 ·obtain ⟨o,r,_⟩:=WZ i;exact H.cel k o p b r a q
 ·obtain ⟨o,r,_⟩:=WZ i;obtain ⟨o',S,_⟩:=WZ a;exact H.dis k v o o' C F b K r S q A y B
def yY (g:DO)(x:Option Nat)(j:Nat)(S:St):Option St:=match x with
 | none=>match S.fr.getD j .any with
  | .nils=>some ⟨S.fr.set j (.gr S.h.length),S.h++[some g]⟩
  | _=>none
 | some k=>match S.h.getD k none with
  | some (.cells l)=>match l.getD j .any with
   | .nils=>some ⟨S.fr,S.h.set k (some (.cells (l.set j (.gr S.h.length))))++[some g]⟩
   | _=>none
  | _=>none
theorem A7.groE {g:DO}(n: ∃ m f,g= .gro m 0 f)(x:Option Nat)(j:Nat)(S':St)(r:Nat.ble L S.h.length=true)(h:yY g x j S=some S'):A7 L S S':=λP Γ N ρ a w R=>by
 let q:AK:=⟨0,0,0,.slice none 0 0,λ_=>False⟩
 have G:=R.hr.len;have H:=R.hr.snoc (Az.refl w) (p:=q) (o:=g) (λb c=>c.elim) (by obtain ⟨m,f,rfl⟩:=n;exact Or.inl ⟨rfl,rfl,rfl⟩);have O:BL (MS N S.h ρ) w ρ (MS N (S.h++[some g]) (ρ++[q])) w (ρ++[q]):=BL.snoc R.hr (Az.refl w) λb c=>c.elim
 have st:A3 S.h ρ w (S.h++[some g]) (ρ++[q]) w:=A3.snoc R.hr (Az.refl w) λb c=>c.elim
 have z:B0 L ρ (ρ++[q]):=λk hk=>by
  have:=zJr r
  grind
 have y: ∀ {M:Ψ} {v:Value},AI M w .nils ρ v -> AI M w (.gr S.h.length) (ρ++[q]) v:=λ{M v} s=>⟨q,_,_,_,by rw [←G];simp,s,s⟩
 have fr:=R.fr.out O;unfold yY at h;split at h
 ·split at h
  ·rename_i d;cases h;refine ⟨ρ++[q],⟨H,by simpa using fr.1,λi hi=>?_⟩,st,z⟩;have hi:i<S.fr.length:=by simpa using hi
   by_cases e:j=i
   ·subst e;have:=R.fr.2 j hi;rw [d] at this;simpa [hi] using y (AI.out _ (M':=MS N (S.h++[some g]) (ρ++[q])) ⟨O.blk,O.m,λ_ _ h=>h⟩ this)
   ·simpa [zMD,e] using fr.2 i hi
  ·cases h
 ·rename_i k;split at h
  ·rename_i l hk;split at h
   ·rename_i d;cases h;have hk:=getD_some hk;have A:(S.h++[some g])[k]? =some (some (.cells l)):=Z4
    have B:=(zJ0.1 hk).1;have es:S.h.set k (some (.cells (l.set j (.gr S.h.length))))++[some g]=(S.h++[some g]).set k (some (.cells (l.set j (.gr S.h.length)))):=by rw [List.set_append_left _ _ B]
    rw [es]
    obtain ⟨R',C⟩:=Db.objR (S:=⟨S.fr,S.h++[some g]⟩) (o':=.cells (l.set j (.gr S.h.length))) (a:=a) ⟨H,fr⟩ A λp hp D=>by
     show AY w p (l.set j (.gr S.h.length)).length _
     rw [zJy];refine AY.out D rfl λi u hi t=>?_
     by_cases e:j=i
     ·subst e;rw [d] at t;have e:(l.set j (.gr S.h.length)).getD j .any= .gr S.h.length:=by simp [hi]
      rw [e];exact ⟨q,_,_,_,by rw [←G];simp,t,t⟩
     ·have e:(l.set j (.gr S.h.length)).getD i .any=l.getD i .any:=by simp [zMD,e]
      rw [e];exact t
    exact ⟨ρ++[q],R',st.trans C,z⟩
   ·cases h
  ·cases h
def A7.moveE (k:Nat)(S':St)(h:wA k S=some S'):A7 L S S':=λP Γ N ρ a w R=>by
 unfold wA at h;split at h
 ·rename_i o t;cases h;have hk:=getD_some t;obtain ⟨p,f,x⟩:=R.hr.obj k _ hk;have E: ∀ (i:Nat) (q:AK),ρ[i]? =some q -> (ρ++[p])[i]? =some q:=λ_ _ h=>Ef h
  have O:=R.hr.regrowO (o':=o) (p':=p) hk f (AS.refl _ _) λb c=>.inl c
  obtain ⟨y,l⟩:=R.hr.regrow (o':=o) (p':=p) hk f (AS.refl _ _) (λb c=>⟨.inl c,(R.hr.cel k _ p b hk f c).2.2⟩) (x.out O (S:=λ_=>False) (AS.refl _ _) (λ_ h=>h.elim) λ_ _ _ h=>h);have Q:(ρ++[p])[S.h.length]? =some p:=by rw [←R.hr.len];simp
  have s: ∀ {M:Ψ} (d:DV) (u:Value),AI M w d (ρ++[p]) u -> AI M w (QL k S.h.length d) (ρ++[p]) u:=λ{M} d u v=>by
   unfold QL;split
   ·rename_i F m o n;split
    ·rename_i e;obtain ⟨q,cap,j,r⟩:=v;subst e;have:q=p:=zA2 (j.symm.trans (E _ _ f));subst this;exact ⟨q,cap,Q,r⟩
    ·exact v
   ·rename_i F m o n;split
    ·rename_i e;obtain ⟨q,a0,cap,j,r⟩:=v;subst e;have:q=p:=zA2 (j.symm.trans (E _ _ f));subst this;exact ⟨q,a0,cap,Q,r⟩
    ·exact v
   ·rename_i F;split
    ·rename_i e;obtain ⟨q,a0,n,cap,j,r⟩:=v;subst e;have:q=p:=zA2 (j.symm.trans (E _ _ f));subst this;exact ⟨q,a0,n,cap,Q,r⟩
    ·exact v
   ·exact v
  have z:=y.mapCells (g:=QL k S.h.length) λd u=>s d u
  have Y: ∀ b,MS N ((S.h.set k none++[some o]).map (mapOb (QL k S.h.length))) (ρ++[p]) b -> MS N (S.h.set k none++[some o]) (ρ++[p]) b:=λb c=>c.imp id MO.mapOb.1
  have A:BL (MS N (S.h.set k none++[some o]) (ρ++[p])) w (ρ++[p]) (MS N ((S.h.set k none++[some o]).map (mapOb (QL k S.h.length))) (ρ++[p])) w (ρ++[p]):=⟨λ_ _ _ _=>rfl,λb c=>.inl (Y b c),λ_ _ h=>h⟩;exact ⟨ρ++[p],⟨z,((R.fr.out O).map λd u=>s d u).out A⟩,⟨l.upd,λb c=>l.grow b (MO.mapOb.1 c)⟩,λ_ _ _ h=>Ef h⟩
 ·cases h
end
end
abbrev zMa:=@List.getElem?_drop
section
def DI (σ:Θ)(b k:Nat):Nat:=if k<σ.length then σ.getD k 0 else b+(k-σ.length)
def up (σ:Θ)(b:Nat):DV -> DV
 | .ref k j=>.ref (DI σ b k) j
 | .msl k m o n=>.msl (DI σ b k) m o n
 | .mse k m o n=>.mse (DI σ b k) m o n
 | .gr k=>.gr (DI σ b k)
 | .mri k i=>.mri (DI σ b k) i
 | .mp k m i j=>.mp (DI σ b k) m i j
 | .it k=>.it (DI σ b k)
 | .agg m f=>.agg m (GD m λj=>up σ b (f j))
 | .tup m f=>.tup m (GD m λj=>up σ b (f j))
 | .fn g m c=>.fn g m (GD m λj=>up σ b (c j))
 | d=>d
def C0 (σ:Θ)(b:Nat):Option DO -> Option DO
 | some (.cells l)=>some (.cells (l.map (up σ b)))
 | some (.ro l)=>some (.ro (l.map (up σ b)))
 | o=>o
def DZ (H:DH)(σ:Θ)(h':DH):DH:=((List.range H.length).map λk=>match EW σ k with
 | some i=>C0 σ H.length (h'.getD i none)
 | none=>H.getD k none)++(h'.drop σ.length).map (C0 σ H.length)
variable {σ:Θ}
theorem Sh (hn:σ.Nodup){i k:Nat}(h:σ[i]? =some k):EW σ k=some i:=by
 induction σ generalizing i with
 | nil=>simp at h
 | cons x σ ih=>
  unfold EW
  grind
theorem Rx {b:Nat}{x:Option DO}{o:DO}(h:C0 σ b x=some o): ∃ o0,x=some o0:=by
 cases x with
 | none=>cases h
 | some o0=>exact ⟨o0,rfl⟩
section
variable {P:Program} {Γ:Ay}
variable {ρ ρ':List AK}{b:Nat}{w:World}{M M':Ψ}
theorem gX {σ:Θ}(Y: ∀ b,M' b -> M b)(q: ∀ (k:Nat) (p:AK),ρ[k]? =some p -> ρ'[DI σ b k]? =some p): ∀ (d:DV) {v:Value},AI M w d ρ v -> AI M' w (up σ b d) ρ' v:=by
 have low: ∀ (d:DV) {v:Value},AI M w d [] v -> AI M' w d [] v:=λd v h=>h.out d (DK Y [])
 intro d
 induction d with
 | any=>intro v _;trivial
 | nils=>intro v h;exact h
 | int k n=>intro v h;exact h
 | bool b=>intro v h;exact h
 | str s=>intro v h;exact h
 | ints l=>grind [AI,up]
 | bools l=>grind [AI,up]
 | sl m n f _=>grind [AI,up]
 | fp m f _=>grind [AI,up]
 | agg m f t=>
  grind [K5,AI,up]
 | tup m f t=>
  grind [K5,AI,up]
 | fn g m c t=>
  grind [K5,AI,up]
 | ref k j=>grind [AI,up]
 | msl k m o n=>grind [AI,up]
 | mp k m i j=>grind [AI,up]
 | it k=>grind [AI,up]
 | cst u=>intro v h;exact h
 | yl l=>intro v h;exact h
 | mse k m o n=>rintro v ⟨p,a,cap,e,r⟩;exact ⟨p,a,cap,q k p e,r⟩
 | gr k=>rintro v ⟨p,a,n,cap,e,r⟩;exact ⟨p,a,n,cap,q k p e,r⟩
 | mri k i=>rintro v ⟨p,vs,e,r⟩;exact ⟨p,vs,q k p e,r⟩
theorem eS {σ:Θ}(Y: ∀ b,M' b -> M b)(q: ∀ (k:Nat) (p:AK),ρ[DI σ b k]? =some p -> ρ'[k]? =some p): ∀ (d:DV) {v:Value},AI M w (up σ b d) ρ v -> AI M' w d ρ' v:=by
 have low: ∀ (d:DV) {v:Value},AI M w d [] v -> AI M' w d [] v:=λd v h=>h.out d (DK Y [])
 have unt: ∀ {m j:Nat} {f:Nat -> DV} {u:Value},j<m -> AI M w (GD m f j) ρ u -> AI M w (f j) ρ u:=λx h=>by rw [gx x] at h;exact h
 intro d
 induction d with
 | any=>intro v _;trivial
 | nils=>intro v h;exact h
 | int k n=>intro v h;exact h
 | bool b=>intro v h;exact h
 | str s=>intro v h;exact h
 | ints l=>grind [AI,up]
 | bools l=>grind [AI,up]
 | sl m n f _=>grind [AI,up]
 | fp m f _=>grind [AI,up]
 | agg m f t=>
  grind [AI,up]
 | tup m f t=>
  grind [AI,up]
 | fn g m c t=>
  grind [AI,up]
 | ref k j=>grind [AI,up]
 | msl k m o n=>grind [AI,up]
 | mp k m i j=>grind [AI,up]
 | it k=>grind [AI,up]
 | cst u=>intro v h;exact h
 | yl l=>intro v h;exact h
 | mse k m o n=>rintro v ⟨p,a,cap,e,r⟩;exact ⟨p,a,cap,q k p e,r⟩
 | gr k=>rintro v ⟨p,a,n,cap,e,r⟩;exact ⟨p,a,n,cap,q k p e,r⟩
 | mri k i=>rintro v ⟨p,vs,e,r⟩;exact ⟨p,vs,q k p e,r⟩
variable {o o':DO}{p:AK}
theorem zBe {σ:Θ}(Y: ∀ b,M' b -> M b)(hρ: ∀ (k:Nat) (p:AK),ρ[k]? =some p -> ρ'[DI σ b k]? =some p)(y:C0 σ b (some o)=some o')(h:BT P M w ρ p o):BT P M' w ρ' p o':=by
 cases o with
 | cells l=>
  cases y
  show AY w p (l.map (up σ b)).length _
  rw [zJu];refine AY.out h rfl λj u i t=>?_
  grind [gX]
 | ints l=>grind [BT,C0]
 | bools l=>grind [BT,C0]
 | arr m n f=>cases y;exact AY.out h rfl λj u _ t=>AI.out _ (DK Y []) t
 | gro m n f=>cases y;exact BT.gr h (λ_=>rfl) λt=>AI.out _ (DK Y []) t
 | iter encs=>
  grind [BT,C0]
 | ro l=>
  cases y;obtain ⟨r,U,a⟩:=h;refine ⟨r,λz=>U (Y _ z),?_⟩;rw [zJu];refine AY.out a rfl λj u i t=>?_
  grind [gX]
 | mo x=>cases y;exact h
theorem zT {σ:Θ}(Y: ∀ b,M' b -> M b)(hρ: ∀ (k:Nat) (p:AK),ρ[DI σ b k]? =some p -> ρ'[k]? =some p)(y:C0 σ b (some o)=some o')(h:BT P M w ρ p o'):BT P M' w ρ' p o:=by
 cases o with
 | cells l=>
  cases y;have h:AY w p (l.map (up σ b)).length _:=h;rw [zJu] at h;refine AY.out h rfl λj u i t=>?_
  grind [eS]
 | ints l=>grind [BT,C0]
 | bools l=>grind [BT,C0]
 | arr m n f=>cases y;exact AY.out h rfl λj u _ t=>AI.out _ (DK Y []) t
 | gro m n f=>cases y;exact BT.gr h (λ_=>rfl) λt=>AI.out _ (DK Y []) t
 | iter encs=>
  grind [BT,C0]
 | ro l=>
  cases y;obtain ⟨r,U,a⟩:=h;refine ⟨r,λz=>U (Y _ z),?_⟩;have h:AY w _ (l.map (up σ b)).length _:=a;rw [zJu] at h;refine AY.out h rfl λj u i t=>?_
  grind [eS]
 | mo x=>cases y;exact h
variable {ext:Bool}{h' h:DH}{d:DV}{ds:List DV}{f:Nat}
theorem ES.embedX (E8:ES P Γ f ds h d h' ext)(σ:Θ)(H:DH)(X:σ.Nodup)(Ab: ∀ k∈σ,k<H.length)(hl:σ.length=h.length)(De:h.length<=h'.length) 
 (hh:(σ.map λk=>H.getD k none)=h.map (C0 σ H.length)):(∃ fn,P.funcs[f]? =some fn/\ fn.name≠ "runtime.NumGoroutine" /\ fn.body.isSome=true)/\
 ∀ (N:Ψ) (ρ:List AK) (w:World) (args:Array Value),As P Γ N H ρ w -> BB (MS N H ρ) w ρ (ds.map (up σ H.length)) args ->
  Calls P f args w λe w'=>∃ v,e= .returned v/\ B8 P Γ N H ρ w ext (up σ H.length d) (DZ H σ h') v w'/\ AS (λb=>∃ i o p,i∈σ/\ H[i]? =some (some o)/\ ρ[i]? =some p/\ p.foot b) w w':=by
 refine ⟨E8.1,λN ρ w args HR CN=>?_⟩;obtain ⟨ρ0,lA⟩: ∃ ρ0,ρ0=σ.map λk=>ρ.getD k kI:=⟨_,rfl⟩
 have kY:ρ0.length=σ.length:=by rw [lA];simp
 have Q: ∀ {i k:Nat},σ[i]? =some k -> ρ0[i]? =ρ[k]? :=λ{i k} hk=>by
  have Fw:k<ρ.length:=by rw [HR.len];exact Ab k (zJ1 hk)
  grind
 have re: ∀ {i:Nat},i<σ.length -> ∃ k,σ[i]? =some k/\ DI σ H.length i=k:=λ{i} hi=>by
  simp_all [DI]
 have I: ∀ {i:Nat} {o:DO},h[i]? =some (some o) -> ∃ k o',σ[i]? =some k/\ H[k]? =some (some o')/\ C0 σ H.length (some o)=some o':=λ{i o} hi=>by
  have e:=congrArg (·[i]?) hh;have F: ∃ o',C0 σ H.length (some o)=some o':=by cases o <;> exact ⟨_,rfl⟩
  grind
 have zH1: ∀ {i k:Nat} {o':DO},σ[i]? =some k -> H[k]? =some (some o') -> ∃ o,h[i]? =some (some o)/\ C0 σ H.length (some o)=some o':=λ{i k o'} hk ho=>by
  have e:=congrArg (·[i]?) hh
  grind [Rx]
 obtain ⟨n,dt⟩: ∃ n:Ψ,n=λb=>N b∨∃ k o p,EW σ k=none/\ H[k]? =some (some o)/\ ρ[k]? =some p/\ p.foot b:=⟨_,rfl⟩
 have S: ∀ b,MO h ρ0 b -> MO H ρ b:=by
  grind [MO]
 have kJ: ∀ b,MS n h ρ0 b -> MS N H ρ b:=by
  grind [MS,MO]
 have ms1: ∀ b,MS N H ρ b -> MS n h ρ0 b:=by
  rintro b (a | ⟨k,o,p,g,r,R⟩)
  ·grind [MS]
  ·cases hk:EW σ k with
   | none=>exact .inl Z4
   | some i=>
    have hi:=J4 hk
    grind [MS,MO]
 have dn: ∀ (k:Nat) (p:AK),ρ[DI σ H.length k]? =some p -> ρ0[k]? =some p:=λk p j=>by
  by_cases hk:k<σ.length
  ·grind
  ·unfold DI at j;rw [zEO hk] at j;have:=(zJ0.1 j).1;rw [HR.len] at this;omega
 have foreign: ∀ {b:Nat},n b -> ¬ MO h ρ0 b:=by
  rintro b a ⟨i,o,p,g,r,R⟩;obtain ⟨k,o',B,F,_⟩:=I g;have j:=(Q B).symm.trans r;rw [dt] at a;rcases a with a | ⟨J,T,A,q,s,l,K⟩
  ·exact (HR.cel k o' p b F j R).2.1 a
  ·refine HR.dis k J o' T p A b ?_ F s j l R K;rintro rfl;rw [Sh X B] at q;cases q
 have H0:As P Γ n h ρ0 w:=by
  refine ⟨by rw [kY,hl],λi o hi=>?_,λi o p b g r R=>?_,λi U o1 T L A b Ah g r R g4 Y g6=>?_,λb a=>HR.lt2 (kJ b (.inl a)),HR.gi⟩
  ·obtain ⟨k,o',B,F,e3⟩:=I hi;obtain ⟨p,j,Z⟩:=HR.obj k o' F
   grind [zT]
  ·obtain ⟨k,o',B,F,e3⟩:=I g;obtain ⟨q,s,l⟩:=HR.cel k o' p b F ((Q B).symm.trans r) R
   grind [MO]
  ·obtain ⟨k,o',B,F,e3⟩:=I g;obtain ⟨J,j9,UG,Xx,e3'⟩:=I r;refine HR.dis k J o' j9 L A b ?_ F Xx ((Q B).symm.trans R) ((Q UG).symm.trans g4) Y g6;have m:=Sh X B;have u:=Sh X UG
   grind
 refine (E8.2 n ρ0 w args H0 ⟨by rw [←CN.1];simp,λi hi=>?_⟩).mono ?_
 ·grind [eS,ES,BB]
 ·rintro e w' ⟨v,rfl,⟨⟨ρ1,g,r,R,g4⟩,Y⟩⟩;have l1:ρ1.length=h'.length:=g.len;obtain ⟨ρ',V⟩: ∃ ρ',ρ'=ρ++ρ1.drop σ.length:=⟨_,rfl⟩
  have at1: ∀ {i k:Nat},σ[i]? =some k -> ρ1[i]? =ρ[k]? :=λ{i k} hk=>by
   grind
  have Mf: ∀ {k:Nat},k<H.length -> ρ'[k]? =ρ[k]? :=λ{k} hk=>by rw [V,zLT (by rw [HR.len];exact hk)]
  have gV: ∀ (k:Nat) (p:AK),ρ1[k]? =some p -> ρ'[DI σ H.length k]? =some p:=λk p j=>by
   by_cases hk:k<σ.length
   ·grind
   ·unfold DI;rw [zEO hk,V,zJx (by rw [HR.len];omega),zMa,HR.len]
    simp_all
  have kX:(DZ H σ h').length=H.length+(h'.length-σ.length):=by simp [DZ]
  have C: ∀ {k:Nat} {o':DO},(DZ H σ h')[k]? =some (some o') -> (k<H.length/\ EW σ k=none/\ H[k]? =some (some o')/\ ρ'[k]? =ρ[k]?)∨∃ i o,h'[i]? =some (some o)/\ C0 σ H.length (some o)=some o'/\ ρ'[k]? =ρ1[i]? /\ k=DI σ H.length i:=by
   intro k o' hk
   by_cases FT:k<H.length
   ·unfold DZ at hk;rw [zLT (by simpa using FT),zKG,List.getElem?_range FT] at hk;simp only [zLo,zJw] at hk;split at hk
    ·grind [J4,Rx,DI]
    grind
   ·unfold DZ at hk;rw [zJx Z7,zKG,zMa] at hk;simp only [zJu,zPs] at hk;cases D:h'[σ.length+(k-H.length)]? with
    | none=>rw [D] at hk;cases hk
    | some x=>
     rw [D] at hk;have hk:C0 σ H.length x=some o':=zA2 hk;obtain ⟨o0,e0⟩:=Rx hk;subst e0;refine .inr ⟨σ.length+(k-H.length),o0,D,hk,?_,?_⟩
     ·rw [V,zJx (by rw [HR.len];omega),zMa,HR.len]
     simp_all [DI,zEO]
  have back: ∀ {k:Nat} {o:DO},EW σ k=none -> H[k]? =some (some o) -> (DZ H σ h')[k]? =some (some o):=by
   grind [DZ]
  have msE: ∀ b,MS N (DZ H σ h') ρ' b -> MS n h' ρ1 b:=by
   rintro b (a | ⟨k,o',p,q,s,l⟩)
   ·grind [MS]
   grind [MS,MO]
  have M: ∀ b,MO (DZ H σ h') ρ' b -> MO H ρ b∨w.heap.size<=b:=by
   rintro b ⟨k,o',p,q,s,l⟩;rcases C q with ⟨m,u,a3,a4⟩ | ⟨i,o,m,u,a3,a4⟩
   ·exact .inl ⟨k,o',p,a3,a4.symm.trans s,l⟩
   ·exact (R.grow b ⟨i,o,p,m,a3.symm.trans s,l⟩).imp (S b) id
  have pl: ∀ (k:Nat) (p:AK),ρ[k]? =some p -> ρ'[k]? =some p:=λk p j=>by
   grind
  have O:BL (MS N H ρ) w ρ (MS N (DZ H σ h') ρ') w' ρ':=
   ⟨λb a hm _=>R.upd.block b a λD=>hm (.inr (S b D)),λb a=>a.elim (λa=>.inl (.inl a)) (λa=>(M b a).imp .inr id),pl⟩
  refine ⟨v,rfl,⟨⟨ρ',⟨?_,λk o' hk=>?_,λk o' p b q s l=>?_,λk J o1 T L A b Ah q s l K q5 q6=>?_,λb a=>⟨zCD (HR.nlt b a).1 R.upd.size,(HR.nlt b a).2⟩,g.gi⟩,gX msE gV _ r,⟨R.upd.mono λb _ a=>S b a,M⟩,pl⟩,Y⟩,R.upd.mono λb _ ⟨i,o,p,q,s,l⟩=>?_⟩
  ·rw [kX,V];simp [HR.len,l1]
  ·rcases C hk with ⟨m,u,a3,a4⟩ | ⟨i,o,m,u,a3,a4⟩
   ·obtain ⟨p,j,Z⟩:=HR.obj k o' a3;refine ⟨p,a4.trans j,Z.out O R.upd (λb a=>.inr (S b a)) λb _ hf hs=>?_⟩
    grind
   ·obtain ⟨p,j,Z⟩:=g.obj i o m
    grind [zBe]
  ·rcases C q with ⟨m,u,a3,a4⟩ | ⟨i,o,m,u,a3,a4⟩
   ·have j:=a4.symm.trans s;obtain ⟨y,G,c,t,z,E⟩:=HR.cel k o' p b a3 j l;refine ⟨y,G,c,t,z,(R.upd.block b (zA0.1 E).1 λD=>?_).trans E⟩
    grind
   ·obtain ⟨y,G,E⟩:=g.cel i o p b m (a3.symm.trans s) l
    grind
  ·rcases C q with ⟨m,u,a3,a4⟩ | ⟨i,o,m,u,a3,a4⟩
   ·rcases C s with ⟨y,G,E,W⟩ | ⟨U,o',y,G,E,W⟩
    ·exact HR.dis k J o1 T L A b Ah a3 E (a4.symm.trans l) (W.symm.trans K) q5 q6
    ·exact (g.cel U o' A b y (E.symm.trans K) q6).2.1 Z4
   ·rcases C s with ⟨y,G,E,W⟩ | ⟨U,o',y,G,E,W⟩
    ·exact (g.cel i o L b m (a3.symm.trans l) q5).2.1 Z4
    ·refine g.dis i U o o' L A b ?_ m y (a3.symm.trans l) (E.symm.trans K) q5 q6
     grind
  grind
def ES.embed (a:ES P Γ f ds h d h' ext)(σ:Θ)(H:DH)(u:σ.Nodup)(A: ∀ k∈σ,k<H.length)(o:σ.length=h.length)(Y:h.length<=h'.length) 
 (W:(σ.map λk=>H.getD k none)=h.map (C0 σ H.length)):ES P Γ f (ds.map (up σ H.length)) H (up σ H.length d) (DZ H σ h') ext:=
 let ⟨b,c⟩:=a.embedX σ H u A o Y W
 ⟨b,λN ρ w args HR K=>(c N ρ w args HR K).mono λ_ _ ⟨v,e,g,_⟩=>⟨v,e,g⟩⟩
def O6 (σ:Θ)(n l l':Nat):Bool:=decide σ.Nodup&&σ.all (λk=>decide (k<n))&&decide (σ.length=l)&&decide (l<=l')
def ES.embedB (v:ES P Γ f ds h d h' ext)(σ:Θ)(H:DH)(c:O6 σ H.length h.length h'.length=true)(W:(σ.map λk=>H.getD k none)=h.map (C0 σ H.length)) 
 {n:List DV} {q:DV} {B:DH} (e:(ds.map (up σ H.length),up σ H.length d,DZ H σ h')=(n,q,B)):ES P Γ f n H q B ext:=by
 simp only [O6,zAD,zJ4,zBk] at c;cases e;exact v.embed σ H c.1.1.1 (λk hk=>c.1.1.2 k hk) c.1.2 c.2 W
end
end
end Go.Proofs.YtodinaconebmdaaGreatDoor
