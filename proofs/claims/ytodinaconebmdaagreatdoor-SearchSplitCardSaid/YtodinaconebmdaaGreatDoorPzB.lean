/- Part 2 of 8 of what the proofs of these laws stand on. -/
import Derived.Test.YtodinaconebmdaaGreatDoorPzA
import Derived.MapKept
import Derived.Test.YtodinaconebmdaaGreatDoorProg
import Derived.Shelf.Spec.TrailingZeros
set_option linter.all false
namespace Go.Proofs.YtodinaconebmdaaGreatDoor
open Go.RowKit
abbrev zIF:=@List.mem_append
abbrev zIv:=@Go.MapKept.run_getObj_map
abbrev zJQ:=@bne_iff_ne
abbrev zMe:=@List.not_mem_nil
abbrev zMk:=@Go.MapKept.run_setObj_map
abbrev zNB:=@Go.MapKept.run_findKey
abbrev zNP:=@List.Perm.refl
abbrev zNQ:=@List.nodup_append
abbrev zNf:=@List.nodup_cons
abbrev zNj:=@List.nodup_nil
section
def Vt (P:Program)(t:TypeId):Bool:=match P.underlying t with
 | some (.int .i64)=>true
 | _=>false
theorem sX {P:Program}{t:TypeId}(h:Vt P t=true):P.underlying t=some (.int .i64):=by
 grind [Vt]
def He (P:Program)(t:TypeId):Option Nat:=match P.underlying t with
 | some (.int .i64)=>some 1
 | some (.struct m)=>match m.toList with
  | [f,g]=>if f.name != "_" &&g.name != "_" &&decide (f.offset=0)&&decide (g.offset=1)&&Vt P f.type&&Vt P g.type&&!P.stoodInHeld t then some 2 else none
  | _=>none
 | _=>none
section
variable {P:Program} {w:World} {t:TypeId}
variable {n:Nat}
theorem SU (h:He P t=some n):(n=1/\ P.underlying t=some (.int .i64))∨∃ f g m,n=2/\ P.underlying t=some (.struct m)/\ m.toList= [f,g]/\ f.name≠ "_" /\ g.name≠ "_" /\ f.offset=0/\ g.offset=1/\ P.underlying f.type=some (.int .i64)/\ P.underlying g.type=some (.int .i64)/\ P.stoodInHeld t=false:=by
 unfold He at h;split at h
 ·grind
 ·rename_i m hu;split at h
  ·rename_i f g hf;split at h
   ·rename_i l;simp only [zEh,zJQ,ne_eq,zHx,zGr] at l
    grind [sX]
   ·cases h
  ·cases h
 ·cases h
def Ut {t:TypeId}(h:P.underlying t=some (.int .i64))(cs:Array Value)(o:Nat)(v:Value)(hv:cs[o]? =some v):(part t cs o).run P w= .ok v w:=by
 simp_all [part,Uv,JC]
variable {x:Ξ}
def aM (h:x.length=2): ∃ a b,x= [a,b]:=by
 match x,h with
 | [a,b],_=>exact ⟨a,b,rfl⟩
def Pj (h:x.length=1): ∃ a,x= [a]:=by
 match x,h with
 | [a],_=>exact ⟨a,rfl⟩
def SS (hk:He P t=some n)(c:x.length=n)(e:Bool):(Instr.checkKey e 10000 t (Bb x)).run P w= .ok () w:=by
 rcases SU hk with ⟨rfl,q⟩ | ⟨f,g,fs,rfl,q,M,n1,n2,o1,o2,s,V,_⟩
 ·obtain ⟨a,rfl⟩:=Pj c;exact MapKept.run_checkKey q (by trivial) e 9999
 ·obtain ⟨a,b,rfl⟩:=aM c
  show (Instr.checkKey e (9999+1) t (.agg #[.int .i64 a,.int .i64 b])).run P w=_
  unfold Instr.checkKey;have c1: ∀ a,(Instr.checkKey e 9999 f.type (.int .i64 a)).run P w= .ok () w:=λa=>MapKept.run_checkKey s (by trivial) e 9998
  have c2: ∀ a,(Instr.checkKey e 9999 g.type (.int .i64 a)).run P w= .ok () w:=λa=>MapKept.run_checkKey V (by trivial) e 9998
  simp only [zGu,zGs q,Result.andThen];rw [←Array.forIn_toList,M]
  simp_all [Ut]
def zFi (hk:He P t=some n){y:Ξ}(e:x.length=n)(hy:y.length=n):(Op.equal t (Bb x) (Bb y)).run P w= .ok (x==y) w:=by
 rcases SU hk with ⟨rfl,q⟩ | ⟨f,g,m,rfl,q,M,h,i,o1,F,s,V,j⟩
 ·obtain ⟨a,rfl⟩:=Pj e;obtain ⟨b,rfl⟩:=Pj hy
  show (Op.equalIn (9999+1) t (.int .i64 a) (.int .i64 b)).run P w=_
  simp_all [zNE]
 ·obtain ⟨a,b,rfl⟩:=aM e;obtain ⟨c,d,rfl⟩:=aM hy;have Q:P.fieldsOf t=m:=by unfold Program.fieldsOf;rw [q]
  show (Op.equalIn (9999+1) t (.agg #[.int .i64 a,.int .i64 b]) (.agg #[.int .i64 c,.int .i64 d])).run P w=_
  rw [run_equalIn_struct w 9999 t _ _ (by rw [Q];exact q) j,Q,M];have k: ∀ a c:Int,(Op.equalIn 9999 f.type (.int .i64 a) (.int .i64 c)).run P w= .ok (a==c) w:=λa c=>zNE w 9998 f.type .i64 .i64 a c s
  have z: ∀ a c:Int,(Op.equalIn 9999 g.type (.int .i64 a) (.int .i64 c)).run P w= .ok (a==c) w:=λa c=>zNE w 9998 g.type .i64 .i64 a c V
  simp only [Op.eqFields,h,i,ne_eq,not_false_eq_true,zI6,o1,F,zGu];rw [Ut s _ 0 (.int .i64 a) rfl];simp only [Result.andThen];rw [Ut s _ 0 (.int .i64 c) rfl];simp only [Result.andThen,k,Sem.run_ite]
  by_cases l:a=c
  ·subst l;simp only [beq_self_eq_true,zIA,zIp,zMy,zGu];rw [Ut V _ 1 (.int .i64 b) rfl];simp only [Result.andThen];rw [Ut V _ 1 (.int .i64 d) rfl];simp only [Result.andThen,z,Sem.run_ite]
   by_cases o:b=d
   ·subst o;simp
   simp_all
  simp_all
def zFh (hk:He P t=some n)(m:x.length=n){W:KS}(Fd: ∀ y∈W,y.length=n){es:List MapEntry}(J: ∀ e∈es,∃ y∈W,e.key=Bb y):
 ((Instr.findKey t (Bb x) es).run P w= .ok none w/\ ∀ e∈es,e.key≠Bb x)∨∃ j e,(Instr.findKey t (Bb x) es).run P w= .ok (some (j,e.val)) w/\ es[j]? =some e/\ e.key=Bb x:=by
 have ask: ∀ (es:List MapEntry) (i:Nat),(∀ e∈es,∃ y∈W,e.key=Bb y) -> ((Instr.findAsking t (Bb x) es i).run P w= .ok none w/\ ∀ e∈es,e.key≠Bb x)∨∃ j e,(Instr.findAsking t (Bb x) es i).run P w= .ok (some (i+j,e.val)) w/\ es[j]? =some e/\ e.key=Bb x:=by
  intro es
  induction es with
  | nil=>intro i _;exact .inl ⟨rfl,λe J=>by cases J⟩
  | cons e es U=>
   intro i J;obtain ⟨y,hy,h⟩:=J e (by simp);have c:(Op.equal t (Bb x) e.key).run P w= .ok (x==y) w:=by rw [h];exact zFi hk m (Fd y hy)
   by_cases G:x=y
   ·subst G;exact .inr ⟨0,e,by simp [Instr.findAsking,c,Result.andThen],rfl,h⟩
   ·have M:(x==y)=false:=by simp [G]
    rcases U (i+1) (λe LS=>J e (by simp [LS])) with ⟨o,s⟩ | ⟨j,R,o,s,O⟩
    ·refine .inl ⟨by simp [Instr.findAsking,c,M,Result.andThen,o],λR LS=>?_⟩;rcases zIq.1 LS with rfl | LS
     ·grind [sS]
     ·exact s R LS
    ·exact .inr ⟨j+1,R,by simp [Instr.findAsking,c,M,Result.andThen,o];omega,by simpa using s,O⟩
 rcases SU hk with ⟨rfl,q⟩ | ⟨f,g,fs,rfl,q,_⟩
 ·obtain ⟨a,rfl⟩:=Pj m
  rcases MapKept.findNow_spec (d:=.int .i64) (k:=.int .i64 a) (by trivial) es 0 (λe v=>by
   obtain ⟨y,hy,h⟩:=J e v;obtain ⟨b,rfl⟩:=Pj (Fd y hy);rw [h];trivial) with ⟨c,l⟩ | ⟨j,e,c,l,p⟩
  ·exact .inl ⟨zNB q c,l⟩
  ·exact .inr ⟨j,e,by have:=zNB (w:=w) q c;rw [zGw] at this;exact this,l,p⟩
 ·have hn: ∀ es:List MapEntry,(∀ e∈es,∃ y∈W,e.key=Bb y) -> (Instr.findKey t (Bb x) es).run P w=(match es with | []=>.ok none w | _=>(Instr.findAsking t (Bb x) es 0).run P w):=λes J=>by
   cases es with
   | nil=>simp [Instr.findKey,zGs q,Instr.findNow,Result.andThen]
   | cons e es=>
    simp_all [Instr.findNow,Instr.sameNow,Instr.findKey,zGs]
  grind
def zFg (hk:He P t=some n)(e:x.length=n):(Instr.keyThatStays (Bb x) (Bb x)).run P w= .ok (Bb x) w:=by
 rcases SU hk with ⟨rfl,q⟩ | ⟨f,g,fs,rfl,q,_⟩
 ·obtain ⟨a,rfl⟩:=Pj e;exact MapKept.run_keyThatStays (d:=.int .i64) (by trivial)
 ·obtain ⟨a,b,rfl⟩:=aM e
  simp_all [Instr.sameBits,Bb,Instr.keyThatStays]
end
/-! ### Sets in order-/
def sA:Ξ -> Ξ -> Bool
 | _,[]=>false
 | [],_::_=>true
 | a::r,b::s=>decide (a<b)||(a==b&&sA r s)
def aR (x:Ξ):KS -> KS
 | []=>[x]
 | y::r=>if sA x y then x::y::r else y::aR x r
def Cm (x:Ξ)(l:KS):KS:=if l.contains x then l else aR x l
theorem sZ (x:Ξ): ∀ l:KS,(aR x l).Perm (x::l)
 | []=>zNP _
 | y::r=>by
  unfold aR;split
  ·exact zNP _
  ·exact ((sZ x r).cons y).trans (List.Perm.swap x y r)
variable {l:KS}{x:Ξ}
theorem qW (h:x∈l):Cm x l=l:=by unfold Cm;simp [h]
theorem fX (h:x∉l):(Cm x l).Perm (x::l):=by grind [Cm,sZ]
def PX {y:Ξ}:y∈Cm x l↔y=x∨y∈l:=by
 grind [qW,fX]
section
variable {P:Program} {w:World} {b n:Nat} {l:KS} {es:Array MapEntry} {Ak:Nat}
def Fi.key (h:Fi w b n l es Ak): ∀ e∈es.toList,∃ y∈l,e.key=Bb y:=λe J=>by
 have:e.key∈es.toList.map (·.key):=zIH.2 ⟨e,J,rfl⟩;obtain ⟨y,a,c⟩:=zIH.1 (h.keys.mem_iff.1 this);exact ⟨y,a,c.symm⟩
def Fi.has (h:Fi w b n l es Ak){x:Ξ}:x∈l↔∃ e∈es.toList,e.key=Bb x:=by
 constructor
 ·intro d;have:Bb x∈l.map Bb:=zIH.2 ⟨x,d,rfl⟩;obtain ⟨e,a,c⟩:=zIH.1 (h.keys.mem_iff.2 this);exact ⟨e,a,c⟩
 ·rintro ⟨e,a,c⟩;obtain ⟨y,h3,h4⟩:=h.key e a
  grind [sS]
def Fi.find (h:Fi w b n l es Ak){t:TypeId}(hk:He P t=some n){x:Ξ}(c:x.length=n):
 (x∉l/\ (Instr.findKey t (Bb x) es.toList).run P w= .ok none w)∨(x∈l/\ ∃ j e,(Instr.findKey t (Bb x) es.toList).run P w= .ok (some (j,.bool true)) w/\ es[j]? =some e/\ e.key=Bb x/\ e.val= .bool true):=by
 rcases zFh (w:=w) hk c h.len h.key with ⟨d,a⟩ | ⟨j,e,d,a,f⟩
 ·exact .inl ⟨λc=>by obtain ⟨e,o,s⟩:=h.has.1 c;exact a e o s,d⟩
 ·have v:e∈es.toList:=zHw a;have p:=h.tru e v;exact .inr ⟨h.has.2 ⟨e,v,f⟩,j,e,by rw [←p];exact d,by simpa using a,f,p⟩
def UD {w:World}{b:Nat}(o:Obj):AQ (λk=>k=b) w { w with heap:=w.heap.setIfInBounds b o }:=
 ⟨rfl,rfl,rfl,by simp,λk _ D=>by simp [Ne.symm D]⟩
variable {mt:TypeId}
def Fi.put (h:Fi w b n l es Ak){p r:TypeId}(v:P.underlying mt=some (.map p r))(hk:He P p=some n){x:Ξ}(d:x.length=n):
 ∃ w' s Z,(Instr.mapUpdate mt (.map (some b)) (Bb x) (.bool true)).run P w= .ok () w'/\ AQ (λk=>k=b) w w'/\ Fi w' b n (Cm x l) s Z:=by
 have q:b<w.heap.size:=(zGI.1 h.blk).1;rcases h.find hk d with ⟨f,g⟩ | ⟨f,j,e,g,m,A,t⟩
 ·refine ⟨{ w with heap:=w.heap.setIfInBounds b (.map (es.push { key:=Bb x,val:=.bool true,born:=Ak }) (Ak+1)) },es.push { key:=Bb x,val:=.bool true,born:=Ak },Ak+1,?_,UD _,?_⟩
  ·simp [Instr.mapUpdate,zGs v,zIv h.blk,SS hk d,g,zMk _ h.blk,Result.andThen]
  ·refine ⟨by simp [q],?_,((fX f).nodup_iff).2 (zNf.2 ⟨f,h.nd⟩),λy hy=>?_,λe J=>?_,λe J=>?_,?_⟩
   ·have o:((es.push { key:=Bb x,val:=.bool true,born:=Ak }).toList.map (·.key))=es.toList.map (·.key)++[Bb x]:=by simp
    rw [o];refine (List.perm_append_comm).trans ?_
    show (Bb x::es.toList.map (·.key)).Perm _
    exact (h.keys.cons (Bb x)).trans (((fX f).map Bb).symm)
   ·rcases PX.1 hy with rfl | hy
    ·exact d
    ·exact h.len y hy
   ·simp only [Array.toList_push,zIF,zGh] at J;rcases J with J | rfl
    ·exact h.tru e J
    ·rfl
   ·simp only [Array.toList_push,zIF,zGh] at J;rcases J with J | rfl
    ·exact Nat.lt_succ_of_lt (h.born e J)
    ·exact Nat.lt_succ_self _
   ·have o:((es.push { key:=Bb x,val:=.bool true,born:=Ak }).toList.map (·.born))=es.toList.map (·.born)++[Ak]:=by simp
    rw [o];refine zNQ.2 ⟨h.stamps,by simp,λa D c u=>?_⟩;obtain ⟨e,z,g2⟩:=zIH.1 D;have:=h.born e z;simp at u;omega
 ·have hj:j<es.size:=(zGI.1 m).1
  have H:(es.modify j λe=>{ e with key:=Bb x,val:=.bool true })=es:=by
   apply Array.ext_getElem?;intro i;rw [zMv];split
   ·rename_i Y;subst Y;rw [m]
    show some ({ e with key:=Bb x,val:=.bool true }:MapEntry)=some e
    rw [←A,←t]
   ·rfl
  refine ⟨{ w with heap:=w.heap.setIfInBounds b (.map es Ak) },es,Ak,?_,UD _,?_⟩
  ·have Fd:((es[j]?).map (·.key)).getD (Bb x)=Bb x:=by rw [m];exact A
   simp [Instr.mapUpdate,zGs v,zIv h.blk,SS hk d,g,Fd,zFg hk d,zMk _ h.blk,Result.andThen,H]
  ·rw [qW f];exact { h with blk:=by simp [q] }
def Fi.look (h:Fi w b n l es Ak){g f:TypeId}(v:P.underlying mt=some (.map g f))(hk:He P g=some n){x:Ξ}(c:x.length=n)(i:(zeroValue f).run P w= .ok (.bool false) w):
 (Instr.lookup mt (.map (some b)) (Bb x) false).run P w= .ok (.bool (l.contains x)) w:=by
 rcases h.find hk c with ⟨a,d⟩ | ⟨a,j,e,d,h3,h4,h5⟩
 ·have:l.contains x=false:=by simpa using a
  simp [Instr.lookup,zGs v,zIv h.blk,SS hk c,d,i,Result.andThen,this,a]
 ·have:l.contains x=true:=by simpa using a
  simp [Instr.lookup,zGs v,zIv h.blk,SS hk c,d,Result.andThen,this,a]
end
/-! ### On m4 view-/
def aC (lk:Option (Nat×Nat×Array MapEntry×Nat))(i:Nat):Prop:=∀ y,lk=some y -> y.1≠i
section
variable {P:Program} {w w':World} {p:AI} {n:Nat} {ls:List (Option KS)} {lk:Option (Nat×Nat×Array MapEntry×Nat)} {vs:Array Value}
variable {b:Nat}
def Fu.lies (h:Fu w p n ls lk vs)(c:p.foot b):EG w b:=by
 rcases h.foot b c with rfl | ⟨j,l,d,a⟩
 ·obtain ⟨cs,t,e,_⟩:=h.row;exact .cells e
 ·obtain ⟨f,o,_,_,es,Ak,s,_⟩:=h.has j l d;have:f=b:=by rw [o] at a;cases a;rfl
  subst this;exact ⟨_,rfl,(),s.blk⟩
def Fu.put (h:Fu w p n ls lk vs){i:Nat}{l l':KS}{es:Array MapEntry}{Ak:Nat}(hi:ls[i]? =some (some l))(c:vs[i]? =some (Value.map (some b)))(q:AQ (λk=>k=b) w w')(v:Fi w' b n l' es Ak)(I:aC lk i):Fu w' p n (ls.set i (some l')) lk vs:=by
 have J9:i<ls.length:=(zGe.1 hi).1;obtain ⟨a,o,s,O,_⟩:=h.has i l hi;have:a=b:=by rw [o] at c;cases c;rfl
 subst this
 have get: ∀ {j:Nat} {x:Option KS},(ls.set i (some l'))[j]? =some x -> (j=i/\ x=some l')∨(j≠i/\ ls[j]? =some x):=λ{j x} d=>by
  grind
 refine ⟨h.val,by simp [h.size],?_,h.blk,λj S d=>?_,λj d=>?_,λg m=>?_,h.inj⟩
 ·obtain ⟨cs,t,A,Z⟩:=h.row;exact ⟨cs,t,(q.block _ (zGI.1 A).1 (λe=>s e.symm)).trans A,by simpa using Z⟩
 ·rcases get d with ⟨rfl,e⟩ | ⟨D,d⟩
  ·cases e;exact ⟨a,c,s,O,es,Ak,v,λy hy e=>absurd e (I y hy)⟩
  ·obtain ⟨r,A,Z,u,z,B,f,C⟩:=h.has j S d;refine ⟨r,A,Z,u,z,B,f.out (q.block _ (zGI.1 f.blk).1 λe=>D ?_),C⟩;subst e;exact h.inj j i r A c
 ·rcases get d with ⟨rfl,e⟩ | ⟨D,d⟩
  ·cases e
  ·exact h.nil j d
 ·rcases h.foot g m with e | ⟨j,S,A,Z⟩
  ·exact .inl e
  grind
end
def aN (n:Nat)(d:DV):Option Ξ:=match d with
 | .int .i64 a=>if n=1 then some [a] else none
 | .agg m f=>if m=n/\ n≠1 then if (List.range m).all λj=>JA (f j) then some ((List.range m).map λj=>Hy (f j)) else none else none
 | _=>none
def iC (n:Nat)(x:Ξ):DV:=if n=1 then .int .i64 (x.getD 0 0) else .agg n (HL n λj=>.int .i64 (x.getD j 0))
section
variable {P:Program} {w:World} {ρ:List AI} {M:Ψ}
def sT {x:Ξ}(h:x.length≠1):Bb x= .agg (x.map λa=>.int .i64 a).toArray:=by
 unfold Bb;split
 ·simp at h
 ·rfl
variable {n:Nat}
def sU {d:DV}{x:Ξ}{v:Value}(h:aN n d=some x)(i:AJ M w d ρ v):v=Bb x/\ x.length=n:=by
 unfold aN at h;split at h
 ·split at h
  ·cases h;exact ⟨i,by simp;omega⟩
  ·cases h
 ·rename_i m f;split at h
  ·rename_i b;split at h
   ·rename_i ha;cases h;have a:((List.range m).map λj=>Hy (f j)).length=m:=by simp
    refine ⟨?_,by rw [a];exact b.1⟩;obtain ⟨cs,rfl,hs,hc⟩:=i;rw [sT (by rw [a];omega)]
    congr 1
    apply Array.ext_getElem?
    grind [aP]
   ·cases h
  ·cases h
 ·cases h
def zFj {x:Ξ}(h:x.length=n):AJ M w (iC n x) ρ (Bb x):=by
 unfold iC;split
 ·rename_i e;subst e;obtain ⟨a,rfl⟩:=Pj h;rfl
 ·rename_i e;rw [sT (by omega)];refine ⟨_,rfl,by simp [h],λj d=>?_⟩;rw [X3 d];have b:j<x.length:=by omega
  exact ⟨.int .i64 (x.getD j 0),by simp [b],rfl⟩
end
def be:Nat -> DH -> Option (Nat×Nat×List (Option KS)×Nat×Nat×Array MapEntry×Nat)
 | _,[]=>none
 | k,some (.mo (.sets n ls (some y)))::_=>some (k,n,ls,y)
 | k,_::r=>be (k+1) r
variable {n:Nat}
def zJk {ls:List (Option KS)}{y:Nat×Nat×Array MapEntry×Nat}{k:Nat}: ∀ (h:DH) (S:Nat),be S h=some (k,n,ls,y) -> S<=k/\ h[k-S]? =some (some (.mo (.sets n ls (some y)))):=by
 intro h
 induction h with
 | nil=>intro S e;cases e
 | cons x r ih=>
  intro S e
  have step:be (S+1) r=some (k,n,ls,y) -> S<=k/\ (x::r)[k-S]? =some (some (.mo (.sets n ls (some y)))):=λe=>by
   grind
  match x,e with
  | none,e=>exact step e
  | some (.cells _),e=>exact step e
  | some (.ints _),e=>exact step e
  | some (.bools _),e=>exact step e
  | some (.arr _ _ _),e=>exact step e
  | some (.iter _),e=>exact step e
  | some (.ro _),e=>exact step e
  | some (.mo (.set _ _)),e=>exact step e
  | some (.mo (.mit _ _ _ _ _ _)),e=>exact step e
  | some (.mo (.rows _ _)),e=>exact step e
  | some (.mo (.rws _ _)),e=>exact step e
  | some (.mo (.sets _ _ none)),e=>exact step e
  | some (.mo (.sets _ _ (some _))),e=>cases e;exact ⟨zGT _,by simp⟩
def PZ (P:Program)(t:TypeId):Option (Nat×TypeId):=match P.underlying t with
 | some (.map k e)=>match He P k with
  | some n=>match P.info? e with
   | some i=>match i.zero with
    | some (.bool false)=>some (n,k)
    | _=>none
   | none=>none
  | none=>none
 | _=>none
def gY {P:Program}{t k:TypeId}(h:PZ P t=some (n,k)): ∃ e,P.underlying t=some (.map k e)/\ He P k=some n/\ ∀ w,(zeroValue e).run P w= .ok (.bool false) w:=by
 unfold PZ at h;split at h
 ·rename_i k' e hu;split at h
  ·rename_i n' hk;split at h
   ·rename_i i hi;split at h
    ·simp_all [zeroValue,typeInfo]
    ·cases h
   ·cases h
  ·cases h
 ·cases h
def ZJ (P:Program)(S:St)(t:TypeId)(m k x:DV):Option (DV×DH×List Prop×Bool):=match PZ P t with
 | some (n,_)=>match aN n k,x with
  | some x,.bool true=>match m with
   | .it j=>match S.h[j]? with
    | some (some (.mo (.set W l)))=>if W=n then some (.any,S.h.set j (some (.mo (.set n (Cm x l)))),[],false) else none
    | _=>none
   | .mri j i=>match S.h[j]? with
    | some (some (.mo (.sets W ls lk)))=>if W=n then some (.any,S.h.set j (some (.mo (.sets n (ls.set i (some (Cm x ((ls.getD i none).getD [])))) lk))),[(ls.getD i none).isSome=true,aC lk i],false) else none
    | _=>none
   | _=>none
  | _,_=>none
 | none=>none
def gZ (P:Program)(S:St):Op -> Option (DV×DH×List Prop×Bool)
 | .makeMap t none=>match PZ P t with
  | some (n,_)=>some (.it S.h.length,S.h++[some (.mo (.set n []))],[],true)
  | none=>none
 | .mapUpdate t m k x=>ZJ P S t (AZ S.fr m) (AZ S.fr k) (AZ S.fr x)
 | .insert t m k x=>ZJ P S t (AZ S.fr m) (AZ S.fr k) (AZ S.fr x)
 | .lookup t m k false=>match PZ P t with
  | some (n,_)=>match aN n (AZ S.fr k) with
   | some x=>match AZ S.fr m with
    | .it j=>match S.h[j]? with
     | some (some (.mo (.set W l)))=>if W=n then some (.bool (l.contains x),S.h,[],true) else none
     | _=>none
    | .mri j i=>match S.h[j]? with
     | some (some (.mo (.sets W ls _)))=>if W=n then some (.bool (((ls.getD i none).getD []).contains x),S.h,[(ls.getD i none).isSome=true],true) else none
     | _=>none
    | _=>none
   | none=>none
  | none=>none
 | .range t m=>match PZ P t with
  | some (n,_)=>match AZ S.fr m with
   | .mri j i=>match S.h[j]? with
    | some (some (.mo (.sets W ls (some (v,Q,es,Ak)))))=>if W=n then some (.it S.h.length,S.h++[some (.mo (.mit n Q es Ak ((ls.getD i none).getD []) none))],[(ls.getD i none).isSome=true,v=i],true) else none
    | _=>none
   | _=>none
  | none=>none
 | .entry m=>match AZ S.fr m with
  | .it j=>match S.h[j]? with
   | some (some (.mo (.mit n Q es Ak _ (some x))))=>match be 0 S.h with
    | some (_,_,ls,i,D,a,Z)=>some (.tup 2 (HL 2 λc=>if c=0 then iC n x else .bool true),S.h,[(ls.getD i none).isSome=true,D=Q,a=es,Z=Ak],true)
    | none=>none
   | _=>none
  | _=>none
 | _=>none
section
variable {P:Program} {Γ:Au} {N:Ψ} {S:St} {ρ:List AI} {a:Act} {w:World}
variable {i:Nat}{ls:List (Option KS)}
def Wb (h:(ls.getD i none).isSome=true):ls[i]? =some (some ((ls.getD i none).getD [])):=by
 rw [zGH] at h ⊢;cases e:ls[i]? with
 | none=>rw [e] at h;cases h
 | some x=>
  rw [e] at h;cases x with
  | none=>cases h
  | some l=>simp
variable {v:Value}{j:Nat}
def eE (R:AS P Γ N S ρ a w){n:Nat}{l:KS}(hk:S.h[j]? =some (some (.mo (.set n l))))(c:AJ (MS N S.h ρ) w (.it j) ρ v): ∃ p es Ak,ρ[j]? =some p/\ v= .map (some p.blk)/\ p.foot=(λb=>b=p.blk)/\ p.val=Value.map (some p.blk)/\ Fi w p.blk n l es Ak:=by
 obtain ⟨p,hp,rfl⟩:=c;obtain ⟨p',BG,h1,h2,es,Ak,h3⟩:=R.hr.obj j _ hk
 grind
def eD (R:AS P Γ N S ρ a w){n:Nat}{lk:Option (Nat×Nat×Array MapEntry×Nat)}(hk:S.h[j]? =some (some (.mo (.sets n ls lk))))(d:AJ (MS N S.h ρ) w (.mri j i) ρ v)(e:(ls.getD i none).isSome=true):
 ∃ p vs b es Ak,ρ[j]? =some p/\ Fu w p n ls lk vs/\ v= .map (some b)/\ vs[i]? =some (Value.map (some b))/\ p.foot b/\ Fi w b n ((ls.getD i none).getD []) es Ak/\ ∀ y,lk=some y -> y.1=i -> y.2=(b,es,Ak):=by
 obtain ⟨p,vs,g,B,Do⟩:=d;obtain ⟨p',U,f,c⟩:=R.hr.obj j _ hk;have:p'=p:=zGJ (U.symm.trans g);subst this;have:f=vs:=by have:=c.val.symm.trans B;cases this;rfl
 subst this;obtain ⟨b,g1,g2,g3,es,Ak,g4,g5⟩:=c.has i _ (Wb e)
 grind
variable {d:DV}
def eN (R:AS P Γ N S ρ a w)(p:AJ (MS N S.h ρ) w d ρ v):CC P Γ N S.h ρ w true d S.h v w:=⟨⟨ρ,R.hr,p,A3.refl _ _ _,λ_ _ h=>h⟩,λ_=>A0.refl w⟩
def Wa (H:Aq P Γ N S.h ρ w){ob:Obj}(l:tq ob=true){pl:AI}(G7:pl.foot=λb=>b=w.heap.size){o:DO}(x: ∀ M ρ',EF P M (w.alloc ob) ρ' pl o) 
 (c: ∀ M ρ',ρ'[S.h.length]? =some pl -> AJ M (w.alloc ob) d ρ' v) (ext:Bool):CC P Γ N S.h ρ w ext d (S.h++[some o]) v (w.alloc ob):=by
 have C:A0 w (w.alloc ob):=(A0.refl w).allocR _;have a: ∀ b,pl.foot b -> w.heap.size<=b:=λb e=>by grind
 have e:(w.alloc ob).heap[w.heap.size]? =some ob:=zMR w _;refine ⟨⟨ρ++[pl],H.snoc C (λb f=>⟨a b f,ob,l,(),by grind⟩) (x _ _),?_,A3.snoc H C a,λk p hk=>Eo hk⟩,λ_=>C⟩;exact c _ _ (by rw [←H.len];simp)
variable {ext:Bool}{vs:List Prop}{h':DH}
theorem qX (R:AS P Γ N S ρ a w){t:TypeId}{m k x:Operand}(r:ZJ P S t (AZ S.fr m) (AZ S.fr k) (AZ S.fr x)=some (d,h',vs,ext))(E:Bp vs):
 ∃ w',(Instr.mapUpdate t (a.eval m) (a.eval k) (a.eval x)).run P w= .ok () w'/\ CC P Γ N S.h ρ w ext d h' undef w':=by
 have F:=BW R m;have G:=BW R k;have rx:=BW R x;unfold ZJ at r;split at r
 ·rename_i n kt H;obtain ⟨e,z,hk,hz⟩:=gY H;split at r
  ·rename_i xs J K;obtain ⟨L,el⟩:=sU J G;rw [K] at rx;have V:a.eval x= .bool true:=rx;rw [L,V];split at r
   ·rename_i j Y;split at r
    ·rename_i W l I;split at r
     ·rename_i u;cases r;subst u;rw [Y] at F;obtain ⟨p,es,Ak,g,T,v,M,A⟩:=eE R I F;rw [T];obtain ⟨w',B,Z,y,o,q⟩:=A.put z hk el;have f:AQ p.foot w w':=by rw [v];exact o
      refine ⟨w',y,⟨ρ,R.hr.write I g f (λb s=>?_) ⟨M,v,B,Z,q⟩,trivial,A3.write I g f,λ_ _ h=>h⟩,λh=>by cases h⟩;rw [v] at s;exact ⟨_,rfl,(),by rw [show b=p.blk from s];exact q.blk⟩
     ·cases r
    ·cases r
   ·rename_i j i Y;split at r
    ·rename_i W ls lk I;split at r
     ·rename_i u;cases r;subst u;obtain ⟨C,O,_⟩:=E;rw [Y] at F;obtain ⟨p,vs,b,es,Ak,g,Q,T,U,X,A,_⟩:=eD R I F C;rw [T];obtain ⟨w',B,Z,y,o,q⟩:=A.put z hk el;have f:AQ p.foot w w':=o.mono λc _ hc=>by rw [show c=b from hc];exact X
      have D:=Q.put (Wb C) U o q O;exact ⟨w',y,⟨ρ,R.hr.write I g f (λb s=>D.lies s) ⟨vs,D⟩,trivial,A3.write I g f,λ_ _ h=>h⟩,λh=>by cases h⟩
     ·cases r
    ·cases r
   ·cases r
  ·cases r
 ·cases r
def zFK (es:Array MapEntry):leftOf es #[]=es:=by
 grind [leftOf,Array.filter_eq_self]
def zBz {r c a Ak:Nat}{seen:Array Nat}{es:Array MapEntry}{e:MapEntry}(hr:w.heap[r]? =some (.mapIter (some c) a seen Ak))(hs:seen.back? =some e.born)(hb:w.heap[c]? =some (.map es Ak))(J:e∈es.toList)(u:(es.toList.map (·.born)).Nodup):
 (Instr.entry (.pointer (some ⟨r,0,none⟩))).run P w= .ok (.tuple #[e.key,e.val]) w:=by
 have hf:es.find? (·.born==e.born)=some e:=by rw [←Array.find?_toList];exact find_born e es.toList u J
 simp_all [Instr.entry,getObj,Sem.run]
theorem zEn (R:AS P Γ N S ρ a w)(o:Oper)(r:gZ P S o.op=some (d,h',vs,ext))(C:Bp vs):BP P (execOp a.eval o) w (CC P Γ N S.h ρ w ext d h'):=by
 unfold gZ at r;split at r
 ·rename_i t f;split at r
  ·rename_i n V z;cases r;refine BP.value (s:=Instr.makeMap t none) (by unfold execOp;rw [f];rfl) (v:=.map (some w.heap.size)) (w':=w.alloc (.map #[] 0)) (by simp [Instr.makeMap,newObj];rfl) ?_;refine Wa (ob:=.map #[] 0) (o:=.mo (.set n [])) (d:=.it S.h.length) (v:=.map (some w.heap.size)) (pl:=⟨w.heap.size,0,0,.map (some w.heap.size),λb=>b=w.heap.size⟩) R.hr rfl rfl (λM ρ'=>⟨rfl,rfl,#[],0,⟨zMR w _,by simp,zNj,λy hy=>absurd hy zMe,λe J=>absurd J (by simp),λe J=>absurd J (by simp),by simp⟩⟩) (λM ρ' g=>⟨_,g,rfl⟩) true
  ·cases r
 ·grind [qX,BP.skip,execOp]
 ·grind [qX,BP.skip,execOp]
 ·rename_i t m k f;have F:=BW R m;have rk:=BW R k;split at r
  ·rename_i n V z;obtain ⟨e,B,hk,D⟩:=gY z;split at r
   ·rename_i xs hK;obtain ⟨X,el⟩:=sU hK rk;split at r
    ·rename_i j Y;split at r
     ·rename_i W l I;split at r
      ·rename_i u;cases r;subst u;rw [Y] at F;obtain ⟨p,es,Ak,g,T,G7,GI,A⟩:=eE R I F;exact BP.value (s:=Instr.lookup t (a.eval m) (a.eval k) false) (by unfold execOp;rw [f]) (by rw [X,T];exact A.look B hk el (D w)) (eN R rfl)
      ·cases r
     ·cases r
    ·rename_i j i Y;split at r
     ·rename_i W ls lk I;split at r
      ·rename_i u;cases r;subst u;rw [Y] at F;obtain ⟨p,vs,b,es,Ak,g,E,T,Do,Hk,A,_⟩:=eD R I F C.1;exact BP.value (s:=Instr.lookup t (a.eval m) (a.eval k) false) (by unfold execOp;rw [f]) (by rw [X,T];exact A.look B hk el (D w)) (eN R rfl)
      ·cases r
     ·cases r
    ·cases r
   ·cases r
  ·cases r
 ·rename_i t m f;have F:=BW R m;split at r
  ·rename_i n V z;obtain ⟨e,B,hk,D⟩:=gY z;split at r
   ·rename_i j i Y;split at r
    ·rename_i W ls i' Q es Ak I;split at r
     ·rename_i u;cases r;subst u;obtain ⟨G,hi,_⟩:=C;subst hi;rw [Y] at F;obtain ⟨p,vs,b,Lb,k8,g,E,T,Do,Hk,A,H⟩:=eD R I F G;have H:=H _ rfl rfl;cases H;refine BP.value (s:=Instr.range t (a.eval m)) (by unfold execOp;rw [f]) (by rw [T];exact run_range_map w t _ _ _ _ _ B A.blk) ?_;refine Wa (ob:=.mapIter (some Q) Ak #[] Ak) (o:=.mo (.mit W Q es Ak ((ls.getD i' none).getD []) none)) (d:=.it S.h.length) (v:=.pointer (some ⟨w.heap.size,0,none⟩)) (pl:=⟨w.heap.size,0,0,.pointer (some ⟨w.heap.size,0,none⟩),λb=>b=w.heap.size⟩) R.hr rfl rfl (λM ρ'=>⟨λx K=>K.elim (A.len x) (λe=>by cases e),rfl,rfl,#[],zMR w _,by rw [zFK];exact A.keys,λx K=>by cases K⟩) (λM ρ' g=>⟨_,g,rfl⟩) true
     ·cases r
    ·cases r
   ·cases r
  ·cases r
 ·rename_i m f;have F:=BW R m;split at r
  ·rename_i j Y;split at r
   ·rename_i n Q es Ak rem x I;split at r
    ·rename_i k W ls i rn Ep Fh L;cases r;obtain ⟨G,e1,e2,e3,_⟩:=C;subst e1 e2 e3;rw [Y] at F;obtain ⟨p,g,T⟩:=F;obtain ⟨p',BG,h0,h1,h2,seen,h3,h4,h5⟩:=R.hr.obj j _ I;have:p'=p:=zGJ (BG.symm.trans g);subst this;obtain ⟨e,Z,g2,g3⟩:=h5 x rfl;have L:=(zJk _ _ L).2;obtain ⟨q,hq,vs,E⟩:=R.hr.obj _ _ L;obtain ⟨b,k1,k2,k3,Lb,k8,O,U⟩:=E.has i _ (Wb G);have U:=U _ rfl rfl;cases U;refine BP.value (s:=Instr.entry (a.eval m)) (by unfold execOp;rw [f]) (by rw [T,h1];exact zBz h3 g3 O.blk Z O.stamps) (eN R ?_);refine ⟨_,rfl,rfl,λc hc=>?_⟩;rw [X3 hc,g2,O.tru e Z]
     match c,hc with
     | 0,_=>exact ⟨Bb x,rfl,zFj (h0 x (.inr rfl))⟩
     | 1,_=>exact ⟨.bool true,rfl,rfl⟩
    ·cases r
   ·cases r
  ·cases r
 ·cases r
end
end
def Z2 (P:Program)(t:TypeId):Option (Nat×TypeId×TypeInfo):=match P.underlying t with
 | some (.slice e)=>match PZ P e with
  | some (n,_)=>match P.info? e with
   | some i=>match i.zero with
    | some (.map none)=>if i.size=1/\ i.bytes<=128 then some (n,e,i) else none
    | _=>none
   | none=>none
  | none=>none
 | _=>none
def zEf {P:Program}{t e:TypeId}{n:Nat}{i:TypeInfo}(h:Z2 P t=some (n,e,i)):P.underlying t=some (.slice e)/\ P.info? e=some i/\ i.zero=some (.map none)/\ i.size=1/\ i.bytes<=128:=by
 grind [Z2]
section
variable {P:Program} {Γ:Au} {N:Ψ} {S:St} {ρ:List AI} {a:Act} {w:World} {h:DH}
variable {n:Nat}
theorem zEt (R:AS P Γ N S ρ a w){t e:TypeId}{x y:Operand}{i:TypeInfo}{f Y:IntKind}{m:Int}(p:Z2 P t=some (n,e,i))(q:AZ S.fr x= .int f m)(hy:AZ S.fr y= .int Y m) 
 (u:0<=m/\ m<=1000000000000) (o:Oper) (r:o.op= .makeSlice t x y) (ext:Bool):
 BP P (execOp a.eval o) w (CC P Γ N S.h ρ w ext (.msl S.h.length 1 0 m.toNat) (S.h++[some (.mo (.sets n (List.replicate m.toNat none) none))])):=by
 obtain ⟨A,hi,B,g,Eb⟩:=zEf p;have k:=u.1;have C:=u.2;have rx:=BW R x;have z:=BW R y;rw [q] at rx;rw [hy] at z;have J:(madeCells (Value.map none).cells (m.toNat*i.size)).size=m.toNat:=by rw [size_madeCells,g,zIS]
 have D: ∀ j,j<m.toNat -> (madeCells (Value.map none).cells (m.toNat*i.size))[j]? =some (Value.map none):=λj c=>by
  simp [madeCells,g,c,Value.cells,Nat.mod_one]
 refine BP.value (s:=Instr.makeSlice t (a.eval x) (a.eval y)) (by unfold execOp;rw [r]) (v:=.slice (some ⟨w.heap.size,0,none⟩) m.toNat m.toNat) (w':=w.alloc (.cells (madeCells (Value.map none).cells (m.toNat*i.size)) e)) ?_ ?_
 ·rw [show a.eval x=_ from rx,show a.eval y=_ from z];refine run_make w t e i _ A hi B f Y m m k (zGl _) ?_ (by omega);have:(i.bytes:Int)*m<=128*1000000000000:=Int.mul_le_mul (by omega) C k (by omega);omega
 ·generalize hC:madeCells (Value.map none).cells (m.toNat*i.size)=cs at J D ⊢
  refine Wa (ob:=.cells cs e) (o:=.mo (.sets n (List.replicate m.toNat none) none)) (d:=.msl S.h.length 1 0 m.toNat) (pl:=⟨w.heap.size,0,cs.size,.tuple (Array.replicate m.toNat (Value.map none)),λb=>b=w.heap.size⟩) R.hr rfl rfl (λM ρ'=>?_) (λM ρ' E=>⟨_,m.toNat,E,by simp,zGT _,by unfold LB;omega,by simp [J]⟩) ext;refine ⟨Array.replicate m.toNat (Value.map none),rfl,by simp,⟨cs,e,zMR w _,by simp [J],zGT _,λj c=>?_⟩,rfl,λj l c=>?_,λj c=>?_,λb F=>.inl F,λi j b h1 h2=>?_⟩
  ·grind
  ·grind
  ·grind
  grind
variable {p:AI}
def Aq.merge (H:Aq P Γ N h ρ w){w':World}{k j:Nat}{o x o':DO}{q p':AI}(jT:k≠j)(hk:h[k]? =some (some o))(m:ρ[k]? =some p)(B:h[j]? =some (some x))(L:ρ[j]? =some q)(n:AQ p.foot w w')(R: ∀ b,p'.foot b -> (p.foot b∨q.foot b)/\ EG w' b) 
 (V:EF P (MS N ((h.set k none).set j none++[some o']) (ρ++[p'])) w' (ρ++[p']) p' o'):
 Aq P Γ N ((h.set k none).set j none++[some o']) (ρ++[p']) w'/\ A3 h ρ w ((h.set k none).set j none++[some o']) (ρ++[p']) w':=by
 have C:((h.set k none).set j none).length=h.length:=by simp
 have Y: ∀ b,p.foot b -> MO h ρ b:=λb a=>⟨k,o,p,hk,m,a⟩
 have hMq: ∀ b,q.foot b -> MO h ρ b:=λb a=>⟨j,x,q,B,L,a⟩
 have E: ∀ {i:Nat} {o1:DO},((h.set k none).set j none)[i]? =some (some o1) -> i≠k/\ i≠j/\ h[i]? =some (some o1):=λ{i o1} hi=>by
  grind
 have y: ∀ {i:Nat} {o1:DO} {I:AI},((h.set k none).set j none++[some o'])[i]? =some (some o1) -> (ρ++[p'])[i]? =some I -> (i≠k/\ i≠j/\ i<h.length/\ h[i]? =some (some o1)/\ ρ[i]? =some I)∨(i=h.length/\ o1=o'/\ I=p'):=by
  intro i o1 I e d;rcases EO e with ⟨r,e⟩ | ⟨r,e⟩
  ·rw [C] at r;rcases EO d with ⟨_,d⟩ | ⟨Q,_⟩
   ·grind
   ·rw [H.len] at Q;omega
  ·rw [C] at r;rcases EO d with ⟨Q,_⟩ | ⟨_,d⟩
   ·rw [H.len] at Q;omega
   grind
 have g: ∀ b,MO ((h.set k none).set j none++[some o']) (ρ++[p']) b -> MO h ρ b:=by
  rintro b ⟨i,o1,I,e,d,l⟩;rcases y e d with ⟨_,_,_,f,s⟩ | ⟨_,_,rfl⟩
  ·exact ⟨i,o1,I,f,s,l⟩
  grind
 have O:BQ (MS N h ρ) w ρ (MS N ((h.set k none).set j none++[some o']) (ρ++[p'])) w' (ρ++[p']):=
  ⟨λb a W _=>n.block b a λF=>W (.inr (Y b F)),λb a=>.inl (a.imp id (g b)),λi q hi=>Eo hi⟩
 refine ⟨⟨by simp [H.len],λi o1 hi=>?_,λi o1 I b e d l=>?_,λi X o1 Z I p2 b D e d l h4 S T=>?_,λb a=>⟨zGS (H.nlt b a).1 n.size,(H.nlt b a).2⟩,Γ.st _ _ H.gi (n.mono λb _ a=>(H.cel k o p b hk m a).1)⟩,⟨n.mono λb _ a=>Y b a,λb a=>.inl (g b a)⟩⟩
 ·rcases EO hi with ⟨r,hi⟩ | ⟨r,hi⟩
  ·obtain ⟨e1,u,v⟩:=E hi;obtain ⟨I,U,hr⟩:=H.obj i o1 v;exact ⟨I,Eo U,hr.out O n (λb a=>.inr (Y b a)) λb _ e d=>H.dis i k o1 o I p b e1 v hk U m e d⟩
  ·cases hi;exact ⟨p',by rw [r,C,←H.len];simp,V⟩
 ·rcases y e d with ⟨D,_,_,f,s⟩ | ⟨_,_,rfl⟩
  ·obtain ⟨e1,u,c,t,z,v⟩:=H.cel i o1 I b f s l;exact ⟨e1,u,c,t,z,(n.block b (zGI.1 v).1 λF=>H.dis i k o1 o I p b D f hk s m l F).trans v⟩
  ·obtain ⟨e1,u⟩:=R b l;rcases e1 with e1 | e1
   ·obtain ⟨G,J,_⟩:=H.cel k o p b hk m e1;exact ⟨G,J,u⟩
   ·obtain ⟨G,J,_⟩:=H.cel j x q b B L e1;exact ⟨G,J,u⟩
 ·have key: ∀ {i o1 I},i≠k -> i≠j -> h[i]? =some (some o1) -> ρ[i]? =some I -> I.foot b -> p'.foot b -> False:=λ{i o1 I} D M f s A K=>by
   rcases (R b K).1 with e1 | e1
   ·exact H.dis i k o1 o I p b D f hk s m A e1
   ·exact H.dis i j o1 x I q b M f B s L A e1
  rcases y e l with ⟨jP,M,_,f,s⟩ | ⟨e1,_,rfl⟩
  ·rcases y d h4 with ⟨hne3,_,_,A,K⟩ | ⟨u,_,rfl⟩
   ·exact H.dis i X o1 Z I p2 b D f A s K S T
   ·exact key jP M f s S T
  grind
def Ni (k g:Nat):DV -> DV
 | .msl A m o n=>if A=k then .msl g m o n else .msl A m o n
 | d=>d
def dj (P:Program)(S:St)(o:Oper):Option (St×List Prop):=match o.op with
 | .store t x y=>match o.dst with
  | none=>match AZ S.fr x with
   | .mp k 1 i 0=>match AZ S.fr y with
    | .it j=>match S.h[k]? with
     | some (some (.mo (.sets n E none)))=>match S.h[j]? with
      | some (some (.mo (.set W l)))=>if W=n/\ (P.info? t).any (λi=>i.size==1)=true then some (⟨S.fr.map (Ni k S.h.length),(S.h.set k none).set j none++[some (.mo (.sets n (E.set i (some l)) none))]⟩,[i<E.length]) else none
      | _=>none
     | _=>none
    | _=>none
   | _=>none
  | some _=>none
 | _=>none
def Fu.of_map {E:List (Option KS)}{G:Option (Nat×Nat×Array MapEntry×Nat)}{vs:Array Value}(a:Fu w p n E G vs){i b:Nat}(h:vs[i]? =some (Value.map (some b))): ∃ l,E[i]? =some (some l)/\ p.foot b/\ b≠p.blk/\ ∃ es Y,Fi w b n l es Y:=by
 have hi:i<E.length:=by rw [←a.size];grind
 cases m:E[i] with
 | none=>
  have:=a.nil i (by rw [zGU hi,m]);rw [this] at h;cases h
 | some l=>
  have U:E[i]? =some (some l):=by rw [zGU hi,m]
  obtain ⟨b',g1,g2,g3,es,Y,g4,_⟩:=a.has i l U
  grind
theorem yw (R:AS P Γ N S ρ a w){o:Oper}{S':St}{vs:List Prop}(h:dj P S o=some (S',vs))(hv:Bp vs):
 BP P (execOp a.eval o) w (λv w'=>(∃ ρ',AS P Γ N S' ρ' (a.put o.dst v) w'/\ DJ S.h ρ w S'.h ρ' w')/\ ∃ k i p t x y,o.op= .store t x y/\ AZ S.fr x= .mp k 1 i 0/\ ρ[k]? =some p/\ AQ p.foot w w'):=by
 unfold dj at h;split at h
 case h_2=>cases h
 rename_i t x y ho;split at h
 case h_2=>cases h
 rename_i jk;split at h
 case h_2=>cases h
 rename_i k i hX;split at h
 case h_2=>cases h
 rename_i j hY;split at h
 case h_2=>cases h
 rename_i n E G;split at h
 case h_2=>cases h
 rename_i Y l hJ;split at h
 case isFalse=>cases h
 rename_i H;cases h;obtain ⟨Z,K⟩:=H;subst Z;have hi:i<E.length:=hv.1;have rx:=BW R x;have ry:=BW R y;rw [hX] at rx;rw [hY] at ry;obtain ⟨p,r,ex⟩:=rx;obtain ⟨q,es,Ak,hq,ey,hqf,hqv,hA⟩:=eE R hJ ry;obtain ⟨p',BG,L,f⟩:=R.hr.obj k _ G;have:p'=p:=zGJ (BG.symm.trans r);subst this;have jT:k≠j:=λe=>by subst e;rw [G] at hJ;cases hJ
 obtain ⟨cs,ty,d,Hi,Cb,FO⟩:=f.row;cases MN:P.info? t with
 | none=>rw [MN] at K;cases K
 | some ti=>
 rw [MN] at K;have SZ:ti.size=1:=by simpa using K
 have hisz:i<L.size:=by rw [f.size];exact hi
 have i6: ∀ b,p'.foot b -> b≠q.blk:=λb d e=>R.hr.dis k j _ _ p' q b jT G hJ r hq d (by rw [hqf];exact e)
 have ka:a.eval x= .pointer (some ⟨p'.blk,p'.off+i,none⟩):=by rw [ex];simp
 have BH:w.cell? ⟨p'.blk,p'.off+i,none⟩=some L[i]:=by
  grind [World.cell?]
 have Hj: ∀ jj,w.frozen? ⟨p'.blk,jj,none⟩=false:=λjj=>by unfold World.frozen?;simp [d]
 have M:AQ p'.foot w (w.setCells p'.blk (p'.off+i) (a.eval y).cells.toList):=(RD _ _ _ _).mono λb _ e=>by rw [show b=p'.blk from e];exact f.blk
 refine BP.skip (s:=Instr.storeAt t (a.eval x) (a.eval y)) (by unfold execOp;rw [ho]) (w':=w.setCells p'.blk (p'.off+i) (a.eval y).cells.toList) ?_ ?_
 ·rw [ka];refine eo MN (by rw [ey,SZ];rfl) (λjj bA=>?_) Hj (λu hu=>?_)
  ·simp_all [Value.cells]
  ·rw [ey] at hu;have:u= .map (some q.blk):=by simpa [Value.cells] using hu
   subst this;rfl
 ·rw [jk];rw [ey] at M ⊢;have eC:(Value.map (some q.blk)).cells.toList= [Value.map (some q.blk)]:=rfl;rw [eC] at M ⊢;obtain ⟨Fg,e1,A,e3⟩:=Ss p'.blk ty (0,0) [Value.map (some q.blk)] (p'.off+i) w cs d (by simp;omega)
  generalize hW:w.setCells p'.blk (p'.off+i) [Value.map (some q.blk)]=W at M e1 ⊢
  have Bn: ∀ {b ob},b≠p'.blk -> w.heap[b]? =some ob -> W.heap[b]? =some ob:=λ{b ob} Q Dq=>by
   rw [←Dq,←hW];exact (RD p'.blk [Value.map (some q.blk)] (p'.off+i) w).block b (zGI.1 Dq).1 Q
  have qV:q.blk≠p'.blk:=λe=>i6 p'.blk f.blk e.symm
  let B:=L.setIfInBounds i (Value.map (some q.blk))
  have C: ∀ m:Nat,B[m]? =if i=m then some (Value.map (some q.blk)) else L[m]? :=λm=>by
   grind
  let p2:AI:=⟨p'.blk,p'.off,p'.room,.tuple B,λb=>b=p'.blk∨∃ m:Nat,B[m]? =some (Value.map (some b))⟩
  have sC: ∀ {m:Nat} {z:Option KS},(E.set i (some l))[m]? =some z -> (m=i/\ z=some l)∨(m≠i/\ E[m]? =some z):=λ{m z} c=>by
   grind
  have SA:Fu W p2 Y (E.set i (some l)) none B:=by
   refine ⟨rfl,by simp [B,f.size],⟨Fg,ty,e1,by simpa [A] using Hi,by rw [A];exact Cb,λm c=>?_⟩,.inl rfl,λm l1 c=>?_,λm c=>?_,λb d=>?_,λm m' b D g=>?_⟩
   ·grind
   ·rcases sC c with ⟨rfl,e⟩ | ⟨Q,c⟩
    ·cases e;refine ⟨q.blk,by rw [C,zEZ rfl],qV,.inr ⟨m,by rw [C,zEZ rfl]⟩,es,Ak,{ hA with blk:=Bn qV hA.blk },λx I=>by cases I⟩
    ·obtain ⟨b,J,k2,k3,Lb,T,k4,_⟩:=f.has m l1 c;exact ⟨b,by grind,k2,.inr ⟨m,by grind⟩,Lb,T,{ k4 with blk:=Bn k2 k4.blk },λx I=>by cases I⟩
   ·rcases sC c with ⟨rfl,e⟩ | ⟨Q,c⟩
    ·cases e
    ·rw [C,zGN (Ne.symm Q)];exact f.nil m c
   ·rcases d with d | ⟨m,c⟩
    ·exact .inl d
    ·refine .inr ?_;have AB:=c;rw [C] at c
     by_cases e:i=m
     ·grind
     ·rw [zGN e] at c;obtain ⟨l1,g1,_⟩:=f.of_map c
      grind
   ·rw [C] at D g
    by_cases T:i=m
    ·by_cases U:i=m'
     ·omega
     ·rw [zEZ T] at D;rw [zGN U] at g;cases D;obtain ⟨_,_,F,_⟩:=f.of_map g;exact absurd rfl (i6 _ F)
    ·rw [zGN T] at D
     by_cases U:i=m'
     ·rw [zEZ U] at g;cases g;obtain ⟨_,_,F,_⟩:=f.of_map D;exact absurd rfl (i6 _ F)
     ·rw [zGN U] at g;exact f.inj m m' b D g
  have G7: ∀ b,p2.foot b -> (p'.foot b∨q.foot b)/\ EG W b:=λb d=>by
   refine ⟨?_,SA.lies d⟩;rcases d with d | ⟨m,c⟩
   ·exact .inl (by rw [d];exact f.blk)
   ·rw [C] at c
    by_cases e:i=m
    ·grind
    ·rw [zGN e] at c;exact .inl (f.of_map c).choose_spec.2.1
  obtain ⟨g1,F⟩:=R.hr.merge (o':=.mo (.sets Y (E.set i (some l)) none)) (p':=p2) jT G r hJ hq M G7 ⟨B,SA⟩
  have O:BQ (MS N S.h ρ) w ρ (MS N ((S.h.set k none).set j none++[some (.mo (.sets Y (E.set i (some l)) none))]) (ρ++[p2])) W (ρ++[p2]):=
   ⟨λb d c _=>M.block b d λI=>c (.inr ⟨k,_,p',G,r,I⟩),λb d=>d.elim (λh=>.inl (.inl h)) (λh=>(F.grow b h).imp .inr id),λk q hk=>Eo hk⟩
  refine ⟨⟨ρ++[p2],⟨g1,by simp [R.fr.1,Act.put],λm c=>?_⟩,F,λk q hk=>Eo hk⟩,k,i,p',t,x,y,ho,hX,r,M⟩;have DU:m<S.fr.length:=by simpa using c
  have e:(S.fr.map (Ni k S.h.length)).getD m .any=Ni k S.h.length (S.fr.getD m .any):=by simp [DU]
  show AJ _ W ((S.fr.map (Ni k S.h.length)).getD m .any) _ _
  rw [e];have r0:=R.fr.2 m DU;cases hd:S.fr.getD m .any with
  | msl J V o1 X=>
   rw [hd] at r0
   by_cases H:J=k
   ·have A:Ni k S.h.length (.msl J V o1 X)= .msl S.h.length V o1 X:=by simp only [Ni,zEZ H]
    rw [A];rw [H] at r0;obtain ⟨q0,cap,Sd,im,u1,u2,u3⟩:=r0;have eq0:q0=p':=zGJ (Sd.symm.trans r);subst eq0;exact ⟨p2,cap,by rw [←R.hr.len];simp,im,u1,u2,u3⟩
   ·have A:Ni k S.h.length (.msl J V o1 X)= .msl J V o1 X:=by simp only [Ni,zGN H]
    rw [A];exact AJ.out _ O r0
  | _=>rw [hd] at r0;exact AJ.out _ O r0
end
section
def RG:DV:=.tup 0 (λj=>([]:List DV).getD j .any)
def Xx {M:Ψ}{w:World}{ρ:List AI}:AJ M w RG ρ undef:=⟨#[],rfl,rfl,λj d=>absurd d (zGR j)⟩
def Cp (fr:List DV)(dst:Option Nat)(d:DV):List DV:=match dst with
 | some t=>fr.set t d
 | none=>fr
section
variable {P:Program} {Γ:Au} {N:Ψ} {S:St} {ρ:List AI} {a:Act} {w:World}
variable {v:Value}{d:DV}
def HN (R:AS P Γ N S ρ a w)(dst:Option Nat)(p:AJ (MS N S.h ρ) w d ρ v):AS P Γ N ⟨Cp S.fr dst d,S.h⟩ ρ (a.put dst v) w:=by
 refine ⟨R.hr,?_⟩;cases dst with
 | none=>exact R.fr
 | some t=>exact R.fr.set t p
def OH (R:AS P Γ N S ρ a w){d':DV}{h':DH}{ext:Bool}{w':World}(dst:Option Nat)(G:CC P Γ N S.h ρ w ext d h' v w')(r: ∀ M ρ',AJ M w' d ρ' v -> AJ M w' d' ρ' v):
 ∃ ρ',AS P Γ N ⟨Cp S.fr dst d',h'⟩ ρ' (a.put dst v) w'/\ DJ S.h ρ w h' ρ' w':=by
 obtain ⟨ρ',o,s,c,f⟩:=G.ex;have O:BQ (MS N S.h ρ) w ρ (MS N h' ρ') w' ρ':=⟨λb e g _=>c.upd.block b e λi=>g (.inr i),λb e=>e.elim (λh=>.inl (.inl h)) (λh=>(c.grow b h).imp .inr id),f⟩;have R':AS P Γ N ⟨S.fr,h'⟩ ρ' a w':=⟨o,R.fr.out O⟩;exact ⟨ρ',HN R' dst (r _ _ s),c,f⟩
end
def Uz (P:Program)(t:TypeId):Option (TypeId×TypeId):=match P.underlying t with
 | some (.map k e)=>if Vt P k then match P.info? e with
  | some i=>match i.zero with
   | some (.slice none 0 0)=>some (k,e)
   | _=>none
  | none=>none
  else none
 | _=>none
variable {t:TypeId}{P:Program}
def pj {k e:TypeId}(h:Uz P t=some (k,e)):P.underlying t=some (.map k e)/\ He P k=some 1/\ ∀ w,(zeroValue e).run P w= .ok (.slice none 0 0) w:=by
 unfold Uz at h;split at h
 ·rename_i k' e' hu;split at h
  ·rename_i hk;split at h
   ·rename_i i hi;split at h
    ·simp_all [He,sX,zeroValue,typeInfo]
    ·cases h
   ·cases h
  ·cases h
 ·cases h
def SN (j q:Nat):DV -> DV
 | .mri k i=>if k=j then (if i=0 then .mri q 0 else .any) else .mri k i
 | d=>d
def IE (f:Int -> Ξ)(k:Int)(L:Ξ):Int -> Ξ:=λx=>if x=k then L else f x
def U0 (P:Program)(S:St)(o:Oper):Option (St×List Prop):=match o.op with
 | .makeMap t none=>match Uz P t with
  | some _=>some (⟨Cp S.fr o.dst (.mri S.h.length 0),S.h++[some (.mo (.rows (λ_=>[]) none))]⟩,[])
  | none=>none
 | .lookup t m k false=>match Uz P t with
  | some _=>match AZ S.fr m,AZ S.fr k with
   | .mri j 0,.int .i64 x=>match S.h[j]? with
    | some (some (.mo (.rows f B6)))=>if B6.all (λy=>!y.2.2) then some (⟨Cp (S.fr.map (SN j S.h.length)) o.dst (.mri S.h.length 1),S.h.set j none++[some (.mo (.rows f (some (x,f x,false))))]⟩,[]) else none
    | _=>none
   | _,_=>none
  | none=>none
 | .mapUpdate t m k y=>match Uz P t with
  | some _=>match AZ S.fr m,AZ S.fr k,AZ S.fr y with
   | .mri j 0,.int .i64 x,.mri W 1=>match S.h[j]? with
    | some (some (.mo (.rows f (some (x',L,_)))))=>if W=j then some (⟨Cp S.fr o.dst RG,S.h.set j (some (.mo (.rows (IE f x' L) none)))⟩,[x'=x]) else none
    | _=>none
   | _,_,_=>none
  | none=>none
 | .call c=>match c.callee with
  | .builtin .append=>match c.args.toList with
   | [x,y]=>match c.argTypes.toList with
    | [t,N]=>if t=N then match Lc P t with
     | some (.ints,_,i,_)=>if 128<i.bytes then none else match AZ S.fr x,MJ S (AZ S.fr y) with
      | .mse j 1 off n,some (ys,Q)=>match S.h[j]? with
       | some (some (.ints xs))=>some (⟨Cp S.fr o.dst (.mse S.h.length 1 0 (n+ys.length)),S.h.set j none++[some (.ints (xs.drop off++ys))]⟩,[Q,0<ys.length,off+n=xs.length,n+ys.length<=Ay])
       | _=>none
      | .mri j 1,some (ys,Q)=>match S.h[j]? with
       | some (some (.mo (.rows f (some (x',L,_)))))=>some (⟨Cp (S.fr.map (SN j S.h.length)) o.dst (.mri S.h.length 1),S.h.set j none++[some (.mo (.rows f (some (x',L++ys,true))))]⟩,[Q,0<ys.length,L.length+ys.length<=Ay])
       | _=>none
      | _,_=>none
     | _=>none
     else none
    | _=>none
   | _=>none
  | _=>none
 | _=>none
theorem zCF {S:St}{o:Oper}{r:St×List Prop}(h:U0 P S o=some r){x y:Operand}:o.op≠.store t x y:=by
 grind [U0]
def BE.map {M:Ψ}{w:World}{ρ:List AI}{fr:List DV}{t:Array Value}(h:BE M w ρ fr t){g:DV -> DV}(j: ∀ d v,AJ M w d ρ v -> AJ M w (g d) ρ v):BE M w ρ (fr.map g) t:=
 ⟨by simp [h.1],λi hi=>by
  have K:i<fr.length:=by simpa using hi
  have e:(fr.map g).getD i .any=g (fr.getD i .any):=by simp [K]
  rw [e];exact j _ _ (h.2 i K)⟩
section
variable {P:Program} {Γ:Au} {N:Ψ} {S:St} {ρ:List AI} {a:Act} {w w':World} {p p':AI} {f:Int -> Ξ} {B6:Option (Int×Ξ×Bool)} {u:Value} {es:Array MapEntry} {Ak:Nat}
def rF (h:FV w p f B6 u es Ak){g:TypeId}(hk:P.underlying g=some (.int .i64))(x:Int):
 ((Instr.findKey g (.int .i64 x) es.toList).run P w= .ok none w/\ ∀ e∈es.toList,e.key≠.int .i64 x)∨∃ j e,(Instr.findKey g (.int .i64 x) es.toList).run P w= .ok (some (j,e.val)) w/\ es[j]? =some e/\ e.key= .int .i64 x:=by
 rcases MapKept.findNow_spec (d:=.int .i64) (k:=.int .i64 x) (by trivial) es.toList 0 (λe v=>by
  obtain ⟨k,hk,_⟩:=h.key e v;rw [hk];trivial) with ⟨a,b⟩ | ⟨j,e,a,b,c⟩
 ·grind [MapKept.run_findKey]
 ·exact .inr ⟨j,e,by simp_all [zNB],by simpa using b,c⟩
variable {v:Value}{j:Nat}
def Zg (R:AS P Γ N S ρ a w){i:Nat}(hk:S.h[j]? =some (some (.mo (.rows f B6))))(b:AJ (MS N S.h ρ) w (.mri j i) ρ v): ∃ p u es Ak,ρ[j]? =some p/\ FV w p f B6 u es Ak/\ (#[Value.map (some p.blk),u]:Array Value)[i]? =some v:=by
 obtain ⟨p,vs,g,B,Do⟩:=b;obtain ⟨p',U,u,es,Ak,c⟩:=R.hr.obj j _ hk;have:p'=p:=zGJ (U.symm.trans g);subst this;have: #[Value.map (some p'.blk),u]=vs:=by have:=c.val.symm.trans B;cases this;rfl
 grind
def FV.lies (h:FV w p f B6 u es Ak):EG w p.blk:=⟨_,rfl,(),h.blk⟩
def pg (R:AS P Γ N S ρ a w)(o:S.h[j]? =some (some (.mo (.rows f B6))))(l:ρ[j]? =some p)(I:FV w p f B6 u es Ak){W:Int -> Ξ}{c:Option (Int×Ξ×Bool)}{m:Value}{s:Array MapEntry}{Z:Nat} 
 (t:AQ p.foot w w') (M: ∀ b,p'.foot b -> (p.foot b∨w.heap.size<=b)/\ EG w' b) (x:FV w' p' W c m s Z) (U:p'.blk=p.blk) (dst:Option Nat):
 ∃ ρ',AS P Γ N ⟨Cp (S.fr.map (SN j S.h.length)) dst (.mri S.h.length 1),S.h.set j none++[some (.mo (.rows W c))]⟩ ρ' (a.put dst m) w'/\ DJ S.h ρ w (S.h.set j none++[some (.mo (.rows W c))]) ρ' w':=by
 obtain ⟨z,y⟩:=R.hr.regrow (o':=.mo (.rows W c)) o l t M ⟨m,s,Z,x⟩;have A: ∀ (k:Nat) (q:AI),ρ[k]? =some q -> (ρ++[p'])[k]? =some q:=λk q hk=>Eo hk
 have O:BQ (MS N S.h ρ) w ρ (MS N (S.h.set j none++[some (.mo (.rows W c))]) (ρ++[p'])) w' (ρ++[p']):=
  ⟨λb n B _=>t.block b n λC=>B (.inr ⟨j,_,p,o,l,C⟩),λb n=>n.elim (λh=>.inl (.inl h)) (λh=>(y.grow b h).imp .inr id),A⟩
 have L:(ρ++[p'])[S.h.length]? =some p':=by rw [←R.hr.len];simp
 have D:=(R.fr.out O).map (g:=SN j S.h.length) (λd v r=>by
  unfold SN;split
  ·rename_i k i;split
   ·rename_i e;split
    ·rename_i E;subst e E;obtain ⟨q,vs,F,G,H⟩:=r;have:q=p:=zGJ (F.symm.trans (A _ _ l));subst this;have J: #[Value.map (some q.blk),u]=vs:=by have:=I.val.symm.trans G;cases this;rfl
     subst J;exact ⟨p',_,L,x.val,by rw [U];simpa using H⟩
    ·trivial
   ·exact r
  ·exact r)
 exact ⟨ρ++[p'],HN (S:=⟨S.fr.map (SN j S.h.length),_⟩) ⟨z,D⟩ dst ⟨p',_,L,x.val,rfl⟩,y,A⟩
variable {o:TypeId}
def zDt (h:FV w p f B6 u es Ak)(n: ∀ k L,B6≠some (k,L,true)){t i:TypeId}(v:P.underlying t=some (.map i o))(hk:He P i=some 1)(s:(zeroValue o).run P w= .ok (.slice none 0 0) w)(x:Int):
 ∃ a,(Instr.lookup t (.map (some p.blk)) (.int .i64 x) false).run P w= .ok a w/\ FV w { p with val:=.tuple #[Value.map (some p.blk),a] } f (some (x,f x,false)) a es Ak:=by
 have y:P.underlying i=some (.int .i64):=by
  grind [SU]
 have q:=λe=>SS (w:=w) hk (x:=[x]) rfl e
 have r: ∀ a,(If w (λb=>p.foot b/\ b≠p.blk) a (f x)/\ ∀ e∈es.toList,∀ b,Di a=some b -> Di e.val=some b -> e.key= .int .i64 x) -> FV w { p with val:=.tuple #[Value.map (some p.blk),a] } f (some (x,f x,false)) a es Ak:=λa E=>
  ⟨rfl,h.blk,h.own,λe J=>let ⟨k,c,d⟩:=h.key e J;⟨k,c,λ_=>d λL=>n k L⟩,h.no,h.nd,h.apart,h.born,h.stamps,λk L g e=>by cases e;exact E⟩
 rcases rF h y x with ⟨c,d⟩ | ⟨j,e,c,d,l⟩
 ·refine ⟨.slice none 0 0,?_,r _ ⟨.inl ⟨h.no x d,rfl⟩,λe _ b m=>by cases m⟩⟩;have W:=q es.isEmpty;simp only [Bb] at W;simp [Instr.lookup,zGs v,zIv h.blk,W,c,s,Result.andThen]
 ·have U:e∈es.toList:=Array.mem_toList_iff.2 (zMu d);obtain ⟨k,z,A⟩:=h.key e U;have:k=x:=by rw [z] at l;cases l;rfl
  subst this;refine ⟨e.val,?_,r _ ⟨A λL=>n k L,λR N b m B=>(h.apart R N e U b B m).trans l⟩⟩;have W:=q es.isEmpty;simp only [Bb] at W;simp [Instr.lookup,zGs v,zIv h.blk,W,c,Result.andThen]
variable {ys L:Ξ}{z:Value}{i:TypeInfo}{e ty:TypeId}
def oZ {F:Ψ}(s:If w F u L){t:TypeId}(f:P.underlying t=some (.slice e))(hi:P.info? e=some i)(h:i.zero=some z)(a:i.size=1)(C:z.cells.size=i.size)(S:i.bytes<=128) 
 {k:Value}  (hy:Src P i.size t k ys.length (ys.map (Value.int .i64)) w) (x:0<ys.length) (c:L.length+ys.length<=Ay):
 ∃ w' q g,(Builtin.append_ #[t,t] ty #[u,k]).run P w= .ok (.slice (some ⟨q.blk,q.off,none⟩) (L++ys).length g) w'/\ (L++ys).length<=g/\ q.off+g<=q.room/\ AQ (λb=>Di u=some b) w w'/\ (Di u=some q.blk∨w.heap.size<=q.blk)/\ AX w' q (L++ys).length (λj v=>v= .int .i64 ((L++ys).getD j 0)):=by
 have N:(L++ys).length=L.length+ys.length:=zGY;rcases s with ⟨rfl,rfl⟩ | ⟨q,cap,rfl,A,B,h3,h4,m⟩
 ·obtain ⟨w',g,l,y,cs,rfl,d,n⟩:=ld none (ty:=ty) f hi h C S hy x (by unfold Ay at c;simp at c;omega);rw [a,zIS] at d;refine ⟨_,E3 w cs.size,g,by simpa [E3] using l,by simpa using y,by simp [E3,d],AQ.ofExt ((A0.toDrew w).allocR _),.inr (zGT _),PB rfl (by simp;omega) λj hj=>?_⟩
  grind
 ·obtain ⟨w',Q,g,l,y,o,d,n,p⟩:=lY (ty:=ty) (R:=λj v=>v= .int .i64 (L.getD j 0)) (cap:=cap) f hi h (by omega) C S (by rw [a,zIS];exact m) A (by rw [a,zIS];exact B) hy (by unfold Ay at c;omega);rw [a,zIS] at o;have r:q.foot=(λb=>b=q.blk):=m.1;have hR:=iH (P:=P) (M:=λ_=>False) (ρ':=[]) a p;refine ⟨w',Q,g,by rw [N];exact l,by rw [N];exact y,o,d.mono λb _ c=>by rw [r] at c;rw [show b=q.blk from c];rfl,?_,hR⟩;have X:=p.1;rcases n Q.blk (by rw [X]) with e | e
  ·rw [r] at e;exact .inl (by rw [show Q.blk=q.blk from e];rfl)
  ·exact .inr e
variable {Q:Value}{g:Bool}{x:Int}
def zDu (h:FV w p f B6 u es Ak)(C:B6=some (x,L,g))(o: ∀ b,p.foot b -> EG w b){t:TypeId}(D:P.underlying t=some (.slice e))(hi:P.info? e=some i)(E:i.zero=some z)(F:i.size=1)(G:z.cells.size=i.size)(S:i.bytes<=128) 
   (hy:Src P i.size t Q ys.length (ys.map (Value.int .i64)) w) (H:0<ys.length) (c:L.length+ys.length<=Ay):
 ∃ w' r p',(Builtin.append_ #[t,t] ty #[u,Q]).run P w= .ok r w'/\ AQ p.foot w w'/\ (∀ b,p'.foot b -> (p.foot b∨w.heap.size<=b)/\ EG w' b)/\ FV w' p' f (some (x,L++ys,true)) r es Ak/\ p'.blk=p.blk:=by
 obtain ⟨s,K⟩:=h.inHand x L g C;have Am:(L++ys).length=L.length+ys.length:=zGY;have V:=oZ (ty:=ty) s D hi E F G S hy H c;obtain ⟨w',q,v,N,O,T,y,r5,A⟩:=V;have d: ∀ b,Di u=some b -> (p.foot b/\ b≠p.blk)/\ b<w.heap.size:=λb c=>s.blk c
 have keep: ∀ b,b<w.heap.size -> Di u≠some b -> w'.heap[b]? =w.heap[b]? :=λb c j=>y.block b c j
 have l:Di u≠some p.blk:=λe=>(d _ e).1.2 rfl
 have W:p.blk<w.heap.size:=(zGI.1 h.blk).1;have X:q.blk≠p.blk:=λe=>r5.elim (λR=>l (by rw [←e];exact R)) (λR=>by omega)
 refine ⟨w',_,⟨p.blk,p.off,p.room,.tuple #[Value.map (some p.blk),.slice (some ⟨q.blk,q.off,none⟩) (L++ys).length v],λb=>(p.foot b/\ Di u≠some b)∨b=q.blk⟩,N,y.mono λb _ c=>(d b c).1.1,λb c=>?_,?_,rfl⟩
 ·rcases c with ⟨g1,g2⟩ | g1
  ·grind
  ·obtain ⟨_,cs,tt,g,_⟩:=A;subst g1;exact ⟨r5.imp (λe=>(d _ e).1.1) id,.cells g⟩
 ·have I: ∀ R∈es.toList,∀ k,R.key= .int .i64 k -> k≠x -> If w (λb=>p.foot b/\ b≠p.blk) R.val (f k):=λR J k hk So=>by
   obtain ⟨m,a,h2⟩:=h.key R J
   grind
  refine ⟨rfl,(keep _ W l).trans h.blk,.inl ⟨h.own,l⟩,λR J=>?_,h.no,h.nd,h.apart,h.born,h.stamps,λk L' g' R=>?_⟩
  ·obtain ⟨k,a,_⟩:=h.key R J;refine ⟨k,a,λj=>?_⟩;have hk:k≠x:=λe=>by subst e;exact j _ rfl
   have B: ∀ b,Di R.val=some b -> Di u≠some b:=λb c n=>hk (by grind)
   exact (I R J k a hk).out (λb M c o=>keep b o (B b c)) λb M c=>⟨.inl ⟨M.1,B b c⟩,M.2⟩
  ·cases R;refine ⟨.inr ⟨q,v,rfl,O,T,by unfold LB;unfold Ay at c;omega,⟨.inr rfl,X⟩,A⟩,λR J b c n=>?_⟩;cases c;rcases r5 with r5 | r5
   ·exact K R J _ r5 n
   ·obtain ⟨m,a,_⟩:=h.key R J
    by_cases hk:m=x
    ·subst hk;exact a
    ·exact absurd ((I R J m a hk).blk n).2 (Nat.not_lt.2 r5)
def zDs (h:FV w p f B6 u es Ak)(C:B6=some (x,L,g)){t D:TypeId}(v:P.underlying t=some (.map o D))(hk:He P o=some 1):
 ∃ w' a Z,(Instr.mapUpdate t (.map (some p.blk)) (.int .i64 x) u).run P w= .ok () w'/\ AQ (λb=>b=p.blk) w w'/\ FV w' p (IE f x L) none u a Z:=by
 have E:P.underlying o=some (.int .i64):=by
  grind [SU]
 have q:=SS (w:=w) hk (x:=[x]) rfl false;simp only [Bb] at q;obtain ⟨F,hd⟩:=h.inHand x L g C;have G:p.blk<w.heap.size:=(zGI.1 h.blk).1
 have y: ∀ (a:Array MapEntry) (Z:Nat),(∀ e∈a.toList,(e.key= .int .i64 x/\ e.val=u)∨(e∈es.toList/\ e.key≠.int .i64 x)) -> (∃ e∈a.toList,e.key= .int .i64 x) -> (∀ e∈es.toList,e.key≠.int .i64 x -> e∈a.toList) -> MapKept.Stamped a Z ->
  FV { w with heap:=w.heap.setIfInBounds p.blk (.map a Z) } p (IE f x L) none u a Z:=λa Z V m2 m3 st=>by
  have stay: ∀ b,b≠p.blk -> (w.heap.setIfInBounds p.blk (.map a Z))[b]? =w.heap[b]? :=λb r=>by simp [Ne.symm r]
  have I: ∀ R∈es.toList,∀ k,R.key= .int .i64 k -> k≠x -> If w (λb=>p.foot b/\ b≠p.blk) R.val (f k):=λR J k hk l=>by
   obtain ⟨k',c,i⟩:=h.key R J
   grind
  refine ⟨h.val,by simp [G],h.own,λe J=>?_,λk z=>?_,st.2.2,λe J R N b r H=>?_,st.1,st.2.1,λk L' g' e=>by cases e⟩
  ·rcases V e J with ⟨T,n⟩ | ⟨T,n⟩
   ·refine ⟨x,T,λ_=>?_⟩;rw [n];unfold IE;rw [zEZ rfl];exact F.out (λb M _ _=>stay b M.2) λ_ h _=>h
   ·obtain ⟨k,c,_⟩:=h.key e T;have l:k≠x:=λR=>n (by rw [c,R])
    refine ⟨k,c,λ_=>?_⟩;unfold IE;rw [zGN l];exact (I e T k c l).out (λb M _ _=>stay b M.2) λ_ h _=>h
  ·have l:k≠x:=λe=>by grind
   unfold IE;rw [zGN l];refine h.no k λe J hk2=>?_
   grind
  ·rcases V e J with ⟨T,n⟩ | ⟨T,n⟩
   ·grind
   ·rcases V R N with ⟨A,K⟩ | ⟨A,K⟩
    ·grind
    ·exact h.apart e T R A b r H
 have st:MapKept.Stamped es Ak:=⟨h.born,h.stamps,h.nd⟩;rcases rF h E x with ⟨c,i⟩ | ⟨j,e,c,i,B⟩
 ·refine ⟨_,es.push { key:=.int .i64 x,val:=u,born:=Ak },Ak+1,?_,UD _,y _ _ (λe J=>?_) ⟨{ key:=.int .i64 x,val:=u,born:=Ak },by simp,rfl⟩ (λe J _=>by simp [Array.mem_toList_iff.1 J]) (MapKept.stamped_push st i)⟩
  ·simp [Instr.mapUpdate,zGs v,zIv h.blk,q,c,zMk _ h.blk,Result.andThen]
  grind
 ·have Fd:((es[j]?).map (·.key)).getD (.int .i64 x)= .int .i64 x:=by rw [i];exact B
  have hst:=MapKept.run_keyThatStays (P:=P) (w:=w) (d:=.int .i64) (k:=.int .i64 x) (by trivial);have hj:j<es.size:=(zGI.1 i).1
  have inj: ∀ (m:Nat) (R:MapEntry),es[m]? =some R -> R.key= .int .i64 x -> m=j:=λm R U z=>by
   have O:m<es.size:=(zGI.1 U).1;have Q:(es.toList.map (·.key))[m]? =some (.int .i64 x):=by simp [U,z]
   have S:(es.toList.map (·.key))[j]? =some (.int .i64 x):=by simp [i,B]
   exact (List.getElem?_inj (by simpa using O) h.nd).1 (Q.trans S.symm)
  have get: ∀ (m:Nat),(es.modify j λe=>{ e with key:=.int .i64 x,val:=u })[m]? =if j=m then (es[m]?).map (λe=>{ e with key:=.int .i64 x,val:=u }) else es[m]? :=λm=>zMv
  refine ⟨_,es.modify j λe=>{ e with key:=.int .i64 x,val:=u },Ak,?_,UD _,y _ _ (λW s=>?_) ⟨{ e with key:=.int .i64 x,val:=u },?_,rfl⟩ (λW s AY=>?_) (MapKept.stamped_modify st _ _ (λ_ _=>rfl) λR _ N=>by grind)⟩
  ·simp [Instr.mapUpdate,zGs v,zIv h.blk,q,c,Fd,hst,zMk _ h.blk,Result.andThen]
  ·obtain ⟨m,U⟩:=List.mem_iff_getElem?.1 s
   grind
  ·grind
  ·obtain ⟨m,U⟩:=List.mem_iff_getElem?.1 s
   grind
def zEg (R:AS P Γ N S ρ a w){off n:Nat}{xs:Ξ}(I:S.h[j]? =some (some (.ints xs)))(E:AJ (MS N S.h ρ) w (.mse j 1 off n) ρ v)(hn:off+n=xs.length){t:TypeId}(q:P.underlying t=some (.slice e))(hi:P.info? e=some i)(m:i.zero=some z)(f:i.size=1)(C:z.cells.size=i.size)(r:i.bytes<=128) 
   (hy:Src P i.size t Q ys.length (ys.map (Value.int .i64)) w) (F:0<ys.length) (d:n+ys.length<=Ay):
 ∃ u w' p' g,v=u/\ (Builtin.append_ #[t,t] ty #[u,Q]).run P w= .ok (.slice (some ⟨p'.blk,p'.off,none⟩) (n+ys.length) g) w'/\ n+ys.length<=g/\ p'.off+g<=p'.room/\ (∃ p,ρ[j]? =some p/\ AQ p.foot w w'/\ ∀ b,p'.foot b -> (p.foot b∨w.heap.size<=b)/\ EG w' b)/\
  (∀ {M ρ'},EF P M w' ρ' p' (.ints (xs.drop off++ys)))/\ True:=by
 obtain ⟨p,s,cap,x,rfl,G,h2,H⟩:=E;obtain ⟨p2,J,K⟩:=R.hr.obj j _ I;have:p2=p:=zGJ (J.symm.trans x);subst this;have O:(xs.drop off).length=n:=by simp;omega
 have V: ∃ w' p' g,(Builtin.append_ #[t,t] ty #[.slice s n cap,Q]).run P w= .ok (.slice (some ⟨p'.blk,p'.off,none⟩) (n+ys.length) g) w'/\ n+ys.length<=g/\ p'.off+g*i.size<=p'.room/\ AQ p2.foot w w'/\ (∀ b,p'.foot b -> p2.foot b∨w.heap.size<=b)/\ AX w' p' ((n+ys.length)*i.size) (JW (n*i.size) (λj u=>u= .int .i64 ((xs.drop off).getD j 0)) (ys.map (Value.int .i64))):=by
  by_cases Z:cap=0
  ·subst Z;have L:n=0:=by omega
   subst L;obtain ⟨w',g,l,y,cs,rfl,k,A⟩:=ld s (ty:=ty) q hi m C r hy F (by unfold Ay at d;omega);refine ⟨_,E3 w cs.size,g,by simpa [E3] using l,by omega,by simp [E3,k],AQ.ofExt ((A0.toDrew w).allocR _),λb d=>.inr (Nat.le_of_eq (Eq.symm d)),PB rfl ?_ λj T=>?_⟩
   ·grind
   simp_all [JW]
  ·obtain ⟨rfl,U⟩:=H (by omega);obtain ⟨W,cs,o,X,c3,Y,c5⟩:=K
   exact lY (ty:=ty) (p:={ p2 with off:=p2.off+off*1 }) (cap:=cap) q hi m (by omega) C r (R:=λj u=>u= .int .i64 ((xs.drop off).getD j 0)) (by
    refine ⟨W,cs,o,X,?_,Y,λj T=>?_⟩
    ·grind
    grind) G (by rw [f];simpa using U) hy (by unfold Ay at d;omega)
 obtain ⟨w',p',g,l,y,B,k,A,D⟩:=V;rw [f,zIS] at B;refine ⟨_,w',p',g,rfl,l,y,B,⟨p2,x,k,λb d=>⟨A b d,?_⟩⟩,λ{M ρ'}=>iH (xs:=xs.drop off) (ys:=ys) f (by rw [O];exact D),trivial⟩;obtain ⟨e1,cs,o,e2,_⟩:=D;rw [e1] at d;exact .cells (c:=cs) (t:=o) (z:=(0,0)) (by rw [show b=p'.blk from d];exact e2)
variable {vs:List Prop}{S':St}
theorem zCE (R:AS P Γ N S ρ a w){o:Oper}(h:U0 P S o=some (S',vs))(Y:Bp vs):
 BP P (execOp a.eval o) w (λv w'=>∃ ρ',AS P Γ N S' ρ' (a.put o.dst v) w'/\ DJ S.h ρ w S'.h ρ' w'):=by
 unfold U0 at h;split at h
 ·rename_i t q;split at h
  ·rename_i r W;cases h;refine BP.value (s:=Instr.makeMap t none) (by unfold execOp;rw [q];rfl) (v:=.map (some w.heap.size)) (w':=w.alloc (.map #[] 0)) (by simp [Instr.makeMap,newObj];rfl) ?_;have G:=Wa (ob:=.map #[] 0) (o:=.mo (.rows (λ_=>[]) none)) (d:=.mri S.h.length 0) (v:=.map (some w.heap.size)) (pl:=⟨w.heap.size,0,0,.tuple #[.map (some w.heap.size),undef],λb=>b=w.heap.size⟩) R.hr rfl rfl (λM ρ'=>⟨undef,#[],0,rfl,zMR w _,rfl,λe J=>absurd J (by simp),λ_ _=>rfl,by simp,λe J=>absurd J (by simp),λe J=>absurd J (by simp),by simp,λk L g e=>by cases e⟩) (λM ρ' l=>⟨_,_,l,rfl,rfl⟩) true;exact OH R o.dst G λ_ _ h=>h
  ·cases h
 ·rename_i t m k q;split at h
  ·rename_i r W;obtain ⟨kt,et⟩:=r;obtain ⟨B,hk,F⟩:=pj W;have H:=BW R m;have K:=BW R k;split at h
   ·rename_i j x Z hK;split at h
    ·rename_i f B6 I;split at h
     ·rename_i hh;cases h;rw [Z] at H;rw [hK] at K;obtain ⟨p,u,es,Ak,l,A,Q⟩:=Zg R I H;have em:a.eval m= .map (some p.blk):=by simpa using Q.symm
      have ek:a.eval k= .int .i64 x:=K;obtain ⟨u',E,C⟩:=zDt A (λk L e=>by subst e;simp at hh) B hk (F w) x;refine BP.value (s:=Instr.lookup t (a.eval m) (a.eval k) false) (by unfold execOp;rw [q]) (by rw [em,ek];exact E) ?_;exact pg (p':={ p with val:=.tuple #[Value.map (some p.blk),u'] }) R I l A (AQ.refl _ _) (λb D=>⟨.inl D,(R.hr.cel j _ p b I l D).2.2⟩) C rfl o.dst
     ·cases h
    ·cases h
   ·cases h
  ·cases h
 ·rename_i t m k y q;split at h
  ·rename_i r W;obtain ⟨kt,et⟩:=r;obtain ⟨B,hk,F⟩:=pj W;have H:=BW R m;have K:=BW R k;have T:=BW R y;split at h
   ·rename_i j x j' Z hK U;split at h
    ·rename_i f x' L g I;split at h
     ·rename_i hj;cases h;subst hj;have hx:x'=x:=Y.1;subst hx;rw [Z] at H;rw [hK] at K;rw [U] at T;obtain ⟨p,u,es,Ak,l,A,Q⟩:=Zg R I H;obtain ⟨p2,u2,es2,clock2,QA,hA2,zGP⟩:=Zg R I T;have:p2=p:=zGJ (QA.symm.trans l);subst this;have eu:u2=u:=by have:=hA2.val.symm.trans A.val;simp at this;exact this
      have em:a.eval m= .map (some p2.blk):=by simpa using Q.symm
      have ek:a.eval k= .int .i64 x':=K;have ey:a.eval y=u:=by rw [←eu];simpa using zGP.symm
      obtain ⟨w',Ep,Fh,E,C,O⟩:=zDs A rfl B hk;refine BP.skip (s:=Instr.mapUpdate t (a.eval m) (a.eval k) (a.eval y)) (by unfold execOp;rw [q]) (w':=w') (by rw [em,ek,ey];exact E) ?_;have Nr:AQ p2.foot w w':=C.mono λb _ D=>by rw [show b=p2.blk from D];exact A.own
      have hl: ∀ b,p2.foot b -> EG w' b:=λb D=>by
       by_cases e:b=p2.blk
       ·rw [e];exact O.lies
       ·obtain ⟨c,t1,t2,V⟩:=(R.hr.cel _ _ p2 b I l D).2.2;exact ⟨c,t1,t2,(C.block b (zGI.1 V).1 e).trans V⟩
      have G:CC P Γ N S.h ρ w false RG (S.h.set j' (some (.mo (.rows (IE f x' L) none)))) undef w':=⟨⟨ρ,R.hr.write I l Nr hl ⟨u,Ep,Fh,O⟩,Xx,A3.write I l Nr,λ_ _ h=>h⟩,λh=>by cases h⟩;exact OH R o.dst G λ_ _ h=>h
     ·cases h
    ·cases h
   ·cases h
  ·cases h
 ·rename_i c q;split at h
  ·rename_i V;split at h
   ·rename_i x y ha;split at h
    ·rename_i t t' ht;split at h
     ·rename_i e;subst e;split at h
      ·rename_i e i z hk;obtain ⟨B,hi,F,h0,C7,Fd,_⟩:=Ww hk;have X:i.size=1:=Fd.symm;split at h
       ·cases h
       ·rename_i Eb;have rx:=BW R x;have T:=BW R y;split at h
        ·rename_i j off n ys vy hX U;split at h
         ·rename_i xs I;cases h;obtain ⟨v1,v2,v3,v4,_⟩:=Y;rw [hX] at rx;obtain ⟨ad,w',p',B9,e0,E,C,O,g4,g5,_⟩:=zEg (ty:=o.type) R I rx v3 B hi F X C7 (by omega) (by rw [X];exact Vs R B T U v1) v2 v4;refine BP.value (OO q V ha ht) (by rw [e0];exact E) ?_;obtain ⟨p,l⟩:=g4;obtain ⟨q1,q2⟩:=R.hr.regrow (o':=.ints (xs.drop off++ys)) I l.1 l.2.1 l.2.2 g5
          have G:CC P Γ N S.h ρ w false (.mse S.h.length 1 0 (n+ys.length)) (S.h.set j none++[some (.ints (xs.drop off++ys))]) (.slice (some ⟨p'.blk,p'.off,none⟩) (n+ys.length) B9) w':=
           ⟨⟨ρ++[p'],q1,⟨p',_,B9,by rw [←R.hr.len];simp,rfl,C,by unfold LB;unfold Ay at v4;omega,λ_=>⟨by simp,by simpa using O⟩⟩,q2,λ_ _ h=>Eo h⟩,λh=>by cases h⟩
          exact OH R o.dst G λ_ _ h=>h
         ·cases h
        ·rename_i j ys vy hX U;split at h
         ·rename_i f x' L g I;cases h;obtain ⟨v1,v2,v3,_⟩:=Y;rw [hX] at rx;obtain ⟨p,u,es,Ak,l,A,Q⟩:=Zg R I rx;have ex:a.eval x=u:=by simpa using Q.symm
          obtain ⟨w',u',p',E,C,O,g4,g5⟩:=zDu (ty:=o.type) A rfl (λb D=>(R.hr.cel j _ p b I l D).2.2) B hi F X C7 (by omega) (by rw [X];exact Vs R B T U v1) v2 v3;refine BP.value (OO q V ha ht) (by rw [ex];exact E) ?_;exact pg R I l A C O g4 g5 o.dst
         ·cases h
        ·cases h
      ·cases h
     ·cases h
    ·cases h
   ·cases h
  ·cases h
 ·cases h
def YD (P:Program)(S:St)(o:Oper):Option (St×List Prop):=match dj P S o with
 | some r=>some r
 | none=>U0 P S o
def n9 (R:AS P Γ N S ρ a w){o:Oper}(h:YD P S o=some (S',vs))(hv:Bp vs):
 BP P (execOp a.eval o) w (λv w'=>(∃ ρ',AS P Γ N S' ρ' (a.put o.dst v) w'/\ DJ S.h ρ w S'.h ρ' w')/\ ((∀ t x y,o.op≠.store t x y)∨∃ k i p t x y,o.op= .store t x y/\ AZ S.fr x= .mp k 1 i 0/\ ρ[k]? =some p/\ AQ p.foot w w')):=by
 have wk: ∀ {G Z:Value -> World -> Prop},(∀ v w',G v w' -> Z v w') -> BP P (execOp a.eval o) w G -> BP P (execOp a.eval o) w Z:=λj D=>by
  rcases D with ⟨v,w',b,c⟩ | ⟨w',b,c⟩ | ⟨f,args,w',b,c⟩
  ·exact .inl ⟨v,w',b,j _ _ c⟩
  ·exact .inr (.inl ⟨w',b,j _ _ c⟩)
  ·exact .inr (.inr ⟨f,args,w',b,c.mono λe CV ⟨v,d,z⟩=>⟨v,d,j _ _ z⟩⟩)
 grind [YD,yw,zCF,zCE]
end
end
def eW (P:Program)(t:TypeId):Option (TypeId×TypeInfo):=match P.underlying t with
 | some (.slice e)=>match P.info? e with
  | some i=>match i.zero with
   | some (.slice none 0 0)=>if i.size=1/\ i.bytes<=128 then some (e,i) else none
   | _=>none
  | none=>none
 | _=>none
def zBZ {P:Program}{t e:TypeId}{i:TypeInfo}(h:eW P t=some (e,i)):P.underlying t=some (.slice e)/\ P.info? e=some i/\ i.zero=some (.slice none 0 0)/\ i.size=1/\ i.bytes<=128:=by
 grind [eW]
def SM (j q:Nat):DV -> DV
 | .msl k m o n=>if k=j then .msl q m o n else .msl k m o n
 | .mp k m i c=>if k=j then .mp q m i c else .mp k m i c
 | .mri k i=>if k=j then .any else .mri k i
 | d=>d
def Ym (P:Program)(S:St)(a:List (Nat×Fz))(o:Oper):Option (St×List Prop×List (Nat×Fz)):=match o.op with
 | .makeSlice t x y=>match a with
  | (d,.rws)::rest=>if o.dst=some d then match eW P t with
   | some _=>match AZ S.fr x,AZ S.fr y with
    | .int _ m,.int _ Z=>some (⟨Cp S.fr o.dst (.msl S.h.length 1 0 m.toNat),S.h++[some (.mo (.rws (List.replicate m.toNat []) none))]⟩,[Z=m/\ 0<=m/\ m<=1000000000000],rest)
    | _,_=>none
   | none=>none
   else none
  | _=>none
 | .call c=>match c.callee with
  | .builtin .append=>match c.args.toList with
   | [x,y]=>match c.argTypes.toList with
    | [t,N]=>if t=N then match Lc P t with
     | some (.ints,_,i,_)=>if 128<i.bytes then none else match AZ S.fr x,MJ S (AZ S.fr y) with
      | .mri j (r+1),some (ys,Q)=>match S.h[j]? with
       | some (some (.mo (.rws ls none)))=>some (⟨Cp (S.fr.map (SM j S.h.length)) o.dst (.mri S.h.length 0),S.h.set j none++[some (.mo (.rws ls (some (r,ls.getD r default++ys))))]⟩,[Q,0<ys.length,r<ls.length,(ls.getD r default).length+ys.length<=Ay],a)
       | _=>none
      | _,_=>none
     | _=>none
     else none
    | _=>none
   | _=>none
  | _=>none
 | .store t x y=>match o.dst with
  | none=>match AZ S.fr x,AZ S.fr y with
   | .mp j 1 r 0,.mri W 0=>match S.h[j]? with
    | some (some (.mo (.rws ls (some (U,L)))))=>if W=j/\ (P.info? t).any (λi=>i.size==1)=true then some (⟨S.fr.map (SM j S.h.length),S.h.set j none++[some (.mo (.rws (ls.set r L) none))]⟩,[U=r,r<ls.length],a) else none
    | _=>none
   | _,_=>none
  | some _=>none
 | _=>none
section
variable {P:Program} {Γ:Au} {N:Ψ} {S:St} {ρ:List AI} {a:Act} {w w':World} {p p':AI} {ls Vl:List Ξ} {B6 KM:Option (Nat×Ξ)} {vs Bz:Array Value}
variable {v:Value}{j:Nat}
def pK (R:AS P Γ N S ρ a w){i:Nat}(hk:S.h[j]? =some (some (.mo (.rws ls B6))))(b:AJ (MS N S.h ρ) w (.mri j i) ρ v): ∃ p vs,ρ[j]? =some p/\ Li w p ls B6 vs/\ vs[i]? =some v:=by
 obtain ⟨p,vs,g,B,Do⟩:=b;obtain ⟨p',U,Bz,c⟩:=R.hr.obj j _ hk;have:p'=p:=zGJ (U.symm.trans g);subst this;have:Bz=vs:=by have:=c.val.symm.trans B;cases this;rfl
 grind
def pJ (R:AS P Γ N S ρ a w)(u:S.h[j]? =some (some (.mo (.rws ls B6))))(f:ρ[j]? =some p)(x:AQ p.foot w w')(C: ∀ b,p'.foot b -> (p.foot b∨w.heap.size<=b)/\ EG w' b)(D:Li w' p' Vl KM Bz) 
 (y:p'.blk=p.blk) (z:p'.off=p.off) (E:p'.room=p.room) (dst:Option Nat) {d:DV}  (r: ∀ M ρ',ρ'[S.h.length]? =some p' -> AJ M w' d ρ' v):
 ∃ ρ',AS P Γ N ⟨Cp (S.fr.map (SM j S.h.length)) dst d,S.h.set j none++[some (.mo (.rws Vl KM))]⟩ ρ' (a.put dst v) w'/\ DJ S.h ρ w (S.h.set j none++[some (.mo (.rws Vl KM))]) ρ' w':=by
 obtain ⟨F,B⟩:=R.hr.regrow (o':=.mo (.rws Vl KM)) u f x C ⟨Bz,D⟩;have A: ∀ (k:Nat) (q:AI),ρ[k]? =some q -> (ρ++[p'])[k]? =some q:=λk q hk=>Eo hk
 have O:BQ (MS N S.h ρ) w ρ (MS N (S.h.set j none++[some (.mo (.rws Vl KM))]) (ρ++[p'])) w' (ρ++[p']):=
  ⟨λb l G _=>x.block b l λH=>G (.inr ⟨j,_,p,u,f,H⟩),λb l=>l.elim (λh=>.inl (.inl h)) (λh=>(B.grow b h).imp .inr id),A⟩
 have L:(ρ++[p'])[S.h.length]? =some p':=by rw [←R.hr.len];simp
 have I:=(R.fr.out O).map (g:=SM j S.h.length) (λd v r=>by
  unfold SM;split
  ·rename_i k m o n;split
   ·rename_i e;subst e;obtain ⟨q,cap,s,t,J,K,Q⟩:=r;have:q=p:=zGJ (s.symm.trans (A _ _ f));subst this;exact ⟨p',cap,L,by rw [y,z];exact t,J,K,by rw [z,E];exact Q⟩
   ·exact r
  ·rename_i k m i c;split
   ·rename_i e;subst e;obtain ⟨q,s,t⟩:=r;have:q=p:=zGJ (s.symm.trans (A _ _ f));subst this;exact ⟨p',L,by rw [y,z];exact t⟩
   ·exact r
  ·split
   ·trivial
   ·exact r
  ·exact r)
 exact ⟨ρ++[p'],HN (S:=⟨S.fr.map (SM j S.h.length),_⟩) ⟨F,I⟩ dst (r _ _ L),B,A⟩
variable {t:TypeId}{r:Nat}
def zBY (h:Li w p ls none vs)(o:r<ls.length)(s: ∀ b,p.foot b -> EG w b){e ty:TypeId}{i:TypeInfo}{z:Value}(H:P.underlying t=some (.slice e))(hi:P.info? e=some i)(I:i.zero=some z)(J:i.size=1)(K:z.cells.size=i.size)(S:i.bytes<=128) 
 {Q:Value} {ys:Ξ} (hy:Src P i.size t Q ys.length (ys.map (Value.int .i64)) w) (N:0<ys.length) (c:(ls.getD r default).length+ys.length<=Ay):
 ∃ w' v p',(Builtin.append_ #[t,t] ty #[vs.getD (r+1) undef,Q]).run P w= .ok v w'/\ AQ p.foot w w'/\ (∀ b,p'.foot b -> (p.foot b∨w.heap.size<=b)/\ EG w' b)/\ Li w' p' ls (some (r,ls.getD r default++ys)) (vs.setIfInBounds 0 v)/\ p'.blk=p.blk/\ p'.off=p.off/\ p'.room=p.room:=by
 have x:=h.has r o λL e=>by cases e
 obtain ⟨w',q,a,O,T,U,y,r5,A⟩:=oZ (ty:=ty) x H hi I J K S hy N c
 generalize V:vs.getD (r+1) undef=u at*
 have l: ∀ b,Di u=some b -> (p.foot b/\ b≠p.blk)/\ b<w.heap.size:=λb c=>x.blk c
 have keep: ∀ b,b<w.heap.size -> Di u≠some b -> w'.heap[b]? =w.heap[b]? :=λb c W=>y.block b c W
 have m:Di u≠some p.blk:=λe=>(l _ e).1.2 rfl
 obtain ⟨cs,B,C,Z,X,k4⟩:=h.row;have Y:p.blk<w.heap.size:=(zGI.1 C).1;have i5:q.blk≠p.blk:=λe=>r5.elim (λR=>m (by rw [←e];exact R)) (λR=>by omega)
 have n: ∀ j,(vs.setIfInBounds 0 (.slice (some ⟨q.blk,q.off,none⟩) (ls.getD r default++ys).length a)).getD (j+1) undef=vs.getD (j+1) undef:=λj=>by
  simp_all
 have JH:(vs.setIfInBounds 0 (.slice (some ⟨q.blk,q.off,none⟩) (ls.getD r default++ys).length a)).getD 0 undef= .slice (some ⟨q.blk,q.off,none⟩) (ls.getD r default++ys).length a:=by
  have:0<vs.size:=by rw [h.size];omega
  simp_all
 have E: ∀ j b,j<ls.length -> j≠r -> Di (vs.getD (j+1) undef)=some b -> Di u≠some b:=λj b d D c f=>D (h.apart j r b d o (λL e=>by cases e) (λL e=>by cases e) c (by rw [V];exact f))
 refine ⟨w',_,⟨p.blk,p.off,p.room,.tuple (vs.setIfInBounds 0 (.slice (some ⟨q.blk,q.off,none⟩) (ls.getD r default++ys).length a)),λb=>(p.foot b/\ Di u≠some b)∨b=q.blk⟩,O,y.mono λb _ c=>(l b c).1.1,λb c=>?_,?_,rfl,rfl,rfl⟩
 ·rcases c with ⟨g1,g2⟩ | g1
  ·grind
  ·obtain ⟨_,cs,B,g,_⟩:=A;subst g1;exact ⟨r5.imp (λe=>(l _ e).1.1) id,.cells g⟩
 ·refine ⟨rfl,by simpa using h.size,⟨cs,B,(keep _ Y m).trans C,Z,X,λj d=>?_⟩,.inl ⟨h.blk,m⟩,λj d hh=>?_,λi j b hi d _ _ F G=>?_,λk L e=>?_⟩
  ·grind
  ·have D:j≠r:=λe=>hh _ (by rw [e])
   rw [n];exact (h.has j d λL e=>by cases e).out (λb M c s=>keep b s (E j b d D c)) λb M c=>⟨.inl ⟨M.1,E j b d D c⟩,M.2⟩
  ·rw [n] at F G;exact h.apart i j b hi d (λL e=>by cases e) (λL e=>by cases e) F G
  ·cases e;rw [JH];refine ⟨.inr ⟨q,a,rfl,T,U,by grind [LB,Ay],⟨.inr rfl,i5⟩,A⟩,λj b d c f=>?_⟩;cases c;rw [n] at f;rcases r5 with r5 | r5
   ·grind
   ·exact absurd ((h.has j d λL e=>by cases e).blk f).2 (Nat.not_lt.2 r5)
def zBX (h:Li w p ls B6 vs){L:Ξ}(a:B6=some (r,L))(hr:r<ls.length){y:TypeInfo}(H:P.info? t=some y)(I:y.size=1):
 ∃ w',(Instr.storeAt t (.pointer (some ⟨p.blk,p.off+r,none⟩)) (vs.getD 0 undef)).run P w= .ok () w'/\ AQ (λb=>b=p.blk) w w'/\ Li w' { p with val:=.tuple (vs.setIfInBounds (r+1) (vs.getD 0 undef)) } (ls.set r L) none (vs.setIfInBounds (r+1) (vs.getD 0 undef))/\ EG w' p.blk:=by
 obtain ⟨c,hd⟩:=h.inHand r L a;obtain ⟨cs,z,A,Z,J,k4⟩:=h.row
 generalize hU:vs.getD 0 undef=u at*
 have l:u.cells= #[u]:=by rcases c with ⟨_,rfl⟩ | ⟨q,cap,rfl,_⟩ <;> rfl
 have V5:r+1<vs.size:=by rw [h.size];omega
 have BH:w.cell? ⟨p.blk,p.off+r,none⟩=some vs[r+1]:=by
  grind [World.cell?]
 have K: ∀ f,w.frozen? ⟨p.blk,f,none⟩=false:=λf=>by unfold World.frozen?;simp [A]
 have g: ∀ j,j≠r -> (vs.setIfInBounds (r+1) u).getD (j+1) undef=vs.getD (j+1) undef:=λj d=>by
  rw [zH6,zH6,Array.getElem?_setIfInBounds_ne (by omega)]
 have N:(vs.setIfInBounds (r+1) u).getD (r+1) undef=u:=by
  simp_all
 obtain ⟨V,n,B,e3⟩:=Ss p.blk z (0,0) [u] (p.off+r) w cs A (by simp;omega);have s:AQ (λb=>b=p.blk) w (w.setCells p.blk (p.off+r) [u]):=RD _ _ _ _
 generalize O:w.setCells p.blk (p.off+r) [u]=W at s n
 have stay: ∀ b,b≠p.blk -> b<w.heap.size -> W.heap[b]? =w.heap[b]? :=λb Q m=>s.block b m Q
 refine ⟨W,?_,s,?_,.cells n⟩
 ·rw [←O]
  have:=eo (w:=w) (b:=p.blk) (o:=p.off+r) (v:=u) H (by rw [l,I];rfl) (λf bA=>by
   grind) K (λx C=>by
   have:x=u:=by rw [l] at C;simpa using C
   subst this;rcases c with ⟨_,rfl⟩ | ⟨q,cap,rfl,_⟩ <;> rfl)
  rw [l] at this;exact this
 ·have S: ∀ j,j≠r -> (ls.set r L).getD j default=ls.getD j default:=λj d=>by
   grind
  refine ⟨rfl,by simpa using h.size,⟨V,z,n,by simpa [B] using Z,by rw [B];exact J,λj d=>?_⟩,h.blk,λj d _=>?_,λi j b hi d _ _ D E=>?_,λk L e=>by cases e⟩
  ·grind
  ·rw [zGZ] at d
   by_cases e:j=r
   ·subst e;rw [N,show (ls.set j L).getD j default=L by simp [zGH,d]];exact c.out (λb M _ m=>stay b M.2 m) λ_ h _=>h
   ·rw [g j e,S j e];exact (h.has j d λL' R=>by rw [a] at R;cases R;exact e rfl).out (λb M _ m=>stay b M.2 m) λ_ h _=>h
  ·rw [zGZ] at hi d
   by_cases F:i=r
   ·grind
   ·rw [g i F] at D
    by_cases G:j=r
    ·grind
    ·rw [g j G] at E;exact h.apart i j b hi d (λL' R=>by rw [a] at R;cases R;exact F rfl) (λL' R=>by rw [a] at R;cases R;exact G rfl) D E
def pL (R:AS P Γ N S ρ a w){o:Oper}{S':St}{fz LY:List (Nat×Fz)}{vc:List Prop}(h:Ym P S fz o=some (S',vc,LY))(G:Bp vc):
 BP P (execOp a.eval o) w (λv w'=>(∃ ρ',AS P Γ N S' ρ' (a.put o.dst v) w'/\ DJ S.h ρ w S'.h ρ' w')/\ ((∀ t x y,o.op≠.store t x y)∨∃ k i p t x y,o.op= .store t x y/\ AZ S.fr x= .mp k 1 i 0/\ ρ[k]? =some p/\ AQ p.foot w w')):=by
 unfold Ym at h;split at h
 ·rename_i t x y f;split at h
  case h_2=>cases h
  rename_i d rest;split at h
  case isFalse=>cases h
  split at h
  case h_2=>cases h
  rename_i r hT;obtain ⟨e,i⟩:=r;split at h
  case h_2=>cases h
  rename_i k1 m k2 Z hx hy;cases h;obtain ⟨⟨rfl,Hh,Hg⟩,_⟩:=G;obtain ⟨C,hi,H,hs,Eb⟩:=zBZ hT;have rx:=BW R x;have n:=BW R y;rw [hx] at rx;rw [hy] at n;have J:(madeCells (Value.slice none 0 0).cells (Z.toNat*i.size)).size=Z.toNat:=by rw [size_madeCells,hs,zIS]
  have FO: ∀ j,j<Z.toNat -> (madeCells (Value.slice none 0 0).cells (Z.toNat*i.size))[j]? =some (Value.slice none 0 0):=λj q=>by
   simp [madeCells,hs,q,Value.cells,Nat.mod_one]
  refine BP.value (s:=Instr.makeSlice t (a.eval x) (a.eval y)) (by unfold execOp;rw [f]) (v:=.slice (some ⟨w.heap.size,0,none⟩) Z.toNat Z.toNat) (w':=w.alloc (.cells (madeCells (Value.slice none 0 0).cells (Z.toNat*i.size)) e)) ?_ ?_
  ·rw [show a.eval x=_ from rx,show a.eval y=_ from n];refine run_make w t e i _ C hi H k1 k2 Z Z Hh (zGl _) ?_ (by omega);have:(i.bytes:Int)*Z<=128*1000000000000:=Int.mul_le_mul (by omega) Hg Hh (by omega);omega
  ·generalize hC:madeCells (Value.slice none 0 0).cells (Z.toNat*i.size)=cs at J FO ⊢
   have hg: ∀ j,j<Z.toNat -> (#[undef]++Array.replicate Z.toNat (Value.slice none 0 0)).getD (j+1) undef= .slice none 0 0:=λj q=>by
    simp [zH6,Array.getElem?_append,q]
   refine ⟨OH R o.dst (Wa (ob:=.cells cs e) (o:=.mo (.rws (List.replicate Z.toNat []) none)) (d:=.msl S.h.length 1 0 Z.toNat) (pl:=⟨w.heap.size,0,cs.size,.tuple (#[undef]++Array.replicate Z.toNat (Value.slice none 0 0)),λb=>b=w.heap.size⟩) R.hr rfl rfl (λM ρ'=>?_) (λM ρ' g=>⟨_,Z.toNat,g,by simp,zGT _,by unfold LB;omega,by simp [J]⟩) true) λ_ _ h=>h,.inl λt x y e=>by rw [f] at e;cases e⟩;refine ⟨#[undef]++Array.replicate Z.toNat (Value.slice none 0 0),rfl,by simp;omega,⟨cs,e,zMR w _,by simp [J],zGT _,λj q=>?_⟩,rfl,λj q _=>.inl ⟨?_,?_⟩,λi j b hi q _ _ h1 h2=>?_,λk L e=>by cases e⟩
   ·grind
   ·grind
   ·grind
   ·rw [zH0] at hi;rw [hg i hi] at h1;cases h1
 ·rename_i c f;split at h
  case h_2=>cases h
  rename_i u;split at h
  case h_2=>cases h
  rename_i x y ha;split at h
  case h_2=>cases h
  rename_i t t' ht;split at h
  case isFalse=>cases h
  rename_i e;subst e;split at h
  case h_2=>cases h
  rename_i e i z hk;obtain ⟨C,hi,H,h0,C7,Fd,_⟩:=Ww hk;have Dp:i.size=1:=Fd.symm;split at h
  case isTrue=>cases h
  rename_i Eb;have rx:=BW R x;have n:=BW R y;split at h
  case h_2=>cases h
  rename_i j r ys vy D K;split at h
  case h_2=>cases h
  rename_i ls I;cases h;obtain ⟨v1,O,v3,v4,_⟩:=G;rw [D] at rx;obtain ⟨p,vs,g,A,Q⟩:=pK R I rx;have V:a.eval x=vs.getD (r+1) undef:=by simp [zH6,Q]
  obtain ⟨w',u',p',T,B,U,E,g5,g6,g7⟩:=zBY (ty:=o.type) A v3 (λb l=>(R.hr.cel j _ p b I g l).2.2) C hi H Dp C7 (by omega) (by rw [Dp];exact Vs R C n K v1) O v4;refine BP.value (OO f u ha ht) (by rw [V];exact T) ?_
  exact ⟨pJ R I g B U E g5 g6 g7 o.dst λM ρ' hq=>⟨p',_,hq,E.val,by
   grind⟩,.inl λt x y e=>by rw [f] at e;cases e⟩
 ·rename_i t x y f;split at h
  case h_2=>cases h
  rename_i jk;split at h
  case h_2=>cases h
  rename_i j r j' D K;split at h
  case h_2=>cases h
  rename_i ls X L I;split at h
  case isFalse=>cases h
  rename_i u;cases h;obtain ⟨rfl,F⟩:=u;obtain ⟨rfl,O,_⟩:=G;have rx:=BW R x;have n:=BW R y;rw [D] at rx;rw [K] at n;obtain ⟨p,vs,g,A,Q⟩:=pK R I n;obtain ⟨p2,QA,V⟩:=rx;have:p2=p:=zGJ (QA.symm.trans g);subst this;cases Y:P.info? t with
  | none=>rw [Y] at F;cases F
  | some ti=>
  rw [Y] at F;have ka:a.eval x= .pointer (some ⟨p2.blk,p2.off+X,none⟩):=by rw [V];simp
  have ey:a.eval y=vs.getD 0 undef:=by simp [zH6,Q]
  obtain ⟨W,T,B,U,E⟩:=zBX A rfl O Y (by simpa using F);refine BP.skip (s:=Instr.storeAt t (a.eval x) (a.eval y)) (by unfold execOp;rw [f]) (w':=W) (by rw [ka,ey];exact T) ?_
  have:=pJ (a:=a) (p':={ p2 with val:=.tuple (vs.setIfInBounds (X+1) (vs.getD 0 undef)) }) R I g (B.mono λb _ l=>by rw [show b=p2.blk from l];exact A.blk) (λb l=>⟨.inl l,by
   by_cases e:b=p2.blk
   ·rw [e];exact E
   ·obtain ⟨c,t1,t2,u⟩:=(R.hr.cel _ _ p2 b I g l).2.2;exact ⟨c,t1,t2,(B.block b (zGI.1 u).1 e).trans u⟩⟩) U rfl rfl rfl none (d:=.any) (v:=undef) λ_ _ _=>trivial
  rw [jk];exact ⟨this,.inr ⟨j',X,p2,t,x,y,f,D,g,B.mono λb _ l=>by rw [show b=p2.blk from l];exact A.blk⟩⟩
 ·cases h
end
abbrev zMO:=@Bool.false_or
abbrev zMl:=@Bool.false_ne_true
def ES (P:Program)(Γ:Au)(f:Nat)(ds:List DV)(h:DH)(d:DV)(h':DH)(ext:Bool):Prop:=
 (∃ fn,P.funcs[f]? =some fn/\ fn.name≠ "runtime.NumGoroutine" /\ fn.body.isSome=true)/\
 ∀ (N:Ψ) (ρ:List AI) (w:World) (args:Array Value),Aq P Γ N h ρ w -> BE (MS N h ρ) w ρ ds args ->
  Calls P f args w λe w'=>∃ v,e= .returned v/\ CC P Γ N h ρ w ext d h' v w'
def aO (h h':DH):Bool:=(List.range h.length).all λk=>!(h.getD k none).isSome||(h'.getD k none).isSome
def ESu (P:Program)(Γ:Au)(f:Nat)(ds:List DV)(h:DH)(d:DV)(h':DH)(k:Nat):Prop:=
 (∃ fn,P.funcs[f]? =some fn/\ fn.name≠ "runtime.NumGoroutine" /\ fn.body.isSome=true)/\
 ∀ (N:Ψ) (ρ:List AI) (w:World) (args:Array Value),Aq P Γ N h ρ w -> BE (MS N h ρ) w ρ ds args ->
  Calls P f args w λe w'=>∃ v,e= .returned v/\ CC P Γ N h ρ w false d h' v w'/\ AQ (λb=>∃ i o p,k<=i/\ h[i]? =some (some o)/\ ρ[i]? =some p/\ p.foot b) w w'
structure BR where
 calls:List (DV×DH×Bool)
 co:List (Nat×DV)
 fz:List (Nat×Fz):=[]
 tg:List (List (Nat×Nat)×St):=[]
def Kg (ops:Array Oper)(S:St)(o:Oper):Option Bool:=match o.guard with
 | none=>some true
 | some (j,K)=>match (ops[j]?).bind (·.dst) with
  | some t=>match S.fr.getD t .any with
   | .bool b=>some (b==K)
   | .tup _ _=>some false
   | _=>none
  | none=>none
def XK (C:List (Nat×DV))(dst:Option Nat)(d:DV):DV×List Prop×List (Nat×DV):=match C with
 | []=>(d,[],[])
 | (t,d')::rest=>match dst with
  | some N=>if N=t then (d',[AN d d'],rest) else (d,[],C)
  | none=>(d,[],C)
def M4 (S:St):Op -> Bool
 | .move _=>true
 | .assign _=>true
 | .pick .. =>true
 | .binOp .shl .. =>false
 | .binOp .shr .. =>false
 | .binOp .quo .. =>false
 | .binOp .rem .. =>false
 | .binOp _ _ _ y _=>match AZ S.fr y with
  | .nils=>false
  | _=>true
 | .unOp .. =>true
 | .convert .. =>true
 | .nilCheck _=>true
 | .fieldAddr .. =>true
 | .extract .. =>true
 | .makeFunc .. =>true
 | .build .. =>true
 | .field .. =>true
 | .call _=>true
 | .load _ x=>match AZ S.fr x with
  | .mp .. =>false
  | _=>true
 | _=>false
def zFp:Op -> Bool
 | .box .. =>true
 | .alloc _=>true
 | .buildSlice .. =>true
 | .makeSlice .. =>true
 | .store .. =>true
 | .makeMap .. =>true
 | .mapUpdate .. =>true
 | .insert .. =>true
 | .lookup .. =>true
 | .range .. =>true
 | .entry _=>true
 | .call c=>match c.callee with
  | .builtin .append=>true
  | .value _=>true
  | _=>false
 | _=>false
def VI (P:Program)(ops:Array Oper)(S:St)(C:List (Nat×DV))(o:Oper):Option (St×List Prop×List (Nat×DV)):=match Kg ops S o with
 | none=>none
 | some false=>some (⟨Cp S.fr o.dst RG,S.h⟩,[],C)
 | some true=>match VS P S o.op with
  | none=>none
  | some (d,a)=>match XK C o.dst d with
   | (d',vs,m)=>some (⟨Cp S.fr o.dst d',S.h⟩,(if M4 S o.op then vs else a::vs),m)
def VK (P:Program)(ops:Array Oper):List Oper -> St -> List (Nat×DV) -> Option (St×List Prop×List (Nat×DV))
 | [],S,C=>some (S,[],C)
 | o::rest,S,C=>match VI P ops S C o with
  | none=>none
  | some (S',vs,m)=>match VK P ops rest S' m with
   | none=>none
   | some (R,b,L)=>some (R,vs++b,L)
def Oa (P:Program)(Γ:Au)(S:St)(a:List (DV×DH×Bool)):Op -> Option (DV×DH×List Prop×Bool×List (DV×DH×Bool))
 | .box _ x=>match KT (AZ S.fr x) with
  | some l=>some (.ref S.h.length 0,S.h++[some (.cells l)],[],true,a)
  | none=>none
 | .alloc t=>match P.info? t with
  | some i=>match i.zero with
   | some z=>if dE z then some (.mp S.h.length 1 0 0,S.h++[some (.bools (List.replicate z.cells.size false))],[],true,a)
    else some (.ref S.h.length 0,S.h++[some (.cells (z.cells.toList.map Nf))],[],true,a)
   | none=>none
  | none=>none
 | .buildSlice t len parts=>match Lc P t with
  | some (k,_,_,_)=>if cA parts.toList len&&decide (len<=65536/\ k.cells<=64) then match Tc k (parts.toList.map λx=>AZ S.fr x.2) with
   | some ob=>some (.msl S.h.length k.cells 0 len,S.h++[some ob],[],true,a)
   | none=>none
   else none
  | none=>none
 | .makeSlice t x y=>match Z2 P t with
  | some (n,_,_)=>match AZ S.fr x,AZ S.fr y with
   | .int _ m,.int _ Z=>some (.msl S.h.length 1 0 m.toNat,S.h++[some (.mo (.sets n (List.replicate m.toNat none) none))],[Z=m/\ 0<=m/\ m<=1000000000000],true,a)
   | _,_=>none
  | none=>match Lc P t with
   | some (k,_,i,z)=>if decide (i.bytes<=128) then match AZ S.fr x,AZ S.fr y with
    | .int _ n,.int _ W=>some (.msl S.h.length k.cells 0 n.toNat,S.h++[some (r9 k n.toNat z)],[W=n/\ 0<=n/\ n<=1000000000000],true,a)
    | _,_=>none
    else none
   | none=>none
 | .store t x y=>match Ov P S t (AZ S.fr x) (AZ S.fr y) with
  | some (h',b)=>some (.any,h',[b],false,a)
  | none=>none
 | .call c=>match c.callee with
  | .builtin .append=>match c.args.toList with
   | [x,y]=>match c.argTypes.toList with
    | [t,N]=>if t=N then match Ti P S t (AZ S.fr x) (AZ S.fr y) with
     | some (d,h',b)=>some (d,h',[b],false,a)
     | none=>none
     else none
    | _=>none
   | _=>none
  | .value f=>match AZ S.fr f,a with
   | .fn g m cap,(d,h',ext)::rest=>some (d,h',[ES P Γ g (c.args.toList.map (AZ S.fr)++(List.range m).map cap) S.h d h' ext],ext,rest)
   | _,_=>none
  | _=>none
 | op=>match gZ P S op with
  | some (d,h',vs,ext)=>some (d,h',vs,ext,a)
  | none=>none
def Qq (P:Program)(Γ:Au)(ops:Array Oper)(S:St)(M:BR)(o:Oper):Option (St×List Prop×Bool×BR):=match Kg ops S o with
 | none=>none
 | some false=>some (⟨Cp S.fr o.dst RG,S.h⟩,[],true,M)
 | some true=>match Ym P S M.fz o with
  | some (S',vs,R)=>some (S',vs,false,⟨M.calls,M.co,R,M.tg⟩)
  | none=>match YD P S o with
  | some (S',vs)=>some (S',vs,false,M)
  | none=>match Oa P Γ S M.calls o.op with
   | none=>none
   | some (d,h',vs,ext,l)=>match XK M.co o.dst d with
    | (d',b,m)=>match Wf M.fz o.dst ⟨Cp S.fr o.dst d',h'⟩ with
     | none=>none
     | some (S',n,R)=>some (S',vs++(b++n),ext,⟨l,m,R,M.tg⟩)
def EN (P:Program)(Γ:Au)(ops:Array Oper):List Oper -> St -> BR -> Option (St×List Prop×BR)
 | [],S,M=>some (S,[],M)
 | o::rest,S,M=>match zFp o.op with
  | true=>match Qq P Γ ops S M o with
   | none=>none
   | some (S',vs,_,t)=>match EN P Γ ops rest S' t with
    | none=>none
    | some (R,b,y)=>some (R,vs++b,y)
  | false=>match VI P ops S M.co o with
   | none=>none
   | some (S',vs,m)=>match EN P Γ ops rest S' ⟨M.calls,m,M.fz,M.tg⟩ with
    | none=>none
    | some (R,b,y)=>some (R,vs++b,y)
def lK (P:Program)(Γ:Au)(a:DH)(ops:Array Oper)(S:St)(M:BR)(o:Oper):Option (St×List Prop×BR):=match o.op with
 | .call c=>match c.callee with
  | .value f=>match AZ S.fr f,M.calls with
   | .fn g m cap,(d,h',false)::rest=>match Kg ops S o,aO a S.h with
    | some true,true=>match XK M.co o.dst d with
     | (d',b,e)=>match Wf M.fz o.dst ⟨Cp S.fr o.dst d',h'⟩ with
      | some (S',n,R)=>some (S',ESu P Γ g (c.args.toList.map (AZ S.fr)++(List.range m).map cap) S.h d h' a.length::(b++n),⟨rest,e,R,M.tg⟩)
      | none=>none
    | _,_=>none
   | _,_=>none
  | _=>none
 | _=>none
def bh (H:Θ)(c h:DH):DH:=match H with
 | []=>c
 | _=>h
def Sa (P:Program)(Γ:Au)(ops:Array Oper):DH -> List (Θ×Nat) -> Θ -> St -> BR -> Option (St×List Prop×BR)
 | _,[],B,S,M=>match VK P ops (CQ ops B) S M.co with
  | none=>none
  | some (S',vs,m)=>some (S',vs,⟨M.calls,m,M.fz,M.tg⟩)
 | hb,(H,i)::e,B,S,M=>match VK P ops (CQ ops H) S M.co with
  | none=>none
  | some (S',vs,m)=>match ops[i]? with
   | none=>none
   | some o=>match lK P Γ (bh H hb S.h) ops S' ⟨M.calls,m,M.fz,M.tg⟩ o with
    | some (R,b,t)=>match Sa P Γ ops (bh H hb S.h) e B R t with
     | none=>none
     | some (a,c,A)=>some (a,vs++(b++c),A)
    | none=>match Qq P Γ ops S' ⟨M.calls,m,M.fz,M.tg⟩ o with
     | none=>none
     | some (R,b,ext,t)=>match ext with
      | false=>none
      | true=>match Sa P Γ ops (bh H hb S.h) e B R t with
       | none=>none
       | some (a,c,A)=>some (a,vs++(b++c),A)
def hseq (P:Program)(Γ:Au)(ops:Array Oper)(c:DH)(s:List (Θ×Nat))(B e:Θ)(S:St)(M:BR):Option (St×List Prop×BR):=match Sa P Γ ops c s B S M with
 | none=>none
 | some (S',vs,t)=>match EN P Γ ops (CQ ops e) S' t with
  | none=>none
  | some (R,b,y)=>some (R,vs++b,y)
section
variable {P:Program} {Γ:Au} {N:Ψ} {S:St} {ρ:List AI} {a:Act} {w:World} {F:Fence}
structure Dv (F:Fence)(P:Program):Prop where
 fn: ∀ f,F.fn f
 dep:F.depth=none
 calls: ∀ {f:FuncId} {args:Array Value} {w:World} {R:Ending -> World -> Prop},Calls P f args w R -> CallsIn F 0 P f args w R
def Dv.wide:Dv Fence.wide P:=⟨λ_=>trivial,rfl,λh=>zM4.2 h⟩
def Dv.round (l:Nat):Dv (Fence.wide.inRound l) P:=⟨λ_=>trivial,rfl,λh=>CallsIn.inRound _ (zM4.2 h)⟩
variable {o:Oper}{ops:Array Oper}
def Im (R:AS P Γ N S ρ a w){r:Bool}(h:Kg ops S o=some r):Region.wanted o (yielded ops a.tmps)=r:=by
 unfold Kg at h;unfold Region.wanted;split at h
 ·rename_i c;rw [c];cases h;rfl
 ·rename_i j me c;rw [c];split at h
  ·rename_i t X;split at h
   ·rename_i b d;cases h;have i:=R.fr.at t;rw [d] at i;have p:a.tmps.getD t undef= .bool b:=i
    have:a.tmps[t]? =some (.bool b):=by
     rw [zH6] at p;cases e:a.tmps[t]? with
     | none=>rw [e] at p;cases p
     | some u=>rw [e] at p;exact congrArg some p
    simp [yielded,X,this]
   ·rename_i m f d;cases h;have i:=R.fr.at t;rw [d] at i;obtain ⟨cs,p,_⟩:=i
    have:yielded ops a.tmps j=none:=by
     unfold yielded;rw [X]
     show (match a.tmps[t]? with | some (.bool b)=>some b | _=>none)=none
     rw [zH6] at p
     grind
    simp [this]
   ·cases h
  ·cases h
variable {d:DV}{C:List (Nat×DV)}
def XJ {dst:Option Nat}{d':DV}{vs:List Prop}{m:List (Nat×DV)}(h:XK C dst d=(d',vs,m))(p:Bp vs){M:Ψ}{v:Value}(i:AJ M w d ρ v):AJ M w d' ρ v:=by
 unfold XK at h;split at h
 ·cases h;exact i
 ·split at h
  ·split at h
   ·cases h;exact p.1 M w ρ v i
   ·cases h;exact i
  ·cases h;exact i
variable {b:Prop}
theorem qg {a:Op}(h:pop P S a=some (d,b))(X:M4 S a=true):b:=by
 unfold pop at h;split at h
 ·cases h;trivial
 ·cases h;trivial
 ·grind
 ·rename_i t x;simp only [M4] at X;unfold Pe at h
  grind
 ·rename_i a t x y t';unfold ck at h;split at h
  ·grind
  ·grind
  ·rename_i e;simp [M4,e] at X
  ·rename_i e;simp [M4,e] at X
  ·rename_i e;simp [M4,e] at X
  ·cases X
  ·cases X
  ·cases X
  ·cases X
  ·split at h
   ·unfold cg at h
    grind
   ·cases h
  ·cases h
 ·grind
 ·grind
 ·grind
 ·grind
 ·cases X
 ·grind
 ·grind
 ·split at h
  ·unfold ca at h;split at h
   ·split at h
    ·split at h
     ·unfold aE at h
      grind
     ·cases h
    ·cases h
   ·split at h
    ·unfold gW at h
     grind
    ·cases h
   ·split at h
    ·unfold gV at h
     grind
    ·cases h
   ·cases h
  ·cases h
 ·cases h
theorem zJ2 {S:BinOp}{t:TypeId}{x y:DV}{a:Prop}(h:Wt P S t x y=some (d,a)):a:=by
 unfold Wt at h
 grind
def yN {a:Op}(h:VS P S a=some (d,b))(X:M4 S a=true):b:=by
 unfold VS at h;split at h
 ·grind
 ·grind [aD]
 ·cases X
 ·unfold bY at h
  repeat' (split at h)
  all_goals grind
 ·cases X
 ·grind [zJ2,qg]
 ·exact qg h X
def ZL (R:AS P Γ N S ρ a w){S':St}{vs:List Prop}{m:List (Nat×DV)}(h:VI P ops S C o=some (S',vs,m))(p:Bp vs):
 S'.h=S.h/\ ((Region.wanted o (yielded ops a.tmps)=true/\ ∃ v,(∀ W,Keep N w W -> (execOp a.eval o).run P W= .ok (.value v) W)/\ AS P Γ N S' ρ (a.put o.dst v) w)∨(Region.wanted o (yielded ops a.tmps)=false/\ AS P Γ N S' ρ (a.put o.dst undef) w)):=by
 unfold VI at h;split at h
 ·cases h
 ·rename_i U;cases h;exact ⟨rfl,.inr ⟨Im R U,HN R _ Xx⟩⟩
 ·rename_i U;split at h
  ·cases h
  ·rename_i d c g;split at h;rename_i d' e vb n;cases h
   have b:c/\ Bp e:=by
    by_cases X:M4 S o.op=true
    ·rw [zEZ X] at p;exact ⟨yN g X,p⟩
    ·rw [zGN X] at p;exact p
   obtain ⟨v,f,s⟩:=zDY R o g b.1;exact ⟨rfl,.inl ⟨Im R U,v,f,HN R _ (XJ n b.2 s)⟩⟩
theorem VJ {Q:Act -> Prop}: ∀ (l:List Oper) {S:St} {a:Act} {C:List (Nat×DV)} {S':St} {vs:List Prop} {m:List (Nat×DV)},AS P Γ N S ρ a w -> VK P ops l S C=some (S',vs,m) -> Bp vs ->
 (∀ b,S'.h=S.h -> AS P Γ N S' ρ b w -> b.defers=a.defers -> Q b) -> wpQuiet P ops (λw'=>∃ x:Xh w,w'=x.W) Q l a
 | [],S,a,C,S',vs,m,R,h,_,c=>by
  cases h;exact c a rfl R rfl
 | o::rest,S,a,C,S',vs,m,R,h,p,c=>by
  simp only [VK] at h;split at h
  ·cases h
  ·rename_i S1 Da cQ j;split at h
   ·cases h
   ·rename_i S2 FW co2 e;cases h;obtain ⟨L,I⟩:=DY.1 p;obtain ⟨f,n⟩:=ZL R j L;unfold wpQuiet;have g: ∀ v,(a.put o.dst v).defers=a.defers:=λv=>by cases ho:o.dst <;> simp [Act.put]
    rcases n with ⟨U,v,q,s⟩ | ⟨U,s⟩
    ·rw [zEZ U];refine ⟨v,?_,VJ rest s e I λb i k d=>c b (i.trans f) k (d.trans (g v))⟩;rintro W ⟨x,rfl⟩;unfold Oper.quietAt;rw [q x.W (Keep.ofExt x.le)];exact ⟨rfl,rfl⟩
    ·rw [zGN (by rw [U];exact zMl)];exact VJ rest s e I λb i k d=>c b (i.trans f) k (d.trans (g undef))
def BE.append {M:Ψ}{l l':List DV}{t N:Array Value}(h:BE M w ρ l t)(h':BE M w ρ l' N):BE M w ρ (l++l') (t++N):=by
 refine ⟨by simp [h.1,h'.1],λi hi=>?_⟩;rcases zIW i l.length with hl | hl
 ·have:=h.2 i hl;have X:i<t.size:=by rw [←h.1];exact hl
  simp_all [Array.getElem?_append_left]
 ·have K:i-l.length<l'.length:=by simp at hi;omega
  have:=h'.2 _ K;have X:t.size<=i:=by rw [←h.1];exact hl
  simp only [zGH,zH6] at this ⊢;rw [zH1 hl,Array.getElem?_append_right X,←h.1];exact this
variable {g:Nat}
def zB0 {args:Array Value}{fn:Func}(e:P.funcs[g]? =some fn)(j:fn.name≠ "runtime.NumGoroutine")(tw:fn.body.isSome=true):(callFunc g args).run P w= .ok (.enter g args) w:=by
 have d:fn.body.isNone=false:=by simp_all
 have k:(fn.name== "runtime.NumGoroutine")=false:=by simpa using j
 unfold callFunc;rw [zGu,show Sem.run P program w= .ok P w from rfl];simp only [Result.andThen,e,k,d,zIp,zMy];rfl
variable {cap:Nat -> DV}{m:Nat}{f:Operand}{c:Call}
def lJ (R:AS P Γ N S ρ a w)(o:Oper)(x:o.op= .call c)(l:c.callee= .value f)(M:AZ S.fr f= .fn g m cap) 
 (e: ∀ args W,(callFunc g args).run P W= .ok (.enter g args) W): ∃ args,(execOp a.eval o).run P w= .ok (.enter g args) w/\ BE (MS N S.h ρ) w ρ (c.args.toList.map (AZ S.fr)++(List.range m).map cap) args:=by
 have b:=BW R f;rw [M] at b;obtain ⟨Y,p,j,QL⟩:=b;refine ⟨c.args.map a.eval++Y,?_,BE.append ⟨by simp,λi hi=>?_⟩ ⟨by simp [j],λi hi=>?_⟩⟩
 ·unfold execOp;rw [x]
  show ((resolve a.eval c o.type)>>=λd=>invoke d.target d.args).run P w=_
  unfold resolve;rw [l];simp only [Deferred.ofValue,p];have J:((pure { target:=.fn (.func g) Y,args:=#[]++Array.map a.eval c.args }:Sem Deferred)>>=λd=>invoke d.target d.args).run P w=(callFunc g (#[]++Array.map a.eval c.args++Y)).run P w:=rfl;rw [J,e];simp
 ·have K:i<c.args.size:=by simpa using hi
  have:=BW R c.args[i];simp [K,this]
 simp_all
variable {G:Value -> World -> Prop}
def vz (R:AS P Γ N S ρ a w)(o:Oper)(x:o.op= .call c)(l:c.callee= .value f)(M:AZ S.fr f= .fn g m cap) 
 (b: ∃ fn,P.funcs[g]? =some fn/\ fn.name≠ "runtime.NumGoroutine" /\ fn.body.isSome=true) (C: ∀ args,BE (MS N S.h ρ) w ρ (c.args.toList.map (AZ S.fr)++(List.range m).map cap) args -> Calls P g args w λe w'=>∃ v,e= .returned v/\ G v w'):BP P (execOp a.eval o) w G:=
 let ⟨_,d,i,j⟩:=b
 let ⟨args,A,k⟩:=lJ R o x l M λ_ _=>zB0 d i j
 .inr (.inr ⟨g,args,w,A,C _ k⟩)
variable {ext:Bool}{h':DH}
def zLM (R:AS P Γ N S ρ a w)(o:Oper)(x:o.op= .call c)(l:c.callee= .value f)(M:AZ S.fr f= .fn g m cap) 
 (C:ES P Γ g (c.args.toList.map (AZ S.fr)++(List.range m).map cap) S.h d h' ext):BP P (execOp a.eval o) w (CC P Γ N S.h ρ w ext d h'):=
 vz R o x l M C.1 λargs D=>C.2 N ρ w args R.hr D
def mA (R:AS P Γ N S ρ a w){l:List (DV×DH×Bool)}{vs:List Prop}{r:List (DV×DH×Bool)}(h:Oa P Γ S l o.op=some (d,h',vs,ext,r))(p:Bp vs):
 BP P (execOp a.eval o) w (CC P Γ N S.h ρ w ext d h'):=by
 unfold Oa at h;split at h
 ·grind [zLR]
 ·grind [zL1,zL0]
 ·rename_i t len parts b;split at h
  ·rename_i k e i z hk;split at h
   ·rename_i j;simp only [zEh,zHx] at j
    grind [zLP]
   ·cases h
  ·cases h
 ·rename_i t x y b;split at h
  ·rename_i n e i hT;split at h
   ·rename_i A m Z m' s hy;cases h;obtain ⟨⟨rfl,K,L⟩,_⟩:=p
    grind [zEt]
   ·cases h
  split at h
  ·rename_i k e i z hk;split at h
   ·rename_i Eb;split at h
    ·rename_i A n Z n' s hy;cases h;obtain ⟨⟨rfl,K,L⟩,_⟩:=p
     grind [zEs]
    ·cases h
   ·cases h
  ·cases h
 ·rename_i t x y b;split at h
  ·rename_i q u v;cases h;exact oA R v p.1 o b
  ·cases h
 ·rename_i c b;split at h
  ·rename_i j;split at h
   ·rename_i x y D;split at h
    ·rename_i t t' X;split at h
     ·rename_i e;subst e;split at h
      ·rename_i B q u C;cases h;exact wf R C p.1 o b j D X
      ·cases h
     ·cases h
    ·cases h
   ·cases h
  ·rename_i f j;split at h
   ·rename_i g m cap B q ext1 rest M;cases h;exact zLM R o b j M p.1
   ·cases h
  ·cases h
 grind [zEn]
variable {Q:Exit -> Act -> World -> Prop}{K:Act -> World -> Prop}
def Lf (e:Dv F P)(r: ∀ c,o.op≠.defer c)(h:BP P (execOp a.eval o) w G)(j: ∀ v w',G v w' -> K (a.put o.dst v) w'):o.wpIn F 0 P a w K Q:=by
 refine ⟨λf _=>e.fn f,?_⟩;rw [zI1 _ _ _ r];rcases h with ⟨v,w',b,d⟩ | ⟨w',b,d⟩ | ⟨f,args,w',b,d⟩
 ·rw [b];exact j v w' d
 ·rw [b];exact j undef w' d
 ·rw [b];refine ⟨λg=>(by rw [e.dep] at g;cases g),(e.calls d).mono ?_⟩
  grind
def lV (g:Dv F P)(R:AS P Γ N S ρ a w){m:BR}(r: ∀ c,o.op≠.defer c){S':St}{vs:List Prop}{t:BR}(h:Qq P Γ ops S m o=some (S',vs,ext,t))(p:Bp vs) 
   (j: ∀ ρ' i w',AS P Γ N S' ρ' i w' -> DJ S.h ρ w S'.h ρ' w' -> i.defers=a.defers -> (ext=true -> A0 w w') -> K i w'):
 if Region.wanted o (yielded ops a.tmps) then o.wpIn F 0 P a w K Q else (∀ f,o.about P w a.eval=some f -> F.fn f)/\ K (a.put o.dst undef) w:=by
 have l: ∀ v,(a.put o.dst v).defers=a.defers:=λv=>by cases ho:o.dst <;> simp [Act.put]
 unfold Qq at h;split at h
 ·cases h
 ·rename_i U;cases h;rw [zGN (by rw [Im R U];exact zMl)];exact ⟨λf _=>g.fn f,j ρ _ _ (HN R _ Xx) (DJ.refl _ _ _) (l _) λ_=>A0.refl w⟩
 ·rename_i U;rw [zEZ (Im R U)];split at h
  ·rename_i n k fz1 Y;cases h;exact Lf g r (pL R Y p) λv w' ⟨⟨ρ',b,s⟩,_⟩=>j ρ' _ _ b s (l v) λe=>by cases e
  split at h
  ·rename_i n k Y;cases h;exact Lf g r (n9 R Y p) λv w' ⟨⟨ρ',b,s⟩,_⟩=>j ρ' _ _ b s (l v) λe=>by cases e
  split at h
  ·cases h
  ·rename_i d h1 k ext1 calls q;split at h;rename_i d' Bz Ds u;split at h
   ·cases h
   ·rename_i S2 RB LY B;cases h;obtain ⟨L,z⟩:=DY.1 p;obtain ⟨I,x⟩:=DY.1 z;refine Lf g r (mA R q L) λv w' G=>?_
    obtain ⟨ρ',b,s⟩:=OH R o.dst G (d':=d') λM ρ' y=>XJ u I y
    obtain ⟨O,A⟩:=We _ B x P Γ N ρ' _ _ b;exact j ρ' _ _ O (s.trans ⟨A,λ_ _ h=>h⟩) (l v) G.ext
def LW (b:Dv F P)(i:DF ops=true): ∀ (l:List Oper) (_: ∀ o∈l,o∈ops) {S:St} {ρ:List AI} {a:Act} {w:World} {M:BR} {S':St} {vs:List Prop} {t:BR},
 AS P Γ N S ρ a w -> EN P Γ ops l S M=some (S',vs,t) -> Bp vs ->
 (∀ ρ' d w',AS P Γ N S' ρ' d w' -> DJ S.h ρ w S'.h ρ' w' -> d.defers=a.defers -> Q .normal d w') -> wpListIn F 0 P ops Q l a w
 | [],_,S,ρ,a,w,M,S',vs,t,R,h,_,g=>by
  cases h;exact g ρ a w R (DJ.refl _ _ _) rfl
 | o::rest,q,S,ρ,a,w,M,S',vs,t,R,h,r,g=>by
  have u: ∀ c,o.op≠.defer c:=by
   obtain ⟨j,B,e⟩:=Array.getElem_of_mem (q o (by simp));exact Hw i (j:=j) (by rw [zIe B,e])
  have x: ∀ o∈rest,o∈ops:=λo y=>q o (by simp [y])
  have C: ∀ v,(a.put o.dst v).defers=a.defers:=λv=>by cases y:o.dst <;> simp [Act.put]
  simp only [EN] at h;unfold wpListIn;split at h
  ·split at h
   ·cases h
   ·rename_i z D ext1 Gv k;split at h
    ·cases h
    ·rename_i E Y J m;cases h;obtain ⟨L,I⟩:=DY.1 r;exact lV b R u k L λρ' d w' R' st O _=>LW b i rest x R' m I λρ'' K G H s n=>g ρ'' K G H (st.trans s) (n.trans O)
  ·split at h
   ·cases h
   ·rename_i z D cQ k;split at h
    ·cases h
    ·rename_i E Y J m;cases h;obtain ⟨L,I⟩:=DY.1 r;obtain ⟨T,V⟩:=ZL R k L
     have A: ∀ v,AS P Γ N z ρ (a.put o.dst v) w -> wpListIn F 0 P ops Q rest (a.put o.dst v) w:=λv R'=>
      LW b i rest x R' m I λρ'' K G H s n=>g ρ'' K G H (by rw [←T];exact s) (n.trans (C v))
     rcases V with ⟨U,v,W,p⟩ | ⟨U,p⟩
     ·rw [zEZ U];refine ⟨λf _=>b.fn f,?_⟩;rw [zI1 _ _ _ u,W w (Keep.ofExt (A0.refl w))];exact A v p
     ·rw [zGN (by rw [U];exact zMl)];exact ⟨λf _=>b.fn f,A undef p⟩
def PJ : ∀ (l:Θ),∀ o∈CQ ops l,o∈ops
 | [],o,h=>by simp [CQ] at h
 | i::l,o,h=>by
  simp only [CQ] at h;split at h
  ·rename_i o' x;rcases zIq.1 h with rfl | h
   ·exact zMu x
   ·exact PJ l o h
  ·exact PJ l o h
def v6 (l:Dv F P)(R:AS P Γ N S ρ a w){j:DH}{n:BR}{S':St}{vs:List Prop}{t:BR}(h:lK P Γ j ops S n o=some (S',vs,t))(q:Bp vs) 
   (r: ∀ ρ' k w',AS P Γ N S' ρ' k w' -> DJ S.h ρ w S'.h ρ' w' -> k.defers=a.defers -> AQ (λb=>∃ i o p,j.length<=i/\ S.h[i]? =some (some o)/\ ρ[i]? =some p/\ p.foot b) w w' -> K k w'):
 aO j S.h=true/\ if Region.wanted o (yielded ops a.tmps) then o.wpIn F 0 P a w K Q else (∀ f,o.about P w a.eval=some f -> F.fn f)/\ K (a.put o.dst undef) w:=by
 have s: ∀ v,(a.put o.dst v).defers=a.defers:=λv=>by cases x:o.dst <;> simp [Act.put]
 unfold lK at h;split at h
 case h_2=>cases h
 rename_i c x;split at h
 case h_2=>cases h
 rename_i f u;split at h
 case h_2=>cases h
 rename_i g m cap d h' rest y hcalls;split at h
 case h_2=>cases h
 rename_i U hk;split at h;rename_i d' Bz Ds z;split at h
 case h_2=>cases h
 rename_i S1 RB LY B;cases h;obtain ⟨L,A⟩:=q;obtain ⟨I,C⟩:=DY.1 A;refine ⟨hk,?_⟩;rw [zEZ (Im R U)];refine Lf l (λc e=>by rw [x] at e;cases e) (vz R o x u y L.1 λargs D=>L.2 N ρ w args R.hr D) λv w' G=>?_
 obtain ⟨ρ',E,H⟩:=OH R o.dst G.1 (d':=d') λM ρ' J=>XJ z I J
 obtain ⟨O,T⟩:=We _ B C P Γ N ρ' _ _ E;exact r ρ' _ _ O (H.trans ⟨T,λ_ _ h=>h⟩) (s v) G.2
variable {ρb:List AI}
def zEY {c h:DH}{ρ:List AI}{b w w':World}(HR:Aq P Γ N h ρ w)(d:DJ c ρb b h ρ w)(C:A0 b w)(hk:aO c h=true)(g:AQ (λx=>∃ i o p,c.length<=i/\ h[i]? =some (some o)/\ ρ[i]? =some p/\ p.foot x) w w'):A0 b w':=by
 refine ((AQ.ofExt (S:=λx=>∃ i o p,c.length<=i/\ h[i]? =some (some o)/\ ρ[i]? =some p/\ p.foot x) C).comp g λ_ _ h=>h).toExt ?_;rintro x hx ⟨i,o,p,h1,e,f,A⟩;rcases d.st.grow x ⟨i,o,p,e,f,A⟩ with ⟨k,o',q,j,s,O⟩ | JF
 ·have l:=(zGe.1 j).1;have:=zGL.1 hk k (zGQ.2 l);rw [show (c.getD k none).isSome=true by grind,zIA,zMO] at this;obtain ⟨F,a⟩:=zNC.1 this;have a:h[k]? =some (some F):=getD_some a;exact HR.dis i k o F p q x (by omega) e a f (d.pl k q s) A O
 ·omega
def ix (d:Dv F P)(v:DF ops=true){Q:Exit -> Act -> World -> Prop}: ∀ (O:List (Θ×Nat)) (B e:Θ) {S:St} {ρ:List AI} {a:Act} {w:World} {M:BR} {S':St} {vs:List Prop} {l:BR} {c:DH} {ρb:List AI} {b:World},
 (e.all λt=>decide (t<ops.size))=true -> AS P Γ N S ρ a w -> DJ c ρb b S.h ρ w -> A0 b w -> Sa P Γ ops c O B S M=some (S',vs,l) -> Bp vs ->
 (∀ ρ' f w',AS P Γ N S' ρ' f w' -> DJ S.h ρ w S'.h ρ' w' -> f.defers=a.defers -> wpListIn F 0 P ops Q (CQ ops e) f w') -> QJ F 0 P ops Q b O B e a w
 | [],B,e,S,ρ,a,w,M,S',vs,l,c,ρb,b,X,R,_,_,h,p,m=>by
  grind [Sa,zIV,VJ,DJ.refl]
 | (H,i)::T,B,e,S,ρ,a,w,M,S',vs,l,c,ρb,b,X,R,Y,Z,h,p,m=>by
  have ED: ∃ ρb',DJ (bh H c S.h) ρb' (bw H b w) S.h ρ w/\ A0 (bw H b w) w:=by
   cases H with
   | nil=>exact ⟨ρb,Y,Z⟩
   | cons s0 ss=>exact ⟨ρ,DJ.refl _ _ _,A0.refl w⟩
  obtain ⟨ρb',n,U⟩:=ED;simp only [Sa] at h;split at h
  ·cases h
  ·rename_i S1 Da cQ V;split at h
   ·cases h
   ·rename_i o x;split at h
    ·rename_i S2 FW Gu j;split at h
     ·cases h
     ·rename_i S3 RA MB q;cases h;obtain ⟨L,r⟩:=DY.1 p;obtain ⟨I,z⟩:=DY.1 r
      show wpQuiet _ _ _ _ _ _
      refine VJ _ R V L λf k R' u=>?_
      unfold wpOpIn;simp only [x];have hk:aO (bh H c S.h) S1.h=true:=(v6 (K:=λ_ _=>True) (Q:=λ_ _ _=>True) d R' j I λ_ _ _ _ _ _ _=>trivial).1;refine (v6 d R' j I λρ'' Gi G y s A W=>?_).2;rw [k] at s hk;have g:A0 (bw H b w) G:=zEY R.hr n U hk (by rw [k] at W;exact W);exact ⟨g,ix d v T B e X y (n.trans s) g q z λρ3 a3 C D E J=>m ρ3 a3 C D (s.trans E) (J.trans (A.trans u))⟩
    ·split at h
     ·cases h
     ·rename_i S2 FW ext Gu j;split at h
      ·cases h
      ·split at h
       ·cases h
       ·rename_i S3 RA MB q;cases h;obtain ⟨L,r⟩:=DY.1 p;obtain ⟨I,z⟩:=DY.1 r
        show wpQuiet _ _ _ _ _ _
        refine VJ _ R V L λf k R' u=>?_
        unfold wpOpIn;simp only [x];refine lV d R' (Hw v x) j I λρ'' Gi G y s A LR=>?_
        rw [k] at s;have g:A0 (bw H b w) G:=U.trans (LR rfl);exact ⟨g,ix d v T B e X y (n.trans s) g q z λρ3 a3 C D E J=>m ρ3 a3 C D (s.trans E) (J.trans (A.trans u))⟩
def zGj (d:Dv F P)(v:DF ops=true)(s:List (Θ×Nat))(B e:Θ){S:St}{ρ:List AI}{a:Act}{w:World}{M:BR}{S':St}{vs:List Prop}{g:BR}{f:DH}{b:World} 
 (X:(e.all λt=>decide (t<ops.size))=true) (R:AS P Γ N S ρ a w) (i:DJ f ρb b S.h ρ w) (j:A0 b w) (h:hseq P Γ ops f s B e S M=some (S',vs,g)) (p:Bp vs)
 (o: ∀ ρ' c w',AS P Γ N S' ρ' c w' -> DJ S.h ρ w S'.h ρ' w' -> c.defers=a.defers -> Q .normal c w'):QJ F 0 P ops Q b s B e a w:=by
 unfold hseq at h;split at h
 ·cases h
 rename_i S1 Da Gv k;split at h
 ·cases h
 rename_i S2 FW Gu l;cases h;obtain ⟨L,I⟩:=DY.1 p;exact ix d v s B e X R i j k L λρ1 a1 w1 H m D=>LW d v _ (PJ e) H l I λρ2 n q T r u=>o ρ2 n q T (m.trans r) (u.trans D)
end
abbrev zIG:=@Nat.zero_le
abbrev zIw:=@Go.wpIn_seq
abbrev zNM:=@Go.wpIn_skip
abbrev zNR:=@Go.wpIn_ret
section
def CA (L:Nat)(ρ ρ':List AI):Prop:=∀ (k:Nat) (p:AI),k<L -> ρ[k]? =some p -> ρ'[k]? =some p
theorem CA.refl (L:Nat)(ρ:List AI):CA L ρ ρ:=λ_ _ _ h=>h
variable {L:Nat}
def CA.trans {a b c:List AI}(h:CA L a b)(k:CA L b c):CA L a c:=λi p hi g=>k i p hi (h i p hi g)
structure Bd (F:Fence)(B:Option Nat)(w:World):Prop where
 le: ∀ b,B=some b -> b<=w.heap.size
 rd: ∀ l,F.round=some l -> ∃ r,w.heap[l]? =some (.loop r)
variable {w:World}
def Bd.step {P:Program}{Γ:Au}{N:Ψ}{h h':DH}{ρ ρ':List AI}{F:Fence}{B:Option Nat}{w':World}(b:Bd F B w)(H:Aq P Γ N h ρ w)(st:A3 h ρ w h' ρ' w'):Bd F B w':=
 ⟨λx e=>zGK (b.le x e) st.upd.size,λl m=>by
  obtain ⟨r,i⟩:=b.rd l m;refine ⟨r,(st.upd.block l (zGI.1 i).1 ?_).trans i⟩;rintro ⟨k,o,p,a,d,f⟩;obtain ⟨_,_,c,t,z,A⟩:=H.cel k o p l a d f;rw [i] at A;cases A;cases t⟩
def Bd.wide {B:Nat}(h:B<=w.heap.size):Bd Fence.wide (some B) w:=⟨λb e=>by cases e;exact h,λl m=>by cases m⟩
def Bd.none :Bd Fence.wide none w:=⟨λb e=>(by cases e),λl m=>by cases m⟩
def Mt:Option Nat -> List Deferred -> World -> Prop
 | none,ds,_=>ds= []
 | some B,ds,w=>Ef B ds w
structure BL (P:Program)(Γ:Au)(L:Nat) where
 I:(Ψ) -> DH -> List AI -> World -> Prop
 st: ∀ {N:Ψ} {h:DH} {ρ:List AI} {w:World} {h':DH} {ρ':List AI} {w':World},I N h ρ w -> Aq P Γ N h ρ w -> Aq P Γ N h' ρ' w' -> A3 h ρ w h' ρ' w' -> CA L ρ ρ' -> I N h' ρ' w'
def RS (P:Program)(Γ:Au)(L:Nat)(m:Ψ)(h0:DH)(ρ0:List AI)(w0:World):BL P Γ L where
 I:=λN h ρ w=>N=m/\ A3 h0 ρ0 w0 h ρ w/\ CA L ρ0 ρ
 st:=λ⟨e,s,k⟩ _ _ st g=>⟨e,s.trans st,k.trans g⟩
abbrev QY (P:Program)(Γ:Au)(L:Nat):=Exit -> St -> BL P Γ L -> Prop
def QE {P:Program}{Γ:Au}{L:Nat}(Q:QY P Γ L):Exit -> St -> BL P Γ L -> Prop
 | .outgrown,_,_=>False
 | e,S,Y=>Q e S Y
def Tr (P:Program)(Γ:Au)(F:Fence)(B:Option Nat)(L:Nat)(Y:BL P Γ L)(c:Code)(S:St)(Q:QY P Γ L):Prop:= ∀ N ρ a w,AS P Γ N S ρ a w -> Y.I N S.h ρ w -> Mt B a.defers w -> Bd F B w -> c.wpIn F 0 P (λe b w'=>∃ S' ρ' X d,QE Q e S' d/\ AS P Γ X S' ρ' b w'/\ d.I X S'.h ρ' w'/\ Mt B b.defers w'/\ Bd F B w') a w
def A8 (L:Nat)(S S':St):Prop:=∀ P Γ N ρ a w,AS P Γ N S ρ a w -> ∃ ρ',AS P Γ N S' ρ' a w/\ A3 S.h ρ w S'.h ρ' w/\ CA L ρ ρ'
theorem A8.refl (L:Nat)(S:St):A8 L S S:=λ_ _ _ ρ _ _ R=>⟨ρ,R,A3.refl _ _ _,CA.refl _ _⟩
def A8.trans {A B C:St}(h:A8 L A B)(k:A8 L B C):A8 L A C:=λP Γ N ρ a w R=>by
 obtain ⟨ρ1,H,b,c⟩:=h P Γ N ρ a w R;obtain ⟨ρ2,T,D,Z⟩:=k P Γ N ρ1 a w H;exact ⟨ρ2,T,b.trans D,c.trans Z⟩
section
variable {P:Program} {Γ:Au} {N:Ψ} {S:St} {F:Fence} {B:Option Nat} {L:Nat} {Y:BL P Γ L} {Q Q':QY P Γ L}
variable {e:Exit}
theorem QE.mono (h: ∀ e S Y,Q e S Y -> Q' e S Y){S:St}(L:QE Q e S Y):QE Q' e S Y:=by
 cases e <;> first | exact L | exact h _ _ _ L
variable {c:Code}
theorem Tr.mono (h:Tr P Γ F B L Y c S Q)(d: ∀ e S Y,Q e S Y -> Q' e S Y):Tr P Γ F B L Y c S Q':=λN ρ a w R y m b=>
 zMP (h N ρ a w R y m b) λ_ _ _ ⟨S',ρ',X,I,f,g⟩=>⟨S',ρ',X,I,f.mono d,g⟩
variable {S':St}
def Tr.weaken (d:A8 L S S')(h:Tr P Γ F B L Y c S' Q):Tr P Γ F B L Y c S Q:=λN ρ a w R y m b=>by
 obtain ⟨ρ1,H,e,A⟩:=d P Γ N ρ a w R;exact h N ρ1 a w H (Y.st y R.hr H.hr e A) m b
variable {w':World}{ρ ρ':List AI}
def Vh {h':DH}{ds:List Deferred}{w:World}(H:Aq P Γ N S.h ρ w)(st:A3 S.h ρ w h' ρ' w')(m:Mt B ds w):Mt B ds w':=by
 cases B with
 | none=>exact m
 | some B=>
 refine Ef.upd st.upd m λk _ hk e=>?_
 obtain ⟨i,o,p,a,b,d⟩:=hk;obtain ⟨_,_,c,t,z,A⟩:=H.cel i o p k a b d;rw [A] at e;cases e;cases t
theorem Tr.skip (h:Q .normal S Y):Tr P Γ F B L Y .skip S Q:=λN ρ _ _ R y m b=>zNM ⟨S,ρ,N,Y,h,R,y,m,b⟩
def Tr.ret (h:Q .ret S Y):Tr P Γ F B L Y .ret S Q:=λN ρ _ _ R y m b=>zNR ⟨S,ρ,N,Y,h,R,y,m,b⟩
variable {id:Nat}
def Tr.exit (h:Q (.exit id) S Y):Tr P Γ F B L Y (.exit id) S Q:=λN ρ _ _ R y m b=>wpIn_exit ⟨S,ρ,N,Y,h,R,y,m,b⟩
def RM (K:St -> BL P Γ L -> Prop)(Q:QY P Γ L):QY P Γ L
 | .normal,S,Y=>K S Y
 | e,S,Y=>Q e S Y
variable {x y:Code}
def Tr.seq (h:Tr P Γ F B L Y x S (RM (λS' I=>Tr P Γ F B L I y S' Q) Q)):Tr P Γ F B L Y (.seq x y) S Q:=λN ρ a w R y m b=>by
 refine zIw (zMP (h N ρ a w R y m b) ?_);rintro e j w' ⟨S',ρ',X,I,d,f,g,A,i⟩;cases e with
 | normal=>exact d X ρ' j w' f g A i
 | ret=>exact ⟨S',ρ',X,I,d,f,g,A,i⟩
 | exit id=>exact ⟨S',ρ',X,I,d,f,g,A,i⟩
 | goto t=>exact ⟨S',ρ',X,I,d,f,g,A,i⟩
 | panic c=>exact ⟨S',ρ',X,I,d,f,g,A,i⟩
 | outgrown=>exact d.elim
variable {b:Bool}
def Tr.cond {c:Operand}(l:AZ S.fr c= .bool b)(e:b=true -> Tr P Γ F B L Y x S Q)(f:b=false -> Tr P Γ F B L Y y S Q):Tr P Γ F B L Y (.cond c x y) S Q:=λN ρ a w R y m d=>by
 have i:=BW R c;rw [l] at i;refine wpIn_cond (t:=b) i ?_;cases b
 ·exact f rfl N ρ a w R y m d
 ·exact e rfl N ρ a w R y m d
variable {a:Act}
def xX {F:Fence}{n:Nat}{P:Program}{Q:Exit -> Act -> World -> Prop}{w:World}(h:c.wpIn F n P (Exit.noGoto Q) a w):(Code.scope c).wpIn F n P Q a w:=by
 intro b k cs O f i;have h0:(lone (b.atR a (.code (.scope c)::k)) cs w).fenced P F:=zLb f i rfl;have d:step P (lone (b.atR a (.code (.scope c)::k)) cs w)= .next (lone (b.atR a (.code c:: .inScope c::k)) cs w):=step_lone_go (by simp [stepG,stepG.exec,Frame.atR]);obtain ⟨e,o,p,L,M⟩:=h b (.inScope c::k) cs O f i;have g:step P (lone (b.atR o (.inScope c::k)) cs p)= .next (lone (b.atR o k) cs p):=step_lone_go (by simp [stepG,stepG.exec,Frame.atR]);cases e with
 | normal=>exact ⟨.normal,o,p,L,.head h0 d (zIt M (.one (zLb f i rfl) g))⟩
 | exit id=>exact ⟨.exit id,o,p,L,λj hk=>.head h0 d (M.1 j hk),λm hk=>let ⟨Y,q,r⟩:=M.2 m hk;⟨Y,q,.head h0 d r⟩⟩
 | goto l=>exact L.elim
 | ret=>exact ⟨_,o,p,L,.of_steps (.one h0 d) M⟩
 | panic ch=>exact ⟨_,o,p,L,.of_steps (.one h0 d) M⟩
 | outgrown=>exact ⟨_,o,p,L,.of_steps (.one h0 d) M⟩
def zEW (Q:QY P Γ L):QY P Γ L
 | .goto _,_,_=>False
 | e,S,Y=>Q e S Y
def Tr.scope (h:Tr P Γ F B L Y c S (zEW Q)):Tr P Γ F B L Y (.scope c) S Q:=λN ρ a w R y m b=>by
 refine xX (zMP (h N ρ a w R y m b) ?_);rintro e a' w' ⟨S',ρ',X,I,d,f⟩;cases e with
 | goto l=>exact d.elim
 | _=>exact ⟨S',ρ',X,I,d,f⟩
def Tr.label {l:Nat}(h:Q .normal S Y):Tr P Γ F B L Y (.label l) S Q:=λN ρ a w R y m b=>wpIn_label ⟨S,ρ,N,Y,h,R,y,m,b⟩
def zLT (id:Nat)(Q:QY P Γ L):QY P Γ L
 | .exit i,S,Y=>if i=id then Q .normal S Y else Q (.exit i) S Y
 | e,S,Y=>Q e S Y
def Tr.block (h:Tr P Γ F B L Y c S (zLT id Q)):Tr P Γ F B L Y (.block id c) S Q:=λN ρ a w R y m b=>by
 refine wpIn_block (zMP (h N ρ a w R y m b) ?_);rintro e a' w' ⟨S',ρ',X,I,d,f⟩;cases e with
 | exit i=>
  show if i=id then _ else _
  by_cases e:i=id
  ·rw [zEZ e];have d:(if i=id then Q .normal S' I else Q (.exit i) S' I):=d;rw [zEZ e] at d;exact ⟨S',ρ',X,I,d,f⟩
  ·rw [zGN e];have d:(if i=id then Q .normal S' I else Q (.exit i) S' I):=d;rw [zGN e] at d;exact ⟨S',ρ',X,I,d,f⟩
 | normal=>exact ⟨S',ρ',X,I,d,f⟩
 | ret=>exact ⟨S',ρ',X,I,d,f⟩
 | goto t=>exact ⟨S',ρ',X,I,d,f⟩
 | panic c=>exact ⟨S',ρ',X,I,d,f⟩
 | outgrown=>exact d.elim
def Tr.loop (I:Nat -> St -> BL P Γ L -> Prop)(n:Nat)(h0:I n S Y)(h: ∀ n S Y,I n S Y -> Tr P Γ F B L Y c S (RM (λS' d=>∃ W,W<n/\ I W S' d) Q)):Tr P Γ F B L Y (.loop c) S Q:=λN ρ a w R y m b=>by
 refine wpIn_loop_ghost (λk g w'=>∃ S' ρ' X d,I k S' d/\ AS P Γ X S' ρ' g w'/\ d.I X S'.h ρ' w'/\ Mt B g.defers w'/\ Bd F B w') n ⟨S,ρ,N,Y,h0,R,y,m,b⟩ ?_;rintro k g w' ⟨S',ρ',X,d,i,j,l,A,q⟩;refine zMP (h k S' d i X ρ' g w' j l A q) ?_;rintro e a2 w2 ⟨p,ρ2,x,J,o,s,O,f,G⟩;cases e with
 | normal=>
  obtain ⟨W,r,u⟩:=o;exact ⟨W,r,p,ρ2,x,J,u,s,O,f,G⟩
 | ret=>exact ⟨p,ρ2,x,J,o,s,O,f,G⟩
 | exit id=>exact ⟨p,ρ2,x,J,o,s,O,f,G⟩
 | goto t=>exact ⟨p,ρ2,x,J,o,s,O,f,G⟩
 | panic c=>exact ⟨p,ρ2,x,J,o,s,O,f,G⟩
 | outgrown=>exact o.elim
def AS.ext {w:World}(R:AS P Γ N S ρ a w)(C:A0 w w'):AS P Γ N S ρ a w':=⟨R.hr.ext C,R.fr.out (BQ.ext ρ C)⟩
def Tr.done {c:Act}{w:World}(R:AS P Γ N S ρ a w)(y:Y.I N S.h ρ w)(m:Mt B a.defers w)(b:Bd F B w)(hk:QE Q e S' Y)(R':AS P Γ N S' ρ' c w')(st:A3 S.h ρ w S'.h ρ' w')(A:CA L ρ ρ')(K:c.defers=a.defers):
 ∃ S' ρ' X d,QE Q e S' d/\ AS P Γ X S' ρ' c w'/\ d.I X S'.h ρ' w'/\ Mt B c.defers w'/\ Bd F B w':=
 ⟨S',ρ',N,Y,hk,R',Y.st y R.hr R'.hr st A,by rw [K];exact Vh R.hr st m,b.step R.hr st⟩
def A8.fr {fr fr':List DV}{h:DH}(m:fr'.length=fr.length)(r: ∀ i,i<fr.length -> AN (fr.getD i .any) (fr'.getD i .any)):A8 L ⟨fr,h⟩ ⟨fr',h⟩:=λP Γ N ρ a w R=>
 ⟨ρ,⟨R.hr,⟨by rw [m];exact R.fr.1,λi hi=>r i (by rw [←m];exact hi) _ _ _ _ (R.fr.2 i (by rw [←m];exact hi))⟩⟩,A3.refl _ _ _,CA.refl _ _⟩
theorem AN.refl (d:DV):AN d d:=λ_ _ _ _ h=>h
theorem AN.any (d:DV):AN d .any:=λ_ _ _ _ _=>trivial
theorem AN.int {k:IntKind}{a b:Int}(h:a=b):AN (.int k a) (.int k b):=by rw [h];exact AN.refl _
theorem AN.bool {a:Bool}(h:a=b):AN (.bool a) (.bool b):=by rw [h];exact AN.refl _
def AN.ints_nil:AN .nils (.ints []):=λM w ρ v h=>⟨none,0,h,zGT _,zIG _,λj d=>absurd d (zGR j)⟩
def AN.sl_nil (m:Nat)(f:Nat -> Nat -> DV):AN .nils (.sl m 0 f):=λM w ρ v h=>⟨none,0,h,zGT _,zIG _,λi j hi=>absurd hi (zGR i)⟩
def forget (B:Θ)(fr:List DV):List DV:=(fr.zipIdx).map λx=>if B.contains x.2 then x.1 else .any
theorem Wj (B:Θ)(fr:List DV):(forget B fr).length=fr.length:=by simp [forget]
theorem kP (B:Θ)(fr:List DV){i:Nat}(hi:i<fr.length):(forget B fr).getD i .any=if B.contains i then fr.getD i .any else .any:=by
 simp [forget,hi]
def A8.forget (B:Θ)(fr:List DV)(h:DH):A8 L ⟨fr,h⟩ ⟨forget B fr,h⟩:=A8.fr (Wj _ _) λi hi=>by
 grind [kP,AN.refl,AN.any]
def Dj:Θ -> Nat -> Option Nat
 | [],_=>none
 | x::σ,k=>if x=k then some 0 else (Dj σ k).map (· +1)
def GT (σ:Θ):DV -> DV
 | .ref k j=>match Dj σ k with
  | some a=>.ref a j
  | none=>.any
 | .mse k m off n=>match Dj σ k with
  | some a=>.mse a m off n
  | none=>.any
 | .mri k i=>match Dj σ k with
  | some a=>.mri a i
  | none=>.any
 | .msl k m off n=>match Dj σ k with
  | some a=>.msl a m off n
  | none=>.any
 | .mp k m i j=>match Dj σ k with
  | some a=>.mp a m i j
  | none=>.any
 | .it k=>match Dj σ k with
  | some a=>.it a
  | none=>.any
 | .agg m f=>.agg m λj=>((List.range m).map λi=>GT σ (f i)).getD j .any
 | .tup m f=>.tup m λj=>((List.range m).map λi=>GT σ (f i)).getD j .any
 | .fn g m c=>.fn g m λj=>((List.range m).map λi=>GT σ (c i)).getD j .any
 | d=>d
def VC (σ:Θ):Option DO -> Option DO
 | some (.cells l)=>some (.cells (l.map (GT σ)))
 | some (.ro l)=>some (.ro (l.map (GT σ)))
 | o=>o
def GN (σ:Θ)(S:St):St:=⟨S.fr.map (GT σ),σ.map λk=>VC σ (S.h.getD k none)⟩
def Kr: ∀ {σ:Θ} {k g:Nat},Dj σ k=some g -> σ[g]? =some k
 | [],_,_,h=>by cases h
 | x::σ,k,g,h=>by
  unfold Dj at h;split at h
  ·rename_i e;cases h;subst e;rfl
  ·cases a:Dj σ k with
   | none=>rw [a] at h;cases h
   | some i=>
    rw [a] at h;have e:g=i+1:=(zGJ h).symm;subst e;have:=Kr a;simpa using this
variable {m j:Nat}{f:Nat -> DV}
def zC9 (d:j<m):((List.range m).map f).getD j .any=f j:=by simp [d]
variable {M:Ψ}
def fQ {w:World}{u:Value}(d:j<m)(h:AJ M w (f j) ρ u):AJ M w (((List.range m).map f).getD j .any) ρ u:=by rw [zC9 d];exact h
def zCo {A:Ψ}{w:World}{σ:Θ}(Y: ∀ b,A b -> M b)(B: ∀ (k o:Nat) (p:AI),σ[o]? =some k -> ρ[k]? =some p -> ρ'[o]? =some p): ∀ (d:DV) {v:Value},AJ M w d ρ v -> AJ A w (GT σ d) ρ' v:=by
 have low: ∀ (d:DV) {v:Value},AJ M w d [] v -> AJ A w d [] v:=λd v h=>h.out d ⟨λ_ _ _ _=>rfl,λb C=>.inl (Y b C),λk p hk=>by simp at hk⟩
 intro d
 induction d with
 | any=>intro v _;trivial
 | nils=>intro v h;exact h
 | int k n=>intro v h;exact h
 | bool b=>intro v h;exact h
 | str s=>intro v h;exact h
 | ints l=>intro v h;exact low (.ints l) h
 | bools l=>intro v h;exact low (.bools l) h
 | sl m n f _=>intro v h;exact low (.sl m n f) h
 | fp m f _=>intro v h;exact low (.fp m f) h
 | agg m f U=>
  rintro v ⟨cs,e,x,h⟩;exact ⟨cs,e,x,λj t=>let ⟨u,y,z⟩:=h j t;⟨u,y,fQ t (U j z)⟩⟩
 | tup m f U=>
  rintro v ⟨cs,e,x,h⟩;exact ⟨cs,e,x,λj t=>let ⟨u,y,z⟩:=h j t;⟨u,y,fQ t (U j z)⟩⟩
 | fn g m c U=>
  rintro v ⟨cs,e,x,h⟩;exact ⟨cs,e,x,λj t=>let ⟨u,y,z⟩:=h j t;⟨u,y,fQ t (U j z)⟩⟩
 | ref k j=>
  rintro v ⟨p,q,e⟩;simp only [GT];cases hk:Dj σ k with
  | none=>trivial
  | some o=>exact ⟨p,B k o p (Kr hk) q,e⟩
 | msl k m off n=>
  rintro v ⟨p,cap,q,r⟩;simp only [GT];cases hk:Dj σ k with
  | none=>trivial
  | some o=>exact ⟨p,cap,B k o p (Kr hk) q,r⟩
 | mp k m i j=>
  rintro v ⟨p,q,e⟩;simp only [GT];cases hk:Dj σ k with
  | none=>trivial
  | some o=>exact ⟨p,B k o p (Kr hk) q,e⟩
 | yl l=>intro v h;exact h
 | cst u=>intro v h;exact h
 | mse k m off n=>
  rintro v ⟨p,a,cap,q,r⟩;simp only [GT];cases hk:Dj σ k with
  | none=>trivial
  | some o=>exact ⟨p,a,cap,B k o p (Kr hk) q,r⟩
 | mri k i=>
  rintro v ⟨p,vs,q,r⟩;simp only [GT];cases hk:Dj σ k with
  | none=>trivial
  | some o=>exact ⟨p,vs,B k o p (Kr hk) q,r⟩
 | it k=>
  rintro v ⟨p,q,e⟩;simp only [GT];cases hk:Dj σ k with
  | none=>trivial
  | some o=>exact ⟨p,B k o p (Kr hk) q,e⟩
def gN:AI:=⟨0,0,0,undef,λ_=>False⟩
theorem A8.compact (σ:Θ)(S:St)(h1:σ.Nodup)(G: ∀ k∈σ,k<S.h.length)(W: ∀ k,k<L -> σ[k]? =some k):A8 L S (GN σ S):=λP Γ N ρ a w R=>by
 obtain ⟨ρ',H⟩: ∃ ρ',ρ'=σ.map λk=>ρ.getD k gN:=⟨_,rfl⟩
 have get: ∀ {g:Nat} {p:AI},ρ'[g]? =some p -> ∃ k,σ[g]? =some k/\ ρ[k]? =some p:=λ{g p} h=>by
  rw [H,zIC] at h;cases hk:σ[g]? with
  | none=>rw [hk] at h;cases h
  | some k=>
   rw [hk] at h;have I:k<ρ.length:=by rw [R.hr.len];exact G k (zHw hk)
   grind
 have r: ∀ (k g:Nat) (p:AI),σ[g]? =some k -> ρ[k]? =some p -> ρ'[g]? =some p:=λk g p hk E=>by
  grind
 have K: ∀ {g:Nat} {o':DO},(GN σ S).h[g]? =some (some o') -> ∃ k o,σ[g]? =some k/\ S.h[k]? =some (some o)/\ VC σ (some o)=some o':=λ{g o'} h=>by
  show ∃ k o,_
  have h:(σ.map λk=>VC σ (S.h.getD k none))[g]? =some (some o'):=h;rw [zIC] at h;cases hk:σ[g]? with
  | none=>rw [hk] at h;cases h
  | some k=>
   rw [hk] at h;have I:k<S.h.length:=G k (zHw hk);have h:VC σ (S.h.getD k none)=some o':=zGJ h;have e:S.h.getD k none=S.h[k]:=by simp [I]
   rw [e] at h;cases X:S.h[k] with
   | none=>rw [X] at h;cases h
   | some o=>grind
 have Y: ∀ b,MO (GN σ S).h ρ' b -> MO S.h ρ b:=by
  rintro b ⟨g,o',p,A,B,C⟩;obtain ⟨k,o,s,z,_⟩:=K A;obtain ⟨Z,c,D⟩:=get B;have:Z=k:=zGJ (c.symm.trans s);subst this;exact ⟨Z,o,p,z,D,C⟩
 have U: ∀ b,MS N (GN σ S).h ρ' b -> MS N S.h ρ b:=λb q=>q.imp id (Y b)
 have O:BQ (MS N S.h ρ) w [] (MS N (GN σ S).h ρ') w []:=⟨λ_ _ _ _=>rfl,λb q=>.inl (U b q),λk p hk=>by simp at hk⟩;have low: ∀ (d:DV) {v:Value},AJ (MS N S.h ρ) w d ρ v -> AJ (MS N (GN σ S).h ρ') w (GT σ d) ρ' v:=λd v h=>zCo U r d h
 refine ⟨ρ',⟨⟨by simp [H,GN],λg o' Gb=>?_,λg o' p b A B C=>?_,λi i' o1 J p1 p2 b AY A B C g4 g5 g6=>?_,R.hr.nlt,R.hr.gi⟩,⟨by simp [GN,R.fr.1],λi hi=>?_⟩⟩,⟨AQ.refl _ w,λb q=>.inl (Y b q)⟩,λk p hk E=>r k k p (W k hk) E⟩
 ·obtain ⟨k,o,s,z,c⟩:=K Gb;obtain ⟨p,E,t⟩:=R.hr.obj k o z;refine ⟨p,r k g p s E,?_⟩;cases o with
  | cells l=>
   cases c
   show AX w p (l.map (GT σ)).length _
   rw [zGX];refine AX.out t rfl λj u hj y=>?_
   grind
  | ints l=>cases c;exact AX.out t rfl λj u _ y=>y
  | bools l=>cases c;exact AX.out t rfl λj u _ y=>y
  | arr m n f=>cases c;exact AX.out t rfl λj u _ y=>AJ.out _ O y
  | iter encs=>
   cases c;obtain ⟨gf,lb,Rd,q1,q2,M,q4⟩:=t;exact ⟨gf,lb,Rd,q1,q2,λb q=>⟨λF=>(M b q).1 (U b F),(M b q).2⟩,q4⟩
  | ro l=>
   cases c;obtain ⟨r1,r2,r3⟩:=t;refine ⟨r1,λF=>r2 (U _ F),?_⟩
   show AX w _ (l.map (GT σ)).length _
   rw [zGX];refine AX.out r3 rfl λj u hj y=>?_
   grind
  | mo x=>cases c;exact t
 ·obtain ⟨k,o,s,z,_⟩:=K A;obtain ⟨Z,c,D⟩:=get B;have:Z=k:=zGJ (c.symm.trans s);subst this;exact R.hr.cel Z o p b z D C
 ·obtain ⟨k,o,s,z,_⟩:=K A;obtain ⟨Z,J,c,D,_⟩:=K B;obtain ⟨Q,e5,e6⟩:=get C;obtain ⟨T,e7,e8⟩:=get g4;have:Q=k:=zGJ (e5.symm.trans s);subst this;have:T=Z:=zGJ (e7.symm.trans c);subst this;refine R.hr.dis Q T o J p1 p2 b (λe=>AY ?_) z D e6 e8 g5 g6
  grind [List.getElem?_inj]
 ·have V:i<S.fr.length:=by simpa [GN] using hi
  have:(GN σ S).fr.getD i .any=GT σ (S.fr.getD i .any):=by simp [GN,V]
  rw [this];exact low _ (R.fr.2 i V)
end
end
abbrev zI3:=@List.eq_nil_of_length_eq_zero
abbrev zNY:=@List.nodup_range
def qH (P:Program)(S:St):ResultVar -> Option DV
 | .tmp t=>some (S.fr.getD t .any)
 | .cell x t=>match S.fr.getD x .any with
  | .ref k j=>match Pe P S t (.ref k j) with
   | some (d,_)=>some d
   | none=>none
  | _=>none
def NR (P:Program)(S:St):List ResultVar -> Option (List DV)
 | []=>some []
 | r::k=>match qH P S r with
  | some d=>match NR P S k with
   | some ds=>some (d::ds)
   | none=>none
  | none=>none
def IF:List DV -> DV
 | [d]=>d
 | ds=>.tup ds.length λj=>ds.getD j .any
section
variable {P:Program} {Γ:Au} {N:Ψ} {S:St} {ρ:List AI} {a:Act} {w:World}
variable {d:DV}{k:Nat}
def zFC {t:TypeId}{j:Nat}{a:Prop}(h:Pe P S t (.ref k j)=some (d,a)):a:=by
 grind [Pe]
def ZD (tmps:Array Value):ResultVar -> Sem Value
 | .tmp t=>pure (tmps.getD t undef)
 | .cell x t=>do loadVar t (←asAddr (tmps.getD x undef))
def qI (R:AS P Γ N S ρ a w): ∀ (c:List ResultVar) (ds:List DV),NR P S c=some ds -> ∃ vs:List Value,(c.mapM (ZD a.tmps)).run P w= .ok vs w/\ vs.length=ds.length/\ ∀ i,i<ds.length -> AJ (MS N S.h ρ) w (ds.getD i .any) ρ (vs.getD i undef)
 | [],ds,h=>by
  cases h
  simp_all
 | r::c,ds,h=>by
  simp only [NR] at h;split at h
  ·rename_i d b;split at h
   ·rename_i f C;cases h;obtain ⟨vs,h1,n,h3⟩:=qI R c f C
    obtain ⟨v,g1,g2⟩: ∃ v,(ZD a.tmps r).run P w= .ok v w/\ AJ (MS N S.h ρ) w d ρ v:=by
     unfold qH at b;split at b
     ·cases b;exact ⟨_,rfl,R.fr.at _⟩
     ·rename_i x t;split at b
      ·rename_i k j e;split at b
       ·rename_i d' vc m;cases b;have g:=R.fr.at x;rw [e] at g;obtain ⟨v,o,s⟩:=sH R g m (zFC m);obtain ⟨p,hp,l⟩:=g;have q:=o w (Keep.ofExt (A0.refl w));rw [l,er] at q;refine ⟨v,?_,s⟩
        show (do loadVar t (←asAddr (a.tmps.getD x undef)):Sem Value).run P w=_
        rw [l];exact q
       ·cases b
      ·cases b
    refine ⟨v::vs,?_,by simp [n],λi hi=>?_⟩
    ·simp_all
    grind
   ·cases h
  ·cases h
variable {ds:List DV}{fn:Func}
def ZC (R:AS P Γ N S ρ a w)(h:NR P S fn.results.toList=some ds): ∃ v,(results fn a.tmps).run P w= .ok v w/\ AJ (MS N S.h ρ) w (IF ds) ρ v:=by
 obtain ⟨vs,f,c,b⟩:=qI R _ _ h
 have g:(fn.results.mapM (ZD a.tmps)).run P w= .ok vs.toArray w:=by
  rw [Array.mapM_eq_mapM_toList,←bind_pure_comp,zGu,f];rfl
 have Z:(results fn a.tmps).run P w= .ok (if h:vs.toArray.size=1 then vs.toArray[0] else .tuple vs.toArray) w:=by
  show (do let vs←fn.results.mapM (ZD a.tmps);pure (if h:vs.size=1 then vs[0] else .tuple vs):Sem Value).run P w=_
  rw [zGu,g];rfl
 refine ⟨_,Z,?_⟩
 match ds,vs,c,b with
 | [],[],_,_=>exact ⟨#[],rfl,rfl,λj e=>absurd e (zGR j)⟩
 | [d],[v],_,b=>exact b 0 (by simp)
 | d::d'::ds,v::o::vs,c,b=>
  have: ¬ ((v::o::vs).toArray.size=1):=by simp
  rw [dif_neg this];refine ⟨_,rfl,by simpa using c,λj e=>?_⟩
  grind
def PU (h:DH):Prop:=∀ (k:Nat) (encs:List (List DV)),h[k]? ≠some (some (.iter encs))
variable {W:World}
def AS.shut (R:AS P Γ N S ρ a w)(hi:PU S.h){B:Nat}(H:Γ.ng<=B)(s:Ms B w W):AS P Γ N S ρ a W:=by
 have v: ∀ {b:Nat},EG w b -> W.heap[b]? =w.heap[b]? :=λ{b} ⟨c,t,z,h⟩=>
  s.block b (zGI.1 h).1 λg=>by rw [h] at g;cases g.2;cases t
 have O:BQ (MS N S.h ρ) w ρ (MS N S.h ρ) W ρ:=⟨λb _ _ ⟨_,_,_,D⟩=>v (.cells D),λb h=>.inl h,λ_ _ h=>h⟩
 have e: ∀ {p:AI} {n:Nat} {Rw:Nat -> Value -> Prop},AX w p n Rw -> W.heap[p.blk]? =w.heap[p.blk]? :=λ{p n Rw} h=>by
  obtain ⟨_,cs,t,y,_⟩:=h;exact v (.cells y)
 refine ⟨⟨R.hr.len,λk o hk=>?_,λk o p b E y F=>?_,R.hr.dis,λb r=>⟨zGS (R.hr.nlt b r).1 s.size,(R.hr.nlt b r).2⟩,Γ.st _ _ R.hr.gi (s.mono λi _ g=>zGK H g.1)⟩,R.fr.out O⟩
 ·obtain ⟨p,A,d⟩:=R.hr.obj k o hk;refine ⟨p,A,?_⟩;cases o with
  | cells l=>exact AX.out d (e d) λj u _ q=>AJ.out _ O q
  | ints l=>exact AX.out d (e d) λj u _ q=>q
  | bools l=>exact AX.out d (e d) λj u _ q=>q
  | arr m n f=>exact AX.out d (e d) λj u _ q=>AJ.out _ O.nil q
  | iter encs=>exact absurd hk (hi k encs)
  | ro l=>obtain ⟨G,I,C⟩:=d;exact ⟨G,I,AX.out C (e C) λj u _ q=>AJ.out _ O q⟩
  | mo x=>exact Oe.out d λb r AU=>v (R.hr.cel k _ p b hk A r).2.2
 ·obtain ⟨g1,g2,c,t,z,g3⟩:=R.hr.cel k o p b E y F
  grind
variable {h:DH}
def A3.shut {h0:DH}{ρ0 ρ:List AI}{w0 w:World}(st:A3 h0 ρ0 w0 h ρ w)(j:Ms w0.heap.size w W):A3 h0 ρ0 w0 h ρ W:=
 ⟨st.upd.comp j λi hi e=>absurd e.1 (by omega),st.grow⟩
def BE.anys (M:Ψ)(w:World)(ρ:List AI)(n:Nat):BE M w ρ (List.replicate n .any) (Array.replicate n undef):=
 ⟨by simp,λi hi=>by
  have:(List.replicate n DV.any).getD i .any= .any:=by
   grind
  rw [this];trivial⟩
def Je (d:DV):Prop:=∀ (M:Ψ) (w:World) (ρ:List AI) (v:Value),AJ M w d ρ v -> AJ M w d [] v
def zMS (L:Nat)(S:St)(k:List DV)(d:DV)(h':DH):Prop:= (AN (IF k) d/\ S.h=h')∨(PU S.h/\ AN (IF k) d/\ Je d/\ L<=S.h.length/\ (GN (List.range L) S).h=h')
def Cy (P:Program)(fn:Func)(L:Nat)(d:DV)(h':DH)(e:Exit)(S':St):Prop:= (e= .normal∨e= .ret)/\ ∃ R,A8 L S' R/\ ∃ k,NR P R fn.results.toList=some k/\ zMS L R k d h'
def ES.of_tr {f:Nat}{c:Code}{h':DH}{ext:Bool}(M:P.funcs[f]? =some fn)(j:fn.body=some c)(QD:fn.name≠ "runtime.NumGoroutine")(hni:PU h') 
 (H: ∀ (B:Nat) (N:BL P Γ h.length),Tr P Γ Fence.wide (some B) h.length N c ⟨ds++List.replicate (fn.ntmps-ds.length) .any,h⟩ (λe S Y=>Y=N/\ Cy P fn h.length d h' e S)) (F:ext=true -> h= []):ES P Γ f ds h d h' ext:=by
 refine ⟨⟨fn,M,QD,by rw [j];rfl⟩,λN ρ w args HR K=>?_⟩;refine zLK w.heap.size M j ?_;have Am:ds.length=args.size:=K.1
 have R:AS P Γ N ⟨ds++List.replicate (fn.ntmps-ds.length) .any,h⟩ ρ { tmps:=args++Array.replicate (fn.ntmps-args.size) undef,defers:=[] } w:=
  ⟨HR,BE.append K (by rw [Am];exact BE.anys _ _ _ _)⟩
 have:=H w.heap.size (RS P Γ h.length N h ρ w) N ρ _ w R ⟨rfl,A3.refl _ _ _,CA.refl _ _⟩ trivial (Bd.wide (zGT _));refine wpIn_wide.1 (zMP this ?_);rintro e l w' ⟨S',ρ',N',Y',a,O,n,Q,q⟩
 have key:Y'=RS P Γ h.length N h ρ w -> Cy P fn h.length d h' e S' -> Ef w.heap.size l.defers w'/\ ∀ W,Ms w.heap.size w' W -> ∃ v,(results fn l.tmps).run P W= .ok v W/\ ∃ T,Ending.returned v= .returned T/\ CC P Γ N h ρ w ext d h' T W:=by
  rintro rfl ⟨_,s,U,rs,V,r | ⟨hi,r,hn,hl,X⟩⟩
  all_goals
   obtain ⟨G,n,q⟩:=n;have G:=G.symm;subst G
  ·obtain ⟨r,rfl⟩:=r;refine ⟨Q,λW m=>?_⟩;obtain ⟨ρ'',u,x,y⟩:=U P Γ N ρ' l w' O;have C:=u.shut hni (Γ.lo _ HR.gi) m;obtain ⟨v,z,A⟩:=ZC C V;have st:A3 h ρ w s.h ρ'' W:=(n.trans x).shut m;refine ⟨v,z,v,rfl,⟨⟨ρ'',C.hr,r _ _ _ _ A,st,λk p D=>?_⟩,λJ=>?_⟩⟩
   ·have hk:k<h.length:=by rw [←HR.len];grind
    exact y k p hk (q k p hk D)
   ·have:=F J;subst this;exact st.upd.toExt λi _ ⟨k,o,p,E,_⟩=>by simp at E
  ·refine ⟨Q,λW m=>?_⟩;obtain ⟨ρ'',u,x,y⟩:=U P Γ N ρ' l w' O;have C:=u.shut hi (Γ.lo _ HR.gi) m;obtain ⟨v,z,A⟩:=ZC C V;have st:A3 h ρ w s.h ρ'' W:=(n.trans x).shut m;obtain ⟨ρ3,R3,I,k3⟩:=A8.compact (L:=h.length) (List.range h.length) s zNY (λk hk=>zGS (zGQ.1 hk) hl) (λk hk=>by simp [hk]) P Γ N ρ'' l W C;rw [X] at I;have Z:=R3.hr;rw [X] at Z;refine ⟨v,z,v,rfl,⟨⟨ρ3,Z,?_,st.trans I,λk p D=>?_⟩,λJ=>?_⟩⟩
   ·have r0:=hn _ _ _ _ (r _ _ _ _ A);have r1:AJ (MS N h' ρ3) W d [] v:=AJ.out _ ⟨λ_ _ _ _=>rfl,λb j=>j.elim (λg=>.inl (.inl g)) λg=>(I.grow b g).imp .inr id,λ_ _ g=>by simp at g⟩ r0;exact AJ.out _ ⟨λ_ _ _ _=>rfl,λb j=>.inl j,λ_ _ g=>by simp at g⟩ r1
   ·have hk:k<h.length:=by rw [←HR.len];grind
    exact k3 k p hk (y k p hk (q k p hk D))
   ·have:=F J;subst this;exact (st.trans I).upd.toExt λi _ ⟨k,o,p,E,_⟩=>by simp at E
 cases e with
 | normal=>exact key a.1 a.2
 | ret=>exact key a.1 a.2
 | exit id=>exact absurd a.2.1 (by simp)
 | goto t=>exact absurd a.2.1 (by simp)
 | panic ch=>exact absurd a.2.1 (by simp)
 | outgrown=>exact a.elim
def Jb (d:DV):Prop:=∀ (M k:Ψ) (w w':World) (ρ ρ':List AI) (v:Value),AJ M w d ρ v -> AJ k w' d ρ' v
variable {f:Nat -> DV}{m:Nat}
def Je.agg (h: ∀ j,j<m -> Je (f j)):Je (.agg m f):=λM w ρ _ ⟨cs,e,a,l⟩=>⟨cs,e,a,λj d=>let ⟨u,b,c⟩:=l j d;⟨u,b,h j d M w ρ u c⟩⟩
theorem Je.tup (h: ∀ j,j<m -> Je (f j)):Je (.tup m f):=λM w ρ _ ⟨cs,e,a,l⟩=>⟨cs,e,a,λj d=>let ⟨u,b,c⟩:=l j d;⟨u,b,h j d M w ρ u c⟩⟩
theorem Jb.int (k:IntKind)(n:Int):Jb (.int k n):=λ_ _ _ _ _ _ _ h=>h
theorem Jb.bool (b:Bool):Jb (.bool b):=λ_ _ _ _ _ _ _ h=>h
theorem Jb.tup (h: ∀ j,j<m -> Jb (f j)):Jb (.tup m f):=λM k w w' ρ ρ' _ ⟨cs,e,a,l⟩=>⟨cs,e,a,λj d=>let ⟨u,b,c⟩:=l j d;⟨u,b,h j d M k w w' ρ ρ' u c⟩⟩
variable {M:Ψ}
def Sc (Y: ∀ b,M b -> b<w.heap.size/\ Γ.ng<=b)(j:Γ.gi w):Aq P Γ M [] [] w:=
 ⟨rfl,λk o hk=>by simp at hk,λk o p b a=>by simp at a,λk k' o o' p p' b _ a=>by simp at a,Y,j⟩
def Qz {b:Nat}:MS M [] [] b↔M b:=⟨λh=>h.elim id λ⟨k,o,p,a,_⟩=>by simp at a,.inl⟩
def ES.frame {f:Nat}(h0:ES P Γ f ds [] d [] true)(g: ∀ x∈ds,Je x)(h:DH):ES P Γ f ds h d h true:=by
 refine ⟨h0.1,λN ρ w args HR C=>?_⟩;refine (h0.2 (MS N h ρ) [] w args (Sc (λb c=>HR.lt2 c) HR.gi) ⟨C.1,λi hi=>?_⟩).mono ?_
 ·have j:=g (ds.getD i .any) (by simp [hi]);exact AJ.out _ (D5 (λb c=>Qz.1 c) []) (j _ _ _ _ (C.2 i hi))
 ·rintro e w' ⟨v,rfl,⟨⟨ρ',o,s,g3,g4⟩,G⟩⟩;have a:=G rfl;have B:ρ'= []:=zI3 (by rw [o.len];rfl);subst B;exact ⟨v,rfl,⟨⟨ρ,HR.ext a,Rp (AJ.out _ (D5 (λb c=>Qz.2 c) []) s),A3.ext a,λ_ _ h=>h⟩,G⟩⟩
def Az (h:DH)(d C:DV):Prop:=∀ (P:Program) (Γ:Au) (N:Ψ) (ρ:List AI) (w:World) (v:Value),Aq P Γ N h ρ w -> AJ (MS N h ρ) w d ρ v -> AJ (λ_=>False) w C [] v
def Az.nref (u:Je d):Az h d d:=λ_ _ _ _ _ _ _ i=>AJ.out _ (D5 (λ_ c=>c.elim) []) (u _ _ _ _ i)
variable {n:Nat}
def Az.ints {l:Ξ}(hk:h[k]? =some (some (.ints l)))(a:n=l.length):Az h (.msl k 1 0 n) (.ints l):=by
 rintro P Γ N ρ w v H ⟨p,cap,g,e,o,s,_⟩;subst a;obtain ⟨p',U,i⟩:=H.obj k _ hk;have z:p'=p:=zGJ (U.symm.trans g);subst z;refine ⟨_,cap,e,o,s,λj d=>⟨p'.blk,p'.off,by simp,id,?_⟩⟩;obtain ⟨u,b,c⟩:=AX.cell i d;rw [b,c]
def Az.bools {l:Ω}(hk:h[k]? =some (some (.bools l)))(a:n=l.length):Az h (.msl k 1 0 n) (.bools l):=by
 rintro P Γ N ρ w v H ⟨p,cap,g,e,o,s,_⟩;subst a;obtain ⟨p',U,i⟩:=H.obj k _ hk;have z:p'=p:=zGJ (U.symm.trans g);subst z;refine ⟨_,cap,e,o,s,λj d=>⟨p'.blk,p'.off,by simp,id,?_⟩⟩;obtain ⟨u,b,c⟩:=AX.cell i d;rw [b,c]
def Az.ref {l:List DV}(hk:h[k]? =some (some (.cells l)))(hm:m<=l.length)(M: ∀ j,j<m -> Az h (l.getD j .any) (f j)):Az h (.ref k 0) (.fp m f):=by
 rintro P Γ N ρ w v H ⟨p,g,e⟩;obtain ⟨p',U,i⟩:=H.obj k _ hk;have z:p'=p:=zGJ (U.symm.trans g);subst z;refine ⟨p'.blk,p'.off,e,λj d=>⟨id,?_⟩⟩;obtain ⟨u,a,b⟩:=AX.cell i (j:=j) (by omega);exact ⟨u,a,M j d P Γ N ρ w u H b⟩
def ES.snap {f:Nat}{k:List DV}(h0:ES P Γ f k [] d [] true)(h:DH)(m:k.length=ds.length)(j: ∀ i,i<ds.length -> Az h (ds.getD i .any) (k.getD i .any))(r:Jb d):ES P Γ f ds h d h true:=by
 refine ⟨h0.1,λN ρ w args HR C=>?_⟩;refine (h0.2 (λ_=>False) [] w args (Sc (λb c=>c.elim) HR.gi) ⟨by rw [m];exact C.1,λi hi=>?_⟩).mono ?_
 ·rw [m] at hi;exact AJ.out _ (D5 (λb c=>Qz.1 c) []) (j i hi P Γ N ρ w _ HR (C.2 i hi))
 ·rintro e w' ⟨v,rfl,⟨⟨ρ',g1,s,g3,g4⟩,G⟩⟩;have a:=G rfl;exact ⟨v,rfl,⟨⟨ρ,HR.ext a,r _ _ _ _ _ _ _ s,A3.ext a,λ_ _ h=>h⟩,G⟩⟩
end
section
variable {F:Fence} {n:Nat} {P:Program} {ops:Array Oper} {Q:Exit -> Act -> World -> Prop}
def Ke (F:Fence)(n:Nat)(P:Program)(ops:Array Oper)(Q:Exit -> Act -> World -> Prop)(R:Nat -> World -> World -> Prop)(B8:Nat -> Bool)(g:Nat):Nat -> Array Bool -> Act -> World -> Prop
 | 0,H,a,w=>(∀ j,j<ops.size -> B8 j=false -> H.getD j true=true)/\ wpAnyIn F n P .any ops Q g H a w
 | m+1,H,a,w=>Region.ready .any ops H≠[]/\ ∀ i∈Region.ready .any ops H,wpOpIn F n P ops Q i (λb w'=>R i w w'/\ Ke F n P ops Q R B8 g m (H.setIfInBounds i true) b w') a w
abbrev Xo (F:Fence)(n:Nat)(P:Program)(ops:Array Oper)(Q:Exit -> Act -> World -> Prop)(R:Nat -> World -> World -> Prop):Nat -> Array Bool -> Act -> World -> Prop:=Ke F n P ops Q R (λ_=>false) 0
section
variable {B8:Nat -> Bool} {g:Nat}
variable {R:Nat -> World -> World -> Prop}
def mO {R':Nat -> World -> World -> Prop}(hR: ∀ i w w',R' i w w' -> R i w w'): ∀ (m:Nat) (H:Array Bool) (a:Act) (w:World),Ke F n P ops Q R' B8 g m H a w -> Ke F n P ops Q R B8 g m H a w
 | 0,_,_,_,h=>h
 | m+1,_,_,_,h=>⟨h.1,λi hi=>zMx (λ_ _ h'=>⟨hR _ _ _ h'.1,mO hR m _ _ _ h'.2⟩) (h.2 i hi)⟩
variable {H:Array Bool}
def zCp (h: ∀ j,j<ops.size -> H.getD j true=true):Region.ready .any ops H= []:=by
 simp_all [Region.ready]
variable {w:World}{a:Act}
def xV (h: ∀ j,j<ops.size -> H.getD j true=true)(L:Q .normal a w):Xo F n P ops Q R 0 H a w:=⟨λj d _=>h j d,zCp h,L⟩
def mV : ∀ (m:Nat) (H:Array Bool) (a:Act) (w:World),Ke F n P ops Q R B8 g m H a w -> wpAnyIn F n P .any ops Q (m+g) H a w
 | 0,_,_,_,h=>by rw [zGw];exact h.2
 | m+1,_,_,_,h=>by
  rw [show m+1+g=(m+g)+1 by omega];exact ⟨λh0=>absurd h0 h.1,λi hi=>zMx (λb w' h'=>mV m _ b w' h'.2) (h.2 i hi)⟩
variable {v:Value}{V:Oper}{i:Nat}
def xU (G: ∀ f,F.fn f)(I:DF ops=true){T:World -> Prop}(J: ∀ c a d v w,Q (.panic c) (Act.put a d v) w -> Q (.panic c) a w)(hi:ops[i]? =some V)(Z: ∀ (j:Nat) (o:Oper) cs b,ops[j]? =some o -> o.op≠.select cs b)(hRi: ∀ w,R i w w)(uA: ∀ j,j<ops.size -> B8 j=true -> Gl ops ops.size j i=true):
 ∀ (m:Nat) (l:Array Bool) (a:Act) (w:World),HJ ops l ->
  (∀ j x,ops[j]? =some x -> j≠i -> l.getD j true=false -> (∀ e∈x.after,Region.binds .any e=true -> e.on≠i) -> V.apart ops x=true) ->
  (∀ j,j<ops.size -> j≠i -> l.getD j true=false -> Gl ops ops.size j i=false -> ∀ w w',T w -> R j w w' -> T w') ->
  i∈Region.ready .any ops l -> YieldsIf P ops T V v a -> T w ->
  Ke F n P ops Q R B8 g m (l.setIfInBounds i true) (a.put V.dst v) w -> Ke F n P ops Q R B8 g (m+1) l a w:=by
 intro m
 induction m with
 | zero=>
  intro l a w B _ _ p hy C H;have K:=(zNK.1 p).1;refine ⟨λh=>(by rw [h] at p;cases p),λj r=>?_⟩
  by_cases s:j=i
  ·grind [Xj,Hw]
  ·exfalso
   obtain ⟨X,x,q,L⟩:=zNK.1 r;have u:=(zGI.1 q).1;cases M:B8 j with
   | true=>
    grind [Xr]
   | false=>
    have:=H.1 j u M
    simp_all [Ne.symm]
 | succ m U=>
  intro l a w B D E p hy C H;have K:=(zNK.1 p).1;refine ⟨λh=>(by rw [h] at p;cases p),λj r=>?_⟩
  by_cases s:j=i
  ·grind [Xj,Hw]
  ·have N:=H.2 j (ready_mono r s);obtain ⟨X,x,q,L⟩:=zNK.1 r;have u:=(zGI.1 q).1
   have S:Gl ops ops.size j i=false:=by
    grind [Xr]
   have W: ∀ e∈x.after,Region.binds .any e=true -> e.on≠i:=λe he hb bD=>by
    grind
   have Y:=mP G (Hw I q) q (D j x q s X W) (λcs b=>Z i V cs b hi) (λcs b=>Z j x cs b q) (λc a w h=>J c a _ _ w h) hy N
   have O: ∀ {k:Nat},(l.setIfInBounds j true).getD k true=false -> l.getD k true=false:=λ{k} t=>by
    by_cases jW:j=k
    ·subst jW;exact X
    simp_all
   refine zMx (λa' w' y=>⟨y.2.1,U (l.setIfInBounds j true) a' w' (B.set r) (λk ok hk z t N4=>D k ok hk z (O t) N4) (λk Fd z t A=>E k Fd z (O t) A) (ready_mono p (Ne.symm s)) y.1 (E j u s X S w w' C y.2.1) ?_⟩) Y
   grind [Array.setIfInBounds_comm]
variable {m:Nat}
def mQ {id:Nat}(v:P.follows .mixedOrders=true)(j:m+g=ops.size)(h:Ke F n P ops Q R B8 g m (Array.replicate ops.size false) a w.drew):(Code.region id ops true).wpIn F n P Q a w:=
 wpIn_region_any v (by
  have:=mV (g:=g) m _ _ _ h;rw [j] at this;exact this)
def mR {c:Code}(h:c.wpIn F n P (NP Q) a w):c.wpIn F n P Q a w:=zMP h λe _ _ L=>by
 cases e <;> first | exact L | exact L.elim
def vf:HJ ops (Array.replicate ops.size false):=λj oj _ m=>by
 exfalso
 rcases zIW j ops.size with h | h
 ·simp [h] at m
 ·simp [h] at m
def VU (ops:Array Oper)(i:Nat):Bool:=match ops[i]? with
 | some o=>VT o.op
 | none=>false
def RZ (ops:Array Oper)(early:Nat -> Bool)(Z:Nat -> Ψ)(j:Nat)(w w':World):Prop:=(VU ops j=true -> w'=w)/\ (early j=true -> AQ (Z j) w w')
def ZF (ops:Array Oper)(early:Nat -> Bool)(i:Nat)(H:Array Bool):Bool:= (Region.ready .any ops H).contains i&&Region.free .any ops H i&&VU ops i&& ((List.range ops.size).all λj=>H.getD j true||j==i||VU ops j||early j||Gl ops ops.size j i)
def qK (k: ∀ f,F.fn f)(l:DF ops=true)(o:Region.noSelect ops=true){early:Nat -> Bool}{Z:Nat -> Ψ}{Zi:Ψ}(p: ∀ c a d v w,Q (.panic c) (Act.put a d v) w -> Q (.panic c) a w)(hi:ops[i]? =some V)(T:HJ ops H)(e:ZF ops early i H=true)(q: ∀ j,Gl ops ops.size j i=false -> ∀ b,Z j b -> Zi b)(N: ∀ j,j<ops.size -> B8 j=true -> Gl ops ops.size j i=true) 
 (hy:YieldsIf P ops (AQ Zi w) V v a) (h:Ke F n P ops Q (RZ ops early Z) B8 g m (H.setIfInBounds i true) (a.put V.dst v) w):Ke F n P ops Q (RZ ops early Z) B8 g (m+1) H a w:=by
 simp only [ZF,zEh,zGL,zGQ,zGq,zGk] at e;obtain ⟨⟨⟨r,s⟩,h3⟩,A⟩:=e;refine xU k l p hi (Region.noSelect_spec o) (λw=>⟨λ_=>rfl,λ_=>AQ.refl _ _⟩) N m H a w T (Region.free_spec hi s) (λj t u x U w1 w2 y hR=>?_) (by simpa using r) hy (AQ.refl _ _) h;rcases A j t with (((h | h) | h) | h) | h
 ·rw [x] at h;cases h
 ·exact absurd h u
 ·rw [hR.1 h];exact y
 ·exact y.trans ((hR.2 h).mono λb _ z=>q j U b z)
 ·rw [U] at h;cases h
def k6 (T:HJ ops H)(h:(Region.ready .any ops H).contains i=true):HJ ops (H.setIfInBounds i true):=T.set (by simpa using h)
end
end
abbrev zIO:=@Option.map_eq_some_iff
abbrev zMa:=@Bool.eq_false_iff
section
inductive ST where
 | fin (π live:Θ)
 | rd (i:Nat) (t:ST)
 | ef (i:Nat) (t Ie:ST)
 | no
def Xa:ST -> Θ
 | .ef i _ C=>i::Xa C
 | _=>[]
def Ey (ops:Array Oper)(early:Θ):Bool -> Nat -> ST -> Array Bool -> Bool
 | false,0,.fin _ _,L=>(List.range ops.size).all λj=>L.getD j true
 | false,m+1,.rd i t,L=>ZF ops (λj=>early.contains j) i L&&Ey ops early false m t (L.setIfInBounds i true)
 | b,m+1,.ef i t C,L=>(b||Region.ready .any ops L==Xa (.ef i .no C))&&!VU ops i&&Ey ops early false m t (L.setIfInBounds i true)&&Ey ops early true (m+1) C L
 | true,_,.no,_=>true
 | _,_,_,_=>false
def F3 (p:Nat -> Bool)(h:DH):DH:=(List.range h.length).map λi=>if p i then h.getD i none else none
def zFf (xs:Θ)(h:DH):DH:=F3 (λi=>!xs.contains i) h
def RR (S:St)(o:Oper):Option Nat:=match o.op with
 | .store _ x _=>match AZ S.fr x with
  | .ref k _=>some k
  | .mp k _ _ _=>some k
  | _=>none
 | _=>none
def I7:DV -> Θ
 | .msl k _ _ _=>[k]
 | _=>[]
def ct (S:St)(o:Oper):Option Θ:=match o.op with
 | .call c=>match c.callee with
  | .builtin .append=>match c.args.toList with
   | [x,y]=>some (I7 (AZ S.fr x)++I7 (AZ S.fr y))
   | _=>none
  | _=>none
 | _=>none
def Tj (P:Program)(S:St)(y:List (Nat×Fz))(o:Oper):Option Θ:=match Ym P S y o,YD P S o with
 | none,none=>ct S o
 | _,_=>none
def zFl (F:Θ)(h h':DH):Bool:=(List.range h.length).all λk=>F.contains k|| !(h.getD k none).isSome||(h'.getD k none).isSome
def oe (σ:Θ)(L n:Nat):Bool:=decide σ.Nodup&&σ.all (λk=>decide (k<n))&&(List.range L).all λk=>decide (σ[k]? =some k)
def Kd (xs:List (Nat×Nat))(F:Θ)(j:Nat):Θ:=(xs.filter λq=>q.1==j).map (·.2)++F
def My (ops:Array Oper)(xs:List (Nat×Nat))(F:Θ)(i:Nat):Θ:=(xs.filter λq=>!Gl ops ops.size q.1 i).map (·.2)++F
def vI (P:Program)(y:List (Nat×Fz))(early:Θ)(xs:List (Nat×Nat))(F:Θ)(S e:St)(i:Nat)(o:Oper)(ext:Bool):Bool:=
 zFl F S.h e.h&&(!(early.contains i)||ext||(match RR S o with | some k=>(Kd xs F i).contains k&&(S.h.getD k none).isSome | none=>false)||(match Tj P S y o with | some l=>l.all λk=>(Kd xs F i).contains k | none=>false))
def YX (π:Θ)(k:Nat):Θ:=List.range k++π.map (· +k)
def M5 (P:Program)(Γ:Au)(ops:Array Oper)(early:Θ)(xs:List (Nat×Nat))(F:Θ)(k:Nat)(S':St):ST -> St -> BR -> Option (List Prop×BR)
 | .no,_,M=>some ([],M)
 | .fin π B,S,M=>if oe (YX π k) k S.h.length then some ([GN (YX π k) ⟨forget B S.fr,S.h⟩=S'],M) else none
 | .rd i t,S,M=>match ops[i]? with
  | none=>none
  | some o=>match VI P ops ⟨S.fr,zFf (My ops xs F i) S.h⟩ M.co o with
   | none=>none
   | some (e,vs,m)=>match M5 P Γ ops early xs F k S' t ⟨e.fr,S.h⟩ ⟨M.calls,m,M.fz,M.tg⟩ with
    | none=>none
    | some (b,a)=>some (vs++b,a)
 | .ef i t C,S,M=>match ops[i]? with
  | none=>none
  | some o=>match Qq P Γ ops S M o with
   | none=>none
   | some (e,vs,ext,c)=>if vI P M.fz early xs F S e i o ext then
    match M5 P Γ ops early xs F k S' t e c with
    | none=>none
    | some (f,j)=>match M5 P Γ ops early xs F k S' C S j with
     | none=>none
     | some (Y,A)=>some (vs++(f++Y),A)
    else none
def B3 (ops:Array Oper)(early:Θ)(t:ST):Prop:=(Ey ops early false ops.size t (Array.replicate ops.size false)&&Region.noSelect ops&&DF ops)=true
def UG (P:Program)(Γ:Au)(ops:Array Oper)(early:Θ)(t:ST)(S:St)(M:BR):Option (St×List Prop×BR):=match M.tg with
 | []=>none
 | (W,S')::rest=>match M5 P Γ ops early W (List.range' S.h.length ops.size) S.h.length S' t S ⟨M.calls,M.co,M.fz,rest⟩ with
  | none=>none
  | some (vs,a)=>some (S',vs,a)
variable {h:DH}{p:Nat -> Bool}
theorem QV {i:Nat}{o:DO}(hi:(F3 p h)[i]? =some (some o)):h[i]? =some (some o)/\ p i=true:=by
 unfold F3 at hi
 grind
theorem oz :(F3 p h).length=h.length:=by simp [F3]
theorem kJ {k:Nat}(hp:p k=true)(hk:k<h.length):(F3 p h)[k]? =h[k]? :=by
 grind [F3]
section
variable {P:Program} {Γ:Au} {N:Ψ} {S:St} {ρ:List AI} {a:Act} {w:World}
def AS.sel (R:AS P Γ N S ρ a w)(p:Nat -> Bool):AS P Γ (λb=>N b∨∃ k o q,p k=false/\ S.h[k]? =some (some o)/\ ρ[k]? =some q/\ q.foot b) ⟨S.fr,F3 p S.h⟩ ρ a w:=by
 have Y: ∀ b,MS (λb=>N b∨∃ k o q,p k=false/\ S.h[k]? =some (some o)/\ ρ[k]? =some q/\ q.foot b) (F3 p S.h) ρ b -> MS N S.h ρ b:=by
  rintro b ((h | ⟨k,o,q,g,d,f,A⟩) | ⟨k,o,q,g,d,f⟩)
  ·exact .inl h
  ·exact .inr ⟨k,o,q,d,f,A⟩
  ·exact .inr ⟨k,o,q,(QV g).1,d,f⟩
 refine ⟨⟨by rw [oz];exact R.hr.len,λi o hi=>?_,λi o q b j s O=>?_,λi v o1 F I p2 b D j s O r G u=>R.hr.dis i v o1 F I p2 b D (QV j).1 (QV s).1 O r G u,?_,R.hr.gi⟩,R.fr.out (D5 Y ρ)⟩
 ·obtain ⟨q,L,x⟩:=R.hr.obj i o (QV hi).1;exact ⟨q,L,x.out (D5 Y ρ) (S:=λ_=>False) (AQ.refl _ _) (λ_ h=>h.elim) λ_ _ _ h=>h⟩
 ·obtain ⟨hi,l⟩:=QV j;obtain ⟨m,y,n⟩:=R.hr.cel i o q b hi s O;refine ⟨m,?_,n⟩;rintro (h | ⟨k,o',Q,g,d,f,A⟩)
  ·exact y h
  ·exact R.hr.dis i k o o' q Q b (λe=>by subst e;rw [l] at g;cases g) hi d s f O A
 ·rintro b (h | ⟨k,o',Q,g,d,f,A⟩)
  ·exact R.hr.nlt b h
  ·obtain ⟨m,_,c,t,z,n⟩:=R.hr.cel k o' Q b d f A
   grind
def AS.unsel {p:Nat -> Bool}{fr:List DV}(s:Aq P Γ N S.h ρ w)(R:BE (MS (λb=>N b∨∃ k o q,p k=false/\ S.h[k]? =some (some o)/\ ρ[k]? =some q/\ q.foot b) (F3 p S.h) ρ) w ρ fr a.tmps):AS P Γ N ⟨fr,S.h⟩ ρ a w:=by
 refine ⟨s,R.out (D5 (λb e=>?_) ρ)⟩;rcases e with h | ⟨k,o,q,f,c,d⟩
 ·exact .inl (.inl h)
 ·cases g:p k with
  | false=>exact .inl (.inr ⟨k,o,q,g,f,c,d⟩)
  | true=>
   refine .inr ⟨k,o,q,?_,c,d⟩
   grind [kJ]
def Zs (xs:Θ)(h:DH)(ρ:List AI)(w:World)(b:Nat):Prop:=(∃ k o q,k∈xs/\ h[k]? =some (some o)/\ ρ[k]? =some q/\ q.foot b)∨w.heap.size<=b
def zFm {xs:Θ}{W:World}(a:AQ (Zs xs S.h ρ w) w W):Keep (λb=>N b∨∃ k o q,(!xs.contains k)=false/\ S.h[k]? =some (some o)/\ ρ[k]? =some q/\ q.foot b) w W:=by
 intro b o u hb l;have p:b<w.heap.size:=zIb w ⟨b,o,none⟩ l;refine (vq (a.block b p ?_)).trans l;rintro (⟨k,ob,q,h1,h2,h3,h4⟩ | h)
 ·grind
 ·omega
variable {x y:Operand}{t:TypeId}{o:Oper}{ρ':Operand -> Value}
def TL (a:o.op= .store t x y){nx:Next}{w w':World}(h:(execOp ρ' o).run P w= .ok nx w'):nx= .skip:=by
 unfold execOp at h;rw [a] at h;have h:(Instr.storeAt t (ρ' x) (ρ' y)>>=λ_=>(pure .skip:Sem Next)).run P w= .ok nx w':=h;rw [zGu] at h;cases hs:(Instr.storeAt t (ρ' x) (ρ' y)).run P w with
 | ok v w1=>simp_all
 | halt x w1=>simp_all
variable {G Z:Value -> World -> Prop}
def BP.store (c:o.op= .store t x y){w:World}(h:BP P (execOp ρ' o) w G)(h':BP P (execOp ρ' o) w Z):BP P (execOp ρ' o) w (λv W=>G v W/\ Z v W):=by
 rcases h with ⟨v,w1,a,_⟩ | ⟨w1,a,e⟩ | ⟨f,ag,w1,a,_⟩
 ·cases TL c a
 ·rcases h' with ⟨v,d,b,_⟩ | ⟨d,b,s⟩ | ⟨f,ag,d,b,_⟩
  ·cases TL c b
  ·rw [a] at b;cases b;exact .inr (.inl ⟨w1,a,e,s⟩)
  ·cases TL c b
 ·cases TL c a
variable {h':DH}{k:Nat}{d:DV}
def yx {x:DV}{a:Prop}(e:(∃ j,x= .ref k j)∨∃ m i j,x= .mp k m i j)(h:Ov P S t x d=some (h',a)):k<S.h.length/\ ∃ b,Ov P ⟨S.fr,F3 (λi=>i==k) S.h⟩ t x d=some (b,a):=by
 have key: ∀ {o:DO},S.h[k]? =some (some o) -> k<S.h.length/\ (F3 (λi=>i==k) S.h)[k]? =some (some o):=λ{o} ho=>by
  grind [kJ]
 unfold Ov at h ⊢;rcases e with ⟨j,rfl⟩ | ⟨m,i,j,rfl⟩
 ·simp only at h ⊢;split at h
  ·grind
  ·cases h
 grind
def BP.appendB {c:Call}{V:TypeId}(i:o.op= .call c)(l:c.callee= .builtin .append)(D:c.args.toList= [x,y])(X:c.argTypes.toList= [t,V]){w:World}(h:BP P (execOp ρ' o) w G)(h':BP P (execOp ρ' o) w Z):BP P (execOp ρ' o) w (λv W=>G v W/\ Z v W):=by
 have p: ∀ {nx:Next} {w':World},(execOp ρ' o).run P w= .ok nx w' -> ∃ v,nx= .value v:=λJ=>by
  rw [OO i l D X] at J;exact RC (f:=λx=>x) J
 rcases h with ⟨v,w1,a,g⟩ | ⟨w1,a,_⟩ | ⟨f,ag,w1,a,_⟩
 ·rcases h' with ⟨v',d,b,j⟩ | ⟨d,b,_⟩ | ⟨f,ag,d,b,_⟩
  ·rw [a] at b;cases b;exact .inl ⟨v,w1,a,g,j⟩
  ·obtain ⟨_,e⟩:=p b;cases e
  ·obtain ⟨_,e⟩:=p b;cases e
 ·obtain ⟨_,e⟩:=p a;cases e
 ·obtain ⟨_,e⟩:=p a;cases e
theorem bR {p:Nat -> Bool}{h:DH}(hp:p k=true):(F3 p h)[k]? =h[k]? :=by
 grind [kJ,oz]
def zLs {p:Nat -> Bool}{x y:DV}(a: ∀ k∈I7 x,p k=true)(hy: ∀ k∈I7 y,p k=true):(Ti P ⟨S.fr,F3 p S.h⟩ t x y).map (·.2.2)=(Ti P S t x y).map (·.2.2):=by
 have w:MJ ⟨S.fr,F3 p S.h⟩ y=MJ S y:=by
  cases y <;> try rfl
  grind [MJ,bR,I7]
 have b:Qk ⟨S.fr,F3 p S.h⟩ y=Qk S y:=by
  cases y <;> try rfl
  grind [Qk,bR,I7]
 have d: ∀ m,QX ⟨S.fr,F3 p S.h⟩ m y=QX S m y:=λm=>by
  cases y <;> try rfl
  grind [QX,bR,I7]
 have ex: ∀ k m off n,x= .msl k m off n -> (F3 p S.h)[k]? =S.h[k]? :=λk m off n e=>bR (a k (by subst e;simp [I7]))
 unfold Ti;cases Lc P t with
 | none=>rfl
 | some v=>
  obtain ⟨k,e,i,z⟩:=v;simp only
  by_cases c:128<i.bytes
  ·simp only [c,zI6]
  simp only [c,zMy];cases k with
  | ints=>
   simp only [w];cases MJ S y with
   | none=>rfl
   | some v=>
    cases x <;> try rfl
    grind
  | bools=>
   simp only [b];cases Qk S y with
   | none=>rfl
   | some v=>
    cases x <;> try rfl
    grind
  | gen W=>
   simp only [d];cases QX S W y with
   | none=>rfl
   | some v=>
    cases x <;> try rfl
    grind
variable {ext:Bool}{vs:List Prop}
def zLt (R:AS P Γ N S ρ a w){g:List (DV×DH×Bool)}{B:List (DV×DH×Bool)}(h:Oa P Γ S g o.op=some (d,h',vs,ext,B))(C:Bp vs){l:Θ}(m:ct S o=some l)(E:BP P (execOp a.eval o) w G):
 BP P (execOp a.eval o) w (λv w'=>G v w'/\ AQ (λb=>∃ k o q,k∈l/\ S.h[k]? =some (some o)/\ ρ[k]? =some q/\ q.foot b) w w'):=by
 unfold ct at m;split at m
 rotate_left
 ·cases m
 rename_i c n;split at m
 rotate_left
 ·cases m
 rename_i r;split at m
 rotate_left
 ·cases m
 rename_i x y D;cases m;rw [n] at h;simp only [Oa,r,D] at h;split at h
 rotate_left
 ·cases h
 rename_i t t' X;split at h
 rotate_left
 ·cases h
 rename_i F;subst F;split at h
 rotate_left
 ·cases h
 rename_i d1 h1 H L;cases h;have u:=zLs (P:=P) (S:=S) (t:=t) (x:=AZ S.fr x) (y:=AZ S.fr y) (p:=λk=>(I7 (AZ S.fr x)++I7 (AZ S.fr y)).contains k) (λk hk=>by simp [hk]) (λk hk=>by simp [hk]);rw [L] at u;obtain ⟨⟨d2,h2,I⟩,J,s⟩:=zIO.1 u;have s:I=H:=s;subst s;have K:=wf (AS.sel R (λk=>(I7 (AZ S.fr x)++I7 (AZ S.fr y)).contains k)) J C.1 o n r D X;rcases BP.appendB n r D X E K with ⟨v,w1,j,z,A⟩ | ⟨w1,j,z,A⟩ | ⟨f,ag,w1,j,BH⟩
 ·refine .inl ⟨v,w1,j,z,?_⟩;obtain ⟨ρ2,_,_,st,_⟩:=A.ex;refine st.upd.mono λb _ M=>?_
  obtain ⟨i,o',q,q1,q2,q3⟩:=M
  grind [QV]
 ·rw [OO n r D X] at j;obtain ⟨_,e⟩:=RC (f:=λx=>x) j;cases e
 ·rw [OO n r D X] at j;obtain ⟨_,e⟩:=RC (f:=λx=>x) j;cases e
def di (h:RR S o=some k): ∃ t x y,o.op= .store t x y/\ ((∃ j,AZ S.fr x= .ref k j)∨∃ m i j,AZ S.fr x= .mp k m i j):=by
 grind [RR]
variable {l:List (DV×DH×Bool)}
def zMK (b:o.op= .store t x y){c:List (DV×DH×Bool)}(h:Oa P Γ S l o.op=some (d,h',vs,ext,c)): ∃ a,Ov P S t (AZ S.fr x) (AZ S.fr y)=some (h',a)/\ vs= [a]:=by
 rw [b] at h;simp only [Oa] at h
 grind
def zML (R:AS P Γ N S ρ a w){j:List (DV×DH×Bool)}(h:Oa P Γ S l o.op=some (d,h',vs,ext,j))(p:Bp vs):
 BP P (execOp a.eval o) w (λv w'=>CC P Γ N S.h ρ w ext d h' v w'/\ ∀ k,RR S o=some k -> AQ (λb=>∃ q,ρ[k]? =some q/\ q.foot b) w w'):=by
 cases hst:RR S o with
 | none=>
  have D:=mA R h p
  simp_all
 | some k=>
  obtain ⟨t,x,y,c,m⟩:=di hst;have D:=mA R h p;obtain ⟨vc,n,rfl⟩:=zMK c h;obtain ⟨_,h2,r⟩:=yx m n;have u:=oA (AS.sel R (λi=>i==k)) (tx:=x) (x:=y) r p.1 o c;have Y:=BP.store c D u;rcases Y with ⟨v,w1,e,g,s⟩ | ⟨w1,e,g,s⟩ | ⟨f,ag,w1,e,_⟩
  ·cases TL c e
  ·refine .inr (.inl ⟨w1,e,g,λk' L=>?_⟩);cases L;obtain ⟨ρ2,_,_,st,_⟩:=s.ex;refine st.upd.mono λb _ z=>?_
   obtain ⟨i,o',q,A,q2,q3⟩:=z;have:=(QV A).2
   grind
  ·cases TL c e
variable {Q:Exit -> Act -> World -> Prop}{S':St}{ops:Array Oper}{F:Fence}
def zLo (j:Dv F P)(R:AS P Γ N S ρ a w){X:BR}(r: ∀ c,o.op≠.defer c){CM:BR}(h:Qq P Γ ops S X o=some (S',vs,ext,CM))(u:Bp vs) 
 {K:Act -> World -> Prop}  (m: ∀ ρ' z w',AS P Γ N S' ρ' z w' -> DJ S.h ρ w S'.h ρ' w' -> z.defers=a.defers -> (ext=true -> A0 w w') -> (∀ k,RR S o=some k -> AQ (λb=>∃ q,ρ[k]? =some q/\ q.foot b) w w') -> (∀ l,Tj P S X.fz o=some l -> AQ (λb=>∃ k o q,k∈l/\ S.h[k]? =some (some o)/\ ρ[k]? =some q/\ q.foot b) w w') -> K z w'):
 if Region.wanted o (yielded ops a.tmps) then o.wpIn F 0 P a w K Q else (∀ f,o.about P w a.eval=some f -> F.fn f)/\ K (a.put o.dst undef) w:=by
 have n: ∀ v,(a.put o.dst v).defers=a.defers:=λv=>by cases ho:o.dst <;> simp [Act.put]
 unfold Qq at h;split at h
 ·cases h
 ·rename_i U;cases h;rw [zGN (by rw [Im R U];exact zMl)];exact ⟨λf _=>j.fn f,m ρ _ _ (HN R _ Xx) (DJ.refl _ _ _) (n _) (λ_=>A0.refl w) (λ_ _=>AQ.refl _ _) λ_ _=>AQ.refl _ _⟩
 ·rename_i U;rw [zEZ (Im R U)];split at h
  ·rename_i S1 Z fz1 Y;cases h;refine Lf j r (pL R Y u) λv w' ⟨⟨ρ',g,s⟩,hst⟩=>m ρ' _ _ g s (n v) (λe=>by cases e) (λA L=>?_) λl B=>?_
   obtain ⟨t0,C,E,H,_⟩:=di L;rcases hst with hst | ⟨k,i,p,t,x,y,q1,q2,I,J⟩
   ·exact absurd H (hst t0 C E)
   have e:A=k:=by
    grind
   subst e;exact J.mono λb _ O=>⟨p,I,O⟩
   grind [Tj]
  split at h
  ·rename_i S1 Z Y;cases h;refine Lf j r (n9 R Y u) λv w' ⟨⟨ρ',g,s⟩,hst⟩=>m ρ' _ _ g s (n v) (λe=>by cases e) (λA L=>?_) λl B=>?_
   obtain ⟨t0,C,E,H,_⟩:=di L;rcases hst with hst | ⟨k,i,p,t,x,y,q1,q2,I,J⟩
   ·exact absurd H (hst t0 C E)
   have e:A=k:=by
    grind
   subst e;exact J.mono λb _ O=>⟨p,I,O⟩
   grind [Tj]
  split at h
  ·cases h
  ·rename_i d h1 Z ext1 calls bI;split at h;rename_i d' Bz Ds OD;split at h
   ·cases h
   ·rename_i S2 RB LY Hj;cases h;obtain ⟨Bs,Vy⟩:=DY.1 u;obtain ⟨CX,JG⟩:=DY.1 Vy;have D:=zML R bI Bs;cases QO:ct S o with
    | none=>
     refine Lf j r D λv w' G=>?_
     obtain ⟨ρ',g,s⟩:=OH R o.dst G.1 (d':=d') λM ρ' T=>XJ OD CX T
     obtain ⟨V,W⟩:=We _ Hj JG P Γ N ρ' _ _ g;refine m ρ' _ _ V (s.trans ⟨W,λ_ _ h=>h⟩) (n v) G.1.ext G.2 λl B=>?_
     grind [Tj]
    | some l0=>
     refine Lf j r (zLt R bI Bs QO D) λv w' G=>?_
     obtain ⟨ρ',g,s⟩:=OH R o.dst G.1.1 (d':=d') λM ρ' T=>XJ OD CX T
     obtain ⟨V,W⟩:=We _ Hj JG P Γ N ρ' _ _ g;refine m ρ' _ _ V (s.trans ⟨W,λ_ _ h=>h⟩) (n v) G.1.1.ext G.1.2 λl B=>?_
     grind [Tj]
variable {early:Θ}
def mz (hF:Dv F P)(BB:DF ops=true)(hs:Region.noSelect ops=true){xs:List (Nat×Nat)}{f:Θ}{D:Nat}:
 ∀ (t:ST) (m:Nat) (L:Array Bool) {S:St} {ρ:List AI} {a:Act} {w:World} {vs:List Prop} {M CM:BR},HJ ops L -> AS P Γ N S ρ a w -> M5 P Γ ops early xs f D S' t S M=some (vs,CM) -> Bp vs ->
 (∀ ρ' g w',AS P Γ N S' ρ' g w' -> A3 S.h ρ w S'.h ρ' w' -> (∀ k p,k<D -> ρ[k]? =some p -> ρ'[k]? =some p) -> g.defers=a.defers -> Q .normal g w') ->
 (Ey ops early false m t L=true -> Xo F 0 P ops (NP Q) (RZ ops (λj=>early.contains j) (λj=>Zs (Kd xs f j) S.h ρ w)) m L a w)/\
 (Ey ops early true m t L=true -> ∀ i∈Xa t,i∈Region.ready .any ops L -> ∃ Z,m=Z+1/\ wpOpIn F 0 P ops (NP Q) i (λg w'=>RZ ops (λj=>early.contains j) (λj=>Zs (Kd xs f j) S.h ρ w) i w w'/\ Xo F 0 P ops (NP Q) (RZ ops (λj=>early.contains j) (λj=>Zs (Kd xs f j) S.h ρ w)) Z (L.setIfInBounds i true) g w') a w):=by
 intro t
 induction t with
 | no=>
  intro m L S ρ a w vs M f6 n R J E u;exact ⟨λh=>by cases m <;> simp [Ey] at h,λ_ i hi=>by cases hi⟩
 | fin π B=>
  intro m L S ρ a w vs M f6 n R J E u;refine ⟨λh=>?_,λh=>by cases m <;> simp [Ey] at h⟩;cases m with
  | succ m=>simp [Ey] at h
  | zero=>
   simp only [Ey,zGL,zGQ] at h;refine xV h ?_;simp only [M5] at J;split at J
   ·rename_i Y;cases J;simp only [oe,zEh,zHx,zGL,zGQ] at Y;obtain ⟨ρ0,R0,FE,G⟩:=A8.forget (L:=D) B S.fr S.h P Γ N ρ a w R;obtain ⟨ρ',R',E0,k'⟩:=A8.compact (L:=D) (YX π D) ⟨forget B S.fr,S.h⟩ Y.1.1 (λk hk=>Y.1.2 k hk) (λk hk=>Y.2 k hk) P Γ N ρ0 a w R0;have st:=FE.trans E0;have e:GN (YX π D) ⟨forget B S.fr,S.h⟩=S':=E.1;rw [e] at R' st E0;exact u ρ' a w R' st (λk p hk y=>k' k p hk (G k p hk y)) rfl
   ·cases J
 | rd i t ih=>
  intro m L S ρ a w vs M f6 n R J E u;refine ⟨λh=>?_,λh=>by cases m <;> simp [Ey] at h⟩;cases m with
  | zero=>simp [Ey] at h
  | succ m=>
   simp only [Ey,zEh] at h;simp only [M5] at J;split at J
   ·cases J
   ·rename_i o H
    ·split at J
     ·cases J
     ·rename_i K Da cQ y;split at J
      ·cases J
      ·rename_i FW Gu h2;cases J;obtain ⟨Bs,CX⟩:=DY.1 E;have RK:=AS.sel R (λk=>!(My ops xs f i).contains k);obtain ⟨e1,hst⟩:=ZL RK y Bs;have Cw: ∀ v,(a.put o.dst v).defers=a.defers:=λv=>by cases H:o.dst <;> simp [Act.put]
       have O:(Region.ready .any ops L).contains i=true:=by
        simp_all [ZF]
       have back: ∀ v,BE (MS (λb=>N b∨∃ k o q,(!(My ops xs f i).contains k)=false/\ S.h[k]? =some (some o)/\ ρ[k]? =some q/\ q.foot b) K.h ρ) w ρ K.fr (a.put o.dst v).tmps -> AS P Γ N ⟨K.fr,S.h⟩ ρ (a.put o.dst v) w:=λv z=>by
        rw [e1] at z;exact AS.unsel (p:=λk=>!(My ops xs f i).contains k) R.hr z
       have hZ: ∀ j,Gl ops ops.size j i=false -> ∀ b,Zs (Kd xs f j) S.h ρ w b -> Zs (My ops xs f i) S.h ρ w b:=by
        rintro j hj b (⟨k,ob,q,k1,G,k2,k3⟩ | hb)
        ·refine .inl ⟨k,ob,q,?_,G,k2,k3⟩;unfold Kd at k1;unfold My;rcases zIF.1 k1 with k1 | k1
         ·obtain ⟨p,p1,p2⟩:=zIH.1 k1
          grind
         ·exact zIF.2 (.inr k1)
        ·exact .inr hb
       rcases hst with ⟨U,v,g1,I⟩ | ⟨U,I⟩
       ·refine qK (Zi:=Zs (My ops xs f i) S.h ρ w) hF.fn BB hs (λc a d v w h=>NP.put c a d v w h) H n h.1 hZ (λ_ _ h=>by cases h) (.inl ⟨U,λW hu=>g1 W (zFm hu)⟩) ?_;exact (ih m _ (k6 n O) (back v I.fr) h2 CX λρ' g w' r s C V=>u ρ' g w' r s C (V.trans (Cw v))).1 h.2
       ·refine qK (Zi:=Zs (My ops xs f i) S.h ρ w) hF.fn BB hs (v:=undef) (λc a d v w h=>NP.put c a d v w h) H n h.1 hZ (λ_ _ h=>by cases h) (.inr ⟨U,rfl⟩) ?_;exact (ih m _ (k6 n O) (back undef I.fr) h2 CX λρ' g w' r s C V=>u ρ' g w' r s C (V.trans (Cw undef))).1 h.2
 | ef i t X Pv Pu=>
  intro m L S ρ a w vs M f6 n R J E u;simp only [M5] at J;split at J
  ·cases J
  ·rename_i o H;split at J
   ·cases J
   ·rename_i K Da ext Gv h1;split at J
    ·rename_i Sy;simp only [vI,zEh,zGq] at Sy;obtain ⟨zIE,zIX⟩:=Sy;split at J
     ·cases J
     rename_i FW Gu h2;split at J
     ·cases J
     ·rename_i RA MB h3;cases J;obtain ⟨Bs,D9⟩:=DY.1 E;obtain ⟨CX,JG⟩:=DY.1 D9;have A:=Pu m L n R h3 JG u
      have one: ∀ b,Ey ops early b m (.ef i t X) L=true -> (Region.ready .any ops L).contains i=true -> ∃ Z,m=Z+1/\ Ey ops early true m X L=true/\ wpOpIn F 0 P ops (NP Q) i (λg w'=>RZ ops (λj=>early.contains j) (λj=>Zs (Kd xs f j) S.h ρ w) i w w'/\ Xo F 0 P ops (NP Q) (RZ ops (λj=>early.contains j) (λj=>Zs (Kd xs f j) S.h ρ w)) Z (L.setIfInBounds i true) g w') a w:=by
       intro b hb z;cases m with
       | zero=>cases b <;> simp [Ey] at hb
       | succ m=>
        have En:(!VU ops i)=true/\ Ey ops early false m t (L.setIfInBounds i true)=true/\ Ey ops early true (m+1) X L=true:=by
         cases b <;> simp only [Ey,zEh] at hb <;> exact ⟨hb.1.1.2,hb.1.2,hb.2⟩
        obtain ⟨b1,b2,b3⟩:=En;refine ⟨m,rfl,b3,?_⟩;unfold wpOpIn;simp only [H];refine zLo hF R (Hw BB H) h1 Bs λρ' g w' R' st EL LR zGc zIn=>?_
        refine ⟨⟨λy=>(by rw [y] at b1;cases b1),λhe=>?_⟩,?_⟩
        ·rcases zIX with ((h | h) | h) | h
         ·grind
         ·exact AQ.ofExt (LR h)
         ·split at h
          ·rename_i k hk;rw [zEh] at h;refine (zGc k hk).mono λb _ hb=>?_
           obtain ⟨q,r,s⟩:=hb;cases hg:S.h.getD k none with
           | none=>rw [hg] at h;cases h.2
           | some ob=>exact .inl ⟨k,ob,q,by simpa using h.1,getD_some hg,r,s⟩
          ·cases h
         ·split at h
          ·rename_i l hl;refine (zIn l hl).mono λb _ hb=>?_
           obtain ⟨k,ob,q,q0,r,s,C⟩:=hb;exact .inl ⟨k,ob,q,by simpa using zGL.1 h k q0,r,s,C⟩
          ·cases h
        ·have T:=(Pv m _ (k6 n z) R' h2 CX λρ2 a2 w2 r s C V=>u ρ2 a2 w2 r (st.st.trans s) (λk p hk y=>C k p hk (st.pl k p y)) (V.trans EL)).1 b2;refine mO (λj w1 w2 hR=>⟨hR.1,λhe=>(hR.2 he).mono λb KG hb=>?_⟩) _ _ _ _ T;rcases hb with ⟨k,ob,q,k1,G,k2,k3⟩ | hb
         ·rcases st.st.grow b ⟨k,ob,q,G,k2,k3⟩ with ⟨x,o2,p2,g1,I,g3⟩ | h
          ·by_cases CS:x∈Kd xs f j
           ·exact .inl ⟨x,o2,p2,CS,g1,I,g3⟩
           ·exfalso
            have JL:=(zGe.1 g1).1;have JE:=zGL.1 zIE x (zGQ.2 JL);have e2:S.h.getD x none=some o2:=by grind
            have jL:f.contains x=false:=zMa.2 λh=>CS (zIF.2 (.inr (by simpa using h)))
            rw [e2,jL] at JE;cases te:K.h.getD x none with
            | none=>rw [te] at JE;cases JE
            | some ob2=>exact R'.hr.dis x k ob2 ob p2 q b (λe=>CS (e▸k1)) (getD_some te) G (st.pl x p2 I) k2 g3 k3
          ·exact .inr h
         ·exact .inr (zGK st.st.upd.size hb)
      refine ⟨λh=>?_,λh j hj z=>?_⟩
      ·have O:Region.ready .any ops L=i::Xa X:=by
        cases m <;> simp only [Ey,zEh,zGq,zGk,Xa,zIp,false_or] at h;exact h.1.1.1
       obtain ⟨Z,e,ha,U⟩:=one false h (by rw [O];simp);subst e;refine ⟨by rw [O];simp,λj hj=>?_⟩
       grind
      ·rcases zIq.1 hj with rfl | hj
       ·obtain ⟨Z,e,ha,U⟩:=one true h (by simpa using z);exact ⟨Z,e,U⟩
       ·have ha:Ey ops early true m X L=true:=by
         cases m <;> simp only [Ey,zEh] at h
         ·cases h
         ·exact h.2
        exact A.2 ha j hj z
    ·cases J
def Tr.tree {B:Option Nat}{L:Nat}{Y:BL P Γ L}{Q:QY P Γ L}(c:Dv F P){id:Nat}{t:ST}{M d:BR}(v:P.follows .mixedOrders=true)(H:B3 ops early t) 
 (h:UG P Γ ops early t S M=some (S',vs,d)) (e:Bp vs) (hk:Q .normal S' Y):Tr P Γ F B L Y (.region id ops true) S Q:=λN ρ a w R y m b=>by
 simp only [B3,zEh] at H;obtain ⟨⟨f,g⟩,i⟩:=H;unfold UG at h;split at h
 ·cases h
 split at h
 ·cases h
 ·rename_i J;cases h;have C:A0 w w.drew:=A0.toDrew w;refine mR (mQ v (zNh _) ((mz c i g t ops.size _ vf (R.ext C) J e λρ' a' w' R' st A K=>?_).1 f));have s:A3 S.h ρ w S'.h ρ' w':=(A3.ext C).trans st;exact Tr.done R y m b hk R' s (λk p _ j=>A k p (by rw [←R.hr.len];grind) j) K
end
end
abbrev zI8:=@Go.wpIn_region_list
abbrev zM5:=@Go.IntKind.wrap_i64
inductive KI where
 | code (c:Code)
 | blk (id:Nat)
 | scp
 | lend (J:St -> Prop)
 | loopN (m:Nat) (b:Code)
def Hn (P:Program)(Γ:Au)(F:Fence)(B:Option Nat)(L:Nat)(b:Code)(Q:QY P Γ L):Nat -> St -> BL P Γ L -> Prop
 | 0,_,_=>False
 | m+1,S,Y=>Tr P Γ F B L Y b S (RM (Hn P Γ F B L b Q m) Q)
def Hn.loop {P:Program}{Γ:Au}{F:Fence}{B:Option Nat}{L:Nat}{Y:BL P Γ L}{b:Code}{Q:QY P Γ L}{m:Nat}{S:St}(h:Hn P Γ F B L b Q m S Y):Tr P Γ F B L Y (.loop b) S Q:=by
 refine Tr.loop (λm S Y=>Hn P Γ F B L b Q m S Y) m h λm S Y v=>?_
 cases m with
 | zero=>exact v.elim
 | succ m=>
  refine Tr.mono v λe S' Y' a=>?_
  cases e with
  | normal=>exact ⟨m,Nat.lt_succ_self m,a⟩
  | _=>exact a
def BF (P:Program)(Γ:Au)(F:Fence)(B:Option Nat)(L:Nat)(Q:QY P Γ L):List KI -> QY P Γ L
 | [],e,S,Y=>Q e S Y
 | .code c::k,e,S,Y=>match e with
  | .normal=>Tr P Γ F B L Y c S (BF P Γ F B L Q k)
  | e=>BF P Γ F B L Q k e S Y
 | .blk id::k,e,S,Y=>match e with
  | .exit i=>if i=id then BF P Γ F B L Q k .normal S Y else BF P Γ F B L Q k (.exit i) S Y
  | e=>BF P Γ F B L Q k e S Y
 | .scp::k,e,S,Y=>match e with
  | .goto _=>False
  | e=>BF P Γ F B L Q k e S Y
 | .lend J::k,e,S,Y=>match e with
  | .normal=>J S
  | e=>BF P Γ F B L Q k e S Y
 | .loopN m b::k,e,S,Y=>match e with
  | .normal=>Hn P Γ F B L b (BF P Γ F B L Q k) m S Y
  | e=>BF P Γ F B L Q k e S Y
def A1 (P:Program)(Γ:Au)(F:Fence)(B:Option Nat)(L:Nat)(Y:BL P Γ L)(Q:QY P Γ L)(k:List KI)(S:St):Prop:=BF P Γ F B L Q k .normal S Y
def stay {P:Program}{Γ:Au}{L:Nat}(N:BL P Γ L)(Q:Exit -> St -> Prop):QY P Γ L:=λe S Y=>Y=N/\ Q e S
abbrev Bi (P:Program)(Γ:Au)(F:Fence)(B:Option Nat)(L:Nat)(N:BL P Γ L)(Q:Exit -> St -> Prop)(k:List KI)(S:St):Prop:=A1 P Γ F B L N (stay N Q) k S
def Jz (id:Nat):List KI -> Option (List KI)
 | []=>none
 | .blk i::k=>if id=i then some k else Jz id k
 | _::k=>Jz id k
inductive mB where
 | no
 | ord (st:List (Θ×Nat)) (la ta:Θ)
 | stop
 | tre (early:Θ) (t:ST)
abbrev Be:=Nat -> mB
def mB.isStop:mB -> Bool
 | .stop=>true
 | _=>false
def Ab (i:Nat)(s:Be):Be:=λj=>if j=i then .stop else s j
def Ax (ops:Array Oper)(s:List (Θ×Nat))(B e:Θ):Prop:=(eJ ops s B e&&DF ops&&e.all λt=>decide (t<ops.size))=true
inductive KO where
 | at (k:List KI)
 | ret
def CN (P:Program)(Γ:Au)(L:Be):Nat -> List KI -> St -> BR -> Option (KO×St×List Prop×BR)
 | 0,_,_,_=>none
 | n+1,k,S,o=>match k with
  | []=>some (.at [],S,[],o)
  | .blk _::k=>CN P Γ L n k S o
  | .scp::k=>CN P Γ L n k S o
  | .lend J::k=>some (.at (.lend J::k),S,[],o)
  | .loopN m b::k=>some (.at (.loopN m b::k),S,[],o)
  | .code c::k=>match c with
   | .skip=>CN P Γ L n k S o
   | .seq a b=>CN P Γ L n (.code a:: .code b::k) S o
   | .block id b=>CN P Γ L n (.code b:: .blk id::k) S o
   | .scope b=>CN P Γ L n (.code b:: .scp::k) S o
   | .label _=>CN P Γ L n k S o
   | .exit id=>match Jz id k with
    | some g=>CN P Γ L n g S o
    | none=>some (.at (.code (.exit id)::k),S,[],o)
   | .ret=>some (.ret,S,[],o)
   | .cond x a b=>match AZ S.fr x with
    | .bool true=>CN P Γ L n (.code a::k) S o
    | .bool false=>CN P Γ L n (.code b::k) S o
    | _=>none
   | .region id ops e=>if (L id).isStop then some (.at (.code (.region id ops e)::k),S,[],o) else match e with
    | false=>if DF ops then match EN P Γ ops ops.toList S o with
     | none=>none
     | some (S',vs,o')=>match CN P Γ L n k S' o' with
      | none=>none
      | some (r,R,d,E)=>some (r,R,vs++d,E)
     else none
    | true=>match L id with
     | .no=>none
     | .stop=>none
     | .tre early t=>match UG P Γ ops early t S o with
      | none=>none
      | some (S',vs,o')=>match CN P Γ L n k S' o' with
       | none=>none
       | some (r,R,d,E)=>some (r,R,B3 ops early t::(vs++d),E)
     | .ord st W u=>match hseq P Γ ops S.h st W u S o with
      | none=>none
      | some (S',vs,o')=>match CN P Γ L n k S' o' with
       | none=>none
       | some (r,R,d,E)=>some (r,R,Ax ops st W u::(vs++d),E)
   | c=>some (.at (.code c::k),S,[],o)
section
variable {P:Program} {Γ:Au} {F:Fence} {B:Option Nat} {L:Nat} {Y:BL P Γ L} {Q:QY P Γ L}
variable {vs:List Prop}{S' S:St}{M t:BR}{ops:Array Oper}{id:Nat}
def zJE (c:Dv F P){Q:QY P Γ L}(v:DF ops=true)(h:EN P Γ ops ops.toList S M=some (S',vs,t))(d:Bp vs)(hk:Q .normal S' Y):Tr P Γ F B L Y (.region id ops false) S Q:=λN ρ a w R y m b=>
 zI8 (LW c v _ (λo x=>by simpa using x) R h d λρ' a' w' R' st K=>Tr.done R y m b hk R' st.st (λk p _ g=>st.pl k p g) K)
def zGi (d:Dv F P){s:List (Θ×Nat)}{c e:Θ}{Q:QY P Γ L}(v:P.follows .mixedOrders=true)(H:Ax ops s c e) 
 (h:hseq P Γ ops S.h s c e S M=some (S',vs,t)) (f:Bp vs) (hk:Q .normal S' Y):Tr P Γ F B L Y (.region id ops true) S Q:=λN ρ a w R y m b=>by
 simp only [Ax,zEh] at H;obtain ⟨⟨h1,g⟩,i⟩:=H;have C:A0 w w.drew:=A0.toDrew w;refine xY d.fn s c e v (by grind) (zGj d g s c e i (R.ext C) (DJ.refl _ _ _) (A0.refl _) h f λρ' a' w' R' st K=>?_);have j:A3 S.h ρ w S'.h ρ' w':=(A3.ext C).trans st.st;exact Tr.done R y m b hk R' j (λk p _ l=>st.pl k p l) K
def PI : ∀ {k g:List KI},Jz id k=some g -> BF P Γ F B L Q g .normal S Y -> BF P Γ F B L Q k (.exit id) S Y
 | [],_,h,_=>by cases h
 | .blk i::k,g,h,a=>by
  unfold Jz at h;split at h
  ·rename_i e;cases h;subst e
   show (if id=id then _ else _)
   rw [zEZ rfl];exact a
  ·rename_i e
   show (if id=i then _ else _)
   rw [zGN e];exact PI h a
 | .code c::k,g,h,a=>PI (k:=k) h a
 | .lend J::k,g,h,a=>PI (k:=k) h a
 | .scp::k,g,h,a=>PI (k:=k) h a
 | .loopN m b::k,g,h,a=>PI (k:=k) h a
def NO (h:Q .ret S Y): ∀ (k:List KI),BF P Γ F B L Q k .ret S Y
 | []=>h
 | .blk _::k=>NO h k
 | .code _::k=>NO h k
 | .lend _::k=>NO h k
 | .scp::k=>NO h k
 | .loopN _ _::k=>NO h k
def KOk (P:Program)(Γ:Au)(F:Fence)(B:Option Nat)(L:Nat)(Y:BL P Γ L)(Q:QY P Γ L):KO -> St -> Prop
 | .at k,S=>A1 P Γ F B L Y Q k S
 | .ret,S=>Q .ret S Y
def GH (d:Dv F P)(v:P.follows .mixedOrders=true){M:Be}: ∀ (n:Nat) (k:List KI) (S:St) (o:BR) (r:KO) (S':St) (vs:List Prop) (o':BR),CN P Γ M n k S o=some (r,S',vs,o') -> Bp vs -> KOk P Γ F B L Y Q r S' -> A1 P Γ F B L Y Q k S
 | 0,_,_,_,_,_,_,_,h,_,_=>by cases h
 | n+1,k,S,o,r,S',vs,o',h,p,hk=>by
  unfold CN at h;cases k with
  | nil=>cases h;exact hk
  | cons i k=>
   cases i with
   | blk id=>exact GH d v n k S o r S' vs o' h p hk
   | scp=>exact GH d v n k S o r S' vs o' h p hk
   | lend J=>cases h;exact hk
   | loopN m b=>cases h;exact hk
   | code c=>
    show Tr P Γ F B L Y c S (BF P Γ F B L Q k)
    cases c with
    | skip=>exact Tr.skip (GH d v n k S o r S' vs o' h p hk)
    | seq a b=>
     refine Tr.seq (Tr.mono (GH d v n (.code a:: .code b::k) S o r S' vs o' h p hk) λe g D j=>?_);cases e <;> exact j
    | block id b=>
     refine Tr.block (Tr.mono (GH d v n (.code b:: .blk id::k) S o r S' vs o' h p hk) λe g D j=>?_);cases e <;> exact j
    | exit id=>
     simp only at h;split at h
     ·rename_i N O;exact Tr.exit (PI O (GH d v n N S o r S' vs o' h p hk))
     ·cases h;exact hk
    | ret=>cases h;exact Tr.ret (NO hk k)
    | cond x a b=>
     simp only at h;split at h
     ·rename_i z;exact Tr.cond z (λ_=>GH d v n (.code a::k) S o r S' vs o' h p hk) (λe=>by cases e)
     ·rename_i z;exact Tr.cond z (λe=>by cases e) (λ_=>GH d v n (.code b::k) S o r S' vs o' h p hk)
     ·cases h
    | region id ops R=>
     simp only at h;split at h
     ·cases h;exact hk
     ·cases R with
      | false=>
       simp only at h;split at h
       ·rename_i T;split at h
        ·cases h
        ·rename_i q E o1 s;split at h
         ·cases h
         ·rename_i G g H K u;cases h;obtain ⟨y,I⟩:=DY.1 p;exact zJE d T s y (GH d v n k q o1 _ _ _ _ u I hk)
       ·cases h
      | true=>
       simp only at h;split at h
       ·cases h
       ·cases h
       ·rename_i early t U;split at h
        ·cases h
        ·rename_i q E o1 s;split at h
         ·cases h
         ·rename_i G g H K u;cases h;obtain ⟨A,C⟩:=p;obtain ⟨y,I⟩:=DY.1 C;exact Tr.tree d v A s y (GH d v n k q o1 _ _ _ _ u I hk)
       ·rename_i st la ta U;split at h
        ·cases h
        ·rename_i q E o1 s;split at h
         ·cases h
         ·rename_i G g H K u;cases h;obtain ⟨A,C⟩:=p;obtain ⟨y,I⟩:=DY.1 C;exact zGi d v A s y (GH d v n k q o1 _ _ _ _ u I hk)
    | loop b=>cases h;exact hk
    | rangeFunc f ps Qr bd=>cases h;exact hk
    | scope b=>
     refine Tr.scope (Tr.mono (GH d v n (.code b:: .scp::k) S o r S' vs o' h p hk) λe g D j=>?_);cases e <;> exact j
    | label l=>exact Tr.label (GH d v n k S o r S' vs o' h p hk)
    | goto l=>cases h;exact hk
    | refuse w=>cases h;exact hk
variable {k:List KI}
def A1.weaken (a:A8 L S S')(h:A1 P Γ F B L Y Q k S')(hk: ∃ c g,k= .code c::g):A1 P Γ F B L Y Q k S:=by
 obtain ⟨c,g,rfl⟩:=hk;exact Tr.weaken a h
def Pn:List KI -> Bool
 | .code (.loop _)::_=>true
 | _=>false
def Ej (k:List KI):List KI:=match k with
 | _::rest=>rest
 | []=>[]
def OL (id:Nat):Θ -> Code -> List KI -> Option (List KI)
 | ms,.seq a b,k=>match OL id ms a (.code b::k) with
  | some r=>some r
  | none=>OL id ms b k
 | ms,.cond _ a b,k=>match OL id ms a k with
  | some r=>some r
  | none=>OL id ms b k
 | ms,.block i c,k=>if i=id then some (.code c:: .blk i::k) else OL id ms c (.blk i::k)
 | ms,.scope c,k=>OL id ms c (.scp::k)
 | m::ms,.loop b,k=>OL id ms b (.loopN m b::k)
 | _,_,_=>none
def OM (id:Nat):Θ -> Code -> List KI -> Option (List KI)
 | ms,.seq a b,k=>match OM id ms a (.code b::k) with
  | some r=>some r
  | none=>OM id ms b k
 | ms,.cond _ a b,k=>match OM id ms a k with
  | some r=>some r
  | none=>OM id ms b k
 | ms,.block i c,k=>OM id ms c (.blk i::k)
 | ms,.scope c,k=>OM id ms c (.scp::k)
 | m::ms,.loop b,k=>OM id ms b (.loopN m b::k)
 | _,.region i ops t,k=>if i=id then some (.code (.region i ops t)::k) else none
 | _,_,_=>none
def Ah (m:Nat)(k:List KI):List KI:=match k with
 | .code (.loop b)::rest=>.loopN m b::rest
 | _=>[]
def mx (m:Nat)(k:List KI):List KI:=match k with
 | .code (.loop b)::rest=>.code b:: .loopN m b::rest
 | _=>[]
def start (f:Func):List KI:=match f.body with
 | some c=>[.code c]
 | none=>[]
def Ks (c:Code)(id:Nat):Array Oper:=match c with
 | .region i ops _=>if i=id then ops else #[]
 | .seq a b=>let x:=Ks a id;if x.size=0 then Ks b id else x
 | .cond _ a b=>let x:=Ks a id;if x.size=0 then Ks b id else x
 | .block _ c=>Ks c id
 | .loop c=>Ks c id
 | .scope c=>Ks c id
 | .rangeFunc _ _ a b=>let x:=Ks a id;if x.size=0 then Ks b id else x
 | _=>#[]
def BA (f:Func)(id:Nat):Array Oper:=match f.body with
 | some c=>Ks c id
 | none=>#[]
def Bi.enter (m:Nat)(hk:Pn k=true)(h:A1 P Γ F B L Y Q (Ah m k) S):A1 P Γ F B L Y Q k S:=by
 unfold Pn at hk;split at hk
 ·exact Hn.loop h
 ·cases hk
def Bi.round {n m:Nat}(v:n+1<=m)(hk:Pn k=true)(h: ∀ m,n<=m -> A1 P Γ F B L Y Q (mx m k) S):A1 P Γ F B L Y Q (Ah m k) S:=by
 cases m with
 | zero=>omega
 | succ m=>
  have h:=h m (Nat.le_of_succ_le_succ v);unfold Pn at hk;split at hk
  ·refine Tr.mono h λe S' Y' a=>?_
   cases e <;> exact a
  ·cases hk
def AF (n:Nat)(l:List (Nat×DV)):List DV:=(List.range n).map λi=>match l.find? (λx=>x.1==i) with
 | some x=>x.2
 | none=>.any
variable {h':DH}{d:DV}{fn:Func}
def Cy.le {e:Exit}(a:A8 L S S')(h:Cy P fn L d h' e S'):Cy P fn L d h' e S:=by
 obtain ⟨J,R,b,c⟩:=h;exact ⟨J,R,a.trans b,c⟩
variable {h:DH}{ds:List DV}{f:Nat}
def ES.of_trk {ext:Bool}(M:P.funcs[f]? =some fn)(a:fn.body.isSome=true)(j:(fn.name== "runtime.NumGoroutine")=false)(hni:PU h')(b:ext=true -> h= []) 
 (H: ∀ (B:Nat) (N:BL P Γ h.length),Bi P Γ Fence.wide (some B) h.length N (Cy P fn h.length d h') (start fn) ⟨ds++List.replicate (fn.ntmps-ds.length) .any,h⟩):ES P Γ f ds h d h' ext:=by
 cases l:fn.body with
 | none=>rw [l] at a;cases a
 | some c=>
  refine ES.of_tr M l (by simpa using j) hni (λB N=>?_) b;have:=H B N;unfold start at this;rw [l] at this;refine Tr.mono this λe S Y L=>?_
  cases e <;> exact L
def GF:DV -> Bool
 | .mse .. =>false
 | .mri .. =>false
 | .ref .. =>false
 | .msl .. =>false
 | .mp .. =>false
 | .it _=>false
 | .agg m f=>(List.range m).all λj=>GF (f j)
 | .tup m f=>(List.range m).all λj=>GF (f j)
 | .fn _ m f=>(List.range m).all λj=>GF (f j)
 | _=>true
def Ng: ∀ {d:DV},GF d=true -> Je d:=by
 intro d
 induction d with
 | any=>exact λ_ _ _ _ _ _=>trivial
 | nils=>exact λ_ _ _ _ _ h=>h
 | int k n=>exact λ_ _ _ _ _ h=>h
 | bool b=>exact λ_ _ _ _ _ h=>h
 | str s=>exact λ_ _ _ _ _ h=>h
 | ints l=>exact λ_ _ _ _ _ h=>h
 | bools l=>exact λ_ _ _ _ _ h=>h
 | sl m n f _=>exact λ_ _ _ _ _ h=>h
 | fp m f _=>exact λ_ _ _ _ _ h=>h
 | agg m f U=>exact λa=>Je.agg λj p=>U j (zGL.1 a j (zGQ.2 p))
 | tup m f U=>exact λa=>Je.tup λj p=>U j (zGL.1 a j (zGQ.2 p))
 | ref k j=>exact λa=>by cases a
 | msl k m o n=>exact λa=>by cases a
 | mp k m i j=>exact λa=>by cases a
 | fn g m c U=>exact λa M w ρ v ⟨cs,e,q,r⟩=>⟨cs,e,q,λj p=>let ⟨u,t,x⟩:=r j p;⟨u,t,U j (zGL.1 a j (zGQ.2 p)) M w ρ u x⟩⟩
 | it k=>exact λa=>by cases a
 | yl l=>exact λ_ _ _ _ _ h=>h
 | cst u=>exact λ_ _ _ _ _ h=>h
 | mse k m o n=>exact λa=>by cases a
 | mri k i=>exact λa=>by cases a
def ES.frameB (h0:ES P Γ f ds [] d [] true)(h:DH)(C:ds.all GF=true):ES P Γ f ds h d h true:=h0.frame (λx e=>Ng (zGL.1 C x e)) h
def Yf:DV -> Bool
 | .int .. =>true
 | .bool _=>true
 | .tup m f=>(List.range m).all λj=>match f j with
  | .int .. =>true
  | .bool _=>true
  | _=>false
 | _=>false
def zAH (h:Yf d=true):Jb d:=by
 unfold Yf at h
 grind [Jb.int,Jb.bool,Jb.tup]
def OX (h:DH):List DV -> List DV -> Prop
 | [],[]=>True
 | d::ds,C::k=>Az h d C/\ OX h ds k
 | _,_=>False
def Tk : ∀ {ds k:List DV},OX h ds k -> k.length=ds.length/\ ∀ i,i<ds.length -> Az h (ds.getD i .any) (k.getD i .any)
 | [],[],_=>⟨rfl,λi hi=>absurd hi (zGR i)⟩
 | d::ds,d0::k,⟨h1,b⟩=>by
  obtain ⟨e,g⟩:=Tk b
  grind
 | [],_::_,h=>h.elim
 | _::_,[],h=>h.elim
def Az.plain (u:GF d=true):Az h d d:=Az.nref (Ng u)
def ES.snapB {k:List DV}(h0:ES P Γ f k [] d [] true)(h:DH)(j:OX h ds k)(r:Yf d=true):ES P Γ f ds h d h true:=ES.snap h0 h (Tk j).1 (Tk j).2 (zAH r)
theorem AN.of_eq {d':DV}(h:d=d'):AN d d':=by rw [h];exact AN.refl _
def Vr {M:Ψ}{w:World}{ρ:List AI}{v:Value}{l:Ξ}(h:AJ M w (.ints l) ρ v):l.length<=LB:=let ⟨_,_,_,_,h,_⟩:=h;h
def xS {x c:Int}(a:x=c)(h2: -9223372036854775808<=c)(h3:c<=9223372036854775807):IntKind.i64.wrap x=c:=by
 subst a;rw [zM5];omega
end
def Ob (w:World):Prop:=TabAt 1 Lib.deBruijn64tab w
def GG:Au where
 ng:=2
 gi:=λw=>Ob w/\ 2<=w.heap.size
 st:=λw w' h q=>⟨λj d=>q.cell (by show ¬ (2<=1);omega) (h.1 j d),zGK h.2 q.size⟩
 lo:=λw h=>h.2
section
variable {α:Type}
def DI {c:Prop} [Decidable c] {a:Option α} {r:α} (h:(if c then a else none)=some r):c/\ a=some r:=by
 grind
def Gg {β:Type}{o:Option β}{f:β -> Option α}{r:α}(h:o.bind f=some r): ∃ v,o=some v/\ f v=some r:=by
 cases o with
 | none=>cases h
 | some v=>exact ⟨v,rfl,h⟩
def DQ {b:Bool}{x y:Option α}{r:α}(h:(bif b then x else y)=some r):(b=true/\ x=some r)∨(b=false/\ y=some r):=by
 grind
def zDI:Int -> Bool
 | .ofNat n=>Nat.ble n 9223372036854775807
 | .negSucc n=>Nat.ble n 9223372036854775807
def AG (x:Int):Prop:=zDI x=true
instance (x:Int):Decidable (AG x):=by unfold AG;infer_instance
variable {x:Int}
theorem Aj :AG x↔-9223372036854775808<=x/\ x<=9223372036854775807:=by
 unfold AG;cases x with
 | ofNat n=>
  show Nat.ble n 9223372036854775807=true↔_
  grind [Nat.ble_eq]
 | negSucc n=>
  show Nat.ble n 9223372036854775807=true↔_
  rw [Nat.ble_eq];omega
def xT (h:AG x):AN (.int .i64 (IntKind.i64.wrap x)) (.int .i64 x):=AN.int (xS rfl (Aj.1 h).1 (Aj.1 h).2)
def comp (B σ:Θ)(S:St):St:=GN σ ⟨forget B S.fr,S.h⟩
def Km (σ:Θ)(L n:Nat):Bool:=decide σ.Nodup&&σ.all (λk=>decide (k<n))&&(List.range L).all λk=>decide (σ[k]? =some k)
def A8.comp {L:Nat}(B σ:Θ)(S:St)(h:Km σ L S.h.length=true):A8 L S (comp B σ S):=by
 simp only [Km,zEh,zHx,zGL,zGQ] at h;exact (A8.forget B S.fr S.h).trans (A8.compact σ _ h.1.1 (λk hk=>h.1.2 k hk) (λk hk=>h.2 k hk))
def VZ (B σ:Θ)(L:Nat)(r:KO×St×List Prop×BR):KO×List DV×DH×List Prop×List (DV×DH×Bool)×List (Nat×DV)×Bool:=(r.1,(Proofs.YtodinaconebmdaaGreatDoor.comp B σ r.2.1).fr,(Proofs.YtodinaconebmdaaGreatDoor.comp B σ r.2.1).h,r.2.2.1,r.2.2.2.calls,r.2.2.2.co,Km σ L r.2.1.h.length)
section
variable {P:Program} {Γ:Au} {F:Fence} {B:Option Nat} {L:Nat} {Y N:BL P Γ L} {Q:QY P Γ L}
variable {h':DH}{S:St}{n:Nat}
def zDz {a:Be}{k:List KI}{o:BR}{B σ:Θ}{r:KO}{fr:List DV}{vs:List Prop}(h:(CN P Γ a n k S o).map (VZ B σ L)=some (r,fr,h',vs,[],[],true)):
 ∃ S' o',CN P Γ a n k S o=some (r,S',vs,o')/\ A8 L S' ⟨fr,h'⟩:=by
 cases i:CN P Γ a n k S o with
 | none=>rw [i] at h;cases h
 | some r=>
  obtain ⟨r1,e,Da,⟨c1,o1,z1,g1⟩⟩:=r;rw [i] at h;simp only [zID,VZ,zHz,zIP] at h;obtain ⟨rfl,rfl,rfl,rfl,rfl,rfl,j⟩:=h;exact ⟨e,_,rfl,A8.comp B σ e j⟩
def JB:List KI -> Bool
 | .code _::_=>true
 | .loopN _ _::_=>true
 | _=>false
variable {S':St}{m:Nat}
def Hn.weaken {b:Code}(a:A8 L S S')(h:Hn P Γ F B L b Q m S' Y):Hn P Γ F B L b Q m S Y:=by
 cases m with
 | zero=>exact h.elim
 | succ m=>exact Tr.weaken a h
def Bi.le {k:List KI}(a:A8 L S S')(l:JB k=true)(h:A1 P Γ F B L Y Q k S'):A1 P Γ F B L Y Q k S:=by
 unfold JB at l;split at l
 ·exact A1.weaken a h ⟨_,_,rfl⟩
 ·exact Hn.weaken a h
 ·cases l
def A8.frzE (k:Nat)(S':St)(vs:List Prop)(h:Wh k S=some (S',vs))(p:Bp vs):A8 L S S':=λP Γ N ρ a w R=>
 ⟨ρ,(ER.frzE k S' vs h p P Γ N ρ a w R).1,(ER.frzE k S' vs h p P Γ N ρ a w R).2,CA.refl _ _⟩
def A8.compE (σ:Θ)(h:Km σ L S.h.length=true):A8 L S (GN σ S):=by
 simp_all [Km,A8.compact]
def Ve:Option DO -> Bool
 | some (.iter _)=>false
 | _=>true
variable {h:DH}
def PT (c:h.all Ve=true):PU h:=λk encs hk=>by
 have:=zGL.1 c _ (zHw hk);cases this
variable {l l0:List DV}{k:Nat}
def Az.refL (hk:h[k]? =some (some (.cells l)))(a:OX h l l0):Az h (.ref k 0) (.fp l.length (λj=>l0.getD j .any)):=
 Az.ref hk (zGT _) λj d=>(Tk a).2 j d
def Az.fnL {g:Nat}(a:OX h l l0):Az h (.fn g l.length (λj=>l.getD j .any)) (.fn g l.length (λj=>l0.getD j .any)):=by
 rintro P Γ N ρ w v H ⟨Y,e,m,b⟩;exact ⟨Y,e,m,λj d=>let ⟨u,c,f⟩:=b j d;⟨u,c,(Tk a).2 j d P Γ N ρ w u H f⟩⟩
def AN.ixI (l:Ξ){n:Int}(hm:m=l.length)(h:(0:Int)<=n/\ n<((m:Nat):Int)):AN ((l.map (DV.int .i64)).getD n.toNat .any) (.int .i64 (l.getD n.toNat 0)):=by
 grind [AN.refl]
variable {o W:Nat}
def AN.mslN (h:n=W):AN (.msl k m o n) (.msl k m o W):=by rw [h];exact AN.refl _
def zCG:DO -> Bool
 | .ints _=>true
 | .bools _=>true
 | _=>false
variable {ds:List DV}{f:Nat}
def ES.snapNew {r:List DV}{o:DO}(h0:ES P Γ f r [] (.msl 0 m 0 n) [some o] true)(h:DH)(d:OX h ds r)(a:zCG o=true):ES P Γ f ds h (.msl h.length m 0 n) (h++[some o]) true:=by
 obtain ⟨s,d⟩:=Tk d;refine ⟨h0.1,λN ρ w args HR C=>?_⟩;refine (h0.2 (λ_=>False) [] w args (Sc (λb c=>c.elim) HR.gi) ⟨by rw [s];exact C.1,λi hi=>?_⟩).mono ?_
 ·rw [s] at hi;exact AJ.out _ (D5 (λb c=>Qz.1 c) []) (d i hi P Γ N ρ w _ HR (C.2 i hi))
 ·rintro e w' ⟨v,rfl,⟨⟨ρ',t,A,O,g4⟩,G⟩⟩;have y:=G rfl;obtain ⟨p,g,z⟩:=t.obj 0 o rfl;have M: ∀ b,p.foot b -> w.heap.size<=b:=λb c=>(O.grow b ⟨0,o,p,rfl,g,c⟩).resolve_left λ⟨k,o',p',B,_⟩=>by simp at B
  obtain ⟨p',cap,U,D,E,F,H⟩:=A;have I:p'=p:=zGJ (U.symm.trans g);subst I;refine ⟨v,rfl,⟨⟨ρ++[p'],HR.snoc y (λb c=>⟨M b c,(t.cel 0 o p' b rfl g c).2.2⟩) ?_,⟨p',cap,by rw [←HR.len];simp,D,E,F,H⟩,A3.snoc HR y M,λ_ _ h=>Eo h⟩,G⟩⟩;cases o with
  | ints l=>exact AX.out z rfl λj u _ q=>q
  | bools l=>exact AX.out z rfl λj u _ q=>q
  | cells l=>cases a
  | arr m n f=>cases a
  | iter encs=>cases a
  | mo x=>cases a
  | ro l=>cases a
def lq : ∀ {ds:List DV},ds.all GF=true -> OX h ds ds
 | [],_=>trivial
 | d::ds,r=>by
  simp only [zMs,zEh] at r;exact ⟨Az.plain r.1,lq r.2⟩
variable {l':List DV}
def AN.aggL (a:m=l.length)(h:JY l l'):AN (.agg m (λj=>l.getD j .any)) (.agg m (λj=>l'.getD j .any)):=by
 subst a;rintro M w ρ v ⟨cs,e,b,c⟩;exact ⟨cs,e,b,λj d=>let ⟨u,f,g⟩:=c j d;⟨u,f,(Tm h).2 j d M w ρ u g⟩⟩
def AN.tupL (a:m=l.length)(h:JY l l'):AN (.tup m (λj=>l.getD j .any)) (.tup m (λj=>l'.getD j .any)):=by
 subst a;rintro M w ρ v ⟨cs,e,b,c⟩;exact ⟨cs,e,b,λj d=>let ⟨u,f,g⟩:=c j d;⟨u,f,(Tm h).2 j d M w ρ u g⟩⟩
def ES.argsLe {k:List DV}{d:DV}{ext:Bool}(h0:ES P Γ f k h d h' ext)(r:JY ds k):ES P Γ f ds h d h' ext:=by
 obtain ⟨m,r⟩:=Tm r;exact ⟨h0.1,λN ρ w args HR C=>h0.2 N ρ w args HR ⟨by rw [←m];exact C.1,λi hi=>r i (by omega) _ _ _ _ (C.2 i (by omega))⟩⟩
def AN.mse_msl (h:0<n)(e:n=W):AN (.mse k m o n) (.msl k m o W):=by
 subst e;rintro M w ρ v ⟨p,a,cap,g,rfl,b,c,d⟩;obtain ⟨rfl,A⟩:=d (by omega);exact ⟨p,cap,g,rfl,b,c,A⟩
def AN.mse_nil (h:n=0):AN (.mse k m o n) (.ints []):=by
 subst h;rintro M w ρ v ⟨p,a,cap,hp,rfl,h1,h2,h3⟩;exact ⟨a,cap,rfl,zIG _,zIG _,λj d=>absurd d (zGR j)⟩
def ZR (h:(n==0)=false):0<n:=by
 grind
def NH (k off g:Nat):DV -> DV
 | .msl A m o n=>if A=k/\ m=1/\ o=off then .msl g 1 0 n else .msl A m o n
 | d=>d
def pn (k off:Nat)(S:St):Option (St×List Prop):=match S.h.getD k none with
 | some (.ints l)=>some (⟨S.fr.map (NH k off S.h.length),S.h.set k none++[some (.ints (l.drop off))]⟩,[off<=l.length])
 | _=>none
def A8.rootE (k off:Nat)(S':St)(vs:List Prop)(h:pn k off S=some (S',vs))(r:Bp vs):A8 L S S':=λP Γ N ρ a w R=>by
 unfold pn at h;split at h
 ·rename_i l v;cases h;have r:=r.1;have hk:=getD_some v;obtain ⟨p,g,d⟩:=R.hr.obj k _ hk;have d:AX w p l.length _:=d;obtain ⟨M,cs,t,x,c2,y,c4⟩:=d
  let p':AI:={ p with off:=p.off+off }
  obtain ⟨B,s⟩:=R.hr.regrow (o':=.ints (l.drop off)) (p':=p') hk g (AQ.refl _ _) (λb c=>⟨.inl c,(R.hr.cel k _ p b hk g c).2.2⟩) (by
   refine ⟨M,cs,t,x,?_,y,λj hj=>?_⟩
   ·simp only [List.length_drop,p'];omega
   grind)
  have O:BQ (MS N S.h ρ) w ρ (MS N (S.h.set k none++[some (.ints (l.drop off))]) (ρ++[p'])) w (ρ++[p']):=⟨λ_ _ _ _=>rfl,λb c=>c.elim (λh=>.inl (.inl h)) λh=>(s.grow b h).imp .inr id,λ_ _ h=>Eo h⟩;refine ⟨ρ++[p'],⟨B,by simp [R.fr.1],λi hi=>?_⟩,s,λ_ _ _ h=>Eo h⟩;have K:i<S.fr.length:=by simpa using hi
  have e:(S.fr.map (NH k off S.h.length)).getD i .any=NH k off S.h.length (S.fr.getD i .any):=by simp [K]
  show AJ _ w ((S.fr.map (NH k off S.h.length)).getD i .any) _ _
  rw [e];have r0:=R.fr.2 i K;cases u:S.fr.getD i .any with
  | msl A m o n=>
   rw [u] at r0
   by_cases f:A=k/\ m=1/\ o=off
   ·have z:NH k off S.h.length (.msl A m o n)= .msl S.h.length 1 0 n:=by simp only [NH,zEZ f]
    rw [z];obtain ⟨C,D,E⟩:=f;rw [C,D,E] at r0;obtain ⟨q,cap,F,G,H,I,u3⟩:=r0;have J:q=p:=zGJ (F.symm.trans g);subst J;exact ⟨p',cap,by rw [←R.hr.len];simp,by rw [G];simp [p'],H,I,by simp only [p'];omega⟩
   ·have z:NH k off S.h.length (.msl A m o n)= .msl A m o n:=by simp only [NH,zGN f]
    rw [z];exact AJ.out _ O r0
  | _=>rw [u] at r0;exact AJ.out _ O r0
 ·cases h
def AN.msl_mse :AN (.msl k m o n) (.mse k m o n):=λ_ _ _ _ ⟨p,cap,g,a,b,c,h⟩=>⟨p,_,cap,g,a,b,c,λ_=>⟨rfl,h⟩⟩
def PV (k q:Nat):DV -> DV
 | .msl A m o n=>if A=k then .msl q m o n else .msl A m o n
 | .mse A m o n=>if A=k then .mse q m o n else .mse A m o n
 | d=>d
def mapOb (g:DV -> DV):Option DO -> Option DO
 | some (.cells l)=>some (.cells (l.map g))
 | some (.ro l)=>some (.ro (l.map g))
 | o=>o
def rh (k:Nat)(S:St):Option St:=match S.h.getD k none with
 | some (.ints l)=>some ⟨S.fr.map (PV k S.h.length),(S.h.set k none++[some (DO.ints l)]).map (mapOb (PV k S.h.length))⟩
 | _=>none
variable {g:DV -> DV}
def Vj {o':DO}(hk:(h.map (mapOb g))[k]? =some (some o')): ∃ o,h[k]? =some (some o)/\ mapOb g (some o)=some o':=by
 rw [zIC] at hk;cases e:h[k]? with
 | none=>rw [e] at hk;cases hk
 | some x=>
  rw [e] at hk;have hk:mapOb g x=some o':=zGJ hk;cases x with
  | none=>cases hk
  | some o=>exact ⟨o,rfl,hk⟩
variable {ρ:List AI}
def MO.mapOb {b:Nat}:MO (h.map (mapOb g)) ρ b↔MO h ρ b:=by
 constructor
 ·rintro ⟨k,o',p,a,c,d⟩;obtain ⟨o,e,_⟩:=Vj a;exact ⟨k,o,p,e,c,d⟩
 ·rintro ⟨k,o,p,a,c,d⟩;cases o with
  | cells l=>exact ⟨k,.cells (l.map g),p,by rw [zIC,a];rfl,c,d⟩
  | _=>exact ⟨k,_,p,by rw [zIC,a];rfl,c,d⟩
def Aq.mapCells {N:Ψ}{w:World}(H:Aq P Γ N h ρ w)(hg: ∀ d u,AJ (MS N h ρ) w d ρ u -> AJ (MS N h ρ) w (g d) ρ u):Aq P Γ N (h.map (mapOb g)) ρ w:=by
 have Y: ∀ b,MS N (h.map (mapOb g)) ρ b -> MS N h ρ b:=λb c=>c.imp id MO.mapOb.1
 refine ⟨by rw [H.len];simp,λk o' hk=>?_,λk o' p b e a r=>?_,λk y o1 o2 I p2 b D e a r A z B=>?_,H.nlt,H.gi⟩
 ·obtain ⟨o,e,a⟩:=Vj hk;obtain ⟨p,C,i⟩:=H.obj k o e;refine ⟨p,C,?_⟩;have O:BQ (MS N h ρ) w ρ (MS N (h.map (mapOb g)) ρ) w ρ:=⟨λ_ _ _ _=>rfl,λb c=>.inl (Y b c),λ_ _ h=>h⟩;cases o with
  | cells l=>
   cases a
   show AX w p (l.map g).length _
   rw [zGX];refine AX.out i rfl λj u E q=>?_
   grind [AJ.out]
  | ints l=>cases a;exact AX.out i rfl λj u _ q=>q
  | bools l=>cases a;exact AX.out i rfl λj u _ q=>q
  | arr m n f=>cases a;exact AX.out i rfl λj u _ q=>AJ.out _ O.nil q
  | iter encs=>
   cases a;obtain ⟨F,G,Rd,J,K,t,L⟩:=i;exact ⟨F,G,Rd,J,K,λb c=>⟨λv=>(t b c).1 (Y b v),(t b c).2⟩,L⟩
  | ro l=>
   cases a;obtain ⟨M,Q,R⟩:=i;refine ⟨M,λv=>Q (Y _ v),?_⟩
   show AX w _ (l.map g).length _
   rw [zGX];refine AX.out R rfl λj u E q=>?_
   grind [AJ.out]
  | mo x=>cases a;exact i
 ·obtain ⟨o,s,_⟩:=Vj e;exact H.cel k o p b s a r
 ·obtain ⟨o,s,_⟩:=Vj e;obtain ⟨o',S,_⟩:=Vj a;exact H.dis k y o o' I p2 b D s S r A z B
def A8.moveE (k:Nat)(S':St)(h:rh k S=some S'):A8 L S S':=λP Γ N ρ a w R=>by
 unfold rh at h;split at h
 ·rename_i l x;cases h;have hk:=getD_some x;obtain ⟨p,j,y⟩:=R.hr.obj k _ hk;obtain ⟨z,s⟩:=R.hr.regrow (o':=.ints l) (p':=p) hk j (AQ.refl _ _) (λb c=>⟨.inl c,(R.hr.cel k _ p b hk j c).2.2⟩) y;have A: ∀ (i:Nat) (q:AI),ρ[i]? =some q -> (ρ++[p])[i]? =some q:=λ_ _ h=>Eo h
  have O:BQ (MS N S.h ρ) w ρ (MS N (S.h.set k none++[some (DO.ints l)]) (ρ++[p])) w (ρ++[p]):=⟨λ_ _ _ _=>rfl,λb c=>c.elim (λh=>.inl (.inl h)) λh=>(s.grow b h).imp .inr id,A⟩;have v:(ρ++[p])[S.h.length]? =some p:=by rw [←R.hr.len];simp
  have E: ∀ {M:Ψ} (d:DV) (u:Value),AJ M w d (ρ++[p]) u -> AJ M w (PV k S.h.length d) (ρ++[p]) u:=λ{M} d u f=>by
   unfold PV;split
   ·rename_i B m o n;split
    ·rename_i e;obtain ⟨q,cap,t,r⟩:=f;subst e;have:q=p:=zGJ (t.symm.trans (A _ _ j));subst this;exact ⟨q,cap,v,r⟩
    ·exact f
   ·rename_i B m o n;split
    ·rename_i e;obtain ⟨q,a0,cap,t,r⟩:=f;subst e;have:q=p:=zGJ (t.symm.trans (A _ _ j));subst this;exact ⟨q,a0,cap,v,r⟩
    ·exact f
   ·exact f
  have H:=z.mapCells (g:=PV k S.h.length) λd u=>E d u
  have Y: ∀ b,MS N ((S.h.set k none++[some (DO.ints l)]).map (mapOb (PV k S.h.length))) (ρ++[p]) b -> MS N (S.h.set k none++[some (DO.ints l)]) (ρ++[p]) b:=λb c=>c.imp id MO.mapOb.1
  have C:BQ (MS N (S.h.set k none++[some (DO.ints l)]) (ρ++[p])) w (ρ++[p]) (MS N ((S.h.set k none++[some (DO.ints l)]).map (mapOb (PV k S.h.length))) (ρ++[p])) w (ρ++[p]):=⟨λ_ _ _ _=>rfl,λb c=>.inl (Y b c),λ_ _ h=>h⟩;exact ⟨ρ++[p],⟨H,((R.fr.out O).map λd u=>E d u).out C⟩,⟨s.upd,λb c=>s.grow b (MO.mapOb.1 c)⟩,λ_ _ _ h=>Eo h⟩
 ·cases h
end
end
abbrev zMT:=@List.getElem?_drop
section
def Db (σ:Θ)(b k:Nat):Nat:=if k<σ.length then σ.getD k 0 else b+(k-σ.length)
def up (σ:Θ)(b:Nat):DV -> DV
 | .ref k j=>.ref (Db σ b k) j
 | .msl k m o n=>.msl (Db σ b k) m o n
 | .mse k m o n=>.mse (Db σ b k) m o n
 | .mri k i=>.mri (Db σ b k) i
 | .mp k m i j=>.mp (Db σ b k) m i j
 | .it k=>.it (Db σ b k)
 | .agg m f=>.agg m (HL m λj=>up σ b (f j))
 | .tup m f=>.tup m (HL m λj=>up σ b (f j))
 | .fn g m c=>.fn g m (HL m λj=>up σ b (c j))
 | d=>d
def Dh (σ:Θ)(b:Nat):Option DO -> Option DO
 | some (.cells l)=>some (.cells (l.map (up σ b)))
 | some (.ro l)=>some (.ro (l.map (up σ b)))
 | o=>o
def DX (H:DH)(σ:Θ)(h':DH):DH:=((List.range H.length).map λk=>match Dj σ k with
 | some i=>Dh σ H.length (h'.getD i none)
 | none=>H.getD k none)++(h'.drop σ.length).map (Dh σ H.length)
variable {σ:Θ}
def Rq (hn:σ.Nodup){i k:Nat}(h:σ[i]? =some k):Dj σ k=some i:=by
 induction σ generalizing i with
 | nil=>simp at h
 | cons x σ ih=>
  unfold Dj
  grind
theorem RF {b:Nat}{x:Option DO}{o:DO}(h:Dh σ b x=some o): ∃ o0,x=some o0:=by
 cases x with
 | none=>cases h
 | some o0=>exact ⟨o0,rfl⟩
section
variable {P:Program} {Γ:Au}
variable {ρ ρ':List AI}{b:Nat}{w:World}{M A:Ψ}
theorem dU {σ:Θ}(Y: ∀ b,A b -> M b)(B: ∀ (k:Nat) (p:AI),ρ[k]? =some p -> ρ'[Db σ b k]? =some p): ∀ (d:DV) {v:Value},AJ M w d ρ v -> AJ A w (up σ b d) ρ' v:=by
 have low: ∀ (d:DV) {v:Value},AJ M w d [] v -> AJ A w d [] v:=λd v h=>h.out d (D5 Y [])
 intro d
 induction d with
 | any=>intro v _;trivial
 | nils=>intro v h;exact h
 | int k n=>intro v h;exact h
 | bool b=>intro v h;exact h
 | str s=>intro v h;exact h
 | ints l=>intro v h;exact low (.ints l) h
 | bools l=>intro v h;exact low (.bools l) h
 | sl m n f _=>intro v h;exact low (.sl m n f) h
 | fp m f _=>intro v h;exact low (.fp m f) h
 | agg m f U=>
  rintro v ⟨cs,e,x,h⟩;exact ⟨cs,e,x,λj t=>let ⟨u,y,z⟩:=h j t;⟨u,y,Ir t (U j z)⟩⟩
 | tup m f U=>
  rintro v ⟨cs,e,x,h⟩;exact ⟨cs,e,x,λj t=>let ⟨u,y,z⟩:=h j t;⟨u,y,Ir t (U j z)⟩⟩
 | fn g m c U=>
  rintro v ⟨cs,e,x,h⟩;exact ⟨cs,e,x,λj t=>let ⟨u,y,z⟩:=h j t;⟨u,y,Ir t (U j z)⟩⟩
 | ref k j=>rintro v ⟨p,q,r⟩;exact ⟨p,B k p q,r⟩
 | msl k m o n=>rintro v ⟨p,cap,q,r⟩;exact ⟨p,cap,B k p q,r⟩
 | mp k m i j=>rintro v ⟨p,q,r⟩;exact ⟨p,B k p q,r⟩
 | it k=>rintro v ⟨p,q,r⟩;exact ⟨p,B k p q,r⟩
 | cst u=>intro v h;exact h
 | yl l=>intro v h;exact h
 | mse k m o n=>rintro v ⟨p,a,cap,q,r⟩;exact ⟨p,a,cap,B k p q,r⟩
 | mri k i=>rintro v ⟨p,vs,q,r⟩;exact ⟨p,vs,B k p q,r⟩
theorem br {σ:Θ}(Y: ∀ b,A b -> M b)(B: ∀ (k:Nat) (p:AI),ρ[Db σ b k]? =some p -> ρ'[k]? =some p): ∀ (d:DV) {v:Value},AJ M w (up σ b d) ρ v -> AJ A w d ρ' v:=by
 have low: ∀ (d:DV) {v:Value},AJ M w d [] v -> AJ A w d [] v:=λd v h=>h.out d (D5 Y [])
 have C: ∀ {m j:Nat} {f:Nat -> DV} {u:Value},j<m -> AJ M w (HL m f j) ρ u -> AJ M w (f j) ρ u:=λt h=>by rw [X3 t] at h;exact h
 intro d
 induction d with
 | any=>intro v _;trivial
 | nils=>intro v h;exact h
 | int k n=>intro v h;exact h
 | bool b=>intro v h;exact h
 | str s=>intro v h;exact h
 | ints l=>intro v h;exact low (.ints l) h
 | bools l=>intro v h;exact low (.bools l) h
 | sl m n f _=>intro v h;exact low (.sl m n f) h
 | fp m f _=>intro v h;exact low (.fp m f) h
 | agg m f U=>
  rintro v ⟨cs,e,x,h⟩;exact ⟨cs,e,x,λj t=>let ⟨u,y,z⟩:=h j t;⟨u,y,U j (C t z)⟩⟩
 | tup m f U=>
  rintro v ⟨cs,e,x,h⟩;exact ⟨cs,e,x,λj t=>let ⟨u,y,z⟩:=h j t;⟨u,y,U j (C t z)⟩⟩
 | fn g m c U=>
  rintro v ⟨cs,e,x,h⟩;exact ⟨cs,e,x,λj t=>let ⟨u,y,z⟩:=h j t;⟨u,y,U j (C t z)⟩⟩
 | ref k j=>rintro v ⟨p,q,r⟩;exact ⟨p,B k p q,r⟩
 | msl k m o n=>rintro v ⟨p,cap,q,r⟩;exact ⟨p,cap,B k p q,r⟩
 | mp k m i j=>rintro v ⟨p,q,r⟩;exact ⟨p,B k p q,r⟩
 | it k=>rintro v ⟨p,q,r⟩;exact ⟨p,B k p q,r⟩
 | cst u=>intro v h;exact h
 | yl l=>intro v h;exact h
 | mse k m o n=>rintro v ⟨p,a,cap,q,r⟩;exact ⟨p,a,cap,B k p q,r⟩
 | mri k i=>rintro v ⟨p,vs,q,r⟩;exact ⟨p,vs,B k p q,r⟩
variable {o o':DO}{p:AI}{c:Ψ}
theorem yG {σ:Θ}(Y: ∀ b,c b -> M b)(hρ: ∀ (k:Nat) (p:AI),ρ[k]? =some p -> ρ'[Db σ b k]? =some p)(a:Dh σ b (some o)=some o')(h:EF P M w ρ p o):EF P c w ρ' p o':=by
 cases o with
 | cells l=>
  cases a
  show AX w p (l.map (up σ b)).length _
  rw [zGX];refine AX.out h rfl λj u g q=>?_
  grind [dU]
 | ints l=>cases a;exact AX.out h rfl λj u _ q=>q
 | bools l=>cases a;exact AX.out h rfl λj u _ q=>q
 | arr m n f=>cases a;exact AX.out h rfl λj u _ q=>AJ.out _ (D5 Y []) q
 | iter encs=>
  cases a;obtain ⟨H,i,Rd,r,s,d,D⟩:=h;exact ⟨H,i,Rd,r,s,λb e=>⟨λv=>(d b e).1 (Y b v),(d b e).2⟩,D⟩
 | ro l=>
  cases a;obtain ⟨t,y,z⟩:=h;refine ⟨t,λv=>y (Y _ v),?_⟩
  show AX w _ (l.map (up σ b)).length _
  rw [zGX];refine AX.out z rfl λj u g q=>?_
  grind [dU]
 | mo x=>cases a;exact h
theorem vL {σ:Θ}(Y: ∀ b,c b -> M b)(hρ: ∀ (k:Nat) (p:AI),ρ[Db σ b k]? =some p -> ρ'[k]? =some p)(a:Dh σ b (some o)=some o')(h:EF P M w ρ p o'):EF P c w ρ' p o:=by
 cases o with
 | cells l=>
  cases a;have h:AX w p (l.map (up σ b)).length _:=h;rw [zGX] at h;refine AX.out h rfl λj u g q=>?_
  grind [br]
 | ints l=>cases a;exact AX.out h rfl λj u _ q=>q
 | bools l=>cases a;exact AX.out h rfl λj u _ q=>q
 | arr m n f=>cases a;exact AX.out h rfl λj u _ q=>AJ.out _ (D5 Y []) q
 | iter encs=>
  cases a;obtain ⟨H,i,Rd,r,s,d,D⟩:=h;exact ⟨H,i,Rd,r,s,λb e=>⟨λv=>(d b e).1 (Y b v),(d b e).2⟩,D⟩
 | ro l=>
  cases a;obtain ⟨t,y,z⟩:=h;refine ⟨t,λv=>y (Y _ v),?_⟩;have h:AX w _ (l.map (up σ b)).length _:=z;rw [zGX] at h;refine AX.out h rfl λj u g q=>?_
  grind [br]
 | mo x=>cases a;exact h
variable {ext:Bool}{h' h:DH}{d:DV}{ds:List DV}{f:Nat}
def ES.embedX (E7:ES P Γ f ds h d h' ext)(σ:Θ)(H:DH)(W:σ.Nodup)(AU: ∀ k∈σ,k<H.length)(hl:σ.length=h.length)(Fc:h.length<=h'.length) 
 (hh:(σ.map λk=>H.getD k none)=h.map (Dh σ H.length)):(∃ fn,P.funcs[f]? =some fn/\ fn.name≠ "runtime.NumGoroutine" /\ fn.body.isSome=true)/\
 ∀ (N:Ψ) (ρ:List AI) (w:World) (args:Array Value),Aq P Γ N H ρ w -> BE (MS N H ρ) w ρ (ds.map (up σ H.length)) args ->
  Calls P f args w λe w'=>∃ v,e= .returned v/\ CC P Γ N H ρ w ext (up σ H.length d) (DX H σ h') v w'/\ AQ (λb=>∃ i o p,i∈σ/\ H[i]? =some (some o)/\ ρ[i]? =some p/\ p.foot b) w w':=by
 refine ⟨E7.1,λN ρ w args HR CT=>?_⟩;obtain ⟨ρ0,iR⟩: ∃ ρ0,ρ0=σ.map λk=>ρ.getD k gN:=⟨_,rfl⟩
 have gy:ρ0.length=σ.length:=by rw [iR];simp
 have Id: ∀ {i k:Nat},σ[i]? =some k -> ρ0[i]? =ρ[k]? :=λ{i k} hk=>by
  have Gb:k<ρ.length:=by rw [HR.len];exact AU k (zHw hk)
  grind
 have eA: ∀ {i:Nat},i<σ.length -> ∃ k,σ[i]? =some k/\ Db σ H.length i=k:=λ{i} hi=>by
  simp_all [Db]
 have F: ∀ {i:Nat} {o:DO},h[i]? =some (some o) -> ∃ k o',σ[i]? =some k/\ H[k]? =some (some o')/\ Dh σ H.length (some o)=some o':=λ{i o} hi=>by
  have J9:i<σ.length:=by grind
  obtain ⟨k,hk,_⟩:=eA J9;have e:=congrArg (·[i]?) hh;simp only [zIC,hk,hi,zID] at e;have X:=AU k (zHw hk);have e:H.getD k none=Dh σ H.length (some o):=zGJ e;have r: ∃ o',Dh σ H.length (some o)=some o':=by cases o <;> exact ⟨_,rfl⟩
  grind
 have rQ: ∀ {i k:Nat} {o':DO},σ[i]? =some k -> H[k]? =some (some o') -> ∃ o,h[i]? =some (some o)/\ Dh σ H.length (some o)=some o':=λ{i k o'} hk ho=>by
  have J9:i<h.length:=by grind
  have e:=congrArg (·[i]?) hh
  grind [RF]
 obtain ⟨B,Q⟩: ∃ B:Ψ,B=λb=>N b∨∃ k o p,Dj σ k=none/\ H[k]? =some (some o)/\ ρ[k]? =some p/\ p.foot b:=⟨_,rfl⟩
 have J: ∀ b,MO h ρ0 b -> MO H ρ b:=by
  rintro b ⟨i,o,p,g,s,a⟩;obtain ⟨k,o',q,r,_⟩:=F g;exact ⟨k,o',p,r,(Id q).symm.trans s,a⟩
 have gR: ∀ b,MS B h ρ0 b -> MS N H ρ b:=by
  rintro b (hb | hb)
  ·rw [Q] at hb;rcases hb with hb | ⟨k,o,p,_,g,s,a⟩
   ·exact .inl hb
   ·exact .inr ⟨k,o,p,g,s,a⟩
  ·exact .inr (J b hb)
 have ms1: ∀ b,MS N H ρ b -> MS B h ρ0 b:=by
  rintro b (hb | ⟨k,o,p,g,s,a⟩)
  ·exact .inl (by rw [Q];exact .inl hb)
  ·cases hk:Dj σ k with
   | none=>exact .inl (by grind)
   | some i=>
    have hi:=Kr hk;obtain ⟨o0,q,_⟩:=rQ hi g;exact .inr ⟨i,o0,p,q,(Id hi).trans s,a⟩
 have dn: ∀ (k:Nat) (p:AI),ρ[Db σ H.length k]? =some p -> ρ0[k]? =some p:=λk p j=>by
  by_cases hk:k<σ.length
  ·grind
  ·unfold Db at j;rw [zGN hk] at j;have:=(zGe.1 j).1;rw [HR.len] at this;omega
 have u: ∀ {b:Nat},B b -> ¬ MO h ρ0 b:=by
  rintro b hb ⟨i,o,p,g,s,a⟩;obtain ⟨k,o',q,r,_⟩:=F g;have j:=(Id q).symm.trans s;rw [Q] at hb;rcases hb with hb | ⟨K,R,p2,n,l,m,L⟩
  ·exact (HR.cel k o' p b r j a).2.1 hb
  ·refine HR.dis k K o' R p p2 b ?_ r l j m a L;rintro rfl;rw [Rq W q] at n;cases n
 have H0:Aq P Γ B h ρ0 w:=by
  refine ⟨by rw [gy,hl],λi o hi=>?_,λi o p b g s a=>?_,λi S o1 R M p2 b AY g s a g4 Y g6=>?_,λb hb=>HR.lt2 (gR b (.inl hb)),HR.gi⟩
  ·obtain ⟨k,o',q,r,e3⟩:=F hi;obtain ⟨p,j,Z⟩:=HR.obj k o' r
   grind [vL]
  ·obtain ⟨k,o',q,r,e3⟩:=F g;obtain ⟨n,l,m⟩:=HR.cel k o' p b r ((Id q).symm.trans s) a;exact ⟨n,λhb=>u hb ⟨i,o,p,g,s,a⟩,m⟩
  ·obtain ⟨k,o',q,r,e3⟩:=F g;obtain ⟨K,gG,TQ,Wx,e3'⟩:=F s;refine HR.dis k K o' gG M p2 b ?_ r Wx ((Id q).symm.trans a) ((Id TQ).symm.trans g4) Y g6;rintro rfl;have T:=Rq W q;have y:=Rq W TQ
   grind
 refine (E7.2 B ρ0 w args H0 ⟨by rw [←CT.1];simp,λi hi=>?_⟩).mono ?_
 ·have:=CT.2 i (by simpa using hi)
  grind [br]
 ·rintro e w' ⟨v,rfl,⟨⟨ρ1,g,s,a,g4⟩,Y⟩⟩;have l1:ρ1.length=h'.length:=g.len;obtain ⟨ρ',U⟩: ∃ ρ',ρ'=ρ++ρ1.drop σ.length:=⟨_,rfl⟩
  have at1: ∀ {i k:Nat},σ[i]? =some k -> ρ1[i]? =ρ[k]? :=λ{i k} hk=>by
   grind
  have K1: ∀ {k:Nat},k<H.length -> ρ'[k]? =ρ[k]? :=λ{k} hk=>by rw [U,zIu (by rw [HR.len];exact hk)]
  have dS: ∀ (k:Nat) (p:AI),ρ1[k]? =some p -> ρ'[Db σ H.length k]? =some p:=λk p j=>by
   by_cases hk:k<σ.length
   ·grind
   ·unfold Db;rw [zGN hk,U,zH1 (by rw [HR.len];omega),zMT,HR.len]
    simp_all
  have gx:(DX H σ h').length=H.length+(h'.length-σ.length):=by simp [DX]
  have E: ∀ {k:Nat} {o':DO},(DX H σ h')[k]? =some (some o') -> (k<H.length/\ Dj σ k=none/\ H[k]? =some (some o')/\ ρ'[k]? =ρ[k]?)∨∃ i o,h'[i]? =some (some o)/\ Dh σ H.length (some o)=some o'/\ ρ'[k]? =ρ1[i]? /\ k=Db σ H.length i:=by
   intro k o' hk
   by_cases X:k<H.length
   ·unfold DX at hk;rw [zIu (by simpa using X),zIC,List.getElem?_range X] at hk;simp only [zID,zHz] at hk;split at hk
    ·rename_i i hi;have his:=Kr hi;obtain ⟨o0,e0⟩:=RF hk
     grind
    grind
   ·unfold DX at hk;rw [zH1 (by simp;omega),zIC,zMT] at hk;simp only [zGX,zMw] at hk;cases G:h'[σ.length+(k-H.length)]? with
    | none=>rw [G] at hk;cases hk
    | some x=>
     rw [G] at hk;have hk:Dh σ H.length x=some o':=zGJ hk;obtain ⟨o0,e0⟩:=RF hk;subst e0;refine .inr ⟨σ.length+(k-H.length),o0,G,hk,?_,?_⟩
     ·rw [U,zH1 (by rw [HR.len];omega),zMT,HR.len]
     simp_all [Db,zGN]
  have back: ∀ {k:Nat} {o:DO},Dj σ k=none -> H[k]? =some (some o) -> (DX H σ h')[k]? =some (some o):=by
   grind [DX]
  have msE: ∀ b,MS N (DX H σ h') ρ' b -> MS B h' ρ1 b:=by
   rintro b (hb | ⟨k,o',p,n,l,m⟩)
   ·exact .inl (by rw [Q];exact .inl hb)
   ·rcases E n with ⟨T,y,a3,a4⟩ | ⟨i,o,T,y,a3,a4⟩
    ·exact .inl (by grind)
    ·exact .inr ⟨i,o,p,T,a3.symm.trans l,m⟩
  have C: ∀ b,MO (DX H σ h') ρ' b -> MO H ρ b∨w.heap.size<=b:=by
   rintro b ⟨k,o',p,n,l,m⟩;rcases E n with ⟨T,y,a3,a4⟩ | ⟨i,o,T,y,a3,a4⟩
   ·exact .inl ⟨k,o',p,a3,a4.symm.trans l,m⟩
   ·exact (a.grow b ⟨i,o,p,T,a3.symm.trans l,m⟩).imp (J b) id
  have pl: ∀ (k:Nat) (p:AI),ρ[k]? =some p -> ρ'[k]? =some p:=λk p j=>by
   grind
  have O:BQ (MS N H ρ) w ρ (MS N (DX H σ h') ρ') w' ρ':=
   ⟨λb hb hm _=>a.upd.block b hb λG=>hm (.inr (J b G)),λb hb=>hb.elim (λhb=>.inl (.inl hb)) (λhb=>(C b hb).imp .inr id),pl⟩
  refine ⟨v,rfl,⟨⟨ρ',⟨?_,λk o' hk=>?_,λk o' p b n l m=>?_,λk K o1 R M p2 b AY n l m L q5 q6=>?_,λb hb=>⟨zGS (HR.nlt b hb).1 a.upd.size,(HR.nlt b hb).2⟩,g.gi⟩,dU msE dS _ s,⟨a.upd.mono λb _ hb=>J b hb,C⟩,pl⟩,Y⟩,a.upd.mono λb _ ⟨i,o,p,n,l,m⟩=>?_⟩
  ·rw [gx,U];simp [HR.len,l1]
  ·rcases E hk with ⟨T,y,a3,a4⟩ | ⟨i,o,T,y,a3,a4⟩
   ·obtain ⟨p,j,Z⟩:=HR.obj k o' a3;refine ⟨p,a4.trans j,Z.out O a.upd (λb hb=>.inr (J b hb)) λb _ hf hs=>?_⟩
    grind
   ·obtain ⟨p,j,Z⟩:=g.obj i o T
    grind [yG]
  ·rcases E n with ⟨T,y,a3,a4⟩ | ⟨i,o,T,y,a3,a4⟩
   ·have j:=a4.symm.trans l;obtain ⟨D,I,c,t,z,A⟩:=HR.cel k o' p b a3 j m;refine ⟨D,I,c,t,z,(a.upd.block b (zGI.1 A).1 λG=>?_).trans A⟩
    grind
   ·obtain ⟨D,I,A⟩:=g.cel i o p b T (a3.symm.trans l) m
    grind
  ·rcases E n with ⟨T,y,a3,a4⟩ | ⟨i,o,T,y,a3,a4⟩
   ·rcases E l with ⟨D,I,A,V⟩ | ⟨S,o',D,I,A,V⟩
    ·exact HR.dis k K o1 R M p2 b AY a3 A (a4.symm.trans m) (V.symm.trans L) q5 q6
    ·exact (g.cel S o' p2 b D (A.symm.trans L) q6).2.1 (by grind)
   ·rcases E l with ⟨D,I,A,V⟩ | ⟨S,o',D,I,A,V⟩
    ·exact (g.cel i o M b T (a3.symm.trans m) q5).2.1 (by grind)
    ·refine g.dis i S o o' M p2 b ?_ T D (a3.symm.trans m) (A.symm.trans L) q5 q6
     grind
  grind
def ES.embed (u:ES P Γ f ds h d h' ext)(σ:Θ)(H:DH)(a:σ.Nodup)(p: ∀ k∈σ,k<H.length)(m:σ.length=h.length)(U:h.length<=h'.length) 
 (x:(σ.map λk=>H.getD k none)=h.map (Dh σ H.length)):ES P Γ f (ds.map (up σ H.length)) H (up σ H.length d) (DX H σ h') ext:=
 let ⟨b,c⟩:=u.embedX σ H a p m U x
 ⟨b,λN ρ w args HR D=>(c N ρ w args HR D).mono λ_ _ ⟨v,e,g,_⟩=>⟨v,e,g⟩⟩
def OR (σ:Θ)(n l l':Nat):Bool:=decide σ.Nodup&&σ.all (λk=>decide (k<n))&&decide (σ.length=l)&&decide (l<=l')
def ES.embedB (u:ES P Γ f ds h d h' ext)(σ:Θ)(H:DH)(c:OR σ H.length h.length h'.length=true)(x:(σ.map λk=>H.getD k none)=h.map (Dh σ H.length)) 
 {w:List DV} {a:DV} {G:DH} (e:(ds.map (up σ H.length),up σ H.length d,DX H σ h')=(w,a,G)):ES P Γ f w H a G ext:=by
 simp only [OR,zEh,zHx,zGL] at c;cases e;exact u.embed σ H c.1.1.1 (λk hk=>c.1.1.2 k hk) c.1.2 c.2 x
end
end
end Go.Proofs.YtodinaconebmdaaGreatDoor
