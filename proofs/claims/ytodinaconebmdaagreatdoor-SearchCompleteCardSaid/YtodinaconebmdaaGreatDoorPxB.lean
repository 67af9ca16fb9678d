/- Part 2 of 8 of what the proofs of these laws stand on. -/
import Derived.Test.YtodinaconebmdaaGreatDoorPxA
import Derived.MapKept
import Derived.Test.YtodinaconebmdaaGreatDoorProg
import Derived.Shelf.Spec.TrailingZeros
set_option linter.all false
namespace Go.Proofs.YtodinaconebmdaaGreatDoor
open Go.RowKit
abbrev zIQ:=@List.mem_append
abbrev zI6:=@Go.MapKept.run_getObj_map
abbrev zJN:=@bne_iff_ne
abbrev zMp:=@List.not_mem_nil
abbrev zMw:=@Go.MapKept.run_setObj_map
abbrev zNN:=@Go.MapKept.run_findKey
abbrev zNc:=@List.Perm.refl
abbrev zNd:=@List.nodup_append
abbrev zNk:=@beq_self_eq_true
abbrev zNr:=@List.nodup_cons
abbrev zNv:=@List.nodup_nil
section
def Vz (P:Program)(t:TypeId):Bool:=match P.underlying t with
 | some (.int .i64)=>true
 | _=>false
theorem sj {P:Program}{t:TypeId}(h:Vz P t=true):P.underlying t=some (.int .i64):=by
 grind [Vz]
def He (P:Program)(t:TypeId):Option Nat:=match P.underlying t with
 | some (.int .i64)=>some 1
 | some (.struct n)=>match n.toList with
  | [f,g]=>if f.name != "_" &&g.name != "_" &&decide (f.offset=0)&&decide (g.offset=1)&&Vz P f.type&&Vz P g.type&&!P.stoodInHeld t then some 2 else none
  | _=>none
 | _=>none
section
variable {P:Program} {w:World} {t:TypeId}
variable {n:Nat}
theorem SW (h:He P t=some n):(n=1/\ P.underlying t=some (.int .i64))∨∃ f g a,n=2/\ P.underlying t=some (.struct a)/\ a.toList= [f,g]/\ f.name≠ "_" /\ g.name≠ "_" /\ f.offset=0/\ g.offset=1/\ P.underlying f.type=some (.int .i64)/\ P.underlying g.type=some (.int .i64)/\ P.stoodInHeld t=false:=by
 unfold He at h;split at h
 ·grind
 ·rename_i a hu;split at h
  ·rename_i f g hf;split at h
   ·rename_i l;simp only [zFW,zJN,ne_eq,zH6,zG0] at l
    grind [sj]
   ·cases h
  ·cases h
 ·cases h
def Uz {t:TypeId}(h:P.underlying t=some (.int .i64))(cs:Array Value)(o:Nat)(v:Value)(hv:cs[o]? =some v):(part t cs o).run P w= .ok v w:=by
 simp_all [part,U1,JE]
variable {x:Ξ}
def aQ (h:x.length=2): ∃ a b,x= [a,b]:=by
 match x,h with
 | [a,b],_=>exact ⟨a,b,rfl⟩
def Pq (h:x.length=1): ∃ a,x= [a]:=by
 match x,h with
 | [a],_=>exact ⟨a,rfl⟩
def SV (hk:He P t=some n)(d:x.length=n)(e:Bool):(Instr.checkKey e 10000 t (Bb x)).run P w= .ok () w:=by
 rcases SW hk with ⟨rfl,q⟩ | ⟨f,g,fs,rfl,q,M,n1,n2,o1,o2,c,W,_⟩
 ·obtain ⟨a,rfl⟩:=Pq d;exact MapKept.run_checkKey q (by trivial) e 9999
 ·obtain ⟨a,b,rfl⟩:=aQ d
  show (Instr.checkKey e (9999+1) t (.agg #[.int .i64 a,.int .i64 b])).run P w=_
  unfold Instr.checkKey;have c1: ∀ a,(Instr.checkKey e 9999 f.type (.int .i64 a)).run P w= .ok () w:=λa=>MapKept.run_checkKey c (by trivial) e 9998
  have c2: ∀ a,(Instr.checkKey e 9999 g.type (.int .i64 a)).run P w= .ok () w:=λa=>MapKept.run_checkKey W (by trivial) e 9998
  simp only [zG3,zG1 q,Result.andThen];rw [←Array.forIn_toList,M]
  simp_all [Uz]
def zFn (hk:He P t=some n){y:Ξ}(h:x.length=n)(hy:y.length=n):(Op.equal t (Bb x) (Bb y)).run P w= .ok (x==y) w:=by
 rcases SW hk with ⟨rfl,q⟩ | ⟨f,g,i,rfl,q,M,p,j,o1,F,e,W,k⟩
 ·obtain ⟨a,rfl⟩:=Pq h;obtain ⟨b,rfl⟩:=Pq hy
  show (Op.equalIn (9999+1) t (.int .i64 a) (.int .i64 b)).run P w=_
  simp_all [zNR]
 ·obtain ⟨a,b,rfl⟩:=aQ h;obtain ⟨c,d,rfl⟩:=aQ hy;have R:P.fieldsOf t=i:=by unfold Program.fieldsOf;rw [q]
  show (Op.equalIn (9999+1) t (.agg #[.int .i64 a,.int .i64 b]) (.agg #[.int .i64 c,.int .i64 d])).run P w=_
  rw [run_equalIn_struct w 9999 t _ _ (by rw [R];exact q) k,R,M];have l: ∀ a c:Int,(Op.equalIn 9999 f.type (.int .i64 a) (.int .i64 c)).run P w= .ok (a==c) w:=λa c=>zNR w 9998 f.type .i64 .i64 a c e
  have z: ∀ a c:Int,(Op.equalIn 9999 g.type (.int .i64 a) (.int .i64 c)).run P w= .ok (a==c) w:=λa c=>zNR w 9998 g.type .i64 .i64 a c W
  simp only [Op.eqFields,p,j,ne_eq,not_false_eq_true,zJH,o1,F,zG3];rw [Uz e _ 0 (.int .i64 a) rfl];simp only [Result.andThen];rw [Uz e _ 0 (.int .i64 c) rfl];simp only [Result.andThen,l,Sem.run_ite]
  by_cases m:a=c
  ·subst m;simp only [zNk,zIF,zI1,zNA,zG3];rw [Uz W _ 1 (.int .i64 b) rfl];simp only [Result.andThen];rw [Uz W _ 1 (.int .i64 d) rfl];simp only [Result.andThen,z,Sem.run_ite]
   by_cases o:b=d
   ·subst o;simp
   simp_all
  simp_all
def zFm (hk:He P t=some n)(m:x.length=n){U:KS}(p: ∀ y∈U,y.length=n){es:List MapEntry}(I: ∀ e∈es,∃ y∈U,e.key=Bb y):
 ((Instr.findKey t (Bb x) es).run P w= .ok none w/\ ∀ e∈es,e.key≠Bb x)∨∃ j e,(Instr.findKey t (Bb x) es).run P w= .ok (some (j,e.val)) w/\ es[j]? =some e/\ e.key=Bb x:=by
 have ask: ∀ (es:List MapEntry) (i:Nat),(∀ e∈es,∃ y∈U,e.key=Bb y) -> ((Instr.findAsking t (Bb x) es i).run P w= .ok none w/\ ∀ e∈es,e.key≠Bb x)∨∃ j e,(Instr.findAsking t (Bb x) es i).run P w= .ok (some (i+j,e.val)) w/\ es[j]? =some e/\ e.key=Bb x:=by
  intro es
  induction es with
  | nil=>intro i _;exact .inl ⟨rfl,λe I=>by cases I⟩
  | cons e es V=>
   intro i I;obtain ⟨y,hy,h⟩:=I e (by simp);have c:(Op.equal t (Bb x) e.key).run P w= .ok (x==y) w:=by rw [h];exact zFn hk m (p y hy)
   by_cases M:x=y
   ·subst M;exact .inr ⟨0,e,by simp [Instr.findAsking,c,Result.andThen],rfl,h⟩
   ·have r:(x==y)=false:=by simp [M]
    rcases V (i+1) (λe LV=>I e (by simp [LV])) with ⟨o,s⟩ | ⟨j,Q,o,s,u⟩
    ·refine .inl ⟨by simp [Instr.findAsking,c,r,Result.andThen,o],λQ LV=>?_⟩;rcases zIn.1 LV with rfl | LV
     ·grind [sc]
     ·exact s Q LV
    ·exact .inr ⟨j+1,Q,by simp [Instr.findAsking,c,r,Result.andThen,o];omega,by simpa using s,u⟩
 rcases SW hk with ⟨rfl,q⟩ | ⟨f,g,fs,rfl,q,_⟩
 ·obtain ⟨a,rfl⟩:=Pq m
  rcases MapKept.findNow_spec (d:=.int .i64) (k:=.int .i64 a) (by trivial) es 0 (λe v=>by
   obtain ⟨y,hy,h⟩:=I e v;obtain ⟨b,rfl⟩:=Pq (p y hy);rw [h];trivial) with ⟨c,l⟩ | ⟨j,e,c,l,z⟩
  ·exact .inl ⟨zNN q c,l⟩
  ·exact .inr ⟨j,e,by have:=zNN (w:=w) q c;rw [zG4] at this;exact this,l,z⟩
 ·have hn: ∀ es:List MapEntry,(∀ e∈es,∃ y∈U,e.key=Bb y) -> (Instr.findKey t (Bb x) es).run P w=(match es with | []=>.ok none w | _=>(Instr.findAsking t (Bb x) es 0).run P w):=λes I=>by
   cases es with
   | nil=>simp [Instr.findKey,zG1 q,Instr.findNow,Result.andThen]
   | cons e es=>
    simp_all [Instr.findNow,Instr.sameNow,Instr.findKey,zG1]
  grind
def zFl (hk:He P t=some n)(c:x.length=n):(Instr.keyThatStays (Bb x) (Bb x)).run P w= .ok (Bb x) w:=by
 rcases SW hk with ⟨rfl,q⟩ | ⟨f,g,fs,rfl,q,_⟩
 ·obtain ⟨a,rfl⟩:=Pq c;exact MapKept.run_keyThatStays (d:=.int .i64) (by trivial)
 ·obtain ⟨a,b,rfl⟩:=aQ c
  simp_all [Instr.sameBits,Bb,Instr.keyThatStays]
end
/-! ### Sets in order-/
def sJ:Ξ -> Ξ -> Bool
 | _,[]=>false
 | [],_::_=>true
 | a::r,b::s=>decide (a<b)||(a==b&&sJ r s)
def aV (x:Ξ):KS -> KS
 | []=>[x]
 | y::r=>if sJ x y then x::y::r else y::aV x r
def Ck (x:Ξ)(l:KS):KS:=if l.contains x then l else aV x l
theorem sn (x:Ξ): ∀ l:KS,(aV x l).Perm (x::l)
 | []=>zNc _
 | y::r=>by
  unfold aV;split
  ·exact zNc _
  ·exact ((sn x r).cons y).trans (List.Perm.swap x y r)
variable {l:KS}{x:Ξ}
theorem qe (h:x∈l):Ck x l=l:=by unfold Ck;simp [h]
theorem fm (h:x∉l):(Ck x l).Perm (x::l):=by grind [Ck,sn]
def Pc {y:Ξ}:y∈Ck x l↔y=x∨y∈l:=by
 grind [qe,fm]
section
variable {P:Program} {w:World} {b n:Nat} {l:KS} {es:Array MapEntry} {Ak:Nat}
def Fh.key (h:Fh w b n l es Ak): ∀ e∈es.toList,∃ y∈l,e.key=Bb y:=λe I=>by
 have:e.key∈es.toList.map (·.key):=zIS.2 ⟨e,I,rfl⟩;obtain ⟨y,a,c⟩:=zIS.1 (h.keys.mem_iff.1 this);exact ⟨y,a,c.symm⟩
def Fh.has (h:Fh w b n l es Ak){x:Ξ}:x∈l↔∃ e∈es.toList,e.key=Bb x:=by
 constructor
 ·intro d;have:Bb x∈l.map Bb:=zIS.2 ⟨x,d,rfl⟩;obtain ⟨e,a,c⟩:=zIS.1 (h.keys.mem_iff.2 this);exact ⟨e,a,c⟩
 ·rintro ⟨e,a,c⟩;obtain ⟨y,h3,h4⟩:=h.key e a
  grind [sc]
def Fh.find (h:Fh w b n l es Ak){t:TypeId}(hk:He P t=some n){x:Ξ}(d:x.length=n):
 (x∉l/\ (Instr.findKey t (Bb x) es.toList).run P w= .ok none w)∨(x∈l/\ ∃ j e,(Instr.findKey t (Bb x) es.toList).run P w= .ok (some (j,.bool true)) w/\ es[j]? =some e/\ e.key=Bb x/\ e.val= .bool true):=by
 rcases zFm (w:=w) hk d h.len h.key with ⟨c,a⟩ | ⟨j,e,c,a,f⟩
 ·exact .inl ⟨λd=>by obtain ⟨e,o,s⟩:=h.has.1 d;exact a e o s,c⟩
 ·have v:e∈es.toList:=zG6 a;have p:=h.tru e v;exact .inr ⟨h.has.2 ⟨e,v,f⟩,j,e,by rw [←p];exact c,by simpa using a,f,p⟩
def UJ {w:World}{b:Nat}(o:Obj):AQ (λk=>k=b) w { w with heap:=w.heap.setIfInBounds b o }:=
 ⟨rfl,rfl,rfl,by simp,λk _ D=>by simp [Ne.symm D]⟩
variable {mt:TypeId}
def Fh.put (h:Fh w b n l es Ak){p r:TypeId}(v:P.underlying mt=some (.map p r))(hk:He P p=some n){x:Ξ}(d:x.length=n):
 ∃ w' s t,(Instr.mapUpdate mt (.map (some b)) (Bb x) (.bool true)).run P w= .ok () w'/\ AQ (λk=>k=b) w w'/\ Fh w' b n (Ck x l) s t:=by
 have q:b<w.heap.size:=(zGS.1 h.blk).1;rcases h.find hk d with ⟨f,g⟩ | ⟨f,j,e,g,m,A,u⟩
 ·refine ⟨{ w with heap:=w.heap.setIfInBounds b (.map (es.push { key:=Bb x,val:=.bool true,born:=Ak }) (Ak+1)) },es.push { key:=Bb x,val:=.bool true,born:=Ak },Ak+1,?_,UJ _,?_⟩
  ·simp [Instr.mapUpdate,zG1 v,zI6 h.blk,SV hk d,g,zMw _ h.blk,Result.andThen]
  ·refine ⟨by simp [q],?_,((fm f).nodup_iff).2 (zNr.2 ⟨f,h.nd⟩),λy hy=>?_,λe I=>?_,λe I=>?_,?_⟩
   ·have o:((es.push { key:=Bb x,val:=.bool true,born:=Ak }).toList.map (·.key))=es.toList.map (·.key)++[Bb x]:=by simp
    rw [o];refine (List.perm_append_comm).trans ?_
    show (Bb x::es.toList.map (·.key)).Perm _
    exact (h.keys.cons (Bb x)).trans (((fm f).map Bb).symm)
   ·rcases Pc.1 hy with rfl | hy
    ·exact d
    ·exact h.len y hy
   ·simp only [Array.toList_push,zIQ,zGu] at I;rcases I with I | rfl
    ·exact h.tru e I
    ·rfl
   ·simp only [Array.toList_push,zIQ,zGu] at I;rcases I with I | rfl
    ·exact Nat.lt_succ_of_lt (h.born e I)
    ·exact Nat.lt_succ_self _
   ·have o:((es.push { key:=Bb x,val:=.bool true,born:=Ak }).toList.map (·.born))=es.toList.map (·.born)++[Ak]:=by simp
    rw [o];refine zNd.2 ⟨h.stamps,by simp,λa D c z=>?_⟩;obtain ⟨e,B,g2⟩:=zIS.1 D;have:=h.born e B;simp at z;omega
 ·have hj:j<es.size:=(zGS.1 m).1
  have N:(es.modify j λe=>{ e with key:=Bb x,val:=.bool true })=es:=by
   apply Array.ext_getElem?;intro i;rw [zM7];split
   ·rename_i C;subst C;rw [m]
    show some ({ e with key:=Bb x,val:=.bool true }:MapEntry)=some e
    rw [←A,←u]
   ·rfl
  refine ⟨{ w with heap:=w.heap.setIfInBounds b (.map es Ak) },es,Ak,?_,UJ _,?_⟩
  ·have U:((es[j]?).map (·.key)).getD (Bb x)=Bb x:=by rw [m];exact A
   simp [Instr.mapUpdate,zG1 v,zI6 h.blk,SV hk d,g,U,zFl hk d,zMw _ h.blk,Result.andThen,N]
  ·rw [qe f];exact { h with blk:=by simp [q] }
def Fh.look (h:Fh w b n l es Ak){g f:TypeId}(v:P.underlying mt=some (.map g f))(hk:He P g=some n){x:Ξ}(d:x.length=n)(z:(zeroValue f).run P w= .ok (.bool false) w):
 (Instr.lookup mt (.map (some b)) (Bb x) false).run P w= .ok (.bool (l.contains x)) w:=by
 rcases h.find hk d with ⟨a,c⟩ | ⟨a,j,e,c,h3,h4,h5⟩
 ·have:l.contains x=false:=by simpa using a
  simp [Instr.lookup,zG1 v,zI6 h.blk,SV hk d,c,z,Result.andThen,this,a]
 ·have:l.contains x=true:=by simpa using a
  simp [Instr.lookup,zG1 v,zI6 h.blk,SV hk d,c,Result.andThen,this,a]
end
/-! ### On nC view-/
def aG (lk:Option (Nat×Nat×Array MapEntry×Nat))(i:Nat):Prop:=∀ y,lk=some y -> y.1≠i
section
variable {P:Program} {w w':World} {p:AI} {n:Nat} {ls:List (Option KS)} {lk:Option (Nat×Nat×Array MapEntry×Nat)} {vs:Array Value}
variable {b:Nat}
def Ft.lies (h:Ft w p n ls lk vs)(c:p.foot b):EF w b:=by
 rcases h.foot b c with rfl | ⟨j,l,d,a⟩
 ·obtain ⟨cs,t,e,_⟩:=h.row;exact .cells e
 ·obtain ⟨f,o,_,_,es,Ak,s,_⟩:=h.has j l d;have:f=b:=by rw [o] at a;cases a;rfl
  subst this;exact ⟨_,rfl,(),s.blk⟩
def Ft.put (h:Ft w p n ls lk vs){i:Nat}{l l':KS}{es:Array MapEntry}{Ak:Nat}(hi:ls[i]? =some (some l))(c:vs[i]? =some (Value.map (some b)))(q:AQ (λk=>k=b) w w')(v:Fh w' b n l' es Ak)(m:aG lk i):Ft w' p n (ls.set i (some l')) lk vs:=by
 have KB:i<ls.length:=(zGq.1 hi).1;obtain ⟨d,o,s,P,_⟩:=h.has i l hi;have:d=b:=by rw [o] at c;cases c;rfl
 subst this
 have get: ∀ {j:Nat} {x:Option KS},(ls.set i (some l'))[j]? =some x -> (j=i/\ x=some l')∨(j≠i/\ ls[j]? =some x):=λ{j x} a=>by
  grind
 refine ⟨h.val,by simp [h.size],?_,h.blk,λj O a=>?_,λj a=>?_,λr u=>?_,h.inj⟩
 ·obtain ⟨cs,t,B,Y⟩:=h.row;exact ⟨cs,t,(q.block _ (zGS.1 B).1 (λe=>s e.symm)).trans B,by simpa using Y⟩
 ·rcases get a with ⟨rfl,e⟩ | ⟨D,a⟩
  ·cases e;exact ⟨d,c,s,P,es,Ak,v,λy hy e=>absurd e (m y hy)⟩
  ·obtain ⟨f,B,Y,z,A,C,g,E⟩:=h.has j O a;refine ⟨f,B,Y,z,A,C,g.out (q.block _ (zGS.1 g.blk).1 λe=>D ?_),E⟩;subst e;exact h.inj j i f B c
 ·rcases get a with ⟨rfl,e⟩ | ⟨D,a⟩
  ·cases e
  ·exact h.nil j a
 ·rcases h.foot r u with e | ⟨j,O,B,Y⟩
  ·exact .inl e
  grind
end
def aR (n:Nat)(d:DV):Option Ξ:=match d with
 | .int .i64 a=>if n=1 then some [a] else none
 | .agg m f=>if m=n/\ n≠1 then if (List.range m).all λj=>JC (f j) then some ((List.range m).map λj=>Hy (f j)) else none else none
 | _=>none
def iM (n:Nat)(x:Ξ):DV:=if n=1 then .int .i64 (x.getD 0 0) else .agg n (HL n λj=>.int .i64 (x.getD j 0))
section
variable {P:Program} {w:World} {ρ:List AI} {M:Ψ}
def sd {x:Ξ}(h:x.length≠1):Bb x= .agg (x.map λa=>.int .i64 a).toArray:=by
 unfold Bb;split
 ·simp at h
 ·rfl
variable {n:Nat}
def se {d:DV}{x:Ξ}{v:Value}(h:aR n d=some x)(i:AL M w d ρ v):v=Bb x/\ x.length=n:=by
 unfold aR at h;split at h
 ·split at h
  ·cases h;exact ⟨i,by simp;omega⟩
  ·cases h
 ·rename_i m f;split at h
  ·rename_i b;split at h
   ·rename_i ha;cases h;have a:((List.range m).map λj=>Hy (f j)).length=m:=by simp
    refine ⟨?_,by rw [a];exact b.1⟩;obtain ⟨cs,rfl,hs,hc⟩:=i;rw [sd (by rw [a];omega)]
    congr 1
    apply Array.ext_getElem?
    grind [aT]
   ·cases h
  ·cases h
 ·cases h
def zFo {x:Ξ}(h:x.length=n):AL M w (iM n x) ρ (Bb x):=by
 unfold iM;split
 ·rename_i e;subst e;obtain ⟨a,rfl⟩:=Pq h;rfl
 ·rename_i e;rw [sd (by omega)];refine ⟨_,rfl,by simp [h],λj b=>?_⟩;rw [X5 b];have i:j<x.length:=by omega
  exact ⟨.int .i64 (x.getD j 0),by simp [i],rfl⟩
end
def bx:Nat -> DH -> Option (Nat×Nat×List (Option KS)×Nat×Nat×Array MapEntry×Nat)
 | _,[]=>none
 | k,some (.mo (.sets n ls (some y)))::_=>some (k,n,ls,y)
 | k,_::r=>bx (k+1) r
variable {n:Nat}
def zJy {ls:List (Option KS)}{y:Nat×Nat×Array MapEntry×Nat}{k:Nat}: ∀ (h:DH) (S:Nat),bx S h=some (k,n,ls,y) -> S<=k/\ h[k-S]? =some (some (.mo (.sets n ls (some y)))):=by
 intro h
 induction h with
 | nil=>intro S e;cases e
 | cons x r ih=>
  intro S e
  have step:bx (S+1) r=some (k,n,ls,y) -> S<=k/\ (x::r)[k-S]? =some (some (.mo (.sets n ls (some y)))):=λe=>by
   grind
  match x,e with
  | none,e=>exact step e
  | some (.cells _),e=>exact step e
  | some (.ints _),e=>exact step e
  | some (.bools _),e=>exact step e
  | some (.arr _ _ _),e=>exact step e
  | some (.iter _),e=>exact step e
  | some (.ro _),e=>exact step e
  | some (.mo (.set _ _)),e=>exact step e
  | some (.mo (.mit _ _ _ _ _ _)),e=>exact step e
  | some (.mo (.rows _ _)),e=>exact step e
  | some (.mo (.rws _ _)),e=>exact step e
  | some (.mo (.sets _ _ none)),e=>exact step e
  | some (.mo (.sets _ _ (some _))),e=>cases e;exact ⟨zGd _,by simp⟩
def Pe (P:Program)(t:TypeId):Option (Nat×TypeId):=match P.underlying t with
 | some (.map k e)=>match He P k with
  | some n=>match P.info? e with
   | some i=>match i.zero with
    | some (.bool false)=>some (n,k)
    | _=>none
   | none=>none
  | none=>none
 | _=>none
def gx {P:Program}{t k:TypeId}(h:Pe P t=some (n,k)): ∃ e,P.underlying t=some (.map k e)/\ He P k=some n/\ ∀ w,(zeroValue e).run P w= .ok (.bool false) w:=by
 unfold Pe at h;split at h
 ·rename_i k' e hu;split at h
  ·rename_i n' hk;split at h
   ·rename_i i hi;split at h
    ·simp_all [zeroValue,typeInfo]
    ·cases h
   ·cases h
  ·cases h
 ·cases h
def ZM (P:Program)(S:St)(t:TypeId)(m k x:DV):Option (DV×DH×List Prop×Bool):=match Pe P t with
 | some (n,_)=>match aR n k,x with
  | some x,.bool true=>match m with
   | .it j=>match S.h[j]? with
    | some (some (.mo (.set W l)))=>if W=n then some (.any,S.h.set j (some (.mo (.set n (Ck x l)))),[],false) else none
    | _=>none
   | .mri j i=>match S.h[j]? with
    | some (some (.mo (.sets W ls lk)))=>if W=n then some (.any,S.h.set j (some (.mo (.sets n (ls.set i (some (Ck x ((ls.getD i none).getD [])))) lk))),[(ls.getD i none).isSome=true,aG lk i],false) else none
    | _=>none
   | _=>none
  | _,_=>none
 | none=>none
def gy (P:Program)(S:St):Op -> Option (DV×DH×List Prop×Bool)
 | .makeMap t none=>match Pe P t with
  | some (n,_)=>some (.it S.h.length,S.h++[some (.mo (.set n []))],[],true)
  | none=>none
 | .mapUpdate t m k x=>ZM P S t (AZ S.fr m) (AZ S.fr k) (AZ S.fr x)
 | .insert t m k x=>ZM P S t (AZ S.fr m) (AZ S.fr k) (AZ S.fr x)
 | .lookup t m k false=>match Pe P t with
  | some (n,_)=>match aR n (AZ S.fr k) with
   | some x=>match AZ S.fr m with
    | .it j=>match S.h[j]? with
     | some (some (.mo (.set W l)))=>if W=n then some (.bool (l.contains x),S.h,[],true) else none
     | _=>none
    | .mri j i=>match S.h[j]? with
     | some (some (.mo (.sets W ls _)))=>if W=n then some (.bool (((ls.getD i none).getD []).contains x),S.h,[(ls.getD i none).isSome=true],true) else none
     | _=>none
    | _=>none
   | none=>none
  | none=>none
 | .range t m=>match Pe P t with
  | some (n,_)=>match AZ S.fr m with
   | .mri j i=>match S.h[j]? with
    | some (some (.mo (.sets W ls (some (v,Q,es,Ak)))))=>if W=n then some (.it S.h.length,S.h++[some (.mo (.mit n Q es Ak ((ls.getD i none).getD []) none))],[(ls.getD i none).isSome=true,v=i],true) else none
    | _=>none
   | _=>none
  | none=>none
 | .entry m=>match AZ S.fr m with
  | .it j=>match S.h[j]? with
   | some (some (.mo (.mit n Q es Ak _ (some x))))=>match bx 0 S.h with
    | some (_,_,ls,i,K,a,b)=>some (.tup 2 (HL 2 λc=>if c=0 then iM n x else .bool true),S.h,[(ls.getD i none).isSome=true,K=Q,a=es,b=Ak],true)
    | none=>none
   | _=>none
  | _=>none
 | _=>none
section
variable {P:Program} {Γ:Av} {N:Ψ} {S:St} {ρ:List AI} {a:Act} {w:World}
variable {i:Nat}{ls:List (Option KS)}
def Wf (h:(ls.getD i none).isSome=true):ls[i]? =some (some ((ls.getD i none).getD [])):=by
 rw [zGR] at h ⊢;cases d:ls[i]? with
 | none=>rw [d] at h;cases h
 | some x=>
  rw [d] at h;cases x with
  | none=>cases h
  | some l=>simp
variable {v:Value}{j:Nat}
def eS (R:AS P Γ N S ρ a w){n:Nat}{l:KS}(hk:S.h[j]? =some (some (.mo (.set n l))))(c:AL (MS N S.h ρ) w (.it j) ρ v): ∃ p es Ak,ρ[j]? =some p/\ v= .map (some p.blk)/\ p.foot=(λb=>b=p.blk)/\ p.val=Value.map (some p.blk)/\ Fh w p.blk n l es Ak:=by
 obtain ⟨p,hp,rfl⟩:=c;obtain ⟨p',BG,h1,h2,es,Ak,h3⟩:=R.hr.obj j _ hk
 grind
def eQ (R:AS P Γ N S ρ a w){n:Nat}{lk:Option (Nat×Nat×Array MapEntry×Nat)}(hk:S.h[j]? =some (some (.mo (.sets n ls lk))))(d:AL (MS N S.h ρ) w (.mri j i) ρ v)(k:(ls.getD i none).isSome=true):
 ∃ p vs b es Ak,ρ[j]? =some p/\ Ft w p n ls lk vs/\ v= .map (some b)/\ vs[i]? =some (Value.map (some b))/\ p.foot b/\ Fh w b n ((ls.getD i none).getD []) es Ak/\ ∀ y,lk=some y -> y.1=i -> y.2=(b,es,Ak):=by
 obtain ⟨p,vs,g,B,Dn⟩:=d;obtain ⟨p',e,Z,c⟩:=R.hr.obj j _ hk;have:p'=p:=zGT (e.symm.trans g);subst this;have:Z=vs:=by have:=c.val.symm.trans B;cases this;rfl
 subst this;obtain ⟨b,g1,g2,g3,es,Ak,g4,g5⟩:=c.has i _ (Wf k)
 grind
variable {d:DV}
def eo (R:AS P Γ N S ρ a w)(p:AL (MS N S.h ρ) w d ρ v):CC P Γ N S.h ρ w true d S.h v w:=⟨⟨ρ,R.hr,p,A3.refl _ _ _,λ_ _ h=>h⟩,λ_=>A0.refl w⟩
def We (H:Aq P Γ N S.h ρ w){ob:Obj}(l:t7 ob=true){pl:AI}(G7:pl.foot=λb=>b=w.heap.size){o:DO}(x: ∀ M ρ',EE P M (w.alloc ob) ρ' pl o) 
 (c: ∀ M ρ',ρ'[S.h.length]? =some pl -> AL M (w.alloc ob) d ρ' v) (ext:Bool):CC P Γ N S.h ρ w ext d (S.h++[some o]) v (w.alloc ob):=by
 have F:A0 w (w.alloc ob):=(A0.refl w).allocR _;have a: ∀ b,pl.foot b -> w.heap.size<=b:=λb e=>by grind
 have e:(w.alloc ob).heap[w.heap.size]? =some ob:=zMc w _;refine ⟨⟨ρ++[pl],H.snoc F (λb f=>⟨a b f,ob,l,(),by grind⟩) (x _ _),?_,A3.snoc H F a,λk p hk=>Em hk⟩,λ_=>F⟩;exact c _ _ (by rw [←H.len];simp)
variable {ext:Bool}{vs:List Prop}{h':DH}
theorem qf (R:AS P Γ N S ρ a w){t:TypeId}{m k x:Operand}(r:ZM P S t (AZ S.fr m) (AZ S.fr k) (AZ S.fr x)=some (d,h',vs,ext))(G:Bq vs):
 ∃ w',(Instr.mapUpdate t (a.eval m) (a.eval k) (a.eval x)).run P w= .ok () w'/\ CC P Γ N S.h ρ w ext d h' undef w':=by
 have F:=BV R m;have H:=BV R k;have rx:=BV R x;unfold ZM at r;split at r
 ·rename_i n kt I;obtain ⟨e,z,hk,hz⟩:=gx I;split at r
  ·rename_i xs K L;obtain ⟨M,el⟩:=se K H;rw [L] at rx;have O:a.eval x= .bool true:=rx;rw [M,O];split at r
   ·rename_i j X;split at r
    ·rename_i W l J;split at r
     ·rename_i u;cases r;subst u;rw [X] at F;obtain ⟨p,es,Ak,g,T,v,Q,C⟩:=eS R J F;rw [T];obtain ⟨w',A,B,y,f,q⟩:=C.put z hk el;have o:AQ p.foot w w':=by rw [v];exact f
      refine ⟨w',y,⟨ρ,R.hr.write J g o (λb s=>?_) ⟨Q,v,A,B,q⟩,trivial,A3.write J g o,λ_ _ h=>h⟩,λh=>by cases h⟩;rw [v] at s;exact ⟨_,rfl,(),by rw [show b=p.blk from s];exact q.blk⟩
     ·cases r
    ·cases r
   ·rename_i j i X;split at r
    ·rename_i W ls lk J;split at r
     ·rename_i u;cases r;subst u;obtain ⟨D,U,_⟩:=G;rw [X] at F;obtain ⟨p,vs,b,es,Ak,g,V,T,Y,Z,C,_⟩:=eQ R J F D;rw [T];obtain ⟨w',A,B,y,f,q⟩:=C.put z hk el;have o:AQ p.foot w w':=f.mono λc _ hc=>by rw [show c=b from hc];exact Z
      have E:=V.put (Wf D) Y f q U;exact ⟨w',y,⟨ρ,R.hr.write J g o (λb s=>E.lies s) ⟨vs,E⟩,trivial,A3.write J g o,λ_ _ h=>h⟩,λh=>by cases h⟩
     ·cases r
    ·cases r
   ·cases r
  ·cases r
 ·cases r
def zFP (es:Array MapEntry):leftOf es #[]=es:=by
 grind [leftOf,Array.filter_eq_self]
def zB4 {r h f Ak:Nat}{seen:Array Nat}{es:Array MapEntry}{e:MapEntry}(hr:w.heap[r]? =some (.mapIter (some h) f seen Ak))(hs:seen.back? =some e.born)(hb:w.heap[h]? =some (.map es Ak))(I:e∈es.toList)(u:(es.toList.map (·.born)).Nodup):
 (Instr.entry (.pointer (some ⟨r,0,none⟩))).run P w= .ok (.tuple #[e.key,e.val]) w:=by
 have hf:es.find? (·.born==e.born)=some e:=by rw [←Array.find?_toList];exact find_born e es.toList u I
 simp_all [Instr.entry,getObj,Sem.run]
theorem zEr (R:AS P Γ N S ρ a w)(o:Oper)(r:gy P S o.op=some (d,h',vs,ext))(B:Bq vs):BO P (execOp a.eval o) w (CC P Γ N S.h ρ w ext d h'):=by
 unfold gy at r;split at r
 ·rename_i t f;split at r
  ·rename_i n V z;cases r;refine BO.value (s:=Instr.makeMap t none) (by unfold execOp;rw [f];rfl) (v:=.map (some w.heap.size)) (w':=w.alloc (.map #[] 0)) (by simp [Instr.makeMap,newObj];rfl) ?_;refine We (ob:=.map #[] 0) (o:=.mo (.set n [])) (d:=.it S.h.length) (v:=.map (some w.heap.size)) (pl:=⟨w.heap.size,0,0,.map (some w.heap.size),λb=>b=w.heap.size⟩) R.hr rfl rfl (λM ρ'=>⟨rfl,rfl,#[],0,⟨zMc w _,by simp,zNv,λy hy=>absurd hy zMp,λe I=>absurd I (by simp),λe I=>absurd I (by simp),by simp⟩⟩) (λM ρ' g=>⟨_,g,rfl⟩) true
  ·cases r
 ·grind [qf,BO.skip,execOp]
 ·grind [qf,BO.skip,execOp]
 ·rename_i t m k f;have F:=BV R m;have rk:=BV R k;split at r
  ·rename_i n V z;obtain ⟨e,A,hk,D⟩:=gx z;split at r
   ·rename_i xs hK;obtain ⟨Y,el⟩:=se hK rk;split at r
    ·rename_i j X;split at r
     ·rename_i W l J;split at r
      ·rename_i u;cases r;subst u;rw [X] at F;obtain ⟨p,es,Ak,g,T,G7,GF,C⟩:=eS R J F;exact BO.value (s:=Instr.lookup t (a.eval m) (a.eval k) false) (by unfold execOp;rw [f]) (by rw [Y,T];exact C.look A hk el (D w)) (eo R rfl)
      ·cases r
     ·cases r
    ·rename_i j i X;split at r
     ·rename_i W ls lk J;split at r
      ·rename_i u;cases r;subst u;rw [X] at F;obtain ⟨p,vs,b,es,Ak,g,E,T,Dn,Hk,C,_⟩:=eQ R J F B.1;exact BO.value (s:=Instr.lookup t (a.eval m) (a.eval k) false) (by unfold execOp;rw [f]) (by rw [Y,T];exact C.look A hk el (D w)) (eo R rfl)
      ·cases r
     ·cases r
    ·cases r
   ·cases r
  ·cases r
 ·rename_i t m f;have F:=BV R m;split at r
  ·rename_i n V z;obtain ⟨e,A,hk,D⟩:=gx z;split at r
   ·rename_i j i X;split at r
    ·rename_i W ls i' Q es Ak J;split at r
     ·rename_i u;cases r;subst u;obtain ⟨G,hi,_⟩:=B;subst hi;rw [X] at F;obtain ⟨p,vs,b,Lh,lM,g,E,T,Dn,Hk,C,H⟩:=eQ R J F G;have H:=H _ rfl rfl;cases H;refine BO.value (s:=Instr.range t (a.eval m)) (by unfold execOp;rw [f]) (by rw [T];exact run_range_map w t _ _ _ _ _ A C.blk) ?_;refine We (ob:=.mapIter (some Q) Ak #[] Ak) (o:=.mo (.mit W Q es Ak ((ls.getD i' none).getD []) none)) (d:=.it S.h.length) (v:=.pointer (some ⟨w.heap.size,0,none⟩)) (pl:=⟨w.heap.size,0,0,.pointer (some ⟨w.heap.size,0,none⟩),λb=>b=w.heap.size⟩) R.hr rfl rfl (λM ρ'=>⟨λx K=>K.elim (C.len x) (λe=>by cases e),rfl,rfl,#[],zMc w _,by rw [zFP];exact C.keys,λx K=>by cases K⟩) (λM ρ' g=>⟨_,g,rfl⟩) true
     ·cases r
    ·cases r
   ·cases r
  ·cases r
 ·rename_i m f;have F:=BV R m;split at r
  ·rename_i j X;split at r
   ·rename_i n Q es Ak rem x J;split at r
    ·rename_i k W ls i sB En Fg L;cases r;obtain ⟨G,e1,e2,e3,_⟩:=B;subst e1 e2 e3;rw [X] at F;obtain ⟨p,g,T⟩:=F;obtain ⟨p',BG,h0,h1,h2,seen,h3,h4,h5⟩:=R.hr.obj j _ J;have:p'=p:=zGT (BG.symm.trans g);subst this;obtain ⟨e,Z,g2,g3⟩:=h5 x rfl;have L:=(zJy _ _ L).2;obtain ⟨q,hq,vs,E⟩:=R.hr.obj _ _ L;obtain ⟨b,k1,k2,k3,Lh,lM,O,U⟩:=E.has i _ (Wf G);have U:=U _ rfl rfl;cases U;refine BO.value (s:=Instr.entry (a.eval m)) (by unfold execOp;rw [f]) (by rw [T,h1];exact zB4 h3 g3 O.blk Z O.stamps) (eo R ?_);refine ⟨_,rfl,rfl,λc hc=>?_⟩;rw [X5 hc,g2,O.tru e Z]
     match c,hc with
     | 0,_=>exact ⟨Bb x,rfl,zFo (h0 x (.inr rfl))⟩
     | 1,_=>exact ⟨.bool true,rfl,rfl⟩
    ·cases r
   ·cases r
  ·cases r
 ·cases r
end
end
def Z6 (P:Program)(t:TypeId):Option (Nat×TypeId×TypeInfo):=match P.underlying t with
 | some (.slice e)=>match Pe P e with
  | some (n,_)=>match P.info? e with
   | some i=>match i.zero with
    | some (.map none)=>if i.size=1/\ i.bytes<=128 then some (n,e,i) else none
    | _=>none
   | none=>none
  | none=>none
 | _=>none
def zEj {P:Program}{t e:TypeId}{n:Nat}{i:TypeInfo}(h:Z6 P t=some (n,e,i)):P.underlying t=some (.slice e)/\ P.info? e=some i/\ i.zero=some (.map none)/\ i.size=1/\ i.bytes<=128:=by
 grind [Z6]
section
variable {P:Program} {Γ:Av} {N:Ψ} {S:St} {ρ:List AI} {a:Act} {w:World} {h:DH}
variable {n:Nat}
theorem zEy (R:AS P Γ N S ρ a w){t e:TypeId}{x y:Operand}{i:TypeInfo}{q Z:IntKind}{m:Int}(g:Z6 P t=some (n,e,i))(p:AZ S.fr x= .int q m)(hy:AZ S.fr y= .int Z m) 
 (u:0<=m/\ m<=1000000000000) (o:Oper) (r:o.op= .makeSlice t x y) (ext:Bool):
 BO P (execOp a.eval o) w (CC P Γ N S.h ρ w ext (.msl S.h.length 1 0 m.toNat) (S.h++[some (.mo (.sets n (List.replicate m.toNat none) none))])):=by
 obtain ⟨A,hi,B,k,Eb⟩:=zEj g;have f:=u.1;have C:=u.2;have rx:=BV R x;have z:=BV R y;rw [p] at rx;rw [hy] at z;have K:(madeCells (Value.map none).cells (m.toNat*i.size)).size=m.toNat:=by rw [size_madeCells,k,zIb]
 have D: ∀ j,j<m.toNat -> (madeCells (Value.map none).cells (m.toNat*i.size))[j]? =some (Value.map none):=λj c=>by
  simp [madeCells,k,c,Value.cells,Nat.mod_one]
 refine BO.value (s:=Instr.makeSlice t (a.eval x) (a.eval y)) (by unfold execOp;rw [r]) (v:=.slice (some ⟨w.heap.size,0,none⟩) m.toNat m.toNat) (w':=w.alloc (.cells (madeCells (Value.map none).cells (m.toNat*i.size)) e)) ?_ ?_
 ·rw [show a.eval x=_ from rx,show a.eval y=_ from z];refine run_make w t e i _ A hi B q Z m m f (zGv _) ?_ (by omega);have:(i.bytes:Int)*m<=128*1000000000000:=Int.mul_le_mul (by omega) C f (by omega);omega
 ·generalize hC:madeCells (Value.map none).cells (m.toNat*i.size)=cs at K D ⊢
  refine We (ob:=.cells cs e) (o:=.mo (.sets n (List.replicate m.toNat none) none)) (d:=.msl S.h.length 1 0 m.toNat) (pl:=⟨w.heap.size,0,cs.size,.tuple (Array.replicate m.toNat (Value.map none)),λb=>b=w.heap.size⟩) R.hr rfl rfl (λM ρ'=>?_) (λM ρ' E=>⟨_,m.toNat,E,by simp,zGd _,by unfold LB;omega,by simp [K]⟩) ext;refine ⟨Array.replicate m.toNat (Value.map none),rfl,by simp,⟨cs,e,zMc w _,by simp [K],zGd _,λj c=>?_⟩,rfl,λj l c=>?_,λj c=>?_,λb F=>.inl F,λi j b h1 h2=>?_⟩
  ·grind
  ·grind
  ·grind
  grind
variable {p:AI}
def Aq.merge (H:Aq P Γ N h ρ w){w':World}{k j:Nat}{o y o':DO}{q p':AI}(je:k≠j)(hk:h[k]? =some (some o))(l:ρ[k]? =some p)(A:h[j]? =some (some y))(L:ρ[j]? =some q)(m:AQ p.foot w w')(I: ∀ b,p'.foot b -> (p.foot b∨q.foot b)/\ EF w' b) 
 (V:EE P (MS N ((h.set k none).set j none++[some o']) (ρ++[p'])) w' (ρ++[p']) p' o'):
 Aq P Γ N ((h.set k none).set j none++[some o']) (ρ++[p']) w'/\ A3 h ρ w ((h.set k none).set j none++[some o']) (ρ++[p']) w':=by
 have M:((h.set k none).set j none).length=h.length:=by simp
 have X: ∀ b,p.foot b -> MO h ρ b:=λb a=>⟨k,o,p,hk,l,a⟩
 have hMq: ∀ b,q.foot b -> MO h ρ b:=λb a=>⟨j,y,q,A,L,a⟩
 have R: ∀ {i:Nat} {o1:DO},((h.set k none).set j none)[i]? =some (some o1) -> i≠k/\ i≠j/\ h[i]? =some (some o1):=λ{i o1} hi=>by
  grind
 have v: ∀ {i:Nat} {o1:DO} {J:AI},((h.set k none).set j none++[some o'])[i]? =some (some o1) -> (ρ++[p'])[i]? =some J -> (i≠k/\ i≠j/\ i<h.length/\ h[i]? =some (some o1)/\ ρ[i]? =some J)∨(i=h.length/\ o1=o'/\ J=p'):=by
  intro i o1 J e d;rcases EO e with ⟨n,e⟩ | ⟨n,e⟩
  ·rw [M] at n;rcases EO d with ⟨_,d⟩ | ⟨S,_⟩
   ·grind
   ·rw [H.len] at S;omega
  ·rw [M] at n;rcases EO d with ⟨S,_⟩ | ⟨_,d⟩
   ·rw [H.len] at S;omega
   grind
 have r: ∀ b,MO ((h.set k none).set j none++[some o']) (ρ++[p']) b -> MO h ρ b:=by
  rintro b ⟨i,o1,J,e,d,g⟩;rcases v e d with ⟨_,_,_,f,s⟩ | ⟨_,_,rfl⟩
  ·exact ⟨i,o1,J,f,s,g⟩
  grind
 have O:BP (MS N h ρ) w ρ (MS N ((h.set k none).set j none++[some o']) (ρ++[p'])) w' (ρ++[p']):=
  ⟨λb a W _=>m.block b a λB=>W (.inr (X b B)),λb a=>.inl (a.imp id (r b)),λi q hi=>Em hi⟩
 refine ⟨⟨by simp [H.len],λi o1 hi=>?_,λi o1 J b e d g=>?_,λi Y o1 Z J p2 b D e d g h4 K T=>?_,λb a=>⟨zGb (H.nlt b a).1 m.size,(H.nlt b a).2⟩,Γ.st _ _ H.gi (m.mono λb _ a=>(H.cel k o p b hk l a).1)⟩,⟨m.mono λb _ a=>X b a,λb a=>.inl (r b a)⟩⟩
 ·rcases EO hi with ⟨n,hi⟩ | ⟨n,hi⟩
  ·obtain ⟨e1,u,Q⟩:=R hi;obtain ⟨J,U,hr⟩:=H.obj i o1 Q;exact ⟨J,Em U,hr.out O m (λb a=>.inr (X b a)) λb _ e d=>H.dis i k o1 o J p b e1 Q hk U l e d⟩
  ·cases hi;exact ⟨p',by rw [n,M,←H.len];simp,V⟩
 ·rcases v e d with ⟨D,_,_,f,s⟩ | ⟨_,_,rfl⟩
  ·obtain ⟨e1,u,c,t,z,Q⟩:=H.cel i o1 J b f s g;exact ⟨e1,u,c,t,z,(m.block b (zGS.1 Q).1 λB=>H.dis i k o1 o J p b D f hk s l g B).trans Q⟩
  ·obtain ⟨e1,u⟩:=I b g;rcases e1 with e1 | e1
   ·obtain ⟨C,E,_⟩:=H.cel k o p b hk l e1;exact ⟨C,E,u⟩
   ·obtain ⟨C,E,_⟩:=H.cel j y q b A L e1;exact ⟨C,E,u⟩
 ·have key: ∀ {i o1 J},i≠k -> i≠j -> h[i]? =some (some o1) -> ρ[i]? =some J -> J.foot b -> p'.foot b -> False:=λ{i o1 J} D F f s x G=>by
   rcases (I b G).1 with e1 | e1
   ·exact H.dis i k o1 o J p b D f hk s l x e1
   ·exact H.dis i j o1 y J q b F f A s L x e1
  rcases v e g with ⟨jX,F,_,f,s⟩ | ⟨e1,_,rfl⟩
  ·rcases v d h4 with ⟨hne3,_,_,x,G⟩ | ⟨u,_,rfl⟩
   ·exact H.dis i Y o1 Z J p2 b D f x s G K T
   ·exact key jX F f s K T
  grind
def Nm (k g:Nat):DV -> DV
 | .msl B m o n=>if B=k then .msl g m o n else .msl B m o n
 | d=>d
def d5 (P:Program)(S:St)(o:Oper):Option (St×List Prop):=match o.op with
 | .store t x y=>match o.dst with
  | none=>match AZ S.fr x with
   | .mp k 1 i 0=>match AZ S.fr y with
    | .it j=>match S.h[k]? with
     | some (some (.mo (.sets n E none)))=>match S.h[j]? with
      | some (some (.mo (.set W l)))=>if W=n/\ (P.info? t).any (λi=>i.size==1)=true then some (⟨S.fr.map (Nm k S.h.length),(S.h.set k none).set j none++[some (.mo (.sets n (E.set i (some l)) none))]⟩,[i<E.length]) else none
      | _=>none
     | _=>none
    | _=>none
   | _=>none
  | some _=>none
 | _=>none
def Ft.of_map {E:List (Option KS)}{H:Option (Nat×Nat×Array MapEntry×Nat)}{vs:Array Value}(a:Ft w p n E H vs){i b:Nat}(h:vs[i]? =some (Value.map (some b))): ∃ l,E[i]? =some (some l)/\ p.foot b/\ b≠p.blk/\ ∃ es Y,Fh w b n l es Y:=by
 have hi:i<E.length:=by rw [←a.size];grind
 cases m:E[i] with
 | none=>
  have:=a.nil i (by rw [zGc hi,m]);rw [this] at h;cases h
 | some l=>
  have V:E[i]? =some (some l):=by rw [zGc hi,m]
  obtain ⟨b',g1,g2,g3,es,Y,g4,_⟩:=a.has i l V
  grind
theorem zE (R:AS P Γ N S ρ a w){o:Oper}{S':St}{vs:List Prop}(h:d5 P S o=some (S',vs))(hv:Bq vs):
 BO P (execOp a.eval o) w (λv w'=>(∃ ρ',AS P Γ N S' ρ' (a.put o.dst v) w'/\ DI S.h ρ w S'.h ρ' w')/\ ∃ k i p t x y,o.op= .store t x y/\ AZ S.fr x= .mp k 1 i 0/\ ρ[k]? =some p/\ AQ p.foot w w'):=by
 unfold d5 at h;split at h
 case h_2=>cases h
 rename_i t x y ho;split at h
 case h_2=>cases h
 rename_i jv;split at h
 case h_2=>cases h
 rename_i k i hX;split at h
 case h_2=>cases h
 rename_i j hY;split at h
 case h_2=>cases h
 rename_i n E F;split at h
 case h_2=>cases h
 rename_i V l hJ;split at h
 case isFalse=>cases h
 rename_i G;cases h;obtain ⟨X,J⟩:=G;subst X;have hi:i<E.length:=hv.1;have rx:=BV R x;have ry:=BV R y;rw [hX] at rx;rw [hY] at ry;obtain ⟨p,r,ex⟩:=rx;obtain ⟨q,es,Ak,hq,ey,hqf,hqv,hA⟩:=eS R hJ ry;obtain ⟨p',BG,K,f⟩:=R.hr.obj k _ F;have:p'=p:=zGT (BG.symm.trans r);subst this;have je:k≠j:=λe=>by subst e;rw [F] at hJ;cases hJ
 obtain ⟨cs,ty,d,Hi,Cb,FM⟩:=f.row;cases MW:P.info? t with
 | none=>rw [MW] at J;cases J
 | some ti=>
 rw [MW] at J;have Sb:ti.size=1:=by simpa using J
 have hisz:i<K.size:=by rw [f.size];exact hi
 have jF: ∀ b,p'.foot b -> b≠q.blk:=λb d e=>R.hr.dis k j _ _ p' q b je F hJ r hq d (by rw [hqf];exact e)
 have ko:a.eval x= .pointer (some ⟨p'.blk,p'.off+i,none⟩):=by rw [ex];simp
 have BT:w.cell? ⟨p'.blk,p'.off+i,none⟩=some K[i]:=by
  grind [World.cell?]
 have Hj: ∀ jj,w.frozen? ⟨p'.blk,jj,none⟩=false:=λjj=>by unfold World.frozen?;simp [d]
 have M:AQ p'.foot w (w.setCells p'.blk (p'.off+i) (a.eval y).cells.toList):=(RF _ _ _ _).mono λb _ e=>by rw [show b=p'.blk from e];exact f.blk
 refine BO.skip (s:=Instr.storeAt t (a.eval x) (a.eval y)) (by unfold execOp;rw [ho]) (w':=w.setCells p'.blk (p'.off+i) (a.eval y).cells.toList) ?_ ?_
 ·rw [ko];refine fI MW (by rw [ey,Sb];rfl) (λjj bH=>?_) Hj (λu hu=>?_)
  ·simp_all [Value.cells]
  ·rw [ey] at hu;have:u= .map (some q.blk):=by simpa [Value.cells] using hu
   subst this;rfl
 ·rw [jv];rw [ey] at M ⊢;have eC:(Value.map (some q.blk)).cells.toList= [Value.map (some q.blk)]:=rfl;rw [eC] at M ⊢;obtain ⟨Ff,e1,A,e3⟩:=Sw p'.blk ty (0,0) [Value.map (some q.blk)] (p'.off+i) w cs d (by simp;omega)
  generalize hW:w.setCells p'.blk (p'.off+i) [Value.map (some q.blk)]=W at M e1 ⊢
  have Bm: ∀ {b ob},b≠p'.blk -> w.heap[b]? =some ob -> W.heap[b]? =some ob:=λ{b ob} L Dp=>by
   rw [←Dp,←hW];exact (RF p'.blk [Value.map (some q.blk)] (p'.off+i) w).block b (zGS.1 Dp).1 L
  have qd:q.blk≠p'.blk:=λe=>jF p'.blk f.blk e.symm
  let Z:=K.setIfInBounds i (Value.map (some q.blk))
  have B: ∀ m:Nat,Z[m]? =if i=m then some (Value.map (some q.blk)) else K[m]? :=λm=>by
   grind
  let p2:AI:=⟨p'.blk,p'.off,p'.room,.tuple Z,λb=>b=p'.blk∨∃ m:Nat,Z[m]? =some (Value.map (some b))⟩
  have sL: ∀ {m:Nat} {z:Option KS},(E.set i (some l))[m]? =some z -> (m=i/\ z=some l)∨(m≠i/\ E[m]? =some z):=λ{m z} c=>by
   grind
  have SA:Ft W p2 V (E.set i (some l)) none Z:=by
   refine ⟨rfl,by simp [Z,f.size],⟨Ff,ty,e1,by simpa [A] using Hi,by rw [A];exact Cb,λm c=>?_⟩,.inl rfl,λm l1 c=>?_,λm c=>?_,λb d=>?_,λm m' b C g=>?_⟩
   ·grind
   ·rcases sL c with ⟨rfl,e⟩ | ⟨L,c⟩
    ·cases e;refine ⟨q.blk,by rw [B,zEd rfl],qd,.inr ⟨m,by rw [B,zEd rfl]⟩,es,Ak,{ hA with blk:=Bm qd hA.blk },λx H=>by cases H⟩
    ·obtain ⟨b,I,k2,k3,Lh,Q,k4,_⟩:=f.has m l1 c;exact ⟨b,by grind,k2,.inr ⟨m,by grind⟩,Lh,Q,{ k4 with blk:=Bm k2 k4.blk },λx H=>by cases H⟩
   ·rcases sL c with ⟨rfl,e⟩ | ⟨L,c⟩
    ·cases e
    ·rw [B,zGW (Ne.symm L)];exact f.nil m c
   ·rcases d with d | ⟨m,c⟩
    ·exact .inl d
    ·refine .inr ?_;have AB:=c;rw [B] at c
     by_cases e:i=m
     ·grind
     ·rw [zGW e] at c;obtain ⟨l1,g1,_⟩:=f.of_map c
      grind
   ·rw [B] at C g
    by_cases Q:i=m
    ·by_cases T:i=m'
     ·omega
     ·rw [zEd Q] at C;rw [zGW T] at g;cases C;obtain ⟨_,_,D,_⟩:=f.of_map g;exact absurd rfl (jF _ D)
    ·rw [zGW Q] at C
     by_cases T:i=m'
     ·rw [zEd T] at g;cases g;obtain ⟨_,_,D,_⟩:=f.of_map C;exact absurd rfl (jF _ D)
     ·rw [zGW T] at g;exact f.inj m m' b C g
  have G7: ∀ b,p2.foot b -> (p'.foot b∨q.foot b)/\ EF W b:=λb d=>by
   refine ⟨?_,SA.lies d⟩;rcases d with d | ⟨m,c⟩
   ·exact .inl (by rw [d];exact f.blk)
   ·rw [B] at c
    by_cases e:i=m
    ·grind
    ·rw [zGW e] at c;exact .inl (f.of_map c).choose_spec.2.1
  obtain ⟨g1,D⟩:=R.hr.merge (o':=.mo (.sets V (E.set i (some l)) none)) (p':=p2) je F r hJ hq M G7 ⟨Z,SA⟩
  have O:BP (MS N S.h ρ) w ρ (MS N ((S.h.set k none).set j none++[some (.mo (.sets V (E.set i (some l)) none))]) (ρ++[p2])) W (ρ++[p2]):=
   ⟨λb d c _=>M.block b d λH=>c (.inr ⟨k,_,p',F,r,H⟩),λb d=>d.elim (λh=>.inl (.inl h)) (λh=>(D.grow b h).imp .inr id),λk q hk=>Em hk⟩
  refine ⟨⟨ρ++[p2],⟨g1,by simp [R.fr.1,Act.put],λm c=>?_⟩,D,λk q hk=>Em hk⟩,k,i,p',t,x,y,ho,hX,r,M⟩;have DT:m<S.fr.length:=by simpa using c
  have e:(S.fr.map (Nm k S.h.length)).getD m .any=Nm k S.h.length (S.fr.getD m .any):=by simp [DT]
  show AL _ W ((S.fr.map (Nm k S.h.length)).getD m .any) _ _
  rw [e];have r0:=R.fr.2 m DT;cases hd:S.fr.getD m .any with
  | msl I Y o1 U=>
   rw [hd] at r0
   by_cases G:I=k
   ·have A:Nm k S.h.length (.msl I Y o1 U)= .msl S.h.length Y o1 U:=by simp only [Nm,zEd G]
    rw [A];rw [G] at r0;obtain ⟨q0,cap,Sf,iz,u1,u2,u3⟩:=r0;have eq0:q0=p':=zGT (Sf.symm.trans r);subst eq0;exact ⟨p2,cap,by rw [←R.hr.len];simp,iz,u1,u2,u3⟩
   ·have A:Nm k S.h.length (.msl I Y o1 U)= .msl I Y o1 U:=by simp only [Nm,zGW G]
    rw [A];exact AL.out _ O r0
  | _=>rw [hd] at r0;exact AL.out _ O r0
end
section
def RL:DV:=.tup 0 (λj=>([]:List DV).getD j .any)
def Xz {M:Ψ}{w:World}{ρ:List AI}:AL M w RL ρ undef:=⟨#[],rfl,rfl,λj e=>absurd e (zGa j)⟩
def Co (fr:List DV)(dst:Option Nat)(d:DV):List DV:=match dst with
 | some t=>fr.set t d
 | none=>fr
section
variable {P:Program} {Γ:Av} {N:Ψ} {S:St} {ρ:List AI} {a:Act} {w:World}
variable {v:Value}{d:DV}
def HN (R:AS P Γ N S ρ a w)(dst:Option Nat)(p:AL (MS N S.h ρ) w d ρ v):AS P Γ N ⟨Co S.fr dst d,S.h⟩ ρ (a.put dst v) w:=by
 refine ⟨R.hr,?_⟩;cases dst with
 | none=>exact R.fr
 | some t=>exact R.fr.set t p
def OM (R:AS P Γ N S ρ a w){d':DV}{h':DH}{ext:Bool}{w':World}(dst:Option Nat)(G:CC P Γ N S.h ρ w ext d h' v w')(r: ∀ M ρ',AL M w' d ρ' v -> AL M w' d' ρ' v):
 ∃ ρ',AS P Γ N ⟨Co S.fr dst d',h'⟩ ρ' (a.put dst v) w'/\ DI S.h ρ w h' ρ' w':=by
 obtain ⟨ρ',o,s,c,f⟩:=G.ex;have O:BP (MS N S.h ρ) w ρ (MS N h' ρ') w' ρ':=⟨λb e g _=>c.upd.block b e λi=>g (.inr i),λb e=>e.elim (λh=>.inl (.inl h)) (λh=>(c.grow b h).imp .inr id),f⟩;have R':AS P Γ N ⟨S.fr,h'⟩ ρ' a w':=⟨o,R.fr.out O⟩;exact ⟨ρ',HN R' dst (r _ _ s),c,f⟩
end
def U6 (P:Program)(t:TypeId):Option (TypeId×TypeId):=match P.underlying t with
 | some (.map k e)=>if Vz P k then match P.info? e with
  | some i=>match i.zero with
   | some (.slice none 0 0)=>some (k,e)
   | _=>none
  | none=>none
  else none
 | _=>none
variable {t:TypeId}{P:Program}
def px {k e:TypeId}(h:U6 P t=some (k,e)):P.underlying t=some (.map k e)/\ He P k=some 1/\ ∀ w,(zeroValue e).run P w= .ok (.slice none 0 0) w:=by
 unfold U6 at h;split at h
 ·rename_i k' e' hu;split at h
  ·rename_i hk;split at h
   ·rename_i i hi;split at h
    ·simp_all [He,sj,zeroValue,typeInfo]
    ·cases h
   ·cases h
  ·cases h
 ·cases h
def SP (j q:Nat):DV -> DV
 | .mri k i=>if k=j then (if i=0 then .mri q 0 else .any) else .mri k i
 | d=>d
def IE (f:Int -> Ξ)(k:Int)(L:Ξ):Int -> Ξ:=λx=>if x=k then L else f x
def U7 (P:Program)(S:St)(o:Oper):Option (St×List Prop):=match o.op with
 | .makeMap t none=>match U6 P t with
  | some _=>some (⟨Co S.fr o.dst (.mri S.h.length 0),S.h++[some (.mo (.rows (λ_=>[]) none))]⟩,[])
  | none=>none
 | .lookup t m k false=>match U6 P t with
  | some _=>match AZ S.fr m,AZ S.fr k with
   | .mri j 0,.int .i64 x=>match S.h[j]? with
    | some (some (.mo (.rows f B6)))=>if B6.all (λy=>!y.2.2) then some (⟨Co (S.fr.map (SP j S.h.length)) o.dst (.mri S.h.length 1),S.h.set j none++[some (.mo (.rows f (some (x,f x,false))))]⟩,[]) else none
    | _=>none
   | _,_=>none
  | none=>none
 | .mapUpdate t m k y=>match U6 P t with
  | some _=>match AZ S.fr m,AZ S.fr k,AZ S.fr y with
   | .mri j 0,.int .i64 x,.mri X 1=>match S.h[j]? with
    | some (some (.mo (.rows f (some (x',L,_)))))=>if X=j then some (⟨Co S.fr o.dst RL,S.h.set j (some (.mo (.rows (IE f x' L) none)))⟩,[x'=x]) else none
    | _=>none
   | _,_,_=>none
  | none=>none
 | .call c=>match c.callee with
  | .builtin .append=>match c.args.toList with
   | [x,y]=>match c.argTypes.toList with
    | [t,O]=>if t=O then match Li P t with
     | some (.ints,_,i,_)=>if 128<i.bytes then none else match AZ S.fr x,MP S (AZ S.fr y) with
      | .mse j 1 off n,some (ys,a)=>match S.h[j]? with
       | some (some (.ints xs))=>some (⟨Co S.fr o.dst (.mse S.h.length 1 0 (n+ys.length)),S.h.set j none++[some (.ints (xs.drop off++ys))]⟩,[a,0<ys.length,off+n=xs.length,n+ys.length<=Ay])
       | _=>none
      | .mri j 1,some (ys,a)=>match S.h[j]? with
       | some (some (.mo (.rows f (some (x',L,_)))))=>some (⟨Co (S.fr.map (SP j S.h.length)) o.dst (.mri S.h.length 1),S.h.set j none++[some (.mo (.rows f (some (x',L++ys,true))))]⟩,[a,0<ys.length,L.length+ys.length<=Ay])
       | _=>none
      | _,_=>none
     | _=>none
     else none
    | _=>none
   | _=>none
  | _=>none
 | _=>none
theorem zCK {S:St}{o:Oper}{r:St×List Prop}(h:U7 P S o=some r){x y:Operand}:o.op≠.store t x y:=by
 grind [U7]
def BE.map {M:Ψ}{w:World}{ρ:List AI}{fr:List DV}{t:Array Value}(h:BE M w ρ fr t){g:DV -> DV}(j: ∀ d v,AL M w d ρ v -> AL M w (g d) ρ v):BE M w ρ (fr.map g) t:=
 ⟨by simp [h.1],λi hi=>by
  have G:i<fr.length:=by simpa using hi
  have e:(fr.map g).getD i .any=g (fr.getD i .any):=by simp [G]
  rw [e];exact j _ _ (h.2 i G)⟩
section
variable {P:Program} {Γ:Av} {N:Ψ} {S:St} {ρ:List AI} {a:Act} {w w':World} {p p':AI} {f:Int -> Ξ} {B6:Option (Int×Ξ×Bool)} {u:Value} {es:Array MapEntry} {Ak:Nat}
def rN (h:FT w p f B6 u es Ak){g:TypeId}(hk:P.underlying g=some (.int .i64))(x:Int):
 ((Instr.findKey g (.int .i64 x) es.toList).run P w= .ok none w/\ ∀ e∈es.toList,e.key≠.int .i64 x)∨∃ j e,(Instr.findKey g (.int .i64 x) es.toList).run P w= .ok (some (j,e.val)) w/\ es[j]? =some e/\ e.key= .int .i64 x:=by
 rcases MapKept.findNow_spec (d:=.int .i64) (k:=.int .i64 x) (by trivial) es.toList 0 (λe v=>by
  obtain ⟨k,hk,_⟩:=h.key e v;rw [hk];trivial) with ⟨a,b⟩ | ⟨j,e,a,b,c⟩
 ·grind [MapKept.run_findKey]
 ·exact .inr ⟨j,e,by simp_all [zNN],by simpa using b,c⟩
variable {v:Value}{j:Nat}
def Zl (R:AS P Γ N S ρ a w){i:Nat}(hk:S.h[j]? =some (some (.mo (.rows f B6))))(b:AL (MS N S.h ρ) w (.mri j i) ρ v): ∃ p u es Ak,ρ[j]? =some p/\ FT w p f B6 u es Ak/\ (#[Value.map (some p.blk),u]:Array Value)[i]? =some v:=by
 obtain ⟨p,vs,g,B,Dn⟩:=b;obtain ⟨p',c,u,es,Ak,d⟩:=R.hr.obj j _ hk;have:p'=p:=zGT (c.symm.trans g);subst this;have: #[Value.map (some p'.blk),u]=vs:=by have:=d.val.symm.trans B;cases this;rfl
 grind
def FT.lies (h:FT w p f B6 u es Ak):EF w p.blk:=⟨_,rfl,(),h.blk⟩
def pp (R:AS P Γ N S ρ a w)(n:S.h[j]? =some (some (.mo (.rows f B6))))(c:ρ[j]? =some p)(J:FT w p f B6 u es Ak){V:Int -> Ξ}{Q:Option (Int×Ξ×Bool)}{l:Value}{o:Array MapEntry}{s:Nat} 
 (t:AQ p.foot w w') (M: ∀ b,p'.foot b -> (p.foot b∨w.heap.size<=b)/\ EF w' b) (z:FT w' p' V Q l o s) (y:p'.blk=p.blk) (dst:Option Nat):
 ∃ ρ',AS P Γ N ⟨Co (S.fr.map (SP j S.h.length)) dst (.mri S.h.length 1),S.h.set j none++[some (.mo (.rows V Q))]⟩ ρ' (a.put dst l) w'/\ DI S.h ρ w (S.h.set j none++[some (.mo (.rows V Q))]) ρ' w':=by
 obtain ⟨B,x⟩:=R.hr.regrow (o':=.mo (.rows V Q)) n c t M ⟨l,o,s,z⟩;have A: ∀ (k:Nat) (q:AI),ρ[k]? =some q -> (ρ++[p'])[k]? =some q:=λk q hk=>Em hk
 have O:BP (MS N S.h ρ) w ρ (MS N (S.h.set j none++[some (.mo (.rows V Q))]) (ρ++[p'])) w' (ρ++[p']):=
  ⟨λb m C _=>t.block b m λD=>C (.inr ⟨j,_,p,n,c,D⟩),λb m=>m.elim (λh=>.inl (.inl h)) (λh=>(x.grow b h).imp .inr id),A⟩
 have L:(ρ++[p'])[S.h.length]? =some p':=by rw [←R.hr.len];simp
 have E:=(R.fr.out O).map (g:=SP j S.h.length) (λd v r=>by
  unfold SP;split
  ·rename_i k i;split
   ·rename_i e;split
    ·rename_i F;subst e F;obtain ⟨q,vs,G,H,I⟩:=r;have:q=p:=zGT (G.symm.trans (A _ _ c));subst this;have K: #[Value.map (some q.blk),u]=vs:=by have:=J.val.symm.trans H;cases this;rfl
     subst K;exact ⟨p',_,L,z.val,by rw [y];simpa using I⟩
    ·trivial
   ·exact r
  ·exact r)
 exact ⟨ρ++[p'],HN (S:=⟨S.fr.map (SP j S.h.length),_⟩) ⟨B,E⟩ dst ⟨p',_,L,z.val,rfl⟩,x,A⟩
def zDy (h:FT w p f B6 u es Ak)(y: ∀ k L,B6≠some (k,L,true)){t i n:TypeId}(v:P.underlying t=some (.map i n))(hk:He P i=some 1)(z:(zeroValue n).run P w= .ok (.slice none 0 0) w)(x:Int):
 ∃ a,(Instr.lookup t (.map (some p.blk)) (.int .i64 x) false).run P w= .ok a w/\ FT w { p with val:=.tuple #[Value.map (some p.blk),a] } f (some (x,f x,false)) a es Ak:=by
 have r:P.underlying i=some (.int .i64):=by
  grind [SW]
 have o:=λe=>SV (w:=w) hk (x:=[x]) rfl e
 have q: ∀ a,(Ig w (λb=>p.foot b/\ b≠p.blk) a (f x)/\ ∀ e∈es.toList,∀ b,Dh a=some b -> Dh e.val=some b -> e.key= .int .i64 x) -> FT w { p with val:=.tuple #[Value.map (some p.blk),a] } f (some (x,f x,false)) a es Ak:=λa E=>
  ⟨rfl,h.blk,h.own,λe I=>let ⟨k,c,d⟩:=h.key e I;⟨k,c,λ_=>d λL=>y k L⟩,h.no,h.nd,h.apart,h.born,h.stamps,λk L g e=>by cases e;exact E⟩
 rcases rN h r x with ⟨c,d⟩ | ⟨j,e,c,d,l⟩
 ·refine ⟨.slice none 0 0,?_,q _ ⟨.inl ⟨h.no x d,rfl⟩,λe _ b m=>by cases m⟩⟩;have X:=o es.isEmpty;simp only [Bb] at X;simp [Instr.lookup,zG1 v,zI6 h.blk,X,c,z,Result.andThen]
 ·have U:e∈es.toList:=Array.mem_toList_iff.2 (zM6 d);obtain ⟨k,s,A⟩:=h.key e U;have:k=x:=by rw [s] at l;cases l;rfl
  subst this;refine ⟨e.val,?_,q _ ⟨A λL=>y k L,λQ O b m B=>(h.apart Q O e U b B m).trans l⟩⟩;have X:=o es.isEmpty;simp only [Bb] at X;simp [Instr.lookup,zG1 v,zI6 h.blk,X,c,Result.andThen]
variable {ys L:Ξ}{z:Value}{i:TypeInfo}{e ty:TypeId}
def og {F:Ψ}(A:Ig w F u L){t:TypeId}(h:P.underlying t=some (.slice e))(hi:P.info? e=some i)(k:i.zero=some z)(a:i.size=1)(C:z.cells.size=i.size)(T:i.bytes<=128) 
 {m:Value}  (hy:Src P i.size t m ys.length (ys.map (Value.int .i64)) w) (B:0<ys.length) (c:L.length+ys.length<=Ay):
 ∃ w' q g,(Builtin.append_ #[t,t] ty #[u,m]).run P w= .ok (.slice (some ⟨q.blk,q.off,none⟩) (L++ys).length g) w'/\ (L++ys).length<=g/\ q.off+g<=q.room/\ AQ (λb=>Dh u=some b) w w'/\ (Dh u=some q.blk∨w.heap.size<=q.blk)/\ AX w' q (L++ys).length (λj v=>v= .int .i64 ((L++ys).getD j 0)):=by
 have n:(L++ys).length=L.length+ys.length:=zGi;rcases A with ⟨rfl,rfl⟩ | ⟨q,cap,rfl,D,E,h3,h4,o⟩
 ·obtain ⟨w',g,l,d,cs,rfl,r,y⟩:=lu none (ty:=ty) h hi k C T hy B (by unfold Ay at c;simp at c;omega);rw [a,zIb] at r;refine ⟨_,E1 w cs.size,g,by simpa [E1] using l,by simpa using d,by simp [E1,r],AQ.ofExt ((A0.toDrew w).allocR _),.inr (zGd _),PG rfl (by simp;omega) λj hj=>?_⟩
  grind
 ·obtain ⟨w',f,g,l,d,p,r,y,s⟩:=lq (ty:=ty) (R:=λj v=>v= .int .i64 (L.getD j 0)) (cap:=cap) h hi k (by omega) C T (by rw [a,zIb];exact o) D (by rw [a,zIb];exact E) hy (by unfold Ay at c;omega);rw [a,zIb] at p;have x:q.foot=(λb=>b=q.blk):=o.1;have hR:=iR (P:=P) (M:=λ_=>False) (ρ':=[]) a s;refine ⟨w',f,g,by rw [n];exact l,by rw [n];exact d,p,r.mono λb _ c=>by rw [x] at c;rw [show b=q.blk from c];rfl,?_,hR⟩;have G:=s.1;rcases y f.blk (by rw [G]) with e | e
  ·rw [x] at e;exact .inl (by rw [show f.blk=q.blk from e];rfl)
  ·exact .inr e
variable {g:Bool}{x:Int}
def zDz (h:FT w p f B6 u es Ak)(D:B6=some (x,L,g))(o: ∀ b,p.foot b -> EF w b){t:TypeId}(E:P.underlying t=some (.slice e))(hi:P.info? e=some i)(F:i.zero=some z)(G:i.size=1)(H:z.cells.size=i.size)(T:i.bytes<=128) 
 {r:Value}  (hy:Src P i.size t r ys.length (ys.map (Value.int .i64)) w) (J:0<ys.length) (c:L.length+ys.length<=Ay):
 ∃ w' s p',(Builtin.append_ #[t,t] ty #[u,r]).run P w= .ok s w'/\ AQ p.foot w w'/\ (∀ b,p'.foot b -> (p.foot b∨w.heap.size<=b)/\ EF w' b)/\ FT w' p' f (some (x,L++ys,true)) s es Ak/\ p'.blk=p.blk:=by
 obtain ⟨v,N⟩:=h.inHand x L g D;have Aj:(L++ys).length=L.length+ys.length:=zGi;have O:=og (ty:=ty) v E hi F G H T hy J c;obtain ⟨w',q,y,R,S,U,A,r5,B⟩:=O;have d: ∀ b,Dh u=some b -> (p.foot b/\ b≠p.blk)/\ b<w.heap.size:=λb c=>v.blk c
 have keep: ∀ b,b<w.heap.size -> Dh u≠some b -> w'.heap[b]? =w.heap[b]? :=λb c j=>A.block b c j
 have l:Dh u≠some p.blk:=λe=>(d _ e).1.2 rfl
 have V:p.blk<w.heap.size:=(zGS.1 h.blk).1;have W:q.blk≠p.blk:=λe=>r5.elim (λQ=>l (by rw [←e];exact Q)) (λQ=>by omega)
 refine ⟨w',_,⟨p.blk,p.off,p.room,.tuple #[Value.map (some p.blk),.slice (some ⟨q.blk,q.off,none⟩) (L++ys).length y],λb=>(p.foot b/\ Dh u≠some b)∨b=q.blk⟩,R,A.mono λb _ c=>(d b c).1.1,λb c=>?_,?_,rfl⟩
 ·rcases c with ⟨g1,g2⟩ | g1
  ·grind
  ·obtain ⟨_,cs,tt,g,_⟩:=B;subst g1;exact ⟨r5.imp (λe=>(d _ e).1.1) id,.cells g⟩
 ·have K: ∀ Q∈es.toList,∀ k,Q.key= .int .i64 k -> k≠x -> Ig w (λb=>p.foot b/\ b≠p.blk) Q.val (f k):=λQ I k hk Ss=>by
   obtain ⟨m,a,h2⟩:=h.key Q I
   grind
  refine ⟨rfl,(keep _ V l).trans h.blk,.inl ⟨h.own,l⟩,λQ I=>?_,h.no,h.nd,h.apart,h.born,h.stamps,λk L' g' Q=>?_⟩
  ·obtain ⟨k,a,_⟩:=h.key Q I;refine ⟨k,a,λj=>?_⟩;have hk:k≠x:=λe=>by subst e;exact j _ rfl
   have C: ∀ b,Dh Q.val=some b -> Dh u≠some b:=λb c n=>hk (by grind)
   exact (K Q I k a hk).out (λb M c o=>keep b o (C b c)) λb M c=>⟨.inl ⟨M.1,C b c⟩,M.2⟩
  ·cases Q;refine ⟨.inr ⟨q,y,rfl,S,U,by unfold LB;unfold Ay at c;omega,⟨.inr rfl,W⟩,B⟩,λQ I b c n=>?_⟩;cases c;rcases r5 with r5 | r5
   ·exact N Q I _ r5 n
   ·obtain ⟨m,a,_⟩:=h.key Q I
    by_cases hk:m=x
    ·subst hk;exact a
    ·exact absurd ((K Q I m a hk).blk n).2 (Nat.not_lt.2 r5)
def zDx (h:FT w p f B6 u es Ak)(E:B6=some (x,L,g)){t q F:TypeId}(z:P.underlying t=some (.map q F))(hk:He P q=some 1):
 ∃ w' a i,(Instr.mapUpdate t (.map (some p.blk)) (.int .i64 x) u).run P w= .ok () w'/\ AQ (λb=>b=p.blk) w w'/\ FT w' p (IE f x L) none u a i:=by
 have G:P.underlying q=some (.int .i64):=by
  grind [SW]
 have s:=SV (w:=w) hk (x:=[x]) rfl false;simp only [Bb] at s;obtain ⟨H,hd⟩:=h.inHand x L g E;have J:p.blk<w.heap.size:=(zGS.1 h.blk).1
 have A: ∀ (a:Array MapEntry) (i:Nat),(∀ e∈a.toList,(e.key= .int .i64 x/\ e.val=u)∨(e∈es.toList/\ e.key≠.int .i64 x)) -> (∃ e∈a.toList,e.key= .int .i64 x) -> (∀ e∈es.toList,e.key≠.int .i64 x -> e∈a.toList) -> MapKept.Stamped a i ->
  FT { w with heap:=w.heap.setIfInBounds p.blk (.map a i) } p (IE f x L) none u a i:=λa i Y m2 m3 st=>by
  have stay: ∀ b,b≠p.blk -> (w.heap.setIfInBounds p.blk (.map a i))[b]? =w.heap[b]? :=λb v=>by simp [Ne.symm v]
  have K: ∀ Q∈es.toList,∀ k,Q.key= .int .i64 k -> k≠x -> Ig w (λb=>p.foot b/\ b≠p.blk) Q.val (f k):=λQ I k hk r=>by
   obtain ⟨k',c,l⟩:=h.key Q I
   grind
  refine ⟨h.val,by simp [J],h.own,λe I=>?_,λk B=>?_,st.2.2,λe I Q O b v N=>?_,st.1,st.2.1,λk L' g' e=>by cases e⟩
  ·rcases Y e I with ⟨U,n⟩ | ⟨U,n⟩
   ·refine ⟨x,U,λ_=>?_⟩;rw [n];unfold IE;rw [zEd rfl];exact H.out (λb M _ _=>stay b M.2) λ_ h _=>h
   ·obtain ⟨k,c,_⟩:=h.key e U;have r:k≠x:=λQ=>n (by rw [c,Q])
    refine ⟨k,c,λ_=>?_⟩;unfold IE;rw [zGW r];exact (K e U k c r).out (λb M _ _=>stay b M.2) λ_ h _=>h
  ·have r:k≠x:=λe=>by grind
   unfold IE;rw [zGW r];refine h.no k λe I hk2=>?_
   grind
  ·rcases Y e I with ⟨U,n⟩ | ⟨U,n⟩
   ·grind
   ·rcases Y Q O with ⟨C,R⟩ | ⟨C,R⟩
    ·grind
    ·exact h.apart e U Q C b v N
 have st:MapKept.Stamped es Ak:=⟨h.born,h.stamps,h.nd⟩;rcases rN h G x with ⟨c,l⟩ | ⟨j,e,c,l,D⟩
 ·refine ⟨_,es.push { key:=.int .i64 x,val:=u,born:=Ak },Ak+1,?_,UJ _,A _ _ (λe I=>?_) ⟨{ key:=.int .i64 x,val:=u,born:=Ak },by simp,rfl⟩ (λe I _=>by simp [Array.mem_toList_iff.1 I]) (MapKept.stamped_push st l)⟩
  ·simp [Instr.mapUpdate,zG1 z,zI6 h.blk,s,c,zMw _ h.blk,Result.andThen]
  grind
 ·have S:((es[j]?).map (·.key)).getD (.int .i64 x)= .int .i64 x:=by rw [l];exact D
  have hst:=MapKept.run_keyThatStays (P:=P) (w:=w) (d:=.int .i64) (k:=.int .i64 x) (by trivial);have hj:j<es.size:=(zGS.1 l).1
  have inj: ∀ (m:Nat) (Q:MapEntry),es[m]? =some Q -> Q.key= .int .i64 x -> m=j:=λm Q o B=>by
   have T:m<es.size:=(zGS.1 o).1;have V:(es.toList.map (·.key))[m]? =some (.int .i64 x):=by simp [o,B]
   have W:(es.toList.map (·.key))[j]? =some (.int .i64 x):=by simp [l,D]
   exact (List.getElem?_inj (by simpa using T) h.nd).1 (V.trans W.symm)
  have get: ∀ (m:Nat),(es.modify j λe=>{ e with key:=.int .i64 x,val:=u })[m]? =if j=m then (es[m]?).map (λe=>{ e with key:=.int .i64 x,val:=u }) else es[m]? :=λm=>zM7
  refine ⟨_,es.modify j λe=>{ e with key:=.int .i64 x,val:=u },Ak,?_,UJ _,A _ _ (λX y=>?_) ⟨{ e with key:=.int .i64 x,val:=u },?_,rfl⟩ (λX y AY=>?_) (MapKept.stamped_modify st _ _ (λ_ _=>rfl) λQ _ O=>by grind)⟩
  ·simp [Instr.mapUpdate,zG1 z,zI6 h.blk,s,c,S,hst,zMw _ h.blk,Result.andThen]
  ·obtain ⟨m,o⟩:=List.mem_iff_getElem?.1 y
   grind
  ·grind
  ·obtain ⟨m,o⟩:=List.mem_iff_getElem?.1 y
   grind
def zEk (R:AS P Γ N S ρ a w){off n:Nat}{xs:Ξ}(J:S.h[j]? =some (some (.ints xs)))(E:AL (MS N S.h ρ) w (.mse j 1 off n) ρ v)(hn:off+n=xs.length){t:TypeId}(m:P.underlying t=some (.slice e))(hi:P.info? e=some i)(o:i.zero=some z)(f:i.size=1)(C:z.cells.size=i.size)(T:i.bytes<=128) 
 {k:Value}  (hy:Src P i.size t k ys.length (ys.map (Value.int .i64)) w) (F:0<ys.length) (d:n+ys.length<=Ay):
 ∃ u w' p' g,v=u/\ (Builtin.append_ #[t,t] ty #[u,k]).run P w= .ok (.slice (some ⟨p'.blk,p'.off,none⟩) (n+ys.length) g) w'/\ n+ys.length<=g/\ p'.off+g<=p'.room/\ (∃ p,ρ[j]? =some p/\ AQ p.foot w w'/\ ∀ b,p'.foot b -> (p.foot b∨w.heap.size<=b)/\ EF w' b)/\
  (∀ {M ρ'},EE P M w' ρ' p' (.ints (xs.drop off++ys)))/\ True:=by
 obtain ⟨p,s,cap,x,rfl,G,h2,H⟩:=E;obtain ⟨p2,I,K⟩:=R.hr.obj j _ J;have:p2=p:=zGT (I.symm.trans x);subst this;have Q:(xs.drop off).length=n:=by simp;omega
 have L: ∃ w' p' g,(Builtin.append_ #[t,t] ty #[.slice s n cap,k]).run P w= .ok (.slice (some ⟨p'.blk,p'.off,none⟩) (n+ys.length) g) w'/\ n+ys.length<=g/\ p'.off+g*i.size<=p'.room/\ AQ p2.foot w w'/\ (∀ b,p'.foot b -> p2.foot b∨w.heap.size<=b)/\ AX w' p' ((n+ys.length)*i.size) (JY (n*i.size) (λj u=>u= .int .i64 ((xs.drop off).getD j 0)) (ys.map (Value.int .i64))):=by
  by_cases O:cap=0
  ·subst O;have U:n=0:=by omega
   subst U;obtain ⟨w',g,l,y,cs,rfl,r,A⟩:=lu s (ty:=ty) m hi o C T hy F (by unfold Ay at d;omega);refine ⟨_,E1 w cs.size,g,by simpa [E1] using l,by omega,by simp [E1,r],AQ.ofExt ((A0.toDrew w).allocR _),λb d=>.inr (Nat.le_of_eq (Eq.symm d)),PG rfl ?_ λj V=>?_⟩
   ·grind
   simp_all [JY]
  ·obtain ⟨rfl,W⟩:=H (by omega);obtain ⟨X,cs,q,Y,c3,Z,c5⟩:=K
   exact lq (ty:=ty) (p:={ p2 with off:=p2.off+off*1 }) (cap:=cap) m hi o (by omega) C T (R:=λj u=>u= .int .i64 ((xs.drop off).getD j 0)) (by
    refine ⟨X,cs,q,Y,?_,Z,λj V=>?_⟩
    ·grind
    grind) G (by rw [f];simpa using W) hy (by unfold Ay at d;omega)
 obtain ⟨w',p',g,l,y,B,r,A,D⟩:=L;rw [f,zIb] at B;refine ⟨_,w',p',g,rfl,l,y,B,⟨p2,x,r,λb d=>⟨A b d,?_⟩⟩,λ{M ρ'}=>iR (xs:=xs.drop off) (ys:=ys) f (by rw [Q];exact D),trivial⟩;obtain ⟨e1,cs,q,e2,_⟩:=D;rw [e1] at d;exact .cells (c:=cs) (t:=q) (z:=(0,0)) (by rw [show b=p'.blk from d];exact e2)
variable {vs:List Prop}{S':St}{o:Oper}
theorem zCJ (R:AS P Γ N S ρ a w)(h:U7 P S o=some (S',vs))(Y:Bq vs):
 BO P (execOp a.eval o) w (λv w'=>∃ ρ',AS P Γ N S' ρ' (a.put o.dst v) w'/\ DI S.h ρ w S'.h ρ' w'):=by
 unfold U7 at h;split at h
 ·rename_i t q;split at h
  ·rename_i r W;cases h;refine BO.value (s:=Instr.makeMap t none) (by unfold execOp;rw [q];rfl) (v:=.map (some w.heap.size)) (w':=w.alloc (.map #[] 0)) (by simp [Instr.makeMap,newObj];rfl) ?_;have G:=We (ob:=.map #[] 0) (o:=.mo (.rows (λ_=>[]) none)) (d:=.mri S.h.length 0) (v:=.map (some w.heap.size)) (pl:=⟨w.heap.size,0,0,.tuple #[.map (some w.heap.size),undef],λb=>b=w.heap.size⟩) R.hr rfl rfl (λM ρ'=>⟨undef,#[],0,rfl,zMc w _,rfl,λe I=>absurd I (by simp),λ_ _=>rfl,by simp,λe I=>absurd I (by simp),λe I=>absurd I (by simp),by simp,λk L g e=>by cases e⟩) (λM ρ' l=>⟨_,_,l,rfl,rfl⟩) true;exact OM R o.dst G λ_ _ h=>h
  ·cases h
 ·rename_i t m k q;split at h
  ·rename_i r W;obtain ⟨kt,et⟩:=r;obtain ⟨A,hk,H⟩:=px W;have K:=BV R m;have O:=BV R k;split at h
   ·rename_i j x Z hK;split at h
    ·rename_i f B6 J;split at h
     ·rename_i hh;cases h;rw [Z] at K;rw [hK] at O;obtain ⟨p,u,es,Ak,l,C,Q⟩:=Zl R J K;have em:a.eval m= .map (some p.blk):=by simpa using Q.symm
      have ek:a.eval k= .int .i64 x:=O;obtain ⟨u',E,B⟩:=zDy C (λk L e=>by subst e;simp at hh) A hk (H w) x;refine BO.value (s:=Instr.lookup t (a.eval m) (a.eval k) false) (by unfold execOp;rw [q]) (by rw [em,ek];exact E) ?_;exact pp (p':={ p with val:=.tuple #[Value.map (some p.blk),u'] }) R J l C (AQ.refl _ _) (λb D=>⟨.inl D,(R.hr.cel j _ p b J l D).2.2⟩) B rfl o.dst
     ·cases h
    ·cases h
   ·cases h
  ·cases h
 ·rename_i t m k y q;split at h
  ·rename_i r W;obtain ⟨kt,et⟩:=r;obtain ⟨A,hk,H⟩:=px W;have K:=BV R m;have O:=BV R k;have T:=BV R y;split at h
   ·rename_i j x j' Z hK U;split at h
    ·rename_i f x' L g J;split at h
     ·rename_i hj;cases h;subst hj;have hx:x'=x:=Y.1;subst hx;rw [Z] at K;rw [hK] at O;rw [U] at T;obtain ⟨p,u,es,Ak,l,C,Q⟩:=Zl R J K;obtain ⟨p2,u2,es2,clock2,QH,hA2,zGZ⟩:=Zl R J T;have:p2=p:=zGT (QH.symm.trans l);subst this;have eu:u2=u:=by have:=hA2.val.symm.trans C.val;simp at this;exact this
      have em:a.eval m= .map (some p2.blk):=by simpa using Q.symm
      have ek:a.eval k= .int .i64 x':=O;have ey:a.eval y=u:=by rw [←eu];simpa using zGZ.symm
      obtain ⟨w',En,Fg,E,B,F⟩:=zDx C rfl A hk;refine BO.skip (s:=Instr.mapUpdate t (a.eval m) (a.eval k) (a.eval y)) (by unfold execOp;rw [q]) (w':=w') (by rw [em,ek,ey];exact E) ?_;have Nv:AQ p2.foot w w':=B.mono λb _ D=>by rw [show b=p2.blk from D];exact C.own
      have hl: ∀ b,p2.foot b -> EF w' b:=λb D=>by
       by_cases e:b=p2.blk
       ·rw [e];exact F.lies
       ·obtain ⟨c,t1,t2,V⟩:=(R.hr.cel _ _ p2 b J l D).2.2;exact ⟨c,t1,t2,(B.block b (zGS.1 V).1 e).trans V⟩
      have G:CC P Γ N S.h ρ w false RL (S.h.set j' (some (.mo (.rows (IE f x' L) none)))) undef w':=⟨⟨ρ,R.hr.write J l Nv hl ⟨u,En,Fg,F⟩,Xz,A3.write J l Nv,λ_ _ h=>h⟩,λh=>by cases h⟩;exact OM R o.dst G λ_ _ h=>h
     ·cases h
    ·cases h
   ·cases h
  ·cases h
 ·rename_i c q;split at h
  ·rename_i V;split at h
   ·rename_i x y ha;split at h
    ·rename_i t t' ht;split at h
     ·rename_i e;subst e;split at h
      ·rename_i e i z hk;obtain ⟨A,hi,H,h0,C6,Fc,_⟩:=Wy hk;have X:i.size=1:=Fc.symm;split at h
       ·cases h
       ·rename_i Eb;have rx:=BV R x;have T:=BV R y;split at h
        ·rename_i j off n ys vy hX U;split at h
         ·rename_i xs J;cases h;obtain ⟨v1,v2,v3,v4,_⟩:=Y;rw [hX] at rx;obtain ⟨ad,w',p',B9,e0,E,B,F,g4,g5,_⟩:=zEk (ty:=o.type) R J rx v3 A hi H X C6 (by omega) (by rw [X];exact Vy R A T U v1) v2 v4;refine BO.value (OT q V ha ht) (by rw [e0];exact E) ?_;obtain ⟨p,l⟩:=g4;obtain ⟨q1,q2⟩:=R.hr.regrow (o':=.ints (xs.drop off++ys)) J l.1 l.2.1 l.2.2 g5
          have G:CC P Γ N S.h ρ w false (.mse S.h.length 1 0 (n+ys.length)) (S.h.set j none++[some (.ints (xs.drop off++ys))]) (.slice (some ⟨p'.blk,p'.off,none⟩) (n+ys.length) B9) w':=
           ⟨⟨ρ++[p'],q1,⟨p',_,B9,by rw [←R.hr.len];simp,rfl,B,by unfold LB;unfold Ay at v4;omega,λ_=>⟨by simp,by simpa using F⟩⟩,q2,λ_ _ h=>Em h⟩,λh=>by cases h⟩
          exact OM R o.dst G λ_ _ h=>h
         ·cases h
        ·rename_i j ys vy hX U;split at h
         ·rename_i f x' L g J;cases h;obtain ⟨v1,v2,v3,_⟩:=Y;rw [hX] at rx;obtain ⟨p,u,es,Ak,l,C,Q⟩:=Zl R J rx;have ex:a.eval x=u:=by simpa using Q.symm
          obtain ⟨w',u',p',E,B,F,g4,g5⟩:=zDz (ty:=o.type) C rfl (λb D=>(R.hr.cel j _ p b J l D).2.2) A hi H X C6 (by omega) (by rw [X];exact Vy R A T U v1) v2 v3;refine BO.value (OT q V ha ht) (by rw [ex];exact E) ?_;exact pp R J l C B F g4 g5 o.dst
         ·cases h
        ·cases h
      ·cases h
     ·cases h
    ·cases h
   ·cases h
  ·cases h
 ·cases h
def YF (P:Program)(S:St)(o:Oper):Option (St×List Prop):=match d5 P S o with
 | some r=>some r
 | none=>U7 P S o
def oH (R:AS P Γ N S ρ a w)(h:YF P S o=some (S',vs))(hv:Bq vs):
 BO P (execOp a.eval o) w (λv w'=>(∃ ρ',AS P Γ N S' ρ' (a.put o.dst v) w'/\ DI S.h ρ w S'.h ρ' w')/\ ((∀ t x y,o.op≠.store t x y)∨∃ k i p t x y,o.op= .store t x y/\ AZ S.fr x= .mp k 1 i 0/\ ρ[k]? =some p/\ AQ p.foot w w')):=by
 have wk: ∀ {G Y:Value -> World -> Prop},(∀ v w',G v w' -> Y v w') -> BO P (execOp a.eval o) w G -> BO P (execOp a.eval o) w Y:=λj D=>by
  rcases D with ⟨v,w',b,c⟩ | ⟨w',b,c⟩ | ⟨f,args,w',b,c⟩
  ·exact .inl ⟨v,w',b,j _ _ c⟩
  ·exact .inr (.inl ⟨w',b,j _ _ c⟩)
  ·exact .inr (.inr ⟨f,args,w',b,c.mono λe CW ⟨v,d,z⟩=>⟨v,d,j _ _ z⟩⟩)
 grind [YF,zE,zCK,zCJ]
end
end
def fE (P:Program)(t:TypeId):Option (TypeId×TypeInfo):=match P.underlying t with
 | some (.slice e)=>match P.info? e with
  | some i=>match i.zero with
   | some (.slice none 0 0)=>if i.size=1/\ i.bytes<=128 then some (e,i) else none
   | _=>none
  | none=>none
 | _=>none
def zBf {P:Program}{t e:TypeId}{i:TypeInfo}(h:fE P t=some (e,i)):P.underlying t=some (.slice e)/\ P.info? e=some i/\ i.zero=some (.slice none 0 0)/\ i.size=1/\ i.bytes<=128:=by
 grind [fE]
def SO (j q:Nat):DV -> DV
 | .msl k m o n=>if k=j then .msl q m o n else .msl k m o n
 | .mp k m i c=>if k=j then .mp q m i c else .mp k m i c
 | .mri k i=>if k=j then .any else .mri k i
 | d=>d
def Yp (P:Program)(S:St)(A:List (Nat×Fz))(o:Oper):Option (St×List Prop×List (Nat×Fz)):=match o.op with
 | .makeSlice t x y=>match A with
  | (d,.rws)::rest=>if o.dst=some d then match fE P t with
   | some _=>match AZ S.fr x,AZ S.fr y with
    | .int _ m,.int _ Z=>some (⟨Co S.fr o.dst (.msl S.h.length 1 0 m.toNat),S.h++[some (.mo (.rws (List.replicate m.toNat []) none))]⟩,[Z=m/\ 0<=m/\ m<=1000000000000],rest)
    | _,_=>none
   | none=>none
   else none
  | _=>none
 | .call c=>match c.callee with
  | .builtin .append=>match c.args.toList with
   | [x,y]=>match c.argTypes.toList with
    | [t,O]=>if t=O then match Li P t with
     | some (.ints,_,i,_)=>if 128<i.bytes then none else match AZ S.fr x,MP S (AZ S.fr y) with
      | .mri j (r+1),some (ys,a)=>match S.h[j]? with
       | some (some (.mo (.rws ls none)))=>some (⟨Co (S.fr.map (SO j S.h.length)) o.dst (.mri S.h.length 0),S.h.set j none++[some (.mo (.rws ls (some (r,ls.getD r default++ys))))]⟩,[a,0<ys.length,r<ls.length,(ls.getD r default).length+ys.length<=Ay],A)
       | _=>none
      | _,_=>none
     | _=>none
     else none
    | _=>none
   | _=>none
  | _=>none
 | .store t x y=>match o.dst with
  | none=>match AZ S.fr x,AZ S.fr y with
   | .mp j 1 r 0,.mri X 0=>match S.h[j]? with
    | some (some (.mo (.rws ls (some (V,L)))))=>if X=j/\ (P.info? t).any (λi=>i.size==1)=true then some (⟨S.fr.map (SO j S.h.length),S.h.set j none++[some (.mo (.rws (ls.set r L) none))]⟩,[V=r,r<ls.length],A) else none
    | _=>none
   | _,_=>none
  | some _=>none
 | _=>none
section
variable {P:Program} {Γ:Av} {N:Ψ} {S:St} {ρ:List AI} {a:Act} {w w':World} {p p':AI} {ls Vr:List Ξ} {B6 KQ:Option (Nat×Ξ)} {vs Bz:Array Value}
variable {v:Value}{j:Nat}
def pR (R:AS P Γ N S ρ a w){i:Nat}(hk:S.h[j]? =some (some (.mo (.rws ls B6))))(b:AL (MS N S.h ρ) w (.mri j i) ρ v): ∃ p vs,ρ[j]? =some p/\ Lm w p ls B6 vs/\ vs[i]? =some v:=by
 obtain ⟨p,vs,g,B,Dn⟩:=b;obtain ⟨p',c,Bz,d⟩:=R.hr.obj j _ hk;have:p'=p:=zGT (c.symm.trans g);subst this;have:Bz=vs:=by have:=d.val.symm.trans B;cases this;rfl
 grind
def pQ (R:AS P Γ N S ρ a w)(u:S.h[j]? =some (some (.mo (.rws ls B6))))(f:ρ[j]? =some p)(x:AQ p.foot w w')(C: ∀ b,p'.foot b -> (p.foot b∨w.heap.size<=b)/\ EF w' b)(D:Lm w' p' Vr KQ Bz) 
 (y:p'.blk=p.blk) (z:p'.off=p.off) (Q:p'.room=p.room) (dst:Option Nat) {d:DV}  (r: ∀ M ρ',ρ'[S.h.length]? =some p' -> AL M w' d ρ' v):
 ∃ ρ',AS P Γ N ⟨Co (S.fr.map (SO j S.h.length)) dst d,S.h.set j none++[some (.mo (.rws Vr KQ))]⟩ ρ' (a.put dst v) w'/\ DI S.h ρ w (S.h.set j none++[some (.mo (.rws Vr KQ))]) ρ' w':=by
 obtain ⟨E,B⟩:=R.hr.regrow (o':=.mo (.rws Vr KQ)) u f x C ⟨Bz,D⟩;have A: ∀ (k:Nat) (q:AI),ρ[k]? =some q -> (ρ++[p'])[k]? =some q:=λk q hk=>Em hk
 have O:BP (MS N S.h ρ) w ρ (MS N (S.h.set j none++[some (.mo (.rws Vr KQ))]) (ρ++[p'])) w' (ρ++[p']):=
  ⟨λb l F _=>x.block b l λG=>F (.inr ⟨j,_,p,u,f,G⟩),λb l=>l.elim (λh=>.inl (.inl h)) (λh=>(B.grow b h).imp .inr id),A⟩
 have L:(ρ++[p'])[S.h.length]? =some p':=by rw [←R.hr.len];simp
 have H:=(R.fr.out O).map (g:=SO j S.h.length) (λd v r=>by
  unfold SO;split
  ·rename_i k m o n;split
   ·rename_i e;subst e;obtain ⟨q,cap,s,t,I,J,K⟩:=r;have:q=p:=zGT (s.symm.trans (A _ _ f));subst this;exact ⟨p',cap,L,by rw [y,z];exact t,I,J,by rw [z,Q];exact K⟩
   ·exact r
  ·rename_i k m i c;split
   ·rename_i e;subst e;obtain ⟨q,s,t⟩:=r;have:q=p:=zGT (s.symm.trans (A _ _ f));subst this;exact ⟨p',L,by rw [y,z];exact t⟩
   ·exact r
  ·split
   ·trivial
   ·exact r
  ·exact r)
 exact ⟨ρ++[p'],HN (S:=⟨S.fr.map (SO j S.h.length),_⟩) ⟨E,H⟩ dst (r _ _ L),B,A⟩
variable {t:TypeId}{r:Nat}
def zBe (h:Lm w p ls none vs)(o:r<ls.length)(s: ∀ b,p.foot b -> EF w b){e ty:TypeId}{i:TypeInfo}{z:Value}(I:P.underlying t=some (.slice e))(hi:P.info? e=some i)(J:i.zero=some z)(K:i.size=1)(N:z.cells.size=i.size)(T:i.bytes<=128) 
  {ys:Ξ} (hy:Src P i.size t v ys.length (ys.map (Value.int .i64)) w) (O:0<ys.length) (c:(ls.getD r default).length+ys.length<=Ay):
 ∃ w' x p',(Builtin.append_ #[t,t] ty #[vs.getD (r+1) undef,v]).run P w= .ok x w'/\ AQ p.foot w w'/\ (∀ b,p'.foot b -> (p.foot b∨w.heap.size<=b)/\ EF w' b)/\ Lm w' p' ls (some (r,ls.getD r default++ys)) (vs.setIfInBounds 0 x)/\ p'.blk=p.blk/\ p'.off=p.off/\ p'.room=p.room:=by
 have y:=h.has r o λL e=>by cases e
 obtain ⟨w',q,d,R,S,U,A,r5,B⟩:=og (ty:=ty) y I hi J K N T hy O c
 generalize V:vs.getD (r+1) undef=u at*
 have l: ∀ b,Dh u=some b -> (p.foot b/\ b≠p.blk)/\ b<w.heap.size:=λb c=>y.blk c
 have keep: ∀ b,b<w.heap.size -> Dh u≠some b -> w'.heap[b]? =w.heap[b]? :=λb c W=>A.block b c W
 have m:Dh u≠some p.blk:=λe=>(l _ e).1.2 rfl
 obtain ⟨cs,C,E,Y,X,k4⟩:=h.row;have Z:p.blk<w.heap.size:=(zGS.1 E).1;have jE:q.blk≠p.blk:=λe=>r5.elim (λQ=>m (by rw [←e];exact Q)) (λQ=>by omega)
 have n: ∀ j,(vs.setIfInBounds 0 (.slice (some ⟨q.blk,q.off,none⟩) (ls.getD r default++ys).length d)).getD (j+1) undef=vs.getD (j+1) undef:=λj=>by
  simp_all
 have JJ:(vs.setIfInBounds 0 (.slice (some ⟨q.blk,q.off,none⟩) (ls.getD r default++ys).length d)).getD 0 undef= .slice (some ⟨q.blk,q.off,none⟩) (ls.getD r default++ys).length d:=by
  have:0<vs.size:=by rw [h.size];omega
  simp_all
 have F: ∀ j b,j<ls.length -> j≠r -> Dh (vs.getD (j+1) undef)=some b -> Dh u≠some b:=λj b a D c f=>D (h.apart j r b a o (λL e=>by cases e) (λL e=>by cases e) c (by rw [V];exact f))
 refine ⟨w',_,⟨p.blk,p.off,p.room,.tuple (vs.setIfInBounds 0 (.slice (some ⟨q.blk,q.off,none⟩) (ls.getD r default++ys).length d)),λb=>(p.foot b/\ Dh u≠some b)∨b=q.blk⟩,R,A.mono λb _ c=>(l b c).1.1,λb c=>?_,?_,rfl,rfl,rfl⟩
 ·rcases c with ⟨g1,g2⟩ | g1
  ·grind
  ·obtain ⟨_,cs,C,g,_⟩:=B;subst g1;exact ⟨r5.imp (λe=>(l _ e).1.1) id,.cells g⟩
 ·refine ⟨rfl,by simpa using h.size,⟨cs,C,(keep _ Z m).trans E,Y,X,λj a=>?_⟩,.inl ⟨h.blk,m⟩,λj a hh=>?_,λi j b hi a _ _ G H=>?_,λk L e=>?_⟩
  ·grind
  ·have D:j≠r:=λe=>hh _ (by rw [e])
   rw [n];exact (h.has j a λL e=>by cases e).out (λb M c s=>keep b s (F j b a D c)) λb M c=>⟨.inl ⟨M.1,F j b a D c⟩,M.2⟩
  ·rw [n] at G H;exact h.apart i j b hi a (λL e=>by cases e) (λL e=>by cases e) G H
  ·cases e;rw [JJ];refine ⟨.inr ⟨q,d,rfl,S,U,by grind [LB,Ay],⟨.inr rfl,jE⟩,B⟩,λj b a c f=>?_⟩;cases c;rw [n] at f;rcases r5 with r5 | r5
   ·grind
   ·exact absurd ((h.has j a λL e=>by cases e).blk f).2 (Nat.not_lt.2 r5)
def zBd (h:Lm w p ls B6 vs){L:Ξ}(c:B6=some (r,L))(hr:r<ls.length){y:TypeInfo}(H:P.info? t=some y)(I:y.size=1):
 ∃ w',(Instr.storeAt t (.pointer (some ⟨p.blk,p.off+r,none⟩)) (vs.getD 0 undef)).run P w= .ok () w'/\ AQ (λb=>b=p.blk) w w'/\ Lm w' { p with val:=.tuple (vs.setIfInBounds (r+1) (vs.getD 0 undef)) } (ls.set r L) none (vs.setIfInBounds (r+1) (vs.getD 0 undef))/\ EF w' p.blk:=by
 obtain ⟨d,hd⟩:=h.inHand r L c;obtain ⟨cs,z,B,Y,J,k4⟩:=h.row
 generalize hU:vs.getD 0 undef=u at*
 have l:u.cells= #[u]:=by rcases d with ⟨_,rfl⟩ | ⟨q,cap,rfl,_⟩ <;> rfl
 have WB:r+1<vs.size:=by rw [h.size];omega
 have BT:w.cell? ⟨p.blk,p.off+r,none⟩=some vs[r+1]:=by
  grind [World.cell?]
 have K: ∀ g,w.frozen? ⟨p.blk,g,none⟩=false:=λg=>by unfold World.frozen?;simp [B]
 have f: ∀ j,j≠r -> (vs.setIfInBounds (r+1) u).getD (j+1) undef=vs.getD (j+1) undef:=λj a=>by
  rw [zIH,zIH,Array.getElem?_setIfInBounds_ne (by omega)]
 have N:(vs.setIfInBounds (r+1) u).getD (r+1) undef=u:=by
  simp_all
 obtain ⟨O,n,A,e3⟩:=Sw p.blk z (0,0) [u] (p.off+r) w cs B (by simp;omega);have s:AQ (λb=>b=p.blk) w (w.setCells p.blk (p.off+r) [u]):=RF _ _ _ _
 generalize R:w.setCells p.blk (p.off+r) [u]=W at s n
 have stay: ∀ b,b≠p.blk -> b<w.heap.size -> W.heap[b]? =w.heap[b]? :=λb S m=>s.block b m S
 refine ⟨W,?_,s,?_,.cells n⟩
 ·rw [←R]
  have:=fI (w:=w) (b:=p.blk) (o:=p.off+r) (v:=u) H (by rw [l,I];rfl) (λg bH=>by
   grind) K (λx C=>by
   have:x=u:=by rw [l] at C;simpa using C
   subst this;rcases d with ⟨_,rfl⟩ | ⟨q,cap,rfl,_⟩ <;> rfl)
  rw [l] at this;exact this
 ·have X: ∀ j,j≠r -> (ls.set r L).getD j default=ls.getD j default:=λj a=>by
   grind
  refine ⟨rfl,by simpa using h.size,⟨O,z,n,by simpa [A] using Y,by rw [A];exact J,λj a=>?_⟩,h.blk,λj a _=>?_,λi j b hi a _ _ D E=>?_,λk L e=>by cases e⟩
  ·grind
  ·rw [zGj] at a
   by_cases e:j=r
   ·subst e;rw [N,show (ls.set j L).getD j default=L by simp [zGR,a]];exact d.out (λb M _ m=>stay b M.2 m) λ_ h _=>h
   ·rw [f j e,X j e];exact (h.has j a λL' Q=>by rw [c] at Q;cases Q;exact e rfl).out (λb M _ m=>stay b M.2 m) λ_ h _=>h
  ·rw [zGj] at hi a
   by_cases F:i=r
   ·grind
   ·rw [f i F] at D
    by_cases G:j=r
    ·grind
    ·rw [f j G] at E;exact h.apart i j b hi a (λL' Q=>by rw [c] at Q;cases Q;exact F rfl) (λL' Q=>by rw [c] at Q;cases Q;exact G rfl) D E
def pS (R:AS P Γ N S ρ a w){o:Oper}{S':St}{fz Lb:List (Nat×Fz)}{vc:List Prop}(h:Yp P S fz o=some (S',vc,Lb))(G:Bq vc):
 BO P (execOp a.eval o) w (λv w'=>(∃ ρ',AS P Γ N S' ρ' (a.put o.dst v) w'/\ DI S.h ρ w S'.h ρ' w')/\ ((∀ t x y,o.op≠.store t x y)∨∃ k i p t x y,o.op= .store t x y/\ AZ S.fr x= .mp k 1 i 0/\ ρ[k]? =some p/\ AQ p.foot w w')):=by
 unfold Yp at h;split at h
 ·rename_i t x y f;split at h
  case h_2=>cases h
  rename_i d rest;split at h
  case isFalse=>cases h
  split at h
  case h_2=>cases h
  rename_i r hT;obtain ⟨e,i⟩:=r;split at h
  case h_2=>cases h
  rename_i k1 m k2 Z hx hy;cases h;obtain ⟨⟨rfl,Hh,Hg⟩,_⟩:=G;obtain ⟨B,hi,H,hs,Eb⟩:=zBf hT;have rx:=BV R x;have n:=BV R y;rw [hx] at rx;rw [hy] at n;have K:(madeCells (Value.slice none 0 0).cells (Z.toNat*i.size)).size=Z.toNat:=by rw [size_madeCells,hs,zIb]
  have FM: ∀ j,j<Z.toNat -> (madeCells (Value.slice none 0 0).cells (Z.toNat*i.size))[j]? =some (Value.slice none 0 0):=λj q=>by
   simp [madeCells,hs,q,Value.cells,Nat.mod_one]
  refine BO.value (s:=Instr.makeSlice t (a.eval x) (a.eval y)) (by unfold execOp;rw [f]) (v:=.slice (some ⟨w.heap.size,0,none⟩) Z.toNat Z.toNat) (w':=w.alloc (.cells (madeCells (Value.slice none 0 0).cells (Z.toNat*i.size)) e)) ?_ ?_
  ·rw [show a.eval x=_ from rx,show a.eval y=_ from n];refine run_make w t e i _ B hi H k1 k2 Z Z Hh (zGv _) ?_ (by omega);have:(i.bytes:Int)*Z<=128*1000000000000:=Int.mul_le_mul (by omega) Hg Hh (by omega);omega
  ·generalize hC:madeCells (Value.slice none 0 0).cells (Z.toNat*i.size)=cs at K FM ⊢
   have hg: ∀ j,j<Z.toNat -> (#[undef]++Array.replicate Z.toNat (Value.slice none 0 0)).getD (j+1) undef= .slice none 0 0:=λj q=>by
    simp [zIH,Array.getElem?_append,q]
   refine ⟨OM R o.dst (We (ob:=.cells cs e) (o:=.mo (.rws (List.replicate Z.toNat []) none)) (d:=.msl S.h.length 1 0 Z.toNat) (pl:=⟨w.heap.size,0,cs.size,.tuple (#[undef]++Array.replicate Z.toNat (Value.slice none 0 0)),λb=>b=w.heap.size⟩) R.hr rfl rfl (λM ρ'=>?_) (λM ρ' g=>⟨_,Z.toNat,g,by simp,zGd _,by unfold LB;omega,by simp [K]⟩) true) λ_ _ h=>h,.inl λt x y e=>by rw [f] at e;cases e⟩;refine ⟨#[undef]++Array.replicate Z.toNat (Value.slice none 0 0),rfl,by simp;omega,⟨cs,e,zMc w _,by simp [K],zGd _,λj q=>?_⟩,rfl,λj q _=>.inl ⟨?_,?_⟩,λi j b hi q _ _ h1 h2=>?_,λk L e=>by cases e⟩
   ·grind
   ·grind
   ·grind
   ·rw [zIA] at hi;rw [hg i hi] at h1;cases h1
 ·rename_i c f;split at h
  case h_2=>cases h
  rename_i u;split at h
  case h_2=>cases h
  rename_i x y ha;split at h
  case h_2=>cases h
  rename_i t t' ht;split at h
  case isFalse=>cases h
  rename_i e;subst e;split at h
  case h_2=>cases h
  rename_i e i z hk;obtain ⟨B,hi,H,h0,C6,Fc,_⟩:=Wy hk;have Do:i.size=1:=Fc.symm;split at h
  case isTrue=>cases h
  rename_i Eb;have rx:=BV R x;have n:=BV R y;split at h
  case h_2=>cases h
  rename_i j r ys vy D I;split at h
  case h_2=>cases h
  rename_i ls J;cases h;obtain ⟨v1,O,v3,v4,_⟩:=G;rw [D] at rx;obtain ⟨p,vs,g,C,Q⟩:=pR R J rx;have T:a.eval x=vs.getD (r+1) undef:=by simp [zIH,Q]
  obtain ⟨w',u',p',U,A,V,E,g5,g6,g7⟩:=zBe (ty:=o.type) C v3 (λb l=>(R.hr.cel j _ p b J g l).2.2) B hi H Do C6 (by omega) (by rw [Do];exact Vy R B n I v1) O v4;refine BO.value (OT f u ha ht) (by rw [T];exact U) ?_
  exact ⟨pQ R J g A V E g5 g6 g7 o.dst λM ρ' hq=>⟨p',_,hq,E.val,by
   grind⟩,.inl λt x y e=>by rw [f] at e;cases e⟩
 ·rename_i t x y f;split at h
  case h_2=>cases h
  rename_i jv;split at h
  case h_2=>cases h
  rename_i j r j' D I;split at h
  case h_2=>cases h
  rename_i ls X L J;split at h
  case isFalse=>cases h
  rename_i u;cases h;obtain ⟨rfl,F⟩:=u;obtain ⟨rfl,O,_⟩:=G;have rx:=BV R x;have n:=BV R y;rw [D] at rx;rw [I] at n;obtain ⟨p,vs,g,C,Q⟩:=pR R J n;obtain ⟨p2,QH,T⟩:=rx;have:p2=p:=zGT (QH.symm.trans g);subst this;cases Y:P.info? t with
  | none=>rw [Y] at F;cases F
  | some ti=>
  rw [Y] at F;have ko:a.eval x= .pointer (some ⟨p2.blk,p2.off+X,none⟩):=by rw [T];simp
  have ey:a.eval y=vs.getD 0 undef:=by simp [zIH,Q]
  obtain ⟨W,U,A,V,E⟩:=zBd C rfl O Y (by simpa using F);refine BO.skip (s:=Instr.storeAt t (a.eval x) (a.eval y)) (by unfold execOp;rw [f]) (w':=W) (by rw [ko,ey];exact U) ?_
  have:=pQ (a:=a) (p':={ p2 with val:=.tuple (vs.setIfInBounds (X+1) (vs.getD 0 undef)) }) R J g (A.mono λb _ l=>by rw [show b=p2.blk from l];exact C.blk) (λb l=>⟨.inl l,by
   by_cases e:b=p2.blk
   ·rw [e];exact E
   ·obtain ⟨c,t1,t2,u⟩:=(R.hr.cel _ _ p2 b J g l).2.2;exact ⟨c,t1,t2,(A.block b (zGS.1 u).1 e).trans u⟩⟩) V rfl rfl rfl none (d:=.any) (v:=undef) λ_ _ _=>trivial
  rw [jv];exact ⟨this,.inr ⟨j',X,p2,t,x,y,f,D,g,A.mono λb _ l=>by rw [show b=p2.blk from l];exact C.blk⟩⟩
 ·cases h
end
abbrev zMa:=@Bool.false_or
abbrev zMx:=@Bool.false_ne_true
def ES (P:Program)(Γ:Av)(f:Nat)(ds:List DV)(h:DH)(d:DV)(h':DH)(ext:Bool):Prop:=
 (∃ fn,P.funcs[f]? =some fn/\ fn.name≠ "runtime.NumGoroutine" /\ fn.body.isSome=true)/\
 ∀ (N:Ψ) (ρ:List AI) (w:World) (args:Array Value),Aq P Γ N h ρ w -> BE (MS N h ρ) w ρ ds args ->
  Calls P f args w λe w'=>∃ v,e= .returned v/\ CC P Γ N h ρ w ext d h' v w'
def aS (h h':DH):Bool:=(List.range h.length).all λk=>!(h.getD k none).isSome||(h'.getD k none).isSome
def ESu (P:Program)(Γ:Av)(f:Nat)(ds:List DV)(h:DH)(d:DV)(h':DH)(k:Nat):Prop:=
 (∃ fn,P.funcs[f]? =some fn/\ fn.name≠ "runtime.NumGoroutine" /\ fn.body.isSome=true)/\
 ∀ (N:Ψ) (ρ:List AI) (w:World) (args:Array Value),Aq P Γ N h ρ w -> BE (MS N h ρ) w ρ ds args ->
  Calls P f args w λe w'=>∃ v,e= .returned v/\ CC P Γ N h ρ w false d h' v w'/\ AQ (λb=>∃ i o p,k<=i/\ h[i]? =some (some o)/\ ρ[i]? =some p/\ p.foot b) w w'
structure BQ where
 calls:List (DV×DH×Bool)
 co:List (Nat×DV)
 fz:List (Nat×Fz):=[]
 tg:List (List (Nat×Nat)×St):=[]
def Kj (ops:Array Oper)(S:St)(o:Oper):Option Bool:=match o.guard with
 | none=>some true
 | some (j,R)=>match (ops[j]?).bind (·.dst) with
  | some t=>match S.fr.getD t .any with
   | .bool b=>some (b==R)
   | .tup _ _=>some false
   | _=>none
  | none=>none
def XL (C:List (Nat×DV))(dst:Option Nat)(d:DV):DV×List Prop×List (Nat×DV):=match C with
 | []=>(d,[],[])
 | (t,d')::rest=>match dst with
  | some O=>if O=t then (d',[AN d d'],rest) else (d,[],C)
  | none=>(d,[],C)
def M9 (S:St):Op -> Bool
 | .move _=>true
 | .assign _=>true
 | .pick .. =>true
 | .binOp .shl .. =>false
 | .binOp .shr .. =>false
 | .binOp .quo .. =>false
 | .binOp .rem .. =>false
 | .binOp _ _ _ y _=>match AZ S.fr y with
  | .nils=>false
  | _=>true
 | .unOp .. =>true
 | .convert .. =>true
 | .nilCheck _=>true
 | .fieldAddr .. =>true
 | .extract .. =>true
 | .makeFunc .. =>true
 | .build .. =>true
 | .field .. =>true
 | .call _=>true
 | .load _ x=>match AZ S.fr x with
  | .mp .. =>false
  | _=>true
 | _=>false
def zFu:Op -> Bool
 | .box .. =>true
 | .alloc _=>true
 | .buildSlice .. =>true
 | .makeSlice .. =>true
 | .store .. =>true
 | .makeMap .. =>true
 | .mapUpdate .. =>true
 | .insert .. =>true
 | .lookup .. =>true
 | .range .. =>true
 | .entry _=>true
 | .call c=>match c.callee with
  | .builtin .append=>true
  | .value _=>true
  | _=>false
 | _=>false
def VO (P:Program)(ops:Array Oper)(S:St)(C:List (Nat×DV))(o:Oper):Option (St×List Prop×List (Nat×DV)):=match Kj ops S o with
 | none=>none
 | some false=>some (⟨Co S.fr o.dst RL,S.h⟩,[],C)
 | some true=>match VY P S o.op with
  | none=>none
  | some (d,O)=>match XL C o.dst d with
   | (d',vs,m)=>some (⟨Co S.fr o.dst d',S.h⟩,(if M9 S o.op then vs else O::vs),m)
def VQ (P:Program)(ops:Array Oper):List Oper -> St -> List (Nat×DV) -> Option (St×List Prop×List (Nat×DV))
 | [],S,C=>some (S,[],C)
 | o::rest,S,C=>match VO P ops S C o with
  | none=>none
  | some (S',vs,m)=>match VQ P ops rest S' m with
   | none=>none
   | some (T,Z,a)=>some (T,vs++Z,a)
def Of (P:Program)(Γ:Av)(S:St)(a:List (DV×DH×Bool)):Op -> Option (DV×DH×List Prop×Bool×List (DV×DH×Bool))
 | .box _ x=>match KV (AZ S.fr x) with
  | some l=>some (.ref S.h.length 0,S.h++[some (.cells l)],[],true,a)
  | none=>none
 | .alloc t=>match P.info? t with
  | some i=>match i.zero with
   | some z=>if dQ z then some (.mp S.h.length 1 0 0,S.h++[some (.bools (List.replicate z.cells.size false))],[],true,a)
    else some (.ref S.h.length 0,S.h++[some (.cells (z.cells.toList.map Nj))],[],true,a)
   | none=>none
  | none=>none
 | .buildSlice t len parts=>match Li P t with
  | some (k,_,_,_)=>if cM parts.toList len&&decide (len<=65536/\ k.cells<=64) then match Ti k (parts.toList.map λx=>AZ S.fr x.2) with
   | some ob=>some (.msl S.h.length k.cells 0 len,S.h++[some ob],[],true,a)
   | none=>none
   else none
  | none=>none
 | .makeSlice t x y=>match Z6 P t with
  | some (n,_,_)=>match AZ S.fr x,AZ S.fr y with
   | .int _ m,.int _ Z=>some (.msl S.h.length 1 0 m.toNat,S.h++[some (.mo (.sets n (List.replicate m.toNat none) none))],[Z=m/\ 0<=m/\ m<=1000000000000],true,a)
   | _,_=>none
  | none=>match Li P t with
   | some (k,_,i,z)=>if decide (i.bytes<=128) then match AZ S.fr x,AZ S.fr y with
    | .int _ n,.int _ W=>some (.msl S.h.length k.cells 0 n.toNat,S.h++[some (sI k n.toNat z)],[W=n/\ 0<=n/\ n<=1000000000000],true,a)
    | _,_=>none
    else none
   | none=>none
 | .store t x y=>match O0 P S t (AZ S.fr x) (AZ S.fr y) with
  | some (h',O)=>some (.any,h',[O],false,a)
  | none=>none
 | .call c=>match c.callee with
  | .builtin .append=>match c.args.toList with
   | [x,y]=>match c.argTypes.toList with
    | [t,b]=>if t=b then match To P S t (AZ S.fr x) (AZ S.fr y) with
     | some (d,h',O)=>some (d,h',[O],false,a)
     | none=>none
     else none
    | _=>none
   | _=>none
  | .value f=>match AZ S.fr f,a with
   | .fn g m cap,(d,h',ext)::rest=>some (d,h',[ES P Γ g (c.args.toList.map (AZ S.fr)++(List.range m).map cap) S.h d h' ext],ext,rest)
   | _,_=>none
  | _=>none
 | op=>match gy P S op with
  | some (d,h',vs,ext)=>some (d,h',vs,ext,a)
  | none=>none
def Qs (P:Program)(Γ:Av)(ops:Array Oper)(S:St)(N:BQ)(o:Oper):Option (St×List Prop×Bool×BQ):=match Kj ops S o with
 | none=>none
 | some false=>some (⟨Co S.fr o.dst RL,S.h⟩,[],true,N)
 | some true=>match Yp P S N.fz o with
  | some (S',vs,a)=>some (S',vs,false,⟨N.calls,N.co,a,N.tg⟩)
  | none=>match YF P S o with
  | some (S',vs)=>some (S',vs,false,N)
  | none=>match Of P Γ S N.calls o.op with
   | none=>none
   | some (d,h',vs,ext,m)=>match XL N.co o.dst d with
    | (d',Z,b)=>match Wi N.fz o.dst ⟨Co S.fr o.dst d',h'⟩ with
     | none=>none
     | some (S',s,a)=>some (S',vs++(Z++s),ext,⟨m,b,a,N.tg⟩)
def EN (P:Program)(Γ:Av)(ops:Array Oper):List Oper -> St -> BQ -> Option (St×List Prop×BQ)
 | [],S,N=>some (S,[],N)
 | o::rest,S,N=>match zFu o.op with
  | true=>match Qs P Γ ops S N o with
   | none=>none
   | some (S',vs,_,u)=>match EN P Γ ops rest S' u with
    | none=>none
    | some (T,Z,A)=>some (T,vs++Z,A)
  | false=>match VO P ops S N.co o with
   | none=>none
   | some (S',vs,m)=>match EN P Γ ops rest S' ⟨N.calls,m,N.fz,N.tg⟩ with
    | none=>none
    | some (T,Z,A)=>some (T,vs++Z,A)
def lU (P:Program)(Γ:Av)(a:DH)(ops:Array Oper)(S:St)(N:BQ)(o:Oper):Option (St×List Prop×BQ):=match o.op with
 | .call c=>match c.callee with
  | .value f=>match AZ S.fr f,N.calls with
   | .fn g m cap,(d,h',false)::rest=>match Kj ops S o,aS a S.h with
    | some true,true=>match XL N.co o.dst d with
     | (d',Z,b)=>match Wi N.fz o.dst ⟨Co S.fr o.dst d',h'⟩ with
      | some (S',s,e)=>some (S',ESu P Γ g (c.args.toList.map (AZ S.fr)++(List.range m).map cap) S.h d h' a.length::(Z++s),⟨rest,b,e,N.tg⟩)
      | none=>none
    | _,_=>none
   | _,_=>none
  | _=>none
 | _=>none
def bh (H:Θ)(c h:DH):DH:=match H with
 | []=>c
 | _=>h
def Sc (P:Program)(Γ:Av)(ops:Array Oper):DH -> List (Θ×Nat) -> Θ -> St -> BQ -> Option (St×List Prop×BQ)
 | _,[],u,S,N=>match VQ P ops (CQ ops u) S N.co with
  | none=>none
  | some (S',vs,m)=>some (S',vs,⟨N.calls,m,N.fz,N.tg⟩)
 | hb,(H,i)::g,u,S,N=>match VQ P ops (CQ ops H) S N.co with
  | none=>none
  | some (S',vs,m)=>match ops[i]? with
   | none=>none
   | some o=>match lU P Γ (bh H hb S.h) ops S' ⟨N.calls,m,N.fz,N.tg⟩ o with
    | some (T,Z,a)=>match Sc P Γ ops (bh H hb S.h) g u T a with
     | none=>none
     | some (M,t,C)=>some (M,vs++(Z++t),C)
    | none=>match Qs P Γ ops S' ⟨N.calls,m,N.fz,N.tg⟩ o with
     | none=>none
     | some (T,Z,ext,a)=>match ext with
      | false=>none
      | true=>match Sc P Γ ops (bh H hb S.h) g u T a with
       | none=>none
       | some (M,t,C)=>some (M,vs++(Z++t),C)
def hseq (P:Program)(Γ:Av)(ops:Array Oper)(c:DH)(s:List (Θ×Nat))(u e:Θ)(S:St)(N:BQ):Option (St×List Prop×BQ):=match Sc P Γ ops c s u S N with
 | none=>none
 | some (S',vs,a)=>match EN P Γ ops (CQ ops e) S' a with
  | none=>none
  | some (T,Z,A)=>some (T,vs++Z,A)
section
variable {P:Program} {Γ:Av} {N:Ψ} {S:St} {ρ:List AI} {a:Act} {w:World} {F:Fence}
structure Dv (F:Fence)(P:Program):Prop where
 fn: ∀ f,F.fn f
 dep:F.depth=none
 calls: ∀ {f:FuncId} {args:Array Value} {w:World} {R:Ending -> World -> Prop},Calls P f args w R -> CallsIn F 0 P f args w R
def Dv.wide:Dv Fence.wide P:=⟨λ_=>trivial,rfl,λh=>zNG.2 h⟩
def Dv.round (l:Nat):Dv (Fence.wide.inRound l) P:=⟨λ_=>trivial,rfl,λh=>CallsIn.inRound _ (zNG.2 h)⟩
variable {o:Oper}{ops:Array Oper}
def Io (R:AS P Γ N S ρ a w){r:Bool}(h:Kj ops S o=some r):Region.wanted o (yielded ops a.tmps)=r:=by
 unfold Kj at h;unfold Region.wanted;split at h
 ·rename_i c;rw [c];cases h;rfl
 ·rename_i j mr c;rw [c];split at h
  ·rename_i t e;split at h
   ·rename_i b d;cases h;have i:=R.fr.at t;rw [d] at i;have p:a.tmps.getD t undef= .bool b:=i
    have:a.tmps[t]? =some (.bool b):=by
     rw [zIH] at p;cases g:a.tmps[t]? with
     | none=>rw [g] at p;cases p
     | some u=>rw [g] at p;exact congrArg some p
    simp [yielded,e,this]
   ·rename_i m f d;cases h;have i:=R.fr.at t;rw [d] at i;obtain ⟨cs,p,_⟩:=i
    have:yielded ops a.tmps j=none:=by
     unfold yielded;rw [e]
     show (match a.tmps[t]? with | some (.bool b)=>some b | _=>none)=none
     rw [zIH] at p
     grind
    simp [this]
   ·cases h
  ·cases h
variable {M:Ψ}{d:DV}{C:List (Nat×DV)}
def XK {dst:Option Nat}{d':DV}{vs:List Prop}{m:List (Nat×DV)}(h:XL C dst d=(d',vs,m))(p:Bq vs){v:Value}(i:AL M w d ρ v):AL M w d' ρ v:=by
 unfold XL at h;split at h
 ·cases h;exact i
 ·split at h
  ·split at h
   ·cases h;exact p.1 M w ρ v i
   ·cases h;exact i
  ·cases h;exact i
variable {O:Prop}{b:Op}
theorem qp (h:pop P S b=some (d,O))(a:M9 S b=true):O:=by
 unfold pop at h;split at h
 ·cases h;trivial
 ·cases h;trivial
 ·grind
 ·rename_i t x;simp only [M9] at a;unfold Pj at h
  grind
 ·rename_i b t x y t';unfold dA at h;split at h
  ·grind
  ·grind
  ·rename_i e;simp [M9,e] at a
  ·rename_i e;simp [M9,e] at a
  ·rename_i e;simp [M9,e] at a
  ·cases a
  ·cases a
  ·cases a
  ·cases a
  ·split at h
   ·unfold cz at h
    grind
   ·cases h
  ·cases h
 ·grind
 ·grind
 ·grind
 ·grind
 ·cases a
 ·grind
 ·grind
 ·split at h
  ·unfold cw at h;split at h
   ·split at h
    ·split at h
     ·unfold aI at h
      grind
     ·cases h
    ·cases h
   ·split at h
    ·unfold gu at h
     grind
    ·cases h
   ·split at h
    ·unfold gq at h
     grind
    ·cases h
   ·cases h
  ·cases h
 ·cases h
theorem zKG {S:BinOp}{t:TypeId}{x y:DV}(h:Wv P S t x y=some (d,O)):O:=by
 unfold Wv at h
 grind
def yT (h:VY P S b=some (d,O))(a:M9 S b=true):O:=by
 unfold VY at h;split at h
 ·grind
 ·grind [aH]
 ·cases a
 ·unfold br at h
  repeat' (split at h)
  all_goals grind
 ·cases a
 ·grind [zKG,qp]
 ·exact qp h a
def ZO (R:AS P Γ N S ρ a w){S':St}{vs:List Prop}{m:List (Nat×DV)}(h:VO P ops S C o=some (S',vs,m))(p:Bq vs):
 S'.h=S.h/\ ((Region.wanted o (yielded ops a.tmps)=true/\ ∃ v,(∀ W,Keep N w W -> (execOp a.eval o).run P W= .ok (.value v) W)/\ AS P Γ N S' ρ (a.put o.dst v) w)∨(Region.wanted o (yielded ops a.tmps)=false/\ AS P Γ N S' ρ (a.put o.dst undef) w)):=by
 unfold VO at h;split at h
 ·cases h
 ·rename_i b;cases h;exact ⟨rfl,.inr ⟨Io R b,HN R _ Xz⟩⟩
 ·rename_i b;split at h
  ·cases h
  ·rename_i d O g;split at h;rename_i d' Z vh r;cases h
   have u:O/\ Bq Z:=by
    by_cases c:M9 S o.op=true
    ·rw [zEd c] at p;exact ⟨yT g c,p⟩
    ·rw [zGW c] at p;exact p
   obtain ⟨v,e,s⟩:=zDd R o g u.1;exact ⟨rfl,.inl ⟨Io R b,v,e,HN R _ (XK r u.2 s)⟩⟩
theorem VP {Q:Act -> Prop}: ∀ (l:List Oper) {S:St} {a:Act} {C:List (Nat×DV)} {S':St} {vs:List Prop} {m:List (Nat×DV)},AS P Γ N S ρ a w -> VQ P ops l S C=some (S',vs,m) -> Bq vs ->
 (∀ b,S'.h=S.h -> AS P Γ N S' ρ b w -> b.defers=a.defers -> Q b) -> wpQuiet P ops (λw'=>∃ x:Xj w,w'=x.W) Q l a
 | [],S,a,C,S',vs,m,R,h,_,n=>by
  cases h;exact n a rfl R rfl
 | o::rest,S,a,C,S',vs,m,R,h,p,n=>by
  simp only [VQ] at h;split at h
  ·cases h
  ·rename_i S1 DZ cc j;split at h
   ·cases h
   ·rename_i S2 FU co2 e;cases h;obtain ⟨L,J⟩:=DX.1 p;obtain ⟨f,q⟩:=ZO R j L;unfold wpQuiet;have g: ∀ v,(a.put o.dst v).defers=a.defers:=λv=>by cases ho:o.dst <;> simp [Act.put]
    rcases q with ⟨c,v,r,s⟩ | ⟨c,s⟩
    ·rw [zEd c];refine ⟨v,?_,VP rest s e J λb i k d=>n b (i.trans f) k (d.trans (g v))⟩;rintro W ⟨x,rfl⟩;unfold Oper.quietAt;rw [r x.W (Keep.ofExt x.le)];exact ⟨rfl,rfl⟩
    ·rw [zGW (by rw [c];exact zMx)];exact VP rest s e J λb i k d=>n b (i.trans f) k (d.trans (g undef))
def BE.append {l l':List DV}{t O:Array Value}(h:BE M w ρ l t)(h':BE M w ρ l' O):BE M w ρ (l++l') (t++O):=by
 refine ⟨by simp [h.1,h'.1],λi hi=>?_⟩;rcases zIg i l.length with hl | hl
 ·have:=h.2 i hl;have a:i<t.size:=by rw [←h.1];exact hl
  simp_all [Array.getElem?_append_left]
 ·have G:i-l.length<l'.length:=by simp at hi;omega
  have:=h'.2 _ G;have a:t.size<=i:=by rw [←h.1];exact hl
  simp only [zGR,zIH] at this ⊢;rw [zIB hl,Array.getElem?_append_right a,←h.1];exact this
def zB5 {g:Nat}{args:Array Value}{fn:Func}(d:P.funcs[g]? =some fn)(o:fn.name≠ "runtime.NumGoroutine")(uC:fn.body.isSome=true):(callFunc g args).run P w= .ok (.enter g args) w:=by
 have j:fn.body.isNone=false:=by simp_all
 have p:(fn.name== "runtime.NumGoroutine")=false:=by simpa using o
 unfold callFunc;rw [zG3,show Sem.run P program w= .ok P w from rfl];simp only [Result.andThen,d,p,j,zI1,zNA];rfl
variable {cap:Nat -> DV}{m:Nat}{f:Operand}{c:Call}
def lT (R:AS P Γ N S ρ a w){g:Nat}(o:Oper)(x:o.op= .call c)(l:c.callee= .value f)(M:AZ S.fr f= .fn g m cap) 
 (k: ∀ args W,(callFunc g args).run P W= .ok (.enter g args) W): ∃ args,(execOp a.eval o).run P w= .ok (.enter g args) w/\ BE (MS N S.h ρ) w ρ (c.args.toList.map (AZ S.fr)++(List.range m).map cap) args:=by
 have b:=BV R f;rw [M] at b;obtain ⟨X,p,e,QR⟩:=b;refine ⟨c.args.map a.eval++X,?_,BE.append ⟨by simp,λi hi=>?_⟩ ⟨by simp [e],λi hi=>?_⟩⟩
 ·unfold execOp;rw [x]
  show ((resolve a.eval c o.type)>>=λd=>invoke d.target d.args).run P w=_
  unfold resolve;rw [l];simp only [Deferred.ofValue,p];have I:((pure { target:=.fn (.func g) X,args:=#[]++Array.map a.eval c.args }:Sem Deferred)>>=λd=>invoke d.target d.args).run P w=(callFunc g (#[]++Array.map a.eval c.args++X)).run P w:=rfl;rw [I,k];simp
 ·have G:i<c.args.size:=by simpa using hi
  have:=BV R c.args[i];simp [G,this]
 simp_all
variable {G:Value -> World -> Prop}
def wB (R:AS P Γ N S ρ a w){g:Nat}(o:Oper)(x:o.op= .call c)(l:c.callee= .value f)(M:AZ S.fr f= .fn g m cap) 
 (d: ∃ fn,P.funcs[g]? =some fn/\ fn.name≠ "runtime.NumGoroutine" /\ fn.body.isSome=true) (F: ∀ args,BE (MS N S.h ρ) w ρ (c.args.toList.map (AZ S.fr)++(List.range m).map cap) args -> Calls P g args w λe w'=>∃ v,e= .returned v/\ G v w'):BO P (execOp a.eval o) w G:=
 let ⟨_,b,i,j⟩:=d
 let ⟨args,A,k⟩:=lT R o x l M λ_ _=>zB5 b i j
 .inr (.inr ⟨g,args,w,A,F _ k⟩)
variable {ext:Bool}{h':DH}
def zLa (R:AS P Γ N S ρ a w){g:Nat}(o:Oper)(x:o.op= .call c)(l:c.callee= .value f)(M:AZ S.fr f= .fn g m cap) 
 (F:ES P Γ g (c.args.toList.map (AZ S.fr)++(List.range m).map cap) S.h d h' ext):BO P (execOp a.eval o) w (CC P Γ N S.h ρ w ext d h'):=
 wB R o x l M F.1 λargs D=>F.2 N ρ w args R.hr D
def mJ (R:AS P Γ N S ρ a w){b:List (DV×DH×Bool)}{vs:List Prop}{r:List (DV×DH×Bool)}(h:Of P Γ S b o.op=some (d,h',vs,ext,r))(p:Bq vs):
 BO P (execOp a.eval o) w (CC P Γ N S.h ρ w ext d h'):=by
 unfold Of at h;split at h
 ·grind [zLf]
 ·grind [zMF,zME]
 ·rename_i t len parts j;split at h
  ·rename_i k e i z hk;split at h
   ·rename_i l;simp only [zFW,zH6] at l
    grind [zLd]
   ·cases h
  ·cases h
 ·rename_i t x y j;split at h
  ·rename_i n e i hT;split at h
   ·rename_i B m Y m' s hy;cases h;obtain ⟨⟨rfl,K,L⟩,_⟩:=p
    grind [zEy]
   ·cases h
  split at h
  ·rename_i k e i z hk;split at h
   ·rename_i Eb;split at h
    ·rename_i B n Y n' s hy;cases h;obtain ⟨⟨rfl,K,L⟩,_⟩:=p
     grind [zEx]
    ·cases h
   ·cases h
  ·cases h
 ·rename_i t x y j;split at h
  ·rename_i q O u;cases h;exact oJ R u p.1 o j
  ·cases h
 ·rename_i c j;split at h
  ·rename_i l;split at h
   ·rename_i x y D;split at h
    ·rename_i t t' v;split at h
     ·rename_i e;subst e;split at h
      ·rename_i A q O Q;cases h;exact wm R Q p.1 o j l D v
      ·cases h
     ·cases h
    ·cases h
   ·cases h
  ·rename_i f l;split at h
   ·rename_i g m cap A q ext1 rest M;cases h;exact zLa R o j l M p.1
   ·cases h
  ·cases h
 grind [zEr]
variable {Q:Exit -> Act -> World -> Prop}{K:Act -> World -> Prop}
def Lj (R:Dv F P)(r: ∀ c,o.op≠.defer c)(h:BO P (execOp a.eval o) w G)(j: ∀ v w',G v w' -> K (a.put o.dst v) w'):o.wpIn F 0 P a w K Q:=by
 refine ⟨λf _=>R.fn f,?_⟩;rw [zJC _ _ _ r];rcases h with ⟨v,w',b,d⟩ | ⟨w',b,d⟩ | ⟨f,args,w',b,d⟩
 ·rw [b];exact j v w' d
 ·rw [b];exact j undef w' d
 ·rw [b];refine ⟨λe=>(by rw [R.dep] at e;cases e),(R.calls d).mono ?_⟩
  grind
variable {n:BQ}
def lj (g:Dv F P)(R:AS P Γ N S ρ a w)(r: ∀ c,o.op≠.defer c){S':St}{vs:List Prop}{u:BQ}(h:Qs P Γ ops S n o=some (S',vs,ext,u))(p:Bq vs) 
   (j: ∀ ρ' i w',AS P Γ N S' ρ' i w' -> DI S.h ρ w S'.h ρ' w' -> i.defers=a.defers -> (ext=true -> A0 w w') -> K i w'):
 if Region.wanted o (yielded ops a.tmps) then o.wpIn F 0 P a w K Q else (∀ f,o.about P w a.eval=some f -> F.fn f)/\ K (a.put o.dst undef) w:=by
 have m: ∀ v,(a.put o.dst v).defers=a.defers:=λv=>by cases ho:o.dst <;> simp [Act.put]
 unfold Qs at h;split at h
 ·cases h
 ·rename_i k;cases h;rw [zGW (by rw [Io R k];exact zMx)];exact ⟨λf _=>g.fn f,j ρ _ _ (HN R _ Xz) (DI.refl _ _ _) (m _) λ_=>A0.refl w⟩
 ·rename_i k;rw [zEd (Io R k)];split at h
  ·rename_i q l fz1 X;cases h;exact Lj g r (pS R X p) λv w' ⟨⟨ρ',b,s⟩,_⟩=>j ρ' _ _ b s (m v) λe=>by cases e
  split at h
  ·rename_i q l X;cases h;exact Lj g r (oH R X p) λv w' ⟨⟨ρ',b,s⟩,_⟩=>j ρ' _ _ b s (m v) λe=>by cases e
  split at h
  ·cases h
  ·rename_i d h1 l ext1 calls U;split at h;rename_i d' Bz Ds t;split at h
   ·cases h
   ·rename_i S2 RD Lb A;cases h;obtain ⟨L,B⟩:=DX.1 p;obtain ⟨J,x⟩:=DX.1 B;refine Lj g r (mJ R U L) λv w' G=>?_
    obtain ⟨ρ',b,s⟩:=OM R o.dst G (d':=d') λM ρ' y=>XK t J y
    obtain ⟨z,C⟩:=Wh _ A x P Γ N ρ' _ _ b;exact j ρ' _ _ z (s.trans ⟨C,λ_ _ h=>h⟩) (m v) G.ext
def LZ (b:Dv F P)(x:DE ops=true): ∀ (l:List Oper) (_: ∀ o∈l,o∈ops) {S:St} {ρ:List AI} {a:Act} {w:World} {g:BQ} {S':St} {vs:List Prop} {u:BQ},
 AS P Γ N S ρ a w -> EN P Γ ops l S g=some (S',vs,u) -> Bq vs ->
 (∀ ρ' d w',AS P Γ N S' ρ' d w' -> DI S.h ρ w S'.h ρ' w' -> d.defers=a.defers -> Q .normal d w') -> wpListIn F 0 P ops Q l a w
 | [],_,S,ρ,a,w,g,S',vs,u,R,h,_,n=>by
  cases h;exact n ρ a w R (DI.refl _ _ _) rfl
 | o::rest,t,S,ρ,a,w,g,S',vs,u,R,h,y,n=>by
  have z: ∀ c,o.op≠.defer c:=by
   obtain ⟨j,D,e⟩:=Array.getElem_of_mem (t o (by simp));exact Hw x (j:=j) (by rw [zIq D,e])
  have V: ∀ o∈rest,o∈ops:=λo A=>t o (by simp [A])
  have E: ∀ v,(a.put o.dst v).defers=a.defers:=λv=>by cases A:o.dst <;> simp [Act.put]
  simp only [EN] at h;unfold wpListIn;split at h
  ·split at h
   ·cases h
   ·rename_i B G ext1 Gv i;split at h
    ·cases h
    ·rename_i I M O k;cases h;obtain ⟨L,J⟩:=DX.1 y;exact lj b R z i L λρ' d w' R' st T _=>LZ b x rest V R' k J λρ'' K H m s p=>n ρ'' K H m (st.trans s) (p.trans T)
  ·split at h
   ·cases h
   ·rename_i B G cc i;split at h
    ·cases h
    ·rename_i I M O k;cases h;obtain ⟨L,J⟩:=DX.1 y;obtain ⟨U,W⟩:=ZO R i L
     have C: ∀ v,AS P Γ N B ρ (a.put o.dst v) w -> wpListIn F 0 P ops Q rest (a.put o.dst v) w:=λv R'=>
      LZ b x rest V R' k J λρ'' K H m s p=>n ρ'' K H m (by rw [←U];exact s) (p.trans (E v))
     rcases W with ⟨q,v,X,r⟩ | ⟨q,r⟩
     ·rw [zEd q];refine ⟨λf _=>b.fn f,?_⟩;rw [zJC _ _ _ z,X w (Keep.ofExt (A0.refl w))];exact C v r
     ·rw [zGW (by rw [q];exact zMx)];exact ⟨λf _=>b.fn f,C undef r⟩
def PP : ∀ (l:Θ),∀ o∈CQ ops l,o∈ops
 | [],o,h=>by simp [CQ] at h
 | i::l,o,h=>by
  simp only [CQ] at h;split at h
  ·rename_i o' x;rcases zIn.1 h with rfl | h
   ·exact zM6 x
   ·exact PP l o h
  ·exact PP l o h
def wD (l:Dv F P)(R:AS P Γ N S ρ a w){j:DH}{S':St}{vs:List Prop}{u:BQ}(h:lU P Γ j ops S n o=some (S',vs,u))(q:Bq vs) 
   (r: ∀ ρ' k w',AS P Γ N S' ρ' k w' -> DI S.h ρ w S'.h ρ' w' -> k.defers=a.defers -> AQ (λb=>∃ i o p,j.length<=i/\ S.h[i]? =some (some o)/\ ρ[i]? =some p/\ p.foot b) w w' -> K k w'):
 aS j S.h=true/\ if Region.wanted o (yielded ops a.tmps) then o.wpIn F 0 P a w K Q else (∀ f,o.about P w a.eval=some f -> F.fn f)/\ K (a.put o.dst undef) w:=by
 have s: ∀ v,(a.put o.dst v).defers=a.defers:=λv=>by cases x:o.dst <;> simp [Act.put]
 unfold lU at h;split at h
 case h_2=>cases h
 rename_i c x;split at h
 case h_2=>cases h
 rename_i f t;split at h
 case h_2=>cases h
 rename_i g m cap d h' rest y hcalls;split at h
 case h_2=>cases h
 rename_i z hk;split at h;rename_i d' Bz Ds A;split at h
 case h_2=>cases h
 rename_i S1 RD Lb B;cases h;obtain ⟨L,C⟩:=q;obtain ⟨J,D⟩:=DX.1 C;refine ⟨hk,?_⟩;rw [zEd (Io R z)];refine Lj l (λc e=>by rw [x] at e;cases e) (wB R o x t y L.1 λargs E=>L.2 N ρ w args R.hr E) λv w' G=>?_
 obtain ⟨ρ',H,I⟩:=OM R o.dst G.1 (d':=d') λM ρ' O=>XK A J O
 obtain ⟨T,U⟩:=Wh _ B D P Γ N ρ' _ _ H;exact r ρ' _ _ T (I.trans ⟨U,λ_ _ h=>h⟩) (s v) G.2
variable {ρb:List AI}
def zEc {c h:DH}{ρ:List AI}{b w w':World}(HR:Aq P Γ N h ρ w)(a:DI c ρb b h ρ w)(f:A0 b w)(hk:aS c h=true)(g:AQ (λx=>∃ i o p,c.length<=i/\ h[i]? =some (some o)/\ ρ[i]? =some p/\ p.foot x) w w'):A0 b w':=by
 refine ((AQ.ofExt (S:=λx=>∃ i o p,c.length<=i/\ h[i]? =some (some o)/\ ρ[i]? =some p/\ p.foot x) f).comp g λ_ _ h=>h).toExt ?_;rintro x hx ⟨i,o,p,h1,d,e,A⟩;rcases a.st.grow x ⟨i,o,p,d,e,A⟩ with ⟨k,o',q,j,s,l⟩ | JH
 ·have m:=(zGq.1 j).1;have:=zGV.1 hk k (zGX.2 m);rw [show (c.getD k none).isSome=true by grind,zIF,zMa] at this;obtain ⟨F,v⟩:=zNP.1 this;have v:h[k]? =some (some F):=getD_some v;exact HR.dis i k o F p q x (by omega) d v e (a.pl k q s) A l
 ·omega
def jA (d:Dv F P)(x:DE ops=true){Q:Exit -> Act -> World -> Prop}: ∀ (T:List (Θ×Nat)) (u e:Θ) {S:St} {ρ:List AI} {a:Act} {w:World} {l:BQ} {S':St} {vs:List Prop} {m:BQ} {c:DH} {ρb:List AI} {b:World},
 (e.all λt=>decide (t<ops.size))=true -> AS P Γ N S ρ a w -> DI c ρb b S.h ρ w -> A0 b w -> Sc P Γ ops c T u S l=some (S',vs,m) -> Bq vs ->
 (∀ ρ' f w',AS P Γ N S' ρ' f w' -> DI S.h ρ w S'.h ρ' w' -> f.defers=a.defers -> wpListIn F 0 P ops Q (CQ ops e) f w') -> QP F 0 P ops Q b T u e a w
 | [],u,e,S,ρ,a,w,l,S',vs,m,c,ρb,b,n,R,_,_,h,p,q=>by
  grind [Sc,zIh,VP,DI.refl]
 | (H,i)::U,u,e,S,ρ,a,w,l,S',vs,m,c,ρb,b,n,R,Y,Z,h,p,q=>by
  have EC: ∃ ρb',DI (bh H c S.h) ρb' (bw H b w) S.h ρ w/\ A0 (bw H b w) w:=by
   cases H with
   | nil=>exact ⟨ρb,Y,Z⟩
   | cons s0 ss=>exact ⟨ρ,DI.refl _ _ _,A0.refl w⟩
  obtain ⟨ρb',r,V⟩:=EC;simp only [Sc] at h;split at h
  ·cases h
  ·rename_i S1 DZ cc W;split at h
   ·cases h
   ·rename_i o v;split at h
    ·rename_i S2 FU Gu j;split at h
     ·cases h
     ·rename_i S3 RC MF y;cases h;obtain ⟨L,z⟩:=DX.1 p;obtain ⟨J,A⟩:=DX.1 z
      show wpQuiet _ _ _ _ _ _
      refine VP _ R W L λf k R' B=>?_
      unfold wpOpIn;simp only [v];have hk:aS (bh H c S.h) S1.h=true:=(wD (K:=λ_ _=>True) (Q:=λ_ _ _=>True) d R' j J λ_ _ _ _ _ _ _=>trivial).1;refine (wD d R' j J λρ'' Gi C D s E X=>?_).2;rw [k] at s hk;have g:A0 (bw H b w) C:=zEc R.hr r V hk (by rw [k] at X;exact X);exact ⟨g,jA d x U u e n D (r.trans s) g y A λρ3 a3 G I M O=>q ρ3 a3 G I (s.trans M) (O.trans (E.trans B))⟩
    ·split at h
     ·cases h
     ·rename_i S2 FU ext Gu j;split at h
      ·cases h
      ·split at h
       ·cases h
       ·rename_i S3 RC MF y;cases h;obtain ⟨L,z⟩:=DX.1 p;obtain ⟨J,A⟩:=DX.1 z
        show wpQuiet _ _ _ _ _ _
        refine VP _ R W L λf k R' B=>?_
        unfold wpOpIn;simp only [v];refine lj d R' (Hw x v) j J λρ'' Gi C D s E LU=>?_
        rw [k] at s;have g:A0 (bw H b w) C:=V.trans (LU rfl);exact ⟨g,jA d x U u e n D (r.trans s) g y A λρ3 a3 G I M O=>q ρ3 a3 G I (s.trans M) (O.trans (E.trans B))⟩
def zGt (d:Dv F P)(x:DE ops=true)(s:List (Θ×Nat))(u e:Θ){S:St}{ρ:List AI}{a:Act}{w:World}{g:BQ}{S':St}{vs:List Prop}{i:BQ}{f:DH}{b:World} 
 (j:(e.all λt=>decide (t<ops.size))=true) (R:AS P Γ N S ρ a w) (k:DI f ρb b S.h ρ w) (l:A0 b w) (h:hseq P Γ ops f s u e S g=some (S',vs,i)) (p:Bq vs)
 (n: ∀ ρ' c w',AS P Γ N S' ρ' c w' -> DI S.h ρ w S'.h ρ' w' -> c.defers=a.defers -> Q .normal c w'):QP F 0 P ops Q b s u e a w:=by
 unfold hseq at h;split at h
 ·cases h
 rename_i S1 DZ Gv o;split at h
 ·cases h
 rename_i S2 FU Gu m;cases h;obtain ⟨L,J⟩:=DX.1 p;exact jA d x s u e j R k l o L λρ1 a1 w1 I q D=>LZ d x _ (PP e) I m J λρ2 r v T y z=>n ρ2 r v T (q.trans y) (z.trans D)
end
abbrev zIR:=@Nat.zero_le
abbrev zI7:=@Go.wpIn_seq
abbrev zNZ:=@Go.wpIn_skip
abbrev zNe:=@Go.wpIn_ret
section
def CA (L:Nat)(ρ ρ':List AI):Prop:=∀ (k:Nat) (p:AI),k<L -> ρ[k]? =some p -> ρ'[k]? =some p
theorem CA.refl (L:Nat)(ρ:List AI):CA L ρ ρ:=λ_ _ _ h=>h
variable {L:Nat}
def CA.trans {a b c:List AI}(h:CA L a b)(k:CA L b c):CA L a c:=λi p hi g=>k i p hi (h i p hi g)
structure Bd (F:Fence)(B:Option Nat)(w:World):Prop where
 le: ∀ b,B=some b -> b<=w.heap.size
 rd: ∀ l,F.round=some l -> ∃ r,w.heap[l]? =some (.loop r)
variable {w:World}
def Bd.step {P:Program}{Γ:Av}{N:Ψ}{h h':DH}{ρ ρ':List AI}{F:Fence}{B:Option Nat}{w':World}(b:Bd F B w)(H:Aq P Γ N h ρ w)(st:A3 h ρ w h' ρ' w'):Bd F B w':=
 ⟨λx e=>zGU (b.le x e) st.upd.size,λl m=>by
  obtain ⟨r,i⟩:=b.rd l m;refine ⟨r,(st.upd.block l (zGS.1 i).1 ?_).trans i⟩;rintro ⟨k,o,p,a,d,f⟩;obtain ⟨_,_,c,t,z,A⟩:=H.cel k o p l a d f;rw [i] at A;cases A;cases t⟩
def Bd.wide {B:Nat}(h:B<=w.heap.size):Bd Fence.wide (some B) w:=⟨λb e=>by cases e;exact h,λl m=>by cases m⟩
def Bd.none :Bd Fence.wide none w:=⟨λb e=>(by cases e),λl m=>by cases m⟩
def Mx:Option Nat -> List Deferred -> World -> Prop
 | none,ds,_=>ds= []
 | some B,ds,w=>Ed B ds w
structure BK (P:Program)(Γ:Av)(L:Nat) where
 I:(Ψ) -> DH -> List AI -> World -> Prop
 st: ∀ {N:Ψ} {h:DH} {ρ:List AI} {w:World} {h':DH} {ρ':List AI} {w':World},I N h ρ w -> Aq P Γ N h ρ w -> Aq P Γ N h' ρ' w' -> A3 h ρ w h' ρ' w' -> CA L ρ ρ' -> I N h' ρ' w'
def RU (P:Program)(Γ:Av)(L:Nat)(n:Ψ)(h0:DH)(ρ0:List AI)(w0:World):BK P Γ L where
 I:=λN h ρ w=>N=n/\ A3 h0 ρ0 w0 h ρ w/\ CA L ρ0 ρ
 st:=λ⟨e,s,k⟩ _ _ st g=>⟨e,s.trans st,k.trans g⟩
abbrev QY (P:Program)(Γ:Av)(L:Nat):=Exit -> St -> BK P Γ L -> Prop
def QE {P:Program}{Γ:Av}{L:Nat}(Q:QY P Γ L):Exit -> St -> BK P Γ L -> Prop
 | .outgrown,_,_=>False
 | e,S,Y=>Q e S Y
def Tr (P:Program)(Γ:Av)(F:Fence)(B:Option Nat)(L:Nat)(Y:BK P Γ L)(c:Code)(S:St)(Q:QY P Γ L):Prop:= ∀ N ρ a w,AS P Γ N S ρ a w -> Y.I N S.h ρ w -> Mx B a.defers w -> Bd F B w -> c.wpIn F 0 P (λe b w'=>∃ S' ρ' V d,QE Q e S' d/\ AS P Γ V S' ρ' b w'/\ d.I V S'.h ρ' w'/\ Mx B b.defers w'/\ Bd F B w') a w
def A7 (L:Nat)(S S':St):Prop:=∀ P Γ N ρ a w,AS P Γ N S ρ a w -> ∃ ρ',AS P Γ N S' ρ' a w/\ A3 S.h ρ w S'.h ρ' w/\ CA L ρ ρ'
theorem A7.refl (L:Nat)(S:St):A7 L S S:=λ_ _ _ ρ _ _ R=>⟨ρ,R,A3.refl _ _ _,CA.refl _ _⟩
def A7.trans {A B C:St}(h:A7 L A B)(k:A7 L B C):A7 L A C:=λP Γ N ρ a w R=>by
 obtain ⟨ρ1,I,b,c⟩:=h P Γ N ρ a w R;obtain ⟨ρ2,T,D,Y⟩:=k P Γ N ρ1 a w I;exact ⟨ρ2,T,b.trans D,c.trans Y⟩
section
variable {P:Program} {Γ:Av} {N:Ψ} {S:St} {F:Fence} {B:Option Nat} {L:Nat} {Y:BK P Γ L} {Q Q':QY P Γ L}
variable {e:Exit}
theorem QE.mono (h: ∀ e S Y,Q e S Y -> Q' e S Y){S:St}(L:QE Q e S Y):QE Q' e S Y:=by
 cases e <;> first | exact L | exact h _ _ _ L
variable {c:Code}
theorem Tr.mono (h:Tr P Γ F B L Y c S Q)(d: ∀ e S Y,Q e S Y -> Q' e S Y):Tr P Γ F B L Y c S Q':=λN ρ a w R y m b=>
 zMb (h N ρ a w R y m b) λ_ _ _ ⟨S',ρ',V,I,f,g⟩=>⟨S',ρ',V,I,f.mono d,g⟩
variable {S':St}
def Tr.weaken (d:A7 L S S')(h:Tr P Γ F B L Y c S' Q):Tr P Γ F B L Y c S Q:=λN ρ a w R y m b=>by
 obtain ⟨ρ1,I,e,f⟩:=d P Γ N ρ a w R;exact h N ρ1 a w I (Y.st y R.hr I.hr e f) m b
variable {w':World}{ρ ρ':List AI}
def Vn {h':DH}{ds:List Deferred}{w:World}(H:Aq P Γ N S.h ρ w)(st:A3 S.h ρ w h' ρ' w')(m:Mx B ds w):Mx B ds w':=by
 cases B with
 | none=>exact m
 | some B=>
 refine Ed.upd st.upd m λk _ hk e=>?_
 obtain ⟨i,o,p,a,b,d⟩:=hk;obtain ⟨_,_,c,t,z,A⟩:=H.cel i o p k a b d;rw [A] at e;cases e;cases t
theorem Tr.skip (h:Q .normal S Y):Tr P Γ F B L Y .skip S Q:=λN ρ _ _ R y m b=>zNZ ⟨S,ρ,N,Y,h,R,y,m,b⟩
def Tr.ret (h:Q .ret S Y):Tr P Γ F B L Y .ret S Q:=λN ρ _ _ R y m b=>zNe ⟨S,ρ,N,Y,h,R,y,m,b⟩
variable {id:Nat}
def Tr.exit (h:Q (.exit id) S Y):Tr P Γ F B L Y (.exit id) S Q:=λN ρ _ _ R y m b=>wpIn_exit ⟨S,ρ,N,Y,h,R,y,m,b⟩
def RO (K:St -> BK P Γ L -> Prop)(Q:QY P Γ L):QY P Γ L
 | .normal,S,Y=>K S Y
 | e,S,Y=>Q e S Y
variable {x y:Code}
def Tr.seq (h:Tr P Γ F B L Y x S (RO (λS' I=>Tr P Γ F B L I y S' Q) Q)):Tr P Γ F B L Y (.seq x y) S Q:=λN ρ a w R y m b=>by
 refine zI7 (zMb (h N ρ a w R y m b) ?_);rintro e j w' ⟨S',ρ',V,I,d,f,g,A,i⟩;cases e with
 | normal=>exact d V ρ' j w' f g A i
 | ret=>exact ⟨S',ρ',V,I,d,f,g,A,i⟩
 | exit id=>exact ⟨S',ρ',V,I,d,f,g,A,i⟩
 | goto t=>exact ⟨S',ρ',V,I,d,f,g,A,i⟩
 | panic c=>exact ⟨S',ρ',V,I,d,f,g,A,i⟩
 | outgrown=>exact d.elim
variable {b:Bool}
def Tr.cond {c:Operand}(l:AZ S.fr c= .bool b)(e:b=true -> Tr P Γ F B L Y x S Q)(f:b=false -> Tr P Γ F B L Y y S Q):Tr P Γ F B L Y (.cond c x y) S Q:=λN ρ a w R y m d=>by
 have i:=BV R c;rw [l] at i;refine wpIn_cond (t:=b) i ?_;cases b
 ·exact f rfl N ρ a w R y m d
 ·exact e rfl N ρ a w R y m d
variable {a:Act}
def xc {F:Fence}{n:Nat}{P:Program}{Q:Exit -> Act -> World -> Prop}{w:World}(h:c.wpIn F n P (Exit.noGoto Q) a w):(Code.scope c).wpIn F n P Q a w:=by
 intro b k cs f d i;have h0:(lone (b.atR a (.code (.scope c)::k)) cs w).fenced P F:=zKN d i rfl;have G:step P (lone (b.atR a (.code (.scope c)::k)) cs w)= .next (lone (b.atR a (.code c:: .inScope c::k)) cs w):=step_lone_go (by simp [stepG,stepG.exec,Frame.atR]);obtain ⟨e,p,q,L,N⟩:=h b (.inScope c::k) cs f d i;have g:step P (lone (b.atR p (.inScope c::k)) cs q)= .next (lone (b.atR p k) cs q):=step_lone_go (by simp [stepG,stepG.exec,Frame.atR]);cases e with
 | normal=>exact ⟨.normal,p,q,L,.head h0 G (zI4 N (.one (zKN d i rfl) g))⟩
 | exit id=>exact ⟨.exit id,p,q,L,λj hk=>.head h0 G (N.1 j hk),λm hk=>let ⟨Y,o,r⟩:=N.2 m hk;⟨Y,o,.head h0 G r⟩⟩
 | goto l=>exact L.elim
 | ret=>exact ⟨_,p,q,L,.of_steps (.one h0 G) N⟩
 | panic ch=>exact ⟨_,p,q,L,.of_steps (.one h0 G) N⟩
 | outgrown=>exact ⟨_,p,q,L,.of_steps (.one h0 G) N⟩
def zEa (Q:QY P Γ L):QY P Γ L
 | .goto _,_,_=>False
 | e,S,Y=>Q e S Y
def Tr.scope (h:Tr P Γ F B L Y c S (zEa Q)):Tr P Γ F B L Y (.scope c) S Q:=λN ρ a w R y m b=>by
 refine xc (zMb (h N ρ a w R y m b) ?_);rintro e a' w' ⟨S',ρ',V,I,d,f⟩;cases e with
 | goto l=>exact d.elim
 | _=>exact ⟨S',ρ',V,I,d,f⟩
def Tr.label {l:Nat}(h:Q .normal S Y):Tr P Γ F B L Y (.label l) S Q:=λN ρ a w R y m b=>wpIn_label ⟨S,ρ,N,Y,h,R,y,m,b⟩
def zLh (id:Nat)(Q:QY P Γ L):QY P Γ L
 | .exit i,S,Y=>if i=id then Q .normal S Y else Q (.exit i) S Y
 | e,S,Y=>Q e S Y
def Tr.block (h:Tr P Γ F B L Y c S (zLh id Q)):Tr P Γ F B L Y (.block id c) S Q:=λN ρ a w R y m b=>by
 refine wpIn_block (zMb (h N ρ a w R y m b) ?_);rintro e a' w' ⟨S',ρ',V,I,d,f⟩;cases e with
 | exit i=>
  show if i=id then _ else _
  by_cases e:i=id
  ·rw [zEd e];have d:(if i=id then Q .normal S' I else Q (.exit i) S' I):=d;rw [zEd e] at d;exact ⟨S',ρ',V,I,d,f⟩
  ·rw [zGW e];have d:(if i=id then Q .normal S' I else Q (.exit i) S' I):=d;rw [zGW e] at d;exact ⟨S',ρ',V,I,d,f⟩
 | normal=>exact ⟨S',ρ',V,I,d,f⟩
 | ret=>exact ⟨S',ρ',V,I,d,f⟩
 | goto t=>exact ⟨S',ρ',V,I,d,f⟩
 | panic c=>exact ⟨S',ρ',V,I,d,f⟩
 | outgrown=>exact d.elim
def Tr.loop (I:Nat -> St -> BK P Γ L -> Prop)(n:Nat)(h0:I n S Y)(h: ∀ n S Y,I n S Y -> Tr P Γ F B L Y c S (RO (λS' d=>∃ W,W<n/\ I W S' d) Q)):Tr P Γ F B L Y (.loop c) S Q:=λN ρ a w R y m b=>by
 refine wpIn_loop_ghost (λk j w'=>∃ S' ρ' V d,I k S' d/\ AS P Γ V S' ρ' j w'/\ d.I V S'.h ρ' w'/\ Mx B j.defers w'/\ Bd F B w') n ⟨S,ρ,N,Y,h0,R,y,m,b⟩ ?_;rintro k j w' ⟨S',ρ',V,d,l,p,q,A,r⟩;refine zMb (h k S' d l V ρ' j w' p q A r) ?_;rintro e a2 w2 ⟨f,ρ2,x,J,o,s,g,i,H⟩;cases e with
 | normal=>
  obtain ⟨W,u,v⟩:=o;exact ⟨W,u,f,ρ2,x,J,v,s,g,i,H⟩
 | ret=>exact ⟨f,ρ2,x,J,o,s,g,i,H⟩
 | exit id=>exact ⟨f,ρ2,x,J,o,s,g,i,H⟩
 | goto t=>exact ⟨f,ρ2,x,J,o,s,g,i,H⟩
 | panic c=>exact ⟨f,ρ2,x,J,o,s,g,i,H⟩
 | outgrown=>exact o.elim
def AS.ext {w:World}(R:AS P Γ N S ρ a w)(F:A0 w w'):AS P Γ N S ρ a w':=⟨R.hr.ext F,R.fr.out (BP.ext ρ F)⟩
def Tr.done {c:Act}{w:World}(R:AS P Γ N S ρ a w)(y:Y.I N S.h ρ w)(m:Mx B a.defers w)(b:Bd F B w)(hk:QE Q e S' Y)(R':AS P Γ N S' ρ' c w')(st:A3 S.h ρ w S'.h ρ' w')(C:CA L ρ ρ')(f:c.defers=a.defers):
 ∃ S' ρ' V d,QE Q e S' d/\ AS P Γ V S' ρ' c w'/\ d.I V S'.h ρ' w'/\ Mx B c.defers w'/\ Bd F B w':=
 ⟨S',ρ',N,Y,hk,R',Y.st y R.hr R'.hr st C,by rw [f];exact Vn R.hr st m,b.step R.hr st⟩
def A7.fr {fr fr':List DV}{h:DH}(m:fr'.length=fr.length)(r: ∀ i,i<fr.length -> AN (fr.getD i .any) (fr'.getD i .any)):A7 L ⟨fr,h⟩ ⟨fr',h⟩:=λP Γ N ρ a w R=>
 ⟨ρ,⟨R.hr,⟨by rw [m];exact R.fr.1,λi hi=>r i (by rw [←m];exact hi) _ _ _ _ (R.fr.2 i (by rw [←m];exact hi))⟩⟩,A3.refl _ _ _,CA.refl _ _⟩
theorem AN.refl (d:DV):AN d d:=λ_ _ _ _ h=>h
theorem AN.any (d:DV):AN d .any:=λ_ _ _ _ _=>trivial
theorem AN.int {k:IntKind}{a b:Int}(h:a=b):AN (.int k a) (.int k b):=by rw [h];exact AN.refl _
theorem AN.bool {a:Bool}(h:a=b):AN (.bool a) (.bool b):=by rw [h];exact AN.refl _
def AN.ints_nil:AN .nils (.ints []):=λM w ρ v h=>⟨none,0,h,zGd _,zIR _,λj e=>absurd e (zGa j)⟩
def AN.sl_nil (m:Nat)(f:Nat -> Nat -> DV):AN .nils (.sl m 0 f):=λM w ρ v h=>⟨none,0,h,zGd _,zIR _,λi j hi=>absurd hi (zGa i)⟩
def forget (B:Θ)(fr:List DV):List DV:=(fr.zipIdx).map λx=>if B.contains x.2 then x.1 else .any
theorem Wm (B:Θ)(fr:List DV):(forget B fr).length=fr.length:=by simp [forget]
theorem kY (B:Θ)(fr:List DV){i:Nat}(hi:i<fr.length):(forget B fr).getD i .any=if B.contains i then fr.getD i .any else .any:=by
 simp [forget,hi]
def A7.forget (B:Θ)(fr:List DV)(h:DH):A7 L ⟨fr,h⟩ ⟨forget B fr,h⟩:=A7.fr (Wm _ _) λi hi=>by
 grind [kY,AN.refl,AN.any]
def Di:Θ -> Nat -> Option Nat
 | [],_=>none
 | x::σ,k=>if x=k then some 0 else (Di σ k).map (· +1)
def GT (σ:Θ):DV -> DV
 | .ref k j=>match Di σ k with
  | some a=>.ref a j
  | none=>.any
 | .mse k m off n=>match Di σ k with
  | some a=>.mse a m off n
  | none=>.any
 | .mri k i=>match Di σ k with
  | some a=>.mri a i
  | none=>.any
 | .msl k m off n=>match Di σ k with
  | some a=>.msl a m off n
  | none=>.any
 | .mp k m i j=>match Di σ k with
  | some a=>.mp a m i j
  | none=>.any
 | .it k=>match Di σ k with
  | some a=>.it a
  | none=>.any
 | .agg m f=>.agg m λj=>((List.range m).map λi=>GT σ (f i)).getD j .any
 | .tup m f=>.tup m λj=>((List.range m).map λi=>GT σ (f i)).getD j .any
 | .fn g m c=>.fn g m λj=>((List.range m).map λi=>GT σ (c i)).getD j .any
 | d=>d
def VI (σ:Θ):Option DO -> Option DO
 | some (.cells l)=>some (.cells (l.map (GT σ)))
 | some (.ro l)=>some (.ro (l.map (GT σ)))
 | o=>o
def GN (σ:Θ)(S:St):St:=⟨S.fr.map (GT σ),σ.map λk=>VI σ (S.h.getD k none)⟩
def Kv: ∀ {σ:Θ} {k g:Nat},Di σ k=some g -> σ[g]? =some k
 | [],_,_,h=>by cases h
 | x::σ,k,g,h=>by
  unfold Di at h;split at h
  ·rename_i e;cases h;subst e;rfl
  ·cases a:Di σ k with
   | none=>rw [a] at h;cases h
   | some i=>
    rw [a] at h;have e:g=i+1:=(zGT h).symm;subst e;have:=Kv a;simpa using this
variable {m j:Nat}{f:Nat -> DV}
def zDE (e:j<m):((List.range m).map f).getD j .any=f j:=by simp [e]
variable {M:Ψ}
def fe {w:World}{u:Value}(e:j<m)(h:AL M w (f j) ρ u):AL M w (((List.range m).map f).getD j .any) ρ u:=by rw [zDE e];exact h
theorem zCt {A:Ψ}{w:World}{σ:Θ}(X: ∀ b,A b -> M b)(C: ∀ (k o:Nat) (p:AI),σ[o]? =some k -> ρ[k]? =some p -> ρ'[o]? =some p): ∀ (d:DV) {v:Value},AL M w d ρ v -> AL A w (GT σ d) ρ' v:=by
 have low: ∀ (d:DV) {v:Value},AL M w d [] v -> AL A w d [] v:=λd v h=>h.out d ⟨λ_ _ _ _=>rfl,λb B=>.inl (X b B),λk p hk=>by simp at hk⟩
 intro d
 induction d with
 | any=>intro v _;trivial
 | nils=>intro v h;exact h
 | int k n=>intro v h;exact h
 | bool b=>intro v h;exact h
 | str s=>intro v h;exact h
 | ints l=>intro v h;exact low (.ints l) h
 | bools l=>intro v h;exact low (.bools l) h
 | sl m n f _=>intro v h;exact low (.sl m n f) h
 | fp m f _=>intro v h;exact low (.fp m f) h
 | agg m f V=>
  rintro v ⟨cs,e,x,h⟩;exact ⟨cs,e,x,λj t=>let ⟨u,y,z⟩:=h j t;⟨u,y,fe t (V j z)⟩⟩
 | tup m f V=>
  rintro v ⟨cs,e,x,h⟩;exact ⟨cs,e,x,λj t=>let ⟨u,y,z⟩:=h j t;⟨u,y,fe t (V j z)⟩⟩
 | fn g m c V=>
  rintro v ⟨cs,e,x,h⟩;exact ⟨cs,e,x,λj t=>let ⟨u,y,z⟩:=h j t;⟨u,y,fe t (V j z)⟩⟩
 | ref k j=>
  rintro v ⟨p,q,e⟩;simp only [GT];cases hk:Di σ k with
  | none=>trivial
  | some o=>exact ⟨p,C k o p (Kv hk) q,e⟩
 | msl k m off n=>
  rintro v ⟨p,cap,q,r⟩;simp only [GT];cases hk:Di σ k with
  | none=>trivial
  | some o=>exact ⟨p,cap,C k o p (Kv hk) q,r⟩
 | mp k m i j=>
  rintro v ⟨p,q,e⟩;simp only [GT];cases hk:Di σ k with
  | none=>trivial
  | some o=>exact ⟨p,C k o p (Kv hk) q,e⟩
 | yl l=>intro v h;exact h
 | cst u=>intro v h;exact h
 | mse k m off n=>
  rintro v ⟨p,a,cap,q,r⟩;simp only [GT];cases hk:Di σ k with
  | none=>trivial
  | some o=>exact ⟨p,a,cap,C k o p (Kv hk) q,r⟩
 | mri k i=>
  rintro v ⟨p,vs,q,r⟩;simp only [GT];cases hk:Di σ k with
  | none=>trivial
  | some o=>exact ⟨p,vs,C k o p (Kv hk) q,r⟩
 | it k=>
  rintro v ⟨p,q,e⟩;simp only [GT];cases hk:Di σ k with
  | none=>trivial
  | some o=>exact ⟨p,C k o p (Kv hk) q,e⟩
def ga:AI:=⟨0,0,0,undef,λ_=>False⟩
theorem A7.compact (σ:Θ)(S:St)(h1:σ.Nodup)(E: ∀ k∈σ,k<S.h.length)(U: ∀ k,k<L -> σ[k]? =some k):A7 L S (GN σ S):=λP Γ N ρ a w R=>by
 obtain ⟨ρ',F⟩: ∃ ρ',ρ'=σ.map λk=>ρ.getD k ga:=⟨_,rfl⟩
 have get: ∀ {g:Nat} {p:AI},ρ'[g]? =some p -> ∃ k,σ[g]? =some k/\ ρ[k]? =some p:=λ{g p} h=>by
  rw [F,zIL] at h;cases hk:σ[g]? with
  | none=>rw [hk] at h;cases h
  | some k=>
   rw [hk] at h;have G:k<ρ.length:=by rw [R.hr.len];exact E k (zG6 hk)
   grind
 have r: ∀ (k g:Nat) (p:AI),σ[g]? =some k -> ρ[k]? =some p -> ρ'[g]? =some p:=λk g p hk C=>by
  grind
 have J: ∀ {g:Nat} {o':DO},(GN σ S).h[g]? =some (some o') -> ∃ k o,σ[g]? =some k/\ S.h[k]? =some (some o)/\ VI σ (some o)=some o':=λ{g o'} h=>by
  show ∃ k o,_
  have h:(σ.map λk=>VI σ (S.h.getD k none))[g]? =some (some o'):=h;rw [zIL] at h;cases hk:σ[g]? with
  | none=>rw [hk] at h;cases h
  | some k=>
   rw [hk] at h;have G:k<S.h.length:=E k (zG6 hk);have h:VI σ (S.h.getD k none)=some o':=zGT h;have e:S.h.getD k none=S.h[k]:=by simp [G]
   rw [e] at h;cases V:S.h[k] with
   | none=>rw [V] at h;cases h
   | some o=>grind
 have X: ∀ b,MO (GN σ S).h ρ' b -> MO S.h ρ b:=by
  rintro b ⟨g,o',p,y,A,B⟩;obtain ⟨k,o,q,z,_⟩:=J y;obtain ⟨Y,Q,Z⟩:=get A;have:Y=k:=zGT (Q.symm.trans q);subst this;exact ⟨Y,o,p,z,Z,B⟩
 have W: ∀ b,MS N (GN σ S).h ρ' b -> MS N S.h ρ b:=λb c=>c.imp id (X b)
 have O:BP (MS N S.h ρ) w [] (MS N (GN σ S).h ρ') w []:=⟨λ_ _ _ _=>rfl,λb c=>.inl (W b c),λk p hk=>by simp at hk⟩;have low: ∀ (d:DV) {v:Value},AL (MS N S.h ρ) w d ρ v -> AL (MS N (GN σ S).h ρ') w (GT σ d) ρ' v:=λd v h=>zCt W r d h
 refine ⟨ρ',⟨⟨by simp [F,GN],λg o' Gb=>?_,λg o' p b y A B=>?_,λi i' o1 H p1 p2 b AY y A B g4 g5 g6=>?_,R.hr.nlt,R.hr.gi⟩,⟨by simp [GN,R.fr.1],λi hi=>?_⟩⟩,⟨AQ.refl _ w,λb c=>.inl (X b c)⟩,λk p hk C=>r k k p (U k hk) C⟩
 ·obtain ⟨k,o,q,z,Q⟩:=J Gb;obtain ⟨p,C,s⟩:=R.hr.obj k o z;refine ⟨p,r k g p q C,?_⟩;cases o with
  | cells l=>
   cases Q
   show AX w p (l.map (GT σ)).length _
   rw [zGh];refine AX.out s rfl λj u hj t=>?_
   grind
  | ints l=>cases Q;exact AX.out s rfl λj u _ t=>t
  | bools l=>cases Q;exact AX.out s rfl λj u _ t=>t
  | arr m n f=>cases Q;exact AX.out s rfl λj u _ t=>AL.out _ O t
  | iter encs=>
   cases Q;obtain ⟨gf,lb,Rd,q1,q2,I,q4⟩:=s;exact ⟨gf,lb,Rd,q1,q2,λb c=>⟨λD=>(I b c).1 (W b D),(I b c).2⟩,q4⟩
  | ro l=>
   cases Q;obtain ⟨r1,r2,r3⟩:=s;refine ⟨r1,λD=>r2 (W _ D),?_⟩
   show AX w _ (l.map (GT σ)).length _
   rw [zGh];refine AX.out r3 rfl λj u hj t=>?_
   grind
  | mo x=>cases Q;exact s
 ·obtain ⟨k,o,q,z,_⟩:=J y;obtain ⟨Y,Q,Z⟩:=get A;have:Y=k:=zGT (Q.symm.trans q);subst this;exact R.hr.cel Y o p b z Z B
 ·obtain ⟨k,o,q,z,_⟩:=J y;obtain ⟨Y,H,Q,Z,_⟩:=J A;obtain ⟨K,e5,e6⟩:=get B;obtain ⟨M,e7,e8⟩:=get g4;have:K=k:=zGT (e5.symm.trans q);subst this;have:M=Y:=zGT (e7.symm.trans Q);subst this;refine R.hr.dis K M o H p1 p2 b (λe=>AY ?_) z Z e6 e8 g5 g6
  grind [List.getElem?_inj]
 ·have T:i<S.fr.length:=by simpa [GN] using hi
  have:(GN σ S).fr.getD i .any=GT σ (S.fr.getD i .any):=by simp [GN,T]
  rw [this];exact low _ (R.fr.2 i T)
end
end
abbrev zJE:=@List.eq_nil_of_length_eq_zero
abbrev zNl:=@List.nodup_range
def qP (P:Program)(S:St):ResultVar -> Option DV
 | .tmp t=>some (S.fr.getD t .any)
 | .cell x t=>match S.fr.getD x .any with
  | .ref k j=>match Pj P S t (.ref k j) with
   | some (d,_)=>some d
   | none=>none
  | _=>none
def NW (P:Program)(S:St):List ResultVar -> Option (List DV)
 | []=>some []
 | r::k=>match qP P S r with
  | some d=>match NW P S k with
   | some ds=>some (d::ds)
   | none=>none
  | none=>none
def IF:List DV -> DV
 | [d]=>d
 | ds=>.tup ds.length λj=>ds.getD j .any
section
variable {P:Program} {Γ:Av} {N:Ψ} {S:St} {ρ:List AI} {a:Act} {w:World}
variable {d:DV}{k:Nat}
def zFH {t:TypeId}{j:Nat}{O:Prop}(h:Pj P S t (.ref k j)=some (d,O)):O:=by
 grind [Pj]
def ZG (tmps:Array Value):ResultVar -> Sem Value
 | .tmp t=>pure (tmps.getD t undef)
 | .cell x t=>do loadVar t (←asAddr (tmps.getD x undef))
def qQ (R:AS P Γ N S ρ a w): ∀ (c:List ResultVar) (ds:List DV),NW P S c=some ds -> ∃ vs:List Value,(c.mapM (ZG a.tmps)).run P w= .ok vs w/\ vs.length=ds.length/\ ∀ i,i<ds.length -> AL (MS N S.h ρ) w (ds.getD i .any) ρ (vs.getD i undef)
 | [],ds,h=>by
  cases h
  simp_all
 | r::c,ds,h=>by
  simp only [NW] at h;split at h
  ·rename_i d b;split at h
   ·rename_i n C;cases h;obtain ⟨vs,h1,l,h3⟩:=qQ R c n C
    obtain ⟨v,g1,g2⟩: ∃ v,(ZG a.tmps r).run P w= .ok v w/\ AL (MS N S.h ρ) w d ρ v:=by
     unfold qP at b;split at b
     ·cases b;exact ⟨_,rfl,R.fr.at _⟩
     ·rename_i x t;split at b
      ·rename_i k j e;split at b
       ·rename_i d' vc m;cases b;have f:=R.fr.at x;rw [e] at f;obtain ⟨v,o,s⟩:=sP R f m (zFH m);obtain ⟨p,hp,g⟩:=f;have q:=o w (Keep.ofExt (A0.refl w));rw [g,fJ] at q;refine ⟨v,?_,s⟩
        show (do loadVar t (←asAddr (a.tmps.getD x undef)):Sem Value).run P w=_
        rw [g];exact q
       ·cases b
      ·cases b
    refine ⟨v::vs,?_,by simp [l],λi hi=>?_⟩
    ·simp_all
    grind
   ·cases h
  ·cases h
variable {ds:List DV}{fn:Func}
def ZF (R:AS P Γ N S ρ a w)(h:NW P S fn.results.toList=some ds): ∃ v,(results fn a.tmps).run P w= .ok v w/\ AL (MS N S.h ρ) w (IF ds) ρ v:=by
 obtain ⟨vs,f,c,b⟩:=qQ R _ _ h
 have g:(fn.results.mapM (ZG a.tmps)).run P w= .ok vs.toArray w:=by
  rw [Array.mapM_eq_mapM_toList,←bind_pure_comp,zG3,f];rfl
 have i:(results fn a.tmps).run P w= .ok (if h:vs.toArray.size=1 then vs.toArray[0] else .tuple vs.toArray) w:=by
  show (do let vs←fn.results.mapM (ZG a.tmps);pure (if h:vs.size=1 then vs[0] else .tuple vs):Sem Value).run P w=_
  rw [zG3,g];rfl
 refine ⟨_,i,?_⟩
 match ds,vs,c,b with
 | [],[],_,_=>exact ⟨#[],rfl,rfl,λj e=>absurd e (zGa j)⟩
 | [d],[v],_,b=>exact b 0 (by simp)
 | d::d'::ds,v::s::vs,c,b=>
  have: ¬ ((v::s::vs).toArray.size=1):=by simp
  rw [dif_neg this];refine ⟨_,rfl,by simpa using c,λj e=>?_⟩
  grind
def PZ (h:DH):Prop:=∀ (k:Nat) (encs:List (List DV)),h[k]? ≠some (some (.iter encs))
variable {W:World}
def AS.shut (R:AS P Γ N S ρ a w)(hi:PZ S.h){B:Nat}(I:Γ.ng<=B)(s:Mw B w W):AS P Γ N S ρ a W:=by
 have v: ∀ {b:Nat},EF w b -> W.heap[b]? =w.heap[b]? :=λ{b} ⟨c,t,z,h⟩=>
  s.block b (zGS.1 h).1 λg=>by rw [h] at g;cases g.2;cases t
 have O:BP (MS N S.h ρ) w ρ (MS N S.h ρ) W ρ:=⟨λb _ _ ⟨_,_,_,D⟩=>v (.cells D),λb h=>.inl h,λ_ _ h=>h⟩
 have e: ∀ {p:AI} {n:Nat} {Rw:Nat -> Value -> Prop},AX w p n Rw -> W.heap[p.blk]? =w.heap[p.blk]? :=λ{p n Rw} h=>by
  obtain ⟨_,cs,t,y,_⟩:=h;exact v (.cells y)
 refine ⟨⟨R.hr.len,λk o hk=>?_,λk o p b E y F=>?_,R.hr.dis,λb r=>⟨zGb (R.hr.nlt b r).1 s.size,(R.hr.nlt b r).2⟩,Γ.st _ _ R.hr.gi (s.mono λi _ g=>zGU I g.1)⟩,R.fr.out O⟩
 ·obtain ⟨p,A,d⟩:=R.hr.obj k o hk;refine ⟨p,A,?_⟩;cases o with
  | cells l=>exact AX.out d (e d) λj u _ q=>AL.out _ O q
  | ints l=>exact AX.out d (e d) λj u _ q=>q
  | bools l=>exact AX.out d (e d) λj u _ q=>q
  | arr m n f=>exact AX.out d (e d) λj u _ q=>AL.out _ O.nil q
  | iter encs=>exact absurd hk (hi k encs)
  | ro l=>obtain ⟨G,H,C⟩:=d;exact ⟨G,H,AX.out C (e C) λj u _ q=>AL.out _ O q⟩
  | mo x=>exact Oj.out d λb r AU=>v (R.hr.cel k _ p b hk A r).2.2
 ·obtain ⟨g1,g2,c,t,z,g3⟩:=R.hr.cel k o p b E y F
  grind
variable {h:DH}
def A3.shut {h0:DH}{ρ0 ρ:List AI}{w0 w:World}(st:A3 h0 ρ0 w0 h ρ w)(k:Mw w0.heap.size w W):A3 h0 ρ0 w0 h ρ W:=
 ⟨st.upd.comp k λi hi d=>absurd d.1 (by omega),st.grow⟩
def BE.anys (M:Ψ)(w:World)(ρ:List AI)(n:Nat):BE M w ρ (List.replicate n .any) (Array.replicate n undef):=
 ⟨by simp,λi hi=>by
  have:(List.replicate n DV.any).getD i .any= .any:=by
   grind
  rw [this];trivial⟩
def Jg (d:DV):Prop:=∀ (M:Ψ) (w:World) (ρ:List AI) (v:Value),AL M w d ρ v -> AL M w d [] v
def zMg (L:Nat)(S:St)(k:List DV)(d:DV)(h':DH):Prop:= (AN (IF k) d/\ S.h=h')∨(PZ S.h/\ AN (IF k) d/\ Jg d/\ L<=S.h.length/\ (GN (List.range L) S).h=h')
def Cx (P:Program)(fn:Func)(L:Nat)(d:DV)(h':DH)(e:Exit)(S':St):Prop:= (e= .normal∨e= .ret)/\ ∃ T,A7 L S' T/\ ∃ k,NW P T fn.results.toList=some k/\ zMg L T k d h'
def ES.of_tr {f:Nat}{c:Code}{h':DH}{ext:Bool}(M:P.funcs[f]? =some fn)(j:fn.body=some c)(QL:fn.name≠ "runtime.NumGoroutine")(hni:PZ h') 
 (H: ∀ (B:Nat) (N:BK P Γ h.length),Tr P Γ Fence.wide (some B) h.length N c ⟨ds++List.replicate (fn.ntmps-ds.length) .any,h⟩ (λe S Y=>Y=N/\ Cx P fn h.length d h' e S)) (F:ext=true -> h= []):ES P Γ f ds h d h' ext:=by
 refine ⟨⟨fn,M,QL,by rw [j];rfl⟩,λN ρ w args HR G=>?_⟩;refine zLY w.heap.size M j ?_;have Aj:ds.length=args.size:=G.1
 have R:AS P Γ N ⟨ds++List.replicate (fn.ntmps-ds.length) .any,h⟩ ρ { tmps:=args++Array.replicate (fn.ntmps-args.size) undef,defers:=[] } w:=
  ⟨HR,BE.append G (by rw [Aj];exact BE.anys _ _ _ _)⟩
 have:=H w.heap.size (RU P Γ h.length N h ρ w) N ρ _ w R ⟨rfl,A3.refl _ _ _,CA.refl _ _⟩ trivial (Bd.wide (zGd _));refine wpIn_wide.1 (zMb this ?_);rintro e l w' ⟨S',ρ',N',Y',a,J,n,O,q⟩
 have key:Y'=RU P Γ h.length N h ρ w -> Cx P fn h.length d h' e S' -> Ed w.heap.size l.defers w'/\ ∀ W,Mw w.heap.size w' W -> ∃ v,(results fn l.tmps).run P W= .ok v W/\ ∃ Q,Ending.returned v= .returned Q/\ CC P Γ N h ρ w ext d h' Q W:=by
  rintro rfl ⟨_,T,U,rs,V,r | ⟨hi,r,hn,hl,X⟩⟩
  all_goals
   obtain ⟨K,n,q⟩:=n;have K:=K.symm;subst K
  ·obtain ⟨r,rfl⟩:=r;refine ⟨O,λW m=>?_⟩;obtain ⟨ρ'',s,D,u⟩:=U P Γ N ρ' l w' J;have E:=s.shut hni (Γ.lo _ HR.gi) m;obtain ⟨v,x,y⟩:=ZF E V;have st:A3 h ρ w T.h ρ'' W:=(n.trans D).shut m;refine ⟨v,x,v,rfl,⟨⟨ρ'',E.hr,r _ _ _ _ y,st,λk p z=>?_⟩,λA=>?_⟩⟩
   ·have hk:k<h.length:=by rw [←HR.len];grind
    exact u k p hk (q k p hk z)
   ·have:=F A;subst this;exact st.upd.toExt λi _ ⟨k,o,p,C,_⟩=>by simp at C
  ·refine ⟨O,λW m=>?_⟩;obtain ⟨ρ'',s,D,u⟩:=U P Γ N ρ' l w' J;have E:=s.shut hi (Γ.lo _ HR.gi) m;obtain ⟨v,x,y⟩:=ZF E V;have st:A3 h ρ w T.h ρ'' W:=(n.trans D).shut m;obtain ⟨ρ3,R3,I,k3⟩:=A7.compact (L:=h.length) (List.range h.length) T zNl (λk hk=>zGb (zGX.1 hk) hl) (λk hk=>by simp [hk]) P Γ N ρ'' l W E;rw [X] at I;have Z:=R3.hr;rw [X] at Z;refine ⟨v,x,v,rfl,⟨⟨ρ3,Z,?_,st.trans I,λk p z=>?_⟩,λA=>?_⟩⟩
   ·have r0:=hn _ _ _ _ (r _ _ _ _ y);have r1:AL (MS N h' ρ3) W d [] v:=AL.out _ ⟨λ_ _ _ _=>rfl,λb j=>j.elim (λg=>.inl (.inl g)) λg=>(I.grow b g).imp .inr id,λ_ _ g=>by simp at g⟩ r0;exact AL.out _ ⟨λ_ _ _ _=>rfl,λb j=>.inl j,λ_ _ g=>by simp at g⟩ r1
   ·have hk:k<h.length:=by rw [←HR.len];grind
    exact k3 k p hk (u k p hk (q k p hk z))
   ·have:=F A;subst this;exact (st.trans I).upd.toExt λi _ ⟨k,o,p,C,_⟩=>by simp at C
 cases e with
 | normal=>exact key a.1 a.2
 | ret=>exact key a.1 a.2
 | exit id=>exact absurd a.2.1 (by simp)
 | goto t=>exact absurd a.2.1 (by simp)
 | panic ch=>exact absurd a.2.1 (by simp)
 | outgrown=>exact a.elim
def Jd (d:DV):Prop:=∀ (M k:Ψ) (w w':World) (ρ ρ':List AI) (v:Value),AL M w d ρ v -> AL k w' d ρ' v
variable {f:Nat -> DV}{m:Nat}
def Jg.agg (h: ∀ j,j<m -> Jg (f j)):Jg (.agg m f):=λM w ρ _ ⟨cs,e,k,l⟩=>⟨cs,e,k,λj a=>let ⟨u,b,c⟩:=l j a;⟨u,b,h j a M w ρ u c⟩⟩
theorem Jg.tup (h: ∀ j,j<m -> Jg (f j)):Jg (.tup m f):=λM w ρ _ ⟨cs,e,k,l⟩=>⟨cs,e,k,λj a=>let ⟨u,b,c⟩:=l j a;⟨u,b,h j a M w ρ u c⟩⟩
theorem Jd.int (k:IntKind)(n:Int):Jd (.int k n):=λ_ _ _ _ _ _ _ h=>h
theorem Jd.bool (b:Bool):Jd (.bool b):=λ_ _ _ _ _ _ _ h=>h
theorem Jd.tup (h: ∀ j,j<m -> Jd (f j)):Jd (.tup m f):=λM k w w' ρ ρ' _ ⟨cs,e,b,l⟩=>⟨cs,e,b,λj a=>let ⟨u,c,d⟩:=l j a;⟨u,c,h j a M k w w' ρ ρ' u d⟩⟩
variable {M:Ψ}
def Se (X: ∀ b,M b -> b<w.heap.size/\ Γ.ng<=b)(j:Γ.gi w):Aq P Γ M [] [] w:=
 ⟨rfl,λk o hk=>by simp at hk,λk o p b a=>by simp at a,λk k' o o' p p' b _ a=>by simp at a,X,j⟩
def Q2 {b:Nat}:MS M [] [] b↔M b:=⟨λh=>h.elim id λ⟨k,o,p,a,_⟩=>by simp at a,.inl⟩
def ES.frame {f:Nat}(h0:ES P Γ f ds [] d [] true)(a: ∀ x∈ds,Jg x)(h:DH):ES P Γ f ds h d h true:=by
 refine ⟨h0.1,λN ρ w args HR C=>?_⟩;refine (h0.2 (MS N h ρ) [] w args (Se (λb c=>HR.lt2 c) HR.gi) ⟨C.1,λi hi=>?_⟩).mono ?_
 ·have g:=a (ds.getD i .any) (by simp [hi]);exact AL.out _ (D4 (λb c=>Q2.1 c) []) (g _ _ _ _ (C.2 i hi))
 ·rintro e w' ⟨v,rfl,⟨⟨ρ',o,s,g3,g4⟩,H⟩⟩;have F:=H rfl;have j:ρ'= []:=zJE (by rw [o.len];rfl);subst j;exact ⟨v,rfl,⟨⟨ρ,HR.ext F,Rs (AL.out _ (D4 (λb c=>Q2.2 c) []) s),A3.ext F,λ_ _ h=>h⟩,H⟩⟩
def Az (h:DH)(d C:DV):Prop:=∀ (P:Program) (Γ:Av) (N:Ψ) (ρ:List AI) (w:World) (v:Value),Aq P Γ N h ρ w -> AL (MS N h ρ) w d ρ v -> AL (λ_=>False) w C [] v
def Az.nref (u:Jg d):Az h d d:=λ_ _ _ _ _ _ _ i=>AL.out _ (D4 (λ_ c=>c.elim) []) (u _ _ _ _ i)
variable {n:Nat}
def Az.ints {l:Ξ}(hk:h[k]? =some (some (.ints l)))(a:n=l.length):Az h (.msl k 1 0 n) (.ints l):=by
 rintro P Γ N ρ w v H ⟨p,cap,g,e,o,s,_⟩;subst a;obtain ⟨p',S,i⟩:=H.obj k _ hk;have y:p'=p:=zGT (S.symm.trans g);subst y;refine ⟨_,cap,e,o,s,λj b=>⟨p'.blk,p'.off,by simp,id,?_⟩⟩;obtain ⟨u,c,z⟩:=AX.cell i b;rw [c,z]
def Az.bools {l:Ω}(hk:h[k]? =some (some (.bools l)))(a:n=l.length):Az h (.msl k 1 0 n) (.bools l):=by
 rintro P Γ N ρ w v H ⟨p,cap,g,e,o,s,_⟩;subst a;obtain ⟨p',S,i⟩:=H.obj k _ hk;have y:p'=p:=zGT (S.symm.trans g);subst y;refine ⟨_,cap,e,o,s,λj b=>⟨p'.blk,p'.off,by simp,id,?_⟩⟩;obtain ⟨u,c,z⟩:=AX.cell i b;rw [c,z]
def Az.ref {l:List DV}(hk:h[k]? =some (some (.cells l)))(hm:m<=l.length)(M: ∀ j,j<m -> Az h (l.getD j .any) (f j)):Az h (.ref k 0) (.fp m f):=by
 rintro P Γ N ρ w v H ⟨p,g,e⟩;obtain ⟨p',S,i⟩:=H.obj k _ hk;have y:p'=p:=zGT (S.symm.trans g);subst y;refine ⟨p'.blk,p'.off,e,λj a=>⟨id,?_⟩⟩;obtain ⟨u,b,z⟩:=AX.cell i (j:=j) (by omega);exact ⟨u,b,M j a P Γ N ρ w u H z⟩
def ES.snap {f:Nat}{j:List DV}(h0:ES P Γ f j [] d [] true)(h:DH)(m:j.length=ds.length)(k: ∀ i,i<ds.length -> Az h (ds.getD i .any) (j.getD i .any))(r:Jd d):ES P Γ f ds h d h true:=by
 refine ⟨h0.1,λN ρ w args HR C=>?_⟩;refine (h0.2 (λ_=>False) [] w args (Se (λb c=>c.elim) HR.gi) ⟨by rw [m];exact C.1,λi hi=>?_⟩).mono ?_
 ·rw [m] at hi;exact AL.out _ (D4 (λb c=>Q2.1 c) []) (k i hi P Γ N ρ w _ HR (C.2 i hi))
 ·rintro e w' ⟨v,rfl,⟨⟨ρ',g1,s,g3,g4⟩,H⟩⟩;have F:=H rfl;exact ⟨v,rfl,⟨⟨ρ,HR.ext F,r _ _ _ _ _ _ _ s,A3.ext F,λ_ _ h=>h⟩,H⟩⟩
end
section
variable {F:Fence} {n:Nat} {P:Program} {ops:Array Oper} {Q:Exit -> Act -> World -> Prop}
def Kh (F:Fence)(n:Nat)(P:Program)(ops:Array Oper)(Q:Exit -> Act -> World -> Prop)(R:Nat -> World -> World -> Prop)(B8:Nat -> Bool)(g:Nat):Nat -> Array Bool -> Act -> World -> Prop
 | 0,I,a,w=>(∀ j,j<ops.size -> B8 j=false -> I.getD j true=true)/\ wpAnyIn F n P .any ops Q g I a w
 | m+1,I,a,w=>Region.ready .any ops I≠[]/\ ∀ i∈Region.ready .any ops I,wpOpIn F n P ops Q i (λb w'=>R i w w'/\ Kh F n P ops Q R B8 g m (I.setIfInBounds i true) b w') a w
abbrev Xq (F:Fence)(n:Nat)(P:Program)(ops:Array Oper)(Q:Exit -> Act -> World -> Prop)(R:Nat -> World -> World -> Prop):Nat -> Array Bool -> Act -> World -> Prop:=Kh F n P ops Q R (λ_=>false) 0
section
variable {B8:Nat -> Bool} {g:Nat}
variable {R:Nat -> World -> World -> Prop}
def mX {R':Nat -> World -> World -> Prop}(hR: ∀ i w w',R' i w w' -> R i w w'): ∀ (m:Nat) (I:Array Bool) (a:Act) (w:World),Kh F n P ops Q R' B8 g m I a w -> Kh F n P ops Q R B8 g m I a w
 | 0,_,_,_,h=>h
 | m+1,_,_,_,h=>⟨h.1,λi hi=>zM9 (λ_ _ h'=>⟨hR _ _ _ h'.1,mX hR m _ _ _ h'.2⟩) (h.2 i hi)⟩
variable {I:Array Bool}
def zCu (h: ∀ j,j<ops.size -> I.getD j true=true):Region.ready .any ops I= []:=by
 simp_all [Region.ready]
variable {w:World}{a:Act}
def xa (h: ∀ j,j<ops.size -> I.getD j true=true)(L:Q .normal a w):Xq F n P ops Q R 0 I a w:=⟨λj e _=>h j e,zCu h,L⟩
def mf : ∀ (m:Nat) (I:Array Bool) (a:Act) (w:World),Kh F n P ops Q R B8 g m I a w -> wpAnyIn F n P .any ops Q (m+g) I a w
 | 0,_,_,_,h=>by rw [zG4];exact h.2
 | m+1,_,_,_,h=>by
  rw [show m+1+g=(m+g)+1 by omega];exact ⟨λh0=>absurd h0 h.1,λi hi=>zM9 (λb w' h'=>mf m _ b w' h'.2) (h.2 i hi)⟩
variable {v:Value}{U:Oper}{i:Nat}
def xZ (E: ∀ f,F.fn f)(J:DE ops=true){T:World -> Prop}(K: ∀ c a d v w,Q (.panic c) (Act.put a d v) w -> Q (.panic c) a w)(hi:ops[i]? =some U)(z: ∀ (j:Nat) (o:Oper) cs b,ops[j]? =some o -> o.op≠.select cs b)(hRi: ∀ w,R i w w)(uH: ∀ j,j<ops.size -> B8 j=true -> Gl ops ops.size j i=true):
 ∀ (m:Nat) (I:Array Bool) (a:Act) (w:World),HJ ops I ->
  (∀ j y,ops[j]? =some y -> j≠i -> I.getD j true=false -> (∀ e∈y.after,Region.binds .any e=true -> e.on≠i) -> U.apart ops y=true) ->
  (∀ j,j<ops.size -> j≠i -> I.getD j true=false -> Gl ops ops.size j i=false -> ∀ w w',T w -> R j w w' -> T w') ->
  i∈Region.ready .any ops I -> YieldsIf P ops T U v a -> T w ->
  Kh F n P ops Q R B8 g m (I.setIfInBounds i true) (a.put U.dst v) w -> Kh F n P ops Q R B8 g (m+1) I a w:=by
 intro m
 induction m with
 | zero=>
  intro I a w A _ _ l hy B H;have L:=(zNX.1 l).1;refine ⟨λh=>(by rw [h] at l;cases l),λj p=>?_⟩
  by_cases q:j=i
  ·grind [Xl,Hw]
  ·exfalso
   obtain ⟨r,y,G,M⟩:=zNX.1 p;have s:=(zGS.1 G).1;cases N:B8 j with
   | true=>
    grind [Xt]
   | false=>
    have:=H.1 j s N
    simp_all [Ne.symm]
 | succ m O=>
  intro I a w A C D l hy B H;have L:=(zNX.1 l).1;refine ⟨λh=>(by rw [h] at l;cases l),λj p=>?_⟩
  by_cases q:j=i
  ·grind [Xl,Hw]
  ·have S:=H.2 j (ready_mono p q);obtain ⟨r,y,G,M⟩:=zNX.1 p;have s:=(zGS.1 G).1
   have W:Gl ops ops.size j i=false:=by
    grind [Xt]
   have X: ∀ e∈y.after,Region.binds .any e=true -> e.on≠i:=λe he hb bK=>by
    grind
   have Y:=mY E (Hw J G) G (C j y G q r X) (λcs b=>z i U cs b hi) (λcs b=>z j y cs b G) (λc a w h=>K c a _ _ w h) hy S
   have V: ∀ {k:Nat},(I.setIfInBounds j true).getD k true=false -> I.getD k true=false:=λ{k} Z=>by
    by_cases ji:j=k
    ·subst ji;exact r
    simp_all
   refine zM9 (λa' w' t=>⟨t.2.1,O (I.setIfInBounds j true) a' w' (A.set p) (λk ok hk u Z N9=>C k ok hk u (V Z) N9) (λk Fc u Z x=>D k Fc u (V Z) x) (ready_mono l (Ne.symm q)) t.1 (D j s q r W w w' B t.2.1) ?_⟩) Y
   grind [Array.setIfInBounds_comm]
variable {m:Nat}
def mZ {id:Nat}(v:P.follows .mixedOrders=true)(k:m+g=ops.size)(h:Kh F n P ops Q R B8 g m (Array.replicate ops.size false) a w.drew):(Code.region id ops true).wpIn F n P Q a w:=
 wpIn_region_any v (by
  have:=mf (g:=g) m _ _ _ h;rw [k] at this;exact this)
def ma {c:Code}(h:c.wpIn F n P (NP Q) a w):c.wpIn F n P Q a w:=zMb h λe _ _ L=>by
 cases e <;> first | exact L | exact L.elim
def vk:HJ ops (Array.replicate ops.size false):=λj oj _ m=>by
 exfalso
 rcases zIg j ops.size with h | h
 ·simp [h] at m
 ·simp [h] at m
def Va (ops:Array Oper)(i:Nat):Bool:=match ops[i]? with
 | some o=>VZ o.op
 | none=>false
def RZ (ops:Array Oper)(early:Nat -> Bool)(Z:Nat -> Ψ)(j:Nat)(w w':World):Prop:=(Va ops j=true -> w'=w)/\ (early j=true -> AQ (Z j) w w')
def ZI (ops:Array Oper)(early:Nat -> Bool)(i:Nat)(I:Array Bool):Bool:= (Region.ready .any ops I).contains i&&Region.free .any ops I i&&Va ops i&& ((List.range ops.size).all λj=>I.getD j true||j==i||Va ops j||early j||Gl ops ops.size j i)
def qS (R: ∀ f,F.fn f)(x:DE ops=true)(k:Region.noSelect ops=true){early:Nat -> Bool}{Z:Nat -> Ψ}{Zi:Ψ}(l: ∀ c a d v w,Q (.panic c) (Act.put a d v) w -> Q (.panic c) a w)(hi:ops[i]? =some U)(p:HJ ops I)(o:ZI ops early i I=true)(X: ∀ j,Gl ops ops.size j i=false -> ∀ b,Z j b -> Zi b)(q: ∀ j,j<ops.size -> B8 j=true -> Gl ops ops.size j i=true) 
 (hy:YieldsIf P ops (AQ Zi w) U v a) (h:Kh F n P ops Q (RZ ops early Z) B8 g m (I.setIfInBounds i true) (a.put U.dst v) w):Kh F n P ops Q (RZ ops early Z) B8 g (m+1) I a w:=by
 simp only [ZI,zFW,zGV,zGX,zGz,zGo] at o;obtain ⟨⟨⟨r,s⟩,h3⟩,A⟩:=o;refine xZ R x l hi (Region.noSelect_spec k) (λw=>⟨λ_=>rfl,λ_=>AQ.refl _ _⟩) q m I a w p (Region.free_spec hi s) (λj t u y S w1 w2 e hR=>?_) (by simpa using r) hy (AQ.refl _ _) h;rcases A j t with (((h | h) | h) | h) | h
 ·rw [y] at h;cases h
 ·exact absurd h u
 ·rw [hR.1 h];exact e
 ·exact e.trans ((hR.2 h).mono λb _ z=>X j S b z)
 ·rw [S] at h;cases h
def lK (j:HJ ops I)(h:(Region.ready .any ops I).contains i=true):HJ ops (I.setIfInBounds i true):=j.set (by simpa using h)
end
end
abbrev zIY:=@Option.map_eq_some_iff
abbrev zMm:=@Bool.eq_false_iff
section
inductive ST where
 | fin (π live:Θ)
 | rd (i:Nat) (t:ST)
 | ef (i:Nat) (t If:ST)
 | no
def Xb:ST -> Θ
 | .ef i _ E=>i::Xb E
 | _=>[]
def Ew (ops:Array Oper)(early:Θ):Bool -> Nat -> ST -> Array Bool -> Bool
 | false,0,.fin _ _,L=>(List.range ops.size).all λj=>L.getD j true
 | false,m+1,.rd i t,L=>ZI ops (λj=>early.contains j) i L&&Ew ops early false m t (L.setIfInBounds i true)
 | b,m+1,.ef i t E,L=>(b||Region.ready .any ops L==Xb (.ef i .no E))&&!Va ops i&&Ew ops early false m t (L.setIfInBounds i true)&&Ew ops early true (m+1) E L
 | true,_,.no,_=>true
 | _,_,_,_=>false
def F2 (p:Nat -> Bool)(h:DH):DH:=(List.range h.length).map λi=>if p i then h.getD i none else none
def zFk (xs:Θ)(h:DH):DH:=F2 (λi=>!xs.contains i) h
def RT (S:St)(o:Oper):Option Nat:=match o.op with
 | .store _ x _=>match AZ S.fr x with
  | .ref k _=>some k
  | .mp k _ _ _=>some k
  | _=>none
 | _=>none
def I9:DV -> Θ
 | .msl k _ _ _=>[k]
 | _=>[]
def dF (S:St)(o:Oper):Option Θ:=match o.op with
 | .call c=>match c.callee with
  | .builtin .append=>match c.args.toList with
   | [x,y]=>some (I9 (AZ S.fr x)++I9 (AZ S.fr y))
   | _=>none
  | _=>none
 | _=>none
def Tp (P:Program)(S:St)(A:List (Nat×Fz))(o:Oper):Option Θ:=match Yp P S A o,YF P S o with
 | none,none=>dF S o
 | _,_=>none
def zFq (F:Θ)(h h':DH):Bool:=(List.range h.length).all λk=>F.contains k|| !(h.getD k none).isSome||(h'.getD k none).isSome
def ou (σ:Θ)(L n:Nat):Bool:=decide σ.Nodup&&σ.all (λk=>decide (k<n))&&(List.range L).all λk=>decide (σ[k]? =some k)
def Kf (xs:List (Nat×Nat))(F:Θ)(j:Nat):Θ:=(xs.filter λq=>q.1==j).map (·.2)++F
def M3 (ops:Array Oper)(xs:List (Nat×Nat))(F:Θ)(i:Nat):Θ:=(xs.filter λq=>!Gl ops ops.size q.1 i).map (·.2)++F
def vN (P:Program)(A:List (Nat×Fz))(early:Θ)(xs:List (Nat×Nat))(F:Θ)(S e:St)(i:Nat)(o:Oper)(ext:Bool):Bool:=
 zFq F S.h e.h&&(!(early.contains i)||ext||(match RT S o with | some k=>(Kf xs F i).contains k&&(S.h.getD k none).isSome | none=>false)||(match Tp P S A o with | some l=>l.all λk=>(Kf xs F i).contains k | none=>false))
def YZ (π:Θ)(j:Nat):Θ:=List.range j++π.map (· +j)
def NA (P:Program)(Γ:Av)(ops:Array Oper)(early:Θ)(xs:List (Nat×Nat))(F:Θ)(j:Nat)(S':St):ST -> St -> BQ -> Option (List Prop×BQ)
 | .no,_,N=>some ([],N)
 | .fin π B,S,N=>if ou (YZ π j) j S.h.length then some ([GN (YZ π j) ⟨forget B S.fr,S.h⟩=S'],N) else none
 | .rd i t,S,N=>match ops[i]? with
  | none=>none
  | some o=>match VO P ops ⟨S.fr,zFk (M3 ops xs F i) S.h⟩ N.co o with
   | none=>none
   | some (e,vs,m)=>match NA P Γ ops early xs F j S' t ⟨e.fr,S.h⟩ ⟨N.calls,m,N.fz,N.tg⟩ with
    | none=>none
    | some (Z,u)=>some (vs++Z,u)
 | .ef i t E,S,N=>match ops[i]? with
  | none=>none
  | some o=>match Qs P Γ ops S N o with
   | none=>none
   | some (e,vs,ext,a)=>if vN P N.fz early xs F S e i o ext then
    match NA P Γ ops early xs F j S' t e a with
    | none=>none
    | some (f,b)=>match NA P Γ ops early xs F j S' E S b with
     | none=>none
     | some (c,C)=>some (vs++(f++c),C)
    else none
def B3 (ops:Array Oper)(early:Θ)(t:ST):Prop:=(Ew ops early false ops.size t (Array.replicate ops.size false)&&Region.noSelect ops&&DE ops)=true
def UM (P:Program)(Γ:Av)(ops:Array Oper)(early:Θ)(t:ST)(S:St)(N:BQ):Option (St×List Prop×BQ):=match N.tg with
 | []=>none
 | (U,S')::rest=>match NA P Γ ops early U (List.range' S.h.length ops.size) S.h.length S' t S ⟨N.calls,N.co,N.fz,rest⟩ with
  | none=>none
  | some (vs,u)=>some (S',vs,u)
variable {h:DH}{p:Nat -> Bool}
theorem Qb {i:Nat}{o:DO}(hi:(F2 p h)[i]? =some (some o)):h[i]? =some (some o)/\ p i=true:=by
 unfold F2 at hi
 grind
theorem pE :(F2 p h).length=h.length:=by simp [F2]
theorem kS {k:Nat}(hp:p k=true)(hk:k<h.length):(F2 p h)[k]? =h[k]? :=by
 grind [F2]
section
variable {P:Program} {Γ:Av} {N:Ψ} {S:St} {ρ:List AI} {a:Act} {w:World}
def AS.sel (R:AS P Γ N S ρ a w)(p:Nat -> Bool):AS P Γ (λb=>N b∨∃ k o q,p k=false/\ S.h[k]? =some (some o)/\ ρ[k]? =some q/\ q.foot b) ⟨S.fr,F2 p S.h⟩ ρ a w:=by
 have X: ∀ b,MS (λb=>N b∨∃ k o q,p k=false/\ S.h[k]? =some (some o)/\ ρ[k]? =some q/\ q.foot b) (F2 p S.h) ρ b -> MS N S.h ρ b:=by
  rintro b ((h | ⟨k,o,q,g,d,f,A⟩) | ⟨k,o,q,g,d,f⟩)
  ·exact .inl h
  ·exact .inr ⟨k,o,q,d,f,A⟩
  ·exact .inr ⟨k,o,q,(Qb g).1,d,f⟩
 refine ⟨⟨by rw [pE];exact R.hr.len,λi o hi=>?_,λi o q b l s j=>?_,λi v o1 F J p2 b D l s j x H y=>R.hr.dis i v o1 F J p2 b D (Qb l).1 (Qb s).1 j x H y,?_,R.hr.gi⟩,R.fr.out (D4 X ρ)⟩
 ·obtain ⟨q,L,B⟩:=R.hr.obj i o (Qb hi).1;exact ⟨q,L,B.out (D4 X ρ) (S:=λ_=>False) (AQ.refl _ _) (λ_ h=>h.elim) λ_ _ _ h=>h⟩
 ·obtain ⟨hi,r⟩:=Qb l;obtain ⟨n,C,u⟩:=R.hr.cel i o q b hi s j;refine ⟨n,?_,u⟩;rintro (h | ⟨k,o',m,g,d,f,A⟩)
  ·exact C h
  ·exact R.hr.dis i k o o' q m b (λe=>by subst e;rw [r] at g;cases g) hi d s f j A
 ·rintro b (h | ⟨k,o',m,g,d,f,A⟩)
  ·exact R.hr.nlt b h
  ·obtain ⟨n,_,c,t,z,u⟩:=R.hr.cel k o' m b d f A
   grind
def AS.unsel {p:Nat -> Bool}{fr:List DV}(r:Aq P Γ N S.h ρ w)(R:BE (MS (λb=>N b∨∃ k o q,p k=false/\ S.h[k]? =some (some o)/\ ρ[k]? =some q/\ q.foot b) (F2 p S.h) ρ) w ρ fr a.tmps):AS P Γ N ⟨fr,S.h⟩ ρ a w:=by
 refine ⟨r,R.out (D4 (λb e=>?_) ρ)⟩;rcases e with h | ⟨k,o,q,f,c,d⟩
 ·exact .inl (.inl h)
 ·cases g:p k with
  | false=>exact .inl (.inr ⟨k,o,q,g,f,c,d⟩)
  | true=>
   refine .inr ⟨k,o,q,?_,c,d⟩
   grind [kS]
def Zs (xs:Θ)(h:DH)(ρ:List AI)(w:World)(b:Nat):Prop:=(∃ k o q,k∈xs/\ h[k]? =some (some o)/\ ρ[k]? =some q/\ q.foot b)∨w.heap.size<=b
def zFr {xs:Θ}{W:World}(a:AQ (Zs xs S.h ρ w) w W):Keep (λb=>N b∨∃ k o q,(!xs.contains k)=false/\ S.h[k]? =some (some o)/\ ρ[k]? =some q/\ q.foot b) w W:=by
 intro b o u hb l;have p:b<w.heap.size:=zIm w ⟨b,o,none⟩ l;refine (vw (a.block b p ?_)).trans l;rintro (⟨k,ob,q,h1,h2,h3,h4⟩ | h)
 ·grind
 ·omega
variable {x y:Operand}{t:TypeId}{o:Oper}{ρ':Operand -> Value}
def TQ (a:o.op= .store t x y){nx:Next}{w w':World}(h:(execOp ρ' o).run P w= .ok nx w'):nx= .skip:=by
 unfold execOp at h;rw [a] at h;have h:(Instr.storeAt t (ρ' x) (ρ' y)>>=λ_=>(pure .skip:Sem Next)).run P w= .ok nx w':=h;rw [zG3] at h;cases hs:(Instr.storeAt t (ρ' x) (ρ' y)).run P w with
 | ok v w1=>simp_all
 | halt x w1=>simp_all
variable {G Y:Value -> World -> Prop}
def BO.store (c:o.op= .store t x y){w:World}(h:BO P (execOp ρ' o) w G)(h':BO P (execOp ρ' o) w Y):BO P (execOp ρ' o) w (λv W=>G v W/\ Y v W):=by
 rcases h with ⟨v,w1,a,_⟩ | ⟨w1,a,d⟩ | ⟨f,ag,w1,a,_⟩
 ·cases TQ c a
 ·rcases h' with ⟨v,R,b,_⟩ | ⟨R,b,s⟩ | ⟨f,ag,R,b,_⟩
  ·cases TQ c b
  ·rw [a] at b;cases b;exact .inr (.inl ⟨w1,a,d,s⟩)
  ·cases TQ c b
 ·cases TQ c a
variable {h':DH}{k:Nat}{d:DV}
def zF {x:DV}{O:Prop}(a:(∃ j,x= .ref k j)∨∃ m i j,x= .mp k m i j)(h:O0 P S t x d=some (h',O)):k<S.h.length/\ ∃ b,O0 P ⟨S.fr,F2 (λi=>i==k) S.h⟩ t x d=some (b,O):=by
 have key: ∀ {o:DO},S.h[k]? =some (some o) -> k<S.h.length/\ (F2 (λi=>i==k) S.h)[k]? =some (some o):=λ{o} ho=>by
  grind [kS]
 unfold O0 at h ⊢;rcases a with ⟨j,rfl⟩ | ⟨m,i,j,rfl⟩
 ·simp only at h ⊢;split at h
  ·grind
  ·cases h
 grind
def BO.appendB {c:Call}{d:TypeId}(i:o.op= .call c)(l:c.callee= .builtin .append)(D:c.args.toList= [x,y])(j:c.argTypes.toList= [t,d]){w:World}(h:BO P (execOp ρ' o) w G)(h':BO P (execOp ρ' o) w Y):BO P (execOp ρ' o) w (λv W=>G v W/\ Y v W):=by
 have p: ∀ {nx:Next} {w':World},(execOp ρ' o).run P w= .ok nx w' -> ∃ v,nx= .value v:=λI=>by
  rw [OT i l D j] at I;exact RE (f:=λx=>x) I
 rcases h with ⟨v,w1,a,g⟩ | ⟨w1,a,_⟩ | ⟨f,ag,w1,a,_⟩
 ·rcases h' with ⟨v',R,b,k⟩ | ⟨R,b,_⟩ | ⟨f,ag,R,b,_⟩
  ·rw [a] at b;cases b;exact .inl ⟨v,w1,a,g,k⟩
  ·obtain ⟨_,e⟩:=p b;cases e
  ·obtain ⟨_,e⟩:=p b;cases e
 ·obtain ⟨_,e⟩:=p a;cases e
 ·obtain ⟨_,e⟩:=p a;cases e
theorem bc {p:Nat -> Bool}{h:DH}(hp:p k=true):(F2 p h)[k]? =h[k]? :=by
 grind [kS,pE]
def zL6 {p:Nat -> Bool}{x y:DV}(d: ∀ k∈I9 x,p k=true)(hy: ∀ k∈I9 y,p k=true):(To P ⟨S.fr,F2 p S.h⟩ t x y).map (·.2.2)=(To P S t x y).map (·.2.2):=by
 have w:MP ⟨S.fr,F2 p S.h⟩ y=MP S y:=by
  cases y <;> try rfl
  grind [MP,bc,I9]
 have a:Qm ⟨S.fr,F2 p S.h⟩ y=Qm S y:=by
  cases y <;> try rfl
  grind [Qm,bc,I9]
 have Q: ∀ m,Qc ⟨S.fr,F2 p S.h⟩ m y=Qc S m y:=λm=>by
  cases y <;> try rfl
  grind [Qc,bc,I9]
 have ex: ∀ k m off n,x= .msl k m off n -> (F2 p S.h)[k]? =S.h[k]? :=λk m off n e=>bc (d k (by subst e;simp [I9]))
 unfold To;cases Li P t with
 | none=>rfl
 | some v=>
  obtain ⟨k,e,i,z⟩:=v;simp only
  by_cases c:128<i.bytes
  ·simp only [c,zJH]
  simp only [c,zNA];cases k with
  | ints=>
   simp only [w];cases MP S y with
   | none=>rfl
   | some v=>
    cases x <;> try rfl
    grind
  | bools=>
   simp only [a];cases Qm S y with
   | none=>rfl
   | some v=>
    cases x <;> try rfl
    grind
  | gen b=>
   simp only [Q];cases Qc S b y with
   | none=>rfl
   | some v=>
    cases x <;> try rfl
    grind
variable {ext:Bool}{vs:List Prop}
def zL7 (R:AS P Γ N S ρ a w){g:List (DV×DH×Bool)}{C:List (DV×DH×Bool)}(h:Of P Γ S g o.op=some (d,h',vs,ext,C))(E:Bq vs){l:Θ}(m:dF S o=some l)(F:BO P (execOp a.eval o) w G):
 BO P (execOp a.eval o) w (λv w'=>G v w'/\ AQ (λb=>∃ k o q,k∈l/\ S.h[k]? =some (some o)/\ ρ[k]? =some q/\ q.foot b) w w'):=by
 unfold dF at m;split at m
 rotate_left
 ·cases m
 rename_i c n;split at m
 rotate_left
 ·cases m
 rename_i r;split at m
 rotate_left
 ·cases m
 rename_i x y D;cases m;rw [n] at h;simp only [Of,r,D] at h;split at h
 rotate_left
 ·cases h
 rename_i t t' s;split at h
 rotate_left
 ·cases h
 rename_i H;subst H;split at h
 rotate_left
 ·cases h
 rename_i d1 h1 O Q;cases h;have z:=zL6 (P:=P) (S:=S) (t:=t) (x:=AZ S.fr x) (y:=AZ S.fr y) (p:=λk=>(I9 (AZ S.fr x)++I9 (AZ S.fr y)).contains k) (λk hk=>by simp [hk]) (λk hk=>by simp [hk]);rw [Q] at z;obtain ⟨⟨d2,h2,I⟩,J,u⟩:=zIY.1 z;have u:I=O:=u;subst u;have K:=wm (AS.sel R (λk=>(I9 (AZ S.fr x)++I9 (AZ S.fr y)).contains k)) J E.1 o n r D s;rcases BO.appendB n r D s F K with ⟨v,w1,j,A,B⟩ | ⟨w1,j,A,B⟩ | ⟨f,ag,w1,j,BT⟩
 ·refine .inl ⟨v,w1,j,A,?_⟩;obtain ⟨ρ2,_,_,st,_⟩:=B.ex;refine st.upd.mono λb _ L=>?_
  obtain ⟨i,o',q,q1,q2,q3⟩:=L
  grind [Qb]
 ·rw [OT n r D s] at j;obtain ⟨_,e⟩:=RE (f:=λx=>x) j;cases e
 ·rw [OT n r D s] at j;obtain ⟨_,e⟩:=RE (f:=λx=>x) j;cases e
def dz (h:RT S o=some k): ∃ t x y,o.op= .store t x y/\ ((∃ j,AZ S.fr x= .ref k j)∨∃ m i j,AZ S.fr x= .mp k m i j):=by
 grind [RT]
variable {m:List (DV×DH×Bool)}
def zMY (a:o.op= .store t x y){q:List (DV×DH×Bool)}(h:Of P Γ S m o.op=some (d,h',vs,ext,q)): ∃ O,O0 P S t (AZ S.fr x) (AZ S.fr y)=some (h',O)/\ vs= [O]:=by
 rw [a] at h;simp only [Of] at h
 grind
def zMZ (R:AS P Γ N S ρ a w){j:List (DV×DH×Bool)}(h:Of P Γ S m o.op=some (d,h',vs,ext,j))(p:Bq vs):
 BO P (execOp a.eval o) w (λv w'=>CC P Γ N S.h ρ w ext d h' v w'/\ ∀ k,RT S o=some k -> AQ (λb=>∃ q,ρ[k]? =some q/\ q.foot b) w w'):=by
 cases hst:RT S o with
 | none=>
  have D:=mJ R h p
  simp_all
 | some k=>
  obtain ⟨t,x,y,c,l⟩:=dz hst;have D:=mJ R h p;obtain ⟨vc,n,rfl⟩:=zMY c h;obtain ⟨_,h2,r⟩:=zF l n;have u:=oJ (AS.sel R (λi=>i==k)) (tx:=x) (x:=y) r p.1 o c;have z:=BO.store c D u;rcases z with ⟨v,w1,e,g,s⟩ | ⟨w1,e,g,s⟩ | ⟨f,ag,w1,e,_⟩
  ·cases TQ c e
  ·refine .inr (.inl ⟨w1,e,g,λk' L=>?_⟩);cases L;obtain ⟨ρ2,_,_,st,_⟩:=s.ex;refine st.upd.mono λb _ A=>?_
   obtain ⟨i,o',q,B,q2,q3⟩:=A;have:=(Qb B).2
   grind
  ·cases TQ c e
variable {Q:Exit -> Act -> World -> Prop}{S':St}{ops:Array Oper}{F:Fence}
def zL2 (j:Dv F P)(R:AS P Γ N S ρ a w){Y:BQ}(r: ∀ c,o.op≠.defer c){CM:BQ}(h:Qs P Γ ops S Y o=some (S',vs,ext,CM))(u:Bq vs) 
 {K:Act -> World -> Prop}  (m: ∀ ρ' z w',AS P Γ N S' ρ' z w' -> DI S.h ρ w S'.h ρ' w' -> z.defers=a.defers -> (ext=true -> A0 w w') -> (∀ k,RT S o=some k -> AQ (λb=>∃ q,ρ[k]? =some q/\ q.foot b) w w') -> (∀ l,Tp P S Y.fz o=some l -> AQ (λb=>∃ k o q,k∈l/\ S.h[k]? =some (some o)/\ ρ[k]? =some q/\ q.foot b) w w') -> K z w'):
 if Region.wanted o (yielded ops a.tmps) then o.wpIn F 0 P a w K Q else (∀ f,o.about P w a.eval=some f -> F.fn f)/\ K (a.put o.dst undef) w:=by
 have n: ∀ v,(a.put o.dst v).defers=a.defers:=λv=>by cases ho:o.dst <;> simp [Act.put]
 unfold Qs at h;split at h
 ·cases h
 ·rename_i A;cases h;rw [zGW (by rw [Io R A];exact zMx)];exact ⟨λf _=>j.fn f,m ρ _ _ (HN R _ Xz) (DI.refl _ _ _) (n _) (λ_=>A0.refl w) (λ_ _=>AQ.refl _ _) λ_ _=>AQ.refl _ _⟩
 ·rename_i A;rw [zEd (Io R A)];split at h
  ·rename_i S1 Z fz1 X;cases h;refine Lj j r (pS R X u) λv w' ⟨⟨ρ',g,s⟩,hst⟩=>m ρ' _ _ g s (n v) (λe=>by cases e) (λB L=>?_) λl C=>?_
   obtain ⟨t0,E,H,I,_⟩:=dz L;rcases hst with hst | ⟨k,i,p,t,x,y,q1,q2,J,O⟩
   ·exact absurd I (hst t0 E H)
   have e:B=k:=by
    grind
   subst e;exact O.mono λb _ T=>⟨p,J,T⟩
   grind [Tp]
  split at h
  ·rename_i S1 Z X;cases h;refine Lj j r (oH R X u) λv w' ⟨⟨ρ',g,s⟩,hst⟩=>m ρ' _ _ g s (n v) (λe=>by cases e) (λB L=>?_) λl C=>?_
   obtain ⟨t0,E,H,I,_⟩:=dz L;rcases hst with hst | ⟨k,i,p,t,x,y,q1,q2,J,O⟩
   ·exact absurd I (hst t0 E H)
   have e:B=k:=by
    grind
   subst e;exact O.mono λb _ T=>⟨p,J,T⟩
   grind [Tp]
  split at h
  ·cases h
  ·rename_i d h1 Z ext1 calls bQ;split at h;rename_i d' Bz Ds OJ;split at h
   ·cases h
   ·rename_i S2 RD Lb Hj;cases h;obtain ⟨Bt,V4⟩:=DX.1 u;obtain ⟨CY,JI⟩:=DX.1 V4;have D:=zMZ R bQ Bt;cases QU:dF S o with
    | none=>
     refine Lj j r D λv w' G=>?_
     obtain ⟨ρ',g,s⟩:=OM R o.dst G.1 (d':=d') λM ρ' U=>XK OJ CY U
     obtain ⟨V,W⟩:=Wh _ Hj JI P Γ N ρ' _ _ g;refine m ρ' _ _ V (s.trans ⟨W,λ_ _ h=>h⟩) (n v) G.1.ext G.2 λl C=>?_
     grind [Tp]
    | some l0=>
     refine Lj j r (zL7 R bQ Bt QU D) λv w' G=>?_
     obtain ⟨ρ',g,s⟩:=OM R o.dst G.1.1 (d':=d') λM ρ' U=>XK OJ CY U
     obtain ⟨V,W⟩:=Wh _ Hj JI P Γ N ρ' _ _ g;refine m ρ' _ _ V (s.trans ⟨W,λ_ _ h=>h⟩) (n v) G.1.1.ext G.1.2 λl C=>?_
     grind [Tp]
variable {early:Θ}
def nB (hF:Dv F P)(BA:DE ops=true)(hs:Region.noSelect ops=true){xs:List (Nat×Nat)}{f:Θ}{D:Nat}:
 ∀ (t:ST) (m:Nat) (L:Array Bool) {S:St} {ρ:List AI} {a:Act} {w:World} {vs:List Prop} {M CM:BQ},HJ ops L -> AS P Γ N S ρ a w -> NA P Γ ops early xs f D S' t S M=some (vs,CM) -> Bq vs ->
 (∀ ρ' g w',AS P Γ N S' ρ' g w' -> A3 S.h ρ w S'.h ρ' w' -> (∀ k p,k<D -> ρ[k]? =some p -> ρ'[k]? =some p) -> g.defers=a.defers -> Q .normal g w') ->
 (Ew ops early false m t L=true -> Xq F 0 P ops (NP Q) (RZ ops (λj=>early.contains j) (λj=>Zs (Kf xs f j) S.h ρ w)) m L a w)/\
 (Ew ops early true m t L=true -> ∀ i∈Xb t,i∈Region.ready .any ops L -> ∃ Z,m=Z+1/\ wpOpIn F 0 P ops (NP Q) i (λg w'=>RZ ops (λj=>early.contains j) (λj=>Zs (Kf xs f j) S.h ρ w) i w w'/\ Xq F 0 P ops (NP Q) (RZ ops (λj=>early.contains j) (λj=>Zs (Kf xs f j) S.h ρ w)) Z (L.setIfInBounds i true) g w') a w):=by
 intro t
 induction t with
 | no=>
  intro m L S ρ a w vs M gJ n R K E u;exact ⟨λh=>by cases m <;> simp [Ew] at h,λ_ i hi=>by cases hi⟩
 | fin π B=>
  intro m L S ρ a w vs M gJ n R K E u;refine ⟨λh=>?_,λh=>by cases m <;> simp [Ew] at h⟩;cases m with
  | succ m=>simp [Ew] at h
  | zero=>
   simp only [Ew,zGV,zGX] at h;refine xa h ?_;simp only [NA] at K;split at K
   ·rename_i Y;cases K;simp only [ou,zFW,zH6,zGV,zGX] at Y;obtain ⟨ρ0,R0,FC,G⟩:=A7.forget (L:=D) B S.fr S.h P Γ N ρ a w R;obtain ⟨ρ',R',Ey,k'⟩:=A7.compact (L:=D) (YZ π D) ⟨forget B S.fr,S.h⟩ Y.1.1 (λk hk=>Y.1.2 k hk) (λk hk=>Y.2 k hk) P Γ N ρ0 a w R0;have st:=FC.trans Ey;have e:GN (YZ π D) ⟨forget B S.fr,S.h⟩=S':=E.1;rw [e] at R' st Ey;exact u ρ' a w R' st (λk p hk y=>k' k p hk (G k p hk y)) rfl
   ·cases K
 | rd i t ih=>
  intro m L S ρ a w vs M gJ n R K E u;refine ⟨λh=>?_,λh=>by cases m <;> simp [Ew] at h⟩;cases m with
  | zero=>simp [Ew] at h
  | succ m=>
   simp only [Ew,zFW] at h;simp only [NA] at K;split at K
   ·cases K
   ·rename_i o H
    ·split at K
     ·cases K
     ·rename_i O DZ cc y;split at K
      ·cases K
      ·rename_i FU Gu h2;cases K;obtain ⟨Bt,CY⟩:=DX.1 E;have RK:=AS.sel R (λk=>!(M3 ops xs f i).contains k);obtain ⟨e1,hst⟩:=ZO RK y Bt;have Cv: ∀ v,(a.put o.dst v).defers=a.defers:=λv=>by cases H:o.dst <;> simp [Act.put]
       have U:(Region.ready .any ops L).contains i=true:=by
        simp_all [ZI]
       have back: ∀ v,BE (MS (λb=>N b∨∃ k o q,(!(M3 ops xs f i).contains k)=false/\ S.h[k]? =some (some o)/\ ρ[k]? =some q/\ q.foot b) O.h ρ) w ρ O.fr (a.put o.dst v).tmps -> AS P Γ N ⟨O.fr,S.h⟩ ρ (a.put o.dst v) w:=λv z=>by
        rw [e1] at z;exact AS.unsel (p:=λk=>!(M3 ops xs f i).contains k) R.hr z
       have hZ: ∀ j,Gl ops ops.size j i=false -> ∀ b,Zs (Kf xs f j) S.h ρ w b -> Zs (M3 ops xs f i) S.h ρ w b:=by
        rintro j hj b (⟨k,ob,q,k1,G,k2,k3⟩ | hb)
        ·refine .inl ⟨k,ob,q,?_,G,k2,k3⟩;unfold Kf at k1;unfold M3;rcases zIQ.1 k1 with k1 | k1
         ·obtain ⟨p,p1,p2⟩:=zIS.1 k1
          grind
         ·exact zIQ.2 (.inr k1)
        ·exact .inr hb
       rcases hst with ⟨I,v,g1,J⟩ | ⟨I,J⟩
       ·refine qS (Zi:=Zs (M3 ops xs f i) S.h ρ w) hF.fn BA hs (λc a d v w h=>NP.put c a d v w h) H n h.1 hZ (λ_ _ h=>by cases h) (.inl ⟨I,λW hu=>g1 W (zFr hu)⟩) ?_;exact (ih m _ (lK n U) (back v J.fr) h2 CY λρ' g w' r s C V=>u ρ' g w' r s C (V.trans (Cv v))).1 h.2
       ·refine qS (Zi:=Zs (M3 ops xs f i) S.h ρ w) hF.fn BA hs (v:=undef) (λc a d v w h=>NP.put c a d v w h) H n h.1 hZ (λ_ _ h=>by cases h) (.inr ⟨I,rfl⟩) ?_;exact (ih m _ (lK n U) (back undef J.fr) h2 CY λρ' g w' r s C V=>u ρ' g w' r s C (V.trans (Cv undef))).1 h.2
 | ef i t X P4 P0=>
  intro m L S ρ a w vs M gJ n R K E u;simp only [NA] at K;split at K
  ·cases K
  ·rename_i o H;split at K
   ·cases K
   ·rename_i O DZ ext Gv h1;split at K
    ·rename_i bN;simp only [vN,zFW,zGz] at bN;obtain ⟨zIP,zIj⟩:=bN;split at K
     ·cases K
     rename_i FU Gu h2;split at K
     ·cases K
     ·rename_i RC MF h3;cases K;obtain ⟨Bt,D8⟩:=DX.1 E;obtain ⟨CY,JI⟩:=DX.1 D8;have A:=P0 m L n R h3 JI u
      have one: ∀ b,Ew ops early b m (.ef i t X) L=true -> (Region.ready .any ops L).contains i=true -> ∃ Z,m=Z+1/\ Ew ops early true m X L=true/\ wpOpIn F 0 P ops (NP Q) i (λg w'=>RZ ops (λj=>early.contains j) (λj=>Zs (Kf xs f j) S.h ρ w) i w w'/\ Xq F 0 P ops (NP Q) (RZ ops (λj=>early.contains j) (λj=>Zs (Kf xs f j) S.h ρ w)) Z (L.setIfInBounds i true) g w') a w:=by
       intro b hb z;cases m with
       | zero=>cases b <;> simp [Ew] at hb
       | succ m=>
        have El:(!Va ops i)=true/\ Ew ops early false m t (L.setIfInBounds i true)=true/\ Ew ops early true (m+1) X L=true:=by
         cases b <;> simp only [Ew,zFW] at hb <;> exact ⟨hb.1.1.2,hb.1.2,hb.2⟩
        obtain ⟨b1,b2,b3⟩:=El;refine ⟨m,rfl,b3,?_⟩;unfold wpOpIn;simp only [H];refine zL2 hF R (Hw BA H) h1 Bt λρ' g w' R' st EL LU zGm zIz=>?_
        refine ⟨⟨λy=>(by rw [y] at b1;cases b1),λhe=>?_⟩,?_⟩
        ·rcases zIj with ((h | h) | h) | h
         ·grind
         ·exact AQ.ofExt (LU h)
         ·split at h
          ·rename_i k hk;rw [zFW] at h;refine (zGm k hk).mono λb _ hb=>?_
           obtain ⟨q,r,s⟩:=hb;cases hg:S.h.getD k none with
           | none=>rw [hg] at h;cases h.2
           | some ob=>exact .inl ⟨k,ob,q,by simpa using h.1,getD_some hg,r,s⟩
          ·cases h
         ·split at h
          ·rename_i l hl;refine (zIz l hl).mono λb _ hb=>?_
           obtain ⟨k,ob,q,q0,r,s,C⟩:=hb;exact .inl ⟨k,ob,q,by simpa using zGV.1 h k q0,r,s,C⟩
          ·cases h
        ·have T:=(P4 m _ (lK n z) R' h2 CY λρ2 a2 w2 r s C V=>u ρ2 a2 w2 r (st.st.trans s) (λk p hk y=>C k p hk (st.pl k p y)) (V.trans EL)).1 b2;refine mX (λj w1 w2 hR=>⟨hR.1,λhe=>(hR.2 he).mono λb KJ hb=>?_⟩) _ _ _ _ T;rcases hb with ⟨k,ob,q,k1,G,k2,k3⟩ | hb
         ·rcases st.st.grow b ⟨k,ob,q,G,k2,k3⟩ with ⟨x,o2,p2,g1,J,g3⟩ | h
          ·by_cases CT:x∈Kf xs f j
           ·exact .inl ⟨x,o2,p2,CT,g1,J,g3⟩
           ·exfalso
            have JN:=(zGq.1 g1).1;have JG:=zGV.1 zIP x (zGX.2 JN);have e2:S.h.getD x none=some o2:=by grind
            have jT:f.contains x=false:=zMm.2 λh=>CT (zIQ.2 (.inr (by simpa using h)))
            rw [e2,jT] at JG;cases tr:O.h.getD x none with
            | none=>rw [tr] at JG;cases JG
            | some ob2=>exact R'.hr.dis x k ob2 ob p2 q b (λe=>CT (e▸k1)) (getD_some tr) G (st.pl x p2 J) k2 g3 k3
          ·exact .inr h
         ·exact .inr (zGU st.st.upd.size hb)
      refine ⟨λh=>?_,λh j hj z=>?_⟩
      ·have U:Region.ready .any ops L=i::Xb X:=by
        cases m <;> simp only [Ew,zFW,zGz,zGo,Xb,zI1,false_or] at h;exact h.1.1.1
       obtain ⟨Z,e,ha,I⟩:=one false h (by rw [U];simp);subst e;refine ⟨by rw [U];simp,λj hj=>?_⟩
       grind
      ·rcases zIn.1 hj with rfl | hj
       ·obtain ⟨Z,e,ha,I⟩:=one true h (by simpa using z);exact ⟨Z,e,I⟩
       ·have ha:Ew ops early true m X L=true:=by
         cases m <;> simp only [Ew,zFW] at h
         ·cases h
         ·exact h.2
        exact A.2 ha j hj z
    ·cases K
def Tr.tree {B:Option Nat}{L:Nat}{Y:BK P Γ L}{Q:QY P Γ L}(d:Dv F P){id:Nat}{t:ST}{e u:BQ}(v:P.follows .mixedOrders=true)(I:B3 ops early t) 
 (h:UM P Γ ops early t S e=some (S',vs,u)) (f:Bq vs) (hk:Q .normal S' Y):Tr P Γ F B L Y (.region id ops true) S Q:=λN ρ a w R y m b=>by
 simp only [B3,zFW] at I;obtain ⟨⟨g,i⟩,j⟩:=I;unfold UM at h;split at h
 ·cases h
 split at h
 ·cases h
 ·rename_i K;cases h;have c:A0 w w.drew:=A0.toDrew w;refine ma (mZ v (zNt _) ((nB d j i t ops.size _ vk (R.ext c) K f λρ' a' w' R' st C l=>?_).1 g));have s:A3 S.h ρ w S'.h ρ' w':=(A3.ext c).trans st;exact Tr.done R y m b hk R' s (λk p _ n=>C k p (by rw [←R.hr.len];grind) n) l
end
end
abbrev zJK:=@Go.wpIn_region_list
abbrev zNH:=@Go.IntKind.wrap_i64
inductive KI where
 | code (c:Code)
 | blk (id:Nat)
 | scp
 | lend (J:St -> Prop)
 | loopN (m:Nat) (b:Code)
def Hn (P:Program)(Γ:Av)(F:Fence)(B:Option Nat)(L:Nat)(b:Code)(Q:QY P Γ L):Nat -> St -> BK P Γ L -> Prop
 | 0,_,_=>False
 | m+1,S,Y=>Tr P Γ F B L Y b S (RO (Hn P Γ F B L b Q m) Q)
def Hn.loop {P:Program}{Γ:Av}{F:Fence}{B:Option Nat}{L:Nat}{Y:BK P Γ L}{b:Code}{Q:QY P Γ L}{m:Nat}{S:St}(h:Hn P Γ F B L b Q m S Y):Tr P Γ F B L Y (.loop b) S Q:=by
 refine Tr.loop (λm S Y=>Hn P Γ F B L b Q m S Y) m h λm S Y v=>?_
 cases m with
 | zero=>exact v.elim
 | succ m=>
  refine Tr.mono v λe S' Y' a=>?_
  cases e with
  | normal=>exact ⟨m,Nat.lt_succ_self m,a⟩
  | _=>exact a
def BF (P:Program)(Γ:Av)(F:Fence)(B:Option Nat)(L:Nat)(Q:QY P Γ L):List KI -> QY P Γ L
 | [],e,S,Y=>Q e S Y
 | .code c::k,e,S,Y=>match e with
  | .normal=>Tr P Γ F B L Y c S (BF P Γ F B L Q k)
  | e=>BF P Γ F B L Q k e S Y
 | .blk id::k,e,S,Y=>match e with
  | .exit i=>if i=id then BF P Γ F B L Q k .normal S Y else BF P Γ F B L Q k (.exit i) S Y
  | e=>BF P Γ F B L Q k e S Y
 | .scp::k,e,S,Y=>match e with
  | .goto _=>False
  | e=>BF P Γ F B L Q k e S Y
 | .lend J::k,e,S,Y=>match e with
  | .normal=>J S
  | e=>BF P Γ F B L Q k e S Y
 | .loopN m b::k,e,S,Y=>match e with
  | .normal=>Hn P Γ F B L b (BF P Γ F B L Q k) m S Y
  | e=>BF P Γ F B L Q k e S Y
def A1 (P:Program)(Γ:Av)(F:Fence)(B:Option Nat)(L:Nat)(Y:BK P Γ L)(Q:QY P Γ L)(k:List KI)(S:St):Prop:=BF P Γ F B L Q k .normal S Y
def stay {P:Program}{Γ:Av}{L:Nat}(N:BK P Γ L)(Q:Exit -> St -> Prop):QY P Γ L:=λe S Y=>Y=N/\ Q e S
abbrev Bi (P:Program)(Γ:Av)(F:Fence)(B:Option Nat)(L:Nat)(N:BK P Γ L)(Q:Exit -> St -> Prop)(k:List KI)(S:St):Prop:=A1 P Γ F B L N (stay N Q) k S
def J1 (id:Nat):List KI -> Option (List KI)
 | []=>none
 | .blk i::k=>if id=i then some k else J1 id k
 | _::k=>J1 id k
inductive mK where
 | no
 | ord (st:List (Θ×Nat)) (la ta:Θ)
 | stop
 | tre (early:Θ) (t:ST)
abbrev BX:=Nat -> mK
def mK.isStop:mK -> Bool
 | .stop=>true
 | _=>false
def Ab (i:Nat)(s:BX):BX:=λj=>if j=i then .stop else s j
def Au (ops:Array Oper)(s:List (Θ×Nat))(u e:Θ):Prop:=(eX ops s u e&&DE ops&&e.all λt=>decide (t<ops.size))=true
inductive KO where
 | at (k:List KI)
 | ret
def CN (P:Program)(Γ:Av)(K:BX):Nat -> List KI -> St -> BQ -> Option (KO×St×List Prop×BQ)
 | 0,_,_,_=>none
 | n+1,k,S,o=>match k with
  | []=>some (.at [],S,[],o)
  | .blk _::k=>CN P Γ K n k S o
  | .scp::k=>CN P Γ K n k S o
  | .lend J::k=>some (.at (.lend J::k),S,[],o)
  | .loopN m b::k=>some (.at (.loopN m b::k),S,[],o)
  | .code c::k=>match c with
   | .skip=>CN P Γ K n k S o
   | .seq a b=>CN P Γ K n (.code a:: .code b::k) S o
   | .block id b=>CN P Γ K n (.code b:: .blk id::k) S o
   | .scope b=>CN P Γ K n (.code b:: .scp::k) S o
   | .label _=>CN P Γ K n k S o
   | .exit id=>match J1 id k with
    | some g=>CN P Γ K n g S o
    | none=>some (.at (.code (.exit id)::k),S,[],o)
   | .ret=>some (.ret,S,[],o)
   | .cond x a b=>match AZ S.fr x with
    | .bool true=>CN P Γ K n (.code a::k) S o
    | .bool false=>CN P Γ K n (.code b::k) S o
    | _=>none
   | .region id ops d=>if (K id).isStop then some (.at (.code (.region id ops d)::k),S,[],o) else match d with
    | false=>if DE ops then match EN P Γ ops ops.toList S o with
     | none=>none
     | some (S',vs,o')=>match CN P Γ K n k S' o' with
      | none=>none
      | some (r,T,Z,G)=>some (r,T,vs++Z,G)
     else none
    | true=>match K id with
     | .no=>none
     | .stop=>none
     | .tre early t=>match UM P Γ ops early t S o with
      | none=>none
      | some (S',vs,o')=>match CN P Γ K n k S' o' with
       | none=>none
       | some (r,T,Z,G)=>some (r,T,B3 ops early t::(vs++Z),G)
     | .ord st e A=>match hseq P Γ ops S.h st e A S o with
      | none=>none
      | some (S',vs,o')=>match CN P Γ K n k S' o' with
       | none=>none
       | some (r,T,Z,G)=>some (r,T,Au ops st e A::(vs++Z),G)
   | c=>some (.at (.code c::k),S,[],o)
section
variable {P:Program} {Γ:Av} {F:Fence} {B:Option Nat} {L:Nat} {Y:BK P Γ L} {Q:QY P Γ L}
variable {vs:List Prop}{S' S:St}{ops:Array Oper}{id:Nat}
def zJQ (c:Dv F P){d u:BQ}{Q:QY P Γ L}(x:DE ops=true)(h:EN P Γ ops ops.toList S d=some (S',vs,u))(e:Bq vs)(hk:Q .normal S' Y):Tr P Γ F B L Y (.region id ops false) S Q:=λN ρ a w R y m b=>
 zJK (LZ c x _ (λo f=>by simpa using f) R h e λρ' a' w' R' st g=>Tr.done R y m b hk R' st.st (λk p _ i=>st.pl k p i) g)
def zGs (c:Dv F P){s:List (Θ×Nat)}{u e:Θ}{f g:BQ}{Q:QY P Γ L}(v:P.follows .mixedOrders=true)(I:Au ops s u e) 
 (h:hseq P Γ ops S.h s u e S f=some (S',vs,g)) (i:Bq vs) (hk:Q .normal S' Y):Tr P Γ F B L Y (.region id ops true) S Q:=λN ρ a w R y m b=>by
 simp only [Au,zFW] at I;obtain ⟨⟨h1,j⟩,l⟩:=I;have d:A0 w w.drew:=A0.toDrew w;refine xd c.fn s u e v (by grind) (zGt c j s u e l (R.ext d) (DI.refl _ _ _) (A0.refl _) h i λρ' a' w' R' st n=>?_);have o:A3 S.h ρ w S'.h ρ' w':=(A3.ext d).trans st.st;exact Tr.done R y m b hk R' o (λk p _ q=>st.pl k p q) n
def PN : ∀ {k g:List KI},J1 id k=some g -> BF P Γ F B L Q g .normal S Y -> BF P Γ F B L Q k (.exit id) S Y
 | [],_,h,_=>by cases h
 | .blk i::k,g,h,a=>by
  unfold J1 at h;split at h
  ·rename_i e;cases h;subst e
   show (if id=id then _ else _)
   rw [zEd rfl];exact a
  ·rename_i e
   show (if id=i then _ else _)
   rw [zGW e];exact PN h a
 | .code c::k,g,h,a=>PN (k:=k) h a
 | .lend J::k,g,h,a=>PN (k:=k) h a
 | .scp::k,g,h,a=>PN (k:=k) h a
 | .loopN m b::k,g,h,a=>PN (k:=k) h a
def NU (h:Q .ret S Y): ∀ (k:List KI),BF P Γ F B L Q k .ret S Y
 | []=>h
 | .blk _::k=>NU h k
 | .code _::k=>NU h k
 | .lend _::k=>NU h k
 | .scp::k=>NU h k
 | .loopN _ _::k=>NU h k
def KOk (P:Program)(Γ:Av)(F:Fence)(B:Option Nat)(L:Nat)(Y:BK P Γ L)(Q:QY P Γ L):KO -> St -> Prop
 | .at k,S=>A1 P Γ F B L Y Q k S
 | .ret,S=>Q .ret S Y
def GE (R:Dv F P)(v:P.follows .mixedOrders=true){K:BX}: ∀ (n:Nat) (k:List KI) (S:St) (o:BQ) (r:KO) (S':St) (vs:List Prop) (o':BQ),CN P Γ K n k S o=some (r,S',vs,o') -> Bq vs -> KOk P Γ F B L Y Q r S' -> A1 P Γ F B L Y Q k S
 | 0,_,_,_,_,_,_,_,h,_,_=>by cases h
 | n+1,k,S,o,r,S',vs,o',h,p,hk=>by
  unfold CN at h;cases k with
  | nil=>cases h;exact hk
  | cons i k=>
   cases i with
   | blk id=>exact GE R v n k S o r S' vs o' h p hk
   | scp=>exact GE R v n k S o r S' vs o' h p hk
   | lend J=>cases h;exact hk
   | loopN m b=>cases h;exact hk
   | code c=>
    show Tr P Γ F B L Y c S (BF P Γ F B L Q k)
    cases c with
    | skip=>exact Tr.skip (GE R v n k S o r S' vs o' h p hk)
    | seq a b=>
     refine Tr.seq (Tr.mono (GE R v n (.code a:: .code b::k) S o r S' vs o' h p hk) λe d D g=>?_);cases e <;> exact g
    | block id b=>
     refine Tr.block (Tr.mono (GE R v n (.code b:: .blk id::k) S o r S' vs o' h p hk) λe d D g=>?_);cases e <;> exact g
    | exit id=>
     simp only at h;split at h
     ·rename_i M N;exact Tr.exit (PN N (GE R v n M S o r S' vs o' h p hk))
     ·cases h;exact hk
    | ret=>cases h;exact Tr.ret (NU hk k)
    | cond x a b=>
     simp only at h;split at h
     ·rename_i z;exact Tr.cond z (λ_=>GE R v n (.code a::k) S o r S' vs o' h p hk) (λe=>by cases e)
     ·rename_i z;exact Tr.cond z (λe=>by cases e) (λ_=>GE R v n (.code b::k) S o r S' vs o' h p hk)
     ·cases h
    | region id ops O=>
     simp only at h;split at h
     ·cases h;exact hk
     ·cases O with
      | false=>
       simp only at h;split at h
       ·rename_i T;split at h
        ·cases h
        ·rename_i j E o1 q;split at h
         ·cases h
         ·rename_i G d H I s;cases h;obtain ⟨u,y⟩:=DX.1 p;exact zJQ R T q u (GE R v n k j o1 _ _ _ _ s y hk)
       ·cases h
      | true=>
       simp only at h;split at h
       ·cases h
       ·cases h
       ·rename_i early t U;split at h
        ·cases h
        ·rename_i j E o1 q;split at h
         ·cases h
         ·rename_i G d H I s;cases h;obtain ⟨A,C⟩:=p;obtain ⟨u,y⟩:=DX.1 C;exact Tr.tree R v A q u (GE R v n k j o1 _ _ _ _ s y hk)
       ·rename_i st la ta U;split at h
        ·cases h
        ·rename_i j E o1 q;split at h
         ·cases h
         ·rename_i G d H I s;cases h;obtain ⟨A,C⟩:=p;obtain ⟨u,y⟩:=DX.1 C;exact zGs R v A q u (GE R v n k j o1 _ _ _ _ s y hk)
    | loop b=>cases h;exact hk
    | rangeFunc f ps Qt bd=>cases h;exact hk
    | scope b=>
     refine Tr.scope (Tr.mono (GE R v n (.code b:: .scp::k) S o r S' vs o' h p hk) λe d D g=>?_);cases e <;> exact g
    | label l=>exact Tr.label (GE R v n k S o r S' vs o' h p hk)
    | goto l=>cases h;exact hk
    | refuse w=>cases h;exact hk
variable {k:List KI}
def A1.weaken (a:A7 L S S')(h:A1 P Γ F B L Y Q k S')(hk: ∃ c g,k= .code c::g):A1 P Γ F B L Y Q k S:=by
 obtain ⟨c,g,rfl⟩:=hk;exact Tr.weaken a h
def Pv:List KI -> Bool
 | .code (.loop _)::_=>true
 | _=>false
def Eh (k:List KI):List KI:=match k with
 | _::rest=>rest
 | []=>[]
def OQ (id:Nat):Θ -> Code -> List KI -> Option (List KI)
 | ms,.seq a b,k=>match OQ id ms a (.code b::k) with
  | some r=>some r
  | none=>OQ id ms b k
 | ms,.cond _ a b,k=>match OQ id ms a k with
  | some r=>some r
  | none=>OQ id ms b k
 | ms,.block i c,k=>if i=id then some (.code c:: .blk i::k) else OQ id ms c (.blk i::k)
 | ms,.scope c,k=>OQ id ms c (.scp::k)
 | m::ms,.loop b,k=>OQ id ms b (.loopN m b::k)
 | _,_,_=>none
def OR (id:Nat):Θ -> Code -> List KI -> Option (List KI)
 | ms,.seq a b,k=>match OR id ms a (.code b::k) with
  | some r=>some r
  | none=>OR id ms b k
 | ms,.cond _ a b,k=>match OR id ms a k with
  | some r=>some r
  | none=>OR id ms b k
 | ms,.block i c,k=>OR id ms c (.blk i::k)
 | ms,.scope c,k=>OR id ms c (.scp::k)
 | m::ms,.loop b,k=>OR id ms b (.loopN m b::k)
 | _,.region i ops x,k=>if i=id then some (.code (.region i ops x)::k) else none
 | _,_,_=>none
def Ag (m:Nat)(k:List KI):List KI:=match k with
 | .code (.loop b)::rest=>.loopN m b::rest
 | _=>[]
def m9 (m:Nat)(k:List KI):List KI:=match k with
 | .code (.loop b)::rest=>.code b:: .loopN m b::rest
 | _=>[]
def start (f:Func):List KI:=match f.body with
 | some c=>[.code c]
 | none=>[]
def Kw (c:Code)(id:Nat):Array Oper:=match c with
 | .region i ops _=>if i=id then ops else #[]
 | .seq a b=>let x:=Kw a id;if x.size=0 then Kw b id else x
 | .cond _ a b=>let x:=Kw a id;if x.size=0 then Kw b id else x
 | .block _ c=>Kw c id
 | .loop c=>Kw c id
 | .scope c=>Kw c id
 | .rangeFunc _ _ a b=>let x:=Kw a id;if x.size=0 then Kw b id else x
 | _=>#[]
def A9 (f:Func)(id:Nat):Array Oper:=match f.body with
 | some c=>Kw c id
 | none=>#[]
def Bi.enter (m:Nat)(hk:Pv k=true)(h:A1 P Γ F B L Y Q (Ag m k) S):A1 P Γ F B L Y Q k S:=by
 unfold Pv at hk;split at hk
 ·exact Hn.loop h
 ·cases hk
def Bi.round {n m:Nat}(v:n+1<=m)(hk:Pv k=true)(h: ∀ m,n<=m -> A1 P Γ F B L Y Q (m9 m k) S):A1 P Γ F B L Y Q (Ag m k) S:=by
 cases m with
 | zero=>omega
 | succ m=>
  have h:=h m (Nat.le_of_succ_le_succ v);unfold Pv at hk;split at hk
  ·refine Tr.mono h λe S' Y' a=>?_
   cases e <;> exact a
  ·cases hk
def AF (n:Nat)(l:List (Nat×DV)):List DV:=(List.range n).map λi=>match l.find? (λx=>x.1==i) with
 | some x=>x.2
 | none=>.any
variable {h':DH}{d:DV}{fn:Func}
def Cx.le {e:Exit}(a:A7 L S S')(h:Cx P fn L d h' e S'):Cx P fn L d h' e S:=by
 obtain ⟨I,T,b,c⟩:=h;exact ⟨I,T,a.trans b,c⟩
variable {h:DH}{ds:List DV}{f:Nat}
def ES.of_trk {ext:Bool}(M:P.funcs[f]? =some fn)(a:fn.body.isSome=true)(o:(fn.name== "runtime.NumGoroutine")=false)(hni:PZ h')(T:ext=true -> h= []) 
 (H: ∀ (B:Nat) (N:BK P Γ h.length),Bi P Γ Fence.wide (some B) h.length N (Cx P fn h.length d h') (start fn) ⟨ds++List.replicate (fn.ntmps-ds.length) .any,h⟩):ES P Γ f ds h d h' ext:=by
 cases l:fn.body with
 | none=>rw [l] at a;cases a
 | some c=>
  refine ES.of_tr M l (by simpa using o) hni (λB N=>?_) T;have:=H B N;unfold start at this;rw [l] at this;refine Tr.mono this λe S Y L=>?_
  cases e <;> exact L
def GD:DV -> Bool
 | .mse .. =>false
 | .mri .. =>false
 | .ref .. =>false
 | .msl .. =>false
 | .mp .. =>false
 | .it _=>false
 | .agg m f=>(List.range m).all λj=>GD (f j)
 | .tup m f=>(List.range m).all λj=>GD (f j)
 | .fn _ m f=>(List.range m).all λj=>GD (f j)
 | _=>true
def Nk: ∀ {d:DV},GD d=true -> Jg d:=by
 intro d
 induction d with
 | any=>exact λ_ _ _ _ _ _=>trivial
 | nils=>exact λ_ _ _ _ _ h=>h
 | int k n=>exact λ_ _ _ _ _ h=>h
 | bool b=>exact λ_ _ _ _ _ h=>h
 | str s=>exact λ_ _ _ _ _ h=>h
 | ints l=>exact λ_ _ _ _ _ h=>h
 | bools l=>exact λ_ _ _ _ _ h=>h
 | sl m n f _=>exact λ_ _ _ _ _ h=>h
 | fp m f _=>exact λ_ _ _ _ _ h=>h
 | agg m f V=>exact λa=>Jg.agg λj p=>V j (zGV.1 a j (zGX.2 p))
 | tup m f V=>exact λa=>Jg.tup λj p=>V j (zGV.1 a j (zGX.2 p))
 | ref k j=>exact λa=>by cases a
 | msl k m o n=>exact λa=>by cases a
 | mp k m i j=>exact λa=>by cases a
 | fn g m c V=>exact λa M w ρ v ⟨cs,e,q,r⟩=>⟨cs,e,q,λj p=>let ⟨u,t,x⟩:=r j p;⟨u,t,V j (zGV.1 a j (zGX.2 p)) M w ρ u x⟩⟩
 | it k=>exact λa=>by cases a
 | yl l=>exact λ_ _ _ _ _ h=>h
 | cst u=>exact λ_ _ _ _ _ h=>h
 | mse k m o n=>exact λa=>by cases a
 | mri k i=>exact λa=>by cases a
def ES.frameB (h0:ES P Γ f ds [] d [] true)(h:DH)(C:ds.all GD=true):ES P Γ f ds h d h true:=h0.frame (λx a=>Nk (zGV.1 C x a)) h
def Yh:DV -> Bool
 | .int .. =>true
 | .bool _=>true
 | .tup m f=>(List.range m).all λj=>match f j with
  | .int .. =>true
  | .bool _=>true
  | _=>false
 | _=>false
def zAP (h:Yh d=true):Jd d:=by
 unfold Yh at h
 grind [Jd.int,Jd.bool,Jd.tup]
def Oc (h:DH):List DV -> List DV -> Prop
 | [],[]=>True
 | d::ds,C::j=>Az h d C/\ Oc h ds j
 | _,_=>False
def Tq : ∀ {ds j:List DV},Oc h ds j -> j.length=ds.length/\ ∀ i,i<ds.length -> Az h (ds.getD i .any) (j.getD i .any)
 | [],[],_=>⟨rfl,λi hi=>absurd hi (zGa i)⟩
 | d::ds,d0::j,⟨h1,b⟩=>by
  obtain ⟨e,g⟩:=Tq b
  grind
 | [],_::_,h=>h.elim
 | _::_,[],h=>h.elim
def Az.plain (u:GD d=true):Az h d d:=Az.nref (Nk u)
def ES.snapB {j:List DV}(h0:ES P Γ f j [] d [] true)(h:DH)(k:Oc h ds j)(r:Yh d=true):ES P Γ f ds h d h true:=ES.snap h0 h (Tq k).1 (Tq k).2 (zAP r)
theorem AN.of_eq {d':DV}(h:d=d'):AN d d':=by rw [h];exact AN.refl _
def Vx {M:Ψ}{w:World}{ρ:List AI}{v:Value}{l:Ξ}(h:AL M w (.ints l) ρ v):l.length<=LB:=let ⟨_,_,_,_,h,_⟩:=h;h
def xX {x c:Int}(a:x=c)(h2: -9223372036854775808<=c)(h3:c<=9223372036854775807):IntKind.i64.wrap x=c:=by
 subst a;rw [zNH];omega
end
def Og (w:World):Prop:=TabAt 1 Lib.deBruijn64tab w
def GG:Av where
 ng:=2
 gi:=λw=>Og w/\ 2<=w.heap.size
 st:=λw w' h q=>⟨λj e=>q.cell (by show ¬ (2<=1);omega) (h.1 j e),zGU h.2 q.size⟩
 lo:=λw h=>h.2
section
variable {α:Type}
def DG {c:Prop} [Decidable c] {a:Option α} {r:α} (h:(if c then a else none)=some r):c/\ a=some r:=by
 grind
def Gg {β:Type}{o:Option β}{f:β -> Option α}{r:α}(h:o.bind f=some r): ∃ v,o=some v/\ f v=some r:=by
 cases o with
 | none=>cases h
 | some v=>exact ⟨v,rfl,h⟩
def DN {b:Bool}{x y:Option α}{r:α}(h:(bif b then x else y)=some r):(b=true/\ x=some r)∨(b=false/\ y=some r):=by
 grind
def zDN:Int -> Bool
 | .ofNat n=>Nat.ble n 9223372036854775807
 | .negSucc n=>Nat.ble n 9223372036854775807
def AG (x:Int):Prop:=zDN x=true
instance (x:Int):Decidable (AG x):=by unfold AG;infer_instance
variable {x:Int}
theorem Ah :AG x↔-9223372036854775808<=x/\ x<=9223372036854775807:=by
 unfold AG;cases x with
 | ofNat n=>
  show Nat.ble n 9223372036854775807=true↔_
  grind [Nat.ble_eq]
 | negSucc n=>
  show Nat.ble n 9223372036854775807=true↔_
  rw [Nat.ble_eq];omega
def xY (h:AG x):AN (.int .i64 (IntKind.i64.wrap x)) (.int .i64 x):=AN.int (xX rfl (Ah.1 h).1 (Ah.1 h).2)
def comp (B σ:Θ)(S:St):St:=GN σ ⟨forget B S.fr,S.h⟩
def Kp (σ:Θ)(L n:Nat):Bool:=decide σ.Nodup&&σ.all (λk=>decide (k<n))&&(List.range L).all λk=>decide (σ[k]? =some k)
def A7.comp {L:Nat}(B σ:Θ)(S:St)(h:Kp σ L S.h.length=true):A7 L S (comp B σ S):=by
 simp only [Kp,zFW,zH6,zGV,zGX] at h;exact (A7.forget B S.fr S.h).trans (A7.compact σ _ h.1.1 (λk hk=>h.1.2 k hk) (λk hk=>h.2 k hk))
def Vf (B σ:Θ)(L:Nat)(r:KO×St×List Prop×BQ):KO×List DV×DH×List Prop×List (DV×DH×Bool)×List (Nat×DV)×Bool:=(r.1,(Proofs.YtodinaconebmdaaGreatDoor.comp B σ r.2.1).fr,(Proofs.YtodinaconebmdaaGreatDoor.comp B σ r.2.1).h,r.2.2.1,r.2.2.2.calls,r.2.2.2.co,Kp σ L r.2.1.h.length)
section
variable {P:Program} {Γ:Av} {F:Fence} {B:Option Nat} {L:Nat} {Y N:BK P Γ L} {Q:QY P Γ L}
variable {h':DH}{S:St}{n:Nat}
def zD3 {K:BX}{k:List KI}{o:BQ}{B σ:Θ}{r:KO}{fr:List DV}{vs:List Prop}(h:(CN P Γ K n k S o).map (Vf B σ L)=some (r,fr,h',vs,[],[],true)):
 ∃ S' o',CN P Γ K n k S o=some (r,S',vs,o')/\ A7 L S' ⟨fr,h'⟩:=by
 cases i:CN P Γ K n k S o with
 | none=>rw [i] at h;cases h
 | some r=>
  obtain ⟨r1,e,DZ,⟨c1,o1,z1,g1⟩⟩:=r;rw [i] at h;simp only [zIO,Vf,zH8,zIa] at h;obtain ⟨rfl,rfl,rfl,rfl,rfl,rfl,a⟩:=h;exact ⟨e,_,rfl,A7.comp B σ e a⟩
def JD:List KI -> Bool
 | .code _::_=>true
 | .loopN _ _::_=>true
 | _=>false
variable {S':St}{m:Nat}
def Hn.weaken {b:Code}(a:A7 L S S')(h:Hn P Γ F B L b Q m S' Y):Hn P Γ F B L b Q m S Y:=by
 cases m with
 | zero=>exact h.elim
 | succ m=>exact Tr.weaken a h
def Bi.le {k:List KI}(a:A7 L S S')(l:JD k=true)(h:A1 P Γ F B L Y Q k S'):A1 P Γ F B L Y Q k S:=by
 unfold JD at l;split at l
 ·exact A1.weaken a h ⟨_,_,rfl⟩
 ·exact Hn.weaken a h
 ·cases l
def A7.frzE (k:Nat)(S':St)(vs:List Prop)(h:Wk k S=some (S',vs))(p:Bq vs):A7 L S S':=λP Γ N ρ a w R=>
 ⟨ρ,(ER.frzE k S' vs h p P Γ N ρ a w R).1,(ER.frzE k S' vs h p P Γ N ρ a w R).2,CA.refl _ _⟩
def A7.compE (σ:Θ)(h:Kp σ L S.h.length=true):A7 L S (GN σ S):=by
 simp_all [Kp,A7.compact]
def Vk:Option DO -> Bool
 | some (.iter _)=>false
 | _=>true
variable {h:DH}
def PY (c:h.all Vk=true):PZ h:=λk encs hk=>by
 have:=zGV.1 c _ (zG6 hk);cases this
variable {l l0:List DV}{k:Nat}
def Az.refL (hk:h[k]? =some (some (.cells l)))(a:Oc h l l0):Az h (.ref k 0) (.fp l.length (λj=>l0.getD j .any)):=
 Az.ref hk (zGd _) λj e=>(Tq a).2 j e
def Az.fnL {g:Nat}(k:Oc h l l0):Az h (.fn g l.length (λj=>l.getD j .any)) (.fn g l.length (λj=>l0.getD j .any)):=by
 rintro P Γ N ρ w v H ⟨X,e,m,b⟩;exact ⟨X,e,m,λj a=>let ⟨u,c,d⟩:=b j a;⟨u,c,(Tq k).2 j a P Γ N ρ w u H d⟩⟩
def AN.ixI (l:Ξ){n:Int}(hm:m=l.length)(h:(0:Int)<=n/\ n<((m:Nat):Int)):AN ((l.map (DV.int .i64)).getD n.toNat .any) (.int .i64 (l.getD n.toNat 0)):=by
 grind [AN.refl]
variable {o W:Nat}
def AN.mslN (h:n=W):AN (.msl k m o n) (.msl k m o W):=by rw [h];exact AN.refl _
def zCL:DO -> Bool
 | .ints _=>true
 | .bools _=>true
 | _=>false
variable {ds:List DV}{f:Nat}
def ES.snapNew {r:List DV}{o:DO}(h0:ES P Γ f r [] (.msl 0 m 0 n) [some o] true)(h:DH)(d:Oc h ds r)(a:zCL o=true):ES P Γ f ds h (.msl h.length m 0 n) (h++[some o]) true:=by
 obtain ⟨s,d⟩:=Tq d;refine ⟨h0.1,λN ρ w args HR C=>?_⟩;refine (h0.2 (λ_=>False) [] w args (Se (λb c=>c.elim) HR.gi) ⟨by rw [s];exact C.1,λi hi=>?_⟩).mono ?_
 ·rw [s] at hi;exact AL.out _ (D4 (λb c=>Q2.1 c) []) (d i hi P Γ N ρ w _ HR (C.2 i hi))
 ·rintro e w' ⟨v,rfl,⟨⟨ρ',t,z,A,g4⟩,H⟩⟩;have F:=H rfl;obtain ⟨p,g,y⟩:=t.obj 0 o rfl;have M: ∀ b,p.foot b -> w.heap.size<=b:=λb c=>(A.grow b ⟨0,o,p,rfl,g,c⟩).resolve_left λ⟨k,o',p',B,_⟩=>by simp at B
  obtain ⟨p',cap,S,D,E,Q,Z⟩:=z;have G:p'=p:=zGT (S.symm.trans g);subst G;refine ⟨v,rfl,⟨⟨ρ++[p'],HR.snoc F (λb c=>⟨M b c,(t.cel 0 o p' b rfl g c).2.2⟩) ?_,⟨p',cap,by rw [←HR.len];simp,D,E,Q,Z⟩,A3.snoc HR F M,λ_ _ h=>Em h⟩,H⟩⟩;cases o with
  | ints l=>exact AX.out y rfl λj u _ q=>q
  | bools l=>exact AX.out y rfl λj u _ q=>q
  | cells l=>cases a
  | arr m n f=>cases a
  | iter encs=>cases a
  | mo x=>cases a
  | ro l=>cases a
def mB : ∀ {ds:List DV},ds.all GD=true -> Oc h ds ds
 | [],_=>trivial
 | d::ds,r=>by
  simp only [zM4,zFW] at r;exact ⟨Az.plain r.1,mB r.2⟩
variable {l':List DV}
def AN.aggL (b:m=l.length)(h:Ja l l'):AN (.agg m (λj=>l.getD j .any)) (.agg m (λj=>l'.getD j .any)):=by
 subst b;rintro M w ρ v ⟨cs,e,k,c⟩;exact ⟨cs,e,k,λj a=>let ⟨u,d,f⟩:=c j a;⟨u,d,(Tt h).2 j a M w ρ u f⟩⟩
def AN.tupL (b:m=l.length)(h:Ja l l'):AN (.tup m (λj=>l.getD j .any)) (.tup m (λj=>l'.getD j .any)):=by
 subst b;rintro M w ρ v ⟨cs,e,k,c⟩;exact ⟨cs,e,k,λj a=>let ⟨u,d,f⟩:=c j a;⟨u,d,(Tt h).2 j a M w ρ u f⟩⟩
def ES.argsLe {j:List DV}{d:DV}{ext:Bool}(h0:ES P Γ f j h d h' ext)(r:Ja ds j):ES P Γ f ds h d h' ext:=by
 obtain ⟨m,r⟩:=Tt r;exact ⟨h0.1,λN ρ w args HR C=>h0.2 N ρ w args HR ⟨by rw [←m];exact C.1,λi hi=>r i (by omega) _ _ _ _ (C.2 i (by omega))⟩⟩
def AN.mse_msl (h:0<n)(e:n=W):AN (.mse k m o n) (.msl k m o W):=by
 subst e;rintro M w ρ v ⟨p,a,cap,g,rfl,b,c,d⟩;obtain ⟨rfl,A⟩:=d (by omega);exact ⟨p,cap,g,rfl,b,c,A⟩
def AN.mse_nil (h:n=0):AN (.mse k m o n) (.ints []):=by
 subst h;rintro M w ρ v ⟨p,a,cap,hp,rfl,h1,h2,h3⟩;exact ⟨a,cap,rfl,zIR _,zIR _,λj e=>absurd e (zGa j)⟩
def ZU (h:(n==0)=false):0<n:=by
 grind
def NM (k off g:Nat):DV -> DV
 | .msl B m o n=>if B=k/\ m=1/\ o=off then .msl g 1 0 n else .msl B m o n
 | d=>d
def p4 (k off:Nat)(S:St):Option (St×List Prop):=match S.h.getD k none with
 | some (.ints l)=>some (⟨S.fr.map (NM k off S.h.length),S.h.set k none++[some (.ints (l.drop off))]⟩,[off<=l.length])
 | _=>none
def A7.rootE (k off:Nat)(S':St)(vs:List Prop)(h:p4 k off S=some (S',vs))(r:Bq vs):A7 L S S':=λP Γ N ρ a w R=>by
 unfold p4 at h;split at h
 ·rename_i l v;cases h;have r:=r.1;have hk:=getD_some v;obtain ⟨p,g,d⟩:=R.hr.obj k _ hk;have d:AX w p l.length _:=d;obtain ⟨M,cs,t,x,c2,y,c4⟩:=d
  let p':AI:={ p with off:=p.off+off }
  obtain ⟨A,s⟩:=R.hr.regrow (o':=.ints (l.drop off)) (p':=p') hk g (AQ.refl _ _) (λb c=>⟨.inl c,(R.hr.cel k _ p b hk g c).2.2⟩) (by
   refine ⟨M,cs,t,x,?_,y,λj hj=>?_⟩
   ·simp only [List.length_drop,p'];omega
   grind)
  have O:BP (MS N S.h ρ) w ρ (MS N (S.h.set k none++[some (.ints (l.drop off))]) (ρ++[p'])) w (ρ++[p']):=⟨λ_ _ _ _=>rfl,λb c=>c.elim (λh=>.inl (.inl h)) λh=>(s.grow b h).imp .inr id,λ_ _ h=>Em h⟩;refine ⟨ρ++[p'],⟨A,by simp [R.fr.1],λi hi=>?_⟩,s,λ_ _ _ h=>Em h⟩;have G:i<S.fr.length:=by simpa using hi
  have e:(S.fr.map (NM k off S.h.length)).getD i .any=NM k off S.h.length (S.fr.getD i .any):=by simp [G]
  show AL _ w ((S.fr.map (NM k off S.h.length)).getD i .any) _ _
  rw [e];have r0:=R.fr.2 i G;cases u:S.fr.getD i .any with
  | msl B m o n=>
   rw [u] at r0
   by_cases f:B=k/\ m=1/\ o=off
   ·have z:NM k off S.h.length (.msl B m o n)= .msl S.h.length 1 0 n:=by simp only [NM,zEd f]
    rw [z];obtain ⟨C,D,E⟩:=f;rw [C,D,E] at r0;obtain ⟨q,cap,F,H,I,J,u3⟩:=r0;have K:q=p:=zGT (F.symm.trans g);subst K;exact ⟨p',cap,by rw [←R.hr.len];simp,by rw [H];simp [p'],I,J,by simp only [p'];omega⟩
   ·have z:NM k off S.h.length (.msl B m o n)= .msl B m o n:=by simp only [NM,zGW f]
    rw [z];exact AL.out _ O r0
  | _=>rw [u] at r0;exact AL.out _ O r0
 ·cases h
def AN.msl_mse :AN (.msl k m o n) (.mse k m o n):=λ_ _ _ _ ⟨p,cap,g,a,b,c,h⟩=>⟨p,_,cap,g,a,b,c,λ_=>⟨rfl,h⟩⟩
def Pa (k q:Nat):DV -> DV
 | .msl B m o n=>if B=k then .msl q m o n else .msl B m o n
 | .mse B m o n=>if B=k then .mse q m o n else .mse B m o n
 | d=>d
def mapOb (g:DV -> DV):Option DO -> Option DO
 | some (.cells l)=>some (.cells (l.map g))
 | some (.ro l)=>some (.ro (l.map g))
 | o=>o
def r7 (k:Nat)(S:St):Option St:=match S.h.getD k none with
 | some (.ints l)=>some ⟨S.fr.map (Pa k S.h.length),(S.h.set k none++[some (DO.ints l)]).map (mapOb (Pa k S.h.length))⟩
 | _=>none
variable {g:DV -> DV}
def Vp {o':DO}(hk:(h.map (mapOb g))[k]? =some (some o')): ∃ o,h[k]? =some (some o)/\ mapOb g (some o)=some o':=by
 rw [zIL] at hk;cases d:h[k]? with
 | none=>rw [d] at hk;cases hk
 | some x=>
  rw [d] at hk;have hk:mapOb g x=some o':=zGT hk;cases x with
  | none=>cases hk
  | some o=>exact ⟨o,rfl,hk⟩
variable {ρ:List AI}
def MO.mapOb {b:Nat}:MO (h.map (mapOb g)) ρ b↔MO h ρ b:=by
 constructor
 ·rintro ⟨k,o',p,a,c,d⟩;obtain ⟨o,e,_⟩:=Vp a;exact ⟨k,o,p,e,c,d⟩
 ·rintro ⟨k,o,p,a,c,d⟩;cases o with
  | cells l=>exact ⟨k,.cells (l.map g),p,by rw [zIL,a];rfl,c,d⟩
  | _=>exact ⟨k,_,p,by rw [zIL,a];rfl,c,d⟩
def Aq.mapCells {N:Ψ}{w:World}(H:Aq P Γ N h ρ w)(hg: ∀ d u,AL (MS N h ρ) w d ρ u -> AL (MS N h ρ) w (g d) ρ u):Aq P Γ N (h.map (mapOb g)) ρ w:=by
 have X: ∀ b,MS N (h.map (mapOb g)) ρ b -> MS N h ρ b:=λb c=>c.imp id MO.mapOb.1
 refine ⟨by rw [H.len];simp,λk o' hk=>?_,λk o' p b e a r=>?_,λk y o1 o2 J p2 b D e a r A z B=>?_,H.nlt,H.gi⟩
 ·obtain ⟨o,e,a⟩:=Vp hk;obtain ⟨p,C,i⟩:=H.obj k o e;refine ⟨p,C,?_⟩;have O:BP (MS N h ρ) w ρ (MS N (h.map (mapOb g)) ρ) w ρ:=⟨λ_ _ _ _=>rfl,λb c=>.inl (X b c),λ_ _ h=>h⟩;cases o with
  | cells l=>
   cases a
   show AX w p (l.map g).length _
   rw [zGh];refine AX.out i rfl λj u E q=>?_
   grind [AL.out]
  | ints l=>cases a;exact AX.out i rfl λj u _ q=>q
  | bools l=>cases a;exact AX.out i rfl λj u _ q=>q
  | arr m n f=>cases a;exact AX.out i rfl λj u _ q=>AL.out _ O.nil q
  | iter encs=>
   cases a;obtain ⟨F,G,Rd,I,K,t,L⟩:=i;exact ⟨F,G,Rd,I,K,λb c=>⟨λv=>(t b c).1 (X b v),(t b c).2⟩,L⟩
  | ro l=>
   cases a;obtain ⟨M,Q,R⟩:=i;refine ⟨M,λv=>Q (X _ v),?_⟩
   show AX w _ (l.map g).length _
   rw [zGh];refine AX.out R rfl λj u E q=>?_
   grind [AL.out]
  | mo x=>cases a;exact i
 ·obtain ⟨o,s,_⟩:=Vp e;exact H.cel k o p b s a r
 ·obtain ⟨o,s,_⟩:=Vp e;obtain ⟨o',S,_⟩:=Vp a;exact H.dis k y o o' J p2 b D s S r A z B
def A7.moveE (k:Nat)(S':St)(h:r7 k S=some S'):A7 L S S':=λP Γ N ρ a w R=>by
 unfold r7 at h;split at h
 ·rename_i l x;cases h;have hk:=getD_some x;obtain ⟨p,j,y⟩:=R.hr.obj k _ hk;obtain ⟨z,s⟩:=R.hr.regrow (o':=.ints l) (p':=p) hk j (AQ.refl _ _) (λb c=>⟨.inl c,(R.hr.cel k _ p b hk j c).2.2⟩) y;have A: ∀ (i:Nat) (q:AI),ρ[i]? =some q -> (ρ++[p])[i]? =some q:=λ_ _ h=>Em h
  have O:BP (MS N S.h ρ) w ρ (MS N (S.h.set k none++[some (DO.ints l)]) (ρ++[p])) w (ρ++[p]):=⟨λ_ _ _ _=>rfl,λb c=>c.elim (λh=>.inl (.inl h)) λh=>(s.grow b h).imp .inr id,A⟩;have v:(ρ++[p])[S.h.length]? =some p:=by rw [←R.hr.len];simp
  have E: ∀ {M:Ψ} (d:DV) (u:Value),AL M w d (ρ++[p]) u -> AL M w (Pa k S.h.length d) (ρ++[p]) u:=λ{M} d u f=>by
   unfold Pa;split
   ·rename_i B m o n;split
    ·rename_i e;obtain ⟨q,cap,t,r⟩:=f;subst e;have:q=p:=zGT (t.symm.trans (A _ _ j));subst this;exact ⟨q,cap,v,r⟩
    ·exact f
   ·rename_i B m o n;split
    ·rename_i e;obtain ⟨q,a0,cap,t,r⟩:=f;subst e;have:q=p:=zGT (t.symm.trans (A _ _ j));subst this;exact ⟨q,a0,cap,v,r⟩
    ·exact f
   ·exact f
  have I:=z.mapCells (g:=Pa k S.h.length) λd u=>E d u
  have X: ∀ b,MS N ((S.h.set k none++[some (DO.ints l)]).map (mapOb (Pa k S.h.length))) (ρ++[p]) b -> MS N (S.h.set k none++[some (DO.ints l)]) (ρ++[p]) b:=λb c=>c.imp id MO.mapOb.1
  have C:BP (MS N (S.h.set k none++[some (DO.ints l)]) (ρ++[p])) w (ρ++[p]) (MS N ((S.h.set k none++[some (DO.ints l)]).map (mapOb (Pa k S.h.length))) (ρ++[p])) w (ρ++[p]):=⟨λ_ _ _ _=>rfl,λb c=>.inl (X b c),λ_ _ h=>h⟩;exact ⟨ρ++[p],⟨I,((R.fr.out O).map λd u=>E d u).out C⟩,⟨s.upd,λb c=>s.grow b (MO.mapOb.1 c)⟩,λ_ _ _ h=>Em h⟩
 ·cases h
end
end
abbrev zMd:=@List.getElem?_drop
section
def Da (σ:Θ)(b k:Nat):Nat:=if k<σ.length then σ.getD k 0 else b+(k-σ.length)
def up (σ:Θ)(b:Nat):DV -> DV
 | .ref k j=>.ref (Da σ b k) j
 | .msl k m o n=>.msl (Da σ b k) m o n
 | .mse k m o n=>.mse (Da σ b k) m o n
 | .mri k i=>.mri (Da σ b k) i
 | .mp k m i j=>.mp (Da σ b k) m i j
 | .it k=>.it (Da σ b k)
 | .agg m f=>.agg m (HL m λj=>up σ b (f j))
 | .tup m f=>.tup m (HL m λj=>up σ b (f j))
 | .fn g m c=>.fn g m (HL m λj=>up σ b (c j))
 | d=>d
def Dg (σ:Θ)(b:Nat):Option DO -> Option DO
 | some (.cells l)=>some (.cells (l.map (up σ b)))
 | some (.ro l)=>some (.ro (l.map (up σ b)))
 | o=>o
def DU (H:DH)(σ:Θ)(h':DH):DH:=((List.range H.length).map λk=>match Di σ k with
 | some i=>Dg σ H.length (h'.getD i none)
 | none=>H.getD k none)++(h'.drop σ.length).map (Dg σ H.length)
variable {σ:Θ}
def Rt (hn:σ.Nodup){i k:Nat}(h:σ[i]? =some k):Di σ k=some i:=by
 induction σ generalizing i with
 | nil=>simp at h
 | cons x σ ih=>
  unfold Di
  grind
theorem RH {b:Nat}{x:Option DO}{o:DO}(h:Dg σ b x=some o): ∃ o0,x=some o0:=by
 cases x with
 | none=>cases h
 | some o0=>exact ⟨o0,rfl⟩
section
variable {P:Program} {Γ:Av}
variable {ρ ρ':List AI}{b:Nat}{w:World}{M A:Ψ}
theorem dg {σ:Θ}(X: ∀ b,A b -> M b)(C: ∀ (k:Nat) (p:AI),ρ[k]? =some p -> ρ'[Da σ b k]? =some p): ∀ (d:DV) {v:Value},AL M w d ρ v -> AL A w (up σ b d) ρ' v:=by
 have low: ∀ (d:DV) {v:Value},AL M w d [] v -> AL A w d [] v:=λd v h=>h.out d (D4 X [])
 intro d
 induction d with
 | any=>intro v _;trivial
 | nils=>intro v h;exact h
 | int k n=>intro v h;exact h
 | bool b=>intro v h;exact h
 | str s=>intro v h;exact h
 | ints l=>intro v h;exact low (.ints l) h
 | bools l=>intro v h;exact low (.bools l) h
 | sl m n f _=>intro v h;exact low (.sl m n f) h
 | fp m f _=>intro v h;exact low (.fp m f) h
 | agg m f V=>
  rintro v ⟨cs,e,x,h⟩;exact ⟨cs,e,x,λj t=>let ⟨u,y,z⟩:=h j t;⟨u,y,It t (V j z)⟩⟩
 | tup m f V=>
  rintro v ⟨cs,e,x,h⟩;exact ⟨cs,e,x,λj t=>let ⟨u,y,z⟩:=h j t;⟨u,y,It t (V j z)⟩⟩
 | fn g m c V=>
  rintro v ⟨cs,e,x,h⟩;exact ⟨cs,e,x,λj t=>let ⟨u,y,z⟩:=h j t;⟨u,y,It t (V j z)⟩⟩
 | ref k j=>rintro v ⟨p,q,r⟩;exact ⟨p,C k p q,r⟩
 | msl k m o n=>rintro v ⟨p,cap,q,r⟩;exact ⟨p,cap,C k p q,r⟩
 | mp k m i j=>rintro v ⟨p,q,r⟩;exact ⟨p,C k p q,r⟩
 | it k=>rintro v ⟨p,q,r⟩;exact ⟨p,C k p q,r⟩
 | cst u=>intro v h;exact h
 | yl l=>intro v h;exact h
 | mse k m o n=>rintro v ⟨p,a,cap,q,r⟩;exact ⟨p,a,cap,C k p q,r⟩
 | mri k i=>rintro v ⟨p,vs,q,r⟩;exact ⟨p,vs,C k p q,r⟩
theorem cD {σ:Θ}(X: ∀ b,A b -> M b)(C: ∀ (k:Nat) (p:AI),ρ[Da σ b k]? =some p -> ρ'[k]? =some p): ∀ (d:DV) {v:Value},AL M w (up σ b d) ρ v -> AL A w d ρ' v:=by
 have low: ∀ (d:DV) {v:Value},AL M w d [] v -> AL A w d [] v:=λd v h=>h.out d (D4 X [])
 have H: ∀ {m j:Nat} {f:Nat -> DV} {u:Value},j<m -> AL M w (HL m f j) ρ u -> AL M w (f j) ρ u:=λt h=>by rw [X5 t] at h;exact h
 intro d
 induction d with
 | any=>intro v _;trivial
 | nils=>intro v h;exact h
 | int k n=>intro v h;exact h
 | bool b=>intro v h;exact h
 | str s=>intro v h;exact h
 | ints l=>intro v h;exact low (.ints l) h
 | bools l=>intro v h;exact low (.bools l) h
 | sl m n f _=>intro v h;exact low (.sl m n f) h
 | fp m f _=>intro v h;exact low (.fp m f) h
 | agg m f V=>
  rintro v ⟨cs,e,x,h⟩;exact ⟨cs,e,x,λj t=>let ⟨u,y,z⟩:=h j t;⟨u,y,V j (H t z)⟩⟩
 | tup m f V=>
  rintro v ⟨cs,e,x,h⟩;exact ⟨cs,e,x,λj t=>let ⟨u,y,z⟩:=h j t;⟨u,y,V j (H t z)⟩⟩
 | fn g m c V=>
  rintro v ⟨cs,e,x,h⟩;exact ⟨cs,e,x,λj t=>let ⟨u,y,z⟩:=h j t;⟨u,y,V j (H t z)⟩⟩
 | ref k j=>rintro v ⟨p,q,r⟩;exact ⟨p,C k p q,r⟩
 | msl k m o n=>rintro v ⟨p,cap,q,r⟩;exact ⟨p,cap,C k p q,r⟩
 | mp k m i j=>rintro v ⟨p,q,r⟩;exact ⟨p,C k p q,r⟩
 | it k=>rintro v ⟨p,q,r⟩;exact ⟨p,C k p q,r⟩
 | cst u=>intro v h;exact h
 | yl l=>intro v h;exact h
 | mse k m o n=>rintro v ⟨p,a,cap,q,r⟩;exact ⟨p,a,cap,C k p q,r⟩
 | mri k i=>rintro v ⟨p,vs,q,r⟩;exact ⟨p,vs,C k p q,r⟩
variable {o o':DO}{p:AI}{c:Ψ}
theorem yM {σ:Θ}(X: ∀ b,c b -> M b)(hρ: ∀ (k:Nat) (p:AI),ρ[k]? =some p -> ρ'[Da σ b k]? =some p)(a:Dg σ b (some o)=some o')(h:EE P M w ρ p o):EE P c w ρ' p o':=by
 cases o with
 | cells l=>
  cases a
  show AX w p (l.map (up σ b)).length _
  rw [zGh];refine AX.out h rfl λj u g q=>?_
  grind [dg]
 | ints l=>cases a;exact AX.out h rfl λj u _ q=>q
 | bools l=>cases a;exact AX.out h rfl λj u _ q=>q
 | arr m n f=>cases a;exact AX.out h rfl λj u _ q=>AL.out _ (D4 X []) q
 | iter encs=>
  cases a;obtain ⟨H,i,Rd,r,s,d,D⟩:=h;exact ⟨H,i,Rd,r,s,λb e=>⟨λv=>(d b e).1 (X b v),(d b e).2⟩,D⟩
 | ro l=>
  cases a;obtain ⟨t,z,y⟩:=h;refine ⟨t,λv=>z (X _ v),?_⟩
  show AX w _ (l.map (up σ b)).length _
  rw [zGh];refine AX.out y rfl λj u g q=>?_
  grind [dg]
 | mo x=>cases a;exact h
theorem vQ {σ:Θ}(X: ∀ b,c b -> M b)(hρ: ∀ (k:Nat) (p:AI),ρ[Da σ b k]? =some p -> ρ'[k]? =some p)(a:Dg σ b (some o)=some o')(h:EE P M w ρ p o'):EE P c w ρ' p o:=by
 cases o with
 | cells l=>
  cases a;have h:AX w p (l.map (up σ b)).length _:=h;rw [zGh] at h;refine AX.out h rfl λj u g q=>?_
  grind [cD]
 | ints l=>cases a;exact AX.out h rfl λj u _ q=>q
 | bools l=>cases a;exact AX.out h rfl λj u _ q=>q
 | arr m n f=>cases a;exact AX.out h rfl λj u _ q=>AL.out _ (D4 X []) q
 | iter encs=>
  cases a;obtain ⟨H,i,Rd,r,s,d,D⟩:=h;exact ⟨H,i,Rd,r,s,λb e=>⟨λv=>(d b e).1 (X b v),(d b e).2⟩,D⟩
 | ro l=>
  cases a;obtain ⟨t,z,y⟩:=h;refine ⟨t,λv=>z (X _ v),?_⟩;have h:AX w _ (l.map (up σ b)).length _:=y;rw [zGh] at h;refine AX.out h rfl λj u g q=>?_
  grind [cD]
 | mo x=>cases a;exact h
variable {ext:Bool}{h' h:DH}{d:DV}{ds:List DV}{f:Nat}
def ES.embedX (E5:ES P Γ f ds h d h' ext)(σ:Θ)(H:DH)(X:σ.Nodup)(AU: ∀ k∈σ,k<H.length)(hl:σ.length=h.length)(Fb:h.length<=h'.length) 
 (hh:(σ.map λk=>H.getD k none)=h.map (Dg σ H.length)):(∃ fn,P.funcs[f]? =some fn/\ fn.name≠ "runtime.NumGoroutine" /\ fn.body.isSome=true)/\
 ∀ (N:Ψ) (ρ:List AI) (w:World) (args:Array Value),Aq P Γ N H ρ w -> BE (MS N H ρ) w ρ (ds.map (up σ H.length)) args ->
  Calls P f args w λe w'=>∃ v,e= .returned v/\ CC P Γ N H ρ w ext (up σ H.length d) (DU H σ h') v w'/\ AQ (λb=>∃ i o p,i∈σ/\ H[i]? =some (some o)/\ ρ[i]? =some p/\ p.foot b) w w':=by
 refine ⟨E5.1,λN ρ w args HR CU=>?_⟩;obtain ⟨ρ0,ic⟩: ∃ ρ0,ρ0=σ.map λk=>ρ.getD k ga:=⟨_,rfl⟩
 have iH:ρ0.length=σ.length:=by rw [ic];simp
 have F: ∀ {i k:Nat},σ[i]? =some k -> ρ0[i]? =ρ[k]? :=λ{i k} hk=>by
  have Gb:k<ρ.length:=by rw [HR.len];exact AU k (zG6 hk)
  grind
 have eO: ∀ {i:Nat},i<σ.length -> ∃ k,σ[i]? =some k/\ Da σ H.length i=k:=λ{i} hi=>by
  simp_all [Da]
 have M: ∀ {i:Nat} {o:DO},h[i]? =some (some o) -> ∃ k o',σ[i]? =some k/\ H[k]? =some (some o')/\ Dg σ H.length (some o)=some o':=λ{i o} hi=>by
  have KB:i<σ.length:=by grind
  obtain ⟨k,hk,_⟩:=eO KB;have e:=congrArg (·[i]?) hh;simp only [zIL,hk,hi,zIO] at e;have Y:=AU k (zG6 hk);have e:H.getD k none=Dg σ H.length (some o):=zGT e;have r: ∃ o',Dg σ H.length (some o)=some o':=by cases o <;> exact ⟨_,rfl⟩
  grind
 have rZ: ∀ {i k:Nat} {o':DO},σ[i]? =some k -> H[k]? =some (some o') -> ∃ o,h[i]? =some (some o)/\ Dg σ H.length (some o)=some o':=λ{i k o'} hk ho=>by
  have KB:i<h.length:=by grind
  have e:=congrArg (·[i]?) hh
  grind [RH]
 obtain ⟨B,R⟩: ∃ B:Ψ,B=λb=>N b∨∃ k o p,Di σ k=none/\ H[k]? =some (some o)/\ ρ[k]? =some p/\ p.foot b:=⟨_,rfl⟩
 have J: ∀ b,MO h ρ0 b -> MO H ρ b:=by
  rintro b ⟨i,o,p,g,s,a⟩;obtain ⟨k,o',q,r,_⟩:=M g;exact ⟨k,o',p,r,(F q).symm.trans s,a⟩
 have gj: ∀ b,MS B h ρ0 b -> MS N H ρ b:=by
  rintro b (hb | hb)
  ·rw [R] at hb;rcases hb with hb | ⟨k,o,p,_,g,s,a⟩
   ·exact .inl hb
   ·exact .inr ⟨k,o,p,g,s,a⟩
  ·exact .inr (J b hb)
 have ms1: ∀ b,MS N H ρ b -> MS B h ρ0 b:=by
  rintro b (hb | ⟨k,o,p,g,s,a⟩)
  ·exact .inl (by rw [R];exact .inl hb)
  ·cases hk:Di σ k with
   | none=>exact .inl (by grind)
   | some i=>
    have hi:=Kv hk;obtain ⟨o0,q,_⟩:=rZ hi g;exact .inr ⟨i,o0,p,q,(F hi).trans s,a⟩
 have dn: ∀ (k:Nat) (p:AI),ρ[Da σ H.length k]? =some p -> ρ0[k]? =some p:=λk p j=>by
  by_cases hk:k<σ.length
  ·grind
  ·unfold Da at j;rw [zGW hk] at j;have:=(zGq.1 j).1;rw [HR.len] at this;omega
 have u: ∀ {b:Nat},B b -> ¬ MO h ρ0 b:=by
  rintro b hb ⟨i,o,p,g,s,a⟩;obtain ⟨k,o',q,r,_⟩:=M g;have j:=(F q).symm.trans s;rw [R] at hb;rcases hb with hb | ⟨K,S,p2,n,l,m,L⟩
  ·exact (HR.cel k o' p b r j a).2.1 hb
  ·refine HR.dis k K o' S p p2 b ?_ r l j m a L;rintro rfl;rw [Rt X q] at n;cases n
 have H0:Aq P Γ B h ρ0 w:=by
  refine ⟨by rw [iH,hl],λi o hi=>?_,λi o p b g s a=>?_,λi T o1 S Q p2 b AY g s a g4 Z g6=>?_,λb hb=>HR.lt2 (gj b (.inl hb)),HR.gi⟩
  ·obtain ⟨k,o',q,r,e3⟩:=M hi;obtain ⟨p,j,hr⟩:=HR.obj k o' r
   grind [vQ]
  ·obtain ⟨k,o',q,r,e3⟩:=M g;obtain ⟨n,l,m⟩:=HR.cel k o' p b r ((F q).symm.trans s) a;exact ⟨n,λhb=>u hb ⟨i,o,p,g,s,a⟩,m⟩
  ·obtain ⟨k,o',q,r,e3⟩:=M g;obtain ⟨K,gR,TV,Wz,e3'⟩:=M s;refine HR.dis k K o' gR Q p2 b ?_ r Wz ((F q).symm.trans a) ((F TV).symm.trans g4) Z g6;rintro rfl;have U:=Rt X q;have y:=Rt X TV
   grind
 refine (E5.2 B ρ0 w args H0 ⟨by rw [←CU.1];simp,λi hi=>?_⟩).mono ?_
 ·have:=CU.2 i (by simpa using hi)
  grind [cD]
 ·rintro e w' ⟨v,rfl,⟨⟨ρ1,g,s,a,g4⟩,Z⟩⟩;have l1:ρ1.length=h'.length:=g.len;obtain ⟨ρ',V⟩: ∃ ρ',ρ'=ρ++ρ1.drop σ.length:=⟨_,rfl⟩
  have at1: ∀ {i k:Nat},σ[i]? =some k -> ρ1[i]? =ρ[k]? :=λ{i k} hk=>by
   grind
  have K5: ∀ {k:Nat},k<H.length -> ρ'[k]? =ρ[k]? :=λ{k} hk=>by rw [V,zI5 (by rw [HR.len];exact hk)]
  have de: ∀ (k:Nat) (p:AI),ρ1[k]? =some p -> ρ'[Da σ H.length k]? =some p:=λk p j=>by
   by_cases hk:k<σ.length
   ·grind
   ·unfold Da;rw [zGW hk,V,zIB (by rw [HR.len];omega),zMd,HR.len]
    simp_all
  have iG:(DU H σ h').length=H.length+(h'.length-σ.length):=by simp [DU]
  have E: ∀ {k:Nat} {o':DO},(DU H σ h')[k]? =some (some o') -> (k<H.length/\ Di σ k=none/\ H[k]? =some (some o')/\ ρ'[k]? =ρ[k]?)∨∃ i o,h'[i]? =some (some o)/\ Dg σ H.length (some o)=some o'/\ ρ'[k]? =ρ1[i]? /\ k=Da σ H.length i:=by
   intro k o' hk
   by_cases Y:k<H.length
   ·unfold DU at hk;rw [zI5 (by simpa using Y),zIL,List.getElem?_range Y] at hk;simp only [zIO,zH8] at hk;split at hk
    ·rename_i i hi;have his:=Kv hi;obtain ⟨o0,e0⟩:=RH hk
     grind
    grind
   ·unfold DU at hk;rw [zIB (by simp;omega),zIL,zMd] at hk;simp only [zGh,zM8] at hk;cases G:h'[σ.length+(k-H.length)]? with
    | none=>rw [G] at hk;cases hk
    | some x=>
     rw [G] at hk;have hk:Dg σ H.length x=some o':=zGT hk;obtain ⟨o0,e0⟩:=RH hk;subst e0;refine .inr ⟨σ.length+(k-H.length),o0,G,hk,?_,?_⟩
     ·rw [V,zIB (by rw [HR.len];omega),zMd,HR.len]
     simp_all [Da,zGW]
  have back: ∀ {k:Nat} {o:DO},Di σ k=none -> H[k]? =some (some o) -> (DU H σ h')[k]? =some (some o):=by
   grind [DU]
  have msE: ∀ b,MS N (DU H σ h') ρ' b -> MS B h' ρ1 b:=by
   rintro b (hb | ⟨k,o',p,n,l,m⟩)
   ·exact .inl (by rw [R];exact .inl hb)
   ·rcases E n with ⟨U,y,a3,a4⟩ | ⟨i,o,U,y,a3,a4⟩
    ·exact .inl (by grind)
    ·exact .inr ⟨i,o,p,U,a3.symm.trans l,m⟩
  have C: ∀ b,MO (DU H σ h') ρ' b -> MO H ρ b∨w.heap.size<=b:=by
   rintro b ⟨k,o',p,n,l,m⟩;rcases E n with ⟨U,y,a3,a4⟩ | ⟨i,o,U,y,a3,a4⟩
   ·exact .inl ⟨k,o',p,a3,a4.symm.trans l,m⟩
   ·exact (a.grow b ⟨i,o,p,U,a3.symm.trans l,m⟩).imp (J b) id
  have pl: ∀ (k:Nat) (p:AI),ρ[k]? =some p -> ρ'[k]? =some p:=λk p j=>by
   grind
  have O:BP (MS N H ρ) w ρ (MS N (DU H σ h') ρ') w' ρ':=
   ⟨λb hb hm _=>a.upd.block b hb λG=>hm (.inr (J b G)),λb hb=>hb.elim (λhb=>.inl (.inl hb)) (λhb=>(C b hb).imp .inr id),pl⟩
  refine ⟨v,rfl,⟨⟨ρ',⟨?_,λk o' hk=>?_,λk o' p b n l m=>?_,λk K o1 S Q p2 b AY n l m L q5 q6=>?_,λb hb=>⟨zGb (HR.nlt b hb).1 a.upd.size,(HR.nlt b hb).2⟩,g.gi⟩,dg msE de _ s,⟨a.upd.mono λb _ hb=>J b hb,C⟩,pl⟩,Z⟩,a.upd.mono λb _ ⟨i,o,p,n,l,m⟩=>?_⟩
  ·rw [iG,V];simp [HR.len,l1]
  ·rcases E hk with ⟨U,y,a3,a4⟩ | ⟨i,o,U,y,a3,a4⟩
   ·obtain ⟨p,j,hr⟩:=HR.obj k o' a3;refine ⟨p,a4.trans j,hr.out O a.upd (λb hb=>.inr (J b hb)) λb _ hf hs=>?_⟩
    grind
   ·obtain ⟨p,j,hr⟩:=g.obj i o U
    grind [yM]
  ·rcases E n with ⟨U,y,a3,a4⟩ | ⟨i,o,U,y,a3,a4⟩
   ·have j:=a4.symm.trans l;obtain ⟨D,I,c,t,z,A⟩:=HR.cel k o' p b a3 j m;refine ⟨D,I,c,t,z,(a.upd.block b (zGS.1 A).1 λG=>?_).trans A⟩
    grind
   ·obtain ⟨D,I,A⟩:=g.cel i o p b U (a3.symm.trans l) m
    grind
  ·rcases E n with ⟨U,y,a3,a4⟩ | ⟨i,o,U,y,a3,a4⟩
   ·rcases E l with ⟨D,I,A,W⟩ | ⟨T,o',D,I,A,W⟩
    ·exact HR.dis k K o1 S Q p2 b AY a3 A (a4.symm.trans m) (W.symm.trans L) q5 q6
    ·exact (g.cel T o' p2 b D (A.symm.trans L) q6).2.1 (by grind)
   ·rcases E l with ⟨D,I,A,W⟩ | ⟨T,o',D,I,A,W⟩
    ·exact (g.cel i o Q b U (a3.symm.trans m) q5).2.1 (by grind)
    ·refine g.dis i T o o' Q p2 b ?_ U D (a3.symm.trans m) (A.symm.trans L) q5 q6
     grind
  grind
def ES.embed (u:ES P Γ f ds h d h' ext)(σ:Θ)(H:DH)(a:σ.Nodup)(p: ∀ k∈σ,k<H.length)(m:σ.length=h.length)(V:h.length<=h'.length) 
 (y:(σ.map λk=>H.getD k none)=h.map (Dg σ H.length)):ES P Γ f (ds.map (up σ H.length)) H (up σ H.length d) (DU H σ h') ext:=
 let ⟨b,c⟩:=u.embedX σ H a p m V y
 ⟨b,λN ρ w args HR D=>(c N ρ w args HR D).mono λ_ _ ⟨v,e,g,_⟩=>⟨v,e,g⟩⟩
def OW (σ:Θ)(n l l':Nat):Bool:=decide σ.Nodup&&σ.all (λk=>decide (k<n))&&decide (σ.length=l)&&decide (l<=l')
def ES.embedB (u:ES P Γ f ds h d h' ext)(σ:Θ)(H:DH)(c:OW σ H.length h.length h'.length=true)(y:(σ.map λk=>H.getD k none)=h.map (Dg σ H.length)) 
 {w:List DV} {a:DV} {I:DH} (e:(ds.map (up σ H.length),up σ H.length d,DU H σ h')=(w,a,I)):ES P Γ f w H a I ext:=by
 simp only [OW,zFW,zH6,zGV] at c;cases e;exact u.embed σ H c.1.1.1 (λk hk=>c.1.1.2 k hk) c.1.2 c.2 y
end
end
end Go.Proofs.YtodinaconebmdaaGreatDoor
