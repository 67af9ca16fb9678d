/- Part 2 of 7 of what the proofs of these laws stand on. -/
import Derived.Test.YtkjbblkieglmlaaGreatDoorPtA
import Derived.MapKept
import Derived.Test.YtkjbblkieglmlaaGreatDoorProg
import Derived.Shelf.Spec.TrailingZeros
set_option linter.all false
namespace Go.Proofs.YtkjbblkieglmlaaGreatDoor
abbrev zD5:=@List.mem_append
abbrev zES:=@Go.MapKept.run_getObj_map
abbrev zEU:=@beq_self_eq_true
abbrev zEd:=@List.not_mem_nil
abbrev zEi:=@Bool.eq_iff_iff
abbrev zFF:=@Go.MapKept.run_setObj_map
abbrev zFb:=@Go.MapKept.run_findKey
abbrev zFp:=@List.Perm.refl
abbrev zFq:=@bne_self_eq_false
abbrev zF8:=@List.nodup_cons
end Go.Proofs.YtkjbblkieglmlaaGreatDoor
namespace Go.Proofs.YtkjbblkieglmlaaGreatDoor
open Go.RowKit
def Sh (P:Program) (t:TypeId):Bool:=match P.underlying t with
 | some (.int .i64)=>true
 | _=>false
theorem aL {P:Program} {t:TypeId} (h:Sh P t=true):P.underlying t=some (.int .i64):=by
 unfold Sh at h;split at h
 ·assumption
 ·cases h
def GM (P:Program) (t:TypeId):Option Nat:=match P.underlying t with
 | some (.int .i64)=>some 1
 | some (.struct fs)=>match fs.toList with
  | [f,g]=>if f.name != "_" &&g.name != "_" &&decide (f.offset=0)&&decide (g.offset=1)&&Sh P f.type&&Sh P g.type&&!P.stoodInHeld t then some 2 else none
  | _=>none
 | _=>none
section
variable {P:Program} {w:World} {t:TypeId}
theorem PS {n:Nat} (h:GM P t=some n):(n=1/\ P.underlying t=some (.int .i64))∨∃ f g fs,n=2/\ P.underlying t=some (.struct fs)/\ fs.toList= [f,g]/\ f.name≠ "_" /\ g.name≠ "_" /\ f.offset=0/\ g.offset=1/\ P.underlying f.type=some (.int .i64)/\ P.underlying g.type=some (.int .i64)/\ P.stoodInHeld t=false:=by
 unfold GM at h;split at h
 ·exact .inl ⟨(zAR h).symm,by assumption⟩
 ·rename_i fs hu;split at h
  ·rename_i f g hf;split at h
   ·rename_i hc;simp only [zAN,zEy,ne_eq,zAx,zEO] at hc;obtain ⟨⟨⟨⟨⟨⟨h1,h2⟩,h3⟩,h4⟩,h5⟩,h6⟩,h7⟩:=hc;exact .inr ⟨f,g,fs,(zAR h).symm,hu,hf,h1,h2,h3,h4,aL h5,aL h6,h7⟩
   ·cases h
  ·cases h
 ·cases h
theorem Oy {t:TypeId} (h:P.underlying t=some (.int .i64)) (cs:Array Value) (o:Nat) (v:Value) (hv:cs[o]? =some v):(part t cs o).run P w= .ok v w:=by
 unfold part;rw [zAr,RG h];simp [Result.andThen,Hs,h,hv]
theorem V6 {x:List Int} (h:x.length=2): ∃ a b,x= [a,b]:=by
 match x,h with
 | [a,b],_=>exact ⟨a,b,rfl⟩
theorem NZ {x:List Int} (h:x.length=1): ∃ a,x= [a]:=by
 match x,h with
 | [a],_=>exact ⟨a,rfl⟩
theorem PQ {n:Nat} (hk:GM P t=some n) {x:List Int} (hx:x.length=n) (e:Bool):(Instr.checkKey e 10000 t (BR x)).run P w= .ok () w:=by
 rcases PS hk with ⟨rfl,hu⟩ | ⟨f,g,fs,rfl,hu,hf,n1,n2,o1,o2,t1,t2,_⟩
 ·obtain ⟨a,rfl⟩:=NZ hx;exact MapKept.run_checkKey hu (by trivial) e 9999
 ·obtain ⟨a,b,rfl⟩:=V6 hx
  show (Instr.checkKey e (9999+1) t (.agg #[.int .i64 a,.int .i64 b])).run P w=_
  unfold Instr.checkKey;have c1: ∀ a,(Instr.checkKey e 9999 f.type (.int .i64 a)).run P w= .ok () w:=fun a=>MapKept.run_checkKey t1 (by trivial) e 9998
  have c2: ∀ a,(Instr.checkKey e 9999 g.type (.int .i64 a)).run P w= .ok () w:=fun a=>MapKept.run_checkKey t2 (by trivial) e 9998
  simp only [zAr,zBu hu,Result.andThen];rw [←Array.forIn_toList,hf];simp only [List.forIn_cons,List.forIn_nil,n1,n2,ne_eq,not_false_eq_true,zEL,o1,o2,zAr];rw [Oy t1 _ 0 (.int .i64 a) rfl];simp only [Result.andThen,c1,zFV,zAr];rw [Oy t2 _ 1 (.int .i64 b) rfl];simp only [Result.andThen,c2,zFV]
theorem wh {n:Nat} (hk:GM P t=some n) {x y:List Int} (hx:x.length=n) (hy:y.length=n):(Op.equal t (BR x) (BR y)).run P w= .ok (x==y) w:=by
 rcases PS hk with ⟨rfl,hu⟩ | ⟨f,g,fs,rfl,hu,hf,n1,n2,o1,o2,t1,t2,hs⟩
 ·obtain ⟨a,rfl⟩:=NZ hx;obtain ⟨b,rfl⟩:=NZ hy
  show (Op.equalIn (9999+1) t (.int .i64 a) (.int .i64 b)).run P w=_
  rw [zF7 w 9999 t .i64 .i64 a b hu]
  congr 1
  rw [zEi];simp
 ·obtain ⟨a,b,rfl⟩:=V6 hx;obtain ⟨c,d,rfl⟩:=V6 hy;have hF:P.fieldsOf t=fs:=by unfold Program.fieldsOf;rw [hu]
  show (Op.equalIn (9999+1) t (.agg #[.int .i64 a,.int .i64 b]) (.agg #[.int .i64 c,.int .i64 d])).run P w=_
  rw [run_equalIn_struct w 9999 t _ _ (by rw [hF];exact hu) hs,hF,hf];have e1: ∀ a c:Int,(Op.equalIn 9999 f.type (.int .i64 a) (.int .i64 c)).run P w= .ok (a==c) w:=fun a c=>zF7 w 9998 f.type .i64 .i64 a c t1
  have e2: ∀ a c:Int,(Op.equalIn 9999 g.type (.int .i64 a) (.int .i64 c)).run P w= .ok (a==c) w:=fun a c=>zF7 w 9998 g.type .i64 .i64 a c t2
  simp only [Op.eqFields,n1,n2,ne_eq,not_false_eq_true,zEL,o1,o2,zAr];rw [Oy t1 _ 0 (.int .i64 a) rfl];simp only [Result.andThen];rw [Oy t1 _ 0 (.int .i64 c) rfl];simp only [Result.andThen,e1,Sem.run_ite]
  by_cases h1:a=c
  ·subst h1;simp only [zEU,zD7,zDJ,zEr,zAr];rw [Oy t2 _ 1 (.int .i64 b) rfl];simp only [Result.andThen];rw [Oy t2 _ 1 (.int .i64 d) rfl];simp only [Result.andThen,e2,Sem.run_ite]
   by_cases h2:b=d
   ·subst h2;simp
   ·have:([a,b]== [a,d])=false:=by simp [h2]
    have L6:(b==d)=false:=by simp [h2]
    simp [L6,h2]
  ·have Kj:(a==c)=false:=by simp [h1]
   simp [Kj,h1]
theorem wg {n:Nat} (hk:GM P t=some n) {x:List Int} (hx:x.length=n) {ks:KS} (EH: ∀ y∈ks,y.length=n) {es:List MapEntry} (he: ∀ e∈es,∃ y∈ks,e.key=BR y):
 ((Instr.findKey t (BR x) es).run P w= .ok none w/\ ∀ e∈es,e.key≠BR x)∨∃ j e,(Instr.findKey t (BR x) es).run P w= .ok (some (j,e.val)) w/\ es[j]? =some e/\ e.key=BR x:=by
 have ask: ∀ (es:List MapEntry) (i:Nat),(∀ e∈es,∃ y∈ks,e.key=BR y) -> ((Instr.findAsking t (BR x) es i).run P w= .ok none w/\ ∀ e∈es,e.key≠BR x)∨∃ j e,(Instr.findAsking t (BR x) es i).run P w= .ok (some (i+j,e.val)) w/\ es[j]? =some e/\ e.key=BR x:=by
  intro es
  induction es with
  | nil=>intro i _;exact .inl ⟨rfl,fun e he=>by cases he⟩
  | cons e es ih=>
   intro i he;obtain ⟨y,hy,Bx⟩:=he e (by simp);have h1:(Op.equal t (BR x) e.key).run P w= .ok (x==y) w:=by rw [Bx];exact wh hk hx (EH y hy)
   by_cases WO:x=y
   ·subst WO;exact .inr ⟨0,e,by simp [Instr.findAsking,h1,Result.andThen],rfl,Bx⟩
   ·have hf:(x==y)=false:=by simp [WO]
    rcases ih (i+1) (fun e GV=>he e (by simp [GV])) with ⟨g1,g2⟩ | ⟨j,e',g1,g2,g3⟩
    ·refine .inl ⟨by simp [Instr.findAsking,h1,hf,Result.andThen,g1],fun e' GV=>?_⟩;rcases zA3.1 GV with rfl | GV
     ·rw [Bx];exact fun h=>WO (kE h).symm
     ·exact g2 e' GV
    ·exact .inr ⟨j+1,e',by simp [Instr.findAsking,h1,hf,Result.andThen,g1];omega,by simpa using g2,g3⟩
 rcases PS hk with ⟨rfl,hu⟩ | ⟨f,g,fs,rfl,hu,_⟩
 ·obtain ⟨a,rfl⟩:=NZ hx
  rcases MapKept.findNow_spec (d:=.int .i64) (k:=.int .i64 a) (by trivial) es 0 (fun e hm=>by
   obtain ⟨y,hy,Bx⟩:=he e hm;obtain ⟨b,rfl⟩:=NZ (EH y hy);rw [Bx];trivial) with ⟨h1,h2⟩ | ⟨j,e,h1,h2,h3⟩
  ·exact .inl ⟨zFb hu h1,h2⟩
  ·exact .inr ⟨j,e,by have:=zFb (w:=w) hu h1;rw [zAs] at this;exact this,h2,h3⟩
 ·have hn: ∀ es:List MapEntry,(∀ e∈es,∃ y∈ks,e.key=BR y) -> (Instr.findKey t (BR x) es).run P w=(match es with | []=>.ok none w | _=>(Instr.findAsking t (BR x) es 0).run P w):=fun es he=>by
   cases es with
   | nil=>simp [Instr.findKey,zBu hu,Instr.findNow,Result.andThen]
   | cons e es=>
    have:Instr.findNow (.struct fs) (BR x) (e::es) 0=none:=by
     simp [Instr.findNow,Instr.sameNow]
    simp [Instr.findKey,zBu hu,this,Result.andThen]
  rw [hn es he];cases es with
  | nil=>exact .inl ⟨rfl,fun e he=>by cases he⟩
  | cons e es=>
   rcases ask (e::es) 0 he with h | ⟨j,e',g1,g2⟩
   ·exact .inl h
   ·exact .inr ⟨j,e',by simpa using g1,g2⟩
theorem wf {n:Nat} (hk:GM P t=some n) {x:List Int} (hx:x.length=n):(Instr.keyThatStays (BR x) (BR x)).run P w= .ok (BR x) w:=by
 rcases PS hk with ⟨rfl,hu⟩ | ⟨f,g,fs,rfl,hu,_⟩
 ·obtain ⟨a,rfl⟩:=NZ hx;exact MapKept.run_keyThatStays (d:=.int .i64) (by trivial)
 ·obtain ⟨a,b,rfl⟩:=V6 hx
  have:Instr.sameBits 10000 (BR [a,b]) (BR [a,b])=true:=by
   show Instr.sameBits (9998+1+1) (.agg #[.int .i64 a,.int .i64 b]) (.agg #[.int .i64 a,.int .i64 b])=true
   simp [Instr.sameBits]
  simp [Instr.keyThatStays,this]
end
/-! ### Sets in order-/
def jZ:List Int -> List Int -> Bool
 | _,[]=>false
 | [],_::_=>true
 | a::r,b::s=>decide (a<b)||(a==b&&jZ r s)
def WB (x:List Int):KS -> KS
 | []=>[x]
 | y::r=>if jZ x y then x::y::r else y::WB x r
def CN (x:List Int) (l:KS):KS:=if l.contains x then l else WB x l
theorem kN (x:List Int): ∀ l:KS,(WB x l).Perm (x::l)
 | []=>zFp _
 | y::r=>by
  unfold WB;split
  ·exact zFp _
  ·exact ((kN x r).cons y).trans (List.Perm.swap x y r)
theorem iT {x:List Int} {l:KS} (h:x∈l):CN x l=l:=by unfold CN;simp [h]
theorem ZJ {x:List Int} {l:KS} (h:x∉l):(CN x l).Perm (x::l):=by unfold CN;simp [h];exact kN x l
theorem NS {x y:List Int} {l:KS}:y∈CN x l↔y=x∨y∈l:=by
 by_cases h:x∈l
 ·rw [iT h];exact ⟨.inr,fun h'=>h'.elim (fun e=>e▸h) id⟩
 ·rw [(ZJ h).mem_iff];simp
section
variable {P:Program} {w:World} {b n:Nat} {l:KS} {es:Array MapEntry} {Ab:Nat}
theorem Ej.key (h:Ej w b n l es Ab): ∀ e∈es.toList,∃ y∈l,e.key=BR y:=fun e he=>by
 have:e.key∈es.toList.map (·.key):=zEI.2 ⟨e,he,rfl⟩;obtain ⟨y,h1,h2⟩:=zEI.1 (h.keys.mem_iff.1 this);exact ⟨y,h1,h2.symm⟩
theorem Ej.has (h:Ej w b n l es Ab) {x:List Int}:x∈l↔∃ e∈es.toList,e.key=BR x:=by
 constructor
 ·intro hx;have:BR x∈l.map BR:=zEI.2 ⟨x,hx,rfl⟩;obtain ⟨e,h1,h2⟩:=zEI.1 (h.keys.mem_iff.2 this);exact ⟨e,h1,h2⟩
 ·rintro ⟨e,h1,h2⟩;obtain ⟨y,h3,h4⟩:=h.key e h1;exact kE (h2.symm.trans h4)▸h3
theorem Ej.find (h:Ej w b n l es Ab) {t:TypeId} (hk:GM P t=some n) {x:List Int} (hx:x.length=n):
 (x∉l/\ (Instr.findKey t (BR x) es.toList).run P w= .ok none w)∨(x∈l/\ ∃ j e,(Instr.findKey t (BR x) es.toList).run P w= .ok (some (j,.bool true)) w/\ es[j]? =some e/\ e.key=BR x/\ e.val= .bool true):=by
 rcases wg (w:=w) hk hx h.len h.key with ⟨h1,h2⟩ | ⟨j,e,h1,h2,h3⟩
 ·exact .inl ⟨fun hx=>by obtain ⟨e,g1,g2⟩:=h.has.1 hx;exact h2 e g1 g2,h1⟩
 ·have hm:e∈es.toList:=zDy h2;have hv:=h.tru e hm;exact .inr ⟨h.has.2 ⟨e,hm,h3⟩,j,e,by rw [←hv];exact h1,by simpa using h2,h3,hv⟩
theorem Qf {w:World} {b:Nat} (o:Obj):AP (fun k=>k=b) w { w with heap:=w.heap.setIfInBounds b o }:=
 ⟨rfl,rfl,rfl,by simp,fun k _ Am=>by simp [zFT Am]⟩
theorem Ej.put (h:Ej w b n l es Ab) {mt kt et:TypeId} (hm:P.underlying mt=some (.map kt et)) (hk:GM P kt=some n) {x:List Int} (hx:x.length=n):
 ∃ w' D9 Ei,(Instr.mapUpdate mt (.map (some b)) (BR x) (.bool true)).run P w= .ok () w'/\ AP (fun k=>k=b) w w'/\ Ej w' b n (CN x l) D9 Ei:=by
 have AO:b<w.heap.size:=(zAK.1 h.blk).1;rcases h.find hk hx with ⟨h1,h2⟩ | ⟨h1,j,e,h2,h3,h4,h5⟩
 ·refine ⟨{ w with heap:=w.heap.setIfInBounds b (.map (es.push { key:=BR x,val:=.bool true,born:=Ab }) (Ab+1)) },es.push { key:=BR x,val:=.bool true,born:=Ab },Ab+1,?_,Qf _,?_⟩
  ·simp [Instr.mapUpdate,zBu hm,zES h.blk,PQ hk hx,h2,zFF _ h.blk,Result.andThen]
  ·refine ⟨by simp [AO],?_,((ZJ h1).nodup_iff).2 (zF8.2 ⟨h1,h.nd⟩),fun y hy=>?_,fun e he=>?_,fun e he=>?_,?_⟩
   ·have e1:((es.push { key:=BR x,val:=.bool true,born:=Ab }).toList.map (·.key))=es.toList.map (·.key)++[BR x]:=by simp
    rw [e1];refine (List.perm_append_comm).trans ?_
    show (BR x::es.toList.map (·.key)).Perm _
    exact (h.keys.cons (BR x)).trans (((ZJ h1).map BR).symm)
   ·rcases NS.1 hy with rfl | hy
    ·exact hx
    ·exact h.len y hy
   ·simp only [Array.toList_push,zD5,zAu] at he;rcases he with he | rfl
    ·exact h.tru e he
    ·rfl
   ·simp only [Array.toList_push,zD5,zAu] at he;rcases he with he | rfl
    ·exact Nat.lt_succ_of_lt (h.born e he)
    ·exact Nat.lt_succ_self _
   ·have e1:((es.push { key:=BR x,val:=.bool true,born:=Ab }).toList.map (·.born))=es.toList.map (·.born)++[Ab]:=by simp
    rw [e1];refine List.nodup_append.2 ⟨h.stamps,by simp,fun a ha c hc=>?_⟩;obtain ⟨e,g1,g2⟩:=zEI.1 ha;have:=h.born e g1;simp at hc;omega
 ·have hj:j<es.size:=(zAK.1 h3).1
  have z6:(es.modify j fun e=>{ e with key:=BR x,val:=.bool true })=es:=by
   apply Array.ext_getElem?;intro i;rw [zE2];split
   ·rename_i Pg;subst Pg;rw [h3]
    show some ({ e with key:=BR x,val:=.bool true }:MapEntry)=some e
    rw [←h4,←h5]
   ·rfl
  refine ⟨{ w with heap:=w.heap.setIfInBounds b (.map es Ab) },es,Ab,?_,Qf _,?_⟩
  ·have EH:((es[j]?).map (·.key)).getD (BR x)=BR x:=by rw [h3];exact h4
   simp [Instr.mapUpdate,zBu hm,zES h.blk,PQ hk hx,h2,EH,wf hk hx,zFF _ h.blk,Result.andThen,z6]
  ·rw [iT h1];exact { h with blk:=by simp [AO] }
theorem Ej.look (h:Ej w b n l es Ab) {mt kt et:TypeId} (hm:P.underlying mt=some (.map kt et)) (hk:GM P kt=some n) {x:List Int} (hx:x.length=n) (hz:(zeroValue et).run P w= .ok (.bool false) w):
 (Instr.lookup mt (.map (some b)) (BR x) false).run P w= .ok (.bool (l.contains x)) w:=by
 rcases h.find hk hx with ⟨h1,h2⟩ | ⟨h1,j,e,h2,h3,h4,h5⟩
 ·have:l.contains x=false:=by simpa using h1
  simp [Instr.lookup,zBu hm,zES h.blk,PQ hk hx,h2,hz,Result.andThen,this,h1]
 ·have:l.contains x=true:=by simpa using h1
  simp [Instr.lookup,zBu hm,zES h.blk,PQ hk hx,h2,Result.andThen,this,h1]
end
/-! ### On eD view-/
def Vy (lk:Option (Nat×Nat×Array MapEntry×Nat)) (i:Nat):Prop:=∀ y,lk=some y -> y.1≠i
section
variable {P:Program} {w w':World} {p:AI} {n:Nat} {ls:List (Option KS)} {lk:Option (Nat×Nat×Array MapEntry×Nat)} {vs:Array Value}
theorem E3.lies (h:E3 w p n ls lk vs) {b:Nat} (hb:p.foot b):Db w b:=by
 rcases h.foot b hb with rfl | ⟨j,l,h1,h2⟩
 ·obtain ⟨cs,t,h3,_⟩:=h.row;exact .cells h3
 ·obtain ⟨b',g1,_,_,es,Ab,g2,_⟩:=h.has j l h1;have:b'=b:=by rw [g1] at h2;cases h2;rfl
  subst this;exact ⟨_,rfl,(),g2.blk⟩
theorem E3.put (h:E3 w p n ls lk vs) {i b:Nat} {l l':KS} {es:Array MapEntry} {Ab:Nat} (hi:ls[i]? =some (some l)) (hb:vs[i]? =some (Value.map (some b))) (hu:AP (fun k=>k=b) w w') (hm:Ej w' b n l' es Ab) (ay:Vy lk i):E3 w' p n (ls.set i (some l')) lk vs:=by
 have Eg:i<ls.length:=(zAS.1 hi).1;obtain ⟨b0,g1,g2,g3,_⟩:=h.has i l hi;have:b0=b:=by rw [g1] at hb;cases hb;rfl
 subst this
 have Id: ∀ {j:Nat} {x:Option KS},(ls.set i (some l'))[j]? =some x -> (j=i/\ x=some l')∨(j≠i/\ ls[j]? =some x):=fun {j x} hj=>by
  rw [zAy] at hj
  by_cases e:i=j
  ·subst e;simp [Eg] at hj;exact .inl ⟨rfl,hj.symm⟩
  ·rw [zAU e] at hj;exact .inr ⟨zFT e,hj⟩
 refine ⟨h.val,by simp [h.size],?_,h.blk,fun j l1 hj=>?_,fun j hj=>?_,fun b' DA=>?_,h.inj⟩
 ·obtain ⟨cs,t,k1,k2⟩:=h.row;exact ⟨cs,t,(hu.block _ (zAK.1 k1).1 (fun e=>g2 e.symm)).trans k1,by simpa using k2⟩
 ·rcases Id hj with ⟨rfl,e⟩ | ⟨Am,hj⟩
  ·cases e;exact ⟨b0,hb,g2,g3,es,Ab,hm,fun y hy e=>absurd e (ay y hy)⟩
  ·obtain ⟨b1,k1,k2,k3,H6,c1,k4,k5⟩:=h.has j l1 hj;refine ⟨b1,k1,k2,k3,H6,c1,k4.out (hu.block _ (zAK.1 k4.blk).1 fun e=>Am ?_),k5⟩;subst e;exact h.inj j i b1 k1 hb
 ·rcases Id hj with ⟨rfl,e⟩ | ⟨Am,hj⟩
  ·cases e
  ·exact h.nil j hj
 ·rcases h.foot b' DA with e | ⟨j,l1,k1,k2⟩
  ·exact .inl e
  ·by_cases e:j=i
   ·subst e;exact .inr ⟨j,l',by simp [Eg],k2⟩
   ·exact .inr ⟨j,l1,by rw [zAy,zAU (zFT e)];exact k1,k2⟩
end
def V7 (n:Nat) (d:DV):Option (List Int):=match d with
 | .int .i64 a=>if n=1 then some [a] else none
 | .agg m f=>if m=n/\ n≠1 then if (List.range m).all fun j=>KN (f j) then some ((List.range m).map fun j=>Ht (f j)) else none else none
 | _=>none
def aF (n:Nat) (x:List Int):DV:=if n=1 then .int .i64 (x.getD 0 0) else .agg n (F8 n fun j=>.int .i64 (x.getD j 0))
section
variable {P:Program} {w:World} {ρ:List AI} {M:Nat -> Prop}
theorem kF {x:List Int} (h:x.length≠1):BR x= .agg (x.map fun a=>.int .i64 a).toArray:=by
 unfold BR;split
 ·simp at h
 ·rfl
theorem kG {n:Nat} {d:DV} {x:List Int} {v:Value} (h:V7 n d=some x) (hr:AM M w d ρ v):v=BR x/\ x.length=n:=by
 unfold V7 at h;split at h
 ·split at h
  ·cases h;exact ⟨hr,by simp;omega⟩
  ·cases h
 ·rename_i m f;split at h
  ·rename_i hm;split at h
   ·rename_i ha;cases h;have hl:((List.range m).map fun j=>Ht (f j)).length=m:=by simp
    refine ⟨?_,by rw [hl];exact hm.1⟩;obtain ⟨cs,rfl,hs,hc⟩:=hr;rw [kF (by rw [hl];omega)]
    congr 1
    apply Array.ext_getElem?;intro j
    by_cases hj:j<m
    ·obtain ⟨u,e1,e2⟩:=hc j hj;have:=aH (zAT.1 ha j (zAi.2 hj)) e2;rw [e1,this];simp [hj]
    ·rw [zFm (by omega)];simp [hj]
   ·cases h
  ·cases h
 ·cases h
theorem wi {n:Nat} {x:List Int} (h:x.length=n):AM M w (aF n x) ρ (BR x):=by
 unfold aF;split
 ·rename_i e;subst e;obtain ⟨a,rfl⟩:=NZ h;rfl
 ·rename_i e;rw [kF (by omega)];refine ⟨_,rfl,by simp [h],fun j hj=>?_⟩;rw [Uj hj];have BT:j<x.length:=by omega
  exact ⟨.int .i64 (x.getD j 0),by simp [BT],rfl⟩
end
def XA:Nat -> DH -> Option (Nat×Nat×List (Option KS)×Nat×Nat×Array MapEntry×Nat)
 | _,[]=>none
 | k,some (.mo (.sets n ls (some y)))::_=>some (k,n,ls,y)
 | k,_::r=>XA (k+1) r
theorem zBc {n:Nat} {ls:List (Option KS)} {y:Nat×Nat×Array MapEntry×Nat} {k:Nat}: ∀ (h:DH) (k0:Nat),XA k0 h=some (k,n,ls,y) -> k0<=k/\ h[k-k0]? =some (some (.mo (.sets n ls (some y)))):=by
 intro h
 induction h with
 | nil=>intro k0 e;cases e
 | cons x r ih=>
  intro k0 e
  have step:XA (k0+1) r=some (k,n,ls,y) -> k0<=k/\ (x::r)[k-k0]? =some (some (.mo (.sets n ls (some y)))):=fun e=>by
   obtain ⟨h1,h2⟩:=ih (k0+1) e;refine ⟨by omega,?_⟩;have:k-k0=k-(k0+1)+1:=by omega
   rw [this];simpa using h2
  match x,e with
  | none,e=>exact step e
  | some (.cells _),e=>exact step e
  | some (.ints _),e=>exact step e
  | some (.bools _),e=>exact step e
  | some (.arr _ _ _),e=>exact step e
  | some (.iter _),e=>exact step e
  | some (.ro _),e=>exact step e
  | some (.mo (.set _ _)),e=>exact step e
  | some (.mo (.mit _ _ _ _ _ _)),e=>exact step e
  | some (.mo (.rows _ _)),e=>exact step e
  | some (.mo (.rws _ _)),e=>exact step e
  | some (.mo (.sets _ _ none)),e=>exact step e
  | some (.mo (.sets _ _ (some _))),e=>cases e;exact ⟨zAp _,by simp⟩
def NT (P:Program) (t:TypeId):Option (Nat×TypeId):=match P.underlying t with
 | some (.map k e)=>match GM P k with
  | some n=>match P.info? e with
   | some i=>match i.zero with
    | some (.bool false)=>some (n,k)
    | _=>none
   | none=>none
  | none=>none
 | _=>none
theorem Z1 {P:Program} {t k:TypeId} {n:Nat} (h:NT P t=some (n,k)): ∃ e,P.underlying t=some (.map k e)/\ GM P k=some n/\ ∀ w,(zeroValue e).run P w= .ok (.bool false) w:=by
 unfold NT at h;split at h
 ·rename_i k' e hu;split at h
  ·rename_i n' hk;split at h
   ·rename_i i hi;split at h
    ·rename_i hz;cases h;exact ⟨e,hu,hk,fun w=>by simp [zeroValue,typeInfo,hi,hz]⟩
    ·cases h
   ·cases h
  ·cases h
 ·cases h
def VP (P:Program) (S:St) (t:TypeId) (m k x:DV):Option (DV×DH×List Prop×Bool):=match NT P t with
 | some (n,_)=>match V7 n k,x with
  | some x,.bool true=>match m with
   | .it j=>match S.h[j]? with
    | some (some (.mo (.set n' l)))=>if n'=n then some (.any,S.h.set j (some (.mo (.set n (CN x l)))),[],false) else none
    | _=>none
   | .mri j i=>match S.h[j]? with
    | some (some (.mo (.sets n' ls lk)))=>if n'=n then some (.any,S.h.set j (some (.mo (.sets n (ls.set i (some (CN x ((ls.getD i none).getD [])))) lk))),[(ls.getD i none).isSome=true,Vy lk i],false) else none
    | _=>none
   | _=>none
  | _,_=>none
 | none=>none
def Z2 (P:Program) (S:St):Op -> Option (DV×DH×List Prop×Bool)
 | .makeMap t none=>match NT P t with
  | some (n,_)=>some (.it S.h.length,S.h++[some (.mo (.set n []))],[],true)
  | none=>none
 | .mapUpdate t m k x=>VP P S t (AY S.fr m) (AY S.fr k) (AY S.fr x)
 | .insert t m k x=>VP P S t (AY S.fr m) (AY S.fr k) (AY S.fr x)
 | .lookup t m k false=>match NT P t with
  | some (n,_)=>match V7 n (AY S.fr k) with
   | some x=>match AY S.fr m with
    | .it j=>match S.h[j]? with
     | some (some (.mo (.set n' l)))=>if n'=n then some (.bool (l.contains x),S.h,[],true) else none
     | _=>none
    | .mri j i=>match S.h[j]? with
     | some (some (.mo (.sets n' ls _)))=>if n'=n then some (.bool (((ls.getD i none).getD []).contains x),S.h,[(ls.getD i none).isSome=true],true) else none
     | _=>none
    | _=>none
   | none=>none
  | none=>none
 | .range t m=>match NT P t with
  | some (n,_)=>match AY S.fr m with
   | .mri j i=>match S.h[j]? with
    | some (some (.mo (.sets n' ls (some (i',mb,es,Ab)))))=>if n'=n then some (.it S.h.length,S.h++[some (.mo (.mit n mb es Ab ((ls.getD i none).getD []) none))],[(ls.getD i none).isSome=true,i'=i],true) else none
    | _=>none
   | _=>none
  | none=>none
 | .entry m=>match AY S.fr m with
  | .it j=>match S.h[j]? with
   | some (some (.mo (.mit n mb es Ab _ (some x))))=>match XA 0 S.h with
    | some (_,_,ls,i,jW,D9,Ei)=>some (.tup 2 (F8 2 fun c=>if c=0 then aF n x else .bool true),S.h,[(ls.getD i none).isSome=true,jW=mb,D9=es,Ei=Ab],true)
    | none=>none
   | _=>none
  | _=>none
 | _=>none
section
variable {P:Program} {Γ:Ar} {N:Nat -> Prop} {S:St} {ρ:List AI} {a:Act} {w:World}
theorem Pu {ls:List (Option KS)} {i:Nat} (h:(ls.getD i none).isSome=true):ls[i]? =some (some ((ls.getD i none).getD [])):=by
 rw [u8] at h ⊢;cases hx:ls[i]? with
 | none=>rw [hx] at h;cases h
 | some x=>
  rw [hx] at h;cases x with
  | none=>cases h
  | some l=>simp
theorem Yj (R:AS P Γ N S ρ a w) {j n:Nat} {l:KS} {v:Value} (hk:S.h[j]? =some (some (.mo (.set n l)))) (hv:AM (MS N S.h ρ) w (.it j) ρ v): ∃ p es Ab,ρ[j]? =some p/\ v= .map (some p.blk)/\ p.foot=(fun b=>b=p.blk)/\ p.val=Value.map (some p.blk)/\ Ej w p.blk n l es Ab:=by
 obtain ⟨p,hp,rfl⟩:=hv;obtain ⟨p',BF,h1,h2,es,Ab,h3⟩:=R.hr.obj j _ hk;have:p'=p:=zAR (BF.symm.trans hp);subst this;exact ⟨p',es,Ab,hp,h1,h2,h1,h3⟩
theorem Yi (R:AS P Γ N S ρ a w) {j i n:Nat} {ls:List (Option KS)} {lk:Option (Nat×Nat×Array MapEntry×Nat)} {v:Value} (hk:S.h[j]? =some (some (.mo (.sets n ls lk)))) (hv:AM (MS N S.h ρ) w (.mri j i) ρ v) (hs:(ls.getD i none).isSome=true):
 ∃ p vs b es Ab,ρ[j]? =some p/\ E3 w p n ls lk vs/\ v= .map (some b)/\ vs[i]? =some (Value.map (some b))/\ p.foot b/\ Ej w b n ((ls.getD i none).getD []) es Ab/\ ∀ y,lk=some y -> y.1=i -> y.2=(b,es,Ab):=by
 obtain ⟨p,vs,hp,FI,Cr⟩:=hv;obtain ⟨p',BF,Bj,h1⟩:=R.hr.obj j _ hk;have:p'=p:=zAR (BF.symm.trans hp);subst this;have:Bj=vs:=by have:=h1.val.symm.trans FI;cases this;rfl
 subst this;obtain ⟨b,g1,g2,g3,es,Ab,g4,g5⟩:=h1.has i _ (Pu hs);have:v= .map (some b):=by rw [g1] at Cr;exact (zAR Cr).symm
 exact ⟨p',Bj,b,es,Ab,hp,h1,this,g1,g3,g4,g5⟩
theorem Yo (R:AS P Γ N S ρ a w) {d:DV} {v:Value} (hv:AM (MS N S.h ρ) w d ρ v):CV P Γ N S.h ρ w true d S.h v w:=⟨⟨ρ,R.hr,hv,A6.refl _ _ _,fun _ _ h=>h⟩,fun _=>Aq.refl w⟩
theorem TM (H:A0 P Γ N S.h ρ w) {ob:Obj} (C8:lX ob=true) {pl:AI} (Ey:pl.foot=fun b=>b=w.heap.size) {o:DO} {d:DV} {v:Value} (ho: ∀ M ρ',Dy P M (w.alloc ob) ρ' pl o)
 (hv: ∀ M ρ',ρ'[S.h.length]? =some pl -> AM M (w.alloc ob) d ρ' v) (ext:Bool):CV P Γ N S.h ρ w ext d (S.h++[some o]) v (w.alloc ob):=by
 have hE:Aq w (w.alloc ob):=(Aq.refl w).allocR _;have hf: ∀ b,pl.foot b -> w.heap.size<=b:=fun b hb=>by rw [Ey] at hb;exact Nat.le_of_eq (Eq.symm hb)
 have hb:(w.alloc ob).heap[w.heap.size]? =some ob:=zEz w _;refine ⟨⟨ρ++[pl],H.snoc hE (fun b hx=>⟨hf b hx,ob,C8,(),by rw [Ey] at hx;rw [show b=w.heap.size from hx];exact hb⟩) (ho _ _),?_,A6.snoc H hE hf,fun k p hk=>ET hk⟩,fun _=>hE⟩;exact hv _ _ (by rw [←H.len];simp)
theorem iU (R:AS P Γ N S ρ a w) {t:TypeId} {m k x:Operand} {d:DV} {h':DH} {vs:List Prop} {ext:Bool} (hd:VP P S t (AY S.fr m) (AY S.fr k) (AY S.fr x)=some (d,h',vs,ext)) (hv:Bc vs):
 ∃ w',(Instr.mapUpdate t (a.eval m) (a.eval k) (a.eval x)).run P w= .ok () w'/\ CV P Γ N S.h ρ w ext d h' undef w':=by
 have rm:=Bg R m;have rk:=Bg R k;have rx:=Bg R x;unfold VP at hd;split at hd
 ·rename_i n kt hT;obtain ⟨e,hu,hk,hz⟩:=Z1 hT;split at hd
  ·rename_i xs hK hX;obtain ⟨ek,el⟩:=kG hK rk;rw [hX] at rx;have ex:a.eval x= .bool true:=rx;rw [ek,ex];split at hd
   ·rename_i j hM;split at hd
    ·rename_i n' l hO;split at hd
     ·rename_i hn;cases hd;subst hn;rw [hM] at rm;obtain ⟨p,es,Ab,hp,ev,Ey,FI,hA⟩:=Yj R hO rm;rw [ev];obtain ⟨w',D9,Ei,h1,h2,h3⟩:=hA.put hu hk el;have Hw:AP p.foot w w':=by rw [Ey];exact h2
      refine ⟨w',h1,⟨ρ,R.hr.write hO hp Hw (fun b hb=>?_) ⟨FI,Ey,D9,Ei,h3⟩,trivial,A6.write hO hp Hw,fun _ _ h=>h⟩,fun h=>by cases h⟩;rw [Ey] at hb;exact ⟨_,rfl,(),by rw [show b=p.blk from hb];exact h3.blk⟩
     ·cases hd
    ·cases hd
   ·rename_i j i hM;split at hd
    ·rename_i n' ls lk hO;split at hd
     ·rename_i hn;cases hd;subst hn;obtain ⟨hs,ay,_⟩:=hv;rw [hM] at rm;obtain ⟨p,vs,b,es,Ab,hp,hS,ev,Cr,GU,hA,_⟩:=Yi R hO rm hs;rw [ev];obtain ⟨w',D9,Ei,h1,h2,h3⟩:=hA.put hu hk el;have Hw:AP p.foot w w':=h2.mono fun c _ hc=>by rw [show c=b from hc];exact GU
      have L4:=hS.put (Pu hs) Cr h2 h3 ay;exact ⟨w',h1,⟨ρ,R.hr.write hO hp Hw (fun b hb=>L4.lies hb) ⟨vs,L4⟩,trivial,A6.write hO hp Hw,fun _ _ h=>h⟩,fun h=>by cases h⟩
     ·cases hd
    ·cases hd
   ·cases hd
  ·cases hd
 ·cases hd
theorem v6 (es:Array MapEntry):leftOf es #[]=es:=by
 unfold leftOf;refine Array.filter_eq_self.2 fun x hx=>by simp
theorem sZ {r bm ID Ab:Nat} {seen:Array Nat} {es:Array MapEntry} {e:MapEntry} (hr:w.heap[r]? =some (.mapIter (some bm) ID seen Ab)) (hs:seen.back? =some e.born) (hb:w.heap[bm]? =some (.map es Ab)) (he:e∈es.toList) (hn:(es.toList.map (·.born)).Nodup):
 (Instr.entry (.pointer (some ⟨r,0,none⟩))).run P w= .ok (.tuple #[e.key,e.val]) w:=by
 have hf:es.find? (·.born==e.born)=some e:=by rw [←Array.find?_toList];exact find_born e es.toList hn he
 simp only [Instr.entry,getObj,zAr,Sem.run,hr,hb,Result.andThen,hs,zFq,zDJ,zEr,hf];rfl
theorem va (R:AS P Γ N S ρ a w) (o:Oper) {d:DV} {h':DH} {vs:List Prop} {ext:Bool} (hd:Z2 P S o.op=some (d,h',vs,ext)) (hv:Bc vs):Bb P (execOp a.eval o) w (CV P Γ N S.h ρ w ext d h'):=by
 unfold Z2 at hd;split at hd
 ·rename_i t ho;split at hd
  ·rename_i n kt hT;cases hd;refine Bb.value (s:=Instr.makeMap t none) (by unfold execOp;rw [ho];rfl) (v:=.map (some w.heap.size)) (w':=w.alloc (.map #[] 0)) (by simp [Instr.makeMap,newObj];rfl) ?_;refine TM (ob:=.map #[] 0) (o:=.mo (.set n [])) (d:=.it S.h.length) (v:=.map (some w.heap.size)) (pl:=⟨w.heap.size,0,0,.map (some w.heap.size),fun b=>b=w.heap.size⟩) R.hr rfl rfl (fun M ρ'=>⟨rfl,rfl,#[],0,⟨zEz w _,by simp,List.nodup_nil,fun y hy=>absurd hy zEd,fun e he=>absurd he (by simp),fun e he=>absurd he (by simp),by simp⟩⟩) (fun M ρ' hp=>⟨_,hp,rfl⟩) true
  ·cases hd
 ·rename_i t m k x ho;obtain ⟨w',h1,h2⟩:=iU R hd hv;exact Bb.skip (s:=Instr.mapUpdate t (a.eval m) (a.eval k) (a.eval x)) (by unfold execOp;rw [ho]) h1 h2
 ·rename_i t m k x ho;obtain ⟨w',h1,h2⟩:=iU R hd hv;exact Bb.skip (s:=Instr.mapUpdate t (a.eval m) (a.eval k) (a.eval x)) (by unfold execOp;rw [ho]) h1 h2
 ·rename_i t m k ho;have rm:=Bg R m;have rk:=Bg R k;split at hd
  ·rename_i n kt hT;obtain ⟨e,hu,hk,hz⟩:=Z1 hT;split at hd
   ·rename_i xs hK;obtain ⟨ek,el⟩:=kG hK rk;split at hd
    ·rename_i j hM;split at hd
     ·rename_i n' l hO;split at hd
      ·rename_i hn;cases hd;subst hn;rw [hM] at rm;obtain ⟨p,es,Ab,hp,ev,Ey,FI,hA⟩:=Yj R hO rm;exact Bb.value (s:=Instr.lookup t (a.eval m) (a.eval k) false) (by unfold execOp;rw [ho]) (by rw [ek,ev];exact hA.look hu hk el (hz w)) (Yo R rfl)
      ·cases hd
     ·cases hd
    ·rename_i j i hM;split at hd
     ·rename_i n' ls lk hO;split at hd
      ·rename_i hn;cases hd;subst hn;rw [hM] at rm;obtain ⟨p,vs,b,es,Ab,hp,hS,ev,Cr,GU,hA,_⟩:=Yi R hO rm hv.1;exact Bb.value (s:=Instr.lookup t (a.eval m) (a.eval k) false) (by unfold execOp;rw [ho]) (by rw [ek,ev];exact hA.look hu hk el (hz w)) (Yo R rfl)
      ·cases hd
     ·cases hd
    ·cases hd
   ·cases hd
  ·cases hd
 ·rename_i t m ho;have rm:=Bg R m;split at hd
  ·rename_i n kt hT;obtain ⟨e,hu,hk,hz⟩:=Z1 hT;split at hd
   ·rename_i j i hM;split at hd
    ·rename_i n' ls i' mb es Ab hO;split at hd
     ·rename_i hn;cases hd;subst hn;obtain ⟨hs,hi,_⟩:=hv;subst hi;rw [hM] at rm;obtain ⟨p,vs,b,H6,Xh,hp,hS,ev,Cr,GU,hA,hL⟩:=Yi R hO rm hs;have hL:=hL _ rfl rfl;cases hL;refine Bb.value (s:=Instr.range t (a.eval m)) (by unfold execOp;rw [ho]) (by rw [ev];exact run_range_map w t _ _ _ _ _ hu hA.blk) ?_;refine TM (ob:=.mapIter (some mb) Ab #[] Ab) (o:=.mo (.mit n' mb es Ab ((ls.getD i' none).getD []) none)) (d:=.it S.h.length) (v:=.pointer (some ⟨w.heap.size,0,none⟩)) (pl:=⟨w.heap.size,0,0,.pointer (some ⟨w.heap.size,0,none⟩),fun b=>b=w.heap.size⟩) R.hr rfl rfl (fun M ρ'=>⟨fun x hx=>hx.elim (hA.len x) (fun e=>by cases e),rfl,rfl,#[],zEz w _,by rw [v6];exact hA.keys,fun x hx=>by cases hx⟩) (fun M ρ' hp=>⟨_,hp,rfl⟩) true
     ·cases hd
    ·cases hd
   ·cases hd
  ·cases hd
 ·rename_i m ho;have rm:=Bg R m;split at hd
  ·rename_i j hM;split at hd
   ·rename_i n mb es Ab rem x hO;split at hd
    ·rename_i k n' ls i jW D9 Ei hF;cases hd;obtain ⟨hs,e1,e2,e3,_⟩:=hv;subst e1 e2 e3;rw [hM] at rm;obtain ⟨p,hp,ev⟩:=rm;obtain ⟨p',BF,h0,h1,h2,seen,h3,h4,h5⟩:=R.hr.obj j _ hO;have:p'=p:=zAR (BF.symm.trans hp);subst this;obtain ⟨e,g1,g2,g3⟩:=h5 x rfl;have hF:=(zBc _ _ hF).2;obtain ⟨q,hq,vs,hS⟩:=R.hr.obj _ _ hF;obtain ⟨b,k1,k2,k3,H6,Xh,k4,k5⟩:=hS.has i _ (Pu hs);have k5:=k5 _ rfl rfl;cases k5;refine Bb.value (s:=Instr.entry (a.eval m)) (by unfold execOp;rw [ho]) (by rw [ev,h1];exact sZ h3 g3 k4.blk g1 k4.stamps) (Yo R ?_);refine ⟨_,rfl,rfl,fun c hc=>?_⟩;rw [Uj hc,g2,k4.tru e g1]
     match c,hc with
     | 0,_=>exact ⟨BR x,rfl,wi (h0 x (.inr rfl))⟩
     | 1,_=>exact ⟨.bool true,rfl,rfl⟩
    ·cases hd
   ·cases hd
  ·cases hd
 ·cases hd
end
end Go.Proofs.YtkjbblkieglmlaaGreatDoor
namespace Go.Proofs.YtkjbblkieglmlaaGreatDoor
abbrev zEA:=@List.getElem?_replicate
abbrev zFd:=@Array.getElem?_replicate
end Go.Proofs.YtkjbblkieglmlaaGreatDoor
namespace Go.Proofs.YtkjbblkieglmlaaGreatDoor
open Go.RowKit
def Vu (P:Program) (t:TypeId):Option (Nat×TypeId×TypeInfo):=match P.underlying t with
 | some (.slice e)=>match NT P e with
  | some (n,_)=>match P.info? e with
   | some i=>match i.zero with
    | some (.map none)=>if i.size=1/\ i.bytes<=128 then some (n,e,i) else none
    | _=>none
   | none=>none
  | none=>none
 | _=>none
theorem vR {P:Program} {t e:TypeId} {n:Nat} {i:TypeInfo} (h:Vu P t=some (n,e,i)):P.underlying t=some (.slice e)/\ P.info? e=some i/\ i.zero=some (.map none)/\ i.size=1/\ i.bytes<=128:=by
 unfold Vu at h;split at h
 ·rename_i e' hu;split at h
  ·split at h
   ·rename_i i' hi;split at h
    ·rename_i hz;split at h
     ·rename_i hc;cases h;exact ⟨hu,hi,hz,hc.1,hc.2⟩
     ·cases h
    ·cases h
   ·cases h
  ·cases h
 ·cases h
section
variable {P:Program} {Γ:Ar} {N:Nat -> Prop} {S:St} {ρ:List AI} {a:Act} {w:World} {h:DH}
theorem tQ {α:Type} {n j:Nat} {x y:α} (h:(List.replicate n x)[j]? =some y):x=y:=by
 rw [zEA] at h;split at h
 ·exact zAR h
 ·cases h
theorem vd (R:AS P Γ N S ρ a w) {t e:TypeId} {x y:Operand} {n:Nat} {i:TypeInfo} {kx ky:IntKind} {m:Int} (hT:Vu P t=some (n,e,i)) (hx:AY S.fr x= .int kx m) (hy:AY S.fr y= .int ky m)
 (hn:0<=m/\ m<=1000000000000) (o:Oper) (ho:o.op= .makeSlice t x y) (ext:Bool):
 Bb P (execOp a.eval o) w (CV P Γ N S.h ρ w ext (.msl S.h.length 1 0 m.toNat) (S.h++[some (.mo (.sets n (List.replicate m.toNat none) none))])):=by
 obtain ⟨hu,hi,hz,hs,Di⟩:=vR hT;have GP:=hn.1;have GO:=hn.2;have rx:=Bg R x;have ry:=Bg R y;rw [hx] at rx;rw [hy] at ry;have DW:(madeCells (Value.map none).cells (m.toNat*i.size)).size=m.toNat:=by rw [size_madeCells,hs,zD8]
 have C9: ∀ j,j<m.toNat -> (madeCells (Value.map none).cells (m.toNat*i.size))[j]? =some (Value.map none):=fun j hj=>by
  simp [madeCells,hs,hj,Value.cells,Nat.mod_one]
 refine Bb.value (s:=Instr.makeSlice t (a.eval x) (a.eval y)) (by unfold execOp;rw [ho]) (v:=.slice (some ⟨w.heap.size,0,none⟩) m.toNat m.toNat) (w':=w.alloc (.cells (madeCells (Value.map none).cells (m.toNat*i.size)) e)) ?_ ?_
 ·rw [show a.eval x=_ from rx,show a.eval y=_ from ry];refine run_make w t e i _ hu hi hz kx ky m m GP (zEK _) ?_ (by omega);have:(i.bytes:Int)*m<=128*1000000000000:=Int.mul_le_mul (by omega) GO GP (by omega);omega
 ·generalize hC:madeCells (Value.map none).cells (m.toNat*i.size)=cs at DW C9 ⊢
  refine TM (ob:=.cells cs e) (o:=.mo (.sets n (List.replicate m.toNat none) none)) (d:=.msl S.h.length 1 0 m.toNat) (pl:=⟨w.heap.size,0,cs.size,.tuple (Array.replicate m.toNat (Value.map none)),fun b=>b=w.heap.size⟩) R.hr rfl rfl (fun M ρ'=>?_) (fun M ρ' hp=>⟨_,m.toNat,hp,by simp,zAp _,by unfold LB;omega,by simp [DW]⟩) ext;refine ⟨Array.replicate m.toNat (Value.map none),rfl,by simp,⟨cs,e,zEz w _,by simp [DW],zAp _,fun j hj=>?_⟩,rfl,fun j l hj=>?_,fun j hj=>?_,fun b hb=>.inl hb,fun i j b h1 h2=>?_⟩
  ·rw [zAl] at hj
   show cs[0+j]? =_
   rw [zAs,C9 j hj,zFd,zAE hj]
  ·have:=tQ hj;cases this
  ·have BT:=(zAS.1 hj).1;rw [zAl] at BT;rw [zFd,zAE BT]
  ·rw [zFd] at h1;split at h1 <;> cases h1
theorem A0.merge (H:A0 P Γ N h ρ w) {w':World} {k j:Nat} {o oj o':DO} {p q p':AI} (bF:k≠j) (hk:h[k]? =some (some o)) (hp:ρ[k]? =some p) (hj:h[j]? =some (some oj)) (hq:ρ[j]? =some q) (hu:AP p.foot w w') (hf: ∀ b,p'.foot b -> (p.foot b∨q.foot b)/\ Db w' b)
 (ho:Dy P (MS N ((h.set k none).set j none++[some o']) (ρ++[p'])) w' (ρ++[p']) p' o'):
 A0 P Γ N ((h.set k none).set j none++[some o']) (ρ++[p']) w'/\ A6 h ρ w ((h.set k none).set j none++[some o']) (ρ++[p']) w':=by
 have Ao:((h.set k none).set j none).length=h.length:=by simp
 have hM: ∀ b,p.foot b -> MO h ρ b:=fun b hb=>⟨k,o,p,hk,hp,hb⟩
 have hMq: ∀ b,q.foot b -> MO h ρ b:=fun b hb=>⟨j,oj,q,hj,hq,hb⟩
 have mK: ∀ {i:Nat} {o1:DO},((h.set k none).set j none)[i]? =some (some o1) -> i≠k/\ i≠j/\ h[i]? =some (some o1):=fun {i o1} hi=>by
  obtain ⟨e1,e2⟩:=Fv hi;obtain ⟨e3,e4⟩:=Fv e2;exact ⟨e3,e1,e4⟩
 have IV: ∀ {i:Nat} {o1:DO} {p1:AI},((h.set k none).set j none++[some o'])[i]? =some (some o1) -> (ρ++[p'])[i]? =some p1 -> (i≠k/\ i≠j/\ i<h.length/\ h[i]? =some (some o1)/\ ρ[i]? =some p1)∨(i=h.length/\ o1=o'/\ p1=p'):=by
  intro i o1 p1 h1 h2;rcases Dj h1 with ⟨hl,h1⟩ | ⟨hl,h1⟩
  ·rw [Ao] at hl;rcases Dj h2 with ⟨_,h2⟩ | ⟨Cg,_⟩
   ·obtain ⟨e1,e2,e3⟩:=mK h1;exact .inl ⟨e1,e2,hl,e3,h2⟩
   ·rw [H.len] at Cg;omega
  ·rw [Ao] at hl;rcases Dj h2 with ⟨Cg,_⟩ | ⟨_,h2⟩
   ·rw [H.len] at Cg;omega
   ·cases h1;exact .inr ⟨hl,rfl,h2.symm⟩
 have grow: ∀ b,MO ((h.set k none).set j none++[some o']) (ρ++[p']) b -> MO h ρ b:=by
  rintro b ⟨i,o1,p1,h1,h2,h3⟩;rcases IV h1 h2 with ⟨_,_,_,g1,g2⟩ | ⟨_,_,rfl⟩
  ·exact ⟨i,o1,p1,g1,g2,h3⟩
  ·exact (hf b h3).1.elim (hM b) (hMq b)
 have O:BU (MS N h ρ) w ρ (MS N ((h.set k none).set j none++[some o']) (ρ++[p'])) w' (ρ++[p']):=
  ⟨fun b hb hm _=>hu.block b hb fun hx=>hm (.inr (hM b hx)),fun b hb=>.inl (hb.imp id (grow b)),fun i q hi=>ET hi⟩
 refine ⟨⟨by simp [H.len],fun i o1 hi=>?_,fun i o1 p1 b h1 h2 h3=>?_,fun i i' o1 o2 p1 p2 b Am h1 h2 h3 h4 h5 h6=>?_,fun b hb=>⟨zAW (H.nlt b hb).1 hu.size,(H.nlt b hb).2⟩,Γ.st _ _ H.gi (hu.mono fun b _ hb=>(H.cel k o p b hk hp hb).1)⟩,⟨hu.mono fun b _ hb=>hM b hb,fun b hb=>.inl (grow b hb)⟩⟩
 ·rcases Dj hi with ⟨hl,hi⟩ | ⟨hl,hi⟩
  ·obtain ⟨e1,e2,e3⟩:=mK hi;obtain ⟨p1,Lr,hr⟩:=H.obj i o1 e3;exact ⟨p1,ET Lr,hr.out O hu (fun b hb=>.inr (hM b hb)) fun b _ h1 h2=>H.dis i k o1 o p1 p b e1 e3 hk Lr hp h1 h2⟩
  ·cases hi;exact ⟨p',by rw [hl,Ao,←H.len];simp,ho⟩
 ·rcases IV h1 h2 with ⟨Am,_,_,g1,g2⟩ | ⟨_,_,rfl⟩
  ·obtain ⟨e1,e2,c,t,z,e3⟩:=H.cel i o1 p1 b g1 g2 h3;exact ⟨e1,e2,c,t,z,(hu.block b (zAK.1 e3).1 fun hx=>H.dis i k o1 o p1 p b Am g1 hk g2 hp h3 hx).trans e3⟩
  ·obtain ⟨e1,e2⟩:=hf b h3;rcases e1 with e1 | e1
   ·obtain ⟨q1,q2,_⟩:=H.cel k o p b hk hp e1;exact ⟨q1,q2,e2⟩
   ·obtain ⟨q1,q2,_⟩:=H.cel j oj q b hj hq e1;exact ⟨q1,q2,e2⟩
 ·have key: ∀ {i o1 p1},i≠k -> i≠j -> h[i]? =some (some o1) -> ρ[i]? =some p1 -> p1.foot b -> p'.foot b -> False:=fun {i o1 p1} Am Nr g1 g2 g3 g4=>by
   rcases (hf b g4).1 with e1 | e1
   ·exact H.dis i k o1 o p1 p b Am g1 hk g2 hp g3 e1
   ·exact H.dis i j o1 oj p1 q b Nr g1 hj g2 hq g3 e1
  rcases IV h1 h3 with ⟨S0,Nr,_,g1,g2⟩ | ⟨e1,_,rfl⟩
  ·rcases IV h2 h4 with ⟨hne3,_,_,g3,g4⟩ | ⟨e2,_,rfl⟩
   ·exact H.dis i i' o1 o2 p1 p2 b Am g1 g3 g2 g4 h5 h6
   ·exact key S0 Nr g1 g2 h5 h6
  ·rcases IV h2 h4 with ⟨S0,Nr,_,g1,g2⟩ | ⟨e2,_,rfl⟩
   ·exact key S0 Nr g1 g2 h6 h5
   ·exact Am (e1.trans e2.symm)
def Le (k k':Nat):DV -> DV
 | .msl k1 m o n=>if k1=k then .msl k' m o n else .msl k1 m o n
 | d=>d
def YU (P:Program) (S:St) (o:Oper):Option (St×List Prop):=match o.op with
 | .store t x y=>match o.dst with
  | none=>match AY S.fr x with
   | .mp k 1 i 0=>match AY S.fr y with
    | .it j=>match S.h[k]? with
     | some (some (.mo (.sets n ls none)))=>match S.h[j]? with
      | some (some (.mo (.set n' l)))=>if n'=n/\ (P.info? t).any (fun i=>i.size==1)=true then some (⟨S.fr.map (Le k S.h.length),(S.h.set k none).set j none++[some (.mo (.sets n (ls.set i (some l)) none))]⟩,[i<ls.length]) else none
      | _=>none
     | _=>none
    | _=>none
   | _=>none
  | some _=>none
 | _=>none
theorem E3.of_map {p:AI} {n:Nat} {ls:List (Option KS)} {lk:Option (Nat×Nat×Array MapEntry×Nat)} {vs:Array Value} (hS:E3 w p n ls lk vs) {i b:Nat} (h:vs[i]? =some (Value.map (some b))): ∃ l,ls[i]? =some (some l)/\ p.foot b/\ b≠p.blk/\ ∃ es Ab,Ej w b n l es Ab:=by
 have hi:i<ls.length:=by rw [←hS.size];exact (zAK.1 h).1
 cases hl:ls[i] with
 | none=>
  have:=hS.nil i (by rw [zAM hi,hl]);rw [this] at h;cases h
 | some l=>
  have Ew:ls[i]? =some (some l):=by rw [zAM hi,hl]
  obtain ⟨b',g1,g2,g3,es,Ab,g4,_⟩:=hS.has i l Ew;have:b'=b:=by rw [g1] at h;cases h;rfl
  subst this;exact ⟨l,Ew,g3,g2,es,Ab,g4⟩
theorem pm (R:AS P Γ N S ρ a w) {o:Oper} {S':St} {vs:List Prop} (h:YU P S o=some (S',vs)) (hv:Bc vs):
 Bb P (execOp a.eval o) w (fun v w'=>(∃ ρ',AS P Γ N S' ρ' (a.put o.dst v) w'/\ Ci S.h ρ w S'.h ρ' w')/\ ∃ k i p t x y,o.op= .store t x y/\ AY S.fr x= .mp k 1 i 0/\ ρ[k]? =some p/\ AP p.foot w w'):=by
 unfold YU at h;split at h
 case h_2=>cases h
 rename_i t x y ho;split at h
 case h_2=>cases h
 rename_i bN;split at h
 case h_2=>cases h
 rename_i k i hX;split at h
 case h_2=>cases h
 rename_i j hY;split at h
 case h_2=>cases h
 rename_i n ls hK;split at h
 case h_2=>cases h
 rename_i n' l hJ;split at h
 case isFalse=>cases h
 rename_i hc;cases h;obtain ⟨zv,Ay⟩:=hc;subst zv;have hi:i<ls.length:=hv.1;have rx:=Bg R x;have ry:=Bg R y;rw [hX] at rx;rw [hY] at ry;obtain ⟨p,hp,ex⟩:=rx;obtain ⟨q,es,Ab,hq,ey,ki,hqv,hA⟩:=Yj R hJ ry;obtain ⟨p',BF,Md,hS⟩:=R.hr.obj k _ hK;have:p'=p:=zAR (BF.symm.trans hp);subst this;have bF:k≠j:=fun e=>by subst e;rw [hK] at hJ;cases hJ
 obtain ⟨cs,ty,hb,Fd,Cg,C9⟩:=hS.row;cases KV:P.info? t with
 | none=>rw [KV] at Ay;cases Ay
 | some ti=>
 rw [KV] at Ay;have PY:ti.size=1:=by simpa using Ay
 have lI:i<Md.size:=by rw [hS.size];exact hi
 have am: ∀ b,p'.foot b -> b≠q.blk:=fun b hb e=>R.hr.dis k j _ _ p' q b bF hK hJ hp hq hb (by rw [ki];exact e)
 have cK:a.eval x= .pointer (some ⟨p'.blk,p'.off+i,none⟩):=by rw [ex];simp
 have A2:w.cell? ⟨p'.blk,p'.off+i,none⟩=some Md[i]:=by
  unfold World.cell?;simp only [hb];rw [C9 i hi,zA0 lI];rfl
 have GT: ∀ jj,w.frozen? ⟨p'.blk,jj,none⟩=false:=fun jj=>by unfold World.frozen?;simp [hb]
 have hU:AP p'.foot w (w.setCells p'.blk (p'.off+i) (a.eval y).cells.toList):=(Oi _ _ _ _).mono fun b _ e=>by rw [show b=p'.blk from e];exact hS.blk
 refine Bb.skip (s:=Instr.storeAt t (a.eval x) (a.eval y)) (by unfold execOp;rw [ho]) (w':=w.setCells p'.blk (p'.off+i) (a.eval y).cells.toList) ?_ ?_
 ·rw [cK];refine Yy KV (by rw [ey,PY];rfl) (fun jj Lx=>?_) GT (fun u hu=>?_)
  ·rw [ey] at Lx;have:jj=0:=by simpa [Value.cells] using Lx
   subst this;rw [zEu,A2];rfl
  ·rw [ey] at hu;have:u= .map (some q.blk):=by simpa [Value.cells] using hu
   subst this;rfl
 ·rw [bN];rw [ey] at hU ⊢;have eC:(Value.map (some q.blk)).cells.toList= [Value.map (some q.blk)]:=rfl;rw [eC] at hU ⊢;obtain ⟨EJ,e1,e2,e3⟩:=Ph p'.blk ty (0,0) [Value.map (some q.blk)] (p'.off+i) w cs hb (by simp;omega)
  generalize hW:w.setCells p'.blk (p'.off+i) [Value.map (some q.blk)]=W at hU e1 ⊢
  have AF: ∀ {b ob},b≠p'.blk -> w.heap[b]? =some ob -> W.heap[b]? =some ob:=fun {b ob} Am C8=>by
   rw [←C8,←hW];exact (Oi p'.blk [Value.map (some q.blk)] (p'.off+i) w).block b (zAK.1 C8).1 Am
  have iS:q.blk≠p'.blk:=fun e=>am p'.blk hS.blk e.symm
  let Bj:=Md.setIfInBounds i (Value.map (some q.blk))
  have Hv: ∀ m:Nat,Bj[m]? =if i=m then some (Value.map (some q.blk)) else Md[m]? :=fun m=>by
   show (Md.setIfInBounds i _)[m]? =_
   rw [zD4]
   by_cases e:i=m
   ·rw [zAE e,zAE e,zAE lI]
   ·rw [zAU e,zAU e]
  let p2:AI:=⟨p'.blk,p'.off,p'.room,.tuple Bj,fun b=>b=p'.blk∨∃ m:Nat,Bj[m]? =some (Value.map (some b))⟩
  have jd: ∀ {m:Nat} {z:Option KS},(ls.set i (some l))[m]? =some z -> (m=i/\ z=some l)∨(m≠i/\ ls[m]? =some z):=fun {m z} hm=>by
   rw [zAy] at hm
   by_cases e:i=m
   ·subst e;simp [hi] at hm;exact .inl ⟨rfl,hm.symm⟩
   ·rw [zAU e] at hm;exact .inr ⟨zFT e,hm⟩
  have SA:E3 W p2 n' (ls.set i (some l)) none Bj:=by
   refine ⟨rfl,by simp [Bj,hS.size],⟨EJ,ty,e1,by simpa [e2] using Fd,by rw [e2];exact Cg,fun m hm=>?_⟩,.inl rfl,fun m l1 hm=>?_,fun m hm=>?_,fun b hb=>?_,fun m m' b h1 h2=>?_⟩
   ·rw [zAn] at hm
    show EJ[p'.off+m]? =Bj[m]?
    rw [e3,Hv]
    by_cases e:i=m
    ·subst e;rw [zAE (by simp),zAE rfl];simp
    ·rw [zAU (by simp;omega),zAU e];exact C9 m hm
   ·rcases jd hm with ⟨rfl,e⟩ | ⟨Am,hm⟩
    ·cases e;refine ⟨q.blk,by rw [Hv,zAE rfl],iS,.inr ⟨m,by rw [Hv,zAE rfl]⟩,es,Ab,{ hA with blk:=AF iS hA.blk },fun x hx=>by cases hx⟩
    ·obtain ⟨b,k1,k2,k3,H6,c1,k4,_⟩:=hS.has m l1 hm;exact ⟨b,by rw [Hv,zAU (zFT Am)];exact k1,k2,.inr ⟨m,by rw [Hv,zAU (zFT Am)];exact k1⟩,H6,c1,{ k4 with blk:=AF k2 k4.blk },fun x hx=>by cases hx⟩
   ·rcases jd hm with ⟨rfl,e⟩ | ⟨Am,hm⟩
    ·cases e
    ·rw [Hv,zAU (zFT Am)];exact hS.nil m hm
   ·rcases hb with hb | ⟨m,hm⟩
    ·exact .inl hb
    ·refine .inr ?_;have AE:=hm;rw [Hv] at hm
     by_cases e:i=m
     ·subst e;exact ⟨i,l,by simp [hi],AE⟩
     ·rw [zAU e] at hm;obtain ⟨l1,g1,_⟩:=hS.of_map hm;exact ⟨m,l1,by rw [zAy,zAU e];exact g1,AE⟩
   ·rw [Hv] at h1 h2
    by_cases c1:i=m
    ·by_cases c2:i=m'
     ·omega
     ·rw [zAE c1] at h1;rw [zAU c2] at h2;cases h1;obtain ⟨_,_,g2,_⟩:=hS.of_map h2;exact absurd rfl (am _ g2)
    ·rw [zAU c1] at h1
     by_cases c2:i=m'
     ·rw [zAE c2] at h2;cases h2;obtain ⟨_,_,g2,_⟩:=hS.of_map h1;exact absurd rfl (am _ g2)
     ·rw [zAU c2] at h2;exact hS.inj m m' b h1 h2
  have Ey: ∀ b,p2.foot b -> (p'.foot b∨q.foot b)/\ Db W b:=fun b hb=>by
   refine ⟨?_,SA.lies hb⟩;rcases hb with hb | ⟨m,hm⟩
   ·exact .inl (by rw [hb];exact hS.blk)
   ·rw [Hv] at hm
    by_cases e:i=m
    ·rw [zAE e] at hm;cases hm;exact .inr (by rw [ki])
    ·rw [zAU e] at hm;exact .inl (hS.of_map hm).choose_spec.2.1
  obtain ⟨g1,g2⟩:=R.hr.merge (o':=.mo (.sets n' (ls.set i (some l)) none)) (p':=p2) bF hK hp hJ hq hU Ey ⟨Bj,SA⟩
  have O:BU (MS N S.h ρ) w ρ (MS N ((S.h.set k none).set j none++[some (.mo (.sets n' (ls.set i (some l)) none))]) (ρ++[p2])) W (ρ++[p2]):=
   ⟨fun b hb hm _=>hU.block b hb fun hx=>hm (.inr ⟨k,_,p',hK,hp,hx⟩),fun b hb=>hb.elim (fun h=>.inl (.inl h)) (fun h=>(g2.grow b h).imp .inr id),fun k q hk=>ET hk⟩
  refine ⟨⟨ρ++[p2],⟨g1,by simp [R.fr.1,Act.put],fun m hm=>?_⟩,g2,fun k q hk=>ET hk⟩,k,i,p',t,x,y,ho,hX,hp,hU⟩;have CQ:m<S.fr.length:=by simpa using hm
  have e:(S.fr.map (Le k S.h.length)).getD m .any=Le k S.h.length (S.fr.getD m .any):=by simp [CQ]
  show AM _ W ((S.fr.map (Le k S.h.length)).getD m .any) _ _
  rw [e];have r0:=R.fr.2 m CQ;cases hd:S.fr.getD m .any with
  | msl k1 m1 o1 n1=>
   rw [hd] at r0
   by_cases hc:k1=k
   ·have e2:Le k S.h.length (.msl k1 m1 o1 n1)= .msl S.h.length m1 o1 n1:=by simp only [Le,zAE hc]
    rw [e2];rw [hc] at r0;obtain ⟨q0,cap,kj,xo,u1,u2,u3⟩:=r0;have eq0:q0=p':=zAR (kj.symm.trans hp);subst eq0;exact ⟨p2,cap,by rw [←R.hr.len];simp,xo,u1,u2,u3⟩
   ·have e2:Le k S.h.length (.msl k1 m1 o1 n1)= .msl k1 m1 o1 n1:=by simp only [Le,zAU hc]
    rw [e2];exact AM.out _ O r0
  | _=>rw [hd] at r0;exact AM.out _ O r0
end
end Go.Proofs.YtkjbblkieglmlaaGreatDoor
namespace Go.Proofs.YtkjbblkieglmlaaGreatDoor
abbrev zFH:=@List.mem_iff_getElem?
abbrev zFI:=@Array.getElem?_toList
abbrev zF3:=@Array.mem_toList_iff
end Go.Proofs.YtkjbblkieglmlaaGreatDoor
namespace Go.Proofs.YtkjbblkieglmlaaGreatDoor
open Go.RowKit
def Mf:DV:=.tup 0 (fun j=>([]:List DV).getD j .any)
theorem UZ {M:Nat -> Prop} {w:World} {ρ:List AI}:AM M w Mf ρ undef:=⟨#[],rfl,rfl,fun j hj=>absurd hj (zAo j)⟩
def CX (fr:List DV) (dst:Option Nat) (d:DV):List DV:=match dst with
 | some t=>fr.set t d
 | none=>fr
section
variable {P:Program} {Γ:Ar} {N:Nat -> Prop} {S:St} {ρ:List AI} {a:Act} {w:World}
theorem GZ (R:AS P Γ N S ρ a w) (dst:Option Nat) {d:DV} {v:Value} (hv:AM (MS N S.h ρ) w d ρ v):AS P Γ N ⟨CX S.fr dst d,S.h⟩ ρ (a.put dst v) w:=by
 refine ⟨R.hr,?_⟩;cases dst with
 | none=>exact R.fr
 | some t=>exact R.fr.set t hv
theorem OC (R:AS P Γ N S ρ a w) {d d':DV} {h':DH} {ext:Bool} {v:Value} {w':World} (dst:Option Nat) (G:CV P Γ N S.h ρ w ext d h' v w') (hd: ∀ M ρ',AM M w' d ρ' v -> AM M w' d' ρ' v):
 ∃ ρ',AS P Γ N ⟨CX S.fr dst d',h'⟩ ρ' (a.put dst v) w'/\ Ci S.h ρ w h' ρ' w':=by
 obtain ⟨ρ',g1,g2,g3,g4⟩:=G.ex;have O:BU (MS N S.h ρ) w ρ (MS N h' ρ') w' ρ':=⟨fun b hb hm _=>g3.upd.block b hb fun hx=>hm (.inr hx),fun b hb=>hb.elim (fun h=>.inl (.inl h)) (fun h=>(g3.grow b h).imp .inr id),g4⟩;have R':AS P Γ N ⟨S.fr,h'⟩ ρ' a w':=⟨g1,R.fr.out O⟩;exact ⟨ρ',GZ R' dst (hd _ _ g2),g3,g4⟩
end
def RL (P:Program) (t:TypeId):Option (TypeId×TypeId):=match P.underlying t with
 | some (.map k e)=>if Sh P k then match P.info? e with
  | some i=>match i.zero with
   | some (.slice none 0 0)=>some (k,e)
   | _=>none
  | none=>none
  else none
 | _=>none
theorem gx {P:Program} {t k e:TypeId} (h:RL P t=some (k,e)):P.underlying t=some (.map k e)/\ GM P k=some 1/\ ∀ w,(zeroValue e).run P w= .ok (.slice none 0 0) w:=by
 unfold RL at h;split at h
 ·rename_i k' e' hu;split at h
  ·rename_i hk;split at h
   ·rename_i i hi;split at h
    ·rename_i hz;cases h;exact ⟨hu,by unfold GM;rw [aL hk],fun w=>by simp [zeroValue,typeInfo,hi,hz]⟩
    ·cases h
   ·cases h
  ·cases h
 ·cases h
def PH (j q:Nat):DV -> DV
 | .mri k i=>if k=j then (if i=0 then .mri q 0 else .any) else .mri k i
 | d=>d
def Me (f:Int -> List Int) (k:Int) (L:List Int):Int -> List Int:=fun x=>if x=k then L else f x
def RM (P:Program) (S:St) (o:Oper):Option (St×List Prop):=match o.op with
 | .makeMap t none=>match RL P t with
  | some _=>some (⟨CX S.fr o.dst (.mri S.h.length 0),S.h++[some (.mo (.rows (fun _=>[]) none))]⟩,[])
  | none=>none
 | .lookup t m k false=>match RL P t with
  | some _=>match AY S.fr m,AY S.fr k with
   | .mri j 0,.int .i64 x=>match S.h[j]? with
    | some (some (.mo (.rows f Bt)))=>if Bt.all (fun y=>!y.2.2) then some (⟨CX (S.fr.map (PH j S.h.length)) o.dst (.mri S.h.length 1),S.h.set j none++[some (.mo (.rows f (some (x,f x,false))))]⟩,[]) else none
    | _=>none
   | _,_=>none
  | none=>none
 | .mapUpdate t m k y=>match RL P t with
  | some _=>match AY S.fr m,AY S.fr k,AY S.fr y with
   | .mri j 0,.int .i64 x,.mri j' 1=>match S.h[j]? with
    | some (some (.mo (.rows f (some (x',L,_)))))=>if j'=j then some (⟨CX S.fr o.dst Mf,S.h.set j (some (.mo (.rows (Me f x' L) none)))⟩,[x'=x]) else none
    | _=>none
   | _,_,_=>none
  | none=>none
 | .call c=>match c.callee with
  | .builtin .append=>match c.args.toList with
   | [x,y]=>match c.argTypes.toList with
    | [t,t']=>if t=t' then match Kp P t with
     | some (.ints,_,i,_)=>if 128<i.bytes then none else match AY S.fr x,Sf S (AY S.fr y) with
      | .mse j 1 off n,some (ys,vy)=>match S.h[j]? with
       | some (some (.ints xs))=>some (⟨CX S.fr o.dst (.mse S.h.length 1 0 (n+ys.length)),S.h.set j none++[some (.ints (xs.drop off++ys))]⟩,[vy,0<ys.length,off+n=xs.length,n+ys.length<=BA])
       | _=>none
      | .mri j 1,some (ys,vy)=>match S.h[j]? with
       | some (some (.mo (.rows f (some (x',L,_)))))=>some (⟨CX (S.fr.map (PH j S.h.length)) o.dst (.mri S.h.length 1),S.h.set j none++[some (.mo (.rows f (some (x',L++ys,true))))]⟩,[vy,0<ys.length,L.length+ys.length<=BA])
       | _=>none
      | _,_=>none
     | _=>none
     else none
    | _=>none
   | _=>none
  | _=>none
 | _=>none
theorem sk {P:Program} {S:St} {o:Oper} {r:St×List Prop} (h:RM P S o=some r) {t:TypeId} {x y:Operand}:o.op≠.store t x y:=by
 intro e;unfold RM at h;rw [e] at h;cases h
theorem BC.map {M:Nat -> Prop} {w:World} {ρ:List AI} {fr:List DV} {t:Array Value} (h:BC M w ρ fr t) {g:DV -> DV} (hg: ∀ d v,AM M w d ρ v -> AM M w (g d) ρ v):BC M w ρ (fr.map g) t:=
 ⟨by simp [h.1],fun i hi=>by
  have BV:i<fr.length:=by simpa using hi
  have e:(fr.map g).getD i .any=g (fr.getD i .any):=by simp [BV]
  rw [e];exact hg _ _ (h.2 i BV)⟩
section
variable {P:Program} {Γ:Ar} {N:Nat -> Prop} {S:St} {ρ:List AI} {a:Act} {w w':World} {p p':AI} {f:Int -> List Int} {Bt:Option (Int×List Int×Bool)} {u:Value} {es:Array MapEntry} {Ab:Nat}
theorem i9 (h:EY w p f Bt u es Ab) {kt:TypeId} (hk:P.underlying kt=some (.int .i64)) (x:Int):
 ((Instr.findKey kt (.int .i64 x) es.toList).run P w= .ok none w/\ ∀ e∈es.toList,e.key≠.int .i64 x)∨∃ j e,(Instr.findKey kt (.int .i64 x) es.toList).run P w= .ok (some (j,e.val)) w/\ es[j]? =some e/\ e.key= .int .i64 x:=by
 rcases MapKept.findNow_spec (d:=.int .i64) (k:=.int .i64 x) (by trivial) es.toList 0 (fun e hm=>by
  obtain ⟨k,hk,_⟩:=h.key e hm;rw [hk];trivial) with ⟨h1,h2⟩ | ⟨j,e,h1,h2,h3⟩
 ·exact .inl ⟨zFb hk h1,h2⟩
 ·exact .inr ⟨j,e,by have:=zFb (w:=w) hk h1;rw [zAs] at this;exact this,by simpa using h2,h3⟩
theorem Vd (R:AS P Γ N S ρ a w) {j i:Nat} {v:Value} (hk:S.h[j]? =some (some (.mo (.rows f Bt)))) (hv:AM (MS N S.h ρ) w (.mri j i) ρ v): ∃ p u es Ab,ρ[j]? =some p/\ EY w p f Bt u es Ab/\ (#[Value.map (some p.blk),u]:Array Value)[i]? =some v:=by
 obtain ⟨p,vs,hp,FI,Cr⟩:=hv;obtain ⟨p',BF,u,es,Ab,h1⟩:=R.hr.obj j _ hk;have:p'=p:=zAR (BF.symm.trans hp);subst this;have: #[Value.map (some p'.blk),u]=vs:=by have:=h1.val.symm.trans FI;cases this;rfl
 subst this;exact ⟨p',u,es,Ab,hp,h1,Cr⟩
theorem EY.lies (h:EY w p f Bt u es Ab):Db w p.blk:=⟨_,rfl,(),h.blk⟩
theorem gu (R:AS P Γ N S ρ a w) {j:Nat} (hj:S.h[j]? =some (some (.mo (.rows f Bt)))) (hp:ρ[j]? =some p) (hO:EY w p f Bt u es Ab) {f':Int -> List Int} {Ig:Option (Int×List Int×Bool)} {u':Value} {D9:Array MapEntry} {Ei:Nat}
 (hu:AP p.foot w w') (hf: ∀ b,p'.foot b -> (p.foot b∨w.heap.size<=b)/\ Db w' b) (L5:EY w' p' f' Ig u' D9 Ei) (bT:p'.blk=p.blk) (dst:Option Nat):
 ∃ ρ',AS P Γ N ⟨CX (S.fr.map (PH j S.h.length)) dst (.mri S.h.length 1),S.h.set j none++[some (.mo (.rows f' Ig))]⟩ ρ' (a.put dst u') w'/\ Ci S.h ρ w (S.h.set j none++[some (.mo (.rows f' Ig))]) ρ' w':=by
 obtain ⟨g1,g2⟩:=R.hr.regrow (o':=.mo (.rows f' Ig)) hj hp hu hf ⟨u',D9,Ei,L5⟩;have Eu: ∀ (k:Nat) (q:AI),ρ[k]? =some q -> (ρ++[p'])[k]? =some q:=fun k q hk=>ET hk
 have O:BU (MS N S.h ρ) w ρ (MS N (S.h.set j none++[some (.mo (.rows f' Ig))]) (ρ++[p'])) w' (ρ++[p']):=
  ⟨fun b hb hm _=>hu.block b hb fun hx=>hm (.inr ⟨j,_,p,hj,hp,hx⟩),fun b hb=>hb.elim (fun h=>.inl (.inl h)) (fun h=>(g2.grow b h).imp .inr id),Eu⟩
 have hq:(ρ++[p'])[S.h.length]? =some p':=by rw [←R.hr.len];simp
 have Ch:=(R.fr.out O).map (g:=PH j S.h.length) (fun d v hd=>by
  unfold PH;split
  ·rename_i k i;split
   ·rename_i e;split
    ·rename_i e2;subst e e2;obtain ⟨q,vs,h1,h2,h3⟩:=hd;have:q=p:=zAR (h1.symm.trans (Eu _ _ hp));subst this;have e3: #[Value.map (some q.blk),u]=vs:=by have:=hO.val.symm.trans h2;cases this;rfl
     subst e3;exact ⟨p',_,hq,L5.val,by rw [bT];simpa using h3⟩
    ·trivial
   ·exact hd
  ·exact hd)
 exact ⟨ρ++[p'],GZ (S:=⟨S.fr.map (PH j S.h.length),_⟩) ⟨g1,Ch⟩ dst ⟨p',_,hq,L5.val,rfl⟩,g2,Eu⟩
theorem uh (h:EY w p f Bt u es Ab) (hh: ∀ k L,Bt≠some (k,L,true)) {t kt et:TypeId} (hm:P.underlying t=some (.map kt et)) (hk:GM P kt=some 1) (hz:(zeroValue et).run P w= .ok (.slice none 0 0) w) (x:Int):
 ∃ u',(Instr.lookup t (.map (some p.blk)) (.int .i64 x) false).run P w= .ok u' w/\ EY w { p with val:=.tuple #[Value.map (some p.blk),u'] } f (some (x,f x,false)) u' es Ab:=by
 have hu:P.underlying kt=some (.int .i64):=by
  rcases PS hk with ⟨_,hu⟩ | ⟨_,_,_,h2,_⟩
  ·exact hu
  ·cases h2
 have hc:=fun e=>PQ (w:=w) hk (x:=[x]) rfl e
 have mk: ∀ u',(Ha w (fun b=>p.foot b/\ b≠p.blk) u' (f x)/\ ∀ e∈es.toList,∀ b,DI u'=some b -> DI e.val=some b -> e.key= .int .i64 x) -> EY w { p with val:=.tuple #[Value.map (some p.blk),u'] } f (some (x,f x,false)) u' es Ab:=fun u' Bo=>
  ⟨rfl,h.blk,h.own,fun e he=>let ⟨k,h1,h2⟩:=h.key e he;⟨k,h1,fun _=>h2 fun L=>hh k L⟩,h.no,h.nd,h.apart,h.born,h.stamps,fun k L g e=>by cases e;exact Bo⟩
 rcases i9 h hu x with ⟨h1,h2⟩ | ⟨j,e,h1,h2,h3⟩
 ·refine ⟨.slice none 0 0,?_,mk _ ⟨.inl ⟨h.no x h2,rfl⟩,fun e _ b hb=>by cases hb⟩⟩;have C1:=hc es.isEmpty;simp only [BR] at C1;simp [Instr.lookup,zBu hm,zES h.blk,C1,h1,hz,Result.andThen]
 ·have CQ:e∈es.toList:=zF3.2 (zEl h2);obtain ⟨k,g1,g2⟩:=h.key e CQ;have:k=x:=by rw [g1] at h3;cases h3;rfl
  subst this;refine ⟨e.val,?_,mk _ ⟨g2 fun L=>hh k L,fun e' GV b hb DA=>(h.apart e' GV e CQ b DA hb).trans h3⟩⟩;have C1:=hc es.isEmpty;simp only [BR] at C1;simp [Instr.lookup,zBu hm,zES h.blk,C1,h1,Result.andThen]
theorem f6 {F:Nat -> Prop} {L:List Int} (hs:Ha w F u L) {t e ty:TypeId} {i:TypeInfo} {z:Value} (hu:P.underlying t=some (.slice e)) (hi:P.info? e=some i) (hz:i.zero=some z) (Ay:i.size=1) (Cf:z.cells.size=i.size) (Di:i.bytes<=128)
 {vy:Value} {ys:List Int} (hy:Src P i.size t vy ys.length (ys.map (Value.int .i64)) w) (hc:0<ys.length) (hb:L.length+ys.length<=BA):
 ∃ w' q By,(Builtin.append_ #[t,t] ty #[u,vy]).run P w= .ok (.slice (some ⟨q.blk,q.off,none⟩) (L++ys).length By) w'/\ (L++ys).length<=By/\ q.off+By<=q.room/\ AP (fun b=>DI u=some b) w w'/\ (DI u=some q.blk∨w.heap.size<=q.blk)/\ AX w' q (L++ys).length (fun j v=>v= .int .i64 ((L++ys).getD j 0)):=by
 have Ao:(L++ys).length=L.length+ys.length:=zAm;rcases hs with ⟨rfl,rfl⟩ | ⟨q,cap,rfl,h1,h2,h3,h4,h5⟩
 ·obtain ⟨w',By,r1,r2,cs,rfl,r4,r5⟩:=dG none (ty:=ty) hu hi hz Cf Di hy hc (by unfold BA at hb;simp at hb;omega);rw [Ay,zD8] at r4;refine ⟨_,ED w cs.size,By,by simpa [ED] using r1,by simpa using r2,by simp [ED,r4],AP.ofExt ((Aq.toDrew w).allocR _),.inr (zAp _),M5 rfl (by simp;omega) fun j hj=>?_⟩;have BT:j<ys.length:=by simpa using hj
  refine ⟨.int .i64 (ys.getD j 0),?_,by simp⟩;rw [r5 j (by rw [Ay,zD8];exact BT)];simp [BT]
 ·obtain ⟨w',q',By,r1,r2,r3,r4,r5,r6⟩:=dE (ty:=ty) (R:=fun j v=>v= .int .i64 (L.getD j 0)) (cap:=cap) hu hi hz (by omega) Cf Di (by rw [Ay,zD8];exact h5) h1 (by rw [Ay,zD8];exact h2) hy (by unfold BA at hb;omega);rw [Ay,zD8] at r3;have hq:q.foot=(fun b=>b=q.blk):=h5.1;have hR:=aK (P:=P) (M:=fun _=>False) (ρ':=[]) Ay r6;refine ⟨w',q',By,by rw [Ao];exact r1,by rw [Ao];exact r2,r3,r4.mono fun b _ hb=>by rw [hq] at hb;rw [show b=q.blk from hb];rfl,?_,hR⟩;have Lq:=r6.1;rcases r5 q'.blk (by rw [Lq]) with e | e
  ·rw [hq] at e;exact .inl (by rw [show q'.blk=q.blk from e];rfl)
  ·exact .inr e
theorem ui (h:EY w p f Bt u es Ab) {x:Int} {L:List Int} {g:Bool} (JQ:Bt=some (x,L,g)) (hl: ∀ b,p.foot b -> Db w b) {t e ty:TypeId} {i:TypeInfo} {z:Value} (hu:P.underlying t=some (.slice e)) (hi:P.info? e=some i) (hz:i.zero=some z) (Ay:i.size=1) (Cf:z.cells.size=i.size) (Di:i.bytes<=128)
 {vy:Value} {ys:List Int} (hy:Src P i.size t vy ys.length (ys.map (Value.int .i64)) w) (hc:0<ys.length) (hb:L.length+ys.length<=BA):
 ∃ w' u' p',(Builtin.append_ #[t,t] ty #[u,vy]).run P w= .ok u' w'/\ AP p.foot w w'/\ (∀ b,p'.foot b -> (p.foot b∨w.heap.size<=b)/\ Db w' b)/\ EY w' p' f (some (x,L++ys,true)) u' es Ab/\ p'.blk=p.blk:=by
 obtain ⟨hs,hd⟩:=h.inHand x L g JQ;have Ao:(L++ys).length=L.length+ys.length:=zAm;have Z3:=f6 (ty:=ty) hs hu hi hz Ay Cf Di hy hc hb;obtain ⟨w',q,By,r1,r2,r3,r4,r5,r6⟩:=Z3;have Mg: ∀ b,DI u=some b -> (p.foot b/\ b≠p.blk)/\ b<w.heap.size:=fun b hb=>hs.blk hb
 have D5: ∀ b,b<w.heap.size -> DI u≠some b -> w'.heap[b]? =w.heap[b]? :=fun b hb hn=>r4.block b hb hn
 have No:DI u≠some p.blk:=fun e=>(Mg _ e).1.2 rfl
 have ao:p.blk<w.heap.size:=(zAK.1 h.blk).1;have al:q.blk≠p.blk:=fun e=>r5.elim (fun e'=>No (by rw [←e];exact e')) (fun e'=>by omega)
 refine ⟨w',_,⟨p.blk,p.off,p.room,.tuple #[Value.map (some p.blk),.slice (some ⟨q.blk,q.off,none⟩) (L++ys).length By],fun b=>(p.foot b/\ DI u≠some b)∨b=q.blk⟩,r1,r4.mono fun b _ hb=>(Mg b hb).1.1,fun b hb=>?_,?_,rfl⟩
 ·rcases hb with ⟨g1,g2⟩ | g1
  ·obtain ⟨c,t1,t2,hc⟩:=hl b g1;exact ⟨.inl g1,c,t1,t2,(D5 b (zAK.1 hc).1 g2).trans hc⟩
  ·obtain ⟨_,cs,tt,g,_⟩:=r6;subst g1;exact ⟨r5.imp (fun e=>(Mg _ e).1.1) id,.cells g⟩
 ·have Gf: ∀ e'∈es.toList,∀ k,e'.key= .int .i64 k -> k≠x -> Ha w (fun b=>p.foot b/\ b≠p.blk) e'.val (f k):=fun e' he k hk Kc=>by
   obtain ⟨k',h1,h2⟩:=h.key e' he;have:k'=k:=by rw [h1] at hk;cases hk;rfl
   subst this;exact h2 fun L' e=>by rw [JQ] at e;cases e;exact Kc rfl
  refine ⟨rfl,(D5 _ ao No).trans h.blk,.inl ⟨h.own,No⟩,fun e' he=>?_,h.no,h.nd,h.apart,h.born,h.stamps,fun k L' g' e'=>?_⟩
  ·obtain ⟨k,h1,_⟩:=h.key e' he;refine ⟨k,h1,fun hn=>?_⟩;have hk:k≠x:=fun e=>by subst e;exact hn _ rfl
   have ne: ∀ b,DI e'.val=some b -> DI u≠some b:=fun b hb DA=>hk (by have:=hd e' he b DA hb;rw [h1] at this;cases this;rfl)
   exact (Gf e' he k h1 hk).out (fun b hf hb hl=>D5 b hl (ne b hb)) fun b hf hb=>⟨.inl ⟨hf.1,ne b hb⟩,hf.2⟩
  ·cases e';refine ⟨.inr ⟨q,By,rfl,r2,r3,by unfold LB;unfold BA at hb;omega,⟨.inr rfl,al⟩,r6⟩,fun e' he b hb DA=>?_⟩;cases hb;rcases r5 with r5 | r5
   ·exact hd e' he _ r5 DA
   ·obtain ⟨k',h1,_⟩:=h.key e' he
    by_cases hk:k'=x
    ·subst hk;exact h1
    ·exact absurd ((Gf e' he k' h1 hk).blk DA).2 (Nat.not_lt.2 r5)
theorem ug (h:EY w p f Bt u es Ab) {x:Int} {L:List Int} {g:Bool} (JQ:Bt=some (x,L,g)) {t kt et:TypeId} (hm:P.underlying t=some (.map kt et)) (hk:GM P kt=some 1):
 ∃ w' D9 Ei,(Instr.mapUpdate t (.map (some p.blk)) (.int .i64 x) u).run P w= .ok () w'/\ AP (fun b=>b=p.blk) w w'/\ EY w' p (Me f x L) none u D9 Ei:=by
 have hu:P.underlying kt=some (.int .i64):=by
  rcases PS hk with ⟨_,hu⟩ | ⟨_,_,_,h2,_⟩
  ·exact hu
  ·cases h2
 have hc:=PQ (w:=w) hk (x:=[x]) rfl false;simp only [BR] at hc;obtain ⟨hs,hd⟩:=h.inHand x L g JQ;have AO:p.blk<w.heap.size:=(zAK.1 h.blk).1
 have mk: ∀ (D9:Array MapEntry) (Ei:Nat),(∀ e∈D9.toList,(e.key= .int .i64 x/\ e.val=u)∨(e∈es.toList/\ e.key≠.int .i64 x)) -> (∃ e∈D9.toList,e.key= .int .i64 x) -> (∀ e∈es.toList,e.key≠.int .i64 x -> e∈D9.toList) -> MapKept.Stamped D9 Ei ->
  EY { w with heap:=w.heap.setIfInBounds p.blk (.map D9 Ei) } p (Me f x L) none u D9 Ei:=fun D9 Ei m1 m2 m3 st=>by
  have stay: ∀ b,b≠p.blk -> (w.heap.setIfInBounds p.blk (.map D9 Ei))[b]? =w.heap[b]? :=fun b hb=>by simp [zFT hb]
  have Gf: ∀ e'∈es.toList,∀ k,e'.key= .int .i64 k -> k≠x -> Ha w (fun b=>p.foot b/\ b≠p.blk) e'.val (f k):=fun e' he k hk Kc=>by
   obtain ⟨k',h1,h2⟩:=h.key e' he;have:k'=k:=by rw [h1] at hk;cases hk;rfl
   subst this;exact h2 fun L' e=>by rw [JQ] at e;cases e;exact Kc rfl
  refine ⟨h.val,by simp [AO],h.own,fun e he=>?_,fun k CZ=>?_,st.2.2,fun e he e' GV b hb DA=>?_,st.1,st.2.1,fun k L' g' e=>by cases e⟩
  ·rcases m1 e he with ⟨a1,a2⟩ | ⟨a1,a2⟩
   ·refine ⟨x,a1,fun _=>?_⟩;rw [a2];unfold Me;rw [zAE rfl];exact hs.out (fun b hf _ _=>stay b hf.2) fun _ h _=>h
   ·obtain ⟨k,h1,_⟩:=h.key e a1;have Kc:k≠x:=fun e'=>a2 (by rw [h1,e'])
    refine ⟨k,h1,fun _=>?_⟩;unfold Me;rw [zAU Kc];exact (Gf e a1 k h1 Kc).out (fun b hf _ _=>stay b hf.2) fun _ h _=>h
  ·have Kc:k≠x:=fun e=>by subst e;obtain ⟨e,h1,h2⟩:=m2;exact CZ e h1 h2
   unfold Me;rw [zAU Kc];refine h.no k fun e he lD=>?_
   exact CZ e (m3 e he fun h=>Kc (by rw [lD] at h;cases h;rfl)) lD
  ·rcases m1 e he with ⟨a1,a2⟩ | ⟨a1,a2⟩
   ·rcases m1 e' GV with ⟨b1,b2⟩ | ⟨b1,b2⟩
    ·rw [a1,b1]
    ·rw [a2] at hb;exact a1.trans (hd e' b1 b hb DA).symm
   ·rcases m1 e' GV with ⟨b1,b2⟩ | ⟨b1,b2⟩
    ·rw [b2] at DA;exact (hd e a1 b DA hb).trans b1.symm
    ·exact h.apart e a1 e' b1 b hb DA
 have st:MapKept.Stamped es Ab:=⟨h.born,h.stamps,h.nd⟩;rcases i9 h hu x with ⟨h1,h2⟩ | ⟨j,e,h1,h2,h3⟩
 ·refine ⟨_,es.push { key:=.int .i64 x,val:=u,born:=Ab },Ab+1,?_,Qf _,mk _ _ (fun e he=>?_) ⟨{ key:=.int .i64 x,val:=u,born:=Ab },by simp,rfl⟩ (fun e he _=>by simp [zF3.1 he]) (MapKept.stamped_push st h2)⟩
  ·simp [Instr.mapUpdate,zBu hm,zES h.blk,hc,h1,zFF _ h.blk,Result.andThen]
  ·simp only [Array.toList_push,zD5,zAu] at he;rcases he with he | rfl
   ·exact .inr ⟨he,h2 e he⟩
   ·exact .inl ⟨rfl,rfl⟩
 ·have EH:((es[j]?).map (·.key)).getD (.int .i64 x)= .int .i64 x:=by rw [h2];exact h3
  have Dg:=MapKept.run_keyThatStays (P:=P) (w:=w) (d:=.int .i64) (k:=.int .i64 x) (by trivial);have hj:j<es.size:=(zAK.1 h2).1
  have inj: ∀ (m:Nat) (e':MapEntry),es[m]? =some e' -> e'.key= .int .i64 x -> m=j:=fun m e' CQ CZ=>by
   have GQ:m<es.size:=(zAK.1 CQ).1;have g1:(es.toList.map (·.key))[m]? =some (.int .i64 x):=by simp [CQ,CZ]
   have g2:(es.toList.map (·.key))[j]? =some (.int .i64 x):=by simp [h2,h3]
   exact (List.getElem?_inj (by simpa using GQ) h.nd).1 (g1.trans g2.symm)
  have Id: ∀ (m:Nat),(es.modify j fun e=>{ e with key:=.int .i64 x,val:=u })[m]? =if j=m then (es[m]?).map (fun e=>{ e with key:=.int .i64 x,val:=u }) else es[m]? :=fun m=>zE2
  refine ⟨_,es.modify j fun e=>{ e with key:=.int .i64 x,val:=u },Ab,?_,Qf _,mk _ _ (fun e1 bM=>?_) ⟨{ e with key:=.int .i64 x,val:=u },?_,rfl⟩ (fun e1 bM Am=>?_) (MapKept.stamped_modify st _ _ (fun _ _=>rfl) fun e' _ GV=>by rw [h2] at GV;cases GV;exact h3.symm)⟩
  ·simp [Instr.mapUpdate,zBu hm,zES h.blk,hc,h1,EH,Dg,zFF _ h.blk,Result.andThen]
  ·obtain ⟨m,CQ⟩:=zFH.1 bM;rw [zFI,Id] at CQ;split at CQ
   ·rename_i bI;subst bI;rw [h2] at CQ;cases CQ;exact .inl ⟨rfl,rfl⟩
   ·rename_i bI;exact .inr ⟨zF3.2 (zEl CQ),fun CZ=>bI (inj m e1 CQ CZ).symm⟩
  ·exact zFH.2 ⟨j,by rw [zFI,Id,zAE rfl,h2];rfl⟩
  ·obtain ⟨m,CQ⟩:=zFH.1 bM;rw [zFI] at CQ;refine zFH.2 ⟨m,by rw [zFI,Id,zAU];exact CQ;rintro rfl;rw [h2] at CQ;cases CQ;exact Am h3⟩
theorem vS (R:AS P Γ N S ρ a w) {j off n:Nat} {xs:List Int} {v:Value} (hO:S.h[j]? =some (some (.ints xs))) (hv:AM (MS N S.h ρ) w (.mse j 1 off n) ρ v) (hn:off+n=xs.length) {t e ty:TypeId} {i:TypeInfo} {z:Value} (hu:P.underlying t=some (.slice e)) (hi:P.info? e=some i) (hz:i.zero=some z) (Ay:i.size=1) (Cf:z.cells.size=i.size) (Di:i.bytes<=128)
 {vy:Value} {ys:List Int} (hy:Src P i.size t vy ys.length (ys.map (Value.int .i64)) w) (hc:0<ys.length) (hb:n+ys.length<=BA):
 ∃ u w' p' By,v=u/\ (Builtin.append_ #[t,t] ty #[u,vy]).run P w= .ok (.slice (some ⟨p'.blk,p'.off,none⟩) (n+ys.length) By) w'/\ n+ys.length<=By/\ p'.off+By<=p'.room/\ (∃ p,ρ[j]? =some p/\ AP p.foot w w'/\ ∀ b,p'.foot b -> (p.foot b∨w.heap.size<=b)/\ Db w' b)/\
  (∀ {M ρ'},Dy P M w' ρ' p' (.ints (xs.drop off++ys)))/\ True:=by
 obtain ⟨p,ad,cap,hp,rfl,h1,h2,h3⟩:=hv;obtain ⟨p2,Np,hr⟩:=R.hr.obj j _ hO;have:p2=p:=zAR (Np.symm.trans hp);subst this;have Ny:(xs.drop off).length=n:=by simp;omega
 have Z3: ∃ w' p' By,(Builtin.append_ #[t,t] ty #[.slice ad n cap,vy]).run P w= .ok (.slice (some ⟨p'.blk,p'.off,none⟩) (n+ys.length) By) w'/\ n+ys.length<=By/\ p'.off+By*i.size<=p'.room/\ AP p2.foot w w'/\ (∀ b,p'.foot b -> p2.foot b∨w.heap.size<=b)/\ AX w' p' ((n+ys.length)*i.size) (H7 (n*i.size) (fun j u=>u= .int .i64 ((xs.drop off).getD j 0)) (ys.map (Value.int .i64))):=by
  by_cases L2:cap=0
  ·subst L2;have Gl:n=0:=by omega
   subst Gl;obtain ⟨w',By,r1,r2,cs,rfl,r4,r5⟩:=dG ad (ty:=ty) hu hi hz Cf Di hy hc (by unfold BA at hb;omega);refine ⟨_,ED w cs.size,By,by simpa [ED] using r1,by omega,by simp [ED,r4],AP.ofExt ((Aq.toDrew w).allocR _),fun b hb=>.inr (Nat.le_of_eq (Eq.symm hb)),M5 rfl ?_ fun j hj=>?_⟩
   ·rw [r4];exact zEW _ (by omega)
   ·rw [zAs] at hj;refine ⟨(ys.map (Value.int .i64)).getD j undef,?_,?_⟩
    ·rw [r5 j hj];rw [Ay,zD8] at hj;simp [hj]
    ·rw [Ay,zD8] at hj;unfold H7;rw [zAU (by omega)];simp [hj]
  ·obtain ⟨rfl,h4⟩:=h3 (by omega);obtain ⟨c1,cs,tt,c2,c3,c4,c5⟩:=hr
   exact dE (ty:=ty) (p:={ p2 with off:=p2.off+off*1 }) (cap:=cap) hu hi hz (by omega) Cf Di (R:=fun j u=>u= .int .i64 ((xs.drop off).getD j 0)) (by
    refine ⟨c1,cs,tt,c2,?_,c4,fun j hj=>?_⟩
    ·rw [Ay];show p2.off+off*1+n*1<=cs.size;omega
    ·rw [Ay,zD8] at hj;obtain ⟨u,q1,q2⟩:=c5 (off+j) (by omega);refine ⟨u,by show cs[p2.off+off*1+j]? =_;rw [show p2.off+off*1+j=p2.off+(off+j) by omega];exact q1,?_⟩;rw [q2];simp [u8]) h1 (by rw [Ay];simpa using h4) hy (by unfold BA at hb;omega)
 obtain ⟨w',p',By,r1,r2,r3,r4,r5,r6⟩:=Z3;rw [Ay,zD8] at r3;refine ⟨_,w',p',By,rfl,r1,r2,r3,⟨p2,hp,r4,fun b hb=>⟨r5 b hb,?_⟩⟩,fun {M ρ'}=>aK (xs:=xs.drop off) (ys:=ys) Ay (by rw [Ny];exact r6),trivial⟩;obtain ⟨e1,cs,tt,e2,_⟩:=r6;rw [e1] at hb;exact .cells (c:=cs) (t:=tt) (z:=(0,0)) (by rw [show b=p'.blk from hb];exact e2)
theorem sj (R:AS P Γ N S ρ a w) {o:Oper} {S':St} {vs:List Prop} (h:RM P S o=some (S',vs)) (hv:Bc vs):
 Bb P (execOp a.eval o) w (fun v w'=>∃ ρ',AS P Γ N S' ρ' (a.put o.dst v) w'/\ Ci S.h ρ w S'.h ρ' w'):=by
 unfold RM at h;split at h
 ·rename_i t ho;split at h
  ·rename_i r hT;cases h;refine Bb.value (s:=Instr.makeMap t none) (by unfold execOp;rw [ho];rfl) (v:=.map (some w.heap.size)) (w':=w.alloc (.map #[] 0)) (by simp [Instr.makeMap,newObj];rfl) ?_;have G:=TM (ob:=.map #[] 0) (o:=.mo (.rows (fun _=>[]) none)) (d:=.mri S.h.length 0) (v:=.map (some w.heap.size)) (pl:=⟨w.heap.size,0,0,.tuple #[.map (some w.heap.size),undef],fun b=>b=w.heap.size⟩) R.hr rfl rfl (fun M ρ'=>⟨undef,#[],0,rfl,zEz w _,rfl,fun e he=>absurd he (by simp),fun _ _=>rfl,by simp,fun e he=>absurd he (by simp),fun e he=>absurd he (by simp),by simp,fun k L g e=>by cases e⟩) (fun M ρ' hp=>⟨_,_,hp,rfl,rfl⟩) true;exact OC R o.dst G fun _ _ h=>h
  ·cases h
 ·rename_i t m k ho;split at h
  ·rename_i r hT;obtain ⟨kt,et⟩:=r;obtain ⟨hu,hk,hz⟩:=gx hT;have rm:=Bg R m;have rk:=Bg R k;split at h
   ·rename_i j x hM hK;split at h
    ·rename_i f Bt hO;split at h
     ·rename_i hh;cases h;rw [hM] at rm;rw [hK] at rk;obtain ⟨p,u,es,Ab,hp,hA,Cr⟩:=Vd R hO rm;have em:a.eval m= .map (some p.blk):=by simpa using Cr.symm
      have ek:a.eval k= .int .i64 x:=rk;obtain ⟨u',g1,g2⟩:=uh hA (fun k L e=>by subst e;simp at hh) hu hk (hz w) x;refine Bb.value (s:=Instr.lookup t (a.eval m) (a.eval k) false) (by unfold execOp;rw [ho]) (by rw [em,ek];exact g1) ?_;exact gu (p':={ p with val:=.tuple #[Value.map (some p.blk),u'] }) R hO hp hA (AP.refl _ _) (fun b hb=>⟨.inl hb,(R.hr.cel j _ p b hO hp hb).2.2⟩) g2 rfl o.dst
     ·cases h
    ·cases h
   ·cases h
  ·cases h
 ·rename_i t m k y ho;split at h
  ·rename_i r hT;obtain ⟨kt,et⟩:=r;obtain ⟨hu,hk,hz⟩:=gx hT;have rm:=Bg R m;have rk:=Bg R k;have ry:=Bg R y;split at h
   ·rename_i j x j' hM hK hY;split at h
    ·rename_i f x' L g hO;split at h
     ·rename_i hj;cases h;subst hj;have hx:x'=x:=hv.1;subst hx;rw [hM] at rm;rw [hK] at rk;rw [hY] at ry;obtain ⟨p,u,es,Ab,hp,hA,Cr⟩:=Vd R hO rm;obtain ⟨p2,u2,es2,clock2,Np,hA2,xg⟩:=Vd R hO ry;have:p2=p:=zAR (Np.symm.trans hp);subst this;have eu:u2=u:=by have:=hA2.val.symm.trans hA.val;simp at this;exact this
      have em:a.eval m= .map (some p2.blk):=by simpa using Cr.symm
      have ek:a.eval k= .int .i64 x':=rk;have ey:a.eval y=u:=by rw [←eu];simpa using xg.symm
      obtain ⟨w',D9,Ei,g1,g2,g3⟩:=ug hA rfl hu hk;refine Bb.skip (s:=Instr.mapUpdate t (a.eval m) (a.eval k) (a.eval y)) (by unfold execOp;rw [ho]) (w':=w') (by rw [em,ek,ey];exact g1) ?_;have Hw:AP p2.foot w w':=g2.mono fun b _ hb=>by rw [show b=p2.blk from hb];exact hA.own
      have hl: ∀ b,p2.foot b -> Db w' b:=fun b hb=>by
       by_cases e:b=p2.blk
       ·rw [e];exact g3.lies
       ·obtain ⟨c,t1,t2,hc⟩:=(R.hr.cel _ _ p2 b hO hp hb).2.2;exact ⟨c,t1,t2,(g2.block b (zAK.1 hc).1 e).trans hc⟩
      have G:CV P Γ N S.h ρ w false Mf (S.h.set j' (some (.mo (.rows (Me f x' L) none)))) undef w':=⟨⟨ρ,R.hr.write hO hp Hw hl ⟨u,D9,Ei,g3⟩,UZ,A6.write hO hp Hw,fun _ _ h=>h⟩,fun h=>by cases h⟩;exact OC R o.dst G fun _ _ h=>h
     ·cases h
    ·cases h
   ·cases h
  ·cases h
 ·rename_i c ho;split at h
  ·rename_i hc;split at h
   ·rename_i x y ha;split at h
    ·rename_i t t' ht;split at h
     ·rename_i e;subst e;split at h
      ·rename_i e i z hk;obtain ⟨hu,hi,hz,h0,Cf,EH,_⟩:=Te hk;have Cp:i.size=1:=EH.symm;split at h
       ·cases h
       ·rename_i Di;have rx:=Bg R x;have ry:=Bg R y;split at h
        ·rename_i j off n ys vy hX hY;split at h
         ·rename_i xs hO;cases h;obtain ⟨v1,v2,v3,v4,_⟩:=hv;rw [hX] at rx;obtain ⟨ad,w',p',By,e0,g1,g2,g3,g4,g5,_⟩:=vS (ty:=o.type) R hO rx v3 hu hi hz Cp Cf (by omega) (by rw [Cp];exact Se R hu ry hY v1) v2 v4;refine Bb.value (TZ ho hc ha ht) (by rw [e0];exact g1) ?_;obtain ⟨p,hp⟩:=g4;obtain ⟨q1,q2⟩:=R.hr.regrow (o':=.ints (xs.drop off++ys)) hO hp.1 hp.2.1 hp.2.2 g5
          have G:CV P Γ N S.h ρ w false (.mse S.h.length 1 0 (n+ys.length)) (S.h.set j none++[some (.ints (xs.drop off++ys))]) (.slice (some ⟨p'.blk,p'.off,none⟩) (n+ys.length) By) w':=
           ⟨⟨ρ++[p'],q1,⟨p',_,By,by rw [←R.hr.len];simp,rfl,g2,by unfold LB;unfold BA at v4;omega,fun _=>⟨by simp,by simpa using g3⟩⟩,q2,fun _ _ h=>ET h⟩,fun h=>by cases h⟩
          exact OC R o.dst G fun _ _ h=>h
         ·cases h
        ·rename_i j ys vy hX hY;split at h
         ·rename_i f x' L g hO;cases h;obtain ⟨v1,v2,v3,_⟩:=hv;rw [hX] at rx;obtain ⟨p,u,es,Ab,hp,hA,Cr⟩:=Vd R hO rx;have ex:a.eval x=u:=by simpa using Cr.symm
          obtain ⟨w',u',p',g1,g2,g3,g4,g5⟩:=ui (ty:=o.type) hA rfl (fun b hb=>(R.hr.cel j _ p b hO hp hb).2.2) hu hi hz Cp Cf (by omega) (by rw [Cp];exact Se R hu ry hY v1) v2 v3;refine Bb.value (TZ ho hc ha ht) (by rw [ex];exact g1) ?_;exact gu R hO hp hA g2 g3 g4 g5 o.dst
         ·cases h
        ·cases h
      ·cases h
     ·cases h
    ·cases h
   ·cases h
  ·cases h
 ·cases h
def YT (P:Program) (S:St) (o:Oper):Option (St×List Prop):=match YU P S o with
 | some r=>some r
 | none=>RM P S o
theorem fW (R:AS P Γ N S ρ a w) {o:Oper} {S':St} {vs:List Prop} (h:YT P S o=some (S',vs)) (hv:Bc vs):
 Bb P (execOp a.eval o) w (fun v w'=>(∃ ρ',AS P Γ N S' ρ' (a.put o.dst v) w'/\ Ci S.h ρ w S'.h ρ' w')/\ ((∀ t x y,o.op≠.store t x y)∨∃ k i p t x y,o.op= .store t x y/\ AY S.fr x= .mp k 1 i 0/\ ρ[k]? =some p/\ AP p.foot w w')):=by
 have wk: ∀ {G G':Value -> World -> Prop},(∀ v w',G v w' -> G' v w') -> Bb P (execOp a.eval o) w G -> Bb P (execOp a.eval o) w G':=fun hg D=>by
  rcases D with ⟨v,w',h1,h2⟩ | ⟨w',h1,h2⟩ | ⟨f,args,w',h1,h2⟩
  ·exact .inl ⟨v,w',h1,hg _ _ h2⟩
  ·exact .inr (.inl ⟨w',h1,hg _ _ h2⟩)
  ·exact .inr (.inr ⟨f,args,w',h1,h2.mono fun e CI ⟨v,e1,e2⟩=>⟨v,e1,hg _ _ e2⟩⟩)
 unfold YT at h;split at h
 ·rename_i r hM;cases h;exact wk (fun v w' hx=>⟨hx.1,.inr hx.2⟩) (pm R hM hv)
 ·exact wk (fun v w' hx=>⟨hx,.inl fun t x y=>sk h⟩) (sj R h hv)
end
end Go.Proofs.YtkjbblkieglmlaaGreatDoor
namespace Go.Proofs.YtkjbblkieglmlaaGreatDoor
abbrev zEF:=@List.getElem?_set_ne
abbrev zE9:=@Array.getElem?_setIfInBounds_ne
end Go.Proofs.YtkjbblkieglmlaaGreatDoor
namespace Go.Proofs.YtkjbblkieglmlaaGreatDoor
open Go.RowKit
def Yt (P:Program) (t:TypeId):Option (TypeId×TypeInfo):=match P.underlying t with
 | some (.slice e)=>match P.info? e with
  | some i=>match i.zero with
   | some (.slice none 0 0)=>if i.size=1/\ i.bytes<=128 then some (e,i) else none
   | _=>none
  | none=>none
 | _=>none
theorem sH {P:Program} {t e:TypeId} {i:TypeInfo} (h:Yt P t=some (e,i)):P.underlying t=some (.slice e)/\ P.info? e=some i/\ i.zero=some (.slice none 0 0)/\ i.size=1/\ i.bytes<=128:=by
 unfold Yt at h;split at h
 ·rename_i e' hu;split at h
  ·rename_i i' hi;split at h
   ·rename_i hz;split at h
    ·rename_i hc;cases h;exact ⟨hu,hi,hz,hc.1,hc.2⟩
    ·cases h
   ·cases h
  ·cases h
 ·cases h
def PG (j q:Nat):DV -> DV
 | .msl k m o n=>if k=j then .msl q m o n else .msl k m o n
 | .mp k m i c=>if k=j then .mp q m i c else .mp k m i c
 | .mri k i=>if k=j then .any else .mri k i
 | d=>d
def Yu (P:Program) (S:St) (fz:List (Nat×Fz)) (o:Oper):Option (St×List Prop×List (Nat×Fz)):=match o.op with
 | .makeSlice t x y=>match fz with
  | (d,.rws)::rest=>if o.dst=some d then match Yt P t with
   | some _=>match AY S.fr x,AY S.fr y with
    | .int _ m,.int _ m'=>some (⟨CX S.fr o.dst (.msl S.h.length 1 0 m.toNat),S.h++[some (.mo (.rws (List.replicate m.toNat []) none))]⟩,[m'=m/\ 0<=m/\ m<=1000000000000],rest)
    | _,_=>none
   | none=>none
   else none
  | _=>none
 | .call c=>match c.callee with
  | .builtin .append=>match c.args.toList with
   | [x,y]=>match c.argTypes.toList with
    | [t,t']=>if t=t' then match Kp P t with
     | some (.ints,_,i,_)=>if 128<i.bytes then none else match AY S.fr x,Sf S (AY S.fr y) with
      | .mri j (r+1),some (ys,vy)=>match S.h[j]? with
       | some (some (.mo (.rws ls none)))=>some (⟨CX (S.fr.map (PG j S.h.length)) o.dst (.mri S.h.length 0),S.h.set j none++[some (.mo (.rws ls (some (r,ls.getD r default++ys))))]⟩,[vy,0<ys.length,r<ls.length,(ls.getD r default).length+ys.length<=BA],fz)
       | _=>none
      | _,_=>none
     | _=>none
     else none
    | _=>none
   | _=>none
  | _=>none
 | .store t x y=>match o.dst with
  | none=>match AY S.fr x,AY S.fr y with
   | .mp j 1 r 0,.mri j' 0=>match S.h[j]? with
    | some (some (.mo (.rws ls (some (r',L)))))=>if j'=j/\ (P.info? t).any (fun i=>i.size==1)=true then some (⟨S.fr.map (PG j S.h.length),S.h.set j none++[some (.mo (.rws (ls.set r L) none))]⟩,[r'=r,r<ls.length],fz) else none
    | _=>none
   | _,_=>none
  | some _=>none
 | _=>none
section
variable {P:Program} {Γ:Ar} {N:Nat -> Prop} {S:St} {ρ:List AI} {a:Act} {w w':World} {p p':AI} {ls SL:List (List Int)} {Bt Ig:Option (Nat×List Int)} {vs Bj:Array Value}
theorem gY (R:AS P Γ N S ρ a w) {j i:Nat} {v:Value} (hk:S.h[j]? =some (some (.mo (.rws ls Bt)))) (hv:AM (MS N S.h ρ) w (.mri j i) ρ v): ∃ p vs,ρ[j]? =some p/\ Jk w p ls Bt vs/\ vs[i]? =some v:=by
 obtain ⟨p,vs,hp,FI,Cr⟩:=hv;obtain ⟨p',BF,Bj,h1⟩:=R.hr.obj j _ hk;have:p'=p:=zAR (BF.symm.trans hp);subst this;have:Bj=vs:=by have:=h1.val.symm.trans FI;cases this;rfl
 subst this;exact ⟨p',Bj,hp,h1,Cr⟩
theorem gX (R:AS P Γ N S ρ a w) {j:Nat} (hj:S.h[j]? =some (some (.mo (.rws ls Bt)))) (hp:ρ[j]? =some p) (hu:AP p.foot w w') (hf: ∀ b,p'.foot b -> (p.foot b∨w.heap.size<=b)/\ Db w' b) (L5:Jk w' p' SL Ig Bj)
 (e1:p'.blk=p.blk) (e2:p'.off=p.off) (e3:p'.room=p.room) (dst:Option Nat) {d:DV} {v:Value} (hd: ∀ M ρ',ρ'[S.h.length]? =some p' -> AM M w' d ρ' v):
 ∃ ρ',AS P Γ N ⟨CX (S.fr.map (PG j S.h.length)) dst d,S.h.set j none++[some (.mo (.rws SL Ig))]⟩ ρ' (a.put dst v) w'/\ Ci S.h ρ w (S.h.set j none++[some (.mo (.rws SL Ig))]) ρ' w':=by
 obtain ⟨g1,g2⟩:=R.hr.regrow (o':=.mo (.rws SL Ig)) hj hp hu hf ⟨Bj,L5⟩;have Eu: ∀ (k:Nat) (q:AI),ρ[k]? =some q -> (ρ++[p'])[k]? =some q:=fun k q hk=>ET hk
 have O:BU (MS N S.h ρ) w ρ (MS N (S.h.set j none++[some (.mo (.rws SL Ig))]) (ρ++[p'])) w' (ρ++[p']):=
  ⟨fun b hb hm _=>hu.block b hb fun hx=>hm (.inr ⟨j,_,p,hj,hp,hx⟩),fun b hb=>hb.elim (fun h=>.inl (.inl h)) (fun h=>(g2.grow b h).imp .inr id),Eu⟩
 have hq:(ρ++[p'])[S.h.length]? =some p':=by rw [←R.hr.len];simp
 have Ch:=(R.fr.out O).map (g:=PG j S.h.length) (fun d v hd=>by
  unfold PG;split
  ·rename_i k m o n;split
   ·rename_i e;subst e;obtain ⟨q,cap,h1,h2,h3,h4,h5⟩:=hd;have:q=p:=zAR (h1.symm.trans (Eu _ _ hp));subst this;exact ⟨p',cap,hq,by rw [e1,e2];exact h2,h3,h4,by rw [e2,e3];exact h5⟩
   ·exact hd
  ·rename_i k m i c;split
   ·rename_i e;subst e;obtain ⟨q,h1,h2⟩:=hd;have:q=p:=zAR (h1.symm.trans (Eu _ _ hp));subst this;exact ⟨p',hq,by rw [e1,e2];exact h2⟩
   ·exact hd
  ·split
   ·trivial
   ·exact hd
  ·exact hd)
 exact ⟨ρ++[p'],GZ (S:=⟨S.fr.map (PG j S.h.length),_⟩) ⟨g1,Ch⟩ dst (hd _ _ hq),g2,Eu⟩
theorem sG (h:Jk w p ls none vs) {r:Nat} (hr:r<ls.length) (hl: ∀ b,p.foot b -> Db w b) {t e ty:TypeId} {i:TypeInfo} {z:Value} (hu:P.underlying t=some (.slice e)) (hi:P.info? e=some i) (hz:i.zero=some z) (Ay:i.size=1) (Cf:z.cells.size=i.size) (Di:i.bytes<=128)
 {vy:Value} {ys:List Int} (hy:Src P i.size t vy ys.length (ys.map (Value.int .i64)) w) (hc:0<ys.length) (hb:(ls.getD r default).length+ys.length<=BA):
 ∃ w' u' p',(Builtin.append_ #[t,t] ty #[vs.getD (r+1) undef,vy]).run P w= .ok u' w'/\ AP p.foot w w'/\ (∀ b,p'.foot b -> (p.foot b∨w.heap.size<=b)/\ Db w' b)/\ Jk w' p' ls (some (r,ls.getD r default++ys)) (vs.setIfInBounds 0 u')/\ p'.blk=p.blk/\ p'.off=p.off/\ p'.room=p.room:=by
 have hs:=h.has r hr fun L e=>by cases e
 obtain ⟨w',q,By,r1,r2,r3,r4,r5,r6⟩:=f6 (ty:=ty) hs hu hi hz Ay Cf Di hy hc hb
 generalize hU:vs.getD (r+1) undef=u at*
 have Mg: ∀ b,DI u=some b -> (p.foot b/\ b≠p.blk)/\ b<w.heap.size:=fun b hb=>hs.blk hb
 have D5: ∀ b,b<w.heap.size -> DI u≠some b -> w'.heap[b]? =w.heap[b]? :=fun b hb hn=>r4.block b hb hn
 have No:DI u≠some p.blk:=fun e=>(Mg _ e).1.2 rfl
 obtain ⟨cs,tt,k1,k2,k3,k4⟩:=h.row;have ao:p.blk<w.heap.size:=(zAK.1 k1).1;have al:q.blk≠p.blk:=fun e=>r5.elim (fun e'=>No (by rw [←e];exact e')) (fun e'=>by omega)
 have hv: ∀ j,(vs.setIfInBounds 0 (.slice (some ⟨q.blk,q.off,none⟩) (ls.getD r default++ys).length By)).getD (j+1) undef=vs.getD (j+1) undef:=fun j=>by
  simp [zAg,zD4]
 have PX:(vs.setIfInBounds 0 (.slice (some ⟨q.blk,q.off,none⟩) (ls.getD r default++ys).length By)).getD 0 undef= .slice (some ⟨q.blk,q.off,none⟩) (ls.getD r default++ys).length By:=by
  have:0<vs.size:=by rw [h.size];omega
  simp [zAg,zD4,this]
 have ne: ∀ j b,j<ls.length -> j≠r -> DI (vs.getD (j+1) undef)=some b -> DI u≠some b:=fun j b hj Am hb DA=>Am (h.apart j r b hj hr (fun L e=>by cases e) (fun L e=>by cases e) hb (by rw [hU];exact DA))
 refine ⟨w',_,⟨p.blk,p.off,p.room,.tuple (vs.setIfInBounds 0 (.slice (some ⟨q.blk,q.off,none⟩) (ls.getD r default++ys).length By)),fun b=>(p.foot b/\ DI u≠some b)∨b=q.blk⟩,r1,r4.mono fun b _ hb=>(Mg b hb).1.1,fun b hb=>?_,?_,rfl,rfl,rfl⟩
 ·rcases hb with ⟨g1,g2⟩ | g1
  ·obtain ⟨c,t1,t2,hc⟩:=hl b g1;exact ⟨.inl g1,c,t1,t2,(D5 b (zAK.1 hc).1 g2).trans hc⟩
  ·obtain ⟨_,cs,tt,g,_⟩:=r6;subst g1;exact ⟨r5.imp (fun e=>(Mg _ e).1.1) id,.cells g⟩
 ·refine ⟨rfl,by simpa using h.size,⟨cs,tt,(D5 _ ao No).trans k1,k2,k3,fun j hj=>?_⟩,.inl ⟨h.blk,No⟩,fun j hj hh=>?_,fun i j b hi hj _ _ h1 h2=>?_,fun k L e=>?_⟩
  ·rw [zE9 (by omega)];exact k4 j hj
  ·have Am:j≠r:=fun e=>hh _ (by rw [e])
   rw [hv];exact (h.has j hj fun L e=>by cases e).out (fun b hf hb hl=>D5 b hl (ne j b hj Am hb)) fun b hf hb=>⟨.inl ⟨hf.1,ne j b hj Am hb⟩,hf.2⟩
  ·rw [hv] at h1 h2;exact h.apart i j b hi hj (fun L e=>by cases e) (fun L e=>by cases e) h1 h2
  ·cases e;rw [PX];refine ⟨.inr ⟨q,By,rfl,r2,r3,by unfold LB;unfold BA at hb;simp only [zAm];omega,⟨.inr rfl,al⟩,r6⟩,fun j b hj hb DA=>?_⟩;cases hb;rw [hv] at DA;rcases r5 with r5 | r5
   ·exact h.apart j r q.blk hj hr (fun L e=>by cases e) (fun L e=>by cases e) DA (by rw [hU];exact r5)
   ·exact absurd ((h.has j hj fun L e=>by cases e).blk DA).2 (Nat.not_lt.2 r5)
theorem sF (h:Jk w p ls Bt vs) {r:Nat} {L:List Int} (JQ:Bt=some (r,L)) (hr:r<ls.length) {t:TypeId} {ti:TypeInfo} (KV:P.info? t=some ti) (Ay:ti.size=1):
 ∃ w',(Instr.storeAt t (.pointer (some ⟨p.blk,p.off+r,none⟩)) (vs.getD 0 undef)).run P w= .ok () w'/\ AP (fun b=>b=p.blk) w w'/\ Jk w' { p with val:=.tuple (vs.setIfInBounds (r+1) (vs.getD 0 undef)) } (ls.set r L) none (vs.setIfInBounds (r+1) (vs.getD 0 undef))/\ Db w' p.blk:=by
 obtain ⟨hs,hd⟩:=h.inHand r L JQ;obtain ⟨cs,tt,k1,k2,k3,k4⟩:=h.row
 generalize hU:vs.getD 0 undef=u at*
 have hc:u.cells= #[u]:=by rcases hs with ⟨_,rfl⟩ | ⟨q,cap,rfl,_⟩ <;> rfl
 have JL:r+1<vs.size:=by rw [h.size];omega
 have A2:w.cell? ⟨p.blk,p.off+r,none⟩=some vs[r+1]:=by
  have:=k4 r hr;rw [zA0 JL] at this;unfold World.cell?;simp [k1,this]
 have GT: ∀ jj,w.frozen? ⟨p.blk,jj,none⟩=false:=fun jj=>by unfold World.frozen?;simp [k1]
 have hv: ∀ j,j≠r -> (vs.setIfInBounds (r+1) u).getD (j+1) undef=vs.getD (j+1) undef:=fun j hj=>by
  rw [zAg,zAg,zE9 (by omega)]
 have HO:(vs.setIfInBounds (r+1) u).getD (r+1) undef=u:=by
  simp [zAg,zD4,JL]
 obtain ⟨EJ,e1,e2,e3⟩:=Ph p.blk tt (0,0) [u] (p.off+r) w cs k1 (by simp;omega);have bZ:AP (fun b=>b=p.blk) w (w.setCells p.blk (p.off+r) [u]):=Oi _ _ _ _
 generalize hW:w.setCells p.blk (p.off+r) [u]=W at bZ e1
 have stay: ∀ b,b≠p.blk -> b<w.heap.size -> W.heap[b]? =w.heap[b]? :=fun b hb hl=>bZ.block b hl hb
 refine ⟨W,?_,bZ,?_,.cells e1⟩
 ·rw [←hW]
  have:=Yy (w:=w) (b:=p.blk) (o:=p.off+r) (v:=u) KV (by rw [hc,Ay];rfl) (fun jj Lx=>by
   have:jj=0:=by rw [hc] at Lx;simpa using Lx
   subst this;rw [zEu,A2];rfl) GT (fun x hx=>by
   have:x=u:=by rw [hc] at hx;simpa using hx
   subst this;rcases hs with ⟨_,rfl⟩ | ⟨q,cap,rfl,_⟩ <;> rfl)
  rw [hc] at this;exact this
 ·have lg: ∀ j,j≠r -> (ls.set r L).getD j default=ls.getD j default:=fun j hj=>by
   rw [u8,u8,zEF (by omega)]
  refine ⟨rfl,by simpa using h.size,⟨EJ,tt,e1,by simpa [e2] using k2,by rw [e2];exact k3,fun j hj=>?_⟩,h.blk,fun j hj _=>?_,fun i j b hi hj _ _ h1 h2=>?_,fun k L e=>by cases e⟩
  ·rw [zAn] at hj
   show EJ[p.off+j]? =_
   rw [e3]
   by_cases e:j=r
   ·subst e;rw [zAE (by simp),Array.getElem?_setIfInBounds_self_of_lt JL];simp
   ·rw [zAU (by simp;omega),zE9 (by omega)];exact k4 j hj
  ·rw [zAn] at hj
   by_cases e:j=r
   ·subst e;rw [HO,show (ls.set j L).getD j default=L by simp [u8,hj]];exact hs.out (fun b hf _ hl=>stay b hf.2 hl) fun _ h _=>h
   ·rw [hv j e,lg j e];exact (h.has j hj fun L' e'=>by rw [JQ] at e';cases e';exact e rfl).out (fun b hf _ hl=>stay b hf.2 hl) fun _ h _=>h
  ·rw [zAn] at hi hj
   by_cases ei:i=r
   ·subst ei;rw [HO] at h1
    by_cases ej:j=i
    ·exact ej.symm
    ·rw [hv j ej] at h2;exact (hd j b hj h1 h2).symm
   ·rw [hv i ei] at h1
    by_cases ej:j=r
    ·subst ej;rw [HO] at h2;exact hd i b hi h2 h1
    ·rw [hv j ej] at h2;exact h.apart i j b hi hj (fun L' e'=>by rw [JQ] at e';cases e';exact ei rfl) (fun L' e'=>by rw [JQ] at e';cases e';exact ej rfl) h1 h2
theorem gZ (R:AS P Γ N S ρ a w) {o:Oper} {S':St} {fz JZ:List (Nat×Fz)} {vc:List Prop} (h:Yu P S fz o=some (S',vc,JZ)) (hv:Bc vc):
 Bb P (execOp a.eval o) w (fun v w'=>(∃ ρ',AS P Γ N S' ρ' (a.put o.dst v) w'/\ Ci S.h ρ w S'.h ρ' w')/\ ((∀ t x y,o.op≠.store t x y)∨∃ k i p t x y,o.op= .store t x y/\ AY S.fr x= .mp k 1 i 0/\ ρ[k]? =some p/\ AP p.foot w w')):=by
 unfold Yu at h;split at h
 ·rename_i t x y ho;split at h
  case h_2=>cases h
  rename_i d rest;split at h
  case isFalse=>cases h
  split at h
  case h_2=>cases h
  rename_i r hT;obtain ⟨e,i⟩:=r;split at h
  case h_2=>cases h
  rename_i k1 m k2 m' hx hy;cases h;obtain ⟨⟨rfl,GP,GO⟩,_⟩:=hv;obtain ⟨hu,hi,hz,hs,Di⟩:=sH hT;have rx:=Bg R x;have ry:=Bg R y;rw [hx] at rx;rw [hy] at ry;have DW:(madeCells (Value.slice none 0 0).cells (m'.toNat*i.size)).size=m'.toNat:=by rw [size_madeCells,hs,zD8]
  have C9: ∀ j,j<m'.toNat -> (madeCells (Value.slice none 0 0).cells (m'.toNat*i.size))[j]? =some (Value.slice none 0 0):=fun j hj=>by
   simp [madeCells,hs,hj,Value.cells,Nat.mod_one]
  refine Bb.value (s:=Instr.makeSlice t (a.eval x) (a.eval y)) (by unfold execOp;rw [ho]) (v:=.slice (some ⟨w.heap.size,0,none⟩) m'.toNat m'.toNat) (w':=w.alloc (.cells (madeCells (Value.slice none 0 0).cells (m'.toNat*i.size)) e)) ?_ ?_
  ·rw [show a.eval x=_ from rx,show a.eval y=_ from ry];refine run_make w t e i _ hu hi hz k1 k2 m' m' GP (zEK _) ?_ (by omega);have:(i.bytes:Int)*m'<=128*1000000000000:=Int.mul_le_mul (by omega) GO GP (by omega);omega
  ·generalize hC:madeCells (Value.slice none 0 0).cells (m'.toNat*i.size)=cs at DW C9 ⊢
   have hg: ∀ j,j<m'.toNat -> (#[undef]++Array.replicate m'.toNat (Value.slice none 0 0)).getD (j+1) undef= .slice none 0 0:=fun j hj=>by
    simp [zAg,Array.getElem?_append,hj]
   refine ⟨OC R o.dst (TM (ob:=.cells cs e) (o:=.mo (.rws (List.replicate m'.toNat []) none)) (d:=.msl S.h.length 1 0 m'.toNat) (pl:=⟨w.heap.size,0,cs.size,.tuple (#[undef]++Array.replicate m'.toNat (Value.slice none 0 0)),fun b=>b=w.heap.size⟩) R.hr rfl rfl (fun M ρ'=>?_) (fun M ρ' hp=>⟨_,m'.toNat,hp,by simp,zAp _,by unfold LB;omega,by simp [DW]⟩) true) fun _ _ h=>h,.inl fun t x y e=>by rw [ho] at e;cases e⟩;refine ⟨#[undef]++Array.replicate m'.toNat (Value.slice none 0 0),rfl,by simp;omega,⟨cs,e,zEz w _,by simp [DW],zAp _,fun j hj=>?_⟩,rfl,fun j hj _=>.inl ⟨?_,?_⟩,fun i j b hi hj _ _ h1 h2=>?_,fun k L e=>by cases e⟩
   ·rw [zAl] at hj
    show cs[0+j]? =_
    rw [zAs,C9 j hj];simp [Array.getElem?_append,hj]
   ·rw [zAl] at hj;simp [u8,hj]
   ·rw [zAl] at hj;exact hg j hj
   ·rw [zAl] at hi;rw [hg i hi] at h1;cases h1
 ·rename_i c ho;split at h
  case h_2=>cases h
  rename_i hc;split at h
  case h_2=>cases h
  rename_i x y ha;split at h
  case h_2=>cases h
  rename_i t t' ht;split at h
  case isFalse=>cases h
  rename_i e;subst e;split at h
  case h_2=>cases h
  rename_i e i z hk;obtain ⟨hu,hi,hz,h0,Cf,EH,_⟩:=Te hk;have Cp:i.size=1:=EH.symm;split at h
  case isTrue=>cases h
  rename_i Di;have rx:=Bg R x;have ry:=Bg R y;split at h
  case h_2=>cases h
  rename_i j r ys vy hX hY;split at h
  case h_2=>cases h
  rename_i ls hO;cases h;obtain ⟨v1,v2,v3,v4,_⟩:=hv;rw [hX] at rx;obtain ⟨p,vs,hp,hA,Cr⟩:=gY R hO rx;have ex:a.eval x=vs.getD (r+1) undef:=by simp [zAg,Cr]
  obtain ⟨w',u',p',g1,g2,g3,g4,g5,g6,g7⟩:=sG (ty:=o.type) hA v3 (fun b hb=>(R.hr.cel j _ p b hO hp hb).2.2) hu hi hz Cp Cf (by omega) (by rw [Cp];exact Se R hu ry hY v1) v2 v4;refine Bb.value (TZ ho hc ha ht) (by rw [ex];exact g1) ?_
  exact ⟨gX R hO hp g2 g3 g4 g5 g6 g7 o.dst fun M ρ' hq=>⟨p',_,hq,g4.val,by
   have:0<vs.size:=by rw [hA.size];omega
   simp [zD4,this]⟩,.inl fun t x y e=>by rw [ho] at e;cases e⟩
 ·rename_i t x y ho;split at h
  case h_2=>cases h
  rename_i bN;split at h
  case h_2=>cases h
  rename_i j r j' hX hY;split at h
  case h_2=>cases h
  rename_i ls r' L hO;split at h
  case isFalse=>cases h
  rename_i hc;cases h;obtain ⟨rfl,Ay⟩:=hc;obtain ⟨rfl,v2,_⟩:=hv;have rx:=Bg R x;have ry:=Bg R y;rw [hX] at rx;rw [hY] at ry;obtain ⟨p,vs,hp,hA,Cr⟩:=gY R hO ry;obtain ⟨p2,Np,ex⟩:=rx;have:p2=p:=zAR (Np.symm.trans hp);subst this;cases KV:P.info? t with
  | none=>rw [KV] at Ay;cases Ay
  | some ti=>
  rw [KV] at Ay;have cK:a.eval x= .pointer (some ⟨p2.blk,p2.off+r',none⟩):=by rw [ex];simp
  have ey:a.eval y=vs.getD 0 undef:=by simp [zAg,Cr]
  obtain ⟨W,g1,g2,g3,g4⟩:=sF hA rfl v2 KV (by simpa using Ay);refine Bb.skip (s:=Instr.storeAt t (a.eval x) (a.eval y)) (by unfold execOp;rw [ho]) (w':=W) (by rw [cK,ey];exact g1) ?_
  have:=gX (a:=a) (p':={ p2 with val:=.tuple (vs.setIfInBounds (r'+1) (vs.getD 0 undef)) }) R hO hp (g2.mono fun b _ hb=>by rw [show b=p2.blk from hb];exact hA.blk) (fun b hb=>⟨.inl hb,by
   by_cases e:b=p2.blk
   ·rw [e];exact g4
   ·obtain ⟨c,t1,t2,hc⟩:=(R.hr.cel _ _ p2 b hO hp hb).2.2;exact ⟨c,t1,t2,(g2.block b (zAK.1 hc).1 e).trans hc⟩⟩) g3 rfl rfl rfl none (d:=.any) (v:=undef) fun _ _ _=>trivial
  rw [bN];exact ⟨this,.inr ⟨j',r',p2,t,x,y,ho,hX,hp,g2.mono fun b _ hb=>by rw [show b=p2.blk from hb];exact hA.blk⟩⟩
 ·cases h
end
end Go.Proofs.YtkjbblkieglmlaaGreatDoor
namespace Go.Proofs.YtkjbblkieglmlaaGreatDoor
abbrev zEa:=@Bool.false_or
abbrev zE0:=@Bool.false_ne_true
end Go.Proofs.YtkjbblkieglmlaaGreatDoor
namespace Go.Proofs.YtkjbblkieglmlaaGreatDoor
open Go.RowKit
def ES (P:Program) (Γ:Ar) (f:Nat) (ds:List DV) (h:DH) (d:DV) (h':DH) (ext:Bool):Prop:=
 (∃ fn,P.funcs[f]? =some fn/\ fn.name≠ "runtime.NumGoroutine" /\ fn.body.isSome=true)/\
 ∀ (N:Nat -> Prop) (ρ:List AI) (w:World) (args:Array Value),A0 P Γ N h ρ w -> BC (MS N h ρ) w ρ ds args ->
  Calls P f args w fun e w'=>∃ v,e= .returned v/\ CV P Γ N h ρ w ext d h' v w'
def Sb (h h':DH):Bool:=(List.range h.length).all fun k=>!(h.getD k none).isSome||(h'.getD k none).isSome
def Oc (P:Program) (Γ:Ar) (f:Nat) (ds:List DV) (h:DH) (d:DV) (h':DH) (k:Nat):Prop:=
 (∃ fn,P.funcs[f]? =some fn/\ fn.name≠ "runtime.NumGoroutine" /\ fn.body.isSome=true)/\
 ∀ (N:Nat -> Prop) (ρ:List AI) (w:World) (args:Array Value),A0 P Γ N h ρ w -> BC (MS N h ρ) w ρ ds args ->
  Calls P f args w fun e w'=>∃ v,e= .returned v/\ CV P Γ N h ρ w false d h' v w'/\ AP (fun b=>∃ i o p,k<=i/\ h[i]? =some (some o)/\ ρ[i]? =some p/\ p.foot b) w w'
structure BH where
 calls:List (DV×DH×Bool)
 co:List (Nat×DV)
 fz:List (Nat×Fz):=[]
 tg:List (List (Nat×Nat)×St):=[]
def Iu (ops:Array Oper) (S:St) (o:Oper):Option Bool:=match o.guard with
 | none=>some true
 | some (j,dy)=>match (ops[j]?).bind (·.dst) with
  | some t=>match S.fr.getD t .any with
   | .bool b=>some (b==dy)
   | .tup _ _=>some false
   | _=>none
  | none=>none
def Tz (co:List (Nat×DV)) (dst:Option Nat) (d:DV):DV×List Prop×List (Nat×DV):=match co with
 | []=>(d,[],[])
 | (t,d')::rest=>match dst with
  | some t'=>if t'=t then (d',[AR d d'],rest) else (d,[],co)
  | none=>(d,[],co)
def K6 (S:St):Op -> Bool
 | .move _=>true
 | .assign _=>true
 | .pick .. =>true
 | .binOp .shl .. =>false
 | .binOp .shr .. =>false
 | .binOp .quo .. =>false
 | .binOp .rem .. =>false
 | .binOp _ _ _ y _=>match AY S.fr y with
  | .nils=>false
  | _=>true
 | .unOp .. =>true
 | .convert .. =>true
 | .nilCheck _=>true
 | .fieldAddr .. =>true
 | .extract .. =>true
 | .makeFunc .. =>true
 | .build .. =>true
 | .field .. =>true
 | .call _=>true
 | .load _ x=>match AY S.fr x with
  | .mp .. =>false
  | _=>true
 | _=>false
def ww:Op -> Bool
 | .box .. =>true
 | .alloc _=>true
 | .buildSlice .. =>true
 | .makeSlice .. =>true
 | .store .. =>true
 | .makeMap .. =>true
 | .mapUpdate .. =>true
 | .insert .. =>true
 | .lookup .. =>true
 | .range .. =>true
 | .entry _=>true
 | .call c=>match c.callee with
  | .builtin .append=>true
  | .value _=>true
  | _=>false
 | _=>false
def O4 (P:Program) (ops:Array Oper) (S:St) (co:List (Nat×DV)) (o:Oper):Option (St×List Prop×List (Nat×DV)):=match Iu ops S o with
 | none=>none
 | some false=>some (⟨CX S.fr o.dst Mf,S.h⟩,[],co)
 | some true=>match Rl P S o.op with
  | none=>none
  | some (d,vc)=>match Tz co o.dst d with
   | (d',vs,Cq)=>some (⟨CX S.fr o.dst d',S.h⟩,(if K6 S o.op then vs else vc::vs),Cq)
def Ri (P:Program) (ops:Array Oper):List Oper -> St -> List (Nat×DV) -> Option (St×List Prop×List (Nat×DV))
 | [],S,co=>some (S,[],co)
 | o::rest,S,co=>match O4 P ops S co o with
  | none=>none
  | some (S',vs,Cq)=>match Ri P ops rest S' Cq with
   | none=>none
   | some (CH,Bj,nP)=>some (CH,vs++Bj,nP)
def QU (P:Program) (Γ:Ar) (S:St) (calls:List (DV×DH×Bool)):Op -> Option (DV×DH×List Prop×Bool×List (DV×DH×Bool))
 | .box _ x=>match Ii (AY S.fr x) with
  | some l=>some (.ref S.h.length 0,S.h++[some (.cells l)],[],true,calls)
  | none=>none
 | .alloc t=>match P.info? t with
  | some i=>match i.zero with
   | some z=>if X0 z then some (.mp S.h.length 1 0 0,S.h++[some (.bools (List.replicate z.cells.size false))],[],true,calls)
    else some (.ref S.h.length 0,S.h++[some (.cells (z.cells.toList.map GJ))],[],true,calls)
   | none=>none
  | none=>none
 | .buildSlice t len parts=>match Kp P t with
  | some (k,_,_,_)=>if XQ parts.toList len&&decide (len<=65536/\ k.cells<=64) then match QN k (parts.toList.map fun x=>AY S.fr x.2) with
   | some ob=>some (.msl S.h.length k.cells 0 len,S.h++[some ob],[],true,calls)
   | none=>none
   else none
  | none=>none
 | .makeSlice t x y=>match Vu P t with
  | some (n,_,_)=>match AY S.fr x,AY S.fr y with
   | .int _ m,.int _ m'=>some (.msl S.h.length 1 0 m.toNat,S.h++[some (.mo (.sets n (List.replicate m.toNat none) none))],[m'=m/\ 0<=m/\ m<=1000000000000],true,calls)
   | _,_=>none
  | none=>match Kp P t with
   | some (k,_,i,z)=>if decide (i.bytes<=128) then match AY S.fr x,AY S.fr y with
    | .int _ n,.int _ n'=>some (.msl S.h.length k.cells 0 n.toNat,S.h++[some (jY k n.toNat z)],[n'=n/\ 0<=n/\ n<=1000000000000],true,calls)
    | _,_=>none
    else none
   | none=>none
 | .store t x y=>match Mj P S t (AY S.fr x) (AY S.fr y) with
  | some (h',vc)=>some (.any,h',[vc],false,calls)
  | none=>none
 | .call c=>match c.callee with
  | .builtin .append=>match c.args.toList with
   | [x,y]=>match c.argTypes.toList with
    | [t,t']=>if t=t' then match dL P S t (AY S.fr x) (AY S.fr y) with
     | some (d,h',vc)=>some (d,h',[vc],false,calls)
     | none=>none
     else none
    | _=>none
   | _=>none
  | .value f=>match AY S.fr f,calls with
   | .fn g m cap,(d,h',ext)::rest=>some (d,h',[ES P Γ g (c.args.toList.map (AY S.fr)++(List.range m).map cap) S.h d h' ext],ext,rest)
   | _,_=>none
  | _=>none
 | op=>match Z2 P S op with
  | some (d,h',vs,ext)=>some (d,h',vs,ext,calls)
  | none=>none
def OU (P:Program) (Γ:Ar) (ops:Array Oper) (S:St) (Aa:BH) (o:Oper):Option (St×List Prop×Bool×BH):=match Iu ops S o with
 | none=>none
 | some false=>some (⟨CX S.fr o.dst Mf,S.h⟩,[],true,Aa)
 | some true=>match Yu P S Aa.fz o with
  | some (S',vs,JZ)=>some (S',vs,false,⟨Aa.calls,Aa.co,JZ,Aa.tg⟩)
  | none=>match YT P S o with
  | some (S',vs)=>some (S',vs,false,Aa)
  | none=>match QU P Γ S Aa.calls o.op with
   | none=>none
   | some (d,h',vs,ext,calls)=>match Tz Aa.co o.dst d with
    | (d',Bj,Cq)=>match TQ Aa.fz o.dst ⟨CX S.fr o.dst d',h'⟩ with
     | none=>none
     | some (S',Oh,JZ)=>some (S',vs++(Bj++Oh),ext,⟨calls,Cq,JZ,Aa.tg⟩)
def DX (P:Program) (Γ:Ar) (ops:Array Oper):List Oper -> St -> BH -> Option (St×List Prop×BH)
 | [],S,Aa=>some (S,[],Aa)
 | o::rest,S,Aa=>match ww o.op with
  | true=>match OU P Γ ops S Aa o with
   | none=>none
   | some (S',vs,_,Bz)=>match DX P Γ ops rest S' Bz with
    | none=>none
    | some (CH,Bj,Rs)=>some (CH,vs++Bj,Rs)
  | false=>match O4 P ops S Aa.co o with
   | none=>none
   | some (S',vs,Cq)=>match DX P Γ ops rest S' ⟨Aa.calls,Cq,Aa.fz,Aa.tg⟩ with
    | none=>none
    | some (CH,Bj,Rs)=>some (CH,vs++Bj,Rs)
def cr (P:Program) (Γ:Ar) (hb:DH) (ops:Array Oper) (S:St) (Aa:BH) (o:Oper):Option (St×List Prop×BH):=match o.op with
 | .call c=>match c.callee with
  | .value f=>match AY S.fr f,Aa.calls with
   | .fn g m cap,(d,h',false)::rest=>match Iu ops S o,Sb hb S.h with
    | some true,true=>match Tz Aa.co o.dst d with
     | (d',Bj,Cq)=>match TQ Aa.fz o.dst ⟨CX S.fr o.dst d',h'⟩ with
      | some (S',Oh,JZ)=>some (S',Oc P Γ g (c.args.toList.map (AY S.fr)++(List.range m).map cap) S.h d h' hb.length::(Bj++Oh),⟨rest,Cq,JZ,Aa.tg⟩)
      | none=>none
    | _,_=>none
   | _,_=>none
  | _=>none
 | _=>none
def bh (Bh:List Nat) (hb h:DH):DH:=match Bh with
 | []=>hb
 | _=>h
def Lo (P:Program) (Γ:Ar) (ops:Array Oper):DH -> List (List Nat×Nat) -> List Nat -> St -> BH -> Option (St×List Prop×BH)
 | _,[],BL,S,Aa=>match Ri P ops (CE ops BL) S Aa.co with
  | none=>none
  | some (S',vs,Cq)=>some (S',vs,⟨Aa.calls,Cq,Aa.fz,Aa.tg⟩)
 | hb,(Bh,i)::Ep,BL,S,Aa=>match Ri P ops (CE ops Bh) S Aa.co with
  | none=>none
  | some (S',vs,Cq)=>match ops[i]? with
   | none=>none
   | some o=>match cr P Γ (bh Bh hb S.h) ops S' ⟨Aa.calls,Cq,Aa.fz,Aa.tg⟩ o with
    | some (CH,Bj,Bz)=>match Lo P Γ ops (bh Bh hb S.h) Ep BL CH Bz with
     | none=>none
     | some (S3,Og,KC)=>some (S3,vs++(Bj++Og),KC)
    | none=>match OU P Γ ops S' ⟨Aa.calls,Cq,Aa.fz,Aa.tg⟩ o with
     | none=>none
     | some (CH,Bj,ext,Bz)=>match ext with
      | false=>none
      | true=>match Lo P Γ ops (bh Bh hb S.h) Ep BL CH Bz with
       | none=>none
       | some (S3,Og,KC)=>some (S3,vs++(Bj++Og),KC)
def hseq (P:Program) (Γ:Ar) (ops:Array Oper) (hb:DH) (CS:List (List Nat×Nat)) (BL tail:List Nat) (S:St) (Aa:BH):Option (St×List Prop×BH):=match Lo P Γ ops hb CS BL S Aa with
 | none=>none
 | some (S',vs,Bz)=>match DX P Γ ops (CE ops tail) S' Bz with
  | none=>none
  | some (CH,Bj,Rs)=>some (CH,vs++Bj,Rs)
section
variable {P:Program} {Γ:Ar} {N:Nat -> Prop} {S:St} {ρ:List AI} {a:Act} {w:World} {F:Fence}
structure Cw (F:Fence) (P:Program):Prop where
 fn: ∀ f,F.fn f
 dep:F.depth=none
 calls: ∀ {f:FuncId} {args:Array Value} {w:World} {R:Ending -> World -> Prop},Calls P f args w R -> CallsIn F 0 P f args w R
theorem Cw.wide:Cw Fence.wide P:=⟨fun _=>trivial,rfl,fun h=>zGB.2 h⟩
theorem Cw.round (l:Nat):Cw (Fence.wide.inRound l) P:=⟨fun _=>trivial,rfl,fun h=>CallsIn.inRound _ (zGB.2 h)⟩
theorem He (R:AS P Γ N S ρ a w) {ops:Array Oper} {o:Oper} {r:Bool} (h:Iu ops S o=some r):Region.wanted o (yielded ops a.tmps)=r:=by
 unfold Iu at h;unfold Region.wanted;split at h
 ·rename_i hg;rw [hg];cases h;rfl
 ·rename_i j dy hg;rw [hg];split at h
  ·rename_i t ht;split at h
   ·rename_i b hb;cases h;have hr:=R.fr.at t;rw [hb] at hr;have hv:a.tmps.getD t undef= .bool b:=hr
    have:a.tmps[t]? =some (.bool b):=by
     rw [zAg] at hv;cases hx:a.tmps[t]? with
     | none=>rw [hx] at hv;cases hv
     | some u=>rw [hx] at hv;exact congrArg some hv
    simp [yielded,ht,this]
   ·rename_i m f hb;cases h;have hr:=R.fr.at t;rw [hb] at hr;obtain ⟨cs,hv,_⟩:=hr
    have:yielded ops a.tmps j=none:=by
     unfold yielded;rw [ht]
     show (match a.tmps[t]? with | some (.bool b)=>some b | _=>none)=none
     rw [zAg] at hv;cases hx:a.tmps[t]? with
     | none=>rfl
     | some u=>rw [hx] at hv;have hv:u= .tuple cs:=hv;rw [hv]
    simp [this]
   ·cases h
  ·cases h
theorem Xd {co:List (Nat×DV)} {dst:Option Nat} {d d':DV} {vs:List Prop} {Cq:List (Nat×DV)} (h:Tz co dst d=(d',vs,Cq)) (hv:Bc vs) {M:Nat -> Prop} {v:Value} (hr:AM M w d ρ v):AM M w d' ρ v:=by
 unfold Tz at h;split at h
 ·cases h;exact hr
 ·split at h
  ·split at h
   ·cases h;exact hv.1 M w ρ v hr
   ·cases h;exact hr
  ·cases h;exact hr
theorem ic {op:Op} {d:DV} {vc:Prop} (h:O6 P S op=some (d,vc)) (ht:K6 S op=true):vc:=by
 unfold O6 at h;split at h
 ·cases h;trivial
 ·cases h;trivial
 ·repeat' (split at h)
  all_goals first | (cases h;trivial) | (cases h;done)
 ·rename_i t x;simp only [K6] at ht;unfold NV at h
  repeat' (split at h)
  all_goals first | (cases h;trivial) | (cases h;done) | (simp_all;done)
 ·rename_i op t x y t';unfold Xo at h;split at h
  ·split at h
   all_goals first | (cases h;trivial) | (cases h;done)
  ·split at h
   all_goals first | (cases h;trivial) | (cases h;done)
  ·rename_i e;simp [K6,e] at ht
  ·rename_i e;simp [K6,e] at ht
  ·rename_i e;simp [K6,e] at ht
  ·cases ht
  ·cases ht
  ·cases ht
  ·cases ht
  ·split at h
   ·unfold Xn at h;split at h
    all_goals first | (cases h;trivial) | (cases h;done)
   ·cases h
  ·cases h
 ·repeat' (split at h)
  all_goals first | (cases h;trivial) | (cases h;done)
 ·repeat' (split at h)
  all_goals first | (cases h;trivial) | (cases h;done)
 ·repeat' (split at h)
  all_goals first | (cases h;trivial) | (cases h;done)
 ·repeat' (split at h)
  all_goals first | (cases h;trivial) | (cases h;done)
 ·cases ht
 ·repeat' (split at h)
  all_goals first | (cases h;trivial) | (cases h;done)
 ·split at h
  ·cases h;trivial
  ·cases h
 ·split at h
  ·unfold Xl at h;split at h
   ·split at h
    ·split at h
     ·unfold V0 at h;split at h
      all_goals first | (cases h;trivial) | (cases h;done)
     ·cases h
    ·cases h
   ·split at h
    ·unfold Zy at h;split at h
     all_goals first | (cases h;trivial) | (cases h;done)
    ·cases h
   ·split at h
    ·unfold Zx at h;split at h
     all_goals first | (cases h;trivial) | (cases h;done)
    ·cases h
   ·cases h
  ·cases h
 ·cases h
theorem zBr {op:BinOp} {t:TypeId} {x y d:DV} {vc:Prop} (h:Tb P op t x y=some (d,vc)):vc:=by
 unfold Tb at h;split at h
 ·split at h
  all_goals first | (cases h;trivial) | (cases h;done)
 ·split at h
  all_goals first | (cases h;trivial) | (cases h;done)
 ·cases h
theorem pI {op:Op} {d:DV} {vc:Prop} (h:Rl P S op=some (d,vc)) (ht:K6 S op=true):vc:=by
 unfold Rl at h;split at h
 ·split at h
  all_goals first | (cases h;trivial) | (cases h;done)
 ·unfold Vz at h
  repeat' (split at h)
  all_goals first | (cases h;trivial) | (cases h;done)
 ·cases ht
 ·unfold W7 at h
  repeat' (split at h)
  all_goals first | (cases h;trivial) | (cases h;done)
 ·cases ht
 ·split at h
  ·rename_i r hr;cases h;exact zBr hr
  ·exact ic h ht
 ·exact ic h ht
theorem Rf (R:AS P Γ N S ρ a w) {ops:Array Oper} {co:List (Nat×DV)} {o:Oper} {S':St} {vs:List Prop} {Cq:List (Nat×DV)} (h:O4 P ops S co o=some (S',vs,Cq)) (hv:Bc vs):
 S'.h=S.h/\ ((Region.wanted o (yielded ops a.tmps)=true/\ ∃ v,(∀ W,Keep N w W -> (execOp a.eval o).run P W= .ok (.value v) W)/\ AS P Γ N S' ρ (a.put o.dst v) w)∨(Region.wanted o (yielded ops a.tmps)=false/\ AS P Γ N S' ρ (a.put o.dst undef) w)):=by
 unfold O4 at h;split at h
 ·cases h
 ·rename_i hw;cases h;exact ⟨rfl,.inr ⟨He R hw,GZ R _ UZ⟩⟩
 ·rename_i hw;split at h
  ·cases h
  ·rename_i d vc hp;split at h;rename_i d' Bj nP N5;cases h
   have kZ:vc/\ Bc Bj:=by
    by_cases ht:K6 S o.op=true
    ·rw [zAE ht] at hv;exact ⟨pI hp ht,hv⟩
    ·rw [zAU ht] at hv;exact hv
   obtain ⟨v,g1,g2⟩:=uN R o hp kZ.1;exact ⟨rfl,.inl ⟨He R hw,v,g1,GZ R _ (Xd N5 kZ.2 g2)⟩⟩
theorem Rg {ops:Array Oper} {Q:Act -> Prop}: ∀ (l:List Oper) {S:St} {a:Act} {co:List (Nat×DV)} {S':St} {vs:List Prop} {Cq:List (Nat×DV)},AS P Γ N S ρ a w -> Ri P ops l S co=some (S',vs,Cq) -> Bc vs ->
 (∀ a',S'.h=S.h -> AS P Γ N S' ρ a' w -> a'.defers=a.defers -> Q a') -> wpQuiet P ops (fun w'=>∃ x:UJ w,w'=x.W) Q l a
 | [],S,a,co,S',vs,Cq,R,h,_,hQ=>by
  cases h;exact hQ a rfl R rfl
 | o::rest,S,a,co,S',vs,Cq,R,h,hv,hQ=>by
  simp only [Ri] at h;split at h
  ·cases h
  ·rename_i S1 CG Jf h1;split at h
   ·cases h
   ·rename_i S2 Dq cc h2;cases h;obtain ⟨B0,B7⟩:=Cv.1 hv;obtain ⟨e1,hs⟩:=Rf R h1 B0;unfold wpQuiet;have CL: ∀ v,(a.put o.dst v).defers=a.defers:=fun v=>by cases ho:o.dst <;> simp [Act.put]
    rcases hs with ⟨hw,v,g1,g2⟩ | ⟨hw,g2⟩
    ·rw [zAE hw];refine ⟨v,?_,Rg rest g2 h2 B7 fun a' q1 q2 q3=>hQ a' (q1.trans e1) q2 (q3.trans (CL v))⟩;rintro W ⟨x,rfl⟩;unfold Oper.quietAt;rw [g1 x.W (Keep.ofExt x.le)];exact ⟨rfl,rfl⟩
    ·rw [zAU (by rw [hw];exact zE0)];exact Rg rest g2 h2 B7 fun a' q1 q2 q3=>hQ a' (q1.trans e1) q2 (q3.trans (CL undef))
theorem BC.append {M:Nat -> Prop} {l l':List DV} {t t':Array Value} (h:BC M w ρ l t) (h':BC M w ρ l' t'):BC M w ρ (l++l') (t++t'):=by
 refine ⟨by simp [h.1,h'.1],fun i hi=>?_⟩;rcases zBG i l.length with hl | hl
 ·have:=h.2 i hl;have ht:i<t.size:=by rw [←h.1];exact hl
  simp only [u8,zAg] at this ⊢;rw [zAb hl,zEX ht];exact this
 ·have BV:i-l.length<l'.length:=by simp at hi;omega
  have:=h'.2 _ BV;have ht:t.size<=i:=by rw [←h.1];exact hl
  simp only [u8,zAg] at this ⊢;rw [zAd hl,Array.getElem?_append_right ht,←h.1];exact this
theorem sc {g:Nat} {args:Array Value} {fn:Func} (Nw:P.funcs[g]? =some fn) (Ns:fn.name≠ "runtime.NumGoroutine") (zAh:fn.body.isSome=true):(callFunc g args).run P w= .ok (.enter g args) w:=by
 have zw:fn.body.isNone=false:=by cases hb:fn.body <;> simp [hb] at zAh ⊢
 have bA:(fn.name== "runtime.NumGoroutine")=false:=by simpa using Ns
 unfold callFunc;rw [zAr,show Sem.run P program w= .ok P w from rfl];simp only [Result.andThen,Nw,bA,zw,zDJ,zEr];rfl
theorem cq (R:AS P Γ N S ρ a w) {c:Call} {f:Operand} {g m:Nat} {cap:Nat -> DV} (o:Oper) (ho:o.op= .call c) (hc:c.callee= .value f) (hf:AY S.fr f= .fn g m cap)
 (hen: ∀ args W,(callFunc g args).run P W= .ok (.enter g args) W): ∃ args,(execOp a.eval o).run P w= .ok (.enter g args) w/\ BC (MS N S.h ρ) w ρ (c.args.toList.map (AY S.fr)++(List.range m).map cap) args:=by
 have hr:=Bg R f;rw [hf] at hr;obtain ⟨lb,hv,hs,L2⟩:=hr;refine ⟨c.args.map a.eval++lb,?_,BC.append ⟨by simp,fun i hi=>?_⟩ ⟨by simp [hs],fun i hi=>?_⟩⟩
 ·unfold execOp;rw [ho]
  show ((resolve a.eval c o.type)>>=fun d=>invoke d.target d.args).run P w=_
  unfold resolve;rw [hc];simp only [Deferred.ofValue,hv];have he:((pure { target:=.fn (.func g) lb,args:=#[]++Array.map a.eval c.args }:Sem Deferred)>>=fun d=>invoke d.target d.args).run P w=(callFunc g (#[]++Array.map a.eval c.args++lb)).run P w:=rfl;rw [he,hen];simp
 ·have BV:i<c.args.size:=by simpa using hi
  have:=Bg R c.args[i];simp [BV,this]
 ·have BV:i<m:=by simpa using hi
  obtain ⟨u,g1,g2⟩:=L2 i BV;simp [BV,g1,g2]
theorem nV (R:AS P Γ N S ρ a w) {c:Call} {f:Operand} {g m:Nat} {cap:Nat -> DV} {G:Value -> World -> Prop} (o:Oper) (ho:o.op= .call c) (hc:c.callee= .value f) (hf:AY S.fr f= .fn g m cap)
 (Nw: ∃ fn,P.funcs[g]? =some fn/\ fn.name≠ "runtime.NumGoroutine" /\ fn.body.isSome=true) (hE: ∀ args,BC (MS N S.h ρ) w ρ (c.args.toList.map (AY S.fr)++(List.range m).map cap) args -> Calls P g args w fun e w'=>∃ v,e= .returned v/\ G v w'):Bb P (execOp a.eval o) w G:=
 let ⟨_,h1,h2,h3⟩:=Nw
 let ⟨args,h4,h5⟩:=cq R o ho hc hf fun _ _=>sc h1 h2 h3
 .inr (.inr ⟨g,args,w,h4,hE _ h5⟩)
theorem zC7 (R:AS P Γ N S ρ a w) {c:Call} {f:Operand} {g m:Nat} {cap:Nat -> DV} {d:DV} {h':DH} {ext:Bool} (o:Oper) (ho:o.op= .call c) (hc:c.callee= .value f) (hf:AY S.fr f= .fn g m cap)
 (hE:ES P Γ g (c.args.toList.map (AY S.fr)++(List.range m).map cap) S.h d h' ext):Bb P (execOp a.eval o) w (CV P Γ N S.h ρ w ext d h'):=
 nV R o ho hc hf hE.1 fun args ha=>hE.2 N ρ w args R.hr ha
theorem dW (R:AS P Γ N S ρ a w) {calls:List (DV×DH×Bool)} {o:Oper} {d:DV} {h':DH} {vs:List Prop} {ext:Bool} {T4:List (DV×DH×Bool)} (h:QU P Γ S calls o.op=some (d,h',vs,ext,T4)) (hv:Bc vs):
 Bb P (execOp a.eval o) w (CV P Γ N S.h ρ w ext d h'):=by
 unfold QU at h;split at h
 ·rename_i t x ho;split at h
  ·rename_i l hl;cases h;exact zDC R hl o ho true
  ·cases h
 ·rename_i t ho;split at h
  ·rename_i i hi;split at h
   ·rename_i z hz;split at h
    ·rename_i aU;cases h;exact zDk R hi hz aU o ho true
    ·cases h;exact zDj R hi hz o ho true
   ·cases h
  ·cases h
 ·rename_i t len parts ho;split at h
  ·rename_i k e i z hk;split at h
   ·rename_i hc;simp only [zAN,zAx] at hc;split at h
    ·rename_i ob hb;cases h;exact zDA R hk hc.1 hc.2 hb o ho true
    ·cases h
   ·cases h
  ·cases h
 ·rename_i t x y ho;split at h
  ·rename_i n e i hT;split at h
   ·rename_i k1 m k2 m' hx hy;cases h;obtain ⟨⟨rfl,v1,v2⟩,_⟩:=hv;exact vd R hT hx hy ⟨v1,v2⟩ o ho true
   ·cases h
  split at h
  ·rename_i k e i z hk;split at h
   ·rename_i Di;split at h
    ·rename_i k1 n k2 n' hx hy;cases h;obtain ⟨⟨rfl,v1,v2⟩,_⟩:=hv;exact vb R hk hx hy ⟨v1,v2⟩ (by simpa using Di) o ho true
    ·cases h
   ·cases h
  ·cases h
 ·rename_i t x y ho;split at h
  ·rename_i h1 vc hs;cases h;exact fX R hs hv.1 o ho
  ·cases h
 ·rename_i c ho;split at h
  ·rename_i hc;split at h
   ·rename_i x y ha;split at h
    ·rename_i t t' ht;split at h
     ·rename_i e;subst e;split at h
      ·rename_i d1 h1 vc bW;cases h;exact zDb R bW hv.1 o ho hc ha ht
      ·cases h
     ·cases h
    ·cases h
   ·cases h
  ·rename_i f hc;split at h
   ·rename_i g m cap d1 h1 ext1 rest hf;cases h;exact zC7 R o ho hc hf hv.1
   ·cases h
  ·cases h
 ·split at h
  ·rename_i hm;cases h;exact va R o hm hv
  ·cases h
theorem Kq (hF:Cw F P) {o:Oper} (hd: ∀ c,o.op≠.defer c) {G:Value -> World -> Prop} (h:Bb P (execOp a.eval o) w G) {K:Act -> World -> Prop} {Q:Exit -> Act -> World -> Prop} (hK: ∀ v w',G v w' -> K (a.put o.dst v) w'):o.wpIn F 0 P a w K Q:=by
 refine ⟨fun f _=>hF.fn f,?_⟩;rw [zEe _ _ _ hd];rcases h with ⟨v,w',h1,h2⟩ | ⟨w',h1,h2⟩ | ⟨f,args,w',h1,h2⟩
 ·rw [h1];exact hK v w' h2
 ·rw [h1];exact hK undef w' h2
 ·rw [h1];refine ⟨fun hx=>(by rw [hF.dep] at hx;cases hx),(hF.calls h2).mono ?_⟩;rintro e CI ⟨v,rfl,hG⟩;exact hK v CI hG
theorem dA (hF:Cw F P) (R:AS P Γ N S ρ a w) {ops:Array Oper} {Aa:BH} {o:Oper} (hd: ∀ c,o.op≠.defer c) {S':St} {vs:List Prop} {ext:Bool} {Bz:BH} (h:OU P Γ ops S Aa o=some (S',vs,ext,Bz)) (hv:Bc vs)
 {K:Act -> World -> Prop} {Q:Exit -> Act -> World -> Prop} (hK: ∀ ρ' a' w',AS P Γ N S' ρ' a' w' -> Ci S.h ρ w S'.h ρ' w' -> a'.defers=a.defers -> (ext=true -> Aq w w') -> K a' w'):
 if Region.wanted o (yielded ops a.tmps) then o.wpIn F 0 P a w K Q else (∀ f,o.about P w a.eval=some f -> F.fn f)/\ K (a.put o.dst undef) w:=by
 have CL: ∀ v,(a.put o.dst v).defers=a.defers:=fun v=>by cases ho:o.dst <;> simp [Act.put]
 unfold OU at h;split at h
 ·cases h
 ·rename_i hw;cases h;rw [zAU (by rw [He R hw];exact zE0)];exact ⟨fun f _=>hF.fn f,hK ρ _ _ (GZ R _ UZ) (Ci.refl _ _ _) (CL _) fun _=>Aq.refl w⟩
 ·rename_i hw;rw [zAE (He R hw)];split at h
  ·rename_i S1 CG fz1 hM;cases h;exact Kq hF hd (gZ R hM hv) fun v w' ⟨⟨ρ',g1,g2⟩,_⟩=>hK ρ' _ _ g1 g2 (CL v) fun e=>by cases e
  split at h
  ·rename_i S1 CG hM;cases h;exact Kq hF hd (fW R hM hv) fun v w' ⟨⟨ρ',g1,g2⟩,_⟩=>hK ρ' _ _ g1 g2 (CL v) fun e=>by cases e
  split at h
  ·cases h
  ·rename_i d h1 CG ext1 calls bX;split at h;rename_i d' Bj Cq N5;split at h
   ·cases h
   ·rename_i S2 Oh JZ GT;cases h;obtain ⟨B0,Sr⟩:=Cv.1 hv;obtain ⟨B7,IX⟩:=Cv.1 Sr;refine Kq hF hd (dW R bX B0) fun v w' G=>?_
    obtain ⟨ρ',g1,g2⟩:=OC R o.dst G (d':=d') fun M ρ' hr=>Xd N5 B7 hr
    obtain ⟨g3,g4⟩:=Wy _ GT IX P Γ N ρ' _ _ g1;exact hK ρ' _ _ g3 (g2.trans ⟨g4,fun _ _ h=>h⟩) (CL v) G.ext
theorem JY (hF:Cw F P) {ops:Array Oper} (Au:CP ops=true) {Q:Exit -> Act -> World -> Prop}: ∀ (l:List Oper) (_: ∀ o∈l,o∈ops) {S:St} {ρ:List AI} {a:Act} {w:World} {Aa:BH} {S':St} {vs:List Prop} {Bz:BH},
 AS P Γ N S ρ a w -> DX P Γ ops l S Aa=some (S',vs,Bz) -> Bc vs ->
 (∀ ρ' a' w',AS P Γ N S' ρ' a' w' -> Ci S.h ρ w S'.h ρ' w' -> a'.defers=a.defers -> Q .normal a' w') -> wpListIn F 0 P ops Q l a w
 | [],_,S,ρ,a,w,Aa,S',vs,Bz,R,h,_,hQ=>by
  cases h;exact hQ ρ a w R (Ci.refl _ _ _) rfl
 | o::rest,hl,S,ρ,a,w,Aa,S',vs,Bz,R,h,hv,hQ=>by
  have hd: ∀ c,o.op≠.defer c:=by
   obtain ⟨j,hj,e⟩:=Array.getElem_of_mem (hl o (by simp));exact Gg Au (j:=j) (by rw [zA0 hj,e])
  have Ew: ∀ o∈rest,o∈ops:=fun o ho=>hl o (by simp [ho])
  have CL: ∀ v,(a.put o.dst v).defers=a.defers:=fun v=>by cases ho:o.dst <;> simp [Act.put]
  simp only [DX] at h;unfold wpListIn;split at h
  ·split at h
   ·cases h
   ·rename_i S1 CG ext1 Ec h1;split at h
    ·cases h
    ·rename_i S2 Dq Fo h2;cases h;obtain ⟨B0,B7⟩:=Cv.1 hv;exact dA hF R hd h1 B0 fun ρ' a' w' R' st Ca _=>JY hF Au rest Ew R' h2 B7 fun ρ'' GX CI EX C4 Ia=>hQ ρ'' GX CI EX (st.trans C4) (Ia.trans Ca)
  ·split at h
   ·cases h
   ·rename_i S1 CG Jf h1;split at h
    ·cases h
    ·rename_i S2 Dq Fo h2;cases h;obtain ⟨B0,B7⟩:=Cv.1 hv;obtain ⟨e1,hs⟩:=Rf R h1 B0
     have go: ∀ v,AS P Γ N S1 ρ (a.put o.dst v) w -> wpListIn F 0 P ops Q rest (a.put o.dst v) w:=fun v R'=>
      JY hF Au rest Ew R' h2 B7 fun ρ'' GX CI EX C4 Ia=>hQ ρ'' GX CI EX (by rw [←e1];exact C4) (Ia.trans (CL v))
     rcases hs with ⟨hw,v,g1,g2⟩ | ⟨hw,g2⟩
     ·rw [zAE hw];refine ⟨fun f _=>hF.fn f,?_⟩;rw [zEe _ _ _ hd,g1 w (Keep.ofExt (Aq.refl w))];exact go v g2
     ·rw [zAU (by rw [hw];exact zE0)];exact ⟨fun f _=>hF.fn f,go undef g2⟩
theorem PA {ops:Array Oper}: ∀ (l:List Nat),∀ o∈CE ops l,o∈ops
 | [],o,h=>by simp [CE] at h
 | i::l,o,h=>by
  simp only [CE] at h;split at h
  ·rename_i o' ho;rcases zA3.1 h with rfl | h
   ·exact zEl ho
   ·exact PA l o h
  ·exact PA l o h
theorem nW (hF:Cw F P) (R:AS P Γ N S ρ a w) {hb:DH} {ops:Array Oper} {Aa:BH} {o:Oper} {S':St} {vs:List Prop} {Bz:BH} (h:cr P Γ hb ops S Aa o=some (S',vs,Bz)) (hv:Bc vs)
 {K:Act -> World -> Prop} {Q:Exit -> Act -> World -> Prop} (hK: ∀ ρ' a' w',AS P Γ N S' ρ' a' w' -> Ci S.h ρ w S'.h ρ' w' -> a'.defers=a.defers -> AP (fun b=>∃ i o p,hb.length<=i/\ S.h[i]? =some (some o)/\ ρ[i]? =some p/\ p.foot b) w w' -> K a' w'):
 Sb hb S.h=true/\ if Region.wanted o (yielded ops a.tmps) then o.wpIn F 0 P a w K Q else (∀ f,o.about P w a.eval=some f -> F.fn f)/\ K (a.put o.dst undef) w:=by
 have CL: ∀ v,(a.put o.dst v).defers=a.defers:=fun v=>by cases ho:o.dst <;> simp [Act.put]
 unfold cr at h;split at h
 case h_2=>cases h
 rename_i c ho;split at h
 case h_2=>cases h
 rename_i f hc;split at h
 case h_2=>cases h
 rename_i g m cap d h' rest hf hcalls;split at h
 case h_2=>cases h
 rename_i hw hk;split at h;rename_i d' Bj Cq N5;split at h
 case h_2=>cases h
 rename_i S1 Oh JZ GT;cases h;obtain ⟨B0,Sr⟩:=hv;obtain ⟨B7,IX⟩:=Cv.1 Sr;refine ⟨hk,?_⟩;rw [zAE (He R hw)];refine Kq hF (fun c e=>by rw [ho] at e;cases e) (nV R o ho hc hf B0.1 fun args ha=>B0.2 N ρ w args R.hr ha) fun v w' G=>?_
 obtain ⟨ρ',g1,g2⟩:=OC R o.dst G.1 (d':=d') fun M ρ' hr=>Xd N5 B7 hr
 obtain ⟨g3,g4⟩:=Wy _ GT IX P Γ N ρ' _ _ g1;exact hK ρ' _ _ g3 (g2.trans ⟨g4,fun _ _ h=>h⟩) (CL v) G.2
theorem vN {hb h:DH} {ρb ρ:List AI} {b w w':World} (HR:A0 P Γ N h ρ w) (hS:Ci hb ρb b h ρ w) (hE:Aq b w) (hk:Sb hb h=true) (hu:AP (fun x=>∃ i o p,hb.length<=i/\ h[i]? =some (some o)/\ ρ[i]? =some p/\ p.foot x) w w'):Aq b w':=by
 refine ((AP.ofExt (S:=fun x=>∃ i o p,hb.length<=i/\ h[i]? =some (some o)/\ ρ[i]? =some p/\ p.foot x) hE).comp hu fun _ _ h=>h).toExt ?_;rintro x hx ⟨i,o,p,h1,h2,h3,h4⟩;rcases hS.st.grow x ⟨i,o,p,h2,h3,h4⟩ with ⟨k,o',q,g1,g2,g3⟩ | Ln
 ·have D7:=(zAS.1 g1).1;have:=zAT.1 hk k (zAi.2 D7);rw [show (hb.getD k none).isSome=true by rw [u8,g1];rfl,zD7,zEa] at this;obtain ⟨o2,az⟩:=zFc.1 this;have az:h[k]? =some (some o2):=getD_some az;exact HR.dis i k o o2 p q x (by omega) h2 az h3 (hS.pl k q g2) h4 g3
 ·omega
theorem WT (hF:Cw F P) {ops:Array Oper} (Au:CP ops=true) {Q:Exit -> Act -> World -> Prop}: ∀ (CS:List (List Nat×Nat)) (BL tail:List Nat) {S:St} {ρ:List AI} {a:Act} {w:World} {Aa:BH} {S':St} {vs:List Prop} {Bz:BH} {hb:DH} {ρb:List AI} {b:World},
 (tail.all fun t=>decide (t<ops.size))=true -> AS P Γ N S ρ a w -> Ci hb ρb b S.h ρ w -> Aq b w -> Lo P Γ ops hb CS BL S Aa=some (S',vs,Bz) -> Bc vs ->
 (∀ ρ' a' w',AS P Γ N S' ρ' a' w' -> Ci S.h ρ w S'.h ρ' w' -> a'.defers=a.defers -> wpListIn F 0 P ops Q (CE ops tail) a' w') -> Nx F 0 P ops Q b CS BL tail a w
 | [],BL,tail,S,ρ,a,w,Aa,S',vs,Bz,hb,ρb,b,ht,R,_,_,h,hv,hQ=>by
  simp only [Lo] at h;split at h
  ·cases h
  ·rename_i S1 CG Jf h1;cases h;exact zAV ht (Rg _ R h1 hv fun a' e1 R' Ca=>hQ ρ a' w R' (by rw [←e1];exact Ci.refl _ _ _) Ca)
 | (Bh,i)::Ep,BL,tail,S,ρ,a,w,Aa,S',vs,Bz,hb,ρb,b,ht,R,hS,hE,h,hv,hQ=>by
  have DC: ∃ ρb',Ci (bh Bh hb S.h) ρb' (bw Bh b w) S.h ρ w/\ Aq (bw Bh b w) w:=by
   cases Bh with
   | nil=>exact ⟨ρb,hS,hE⟩
   | cons s0 ss=>exact ⟨ρ,Ci.refl _ _ _,Aq.refl w⟩
  obtain ⟨ρb',L4,mC⟩:=DC;simp only [Lo] at h;split at h
  ·cases h
  ·rename_i S1 CG Jf h1;split at h
   ·cases h
   ·rename_i o ho;split at h
    ·rename_i S2 Dq Fo h2;split at h
     ·cases h
     ·rename_i S3 Og KC h3;cases h;obtain ⟨B0,EF⟩:=Cv.1 hv;obtain ⟨B7,IX⟩:=Cv.1 EF
      show wpQuiet _ _ _ _ _ _
      refine Rg _ R h1 B0 fun a' e1 R' Ca=>?_
      unfold wpOpIn;simp only [ho];have hk:Sb (bh Bh hb S.h) S1.h=true:=(nW (K:=fun _ _=>True) (Q:=fun _ _ _=>True) hF R' h2 B7 fun _ _ _ _ _ _ _=>trivial).1;refine (nW hF R' h2 B7 fun ρ'' GX CI EX C4 Ia hu=>?_).2;rw [e1] at C4 hk;have hx:Aq (bw Bh b w) CI:=vN R.hr L4 mC hk (by rw [e1] at hu;exact hu);exact ⟨hx,WT hF Au Ep BL tail ht EX (L4.trans C4) hx h3 IX fun ρ3 a3 w3 R3 FW bO=>hQ ρ3 a3 w3 R3 (C4.trans FW) (bO.trans (Ia.trans Ca))⟩
    ·split at h
     ·cases h
     ·rename_i S2 Dq ext Fo h2;split at h
      ·cases h
      ·split at h
       ·cases h
       ·rename_i S3 Og KC h3;cases h;obtain ⟨B0,EF⟩:=Cv.1 hv;obtain ⟨B7,IX⟩:=Cv.1 EF
        show wpQuiet _ _ _ _ _ _
        refine Rg _ R h1 B0 fun a' e1 R' Ca=>?_
        unfold wpOpIn;simp only [ho];refine dA hF R' (Gg Au ho) h2 B7 fun ρ'' GX CI EX C4 Ia JR=>?_
        rw [e1] at C4;have hx:Aq (bw Bh b w) CI:=mC.trans (JR rfl);exact ⟨hx,WT hF Au Ep BL tail ht EX (L4.trans C4) hx h3 IX fun ρ3 a3 w3 R3 FW bO=>hQ ρ3 a3 w3 R3 (C4.trans FW) (bO.trans (Ia.trans Ca))⟩
theorem yJ (hF:Cw F P) {ops:Array Oper} (Au:CP ops=true) {Q:Exit -> Act -> World -> Prop} (CS:List (List Nat×Nat)) (BL tail:List Nat) {S:St} {ρ:List AI} {a:Act} {w:World} {Aa:BH} {S':St} {vs:List Prop} {Bz:BH} {hb:DH} {ρb:List AI} {b:World}
 (ht:(tail.all fun t=>decide (t<ops.size))=true) (R:AS P Γ N S ρ a w) (h1:Ci hb ρb b S.h ρ w) (h2:Aq b w) (h:hseq P Γ ops hb CS BL tail S Aa=some (S',vs,Bz)) (hv:Bc vs)
 (hQ: ∀ ρ' a' w',AS P Γ N S' ρ' a' w' -> Ci S.h ρ w S'.h ρ' w' -> a'.defers=a.defers -> Q .normal a' w'):Nx F 0 P ops Q b CS BL tail a w:=by
 unfold hseq at h;split at h
 ·cases h
 rename_i S1 CG Ec g1;split at h
 ·cases h
 rename_i S2 Dq Fo g2;cases h;obtain ⟨B0,B7⟩:=Cv.1 hv;exact WT hF Au CS BL tail ht R h1 h2 g1 B0 fun ρ1 a1 w1 R1 DG HP=>JY hF Au _ (PA tail) R1 g2 B7 fun ρ2 a2 w2 R2 Iw TE=>hQ ρ2 a2 w2 R2 (DG.trans Iw) (TE.trans HP)
end
end Go.Proofs.YtkjbblkieglmlaaGreatDoor
namespace Go.Proofs.YtkjbblkieglmlaaGreatDoor
abbrev zEj:=@Nat.zero_le
abbrev zFe:=@Go.wpIn_seq
end Go.Proofs.YtkjbblkieglmlaaGreatDoor
namespace Go.Proofs.YtkjbblkieglmlaaGreatDoor
open Go.RowKit
def B8 (L:Nat) (ρ ρ':List AI):Prop:=∀ (k:Nat) (p:AI),k<L -> ρ[k]? =some p -> ρ'[k]? =some p
theorem B8.refl (L:Nat) (ρ:List AI):B8 L ρ ρ:=fun _ _ _ h=>h
theorem B8.trans {L:Nat} {a b c:List AI} (h:B8 L a b) (k:B8 L b c):B8 L a c:=fun i p hi hp=>k i p hi (h i p hi hp)
structure Bd (F:Fence) (B:Option Nat) (w:World):Prop where
 le: ∀ b,B=some b -> b<=w.heap.size
 rd: ∀ l,F.round=some l -> ∃ r,w.heap[l]? =some (.loop r)
theorem Bd.step {P:Program} {Γ:Ar} {N:Nat -> Prop} {h h':DH} {ρ ρ':List AI} {F:Fence} {B:Option Nat} {w w':World} (b:Bd F B w) (H:A0 P Γ N h ρ w) (st:A6 h ρ w h' ρ' w'):Bd F B w':=
 ⟨fun x e=>zAt (b.le x e) st.upd.size,fun l hl=>by
  obtain ⟨r,hr⟩:=b.rd l hl;refine ⟨r,(st.upd.block l (zAK.1 hr).1 ?_).trans hr⟩;rintro ⟨k,o,p,h1,h2,h3⟩;obtain ⟨_,_,c,t,z,h4⟩:=H.cel k o p l h1 h2 h3;rw [hr] at h4;cases h4;cases t⟩
theorem Bd.wide {B:Nat} {w:World} (h:B<=w.heap.size):Bd Fence.wide (some B) w:=⟨fun b e=>by cases e;exact h,fun l hl=>by cases hl⟩
theorem Bd.none {w:World}:Bd Fence.wide none w:=⟨fun b e=>(by cases e),fun l hl=>by cases hl⟩
def Ky:Option Nat -> List Deferred -> World -> Prop
 | none,ds,_=>ds= []
 | some B,ds,w=>EZ B ds w
structure BQ (P:Program) (Γ:Ar) (L:Nat) where
 I:(Nat -> Prop) -> DH -> List AI -> World -> Prop
 st: ∀ {N:Nat -> Prop} {h:DH} {ρ:List AI} {w:World} {h':DH} {ρ':List AI} {w':World},I N h ρ w -> A0 P Γ N h ρ w -> A0 P Γ N h' ρ' w' -> A6 h ρ w h' ρ' w' -> B8 L ρ ρ' -> I N h' ρ' w'
def Ot (P:Program) (Γ:Ar) (L:Nat) (N0:Nat -> Prop) (h0:DH) (ρ0:List AI) (w0:World):BQ P Γ L where
 I:=fun N h ρ w=>N=N0/\ A6 h0 ρ0 w0 h ρ w/\ B8 L ρ0 ρ
 st:=fun ⟨e,s,k⟩ _ _ st k'=>⟨e,s.trans st,k.trans k'⟩
abbrev QY (P:Program) (Γ:Ar) (L:Nat):=Exit -> St -> BQ P Γ L -> Prop
def QE {P:Program} {Γ:Ar} {L:Nat} (Q:QY P Γ L):Exit -> St -> BQ P Γ L -> Prop
 | .outgrown,_,_=>False
 | e,S,Y=>Q e S Y
def Tr (P:Program) (Γ:Ar) (F:Fence) (B:Option Nat) (L:Nat) (Y:BQ P Γ L) (c:Code) (S:St) (Q:QY P Γ L):Prop:=
 ∀ N ρ a w,AS P Γ N S ρ a w -> Y.I N S.h ρ w -> Ky B a.defers w -> Bd F B w ->
  c.wpIn F 0 P (fun e a' w'=>∃ S' ρ' N' Y',QE Q e S' Y'/\ AS P Γ N' S' ρ' a' w'/\ Y'.I N' S'.h ρ' w'/\ Ky B a'.defers w'/\ Bd F B w') a w
def Az (L:Nat) (S S':St):Prop:=∀ P Γ N ρ a w,AS P Γ N S ρ a w -> ∃ ρ',AS P Γ N S' ρ' a w/\ A6 S.h ρ w S'.h ρ' w/\ B8 L ρ ρ'
theorem Az.refl (L:Nat) (S:St):Az L S S:=fun _ _ _ ρ _ _ R=>⟨ρ,R,A6.refl _ _ _,B8.refl _ _⟩
theorem Az.trans {L:Nat} {A B C:St} (h:Az L A B) (k:Az L B C):Az L A C:=fun P Γ N ρ a w R=>by
 obtain ⟨ρ1,R1,s1,k1⟩:=h P Γ N ρ a w R;obtain ⟨ρ2,R2,s2,k2⟩:=k P Γ N ρ1 a w R1;exact ⟨ρ2,R2,s1.trans s2,k1.trans k2⟩
section
variable {P:Program} {Γ:Ar} {N:Nat -> Prop} {S:St} {F:Fence} {B:Option Nat} {L:Nat} {Y:BQ P Γ L} {Q Q':QY P Γ L}
theorem QE.mono (h: ∀ e S Y,Q e S Y -> Q' e S Y) {e:Exit} {S:St} (hq:QE Q e S Y):QE Q' e S Y:=by
 cases e <;> first | exact hq | exact h _ _ _ hq
theorem Tr.mono {c:Code} (h:Tr P Γ F B L Y c S Q) (hq: ∀ e S Y,Q e S Y -> Q' e S Y):Tr P Γ F B L Y c S Q':=fun N ρ a w R y m b=>
 zEm (h N ρ a w R y m b) fun _ _ _ ⟨S',ρ',N',Y',h1,h2⟩=>⟨S',ρ',N',Y',h1.mono hq,h2⟩
theorem Tr.weaken {c:Code} {S':St} (hS:Az L S S') (h:Tr P Γ F B L Y c S' Q):Tr P Γ F B L Y c S Q:=fun N ρ a w R y m b=>by
 obtain ⟨ρ1,R1,s1,k1⟩:=hS P Γ N ρ a w R;exact h N ρ1 a w R1 (Y.st y R.hr R1.hr s1 k1) m b
theorem SK {ρ ρ':List AI} {h':DH} {ds:List Deferred} {w w':World} (H:A0 P Γ N S.h ρ w) (st:A6 S.h ρ w h' ρ' w') (m:Ky B ds w):Ky B ds w':=by
 cases B with
 | none=>exact m
 | some B=>
 refine EZ.upd st.upd m fun k _ hk e=>?_
 obtain ⟨i,o,p,h1,h2,h3⟩:=hk;obtain ⟨_,_,c,t,z,h4⟩:=H.cel i o p k h1 h2 h3;rw [h4] at e;cases e;cases t
theorem Tr.skip (h:Q .normal S Y):Tr P Γ F B L Y .skip S Q:=fun N ρ _ _ R y m b=>wpIn_skip ⟨S,ρ,N,Y,h,R,y,m,b⟩
theorem Tr.ret (h:Q .ret S Y):Tr P Γ F B L Y .ret S Q:=fun N ρ _ _ R y m b=>wpIn_ret ⟨S,ρ,N,Y,h,R,y,m,b⟩
theorem Tr.exit {id:Nat} (h:Q (.exit id) S Y):Tr P Γ F B L Y (.exit id) S Q:=fun N ρ _ _ R y m b=>wpIn_exit ⟨S,ρ,N,Y,h,R,y,m,b⟩
def Qh (K:St -> BQ P Γ L -> Prop) (Q:QY P Γ L):QY P Γ L
 | .normal,S,Y=>K S Y
 | e,S,Y=>Q e S Y
theorem Tr.seq {x y:Code} (h:Tr P Γ F B L Y x S (Qh (fun S' Y'=>Tr P Γ F B L Y' y S' Q) Q)):Tr P Γ F B L Y (.seq x y) S Q:=fun N ρ a w R y m b=>by
 refine zFe (zEm (h N ρ a w R y m b) ?_);rintro e a' w' ⟨S',ρ',N',Y',h1,h2,h3,h4,h5⟩;cases e with
 | normal=>exact h1 N' ρ' a' w' h2 h3 h4 h5
 | ret=>exact ⟨S',ρ',N',Y',h1,h2,h3,h4,h5⟩
 | exit id=>exact ⟨S',ρ',N',Y',h1,h2,h3,h4,h5⟩
 | goto t=>exact ⟨S',ρ',N',Y',h1,h2,h3,h4,h5⟩
 | panic c=>exact ⟨S',ρ',N',Y',h1,h2,h3,h4,h5⟩
 | outgrown=>exact h1.elim
theorem Tr.cond {c:Operand} {x y:Code} {b:Bool} (hc:AY S.fr c= .bool b) (h1:b=true -> Tr P Γ F B L Y x S Q) (h2:b=false -> Tr P Γ F B L Y y S Q):Tr P Γ F B L Y (.cond c x y) S Q:=fun N ρ a w R y m bb=>by
 have hr:=Bg R c;rw [hc] at hr;refine wpIn_cond (t:=b) hr ?_;cases b
 ·exact h2 rfl N ρ a w R y m bb
 ·exact h1 rfl N ρ a w R y m bb
theorem oY {F:Fence} {n:Nat} {P:Program} {Q:Exit -> Act -> World -> Prop} {a:Act} {w:World} {c:Code} (h:c.wpIn F n P (Exit.noGoto Q) a w):(Code.scope c).wpIn F n P Q a w:=by
 intro b k cs yL hb hr;have h0:(lone (b.atR a (.code (.scope c)::k)) cs w).fenced P F:=fenced_calm hb hr rfl;have s0:step P (lone (b.atR a (.code (.scope c)::k)) cs w)= .next (lone (b.atR a (.code c:: .inScope c::k)) cs w):=step_lone_go (by simp [stepG,stepG.exec,Frame.atR]);obtain ⟨e,a₁,w₁,hq,Po⟩:=h b (.inScope c::k) cs yL hb hr;have s1:step P (lone (b.atR a₁ (.inScope c::k)) cs w₁)= .next (lone (b.atR a₁ k) cs w₁):=step_lone_go (by simp [stepG,stepG.exec,Frame.atR]);cases e with
 | normal=>exact ⟨.normal,a₁,w₁,hq,.head h0 s0 (StepsIn.trans Po (.one (fenced_calm hb hr rfl) s1))⟩
 | exit id=>exact ⟨.exit id,a₁,w₁,hq,fun k' hk=>.head h0 s0 (Po.1 k' hk),fun Cs hk=>let ⟨k₁,h1,h2⟩:=Po.2 Cs hk;⟨k₁,h1,.head h0 s0 h2⟩⟩
 | goto l=>exact hq.elim
 | ret=>exact ⟨_,a₁,w₁,hq,.of_steps (.one h0 s0) Po⟩
 | panic ch=>exact ⟨_,a₁,w₁,hq,.of_steps (.one h0 s0) Po⟩
 | outgrown=>exact ⟨_,a₁,w₁,hq,.of_steps (.one h0 s0) Po⟩
def vJ (Q:QY P Γ L):QY P Γ L
 | .goto _,_,_=>False
 | e,S,Y=>Q e S Y
theorem Tr.scope {c:Code} (h:Tr P Γ F B L Y c S (vJ Q)):Tr P Γ F B L Y (.scope c) S Q:=fun N ρ a w R y m b=>by
 refine oY (zEm (h N ρ a w R y m b) ?_);rintro e a' w' ⟨S',ρ',N',Y',h1,h2⟩;cases e with
 | goto l=>exact h1.elim
 | _=>exact ⟨S',ρ',N',Y',h1,h2⟩
theorem Tr.label {l:Nat} (h:Q .normal S Y):Tr P Γ F B L Y (.label l) S Q:=fun N ρ a w R y m b=>wpIn_label ⟨S,ρ,N,Y,h,R,y,m,b⟩
def zDE (id:Nat) (Q:QY P Γ L):QY P Γ L
 | .exit i,S,Y=>if i=id then Q .normal S Y else Q (.exit i) S Y
 | e,S,Y=>Q e S Y
theorem Tr.block {id:Nat} {c:Code} (h:Tr P Γ F B L Y c S (zDE id Q)):Tr P Γ F B L Y (.block id c) S Q:=fun N ρ a w R y m b=>by
 refine wpIn_block (zEm (h N ρ a w R y m b) ?_);rintro e a' w' ⟨S',ρ',N',Y',h1,h2⟩;cases e with
 | exit i=>
  show if i=id then _ else _
  by_cases e:i=id
  ·rw [zAE e];have h1:(if i=id then Q .normal S' Y' else Q (.exit i) S' Y'):=h1;rw [zAE e] at h1;exact ⟨S',ρ',N',Y',h1,h2⟩
  ·rw [zAU e];have h1:(if i=id then Q .normal S' Y' else Q (.exit i) S' Y'):=h1;rw [zAU e] at h1;exact ⟨S',ρ',N',Y',h1,h2⟩
 | normal=>exact ⟨S',ρ',N',Y',h1,h2⟩
 | ret=>exact ⟨S',ρ',N',Y',h1,h2⟩
 | goto t=>exact ⟨S',ρ',N',Y',h1,h2⟩
 | panic c=>exact ⟨S',ρ',N',Y',h1,h2⟩
 | outgrown=>exact h1.elim
theorem Tr.loop {c:Code} (I:Nat -> St -> BQ P Γ L -> Prop) (n:Nat) (h0:I n S Y) (h: ∀ n S Y,I n S Y -> Tr P Γ F B L Y c S (Qh (fun S' Y'=>∃ n',n'<n/\ I n' S' Y') Q)):Tr P Γ F B L Y (.loop c) S Q:=fun N ρ a w R y m b=>by
 refine wpIn_loop_ghost (fun k a' w'=>∃ S' ρ' N' Y',I k S' Y'/\ AS P Γ N' S' ρ' a' w'/\ Y'.I N' S'.h ρ' w'/\ Ky B a'.defers w'/\ Bd F B w') n ⟨S,ρ,N,Y,h0,R,y,m,b⟩ ?_;rintro k a' w' ⟨S',ρ',N',Y',h1,h2,h3,h4,h5⟩;refine zEm (h k S' Y' h1 N' ρ' a' w' h2 h3 h4 h5) ?_;rintro e a2 w2 ⟨S2,ρ2,N2,Y2,g1,g2,g3,g4,g5⟩;cases e with
 | normal=>
  obtain ⟨n',AO,hI⟩:=g1;exact ⟨n',AO,S2,ρ2,N2,Y2,hI,g2,g3,g4,g5⟩
 | ret=>exact ⟨S2,ρ2,N2,Y2,g1,g2,g3,g4,g5⟩
 | exit id=>exact ⟨S2,ρ2,N2,Y2,g1,g2,g3,g4,g5⟩
 | goto t=>exact ⟨S2,ρ2,N2,Y2,g1,g2,g3,g4,g5⟩
 | panic c=>exact ⟨S2,ρ2,N2,Y2,g1,g2,g3,g4,g5⟩
 | outgrown=>exact g1.elim
theorem AS.ext {ρ:List AI} {a:Act} {w w':World} (R:AS P Γ N S ρ a w) (hE:Aq w w'):AS P Γ N S ρ a w':=⟨R.hr.ext hE,R.fr.out (BU.ext ρ hE)⟩
theorem Tr.done {S':St} {e:Exit} {ρ ρ':List AI} {a a':Act} {w w':World} (R:AS P Γ N S ρ a w) (y:Y.I N S.h ρ w) (m:Ky B a.defers w) (b:Bd F B w) (hk:QE Q e S' Y) (R':AS P Γ N S' ρ' a' w') (st:A6 S.h ρ w S'.h ρ' w') (S5:B8 L ρ ρ') (Ca:a'.defers=a.defers):
 ∃ S' ρ' N' Y',QE Q e S' Y'/\ AS P Γ N' S' ρ' a' w'/\ Y'.I N' S'.h ρ' w'/\ Ky B a'.defers w'/\ Bd F B w':=
 ⟨S',ρ',N,Y,hk,R',Y.st y R.hr R'.hr st S5,by rw [Ca];exact SK R.hr st m,b.step R.hr st⟩
theorem Az.fr {fr Gp:List DV} {h:DH} (hl:Gp.length=fr.length) (hd: ∀ i,i<fr.length -> AR (fr.getD i .any) (Gp.getD i .any)):Az L ⟨fr,h⟩ ⟨Gp,h⟩:=fun P Γ N ρ a w R=>
 ⟨ρ,⟨R.hr,⟨by rw [hl];exact R.fr.1,fun i hi=>hd i (by rw [←hl];exact hi) _ _ _ _ (R.fr.2 i (by rw [←hl];exact hi))⟩⟩,A6.refl _ _ _,B8.refl _ _⟩
theorem AR.refl (d:DV):AR d d:=fun _ _ _ _ h=>h
theorem AR.any (d:DV):AR d .any:=fun _ _ _ _ _=>trivial
theorem AR.int {k:IntKind} {a b:Int} (h:a=b):AR (.int k a) (.int k b):=by rw [h];exact AR.refl _
theorem AR.bool {a b:Bool} (h:a=b):AR (.bool a) (.bool b):=by rw [h];exact AR.refl _
theorem AR.ints_nil:AR .nils (.ints []):=fun M w ρ v h=>⟨none,0,h,zAp _,zEj _,fun j hj=>absurd hj (zAo j)⟩
theorem AR.sl_nil (m:Nat) (f:Nat -> Nat -> DV):AR .nils (.sl m 0 f):=fun M w ρ v h=>⟨none,0,h,zAp _,zEj _,fun i j hi=>absurd hi (zAo i)⟩
def forget (live:List Nat) (fr:List DV):List DV:=(fr.zipIdx).map fun x=>if live.contains x.2 then x.1 else .any
theorem TU (live:List Nat) (fr:List DV):(forget live fr).length=fr.length:=by simp [forget]
theorem cD (live:List Nat) (fr:List DV) {i:Nat} (hi:i<fr.length):(forget live fr).getD i .any=if live.contains i then fr.getD i .any else .any:=by
 simp [forget,hi]
theorem Az.forget (live:List Nat) (fr:List DV) (h:DH):Az L ⟨fr,h⟩ ⟨forget live fr,h⟩:=Az.fr (TU _ _) fun i hi=>by
 rw [cD live fr hi];split
 ·exact AR.refl _
 ·exact AR.any _
def D0:List Nat -> Nat -> Option Nat
 | [],_=>none
 | x::σ,k=>if x=k then some 0 else (D0 σ k).map (· +1)
def EP (σ:List Nat):DV -> DV
 | .ref k j=>match D0 σ k with
  | some k'=>.ref k' j
  | none=>.any
 | .mse k m off n=>match D0 σ k with
  | some k'=>.mse k' m off n
  | none=>.any
 | .mri k i=>match D0 σ k with
  | some k'=>.mri k' i
  | none=>.any
 | .msl k m off n=>match D0 σ k with
  | some k'=>.msl k' m off n
  | none=>.any
 | .mp k m i j=>match D0 σ k with
  | some k'=>.mp k' m i j
  | none=>.any
 | .it k=>match D0 σ k with
  | some k'=>.it k'
  | none=>.any
 | .agg m f=>.agg m fun j=>((List.range m).map fun i=>EP σ (f i)).getD j .any
 | .tup m f=>.tup m fun j=>((List.range m).map fun i=>EP σ (f i)).getD j .any
 | .fn g m c=>.fn g m fun j=>((List.range m).map fun i=>EP σ (c i)).getD j .any
 | d=>d
def Rb (σ:List Nat):Option DO -> Option DO
 | some (.cells l)=>some (.cells (l.map (EP σ)))
 | some (.ro l)=>some (.ro (l.map (EP σ)))
 | o=>o
def E2 (σ:List Nat) (S:St):St:=⟨S.fr.map (EP σ),σ.map fun k=>Rb σ (S.h.getD k none)⟩
theorem J5: ∀ {σ:List Nat} {k k':Nat},D0 σ k=some k' -> σ[k']? =some k
 | [],_,_,h=>by cases h
 | x::σ,k,k',h=>by
  unfold D0 at h;split at h
  ·rename_i e;cases h;subst e;rfl
  ·cases hr:D0 σ k with
   | none=>rw [hr] at h;cases h
   | some i=>
    rw [hr] at h;have e:k'=i+1:=(zAR h).symm;subst e;have:=J5 hr;simpa using this
theorem tz {f:Nat -> DV} {m j:Nat} (hj:j<m):((List.range m).map f).getD j .any=f j:=by simp [hj]
theorem ZH {M:Nat -> Prop} {w:World} {ρ:List AI} {f:Nat -> DV} {m j:Nat} {u:Value} (hj:j<m) (h:AM M w (f j) ρ u):AM M w (((List.range m).map f).getD j .any) ρ u:=by rw [tz hj];exact h
theorem tR {M M':Nat -> Prop} {w:World} {σ:List Nat} {ρ ρ':List AI} (hM: ∀ b,M' b -> M b) (hρ: ∀ (k k':Nat) (p:AI),σ[k']? =some k -> ρ[k]? =some p -> ρ'[k']? =some p): ∀ (d:DV) {v:Value},AM M w d ρ v -> AM M' w (EP σ d) ρ' v:=by
 have low: ∀ (d:DV) {v:Value},AM M w d [] v -> AM M' w d [] v:=fun d v h=>h.out d ⟨fun _ _ _ _=>rfl,fun b hb=>.inl (hM b hb),fun k p hk=>by simp at hk⟩
 intro d
 induction d with
 | any=>intro v _;trivial
 | nils=>intro v h;exact h
 | int k n=>intro v h;exact h
 | bool b=>intro v h;exact h
 | str s=>intro v h;exact h
 | ints l=>intro v h;exact low (.ints l) h
 | bools l=>intro v h;exact low (.bools l) h
 | sl m n f _=>intro v h;exact low (.sl m n f) h
 | fp m f _=>intro v h;exact low (.fp m f) h
 | agg m f ih=>
  rintro v ⟨cs,e,hs,h⟩;exact ⟨cs,e,hs,fun j hj=>let ⟨u,h1,h2⟩:=h j hj;⟨u,h1,ZH hj (ih j h2)⟩⟩
 | tup m f ih=>
  rintro v ⟨cs,e,hs,h⟩;exact ⟨cs,e,hs,fun j hj=>let ⟨u,h1,h2⟩:=h j hj;⟨u,h1,ZH hj (ih j h2)⟩⟩
 | fn g m c ih=>
  rintro v ⟨cs,e,hs,h⟩;exact ⟨cs,e,hs,fun j hj=>let ⟨u,h1,h2⟩:=h j hj;⟨u,h1,ZH hj (ih j h2)⟩⟩
 | ref k j=>
  rintro v ⟨p,hp,e⟩;simp only [EP];cases hk:D0 σ k with
  | none=>trivial
  | some k'=>exact ⟨p,hρ k k' p (J5 hk) hp,e⟩
 | msl k m off n=>
  rintro v ⟨p,cap,hp,r⟩;simp only [EP];cases hk:D0 σ k with
  | none=>trivial
  | some k'=>exact ⟨p,cap,hρ k k' p (J5 hk) hp,r⟩
 | mp k m i j=>
  rintro v ⟨p,hp,e⟩;simp only [EP];cases hk:D0 σ k with
  | none=>trivial
  | some k'=>exact ⟨p,hρ k k' p (J5 hk) hp,e⟩
 | yl l=>intro v h;exact h
 | cst u=>intro v h;exact h
 | mse k m off n=>
  rintro v ⟨p,a,cap,hp,r⟩;simp only [EP];cases hk:D0 σ k with
  | none=>trivial
  | some k'=>exact ⟨p,a,cap,hρ k k' p (J5 hk) hp,r⟩
 | mri k i=>
  rintro v ⟨p,vs,hp,r⟩;simp only [EP];cases hk:D0 σ k with
  | none=>trivial
  | some k'=>exact ⟨p,vs,hρ k k' p (J5 hk) hp,r⟩
 | it k=>
  rintro v ⟨p,hp,e⟩;simp only [EP];cases hk:D0 σ k with
  | none=>trivial
  | some k'=>exact ⟨p,hρ k k' p (J5 hk) hp,e⟩
def jN:AI:=⟨0,0,0,undef,fun _=>False⟩
theorem Az.compact (σ:List Nat) (S:St) (h1:σ.Nodup) (h2: ∀ k∈σ,k<S.h.length) (h3: ∀ k,k<L -> σ[k]? =some k):Az L S (E2 σ S):=fun P Γ N ρ a w R=>by
 obtain ⟨ρ',KT⟩: ∃ ρ',ρ'=σ.map fun k=>ρ.getD k jN:=⟨_,rfl⟩
 have Id: ∀ {k':Nat} {p:AI},ρ'[k']? =some p -> ∃ k,σ[k']? =some k/\ ρ[k]? =some p:=fun {k' p} h=>by
  rw [KT,zA1] at h;cases hk:σ[k']? with
  | none=>rw [hk] at h;cases h
  | some k=>
   rw [hk] at h;have AO:k<ρ.length:=by rw [R.hr.len];exact h2 k (zDy hk)
   refine ⟨k,rfl,?_⟩;simp [AO] at h;simp [AO,h]
 have put: ∀ (k k':Nat) (p:AI),σ[k']? =some k -> ρ[k]? =some p -> ρ'[k']? =some p:=fun k k' p hk hp=>by
  rw [KT,zA1,hk];simp [u8,hp]
 have GS: ∀ {k':Nat} {o':DO},(E2 σ S).h[k']? =some (some o') -> ∃ k o,σ[k']? =some k/\ S.h[k]? =some (some o)/\ Rb σ (some o)=some o':=fun {k' o'} h=>by
  show ∃ k o,_
  have h:(σ.map fun k=>Rb σ (S.h.getD k none))[k']? =some (some o'):=h;rw [zA1] at h;cases hk:σ[k']? with
  | none=>rw [hk] at h;cases h
  | some k=>
   rw [hk] at h;have AO:k<S.h.length:=h2 k (zDy hk);have h:Rb σ (S.h.getD k none)=some o':=zAR h;have e:S.h.getD k none=S.h[k]:=by simp [AO]
   rw [e] at h;cases ho:S.h[k] with
   | none=>rw [ho] at h;cases h
   | some o=>rw [ho] at h;exact ⟨k,o,rfl,by simp [AO,ho],h⟩
 have hM: ∀ b,MO (E2 σ S).h ρ' b -> MO S.h ρ b:=by
  rintro b ⟨k',o',p,g1,g2,g3⟩;obtain ⟨k,o,e1,e2,_⟩:=GS g1;obtain ⟨k2,e3,e4⟩:=Id g2;have:k2=k:=zAR (e3.symm.trans e1);subst this;exact ⟨k2,o,p,e2,e4,g3⟩
 have Wn: ∀ b,MS N (E2 σ S).h ρ' b -> MS N S.h ρ b:=fun b hb=>hb.imp id (hM b)
 have O:BU (MS N S.h ρ) w [] (MS N (E2 σ S).h ρ') w []:=⟨fun _ _ _ _=>rfl,fun b hb=>.inl (Wn b hb),fun k p hk=>by simp at hk⟩;have low: ∀ (d:DV) {v:Value},AM (MS N S.h ρ) w d ρ v -> AM (MS N (E2 σ S).h ρ') w (EP σ d) ρ' v:=fun d v h=>tR Wn put d h
 refine ⟨ρ',⟨⟨by simp [KT,E2],fun k' o' CZ=>?_,fun k' o' p b g1 g2 g3=>?_,fun i i' o1 o2 p1 p2 b Am g1 g2 g3 g4 g5 g6=>?_,R.hr.nlt,R.hr.gi⟩,⟨by simp [E2,R.fr.1],fun i hi=>?_⟩⟩,⟨AP.refl _ w,fun b hb=>.inl (hM b hb)⟩,fun k p hk hp=>put k k p (h3 k hk) hp⟩
 ·obtain ⟨k,o,e1,e2,e3⟩:=GS CZ;obtain ⟨p,hp,hr⟩:=R.hr.obj k o e2;refine ⟨p,put k k' p e1 hp,?_⟩;cases o with
  | cells l=>
   cases e3
   show AX w p (l.map (EP σ)).length _
   rw [zAq];refine AX.out hr rfl fun j u hj hu=>?_
   have:(l.map (EP σ)).getD j .any=EP σ (l.getD j .any):=by simp [hj]
   rw [this];exact low _ hu
  | ints l=>cases e3;exact AX.out hr rfl fun j u _ hu=>hu
  | bools l=>cases e3;exact AX.out hr rfl fun j u _ hu=>hu
  | arr m n f=>cases e3;exact AX.out hr rfl fun j u _ hu=>AM.out _ O hu
  | iter encs=>
   cases e3;obtain ⟨gf,lb,Rd,q1,q2,q3,q4⟩:=hr;exact ⟨gf,lb,Rd,q1,q2,fun b hb=>⟨fun hm=>(q3 b hb).1 (Wn b hm),(q3 b hb).2⟩,q4⟩
  | ro l=>
   cases e3;obtain ⟨r1,r2,r3⟩:=hr;refine ⟨r1,fun hm=>r2 (Wn _ hm),?_⟩
   show AX w _ (l.map (EP σ)).length _
   rw [zAq];refine AX.out r3 rfl fun j u hj hu=>?_
   have:(l.map (EP σ)).getD j .any=(EP σ) (l.getD j .any):=by simp [hj]
   rw [this];exact low _ hu
  | mo x=>cases e3;exact hr
 ·obtain ⟨k,o,e1,e2,_⟩:=GS g1;obtain ⟨k2,e3,e4⟩:=Id g2;have:k2=k:=zAR (e3.symm.trans e1);subst this;exact R.hr.cel k2 o p b e2 e4 g3
 ·obtain ⟨k,o,e1,e2,_⟩:=GS g1;obtain ⟨k2,o2,e3,e4,_⟩:=GS g2;obtain ⟨k3,e5,e6⟩:=Id g3;obtain ⟨k4,e7,e8⟩:=Id g4;have:k3=k:=zAR (e5.symm.trans e1);subst this;have:k4=k2:=zAR (e7.symm.trans e3);subst this;refine R.hr.dis k3 k4 o o2 p1 p2 b (fun e=>Am ?_) e2 e4 e6 e8 g5 g6;subst e;exact (List.getElem?_inj (zAS.1 e5).1 h1).1 (e5.trans e7.symm)
 ·have BV:i<S.fr.length:=by simpa [E2] using hi
  have:(E2 σ S).fr.getD i .any=EP σ (S.fr.getD i .any):=by simp [E2,BV]
  rw [this];exact low _ (R.fr.2 i BV)
end
end Go.Proofs.YtkjbblkieglmlaaGreatDoor
namespace Go.Proofs.YtkjbblkieglmlaaGreatDoor
open Go.RowKit
def iN (P:Program) (S:St):ResultVar -> Option DV
 | .tmp t=>some (S.fr.getD t .any)
 | .cell x t=>match S.fr.getD x .any with
  | .ref k j=>match NV P S t (.ref k j) with
   | some (d,_)=>some d
   | none=>none
  | _=>none
def LW (P:Program) (S:St):List ResultVar -> Option (List DV)
 | []=>some []
 | r::rs=>match iN P S r with
  | some d=>match LW P S rs with
   | some ds=>some (d::ds)
   | none=>none
  | none=>none
def G9:List DV -> DV
 | [d]=>d
 | ds=>.tup ds.length fun j=>ds.getD j .any
section
variable {P:Program} {Γ:Ar} {N:Nat -> Prop} {S:St} {ρ:List AI} {a:Act} {w:World}
theorem vo {t:TypeId} {k j:Nat} {d:DV} {vc:Prop} (h:NV P S t (.ref k j)=some (d,vc)):vc:=by
 unfold NV at h
 repeat' (split at h)
 all_goals first | (cases h;trivial) | (cases h;done) | (simp_all;done)
def VI (tmps:Array Value):ResultVar -> Sem Value
 | .tmp t=>pure (tmps.getD t undef)
 | .cell x t=>do loadVar t (←asAddr (tmps.getD x undef))
theorem iO (R:AS P Γ N S ρ a w): ∀ (rs:List ResultVar) (ds:List DV),LW P S rs=some ds -> ∃ vs:List Value,(rs.mapM (VI a.tmps)).run P w= .ok vs w/\ vs.length=ds.length/\ ∀ i,i<ds.length -> AM (MS N S.h ρ) w (ds.getD i .any) ρ (vs.getD i undef)
 | [],ds,h=>by
  cases h;exact ⟨[],rfl,rfl,fun i hi=>absurd hi (zAo i)⟩
 | r::rs,ds,h=>by
  simp only [LW] at h;split at h
  ·rename_i d hd;split at h
   ·rename_i m7 D8;cases h;obtain ⟨vs,h1,h2,h3⟩:=iO R rs m7 D8
    obtain ⟨v,g1,g2⟩: ∃ v,(VI a.tmps r).run P w= .ok v w/\ AM (MS N S.h ρ) w d ρ v:=by
     unfold iN at hd;split at hd
     ·cases hd;exact ⟨_,rfl,R.fr.at _⟩
     ·rename_i x t;split at hd
      ·rename_i k j e;split at hd
       ·rename_i d' vc hl;cases hd;have hx:=R.fr.at x;rw [e] at hx;obtain ⟨v,q1,q2⟩:=ji R hx hl (vo hl);obtain ⟨p,hp,hv⟩:=hx;have q:=q1 w (Keep.ofExt (Aq.refl w));rw [hv,Y0] at q;refine ⟨v,?_,q2⟩
        show (do loadVar t (←asAddr (a.tmps.getD x undef)):Sem Value).run P w=_
        rw [hv];exact q
       ·cases hd
      ·cases hd
    refine ⟨v::vs,?_,by simp [h2],fun i hi=>?_⟩
    ·rw [List.mapM_cons,zAr,g1];simp only [Result.andThen,zAr,h1,zFV]
    ·cases i with
     | zero=>exact g2
     | succ i=>exact h3 i (by simpa using hi)
   ·cases h
  ·cases h
theorem VG (R:AS P Γ N S ρ a w) {fn:Func} {ds:List DV} (h:LW P S fn.results.toList=some ds): ∃ v,(results fn a.tmps).run P w= .ok v w/\ AM (MS N S.h ρ) w (G9 ds) ρ v:=by
 obtain ⟨vs,h1,h2,h3⟩:=iO R _ _ h
 have hm:(fn.results.mapM (VI a.tmps)).run P w= .ok vs.toArray w:=by
  rw [Array.mapM_eq_mapM_toList,←bind_pure_comp,zAr,h1];rfl
 have WV:(results fn a.tmps).run P w= .ok (if h:vs.toArray.size=1 then vs.toArray[0] else .tuple vs.toArray) w:=by
  show (do let vs←fn.results.mapM (VI a.tmps);pure (if h:vs.size=1 then vs[0] else .tuple vs):Sem Value).run P w=_
  rw [zAr,hm];rfl
 refine ⟨_,WV,?_⟩
 match ds,vs,h2,h3 with
 | [],[],_,_=>exact ⟨#[],rfl,rfl,fun j hj=>absurd hj (zAo j)⟩
 | [d],[v],_,h3=>exact h3 0 (by simp)
 | d::d'::ds,v::v'::vs,h2,h3=>
  have: ¬ ((v::v'::vs).toArray.size=1):=by simp
  rw [dif_neg this];refine ⟨_,rfl,by simpa using h2,fun j hj=>?_⟩;have BT:j<(v::v'::vs).length:=by rw [h2];exact hj
  exact ⟨(v::v'::vs).getD j undef,by simp only [zFv,u8,zAM BT];rfl,h3 j hj⟩
def SH (h:DH):Prop:=∀ (k:Nat) (encs:List (List DV)),h[k]? ≠some (some (.iter encs))
theorem AS.shut (R:AS P Γ N S ρ a w) (hi:SH S.h) {B:Nat} (hB:Γ.ng<=B) {W:World} (hs:OX B w W):AS P Γ N S ρ a W:=by
 have nc: ∀ {b:Nat},Db w b -> W.heap[b]? =w.heap[b]? :=fun {b} ⟨c,t,z,h⟩=>
  hs.block b (zAK.1 h).1 fun hx=>by rw [h] at hx;cases hx.2;cases t
 have O:BU (MS N S.h ρ) w ρ (MS N S.h ρ) W ρ:=⟨fun b _ _ ⟨_,_,_,hc⟩=>nc (.cells hc),fun b h=>.inl h,fun _ _ h=>h⟩
 have hr: ∀ {p:AI} {n:Nat} {Rw:Nat -> Value -> Prop},AX w p n Rw -> W.heap[p.blk]? =w.heap[p.blk]? :=fun {p n Rw} h=>by
  obtain ⟨_,cs,t,h2,_⟩:=h;exact nc (.cells h2)
 refine ⟨⟨R.hr.len,fun k o hk=>?_,fun k o p b h1 h2 h3=>?_,R.hr.dis,fun b hb=>⟨zAW (R.hr.nlt b hb).1 hs.size,(R.hr.nlt b hb).2⟩,Γ.st _ _ R.hr.gi (hs.mono fun i _ hx=>zAt hB hx.1)⟩,R.fr.out O⟩
 ·obtain ⟨p,hp,ho⟩:=R.hr.obj k o hk;refine ⟨p,hp,?_⟩;cases o with
  | cells l=>exact AX.out ho (hr ho) fun j u _ hu=>AM.out _ O hu
  | ints l=>exact AX.out ho (hr ho) fun j u _ hu=>hu
  | bools l=>exact AX.out ho (hr ho) fun j u _ hu=>hu
  | arr m n f=>exact AX.out ho (hr ho) fun j u _ hu=>AM.out _ O.nil hu
  | iter encs=>exact absurd hk (hi k encs)
  | ro l=>obtain ⟨r1,r2,r3⟩:=ho;exact ⟨r1,r2,AX.out r3 (hr r3) fun j u _ hu=>AM.out _ O hu⟩
  | mo x=>exact MV.out ho fun b hb AO=>nc (R.hr.cel k _ p b hk hp hb).2.2
 ·obtain ⟨g1,g2,c,t,z,g3⟩:=R.hr.cel k o p b h1 h2 h3;exact ⟨g1,g2,c,t,z,(nc ⟨c,t,z,g3⟩).trans g3⟩
theorem A6.shut {h0 h:DH} {ρ0 ρ:List AI} {w0 w W:World} (st:A6 h0 ρ0 w0 h ρ w) (hs:OX w0.heap.size w W):A6 h0 ρ0 w0 h ρ W:=
 ⟨st.upd.comp hs fun i hi hx=>absurd hx.1 (by omega),st.grow⟩
theorem BC.anys (M:Nat -> Prop) (w:World) (ρ:List AI) (n:Nat):BC M w ρ (List.replicate n .any) (Array.replicate n undef):=
 ⟨by simp,fun i hi=>by
  have:(List.replicate n DV.any).getD i .any= .any:=by
   rw [u8,zEA];split <;> rfl
  rw [this];trivial⟩
def H9 (d:DV):Prop:=∀ (M:Nat -> Prop) (w:World) (ρ:List AI) (v:Value),AM M w d ρ v -> AM M w d [] v
def zDz (L:Nat) (S:St) (rs:List DV) (d:DV) (h':DH):Prop:=
 (AR (G9 rs) d/\ S.h=h')∨(SH S.h/\ AR (G9 rs) d/\ H9 d/\ L<=S.h.length/\ (E2 (List.range L) S).h=h')
def DD (P:Program) (fn:Func) (L:Nat) (d:DV) (h':DH) (e:Exit) (S':St):Prop:=
 (e= .normal∨e= .ret)/\ ∃ CH,Az L S' CH/\ ∃ rs,LW P CH fn.results.toList=some rs/\ zDz L CH rs d h'
theorem ES.of_tr {f:Nat} {fn:Func} {c:Code} {ds:List DV} {h:DH} {d:DV} {h':DH} {ext:Bool} (hf:P.funcs[f]? =some fn) (hb:fn.body=some c) (Ns:fn.name≠ "runtime.NumGoroutine") (Sy:SH h')
 (H: ∀ (B:Nat) (N:BQ P Γ h.length),Tr P Γ Fence.wide (some B) h.length N c ⟨ds++List.replicate (fn.ntmps-ds.length) .any,h⟩ (fun e S Y=>Y=N/\ DD P fn h.length d h' e S)) (JR:ext=true -> h= []):ES P Γ f ds h d h' ext:=by
 refine ⟨⟨fn,hf,Ns,by rw [hb];rfl⟩,fun N ρ w args HR Cb=>?_⟩;refine zC6 w.heap.size hf hb ?_;have Ao:ds.length=args.size:=Cb.1
 have R:AS P Γ N ⟨ds++List.replicate (fn.ntmps-ds.length) .any,h⟩ ρ { tmps:=args++Array.replicate (fn.ntmps-args.size) undef,defers:=[] } w:=
  ⟨HR,BC.append Cb (by rw [Ao];exact BC.anys _ _ _ _)⟩
 have:=H w.heap.size (Ot P Γ h.length N h ρ w) N ρ _ w R ⟨rfl,A6.refl _ _ _,B8.refl _ _⟩ trivial (Bd.wide (zAp _));refine wpIn_wide.1 (zEm this ?_);rintro e a' w' ⟨S',ρ',N',Y',h1,h2,h3,h4,h5⟩
 have key:Y'=Ot P Γ h.length N h ρ w -> DD P fn h.length d h' e S' -> EZ w.heap.size a'.defers w'/\ ∀ W,OX w.heap.size w' W -> ∃ v,(results fn a'.tmps).run P W= .ok v W/\ ∃ v',Ending.returned v= .returned v'/\ CV P Γ N h ρ w ext d h' v' W:=by
  rintro rfl ⟨_,CH,Cu,rs,Lp,hd | ⟨hi,hd,hn,hl,hh⟩⟩
  all_goals
   obtain ⟨e0,h3,h5⟩:=h3;have e0:=e0.symm;subst e0
  ·obtain ⟨hd,rfl⟩:=hd;refine ⟨h4,fun W hW=>?_⟩;obtain ⟨ρ'',EX,Qq,Na⟩:=Cu P Γ N ρ' a' w' h2;have RW:=EX.shut Sy (Γ.lo _ HR.gi) hW;obtain ⟨v,g1,g2⟩:=VG RW Lp;have st:A6 h ρ w CH.h ρ'' W:=(h3.trans Qq).shut hW;refine ⟨v,g1,v,rfl,⟨⟨ρ'',RW.hr,hd _ _ _ _ g2,st,fun k p hp=>?_⟩,fun he=>?_⟩⟩
   ·have hk:k<h.length:=by rw [←HR.len];exact (zAS.1 hp).1
    exact Na k p hk (h5 k p hk hp)
   ·have:=JR he;subst this;exact st.upd.toExt fun i _ ⟨k,o,p,q1,_⟩=>by simp at q1
  ·refine ⟨h4,fun W hW=>?_⟩;obtain ⟨ρ'',EX,Qq,Na⟩:=Cu P Γ N ρ' a' w' h2;have RW:=EX.shut hi (Γ.lo _ HR.gi) hW;obtain ⟨v,g1,g2⟩:=VG RW Lp;have st:A6 h ρ w CH.h ρ'' W:=(h3.trans Qq).shut hW;obtain ⟨ρ3,R3,FW,k3⟩:=Az.compact (L:=h.length) (List.range h.length) CH List.nodup_range (fun k hk=>zAW (zAi.1 hk) hl) (fun k hk=>by simp [hk]) P Γ N ρ'' a' W RW;rw [hh] at FW;have MU:=R3.hr;rw [hh] at MU;refine ⟨v,g1,v,rfl,⟨⟨ρ3,MU,?_,st.trans FW,fun k p hp=>?_⟩,fun he=>?_⟩⟩
   ·have r0:=hn _ _ _ _ (hd _ _ _ _ g2);have r1:AM (MS N h' ρ3) W d [] v:=AM.out _ ⟨fun _ _ _ _=>rfl,fun b hb=>hb.elim (fun hx=>.inl (.inl hx)) fun hx=>(FW.grow b hx).imp .inr id,fun _ _ hx=>by simp at hx⟩ r0;exact AM.out _ ⟨fun _ _ _ _=>rfl,fun b hb=>.inl hb,fun _ _ hx=>by simp at hx⟩ r1
   ·have hk:k<h.length:=by rw [←HR.len];exact (zAS.1 hp).1
    exact k3 k p hk (Na k p hk (h5 k p hk hp))
   ·have:=JR he;subst this;exact (st.trans FW).upd.toExt fun i _ ⟨k,o,p,q1,_⟩=>by simp at q1
 cases e with
 | normal=>exact key h1.1 h1.2
 | ret=>exact key h1.1 h1.2
 | exit id=>exact absurd h1.2.1 (by simp)
 | goto t=>exact absurd h1.2.1 (by simp)
 | panic ch=>exact absurd h1.2.1 (by simp)
 | outgrown=>exact h1.elim
def Gz (d:DV):Prop:=∀ (M M':Nat -> Prop) (w w':World) (ρ ρ':List AI) (v:Value),AM M w d ρ v -> AM M' w' d ρ' v
theorem H9.agg {m:Nat} {f:Nat -> DV} (h: ∀ j,j<m -> H9 (f j)):H9 (.agg m f):=fun M w ρ _ ⟨cs,e,hs,hc⟩=>⟨cs,e,hs,fun j hj=>let ⟨u,h1,h2⟩:=hc j hj;⟨u,h1,h j hj M w ρ u h2⟩⟩
theorem H9.tup {m:Nat} {f:Nat -> DV} (h: ∀ j,j<m -> H9 (f j)):H9 (.tup m f):=fun M w ρ _ ⟨cs,e,hs,hc⟩=>⟨cs,e,hs,fun j hj=>let ⟨u,h1,h2⟩:=hc j hj;⟨u,h1,h j hj M w ρ u h2⟩⟩
theorem Gz.int (k:IntKind) (n:Int):Gz (.int k n):=fun _ _ _ _ _ _ _ h=>h
theorem Gz.bool (b:Bool):Gz (.bool b):=fun _ _ _ _ _ _ _ h=>h
theorem Gz.tup {m:Nat} {f:Nat -> DV} (h: ∀ j,j<m -> Gz (f j)):Gz (.tup m f):=fun M M' w w' ρ ρ' _ ⟨cs,e,hs,hc⟩=>⟨cs,e,hs,fun j hj=>let ⟨u,h1,h2⟩:=hc j hj;⟨u,h1,h j hj M M' w w' ρ ρ' u h2⟩⟩
theorem Pb {M:Nat -> Prop} (hM: ∀ b,M b -> b<w.heap.size/\ Γ.ng<=b) (hg:Γ.gi w):A0 P Γ M [] [] w:=
 ⟨rfl,fun k o hk=>by simp at hk,fun k o p b h1=>by simp at h1,fun k k' o o' p p' b _ h1=>by simp at h1,hM,hg⟩
theorem OZ {M:Nat -> Prop} {b:Nat}:MS M [] [] b↔M b:=⟨fun h=>h.elim id fun ⟨k,o,p,h1,_⟩=>by simp at h1,.inl⟩
theorem ES.frame {f:Nat} {ds:List DV} {d:DV} (h0:ES P Γ f ds [] d [] true) (D8: ∀ x∈ds,H9 x) (h:DH):ES P Γ f ds h d h true:=by
 refine ⟨h0.1,fun N ρ w args HR Cb=>?_⟩;refine (h0.2 (MS N h ρ) [] w args (Pb (fun b hb=>HR.lt2 hb) HR.gi) ⟨Cb.1,fun i hi=>?_⟩).mono ?_
 ·have hx:=D8 (ds.getD i .any) (by simp [hi]);exact AM.out _ (C6 (fun b hb=>OZ.1 hb) []) (hx _ _ _ _ (Cb.2 i hi))
 ·rintro e w' ⟨v,rfl,⟨⟨ρ',g1,g2,g3,g4⟩,g5⟩⟩;have hE:=g5 rfl;have hρ:ρ'= []:=zER (by rw [g1.len];rfl);subst hρ;exact ⟨v,rfl,⟨⟨ρ,HR.ext hE,Ra (AM.out _ (C6 (fun b hb=>OZ.2 hb) []) g2),A6.ext hE,fun _ _ h=>h⟩,g5⟩⟩
def Ac (h:DH) (d d0:DV):Prop:=∀ (P:Program) (Γ:Ar) (N:Nat -> Prop) (ρ:List AI) (w:World) (v:Value),A0 P Γ N h ρ w -> AM (MS N h ρ) w d ρ v -> AM (fun _=>False) w d0 [] v
theorem Ac.nref {h:DH} {d:DV} (hn:H9 d):Ac h d d:=fun _ _ _ _ _ _ _ hr=>AM.out _ (C6 (fun _ hb=>hb.elim) []) (hn _ _ _ _ hr)
theorem Ac.ints {h:DH} {k n:Nat} {l:List Int} (hk:h[k]? =some (some (.ints l))) (hn:n=l.length):Ac h (.msl k 1 0 n) (.ints l):=by
 rintro P Γ N ρ w v H ⟨p,cap,hp,e,g1,g2,_⟩;subst hn;obtain ⟨p',BF,hr⟩:=H.obj k _ hk;have ep:p'=p:=zAR (BF.symm.trans hp);subst ep;refine ⟨_,cap,e,g1,g2,fun j hj=>⟨p'.blk,p'.off,by simp,id,?_⟩⟩;obtain ⟨u,e1,e2⟩:=AX.cell hr hj;rw [e1,e2]
theorem Ac.bools {h:DH} {k n:Nat} {l:List Bool} (hk:h[k]? =some (some (.bools l))) (hn:n=l.length):Ac h (.msl k 1 0 n) (.bools l):=by
 rintro P Γ N ρ w v H ⟨p,cap,hp,e,g1,g2,_⟩;subst hn;obtain ⟨p',BF,hr⟩:=H.obj k _ hk;have ep:p'=p:=zAR (BF.symm.trans hp);subst ep;refine ⟨_,cap,e,g1,g2,fun j hj=>⟨p'.blk,p'.off,by simp,id,?_⟩⟩;obtain ⟨u,e1,e2⟩:=AX.cell hr hj;rw [e1,e2]
theorem Ac.ref {h:DH} {k m:Nat} {l:List DV} {f:Nat -> DV} (hk:h[k]? =some (some (.cells l))) (hm:m<=l.length) (hf: ∀ j,j<m -> Ac h (l.getD j .any) (f j)):Ac h (.ref k 0) (.fp m f):=by
 rintro P Γ N ρ w v H ⟨p,hp,e⟩;obtain ⟨p',BF,hr⟩:=H.obj k _ hk;have ep:p'=p:=zAR (BF.symm.trans hp);subst ep;refine ⟨p'.blk,p'.off,e,fun j hj=>⟨id,?_⟩⟩;obtain ⟨u,e1,e2⟩:=AX.cell hr (j:=j) (by omega);exact ⟨u,e1,hf j hj P Γ N ρ w u H e2⟩
theorem ES.snap {f:Nat} {ds Dw:List DV} {d:DV} (h0:ES P Γ f Dw [] d [] true) (h:DH) (hl:Dw.length=ds.length) (hs: ∀ i,i<ds.length -> Ac h (ds.getD i .any) (Dw.getD i .any)) (hd:Gz d):ES P Γ f ds h d h true:=by
 refine ⟨h0.1,fun N ρ w args HR Cb=>?_⟩;refine (h0.2 (fun _=>False) [] w args (Pb (fun b hb=>hb.elim) HR.gi) ⟨by rw [hl];exact Cb.1,fun i hi=>?_⟩).mono ?_
 ·rw [hl] at hi;exact AM.out _ (C6 (fun b hb=>OZ.1 hb) []) (hs i hi P Γ N ρ w _ HR (Cb.2 i hi))
 ·rintro e w' ⟨v,rfl,⟨⟨ρ',g1,g2,g3,g4⟩,g5⟩⟩;have hE:=g5 rfl;exact ⟨v,rfl,⟨⟨ρ,HR.ext hE,hd _ _ _ _ _ _ _ g2,A6.ext hE,fun _ _ h=>h⟩,g5⟩⟩
end
end Go.Proofs.YtkjbblkieglmlaaGreatDoor
namespace Go.Proofs.YtkjbblkieglmlaaGreatDoor
open Go.RowKit
section
variable {F:Fence} {n:Nat} {P:Program} {ops:Array Oper} {Q:Exit -> Act -> World -> Prop}
def Hd (F:Fence) (n:Nat) (P:Program) (ops:Array Oper) (Q:Exit -> Act -> World -> Prop) (R:Nat -> World -> World -> Prop) (Bw:Nat -> Bool) (g:Nat):Nat -> Array Bool -> Act -> World -> Prop
 | 0,AU,a,w=>(∀ j,j<ops.size -> Bw j=false -> AU.getD j true=true)/\ wpAnyIn F n P .any ops Q g AU a w
 | m+1,AU,a,w=>Region.ready .any ops AU≠[]/\ ∀ i∈Region.ready .any ops AU,wpOpIn F n P ops Q i (fun a' w'=>R i w w'/\ Hd F n P ops Q R Bw g m (AU.setIfInBounds i true) a' w') a w
abbrev UR (F:Fence) (n:Nat) (P:Program) (ops:Array Oper) (Q:Exit -> Act -> World -> Prop) (R:Nat -> World -> World -> Prop):Nat -> Array Bool -> Act -> World -> Prop:=Hd F n P ops Q R (fun _=>false) 0
section
variable {Bw:Nat -> Bool} {g:Nat}
theorem dh {R R':Nat -> World -> World -> Prop} (hR: ∀ i w w',R' i w w' -> R i w w'): ∀ (m:Nat) (AU:Array Bool) (a:Act) (w:World),Hd F n P ops Q R' Bw g m AU a w -> Hd F n P ops Q R Bw g m AU a w
 | 0,_,_,_,h=>h
 | m+1,_,_,_,h=>⟨h.1,fun i hi=>zFN (fun _ _ h'=>⟨hR _ _ _ h'.1,dh hR m _ _ _ h'.2⟩) (h.2 i hi)⟩
theorem tS {AU:Array Bool} (h: ∀ j,j<ops.size -> AU.getD j true=true):Region.ready .any ops AU= []:=by
 cases hr:Region.ready .any ops AU with
 | nil=>rfl
 | cons i l=>
  have hi:i∈Region.ready .any ops AU:=by rw [hr];simp
  obtain ⟨h1,oi,h2,_⟩:=zFR.1 hi;rw [h i (zAK.1 h2).1] at h1;cases h1
theorem oW {R:Nat -> World -> World -> Prop} {AU:Array Bool} {a:Act} {w:World} (h: ∀ j,j<ops.size -> AU.getD j true=true) (hq:Q .normal a w):UR F n P ops Q R 0 AU a w:=⟨fun j hj _=>h j hj,tS h,hq⟩
theorem dt {R:Nat -> World -> World -> Prop}: ∀ (m:Nat) (AU:Array Bool) (a:Act) (w:World),Hd F n P ops Q R Bw g m AU a w -> wpAnyIn F n P .any ops Q (m+g) AU a w
 | 0,_,_,_,h=>by rw [zAs];exact h.2
 | m+1,_,_,_,h=>by
  rw [show m+1+g=(m+g)+1 by omega];exact ⟨fun h0=>absurd h0 h.1,fun i hi=>zFN (fun a' w' h'=>dt m _ a' w' h'.2) (h.2 i hi)⟩
theorem oV (hF: ∀ f,F.fn f) (Au:CP ops=true) {R:Nat -> World -> World -> Prop} {T:World -> Prop} {i:Nat} {oi:Oper} {v:Value} (hQ: ∀ c a d v w,Q (.panic c) (Act.put a d v) w -> Q (.panic c) a w) (hi:ops[i]? =some oi) (Sw: ∀ (j:Nat) (o:Oper) cs b,ops[j]? =some o -> o.op≠.select cs b) (lv: ∀ w,R i w w) (ba: ∀ j,j<ops.size -> Bw j=true -> El ops ops.size j i=true):
 ∀ (m:Nat) (AU:Array Bool) (a:Act) (w:World),FT ops AU ->
  (∀ j oj,ops[j]? =some oj -> j≠i -> AU.getD j true=false -> (∀ e∈oj.after,Region.binds .any e=true -> e.on≠i) -> oi.apart ops oj=true) ->
  (∀ j,j<ops.size -> j≠i -> AU.getD j true=false -> El ops ops.size j i=false -> ∀ w w',T w -> R j w w' -> T w') ->
  i∈Region.ready .any ops AU -> YieldsIf P ops T oi v a -> T w ->
  Hd F n P ops Q R Bw g m (AU.setIfInBounds i true) (a.put oi.dst v) w -> Hd F n P ops Q R Bw g (m+1) AU a w:=by
 intro m
 induction m with
 | zero=>
  intro AU a w A2 _ _ hr hy hS H;have Ly:=(zFR.1 hr).1;refine ⟨fun h=>(by rw [h] at hr;cases hr),fun j hj=>?_⟩
  by_cases Ee:j=i
  ·subst Ee;exact UN hF (Gg Au hi) hi hy hS ⟨lv w,H⟩
  ·exfalso
   obtain ⟨JP,oj,Fc,HQ⟩:=zFR.1 hj;have Nu:=(zAK.1 Fc).1;cases ht:Bw j with
   | true=>
    have:=US A2 _ j i oj Fc HQ (ba j Nu ht);rw [TN Ly] at this;cases this
   | false=>
    have:=H.1 j Nu ht;rw [getD_set_ne true (zFT Ee),JP] at this;cases this
 | succ m ih=>
  intro AU a w A2 S9 hT hr hy hS H;have Ly:=(zFR.1 hr).1;refine ⟨fun h=>(by rw [h] at hr;cases hr),fun j hj=>?_⟩
  by_cases Ee:j=i
  ·subst Ee;exact UN hF (Gg Au hi) hi hy hS ⟨lv w,H⟩
  ·have h1:=H.2 j (ready_mono hj Ee);obtain ⟨JP,oj,Fc,HQ⟩:=zFR.1 hj;have Nu:=(zAK.1 Fc).1
   have zu:El ops ops.size j i=false:=by
    cases hx:El ops ops.size j i with
    | false=>rfl
    | true=>
     have:=US A2 _ j i oj Fc HQ hx;rw [TN Ly] at this;cases this
   have a7: ∀ e∈oj.after,Region.binds .any e=true -> e.on≠i:=fun e he hb bK=>by
    have h1:=HQ e he hb;rw [bK,TN Ly] at h1;cases h1
   have h2:=di hF (Gg Au Fc) Fc (S9 j oj Fc Ee JP a7) (fun cs b=>Sw i oi cs b hi) (fun cs b=>Sw j oj cs b Fc) (fun c a w h=>hQ c a _ _ w h) hy h1
   have un: ∀ {k:Nat},(AU.setIfInBounds j true).getD k true=false -> AU.getD k true=false:=fun {k} EG=>by
    by_cases S7:j=k
    ·subst S7;exact JP
    ·rw [getD_set_ne true S7] at EG;exact EG
   refine zFN (fun a' w' h3=>⟨h3.2.1,ih (AU.setIfInBounds j true) a' w' (A2.set hj) (fun k ok hk S6 EG GN=>S9 k ok hk S6 (un EG) GN) (fun k EH S6 EG hkw=>hT k EH S6 (un EG) hkw) (ready_mono hr (zFT Ee)) h3.1 (hT j Nu Ee JP zu w w' hS h3.2.1) ?_⟩) h2;rw [Array.setIfInBounds_comm _ _ Ee];exact h3.2.2
theorem X6 {id:Nat} {a:Act} {w:World} {R:Nat -> World -> World -> Prop} (hm:P.follows .mixedOrders=true) {m:Nat} (hs:m+g=ops.size) (h:Hd F n P ops Q R Bw g m (Array.replicate ops.size false) a w.drew):(Code.region id ops true).wpIn F n P Q a w:=
 wpIn_region_any hm (by
  have:=dt (g:=g) m _ _ _ h;rw [hs] at this;exact this)
theorem dl {c:Code} {a:Act} {w:World} (h:c.wpIn F n P (NP Q) a w):c.wpIn F n P Q a w:=zEm h fun e _ _ hq=>by
 cases e <;> first | exact hq | exact hq.elim
theorem cd:FT ops (Array.replicate ops.size false):=fun j oj _ hl=>by
 exfalso
 rcases zBG j ops.size with h | h
 ·simp [h] at hl
 ·simp [h] at hl
def O9 (ops:Array Oper) (i:Nat):Bool:=match ops[i]? with
 | some o=>O7 o.op
 | none=>false
def RZ (ops:Array Oper) (early:Nat -> Bool) (Z:Nat -> Nat -> Prop) (j:Nat) (w w':World):Prop:=(O9 ops j=true -> w'=w)/\ (early j=true -> AP (Z j) w w')
def O2 (ops:Array Oper) (early:Nat -> Bool) (i:Nat) (AU:Array Bool):Bool:=
 (Region.ready .any ops AU).contains i&&Region.free .any ops AU i&&O9 ops i&&
  ((List.range ops.size).all fun j=>AU.getD j true||j==i||O9 ops j||early j||El ops ops.size j i)
theorem VM (hF: ∀ f,F.fn f) (Au:CP ops=true) (hs:Region.noSelect ops=true) {early:Nat -> Bool} {Z:Nat -> Nat -> Prop} {Zi:Nat -> Prop} {i m:Nat} {AU:Array Bool} {a:Act} {w:World} {oi:Oper} {v:Value} (hQ: ∀ c a d v w,Q (.panic c) (Act.put a d v) w -> Q (.panic c) a w) (hi:ops[i]? =some oi) (A2:FT ops AU) (Du:O2 ops early i AU=true) (hZ: ∀ j,El ops ops.size j i=false -> ∀ b,Z j b -> Zi b) (ba: ∀ j,j<ops.size -> Bw j=true -> El ops ops.size j i=true)
 (hy:YieldsIf P ops (AP Zi w) oi v a) (h:Hd F n P ops Q (RZ ops early Z) Bw g m (AU.setIfInBounds i true) (a.put oi.dst v) w):Hd F n P ops Q (RZ ops early Z) Bw g (m+1) AU a w:=by
 simp only [O2,zAN,zAT,zAi,zAz,zDu] at Du;obtain ⟨⟨⟨h1,h2⟩,h3⟩,h4⟩:=Du;refine oV hF Au hQ hi (Region.noSelect_spec hs) (fun w=>⟨fun _=>rfl,fun _=>AP.refl _ _⟩) ba m AU a w A2 (Region.free_spec hi h2) (fun j hj Ee EG hw w1 w2 hT hR=>?_) (by simpa using h1) hy (AP.refl _ _) h;rcases h4 j hj with (((h | h) | h) | h) | h
 ·rw [EG] at h;cases h
 ·exact absurd h Ee
 ·rw [hR.1 h];exact hT
 ·exact hT.trans ((hR.2 h).mono fun b _ hb=>hZ j hw b hb)
 ·rw [hw] at h;cases h
theorem T0 {AU:Array Bool} {i:Nat} (A2:FT ops AU) (h:(Region.ready .any ops AU).contains i=true):FT ops (AU.setIfInBounds i true):=A2.set (by simpa using h)
end
end
end Go.Proofs.YtkjbblkieglmlaaGreatDoor
namespace Go.Proofs.YtkjbblkieglmlaaGreatDoor
abbrev zE3:=@List.mem_filter
end Go.Proofs.YtkjbblkieglmlaaGreatDoor
namespace Go.Proofs.YtkjbblkieglmlaaGreatDoor
open Go.RowKit
inductive ST where
 | fin (π live:List Nat)
 | rd (i:Nat) (t:ST)
 | ef (i:Nat) (t HV:ST)
 | no
def UF:ST -> List Nat
 | .ef i _ HV=>i::UF HV
 | _=>[]
def EC (ops:Array Oper) (early:List Nat):Bool -> Nat -> ST -> Array Bool -> Bool
 | false,0,.fin _ _,L=>(List.range ops.size).all fun j=>L.getD j true
 | false,m+1,.rd i t,L=>O2 ops (fun j=>early.contains j) i L&&EC ops early false m t (L.setIfInBounds i true)
 | b,m+1,.ef i t HV,L=>(b||Region.ready .any ops L==UF (.ef i .no HV))&&!O9 ops i&&EC ops early false m t (L.setIfInBounds i true)&&EC ops early true (m+1) HV L
 | true,_,.no,_=>true
 | _,_,_,_=>false
def Hh (p:Nat -> Bool) (h:DH):DH:=(List.range h.length).map fun i=>if p i then h.getD i none else none
def kD (xs:List Nat) (h:DH):DH:=Hh (fun i=>!xs.contains i) h
def OW (xs:List Nat) (h:DH):Bool:=xs.all fun k=>decide (h.length<=k)||(h.getD k none).isSome
def LA (S:St) (o:Oper):Option Nat:=match o.op with
 | .store _ x _=>match AY S.fr x with
  | .ref k _=>some k
  | .mp k _ _ _=>some k
  | _=>none
 | _=>none
def gC (σ:List Nat) (L n:Nat):Bool:=decide σ.Nodup&&σ.all (fun k=>decide (k<n))&&(List.range L).all fun k=>decide (σ[k]? =some k)
def Qd (xs:List (Nat×Nat)) (nw:List Nat):List Nat:=xs.map (·.2)++nw
def Is (xs:List (Nat×Nat)) (nw:List Nat) (j:Nat):List Nat:=(xs.filter fun q=>q.1==j).map (·.2)++nw
def Jn (ops:Array Oper) (xs:List (Nat×Nat)) (nw:List Nat) (i:Nat):List Nat:=(xs.filter fun q=>!El ops ops.size q.1 i).map (·.2)++nw
def m6 (early:List Nat) (xs:List (Nat×Nat)) (nw:List Nat) (S S1:St) (i:Nat) (o:Oper) (ext:Bool):Bool:=
 OW (Qd xs nw) S.h&&OW (Qd xs nw) S1.h&&((Qd xs nw).all (fun k=>decide (k<S.h.length))||Sb S.h S1.h)&&(!(early.contains i)||ext||(match LA S o with | some k=>(Is xs nw i).contains k | none=>false))
def Uv (π:List Nat) (L0:Nat):List Nat:=List.range L0++π.map (· +L0)
def K7 (P:Program) (Γ:Ar) (ops:Array Oper) (early:List Nat) (xs:List (Nat×Nat)) (nw:List Nat) (L0:Nat) (S':St):ST -> St -> BH -> Option (List Prop×BH)
 | .no,_,Aa=>some ([],Aa)
 | .fin π live,S,Aa=>if gC (Uv π L0) L0 S.h.length then some ([E2 (Uv π L0) ⟨forget live S.fr,S.h⟩=S'],Aa) else none
 | .rd i t,S,Aa=>match ops[i]? with
  | none=>none
  | some o=>if OW (Jn ops xs nw i) S.h then match O4 P ops ⟨S.fr,kD (Jn ops xs nw i) S.h⟩ Aa.co o with
   | none=>none
   | some (S1,vs,Cq)=>match K7 P Γ ops early xs nw L0 S' t ⟨S1.fr,S.h⟩ ⟨Aa.calls,Cq,Aa.fz,Aa.tg⟩ with
    | none=>none
    | some (Bj,Bz)=>some (vs++Bj,Bz)
   else none
 | .ef i t HV,S,Aa=>match ops[i]? with
  | none=>none
  | some o=>match OU P Γ ops S Aa o with
   | none=>none
   | some (S1,vs,ext,Ec)=>if m6 early xs nw S S1 i o ext then
    match K7 P Γ ops early xs nw L0 S' t S1 Ec with
    | none=>none
    | some (CG,Fo)=>match K7 P Γ ops early xs nw L0 S' HV S Fo with
     | none=>none
     | some (Dq,KC)=>some (vs++(CG++Dq),KC)
    else none
def Bp (ops:Array Oper) (early:List Nat) (t:ST):Prop:=(EC ops early false ops.size t (Array.replicate ops.size false)&&Region.noSelect ops&&CP ops)=true
def Qg (P:Program) (Γ:Ar) (ops:Array Oper) (early:List Nat) (t:ST) (S:St) (Aa:BH):Option (St×List Prop×BH):=match Aa.tg with
 | []=>none
 | (ks,S')::rest=>match K7 P Γ ops early ks (List.range' S.h.length ops.size) S.h.length S' t S ⟨Aa.calls,Aa.co,Aa.fz,rest⟩ with
  | none=>none
  | some (vs,Bz)=>some (S',vs,Bz)
theorem Ps {p:Nat -> Bool} {h:DH} {i:Nat} {o:DO} (hi:(Hh p h)[i]? =some (some o)):h[i]? =some (some o)/\ p i=true:=by
 unfold Hh at hi;rw [zA1] at hi;cases hr:(List.range h.length)[i]? with
 | none=>rw [hr] at hi;cases hi
 | some j=>
  have hj:i<h.length/\ i=j:=by
   have:=zAS.1 hr;obtain ⟨h1,h2⟩:=this;simp at h1 h2;exact ⟨h1,h2⟩
  rw [hr] at hi;obtain ⟨h1,rfl⟩:=hj;have hi:(if p i then h.getD i none else none)=some o:=zAR hi;split at hi
  ·exact ⟨by rw [u8,zAM h1] at hi;rw [zAM h1];exact congrArg some hi,by assumption⟩
  ·cases hi
theorem qU {p:Nat -> Bool} {h:DH}:(Hh p h).length=h.length:=by simp [Hh]
theorem mJ {p:Nat -> Bool} {h:DH} {k:Nat} (hp:p k=true) (hk:k<h.length):(Hh p h)[k]? =h[k]? :=by
 unfold Hh;rw [zA1,zFa hk];simp [hp,u8,hk]
section
variable {P:Program} {Γ:Ar} {N:Nat -> Prop} {S:St} {ρ:List AI} {a:Act} {w:World}
theorem AS.sel (R:AS P Γ N S ρ a w) (p:Nat -> Bool):AS P Γ (fun b=>N b∨∃ k o q,p k=false/\ S.h[k]? =some (some o)/\ ρ[k]? =some q/\ q.foot b) ⟨S.fr,Hh p S.h⟩ ρ a w:=by
 have hM: ∀ b,MS (fun b=>N b∨∃ k o q,p k=false/\ S.h[k]? =some (some o)/\ ρ[k]? =some q/\ q.foot b) (Hh p S.h) ρ b -> MS N S.h ρ b:=by
  rintro b ((h | ⟨k,o,q,h1,h2,h3,h4⟩) | ⟨k,o,q,h1,h2,h3⟩)
  ·exact .inl h
  ·exact .inr ⟨k,o,q,h2,h3,h4⟩
  ·exact .inr ⟨k,o,q,(Ps h1).1,h2,h3⟩
 refine ⟨⟨by rw [qU];exact R.hr.len,fun i o hi=>?_,fun i o q b g1 g2 g3=>?_,fun i i' o1 o2 p1 p2 b Am g1 g2 g3 g4 g5 g6=>R.hr.dis i i' o1 o2 p1 p2 b Am (Ps g1).1 (Ps g2).1 g3 g4 g5 g6,?_,R.hr.gi⟩,R.fr.out (C6 hM ρ)⟩
 ·obtain ⟨q,hq,hr⟩:=R.hr.obj i o (Ps hi).1;exact ⟨q,hq,hr.out (C6 hM ρ) (S:=fun _=>False) (AP.refl _ _) (fun _ h=>h.elim) fun _ _ _ h=>h⟩
 ·obtain ⟨hi,yX⟩:=Ps g1;obtain ⟨c1,c2,c3⟩:=R.hr.cel i o q b hi g2 g3;refine ⟨c1,?_,c3⟩;rintro (h | ⟨k,o',q',h1,h2,h3,h4⟩)
  ·exact c2 h
  ·exact R.hr.dis i k o o' q q' b (fun e=>by subst e;rw [yX] at h1;cases h1) hi h2 g2 h3 g3 h4
 ·rintro b (h | ⟨k,o',q',h1,h2,h3,h4⟩)
  ·exact R.hr.nlt b h
  ·obtain ⟨c1,_,c,t,z,c3⟩:=R.hr.cel k o' q' b h2 h3 h4;exact ⟨(zAK.1 c3).1,c1⟩
theorem AS.unsel {p:Nat -> Bool} {fr:List DV} (R0:A0 P Γ N S.h ρ w) (R:BC (MS (fun b=>N b∨∃ k o q,p k=false/\ S.h[k]? =some (some o)/\ ρ[k]? =some q/\ q.foot b) (Hh p S.h) ρ) w ρ fr a.tmps):AS P Γ N ⟨fr,S.h⟩ ρ a w:=by
 refine ⟨R0,R.out (C6 (fun b hb=>?_) ρ)⟩;rcases hb with h | ⟨k,o,q,h1,h2,h3⟩
 ·exact .inl (.inl h)
 ·cases hp:p k with
  | false=>exact .inl (.inr ⟨k,o,q,hp,h1,h2,h3⟩)
  | true=>
   refine .inr ⟨k,o,q,?_,h2,h3⟩;rw [mJ hp (zAS.1 h1).1];exact h1
def Zs (xs:List Nat) (ρ:List AI) (w:World) (b:Nat):Prop:=(∃ k q,k∈xs/\ ρ[k]? =some q/\ q.foot b)∨w.heap.size<=b
theorem wl {xs:List Nat} (R:A0 P Γ N S.h ρ w) (H3:OW xs S.h=true) {W:World} (hu:AP (Zs xs ρ w) w W):Keep (fun b=>N b∨∃ k o q,(!xs.contains k)=false/\ S.h[k]? =some (some o)/\ ρ[k]? =some q/\ q.foot b) w W:=by
 intro b o u hb hc;have AO:b<w.heap.size:=zEH w ⟨b,o,none⟩ hc;refine (cm (hu.block b AO ?_)).trans hc;rintro (⟨k,q,h1,h2,h3⟩ | h)
 ·have hk:k<S.h.length:=by rw [←R.len];exact (zAS.1 h2).1
  have hx:=zAT.1 H3 k h1;simp only [zAz,zAx] at hx;rcases hx with hx | hx
  ·omega
  ·cases hg:S.h.getD k none with
   | none=>rw [hg] at hx;cases hx
   | some ob=>exact hb (.inr ⟨k,ob,q,by simp [h1],getD_some hg,h2,h3⟩)
 ·omega
theorem P6 {ρ':Operand -> Value} {o:Oper} {t:TypeId} {x y:Operand} (ho:o.op= .store t x y) {nx:Next} {w w':World} (h:(execOp ρ' o).run P w= .ok nx w'):nx= .skip:=by
 unfold execOp at h;rw [ho] at h;have h:(Instr.storeAt t (ρ' x) (ρ' y)>>=fun _=>(pure .skip:Sem Next)).run P w= .ok nx w':=h;rw [zAr] at h;cases hs:(Instr.storeAt t (ρ' x) (ρ' y)).run P w with
 | ok v w1=>rw [hs] at h;simp only [Result.andThen] at h;cases h;rfl
 | halt x w1=>rw [hs] at h;simp only [Result.andThen] at h;cases h
theorem Bb.store {ρ':Operand -> Value} {o:Oper} {t:TypeId} {x y:Operand} (ho:o.op= .store t x y) {w:World} {G G':Value -> World -> Prop} (h:Bb P (execOp ρ' o) w G) (h':Bb P (execOp ρ' o) w G'):Bb P (execOp ρ' o) w (fun v W=>G v W/\ G' v W):=by
 rcases h with ⟨v,w1,h1,_⟩ | ⟨w1,h1,h2⟩ | ⟨f,ag,w1,h1,_⟩
 ·cases P6 ho h1
 ·rcases h' with ⟨v,w2,g1,_⟩ | ⟨w2,g1,g2⟩ | ⟨f,ag,w2,g1,_⟩
  ·cases P6 ho g1
  ·rw [h1] at g1;cases g1;exact .inr (.inl ⟨w1,h1,h2,g2⟩)
  ·cases P6 ho g1
 ·cases P6 ho h1
theorem pn {t:TypeId} {x d:DV} {k:Nat} {h':DH} {vc:Prop} (hx:(∃ j,x= .ref k j)∨∃ m i j,x= .mp k m i j) (h:Mj P S t x d=some (h',vc)):k<S.h.length/\ ∃ h2,Mj P ⟨S.fr,Hh (fun i=>i==k) S.h⟩ t x d=some (h2,vc):=by
 have key: ∀ {o:DO},S.h[k]? =some (some o) -> k<S.h.length/\ (Hh (fun i=>i==k) S.h)[k]? =some (some o):=fun {o} ho=>by
  have hk:=(zAS.1 ho).1;exact ⟨hk,by rw [mJ (by simp) hk];exact ho⟩
 unfold Mj at h ⊢;rcases hx with ⟨j,rfl⟩ | ⟨m,i,j,rfl⟩
 ·simp only at h ⊢;split at h
  ·rename_i l hl;obtain ⟨h1,h2⟩:=key hl;refine ⟨h1,?_⟩;simp only [h2]
   repeat' (split at h)
   all_goals first | (cases h;done) | skip
   cases h;rename_i q1 q2 q3;simp only [q1,q2,q3,zEL];exact ⟨_,rfl⟩
  ·cases h
 ·simp only at h ⊢;split at h
  ·rename_i Ay;split at h
   ·rename_i l hl;obtain ⟨h1,h2⟩:=key hl;refine ⟨h1,?_⟩;simp only [h2,Ay,zEL]
    repeat' (split at h)
    all_goals first | (cases h;done) | skip
    cases h;rename_i q1;simp only [q1,zEL];exact ⟨_,rfl⟩
   ·rename_i l hl;obtain ⟨h1,h2⟩:=key hl;refine ⟨h1,?_⟩;simp only [h2,Ay,zEL]
    repeat' (split at h)
    all_goals first | (cases h;done) | skip
    cases h;rename_i q1;simp only [q1,zEL];exact ⟨_,rfl⟩
   ·rename_i m' n f hl;obtain ⟨h1,h2⟩:=key hl;refine ⟨h1,?_⟩;simp only [h2,Ay,zEL]
    repeat' (split at h)
    all_goals first | (cases h;done) | skip
    cases h;rename_i q1;simp only [q1,zEL];exact ⟨_,rfl⟩
   ·cases h
  ·cases h
theorem YS {o:Oper} {k:Nat} (h:LA S o=some k): ∃ t x y,o.op= .store t x y/\ ((∃ j,AY S.fr x= .ref k j)∨∃ m i j,AY S.fr x= .mp k m i j):=by
 unfold LA at h;split at h
 ·rename_i t x y ho;refine ⟨t,x,y,ho,?_⟩;split at h
  ·rename_i j e;cases h;exact .inl ⟨j,e⟩
  ·rename_i m i j e;cases h;exact .inr ⟨m,i,j,e⟩
  ·cases h
 ·cases h
theorem zDs {calls:List (DV×DH×Bool)} {o:Oper} {t:TypeId} {x y:Operand} (ho:o.op= .store t x y) {d:DV} {h':DH} {vs:List Prop} {ext:Bool} {T4:List (DV×DH×Bool)} (h:QU P Γ S calls o.op=some (d,h',vs,ext,T4)): ∃ vc,Mj P S t (AY S.fr x) (AY S.fr y)=some (h',vc)/\ vs= [vc]:=by
 rw [ho] at h;simp only [QU] at h;split at h
 ·rename_i h1 vc hs;cases h;exact ⟨vc,hs,rfl⟩
 ·cases h
theorem zDt (R:AS P Γ N S ρ a w) {calls:List (DV×DH×Bool)} {o:Oper} {d:DV} {h':DH} {vs:List Prop} {ext:Bool} {T4:List (DV×DH×Bool)} (h:QU P Γ S calls o.op=some (d,h',vs,ext,T4)) (hv:Bc vs):
 Bb P (execOp a.eval o) w (fun v w'=>CV P Γ N S.h ρ w ext d h' v w'/\ ∀ k,LA S o=some k -> AP (fun b=>∃ q,ρ[k]? =some q/\ q.foot b) w w'):=by
 cases Dg:LA S o with
 | none=>
  have D:=dW R h hv;rcases D with ⟨v,w1,h1,h2⟩ | ⟨w1,h1,h2⟩ | ⟨f,ag,w1,h1,h2⟩
  ·exact .inl ⟨v,w1,h1,h2,fun k hk=>by cases hk⟩
  ·exact .inr (.inl ⟨w1,h1,h2,fun k hk=>by cases hk⟩)
  ·exact .inr (.inr ⟨f,ag,w1,h1,h2.mono fun e CI ⟨v,e1,e2⟩=>⟨v,e1,e2,fun k hk=>by cases hk⟩⟩)
 | some k=>
  obtain ⟨t,x,y,ho,hx⟩:=YS Dg;have D:=dW R h hv;obtain ⟨vc,hs,rfl⟩:=zDs ho h;obtain ⟨_,h2,Hz⟩:=pn hx hs;have D2:=fX (AS.sel R (fun i=>i==k)) (tx:=x) (x:=y) Hz hv.1 o ho;have D3:=Bb.store ho D D2;rcases D3 with ⟨v,w1,h1,g1,g2⟩ | ⟨w1,h1,g1,g2⟩ | ⟨f,ag,w1,h1,_⟩
  ·cases P6 ho h1
  ·refine .inr (.inl ⟨w1,h1,g1,fun k' CZ=>?_⟩);cases CZ;obtain ⟨ρ2,_,_,st,_⟩:=g2.ex;refine st.upd.mono fun b _ hb=>?_
   obtain ⟨i,o',q,q1,q2,q3⟩:=hb;have:=(Ps q1).2;have e:i=k:=by simpa using this
   subst e;exact ⟨q,q2,q3⟩
  ·cases P6 ho h1
theorem zDU {F:Fence} (hF:Cw F P) (R:AS P Γ N S ρ a w) {ops:Array Oper} {Aa:BH} {o:Oper} (hd: ∀ c,o.op≠.defer c) {S':St} {vs:List Prop} {ext:Bool} {Bz:BH} (h:OU P Γ ops S Aa o=some (S',vs,ext,Bz)) (hv:Bc vs)
 {K:Act -> World -> Prop} {Q:Exit -> Act -> World -> Prop} (hK: ∀ ρ' a' w',AS P Γ N S' ρ' a' w' -> Ci S.h ρ w S'.h ρ' w' -> a'.defers=a.defers -> (ext=true -> Aq w w') -> (∀ k,LA S o=some k -> AP (fun b=>∃ q,ρ[k]? =some q/\ q.foot b) w w') -> K a' w'):
 if Region.wanted o (yielded ops a.tmps) then o.wpIn F 0 P a w K Q else (∀ f,o.about P w a.eval=some f -> F.fn f)/\ K (a.put o.dst undef) w:=by
 have CL: ∀ v,(a.put o.dst v).defers=a.defers:=fun v=>by cases ho:o.dst <;> simp [Act.put]
 unfold OU at h;split at h
 ·cases h
 ·rename_i hw;cases h;rw [zAU (by rw [He R hw];exact zE0)];exact ⟨fun f _=>hF.fn f,hK ρ _ _ (GZ R _ UZ) (Ci.refl _ _ _) (CL _) (fun _=>Aq.refl w) fun _ _=>AP.refl _ _⟩
 ·rename_i hw;rw [zAE (He R hw)];split at h
  ·rename_i S1 CG fz1 hM;cases h;refine Kq hF hd (gZ R hM hv) fun v w' ⟨⟨ρ',g1,g2⟩,Dg⟩=>hK ρ' _ _ g1 g2 (CL v) (fun e=>by cases e) fun k' CZ=>?_
   obtain ⟨t0,x0,y0,Nn,_⟩:=YS CZ;rcases Dg with Dg | ⟨k,i,p,t,x,y,q1,q2,q3,q4⟩
   ·exact absurd Nn (Dg t0 x0 y0)
   have e:k'=k:=by
    unfold LA at CZ;rw [q1] at CZ;simp only [q2] at CZ;exact (zAR CZ).symm
   subst e;exact q4.mono fun b _ hb=>⟨p,q3,hb⟩
  split at h
  ·rename_i S1 CG hM;cases h;refine Kq hF hd (fW R hM hv) fun v w' ⟨⟨ρ',g1,g2⟩,Dg⟩=>hK ρ' _ _ g1 g2 (CL v) (fun e=>by cases e) fun k' CZ=>?_
   obtain ⟨t0,x0,y0,Nn,_⟩:=YS CZ;rcases Dg with Dg | ⟨k,i,p,t,x,y,q1,q2,q3,q4⟩
   ·exact absurd Nn (Dg t0 x0 y0)
   have e:k'=k:=by
    unfold LA at CZ;rw [q1] at CZ;simp only [q2] at CZ;exact (zAR CZ).symm
   subst e;exact q4.mono fun b _ hb=>⟨p,q3,hb⟩
  split at h
  ·cases h
  ·rename_i d h1 CG ext1 calls bX;split at h;rename_i d' Bj Cq N5;split at h
   ·cases h
   ·rename_i S2 Oh JZ GT;cases h;obtain ⟨B0,Sr⟩:=Cv.1 hv;obtain ⟨B7,IX⟩:=Cv.1 Sr;refine Kq hF hd (zDt R bX B0) fun v w' G=>?_
    obtain ⟨ρ',g1,g2⟩:=OC R o.dst G.1 (d':=d') fun M ρ' hr=>Xd N5 B7 hr
    obtain ⟨g3,g4⟩:=Wy _ GT IX P Γ N ρ' _ _ g1;exact hK ρ' _ _ g3 (g2.trans ⟨g4,fun _ _ h=>h⟩) (CL v) G.1.ext G.2
theorem eA {F:Fence} (hF:Cw F P) {ops:Array Oper} (Au:CP ops=true) (hs:Region.noSelect ops=true) {early:List Nat} {xs:List (Nat×Nat)} {nw:List Nat} {L0:Nat} {S':St} {Q:Exit -> Act -> World -> Prop}:
 ∀ (t:ST) (m:Nat) (L:Array Bool) {S:St} {ρ:List AI} {a:Act} {w:World} {vs:List Prop} {Aa Bz:BH},FT ops L -> AS P Γ N S ρ a w -> K7 P Γ ops early xs nw L0 S' t S Aa=some (vs,Bz) -> Bc vs ->
 (∀ ρ' a' w',AS P Γ N S' ρ' a' w' -> A6 S.h ρ w S'.h ρ' w' -> (∀ k p,k<L0 -> ρ[k]? =some p -> ρ'[k]? =some p) -> a'.defers=a.defers -> Q .normal a' w') ->
 (EC ops early false m t L=true -> UR F 0 P ops (NP Q) (RZ ops (fun j=>early.contains j) (fun j=>Zs (Is xs nw j) ρ w)) m L a w)/\
 (EC ops early true m t L=true -> ∀ i∈UF t,i∈Region.ready .any ops L -> ∃ m',m=m'+1/\ wpOpIn F 0 P ops (NP Q) i (fun a' w'=>RZ ops (fun j=>early.contains j) (fun j=>Zs (Is xs nw j) ρ w) i w w'/\ UR F 0 P ops (NP Q) (RZ ops (fun j=>early.contains j) (fun j=>Zs (Is xs nw j) ρ w)) m' (L.setIfInBounds i true) a' w') a w):=by
 intro t
 induction t with
 | no=>
  intro m L S ρ a w vs Aa Ze A2 R hV hv hQ;exact ⟨fun h=>by cases m <;> simp [EC] at h,fun _ i hi=>by cases hi⟩
 | fin π live=>
  intro m L S ρ a w vs Aa Ze A2 R hV hv hQ;refine ⟨fun h=>?_,fun h=>by cases m <;> simp [EC] at h⟩;cases m with
  | succ m=>simp [EC] at h
  | zero=>
   simp only [EC,zAT,zAi] at h;refine oW h ?_;simp only [K7] at hV;split at hV
   ·rename_i hσ;cases hV;simp only [gC,zAN,zAx,zAT,zAi] at hσ;obtain ⟨ρ0,R0,Jy,k0⟩:=Az.forget (L:=L0) live S.fr S.h P Γ N ρ a w R;obtain ⟨ρ',R',C4,k'⟩:=Az.compact (L:=L0) (Uv π L0) ⟨forget live S.fr,S.h⟩ hσ.1.1 (fun k hk=>hσ.1.2 k hk) (fun k hk=>hσ.2 k hk) P Γ N ρ0 a w R0;have st:=Jy.trans C4;have e:E2 (Uv π L0) ⟨forget live S.fr,S.h⟩=S':=hv.1;rw [e] at R' st C4;exact hQ ρ' a w R' st (fun k p hk hp=>k' k p hk (k0 k p hk hp)) rfl
   ·cases hV
 | rd i t ih=>
  intro m L S ρ a w vs Aa Ze A2 R hV hv hQ;refine ⟨fun h=>?_,fun h=>by cases m <;> simp [EC] at h⟩;cases m with
  | zero=>simp [EC] at h
  | succ m=>
   simp only [EC,zAN] at h;simp only [K7] at hV;split at hV
   ·cases hV
   ·rename_i o ho;split at hV
    ·rename_i H3;split at hV
     ·cases hV
     ·rename_i S1 CG Jf hp;split at hV
      ·cases hV
      ·rename_i Dq Fo h2;cases hV;obtain ⟨B0,B7⟩:=Cv.1 hv;have RK:=AS.sel R (fun k=>!(Jn ops xs nw i).contains k);obtain ⟨e1,Dg⟩:=Rf RK hp B0;have CL: ∀ v,(a.put o.dst v).defers=a.defers:=fun v=>by cases ho:o.dst <;> simp [Act.put]
       have KY:(Region.ready .any ops L).contains i=true:=by
        have:=h.1;simp only [O2,zAN] at this;exact this.1.1.1
       have back: ∀ v,BC (MS (fun b=>N b∨∃ k o q,(!(Jn ops xs nw i).contains k)=false/\ S.h[k]? =some (some o)/\ ρ[k]? =some q/\ q.foot b) S1.h ρ) w ρ S1.fr (a.put o.dst v).tmps -> AS P Γ N ⟨S1.fr,S.h⟩ ρ (a.put o.dst v) w:=fun v hr=>by
        rw [e1] at hr;exact AS.unsel (p:=fun k=>!(Jn ops xs nw i).contains k) R.hr hr
       have hZ: ∀ j,El ops ops.size j i=false -> ∀ b,Zs (Is xs nw j) ρ w b -> Zs (Jn ops xs nw i) ρ w b:=by
        rintro j hj b (⟨k,q,k1,k2,k3⟩ | hb)
        ·refine .inl ⟨k,q,?_,k2,k3⟩;unfold Is at k1;unfold Jn;rcases zD5.1 k1 with k1 | k1
         ·obtain ⟨p,p1,p2⟩:=zEI.1 k1;obtain ⟨p3,p4⟩:=zE3.1 p1;have:p.1=j:=by simpa using p4
          exact zD5.2 (.inl (zEI.2 ⟨p,zE3.2 ⟨p3,by rw [this,hj];rfl⟩,p2⟩))
         ·exact zD5.2 (.inr k1)
        ·exact .inr hb
       rcases Dg with ⟨hw,v,g1,g2⟩ | ⟨hw,g2⟩
       ·refine VM (Zi:=Zs (Jn ops xs nw i) ρ w) hF.fn Au hs (fun c a d v w h=>NP.put c a d v w h) ho A2 h.1 hZ (fun _ _ h=>by cases h) (.inl ⟨hw,fun W hu=>g1 W (wl R.hr H3 hu)⟩) ?_;exact (ih m _ (T0 A2 KY) (back v g2.fr) h2 B7 fun ρ' a' w' q1 q2 q3 q4=>hQ ρ' a' w' q1 q2 q3 (q4.trans (CL v))).1 h.2
       ·refine VM (Zi:=Zs (Jn ops xs nw i) ρ w) hF.fn Au hs (v:=undef) (fun c a d v w h=>NP.put c a d v w h) ho A2 h.1 hZ (fun _ _ h=>by cases h) (.inr ⟨hw,rfl⟩) ?_;exact (ih m _ (T0 A2 KY) (back undef g2.fr) h2 B7 fun ρ' a' w' q1 q2 q3 q4=>hQ ρ' a' w' q1 q2 q3 (q4.trans (CL undef))).1 h.2
    ·cases hV
 | ef i t HV xS KR=>
  intro m L S ρ a w vs Aa Ze A2 R hV hv hQ;simp only [K7] at hV;split at hV
  ·cases hV
  ·rename_i o ho;split at hV
   ·cases hV
   ·rename_i S1 CG ext Ec h1;split at hV
    ·rename_i Wl;simp only [m6,zAN,zAz] at Wl;obtain ⟨⟨⟨H3,zAk⟩,zAG⟩,zAX⟩:=Wl;split at hV
     ·cases hV
     rename_i Dq Fo h2;split at hV
     ·cases hV
     ·rename_i Og KC h3;cases hV;obtain ⟨B0,EF⟩:=Cv.1 hv;obtain ⟨B7,IX⟩:=Cv.1 EF;have A:=KR m L A2 R h3 IX hQ
      have sub: ∀ {j k:Nat},k∈Is xs nw j -> k∈Qd xs nw:=fun {j k} hk=>by
       unfold Is at hk;unfold Qd;rcases zD5.1 hk with hk | hk
       ·obtain ⟨p,p1,p2⟩:=zEI.1 hk;exact zD5.2 (.inl (zEI.2 ⟨p,(zE3.1 p1).1,p2⟩))
       ·exact zD5.2 (.inr hk)
      have one: ∀ b,EC ops early b m (.ef i t HV) L=true -> (Region.ready .any ops L).contains i=true -> ∃ m',m=m'+1/\ EC ops early true m HV L=true/\ wpOpIn F 0 P ops (NP Q) i (fun a' w'=>RZ ops (fun j=>early.contains j) (fun j=>Zs (Is xs nw j) ρ w) i w w'/\ UR F 0 P ops (NP Q) (RZ ops (fun j=>early.contains j) (fun j=>Zs (Is xs nw j) ρ w)) m' (L.setIfInBounds i true) a' w') a w:=by
       intro b hb hr;cases m with
       | zero=>cases b <;> simp [EC] at hb
       | succ m=>
        have DA:(!O9 ops i)=true/\ EC ops early false m t (L.setIfInBounds i true)=true/\ EC ops early true (m+1) HV L=true:=by
         cases b <;> simp only [EC,zAN] at hb <;> exact ⟨hb.1.1.2,hb.1.2,hb.2⟩
        obtain ⟨b1,b2,b3⟩:=DA;refine ⟨m,rfl,b3,?_⟩;unfold wpOpIn;simp only [ho];refine zDU hF R (Gg Au ho) h1 B0 fun ρ' a' w' R' st Ca JR xy=>?_
        refine ⟨⟨fun hp=>(by rw [hp] at b1;cases b1),fun he=>?_⟩,?_⟩
        ·rcases zAX with (h | h) | h
         ·have he:early.contains i=true:=he;rw [he] at h;cases h
         ·exact AP.ofExt (JR h)
         ·split at h
          ·rename_i k hk;refine (xy k hk).mono fun b _ hb=>?_
           obtain ⟨q,q1,q2⟩:=hb;exact .inl ⟨k,q,by simpa using h,q1,q2⟩
          ·cases h
        ·have T:=(xS m _ (T0 A2 hr) R' h2 B7 fun ρ2 a2 w2 q1 q2 q3 q4=>hQ ρ2 a2 w2 q1 (st.st.trans q2) (fun k p hk hp=>q3 k p hk (st.pl k p hp)) (q4.trans Ca)).1 b2;refine dh (fun j w1 w2 hR=>⟨hR.1,fun he=>(hR.2 he).mono fun b lm hb=>?_⟩) _ _ _ _ T;rcases hb with ⟨k,q,k1,k2,k3⟩ | hb
         ·by_cases hk:k<ρ.length
          ·have e:=st.pl k _ (zAM hk);rw [e] at k2;exact .inl ⟨k,q,k1,by rw [zAM hk];exact k2,k3⟩
          ·refine .inr ?_;rw [R.hr.len] at hk;rcases zAG with hx | hx
           ·have:=zAT.1 hx k (sub k1);simp only [zAx] at this;omega
           ·have CZ:k<S1.h.length:=by rw [←R'.hr.len];exact (zAS.1 k2).1
            have ha:=zAT.1 zAk k (sub k1);simp only [zAz,zAx] at ha;rcases ha with ha | ha
            ·omega
            ·cases hg:S1.h.getD k none with
             | none=>rw [hg] at ha;cases ha
             | some ob=>
              rcases st.st.grow b ⟨k,ob,q,getD_some hg,k2,k3⟩ with ⟨i2,o2,p2,g1,g2,g3⟩ | h
              ·exfalso
               have Ex:=(zAS.1 g1).1;have Nh:=zAT.1 hx i2 (zAi.2 Ex);have e2:S.h.getD i2 none=some o2:=by rw [u8,g1];rfl
               rw [e2] at Nh;cases lQ:S1.h.getD i2 none with
               | none=>rw [lQ] at Nh;cases Nh
               | some uw=>exact R'.hr.dis i2 k uw ob p2 q b (by omega) (getD_some lQ) (getD_some hg) (st.pl i2 p2 g2) k2 g3 k3
              ·exact h
         ·exact .inr (zAt st.st.upd.size hb)
      refine ⟨fun h=>?_,fun h j hj hr=>?_⟩
      ·have KY:Region.ready .any ops L=i::UF HV:=by
        cases m <;> simp only [EC,zAN,zAz,zDu,UF,zDJ,false_or] at h;exact h.1.1.1
       obtain ⟨m',e,ha,hw⟩:=one false h (by rw [KY];simp);subst e;refine ⟨by rw [KY];simp,fun j hj=>?_⟩;have Gm:=hj;rw [KY] at hj;rcases zA3.1 hj with rfl | hj
       ·exact hw
       ·obtain ⟨m2,e2,So⟩:=A.2 ha j hj Gm;cases e2;exact So
      ·rcases zA3.1 hj with rfl | hj
       ·obtain ⟨m',e,ha,hw⟩:=one true h (by simpa using hr);exact ⟨m',e,hw⟩
       ·have ha:EC ops early true m HV L=true:=by
         cases m <;> simp only [EC,zAN] at h
         ·cases h
         ·exact h.2
        exact A.2 ha j hj hr
    ·cases hV
theorem Tr.tree {F:Fence} {B:Option Nat} {L:Nat} {Y:BQ P Γ L} {Q:QY P Γ L} (hF:Cw F P) {id:Nat} {ops:Array Oper} {early:List Nat} {t:ST} {Aa Bz:BH} {S':St} {vs:List Prop} (hm:P.follows .mixedOrders=true) (hB:Bp ops early t)
 (h:Qg P Γ ops early t S Aa=some (S',vs,Bz)) (hv:Bc vs) (hk:Q .normal S' Y):Tr P Γ F B L Y (.region id ops true) S Q:=fun N ρ a w R y m b=>by
 simp only [Bp,zAN] at hB;obtain ⟨⟨h1,h2⟩,h3⟩:=hB;unfold Qg at h;split at h
 ·cases h
 split at h
 ·cases h
 ·rename_i hV;cases h;have hE:Aq w w.drew:=Aq.toDrew w;refine dl (X6 hm (zEu _) ((eA hF h3 h2 t ops.size _ cd (R.ext hE) hV hv fun ρ' a' w' R' st S5 Ca=>?_).1 h1));have C4:A6 S.h ρ w S'.h ρ' w':=(A6.ext hE).trans st;exact Tr.done R y m b hk R' C4 (fun k p _ hp=>S5 k p (by rw [←R.hr.len];exact (zAS.1 hp).1) hp) Ca
end
end Go.Proofs.YtkjbblkieglmlaaGreatDoor
namespace Go.Proofs.YtkjbblkieglmlaaGreatDoor
abbrev zFB:=@Go.wpIn_region_list
abbrev zF0:=@Go.IntKind.wrap_i64
end Go.Proofs.YtkjbblkieglmlaaGreatDoor
namespace Go.Proofs.YtkjbblkieglmlaaGreatDoor
open Go.RowKit
inductive KI where
 | code (c:Code)
 | blk (id:Nat)
 | scp
 | lend (J:St -> Prop)
 | loopN (m:Nat) (b:Code)
def Jl (P:Program) (Γ:Ar) (F:Fence) (B:Option Nat) (L:Nat) (b:Code) (Q:QY P Γ L):Nat -> St -> BQ P Γ L -> Prop
 | 0,_,_=>False
 | m+1,S,Y=>Tr P Γ F B L Y b S (Qh (Jl P Γ F B L b Q m) Q)
theorem Jl.loop {P:Program} {Γ:Ar} {F:Fence} {B:Option Nat} {L:Nat} {Y:BQ P Γ L} {b:Code} {Q:QY P Γ L} {m:Nat} {S:St} (h:Jl P Γ F B L b Q m S Y):Tr P Γ F B L Y (.loop b) S Q:=by
 refine Tr.loop (fun m S Y=>Jl P Γ F B L b Q m S Y) m h fun m S Y hm=>?_
 cases m with
 | zero=>exact hm.elim
 | succ m=>
  refine Tr.mono hm fun e S' Y' hq=>?_
  cases e with
  | normal=>exact ⟨m,Nat.lt_succ_self m,hq⟩
  | _=>exact hq
def Da (P:Program) (Γ:Ar) (F:Fence) (B:Option Nat) (L:Nat) (Q:QY P Γ L):List KI -> QY P Γ L
 | [],e,S,Y=>Q e S Y
 | .code c::k,e,S,Y=>match e with
  | .normal=>Tr P Γ F B L Y c S (Da P Γ F B L Q k)
  | e=>Da P Γ F B L Q k e S Y
 | .blk id::k,e,S,Y=>match e with
  | .exit i=>if i=id then Da P Γ F B L Q k .normal S Y else Da P Γ F B L Q k (.exit i) S Y
  | e=>Da P Γ F B L Q k e S Y
 | .scp::k,e,S,Y=>match e with
  | .goto _=>False
  | e=>Da P Γ F B L Q k e S Y
 | .lend J::k,e,S,Y=>match e with
  | .normal=>J S
  | e=>Da P Γ F B L Q k e S Y
 | .loopN m b::k,e,S,Y=>match e with
  | .normal=>Jl P Γ F B L b (Da P Γ F B L Q k) m S Y
  | e=>Da P Γ F B L Q k e S Y
def Ap (P:Program) (Γ:Ar) (F:Fence) (B:Option Nat) (L:Nat) (Y:BQ P Γ L) (Q:QY P Γ L) (k:List KI) (S:St):Prop:=Da P Γ F B L Q k .normal S Y
def stay {P:Program} {Γ:Ar} {L:Nat} (N:BQ P Γ L) (Q:Exit -> St -> Prop):QY P Γ L:=fun e S Y=>Y=N/\ Q e S
abbrev Be (P:Program) (Γ:Ar) (F:Fence) (B:Option Nat) (L:Nat) (N:BQ P Γ L) (Q:Exit -> St -> Prop) (k:List KI) (S:St):Prop:=Ap P Γ F B L N (stay N Q) k S
def IM (id:Nat):List KI -> Option (List KI)
 | []=>none
 | .blk i::k=>if id=i then some k else IM id k
 | _::k=>IM id k
inductive dY where
 | no
 | ord (st:List (List Nat×Nat)) (la ta:List Nat)
 | stop
 | tre (early:List Nat) (t:ST)
abbrev Bi:=Nat -> dY
def dY.isStop:dY -> Bool
 | .stop=>true
 | _=>false
def AV (i:Nat) (s:Bi):Bi:=fun j=>if j=i then .stop else s j
def Av (ops:Array Oper) (CS:List (List Nat×Nat)) (BL tail:List Nat):Prop:=(Ym ops CS BL tail&&CP ops&&tail.all fun t=>decide (t<ops.size))=true
inductive KO where
 | at (k:List KI)
 | ret
def B6 (P:Program) (Γ:Ar) (A7:Bi):Nat -> List KI -> St -> BH -> Option (KO×St×List Prop×BH)
 | 0,_,_,_=>none
 | n+1,k,S,o=>match k with
  | []=>some (.at [],S,[],o)
  | .blk _::k=>B6 P Γ A7 n k S o
  | .scp::k=>B6 P Γ A7 n k S o
  | .lend J::k=>some (.at (.lend J::k),S,[],o)
  | .loopN m b::k=>some (.at (.loopN m b::k),S,[],o)
  | .code c::k=>match c with
   | .skip=>B6 P Γ A7 n k S o
   | .seq a b=>B6 P Γ A7 n (.code a:: .code b::k) S o
   | .block id b=>B6 P Γ A7 n (.code b:: .blk id::k) S o
   | .scope b=>B6 P Γ A7 n (.code b:: .scp::k) S o
   | .label _=>B6 P Γ A7 n k S o
   | .exit id=>match IM id k with
    | some k'=>B6 P Γ A7 n k' S o
    | none=>some (.at (.code (.exit id)::k),S,[],o)
   | .ret=>some (.ret,S,[],o)
   | .cond x a b=>match AY S.fr x with
    | .bool true=>B6 P Γ A7 n (.code a::k) S o
    | .bool false=>B6 P Γ A7 n (.code b::k) S o
    | _=>none
   | .region id ops dr=>if (A7 id).isStop then some (.at (.code (.region id ops dr)::k),S,[],o) else match dr with
    | false=>if CP ops then match DX P Γ ops ops.toList S o with
     | none=>none
     | some (S',vs,o')=>match B6 P Γ A7 n k S' o' with
      | none=>none
      | some (r,CH,Bj,Rz)=>some (r,CH,vs++Bj,Rz)
     else none
    | true=>match A7 id with
     | .no=>none
     | .stop=>none
     | .tre early t=>match Qg P Γ ops early t S o with
      | none=>none
      | some (S',vs,o')=>match B6 P Γ A7 n k S' o' with
       | none=>none
       | some (r,CH,Bj,Rz)=>some (r,CH,Bp ops early t::(vs++Bj),Rz)
     | .ord st la ta=>match hseq P Γ ops S.h st la ta S o with
      | none=>none
      | some (S',vs,o')=>match B6 P Γ A7 n k S' o' with
       | none=>none
       | some (r,CH,Bj,Rz)=>some (r,CH,Av ops st la ta::(vs++Bj),Rz)
   | c=>some (.at (.code c::k),S,[],o)
section
variable {P:Program} {Γ:Ar} {F:Fence} {B:Option Nat} {L:Nat} {Y:BQ P Γ L} {Q:QY P Γ L}
theorem zBA (hF:Cw F P) {S:St} {id:Nat} {ops:Array Oper} {Aa Bz:BH} {S':St} {vs:List Prop} {Q:QY P Γ L} (Au:CP ops=true) (h:DX P Γ ops ops.toList S Aa=some (S',vs,Bz)) (hv:Bc vs) (hk:Q .normal S' Y):Tr P Γ F B L Y (.region id ops false) S Q:=fun N ρ a w R y m b=>
 zFB (JY hF Au _ (fun o ho=>by simpa using ho) R h hv fun ρ' a' w' R' st Ca=>Tr.done R y m b hk R' st.st (fun k p _ hp=>st.pl k p hp) Ca)
theorem yI (hF:Cw F P) {S:St} {id:Nat} {ops:Array Oper} {CS:List (List Nat×Nat)} {BL tail:List Nat} {Aa Bz:BH} {S':St} {vs:List Prop} {Q:QY P Γ L} (hm:P.follows .mixedOrders=true) (hB:Av ops CS BL tail)
 (h:hseq P Γ ops S.h CS BL tail S Aa=some (S',vs,Bz)) (hv:Bc vs) (hk:Q .normal S' Y):Tr P Γ F B L Y (.region id ops true) S Q:=fun N ρ a w R y m b=>by
 simp only [Av,zAN] at hB;obtain ⟨⟨h1,h2⟩,h3⟩:=hB;have hE:Aq w w.drew:=Aq.toDrew w;refine dj hF.fn CS BL tail hm (by simp only [zAN];exact ⟨h1,h2⟩) (yJ hF h2 CS BL tail h3 (R.ext hE) (Ci.refl _ _ _) (Aq.refl _) h hv fun ρ' a' w' R' st Ca=>?_);have C4:A6 S.h ρ w S'.h ρ' w':=(A6.ext hE).trans st.st;exact Tr.done R y m b hk R' C4 (fun k p _ hp=>st.pl k p hp) Ca
theorem ND {id:Nat} {S:St}: ∀ {k k':List KI},IM id k=some k' -> Da P Γ F B L Q k' .normal S Y -> Da P Γ F B L Q k (.exit id) S Y
 | [],_,h,_=>by cases h
 | .blk i::k,k',h,hq=>by
  unfold IM at h;split at h
  ·rename_i e;cases h;subst e
   show (if id=id then _ else _)
   rw [zAE rfl];exact hq
  ·rename_i e
   show (if id=i then _ else _)
   rw [zAU e];exact ND h hq
 | .code c::k,k',h,hq=>ND (k:=k) h hq
 | .lend J::k,k',h,hq=>ND (k:=k) h hq
 | .scp::k,k',h,hq=>ND (k:=k) h hq
 | .loopN m b::k,k',h,hq=>ND (k:=k) h hq
theorem LV {S:St} (h:Q .ret S Y): ∀ (k:List KI),Da P Γ F B L Q k .ret S Y
 | []=>h
 | .blk _::k=>LV h k
 | .code _::k=>LV h k
 | .lend _::k=>LV h k
 | .scp::k=>LV h k
 | .loopN _ _::k=>LV h k
def KOk (P:Program) (Γ:Ar) (F:Fence) (B:Option Nat) (L:Nat) (Y:BQ P Γ L) (Q:QY P Γ L):KO -> St -> Prop
 | .at k,S=>Ap P Γ F B L Y Q k S
 | .ret,S=>Q .ret S Y
theorem FH (hF:Cw F P) (hm:P.follows .mixedOrders=true) {A7:Bi}: ∀ (n:Nat) (k:List KI) (S:St) (o:BH) (r:KO) (S':St) (vs:List Prop) (o':BH),B6 P Γ A7 n k S o=some (r,S',vs,o') -> Bc vs -> KOk P Γ F B L Y Q r S' -> Ap P Γ F B L Y Q k S
 | 0,_,_,_,_,_,_,_,h,_,_=>by cases h
 | n+1,k,S,o,r,S',vs,o',h,hv,hk=>by
  unfold B6 at h;cases k with
  | nil=>cases h;exact hk
  | cons i k=>
   cases i with
   | blk id=>exact FH hF hm n k S o r S' vs o' h hv hk
   | scp=>exact FH hF hm n k S o r S' vs o' h hv hk
   | lend J=>cases h;exact hk
   | loopN m b=>cases h;exact hk
   | code c=>
    show Tr P Γ F B L Y c S (Da P Γ F B L Q k)
    cases c with
    | skip=>exact Tr.skip (FH hF hm n k S o r S' vs o' h hv hk)
    | seq a b=>
     refine Tr.seq (Tr.mono (FH hF hm n (.code a:: .code b::k) S o r S' vs o' h hv hk) fun e S2 Y2 hq=>?_);cases e <;> exact hq
    | block id b=>
     refine Tr.block (Tr.mono (FH hF hm n (.code b:: .blk id::k) S o r S' vs o' h hv hk) fun e S2 Y2 hq=>?_);cases e <;> exact hq
    | exit id=>
     simp only at h;split at h
     ·rename_i k' hp;exact Tr.exit (ND hp (FH hF hm n k' S o r S' vs o' h hv hk))
     ·cases h;exact hk
    | ret=>cases h;exact Tr.ret (LV hk k)
    | cond x a b=>
     simp only at h;split at h
     ·rename_i hc;exact Tr.cond hc (fun _=>FH hF hm n (.code a::k) S o r S' vs o' h hv hk) (fun e=>by cases e)
     ·rename_i hc;exact Tr.cond hc (fun e=>by cases e) (fun _=>FH hF hm n (.code b::k) S o r S' vs o' h hv hk)
     ·cases h
    | region id ops dr=>
     simp only at h;split at h
     ·cases h;exact hk
     ·cases dr with
      | false=>
       simp only at h;split at h
       ·rename_i Au;split at h
        ·cases h
        ·rename_i S1 CG o1 h1;split at h
         ·cases h
         ·rename_i r2 S2 Dq o2 h2;cases h;obtain ⟨B0,B7⟩:=Cv.1 hv;exact zBA hF Au h1 B0 (FH hF hm n k S1 o1 _ _ _ _ h2 B7 hk)
       ·cases h
      | true=>
       simp only at h;split at h
       ·cases h
       ·cases h
       ·rename_i early t hs;split at h
        ·cases h
        ·rename_i S1 CG o1 h1;split at h
         ·cases h
         ·rename_i r2 S2 Dq o2 h2;cases h;obtain ⟨PX,EF⟩:=hv;obtain ⟨B0,B7⟩:=Cv.1 EF;exact Tr.tree hF hm PX h1 B0 (FH hF hm n k S1 o1 _ _ _ _ h2 B7 hk)
       ·rename_i st la ta hs;split at h
        ·cases h
        ·rename_i S1 CG o1 h1;split at h
         ·cases h
         ·rename_i r2 S2 Dq o2 h2;cases h;obtain ⟨PX,EF⟩:=hv;obtain ⟨B0,B7⟩:=Cv.1 EF;exact yI hF hm PX h1 B0 (FH hF hm n k S1 o1 _ _ _ _ h2 B7 hk)
    | loop b=>cases h;exact hk
    | rangeFunc f ps UA bd=>cases h;exact hk
    | scope b=>
     refine Tr.scope (Tr.mono (FH hF hm n (.code b:: .scp::k) S o r S' vs o' h hv hk) fun e S2 Y2 hq=>?_);cases e <;> exact hq
    | label l=>exact Tr.label (FH hF hm n k S o r S' vs o' h hv hk)
    | goto l=>cases h;exact hk
    | refuse w=>cases h;exact hk
theorem Ap.weaken {k:List KI} {S S':St} (hS:Az L S S') (h:Ap P Γ F B L Y Q k S') (hk: ∃ c k',k= .code c::k'):Ap P Γ F B L Y Q k S:=by
 obtain ⟨c,k',rfl⟩:=hk;exact Tr.weaken hS h
def Nb:List KI -> Bool
 | .code (.loop _)::_=>true
 | _=>false
def DF (k:List KI):List KI:=match k with
 | _::rest=>rest
 | []=>[]
def L9 (id:Nat):List Nat -> Code -> List KI -> Option (List KI)
 | ms,.seq a b,k=>match L9 id ms a (.code b::k) with
  | some r=>some r
  | none=>L9 id ms b k
 | ms,.cond _ a b,k=>match L9 id ms a k with
  | some r=>some r
  | none=>L9 id ms b k
 | ms,.block i c,k=>if i=id then some (.code c:: .blk i::k) else L9 id ms c (.blk i::k)
 | ms,.scope c,k=>L9 id ms c (.scp::k)
 | m::ms,.loop b,k=>L9 id ms b (.loopN m b::k)
 | _,_,_=>none
def MA (id:Nat):List Nat -> Code -> List KI -> Option (List KI)
 | ms,.seq a b,k=>match MA id ms a (.code b::k) with
  | some r=>some r
  | none=>MA id ms b k
 | ms,.cond _ a b,k=>match MA id ms a k with
  | some r=>some r
  | none=>MA id ms b k
 | ms,.block i c,k=>MA id ms c (.blk i::k)
 | ms,.scope c,k=>MA id ms c (.scp::k)
 | m::ms,.loop b,k=>MA id ms b (.loopN m b::k)
 | _,.region i ops dr,k=>if i=id then some (.code (.region i ops dr)::k) else none
 | _,_,_=>none
def A3 (m:Nat) (k:List KI):List KI:=match k with
 | .code (.loop b)::rest=>.loopN m b::rest
 | _=>[]
def d7 (m:Nat) (k:List KI):List KI:=match k with
 | .code (.loop b)::rest=>.code b:: .loopN m b::rest
 | _=>[]
def start (f:Func):List KI:=match f.body with
 | some c=>[.code c]
 | none=>[]
def I2 (c:Code) (id:Nat):Array Oper:=match c with
 | .region i ops _=>if i=id then ops else #[]
 | .seq a b=>let x:=I2 a id;if x.size=0 then I2 b id else x
 | .cond _ a b=>let x:=I2 a id;if x.size=0 then I2 b id else x
 | .block _ c=>I2 c id
 | .loop c=>I2 c id
 | .scope c=>I2 c id
 | .rangeFunc _ _ a b=>let x:=I2 a id;if x.size=0 then I2 b id else x
 | _=>#[]
def Ah (f:Func) (id:Nat):Array Oper:=match f.body with
 | some c=>I2 c id
 | none=>#[]
theorem Be.enter {k:List KI} {S:St} (m:Nat) (hk:Nb k=true) (h:Ap P Γ F B L Y Q (A3 m k) S):Ap P Γ F B L Y Q k S:=by
 unfold Nb at hk;split at hk
 ·exact Jl.loop h
 ·cases hk
theorem Be.round {k:List KI} {S:St} {n m:Nat} (hm:n+1<=m) (hk:Nb k=true) (h: ∀ m,n<=m -> Ap P Γ F B L Y Q (d7 m k) S):Ap P Γ F B L Y Q (A3 m k) S:=by
 cases m with
 | zero=>omega
 | succ m=>
  have h:=h m (Nat.le_of_succ_le_succ hm);unfold Nb at hk;split at hk
  ·refine Tr.mono h fun e S' Y' hq=>?_
   cases e <;> exact hq
  ·cases hk
def AG (n:Nat) (l:List (Nat×DV)):List DV:=(List.range n).map fun i=>match l.find? (fun x=>x.1==i) with
 | some x=>x.2
 | none=>.any
theorem DD.le {fn:Func} {d:DV} {h':DH} {e:Exit} {S S':St} (hS:Az L S S') (h:DD P fn L d h' e S'):DD P fn L d h' e S:=by
 obtain ⟨he,CH,h1,h2⟩:=h;exact ⟨he,CH,hS.trans h1,h2⟩
theorem ES.of_trk {f:Nat} {fn:Func} {ds:List DV} {h:DH} {d:DV} {h':DH} {ext:Bool} (hf:P.funcs[f]? =some fn) (hb:fn.body.isSome=true) (Ns:(fn.name== "runtime.NumGoroutine")=false) (Sy:SH h') (JR:ext=true -> h= [])
 (H: ∀ (B:Nat) (N:BQ P Γ h.length),Be P Γ Fence.wide (some B) h.length N (DD P fn h.length d h') (start fn) ⟨ds++List.replicate (fn.ntmps-ds.length) .any,h⟩):ES P Γ f ds h d h' ext:=by
 cases hc:fn.body with
 | none=>rw [hc] at hb;cases hb
 | some c=>
  refine ES.of_tr hf hc (by simpa using Ns) Sy (fun B N=>?_) JR;have:=H B N;unfold start at this;rw [hc] at this;refine Tr.mono this fun e S Y hq=>?_
  cases e <;> exact hq
def Eo:DV -> Bool
 | .mse .. =>false
 | .mri .. =>false
 | .ref .. =>false
 | .msl .. =>false
 | .mp .. =>false
 | .it _=>false
 | .agg m f=>(List.range m).all fun j=>Eo (f j)
 | .tup m f=>(List.range m).all fun j=>Eo (f j)
 | .fn _ m f=>(List.range m).all fun j=>Eo (f j)
 | _=>true
theorem KD: ∀ {d:DV},Eo d=true -> H9 d:=by
 intro d
 induction d with
 | any=>exact fun _ _ _ _ _ _=>trivial
 | nils=>exact fun _ _ _ _ _ h=>h
 | int k n=>exact fun _ _ _ _ _ h=>h
 | bool b=>exact fun _ _ _ _ _ h=>h
 | str s=>exact fun _ _ _ _ _ h=>h
 | ints l=>exact fun _ _ _ _ _ h=>h
 | bools l=>exact fun _ _ _ _ _ h=>h
 | sl m n f _=>exact fun _ _ _ _ _ h=>h
 | fp m f _=>exact fun _ _ _ _ _ h=>h
 | agg m f ih=>exact fun hb=>H9.agg fun j hj=>ih j (zAT.1 hb j (zAi.2 hj))
 | tup m f ih=>exact fun hb=>H9.tup fun j hj=>ih j (zAT.1 hb j (zAi.2 hj))
 | ref k j=>exact fun hb=>by cases hb
 | msl k m o n=>exact fun hb=>by cases hb
 | mp k m i j=>exact fun hb=>by cases hb
 | fn g m c ih=>exact fun hb M w ρ v ⟨cs,e,hs,hc⟩=>⟨cs,e,hs,fun j hj=>let ⟨u,h1,h2⟩:=hc j hj;⟨u,h1,ih j (zAT.1 hb j (zAi.2 hj)) M w ρ u h2⟩⟩
 | it k=>exact fun hb=>by cases hb
 | yl l=>exact fun _ _ _ _ _ h=>h
 | cst u=>exact fun _ _ _ _ _ h=>h
 | mse k m o n=>exact fun hb=>by cases hb
 | mri k i=>exact fun hb=>by cases hb
theorem ES.frameB {f:Nat} {ds:List DV} {d:DV} (h0:ES P Γ f ds [] d [] true) (h:DH) (D8:ds.all Eo=true):ES P Γ f ds h d h true:=h0.frame (fun x hx=>KD (zAT.1 D8 x hx)) h
def U1:DV -> Bool
 | .int .. =>true
 | .bool _=>true
 | .tup m f=>(List.range m).all fun j=>match f j with
  | .int .. =>true
  | .bool _=>true
  | _=>false
 | _=>false
theorem qb {d:DV} (h:U1 d=true):Gz d:=by
 unfold U1 at h;split at h
 ·exact Gz.int _ _
 ·exact Gz.bool _
 ·rename_i m f;refine Gz.tup fun j hj=>?_
  have:=zAT.1 h j (zAi.2 hj);split at this
  ·rename_i e;rw [e];exact Gz.int _ _
  ·rename_i e;rw [e];exact Gz.bool _
  ·cases this
 ·cases h
def MN (h:DH):List DV -> List DV -> Prop
 | [],[]=>True
 | d::ds,d0::Dw=>Ac h d d0/\ MN h ds Dw
 | _,_=>False
theorem QS {h:DH}: ∀ {ds Dw:List DV},MN h ds Dw -> Dw.length=ds.length/\ ∀ i,i<ds.length -> Ac h (ds.getD i .any) (Dw.getD i .any)
 | [],[],_=>⟨rfl,fun i hi=>absurd hi (zAo i)⟩
 | d::ds,d0::Dw,⟨h1,h2⟩=>by
  obtain ⟨e,g⟩:=QS h2;refine ⟨by simp [e],fun i hi=>?_⟩;cases i with
  | zero=>exact h1
  | succ i=>exact g i (by simpa using hi)
 | [],_::_,h=>h.elim
 | _::_,[],h=>h.elim
theorem Ac.plain {h:DH} {d:DV} (hn:Eo d=true):Ac h d d:=Ac.nref (KD hn)
theorem Ac.nils {h:DH}:Ac h .nils (.ints []):=fun _ _ _ _ _ _ _ hr=>AR.ints_nil _ _ _ _ (AM.out _ (C6 (M:=fun _=>False) (fun _ hb=>hb) []) hr)
theorem ES.snapB {f:Nat} {ds Dw:List DV} {d:DV} (h0:ES P Γ f Dw [] d [] true) (h:DH) (hs:MN h ds Dw) (hd:U1 d=true):ES P Γ f ds h d h true:=ES.snap h0 h (QS hs).1 (QS hs).2 (qb hd)
theorem AR.of_eq {d d':DV} (h:d=d'):AR d d':=by rw [h];exact AR.refl _
theorem PV {M:Nat -> Prop} {w:World} {ρ:List AI} {v:Value} {l:List Int} (h:AM M w (.ints l) ρ v):l.length<=LB:=let ⟨_,_,_,_,h,_⟩:=h;h
theorem oT {x c:Int} (h1:x=c) (h2: -9223372036854775808<=c) (h3:c<=9223372036854775807):IntKind.i64.wrap x=c:=by
 subst h1;rw [zF0];omega
end
end Go.Proofs.YtkjbblkieglmlaaGreatDoor
namespace Go.Proofs.YtkjbblkieglmlaaGreatDoor
open Go.RowKit
def MQ (w:World):Prop:=TabAt 1 Lib.deBruijn64tab w
def GG:Ar where
 ng:=2
 gi:=fun w=>MQ w/\ 2<=w.heap.size
 st:=fun w w' h hu=>⟨fun j hj=>hu.cell (by show ¬ (2<=1);omega) (h.1 j hj),zAt h.2 hu.size⟩
 lo:=fun w h=>h.2
end Go.Proofs.YtkjbblkieglmlaaGreatDoor
namespace Go.Proofs.YtkjbblkieglmlaaGreatDoor
abbrev zFf:=@List.all_cons
end Go.Proofs.YtkjbblkieglmlaaGreatDoor
namespace Go.Proofs.YtkjbblkieglmlaaGreatDoor
open Go.RowKit
theorem Bs {α:Type} {c:Prop} [Decidable c] {a:Option α} {r:α} (h:(if c then a else none)=some r):c/\ a=some r:=by
 split at h
 ·exact ⟨by assumption,h⟩
 ·cases h
theorem FP {α β:Type} {o:Option β} {f:β -> Option α} {r:α} (h:o.bind f=some r): ∃ v,o=some v/\ f v=some r:=by
 cases o with
 | none=>cases h
 | some v=>exact ⟨v,rfl,h⟩
theorem Br {α:Type} {b:Bool} {x y:Option α} {r:α} (h:(bif b then x else y)=some r):(b=true/\ x=some r)∨(b=false/\ y=some r):=by
 cases b
 ·exact .inr ⟨rfl,h⟩
 ·exact .inl ⟨rfl,h⟩
def t8:Int -> Bool
 | .ofNat n=>Nat.ble n 9223372036854775807
 | .negSucc n=>Nat.ble n 9223372036854775807
def AL (x:Int):Prop:=t8 x=true
instance (x:Int):Decidable (AL x):=by unfold AL;infer_instance
theorem As {x:Int}:AL x↔-9223372036854775808<=x/\ x<=9223372036854775807:=by
 unfold AL;cases x with
 | ofNat n=>
  show Nat.ble n 9223372036854775807=true↔_
  rw [Nat.ble_eq];simp only [Int.ofNat_eq_natCast];omega
 | negSucc n=>
  show Nat.ble n 9223372036854775807=true↔_
  rw [Nat.ble_eq];omega
theorem oU {x:Int} (h:AL x):AR (.int .i64 (IntKind.i64.wrap x)) (.int .i64 x):=AR.int (oT rfl (As.1 h).1 (As.1 h).2)
def comp (live σ:List Nat) (S:St):St:=E2 σ ⟨forget live S.fr,S.h⟩
def Iy (σ:List Nat) (L n:Nat):Bool:=decide σ.Nodup&&σ.all (fun k=>decide (k<n))&&(List.range L).all fun k=>decide (σ[k]? =some k)
theorem Az.comp {L:Nat} (live σ:List Nat) (S:St) (h:Iy σ L S.h.length=true):Az L S (comp live σ S):=by
 simp only [Iy,zAN,zAx,zAT,zAi] at h;exact (Az.forget live S.fr S.h).trans (Az.compact σ _ h.1.1 (fun k hk=>h.1.2 k hk) (fun k hk=>h.2 k hk))
def Rr (live σ:List Nat) (L:Nat) (r:KO×St×List Prop×BH):KO×List DV×DH×List Prop×List (DV×DH×Bool)×List (Nat×DV)×Bool:=(r.1,(Proofs.YtkjbblkieglmlaaGreatDoor.comp live σ r.2.1).fr,(Proofs.YtkjbblkieglmlaaGreatDoor.comp live σ r.2.1).h,r.2.2.1,r.2.2.2.calls,r.2.2.2.co,Iy σ L r.2.1.h.length)
section
variable {P:Program} {Γ:Ar} {F:Fence} {B:Option Nat} {L:Nat} {Y N:BQ P Γ L} {Q:QY P Γ L}
theorem um {A7:Bi} {n:Nat} {k:List KI} {S:St} {o:BH} {live σ:List Nat} {r:KO} {fr:List DV} {h':DH} {vs:List Prop} (h:(B6 P Γ A7 n k S o).map (Rr live σ L)=some (r,fr,h',vs,[],[],true)):
 ∃ S' o',B6 P Γ A7 n k S o=some (r,S',vs,o')/\ Az L S' ⟨fr,h'⟩:=by
 cases hr:B6 P Γ A7 n k S o with
 | none=>rw [hr] at h;cases h
 | some r=>
  obtain ⟨r1,S1,CG,⟨c1,o1,z1,g1⟩⟩:=r;rw [hr] at h;simp only [zA2,Rr,zA4,zD6] at h;obtain ⟨rfl,rfl,rfl,rfl,rfl,rfl,hs⟩:=h;exact ⟨S1,_,rfl,Az.comp live σ S1 hs⟩
def Hr:List KI -> Bool
 | .code _::_=>true
 | .loopN _ _::_=>true
 | _=>false
theorem Jl.weaken {b:Code} {m:Nat} {S S':St} (hS:Az L S S') (h:Jl P Γ F B L b Q m S' Y):Jl P Γ F B L b Q m S Y:=by
 cases m with
 | zero=>exact h.elim
 | succ m=>exact Tr.weaken hS h
theorem Be.le {k:List KI} {S S':St} (hS:Az L S S') (hc:Hr k=true) (h:Ap P Γ F B L Y Q k S'):Ap P Γ F B L Y Q k S:=by
 unfold Hr at hc;split at hc
 ·exact Ap.weaken hS h ⟨_,_,rfl⟩
 ·exact Jl.weaken hS h
 ·cases hc
theorem Az.frzE {S:St} (k:Nat) (S':St) (vs:List Prop) (h:TS k S=some (S',vs)) (hv:Bc vs):Az L S S':=fun P Γ N ρ a w R=>
 ⟨ρ,(Dx.frzE k S' vs h hv P Γ N ρ a w R).1,(Dx.frzE k S' vs h hv P Γ N ρ a w R).2,B8.refl _ _⟩
theorem Az.compE {S:St} (σ:List Nat) (h:Iy σ L S.h.length=true):Az L S (E2 σ S):=by
 simp only [Iy,zAN,zAx,zAT,zAi] at h;exact Az.compact σ _ h.1.1 (fun k hk=>h.1.2 k hk) (fun k hk=>h.2 k hk)
def Vs:Option DO -> Bool
 | some (.iter _)=>false
 | _=>true
theorem NR {h:DH} (hb:h.all Vs=true):SH h:=fun k encs hk=>by
 have:=zAT.1 hb _ (zDy hk);cases this
theorem Ac.refL {h:DH} {k:Nat} {l l0:List DV} (hk:h[k]? =some (some (.cells l))) (hs:MN h l l0):Ac h (.ref k 0) (.fp l.length (fun j=>l0.getD j .any)):=
 Ac.ref hk (zAp _) fun j hj=>(QS hs).2 j hj
theorem Ac.fnL {h:DH} {g:Nat} {l l0:List DV} (hs:MN h l l0):Ac h (.fn g l.length (fun j=>l.getD j .any)) (.fn g l.length (fun j=>l0.getD j .any)):=by
 rintro P Γ N ρ w v H ⟨lb,e,hl,hc⟩;exact ⟨lb,e,hl,fun j hj=>let ⟨u,h1,h2⟩:=hc j hj;⟨u,h1,(QS hs).2 j hj P Γ N ρ w u H h2⟩⟩
theorem AR.ixI (l:List Int) {n:Int} {m:Nat} (hm:m=l.length) (h:(0:Int)<=n/\ n<((m:Nat):Int)):AR ((l.map (DV.int .i64)).getD n.toNat .any) (.int .i64 (l.getD n.toNat 0)):=by
 subst hm;have hl:n.toNat<l.length:=by omega
 have:(l.map (DV.int .i64)).getD n.toNat .any= .int .i64 (l.getD n.toNat 0):=by simp [hl]
 rw [this];exact AR.refl _
theorem AR.mslN {k m o n n':Nat} (h:n=n'):AR (.msl k m o n) (.msl k m o n'):=by rw [h];exact AR.refl _
def sn:DO -> Bool
 | .ints _=>true
 | .bools _=>true
 | _=>false
theorem ES.snapNew {f:Nat} {ds Dw:List DV} {m n:Nat} {o:DO} (h0:ES P Γ f Dw [] (.msl 0 m 0 n) [some o] true) (h:DH) (hs:MN h ds Dw) (ho:sn o=true):ES P Γ f ds h (.msl h.length m 0 n) (h++[some o]) true:=by
 obtain ⟨hl,hs⟩:=QS hs;refine ⟨h0.1,fun N ρ w args HR Cb=>?_⟩;refine (h0.2 (fun _=>False) [] w args (Pb (fun b hb=>hb.elim) HR.gi) ⟨by rw [hl];exact Cb.1,fun i hi=>?_⟩).mono ?_
 ·rw [hl] at hi;exact AM.out _ (C6 (fun b hb=>OZ.1 hb) []) (hs i hi P Γ N ρ w _ HR (Cb.2 i hi))
 ·rintro e w' ⟨v,rfl,⟨⟨ρ',g1,g2,g3,g4⟩,g5⟩⟩;have hE:=g5 rfl;obtain ⟨p,hp,C8⟩:=g1.obj 0 o rfl;have hf: ∀ b,p.foot b -> w.heap.size<=b:=fun b hb=>(g3.grow b ⟨0,o,p,rfl,hp,hb⟩).resolve_left fun ⟨k,o',p',q1,_⟩=>by simp at q1
  obtain ⟨p',cap,BF,e1,e2,e3,e4⟩:=g2;have ep:p'=p:=zAR (BF.symm.trans hp);subst ep;refine ⟨v,rfl,⟨⟨ρ++[p'],HR.snoc hE (fun b hb=>⟨hf b hb,(g1.cel 0 o p' b rfl hp hb).2.2⟩) ?_,⟨p',cap,by rw [←HR.len];simp,e1,e2,e3,e4⟩,A6.snoc HR hE hf,fun _ _ h=>ET h⟩,g5⟩⟩;cases o with
  | ints l=>exact AX.out C8 rfl fun j u _ hu=>hu
  | bools l=>exact AX.out C8 rfl fun j u _ hu=>hu
  | cells l=>cases ho
  | arr m n f=>cases ho
  | iter encs=>cases ho
  | mo x=>cases ho
  | ro l=>cases ho
theorem dO {h:DH}: ∀ {ds:List DV},ds.all Eo=true -> MN h ds ds
 | [],_=>trivial
 | d::ds,hd=>by
  simp only [zFf,zAN] at hd;exact ⟨Ac.plain hd.1,dO hd.2⟩
theorem AR.aggL {m:Nat} {l l':List DV} (hm:m=l.length) (h:MP l l'):AR (.agg m (fun j=>l.getD j .any)) (.agg m (fun j=>l'.getD j .any)):=by
 subst hm;rintro M w ρ v ⟨cs,e,hs,hc⟩;exact ⟨cs,e,hs,fun j hj=>let ⟨u,h1,h2⟩:=hc j hj;⟨u,h1,(UG h).2 j hj M w ρ u h2⟩⟩
theorem AR.tupL {m:Nat} {l l':List DV} (hm:m=l.length) (h:MP l l'):AR (.tup m (fun j=>l.getD j .any)) (.tup m (fun j=>l'.getD j .any)):=by
 subst hm;rintro M w ρ v ⟨cs,e,hs,hc⟩;exact ⟨cs,e,hs,fun j hj=>let ⟨u,h1,h2⟩:=hc j hj;⟨u,h1,(UG h).2 j hj M w ρ u h2⟩⟩
theorem Ac.dle {h:DH} {d d0:DV} (hn:Eo d=true) (hd:AR d d0):Ac h d d0:=fun P Γ N ρ w v H hr=>hd _ _ _ _ ((Ac.nref (KD hn)) P Γ N ρ w v H hr)
theorem ES.argsLe {f:Nat} {ds Dw:List DV} {h h':DH} {d:DV} {ext:Bool} (h0:ES P Γ f Dw h d h' ext) (hd:MP ds Dw):ES P Γ f ds h d h' ext:=by
 obtain ⟨hl,hd⟩:=UG hd;exact ⟨h0.1,fun N ρ w args HR Cb=>h0.2 N ρ w args HR ⟨by rw [←hl];exact Cb.1,fun i hi=>hd i (by omega) _ _ _ _ (Cb.2 i (by omega))⟩⟩
theorem AR.mse_msl {k m o n n':Nat} (h:0<n) (e:n=n'):AR (.mse k m o n) (.msl k m o n'):=by
 subst e;rintro M w ρ v ⟨p,a,cap,hp,rfl,h1,h2,h3⟩;obtain ⟨rfl,h4⟩:=h3 (by omega);exact ⟨p,cap,hp,rfl,h1,h2,h4⟩
theorem AR.mse_nil {k m o n:Nat} (h:n=0):AR (.mse k m o n) (.ints []):=by
 subst h;rintro M w ρ v ⟨p,a,cap,hp,rfl,h1,h2,h3⟩;exact ⟨a,cap,rfl,zEj _,zEj _,fun j hj=>absurd hj (zAo j)⟩
theorem uM {n:Nat} (h:(n==0)=false):0<n:=by
 have:n≠0:=by simpa using h
 omega
def LP (k off k':Nat):DV -> DV
 | .msl k1 m o n=>if k1=k/\ m=1/\ o=off then .msl k' 1 0 n else .msl k1 m o n
 | d=>d
def g8 (k off:Nat) (S:St):Option (St×List Prop):=match S.h.getD k none with
 | some (.ints l)=>some (⟨S.fr.map (LP k off S.h.length),S.h.set k none++[some (.ints (l.drop off))]⟩,[off<=l.length])
 | _=>none
theorem Az.rootE {S:St} (k off:Nat) (S':St) (vs:List Prop) (h:g8 k off S=some (S',vs)) (hv:Bc vs):Az L S S':=fun P Γ N ρ a w R=>by
 unfold g8 at h;split at h
 ·rename_i l hl;cases h;have hv:=hv.1;have hk:=getD_some hl;obtain ⟨p,hp,hr⟩:=R.hr.obj k _ hk;have hr:AX w p l.length _:=hr;obtain ⟨hf,cs,t,c1,c2,c3,c4⟩:=hr
  let p':AI:={ p with off:=p.off+off }
  obtain ⟨g1,g2⟩:=R.hr.regrow (o':=.ints (l.drop off)) (p':=p') hk hp (AP.refl _ _) (fun b hb=>⟨.inl hb,(R.hr.cel k _ p b hk hp hb).2.2⟩) (by
   refine ⟨hf,cs,t,c1,?_,c3,fun j hj=>?_⟩
   ·simp only [zFz,p'];omega
   ·rw [zFz] at hj;obtain ⟨u,q1,q2⟩:=c4 (off+j) (by omega);refine ⟨u,by rw [←q1];simp only [p',zDw],?_⟩;rw [q2];simp [u8,zEn])
  have O:BU (MS N S.h ρ) w ρ (MS N (S.h.set k none++[some (.ints (l.drop off))]) (ρ++[p'])) w (ρ++[p']):=⟨fun _ _ _ _=>rfl,fun b hb=>hb.elim (fun h=>.inl (.inl h)) fun h=>(g2.grow b h).imp .inr id,fun _ _ h=>ET h⟩;refine ⟨ρ++[p'],⟨g1,by simp [R.fr.1],fun i hi=>?_⟩,g2,fun _ _ _ h=>ET h⟩;have BV:i<S.fr.length:=by simpa using hi
  have e:(S.fr.map (LP k off S.h.length)).getD i .any=LP k off S.h.length (S.fr.getD i .any):=by simp [BV]
  show AM _ w ((S.fr.map (LP k off S.h.length)).getD i .any) _ _
  rw [e];have r0:=R.fr.2 i BV;cases hd:S.fr.getD i .any with
  | msl k1 m o n=>
   rw [hd] at r0
   by_cases hc:k1=k/\ m=1/\ o=off
   ·have e2:LP k off S.h.length (.msl k1 m o n)= .msl S.h.length 1 0 n:=by simp only [LP,zAE hc]
    rw [e2];obtain ⟨h1,h2,h3⟩:=hc;rw [h1,h2,h3] at r0;obtain ⟨q,cap,hq,hu,u1,u2,u3⟩:=r0;have eq:q=p:=zAR (hq.symm.trans hp);subst eq;exact ⟨p',cap,by rw [←R.hr.len];simp,by rw [hu];simp [p'],u1,u2,by simp only [p'];omega⟩
   ·have e2:LP k off S.h.length (.msl k1 m o n)= .msl k1 m o n:=by simp only [LP,zAU hc]
    rw [e2];exact AM.out _ O r0
  | _=>rw [hd] at r0;exact AM.out _ O r0
 ·cases h
end
end Go.Proofs.YtkjbblkieglmlaaGreatDoor
namespace Go.Proofs.YtkjbblkieglmlaaGreatDoor
abbrev zD2:=@Nat.le_of_ble_eq_true
end Go.Proofs.YtkjbblkieglmlaaGreatDoor
namespace Go.Proofs.YtkjbblkieglmlaaGreatDoor
open Go.RowKit
def E9 (σ:List Nat) (b k:Nat):Nat:=if k<σ.length then σ.getD k 0 else b+(k-σ.length)
def up (σ:List Nat) (b:Nat):DV -> DV
 | .ref k j=>.ref (E9 σ b k) j
 | .msl k m o n=>.msl (E9 σ b k) m o n
 | .mse k m o n=>.mse (E9 σ b k) m o n
 | .mri k i=>.mri (E9 σ b k) i
 | .mp k m i j=>.mp (E9 σ b k) m i j
 | .it k=>.it (E9 σ b k)
 | .agg m f=>.agg m (F8 m fun j=>up σ b (f j))
 | .tup m f=>.tup m (F8 m fun j=>up σ b (f j))
 | .fn g m c=>.fn g m (F8 m fun j=>up σ b (c j))
 | d=>d
def Eb (σ:List Nat) (b:Nat):Option DO -> Option DO
 | some (.cells l)=>some (.cells (l.map (up σ b)))
 | some (.ro l)=>some (.ro (l.map (up σ b)))
 | o=>o
def E0 (H:DH) (σ:List Nat) (h':DH):DH:=((List.range H.length).map fun k=>match D0 σ k with
 | some i=>Eb σ H.length (h'.getD i none)
 | none=>H.getD k none)++(h'.drop σ.length).map (Eb σ H.length)
theorem Y9 {σ:List Nat} (hn:σ.Nodup) {i k:Nat} (h:σ[i]? =some k):D0 σ k=some i:=by
 induction σ generalizing i with
 | nil=>simp at h
 | cons x σ ih=>
  unfold D0;cases i with
  | zero=>
   have:x=k:=by simpa using h
   rw [zAE this]
  | succ i=>
   have h':σ[i]? =some k:=by simpa using h
   have Am:x≠k:=by
    rintro rfl;exact (zF8.1 hn).1 (zDy h')
   rw [zAU Am,ih (zF8.1 hn).2 h'];rfl
theorem YH {σ:List Nat} {b:Nat} {x:Option DO} {o:DO} (h:Eb σ b x=some o): ∃ o0,x=some o0:=by
 cases x with
 | none=>cases h
 | some o0=>exact ⟨o0,rfl⟩
section
variable {P:Program} {Γ:Ar}
theorem YG {M M':Nat -> Prop} {w:World} {σ:List Nat} {b:Nat} {ρ ρ':List AI} (hM: ∀ b,M' b -> M b) (hρ: ∀ (k:Nat) (p:AI),ρ[k]? =some p -> ρ'[E9 σ b k]? =some p): ∀ (d:DV) {v:Value},AM M w d ρ v -> AM M' w (up σ b d) ρ' v:=by
 have low: ∀ (d:DV) {v:Value},AM M w d [] v -> AM M' w d [] v:=fun d v h=>h.out d (C6 hM [])
 intro d
 induction d with
 | any=>intro v _;trivial
 | nils=>intro v h;exact h
 | int k n=>intro v h;exact h
 | bool b=>intro v h;exact h
 | str s=>intro v h;exact h
 | ints l=>intro v h;exact low (.ints l) h
 | bools l=>intro v h;exact low (.bools l) h
 | sl m n f _=>intro v h;exact low (.sl m n f) h
 | fp m f _=>intro v h;exact low (.fp m f) h
 | agg m f ih=>
  rintro v ⟨cs,e,hs,h⟩;exact ⟨cs,e,hs,fun j hj=>let ⟨u,h1,h2⟩:=h j hj;⟨u,h1,Ju hj (ih j h2)⟩⟩
 | tup m f ih=>
  rintro v ⟨cs,e,hs,h⟩;exact ⟨cs,e,hs,fun j hj=>let ⟨u,h1,h2⟩:=h j hj;⟨u,h1,Ju hj (ih j h2)⟩⟩
 | fn g m c ih=>
  rintro v ⟨cs,e,hs,h⟩;exact ⟨cs,e,hs,fun j hj=>let ⟨u,h1,h2⟩:=h j hj;⟨u,h1,Ju hj (ih j h2)⟩⟩
 | ref k j=>rintro v ⟨p,hp,r⟩;exact ⟨p,hρ k p hp,r⟩
 | msl k m o n=>rintro v ⟨p,cap,hp,r⟩;exact ⟨p,cap,hρ k p hp,r⟩
 | mp k m i j=>rintro v ⟨p,hp,r⟩;exact ⟨p,hρ k p hp,r⟩
 | it k=>rintro v ⟨p,hp,r⟩;exact ⟨p,hρ k p hp,r⟩
 | cst u=>intro v h;exact h
 | yl l=>intro v h;exact h
 | mse k m o n=>rintro v ⟨p,a,cap,hp,r⟩;exact ⟨p,a,cap,hρ k p hp,r⟩
 | mri k i=>rintro v ⟨p,vs,hp,r⟩;exact ⟨p,vs,hρ k p hp,r⟩
theorem cO {M M':Nat -> Prop} {w:World} {σ:List Nat} {b:Nat} {ρ ρ':List AI} (hM: ∀ b,M' b -> M b) (hρ: ∀ (k:Nat) (p:AI),ρ[E9 σ b k]? =some p -> ρ'[k]? =some p): ∀ (d:DV) {v:Value},AM M w (up σ b d) ρ v -> AM M' w d ρ' v:=by
 have low: ∀ (d:DV) {v:Value},AM M w d [] v -> AM M' w d [] v:=fun d v h=>h.out d (C6 hM [])
 have YI: ∀ {m j:Nat} {f:Nat -> DV} {u:Value},j<m -> AM M w (F8 m f j) ρ u -> AM M w (f j) ρ u:=fun hj h=>by rw [Uj hj] at h;exact h
 intro d
 induction d with
 | any=>intro v _;trivial
 | nils=>intro v h;exact h
 | int k n=>intro v h;exact h
 | bool b=>intro v h;exact h
 | str s=>intro v h;exact h
 | ints l=>intro v h;exact low (.ints l) h
 | bools l=>intro v h;exact low (.bools l) h
 | sl m n f _=>intro v h;exact low (.sl m n f) h
 | fp m f _=>intro v h;exact low (.fp m f) h
 | agg m f ih=>
  rintro v ⟨cs,e,hs,h⟩;exact ⟨cs,e,hs,fun j hj=>let ⟨u,h1,h2⟩:=h j hj;⟨u,h1,ih j (YI hj h2)⟩⟩
 | tup m f ih=>
  rintro v ⟨cs,e,hs,h⟩;exact ⟨cs,e,hs,fun j hj=>let ⟨u,h1,h2⟩:=h j hj;⟨u,h1,ih j (YI hj h2)⟩⟩
 | fn g m c ih=>
  rintro v ⟨cs,e,hs,h⟩;exact ⟨cs,e,hs,fun j hj=>let ⟨u,h1,h2⟩:=h j hj;⟨u,h1,ih j (YI hj h2)⟩⟩
 | ref k j=>rintro v ⟨p,hp,r⟩;exact ⟨p,hρ k p hp,r⟩
 | msl k m o n=>rintro v ⟨p,cap,hp,r⟩;exact ⟨p,cap,hρ k p hp,r⟩
 | mp k m i j=>rintro v ⟨p,hp,r⟩;exact ⟨p,hρ k p hp,r⟩
 | it k=>rintro v ⟨p,hp,r⟩;exact ⟨p,hρ k p hp,r⟩
 | cst u=>intro v h;exact h
 | yl l=>intro v h;exact h
 | mse k m o n=>rintro v ⟨p,a,cap,hp,r⟩;exact ⟨p,a,cap,hρ k p hp,r⟩
 | mri k i=>rintro v ⟨p,vs,hp,r⟩;exact ⟨p,vs,hρ k p hp,r⟩
theorem oq {M M':Nat -> Prop} {w:World} {σ:List Nat} {b:Nat} {ρ ρ':List AI} {p:AI} (hM: ∀ b,M' b -> M b) (hρ: ∀ (k:Nat) (p:AI),ρ[k]? =some p -> ρ'[E9 σ b k]? =some p) {o o':DO} (ho:Eb σ b (some o)=some o') (h:Dy P M w ρ p o):Dy P M' w ρ' p o':=by
 cases o with
 | cells l=>
  cases ho
  show AX w p (l.map (up σ b)).length _
  rw [zAq];refine AX.out h rfl fun j u hj hu=>?_
  have:(l.map (up σ b)).getD j .any=up σ b (l.getD j .any):=by simp [hj]
  rw [this];exact YG hM hρ _ hu
 | ints l=>cases ho;exact AX.out h rfl fun j u _ hu=>hu
 | bools l=>cases ho;exact AX.out h rfl fun j u _ hu=>hu
 | arr m n f=>cases ho;exact AX.out h rfl fun j u _ hu=>AM.out _ (C6 hM []) hu
 | iter encs=>
  cases ho;obtain ⟨gf,lb,Rd,q1,q2,q3,q4⟩:=h;exact ⟨gf,lb,Rd,q1,q2,fun b hb=>⟨fun hm=>(q3 b hb).1 (hM b hm),(q3 b hb).2⟩,q4⟩
 | ro l=>
  cases ho;obtain ⟨r1,r2,r3⟩:=h;refine ⟨r1,fun hm=>r2 (hM _ hm),?_⟩
  show AX w _ (l.map (up σ b)).length _
  rw [zAq];refine AX.out r3 rfl fun j u hj hu=>?_
  have:(l.map (up σ b)).getD j .any=up σ b (l.getD j .any):=by simp [hj]
  rw [this];exact YG hM hρ _ hu
 | mo x=>cases ho;exact h
theorem zBy {M M':Nat -> Prop} {w:World} {σ:List Nat} {b:Nat} {ρ ρ':List AI} {p:AI} (hM: ∀ b,M' b -> M b) (hρ: ∀ (k:Nat) (p:AI),ρ[E9 σ b k]? =some p -> ρ'[k]? =some p) {o o':DO} (ho:Eb σ b (some o)=some o') (h:Dy P M w ρ p o'):Dy P M' w ρ' p o:=by
 cases o with
 | cells l=>
  cases ho;have h:AX w p (l.map (up σ b)).length _:=h;rw [zAq] at h;refine AX.out h rfl fun j u hj hu=>?_
  have:(l.map (up σ b)).getD j .any=up σ b (l.getD j .any):=by simp [hj]
  rw [this] at hu;exact cO hM hρ _ hu
 | ints l=>cases ho;exact AX.out h rfl fun j u _ hu=>hu
 | bools l=>cases ho;exact AX.out h rfl fun j u _ hu=>hu
 | arr m n f=>cases ho;exact AX.out h rfl fun j u _ hu=>AM.out _ (C6 hM []) hu
 | iter encs=>
  cases ho;obtain ⟨gf,lb,Rd,q1,q2,q3,q4⟩:=h;exact ⟨gf,lb,Rd,q1,q2,fun b hb=>⟨fun hm=>(q3 b hb).1 (hM b hm),(q3 b hb).2⟩,q4⟩
 | ro l=>
  cases ho;obtain ⟨r1,r2,r3⟩:=h;refine ⟨r1,fun hm=>r2 (hM _ hm),?_⟩;have h:AX w _ (l.map (up σ b)).length _:=r3;rw [zAq] at h;refine AX.out h rfl fun j u hj hu=>?_
  have:(l.map (up σ b)).getD j .any=up σ b (l.getD j .any):=by simp [hj]
  rw [this] at hu;exact cO hM hρ _ hu
 | mo x=>cases ho;exact h
theorem ES.embedX {f:Nat} {ds:List DV} {h:DH} {d:DV} {h':DH} {ext:Bool} (Ez:ES P Γ f ds h d h' ext) (σ:List Nat) (H:DH) (hn:σ.Nodup) (AO: ∀ k∈σ,k<H.length) (hl:σ.length=h.length) (Ew:h.length<=h'.length)
 (hh:(σ.map fun k=>H.getD k none)=h.map (Eb σ H.length)):(∃ fn,P.funcs[f]? =some fn/\ fn.name≠ "runtime.NumGoroutine" /\ fn.body.isSome=true)/\
 ∀ (N:Nat -> Prop) (ρ:List AI) (w:World) (args:Array Value),A0 P Γ N H ρ w -> BC (MS N H ρ) w ρ (ds.map (up σ H.length)) args ->
  Calls P f args w fun e w'=>∃ v,e= .returned v/\ CV P Γ N H ρ w ext (up σ H.length d) (E0 H σ h') v w'/\ AP (fun b=>∃ i o p,i∈σ/\ H[i]? =some (some o)/\ ρ[i]? =some p/\ p.foot b) w w':=by
 refine ⟨Ez.1,fun N ρ w args HR Cb=>?_⟩;obtain ⟨ρ0,kV⟩: ∃ ρ0,ρ0=σ.map fun k=>ρ.getD k jN:=⟨_,rfl⟩
 have jm:ρ0.length=σ.length:=by rw [kV];simp
 have Jh: ∀ {i k:Nat},σ[i]? =some k -> ρ0[i]? =ρ[k]? :=fun {i k} hk=>by
  have CZ:k<ρ.length:=by rw [HR.len];exact AO k (zDy hk)
  rw [kV,zA1,hk];simp [CZ]
 have Uw: ∀ {i:Nat},i<σ.length -> ∃ k,σ[i]? =some k/\ E9 σ H.length i=k:=fun {i} hi=>by
  refine ⟨σ[i],by simp [hi],?_⟩;unfold E9;rw [zAE hi];simp [hi]
 have NM: ∀ {i:Nat} {o:DO},h[i]? =some (some o) -> ∃ k o',σ[i]? =some k/\ H[k]? =some (some o')/\ Eb σ H.length (some o)=some o':=fun {i o} hi=>by
  have Eg:i<σ.length:=by rw [hl];exact (zAS.1 hi).1
  obtain ⟨k,hk,_⟩:=Uw Eg;have e:=congrArg (·[i]?) hh;simp only [zA1,hk,hi,zA2] at e;have D7:=AO k (zDy hk);have e:H.getD k none=Eb σ H.length (some o):=zAR e;have e2: ∃ o',Eb σ H.length (some o)=some o':=by cases o <;> exact ⟨_,rfl⟩
  obtain ⟨o',JM⟩:=e2;refine ⟨k,o',hk,?_,JM⟩;rw [JM] at e;rw [zAM D7];rw [u8,zAM D7] at e;exact congrArg some e
 have uv: ∀ {i k:Nat} {o':DO},σ[i]? =some k -> H[k]? =some (some o') -> ∃ o,h[i]? =some (some o)/\ Eb σ H.length (some o)=some o':=fun {i k o'} hk ho=>by
  have Eg:i<h.length:=by rw [←hl];exact (zAS.1 hk).1
  have e:=congrArg (·[i]?) hh;simp only [zA1,hk,zAM Eg,zA2] at e;have e:H.getD k none=Eb σ H.length h[i]:=zAR e;rw [mI ho] at e;obtain ⟨o0,e0⟩:=YH e.symm;exact ⟨o0,by rw [zAM Eg,e0],by rw [e0] at e;exact e.symm⟩
 obtain ⟨N0,Ib⟩: ∃ N0:Nat -> Prop,N0=fun b=>N b∨∃ k o p,D0 σ k=none/\ H[k]? =some (some o)/\ ρ[k]? =some p/\ p.foot b:=⟨_,rfl⟩
 have SJ: ∀ b,MO h ρ0 b -> MO H ρ b:=by
  rintro b ⟨i,o,p,g1,g2,g3⟩;obtain ⟨k,o',e1,e2,_⟩:=NM g1;exact ⟨k,o',p,e2,(Jh e1).symm.trans g2,g3⟩
 have Zv: ∀ b,MS N0 h ρ0 b -> MS N H ρ b:=by
  rintro b (hb | hb)
  ·rw [Ib] at hb;rcases hb with hb | ⟨k,o,p,_,g1,g2,g3⟩
   ·exact .inl hb
   ·exact .inr ⟨k,o,p,g1,g2,g3⟩
  ·exact .inr (SJ b hb)
 have ms1: ∀ b,MS N H ρ b -> MS N0 h ρ0 b:=by
  rintro b (hb | ⟨k,o,p,g1,g2,g3⟩)
  ·exact .inl (by rw [Ib];exact .inl hb)
  ·cases hk:D0 σ k with
   | none=>exact .inl (by rw [Ib];exact .inr ⟨k,o,p,hk,g1,g2,g3⟩)
   | some i=>
    have hi:=J5 hk;obtain ⟨o0,e1,_⟩:=uv hi g1;exact .inr ⟨i,o0,p,e1,(Jh hi).trans g2,g3⟩
 have dn: ∀ (k:Nat) (p:AI),ρ[E9 σ H.length k]? =some p -> ρ0[k]? =some p:=fun k p hp=>by
  by_cases hk:k<σ.length
  ·obtain ⟨k',e1,e2⟩:=Uw hk;rw [e2] at hp;exact (Jh e1).trans hp
  ·unfold E9 at hp;rw [zAU hk] at hp;have:=(zAS.1 hp).1;rw [HR.len] at this;omega
 have foreign: ∀ {b:Nat},N0 b -> ¬ MO h ρ0 b:=by
  rintro b hb ⟨i,o,p,g1,g2,g3⟩;obtain ⟨k,o',e1,e2,_⟩:=NM g1;have hp:=(Jh e1).symm.trans g2;rw [Ib] at hb;rcases hb with hb | ⟨k',o2,p2,q1,q2,q3,q4⟩
  ·exact (HR.cel k o' p b e2 hp g3).2.1 hb
  ·refine HR.dis k k' o' o2 p p2 b ?_ e2 q2 hp q3 g3 q4;rintro rfl;rw [Y9 hn e1] at q1;cases q1
 have H0:A0 P Γ N0 h ρ0 w:=by
  refine ⟨by rw [jm,hl],fun i o hi=>?_,fun i o p b g1 g2 g3=>?_,fun i i' o1 o2 p1 p2 b Am g1 g2 g3 g4 g5 g6=>?_,fun b hb=>HR.lt2 (Zv b (.inl hb)),HR.gi⟩
  ·obtain ⟨k,o',e1,e2,e3⟩:=NM hi;obtain ⟨p,hp,hr⟩:=HR.obj k o' e2;exact ⟨p,(Jh e1).trans hp,zBy Zv dn e3 hr⟩
  ·obtain ⟨k,o',e1,e2,e3⟩:=NM g1;obtain ⟨q1,q2,q3⟩:=HR.cel k o' p b e2 ((Jh e1).symm.trans g2) g3;exact ⟨q1,fun hb=>foreign hb ⟨i,o,p,g1,g2,g3⟩,q3⟩
  ·obtain ⟨k,o',e1,e2,e3⟩:=NM g1;obtain ⟨k',ux,cN,cM,e3'⟩:=NM g2;refine HR.dis k k' o' ux p1 p2 b ?_ e2 cM ((Jh e1).symm.trans g3) ((Jh cN).symm.trans g4) g5 g6;rintro rfl;have a1:=Y9 hn e1;have a2:=Y9 hn cN;exact Am (zAR (a1.symm.trans a2))
 refine (Ez.2 N0 ρ0 w args H0 ⟨by rw [←Cb.1];simp,fun i hi=>?_⟩).mono ?_
 ·have:=Cb.2 i (by simpa using hi);have e:(ds.map (up σ H.length)).getD i .any=up σ H.length (ds.getD i .any):=by simp [hi]
  rw [e] at this;exact cO Zv dn _ this
 ·rintro e w' ⟨v,rfl,⟨⟨ρ1,g1,g2,g3,g4⟩,g5⟩⟩;have l1:ρ1.length=h'.length:=g1.len;obtain ⟨ρ',KT⟩: ∃ ρ',ρ'=ρ++ρ1.drop σ.length:=⟨_,rfl⟩
  have n8: ∀ {i k:Nat},σ[i]? =some k -> ρ1[i]? =ρ[k]? :=fun {i k} hk=>by
   have Eg:i<ρ0.length:=by rw [jm];exact (zAS.1 hk).1
   have:=g4 i ρ0[i] (by simp [Eg]);rw [this,←Jh hk];simp [Eg]
  have Gf: ∀ {k:Nat},k<H.length -> ρ'[k]? =ρ[k]? :=fun {k} hk=>by rw [KT,zAb (by rw [HR.len];exact hk)]
  have d5: ∀ (k:Nat) (p:AI),ρ1[k]? =some p -> ρ'[E9 σ H.length k]? =some p:=fun k p hp=>by
   by_cases hk:k<σ.length
   ·obtain ⟨k',e1,e2⟩:=Uw hk;rw [e2,Gf (AO k' (zDy e1)),←n8 e1];exact hp
   ·unfold E9;rw [zAU hk,KT,zAd (by rw [HR.len];omega),zEn,HR.len];rw [show σ.length+(H.length+(k-σ.length)-H.length)=k by omega];exact hp
  have vv:(E0 H σ h').length=H.length+(h'.length-σ.length):=by simp [E0]
  have Mm: ∀ {k:Nat} {o':DO},(E0 H σ h')[k]? =some (some o') -> (k<H.length/\ D0 σ k=none/\ H[k]? =some (some o')/\ ρ'[k]? =ρ[k]?)∨∃ i o,h'[i]? =some (some o)/\ Eb σ H.length (some o)=some o'/\ ρ'[k]? =ρ1[i]? /\ k=E9 σ H.length i:=by
   intro k o' hk
   by_cases D7:k<H.length
   ·unfold E0 at hk;rw [zAb (by simpa using D7),zA1,zFa D7] at hk;simp only [zA2,zA4] at hk;split at hk
    ·rename_i i hi;have Wg:=J5 hi;obtain ⟨o0,e0⟩:=YH hk;have Eg:i<h'.length:=zAW (by rw [←hl];exact (zAS.1 Wg).1) Ew;rw [e0] at hk;refine .inr ⟨i,o0,?_,hk,?_,?_⟩
     ·rw [zAM Eg];rw [u8,zAM Eg] at e0;exact congrArg some e0
     ·rw [Gf D7,n8 Wg]
     ·obtain ⟨k2,e1,e2⟩:=Uw (zAS.1 Wg).1;rw [e2];exact zAR (Wg.symm.trans e1)
    ·rename_i hi;refine .inl ⟨D7,hi,?_,Gf D7⟩;rw [zAM D7];rw [u8,zAM D7] at hk;exact congrArg some hk
   ·unfold E0 at hk;rw [zAd (by simp;omega),zA1,zEn] at hk;simp only [zAq,zFL] at hk;cases hx:h'[σ.length+(k-H.length)]? with
    | none=>rw [hx] at hk;cases hk
    | some x=>
     rw [hx] at hk;have hk:Eb σ H.length x=some o':=zAR hk;obtain ⟨o0,e0⟩:=YH hk;subst e0;refine .inr ⟨σ.length+(k-H.length),o0,hx,hk,?_,?_⟩
     ·rw [KT,zAd (by rw [HR.len];omega),zEn,HR.len]
     ·unfold E9;rw [zAU (by omega)];omega
  have back: ∀ {k:Nat} {o:DO},D0 σ k=none -> H[k]? =some (some o) -> (E0 H σ h')[k]? =some (some o):=by
   intro k o hk ho;have D7:=(zAS.1 ho).1;unfold E0;rw [zAb (by simpa using D7),zA1,zFa D7];simp only [zA2,hk,mI ho]
  have jT: ∀ b,MS N (E0 H σ h') ρ' b -> MS N0 h' ρ1 b:=by
   rintro b (hb | ⟨k,o',p,q1,q2,q3⟩)
   ·exact .inl (by rw [Ib];exact .inl hb)
   ·rcases Mm q1 with ⟨a1,a2,a3,a4⟩ | ⟨i,o,a1,a2,a3,a4⟩
    ·exact .inl (by rw [Ib];exact .inr ⟨k,o',p,a2,a3,a4.symm.trans q2,q3⟩)
    ·exact .inr ⟨i,o,p,a1,a3.symm.trans q2,q3⟩
  have grow: ∀ b,MO (E0 H σ h') ρ' b -> MO H ρ b∨w.heap.size<=b:=by
   rintro b ⟨k,o',p,q1,q2,q3⟩;rcases Mm q1 with ⟨a1,a2,a3,a4⟩ | ⟨i,o,a1,a2,a3,a4⟩
   ·exact .inl ⟨k,o',p,a3,a4.symm.trans q2,q3⟩
   ·exact (g3.grow b ⟨i,o,p,a1,a3.symm.trans q2,q3⟩).imp (SJ b) id
  have pl: ∀ (k:Nat) (p:AI),ρ[k]? =some p -> ρ'[k]? =some p:=fun k p hp=>by
   rw [KT,zAb (zAS.1 hp).1];exact hp
  have O:BU (MS N H ρ) w ρ (MS N (E0 H σ h') ρ') w' ρ':=
   ⟨fun b hb hm _=>g3.upd.block b hb fun hx=>hm (.inr (SJ b hx)),fun b hb=>hb.elim (fun hb=>.inl (.inl hb)) (fun hb=>(grow b hb).imp .inr id),pl⟩
  refine ⟨v,rfl,⟨⟨ρ',⟨?_,fun k o' hk=>?_,fun k o' p b q1 q2 q3=>?_,fun k k' o1 o2 p1 p2 b Am q1 q2 q3 q4 q5 q6=>?_,fun b hb=>⟨zAW (HR.nlt b hb).1 g3.upd.size,(HR.nlt b hb).2⟩,g1.gi⟩,YG jT d5 _ g2,⟨g3.upd.mono fun b _ hb=>SJ b hb,grow⟩,pl⟩,g5⟩,g3.upd.mono fun b _ ⟨i,o,p,q1,q2,q3⟩=>?_⟩
  ·rw [vv,KT];simp [HR.len,l1]
  ·rcases Mm hk with ⟨a1,a2,a3,a4⟩ | ⟨i,o,a1,a2,a3,a4⟩
   ·obtain ⟨p,hp,hr⟩:=HR.obj k o' a3;refine ⟨p,a4.trans hp,hr.out O g3.upd (fun b hb=>.inr (SJ b hb)) fun b _ hf hs=>?_⟩;exact foreign (by rw [Ib];exact .inr ⟨k,o',p,a2,a3,hp,hf⟩) hs
   ·obtain ⟨p,hp,hr⟩:=g1.obj i o a1;exact ⟨p,a3.trans hp,oq jT d5 a2 hr⟩
  ·rcases Mm q1 with ⟨a1,a2,a3,a4⟩ | ⟨i,o,a1,a2,a3,a4⟩
   ·have hp:=a4.symm.trans q2;obtain ⟨c1,c2,c,t,z,c3⟩:=HR.cel k o' p b a3 hp q3;refine ⟨c1,c2,c,t,z,(g3.upd.block b (zAK.1 c3).1 fun hx=>?_).trans c3⟩;exact foreign (by rw [Ib];exact .inr ⟨k,o',p,a2,a3,hp,q3⟩) hx
   ·obtain ⟨c1,c2,c3⟩:=g1.cel i o p b a1 (a3.symm.trans q2) q3;exact ⟨c1,fun hb=>c2 (by rw [Ib];exact .inl hb),c3⟩
  ·rcases Mm q1 with ⟨a1,a2,a3,a4⟩ | ⟨i,o,a1,a2,a3,a4⟩
   ·rcases Mm q2 with ⟨c1,c2,c3,c4⟩ | ⟨i',o',c1,c2,c3,c4⟩
    ·exact HR.dis k k' o1 o2 p1 p2 b Am a3 c3 (a4.symm.trans q3) (c4.symm.trans q4) q5 q6
    ·exact (g1.cel i' o' p2 b c1 (c3.symm.trans q4) q6).2.1 (by rw [Ib];exact .inr ⟨k,o1,p1,a2,a3,a4.symm.trans q3,q5⟩)
   ·rcases Mm q2 with ⟨c1,c2,c3,c4⟩ | ⟨i',o',c1,c2,c3,c4⟩
    ·exact (g1.cel i o p1 b a1 (a3.symm.trans q3) q5).2.1 (by rw [Ib];exact .inr ⟨k',o2,p2,c2,c3,c4.symm.trans q4,q6⟩)
    ·refine g1.dis i i' o o' p1 p2 b ?_ a1 c1 (a3.symm.trans q3) (c3.symm.trans q4) q5 q6;rintro rfl;exact Am (a4.trans c4.symm)
  ·obtain ⟨k,o',e1,e2,_⟩:=NM q1;exact ⟨k,o',p,zDy e1,e2,(Jh e1).symm.trans q2,q3⟩
theorem ES.embed {f:Nat} {ds:List DV} {h:DH} {d:DV} {h':DH} {ext:Bool} (Ez:ES P Γ f ds h d h' ext) (σ:List Nat) (H:DH) (hn:σ.Nodup) (AO: ∀ k∈σ,k<H.length) (hl:σ.length=h.length) (Ew:h.length<=h'.length)
 (hh:(σ.map fun k=>H.getD k none)=h.map (Eb σ H.length)):ES P Γ f (ds.map (up σ H.length)) H (up σ H.length d) (E0 H σ h') ext:=
 let ⟨h1,h2⟩:=Ez.embedX σ H hn AO hl Ew hh
 ⟨h1,fun N ρ w args HR ha=>(h2 N ρ w args HR ha).mono fun _ _ ⟨v,e,g,_⟩=>⟨v,e,g⟩⟩
def MD (σ:List Nat) (n l l':Nat):Bool:=decide σ.Nodup&&σ.all (fun k=>decide (k<n))&&decide (σ.length=l)&&decide (l<=l')
theorem ES.embedB {f:Nat} {ds:List DV} {h:DH} {d:DV} {h':DH} {ext:Bool} (Ez:ES P Γ f ds h d h' ext) (σ:List Nat) (H:DH) (hb:MD σ H.length h.length h'.length=true) (hh:(σ.map fun k=>H.getD k none)=h.map (Eb σ H.length))
 {XL:List DV} {d1:DV} {H1:DH} (e:(ds.map (up σ H.length),up σ H.length d,E0 H σ h')=(XL,d1,H1)):ES P Γ f XL H d1 H1 ext:=by
 simp only [MD,zAN,zAx,zAT] at hb;cases e;exact Ez.embed σ H hb.1.1.1 (fun k hk=>hb.1.1.2 k hk) hb.1.2 hb.2 hh
theorem ES.embedU {f:Nat} {ds:List DV} {h:DH} {d:DV} {h':DH} {ext:Bool} (Ez:ES P Γ f ds h d h' ext) (σ:List Nat) (H:DH) (k:Nat) (hb:MD σ H.length h.length h'.length=true) (hk:σ.all (fun j=>Nat.ble k j)=true) (hh:(σ.map fun k=>H.getD k none)=h.map (Eb σ H.length)):Oc P Γ f (ds.map (up σ H.length)) H (up σ H.length d) (E0 H σ h') k:=by
 simp only [MD,zAN,zAx,zAT] at hb;obtain ⟨h1,h2⟩:=Ez.embedX σ H hb.1.1.1 (fun k hk=>hb.1.1.2 k hk) hb.1.2 hb.2 hh;refine ⟨h1,fun N ρ w args HR ha=>(h2 N ρ w args HR ha).mono ?_⟩;rintro e w' ⟨v,e,⟨g1,g2⟩,hu⟩;exact ⟨v,e,⟨g1,fun h=>by cases h⟩,hu.mono fun b _ ⟨i,o,p,q1,q2⟩=>⟨i,o,p,zD2 (zAT.1 hk i q1),q2⟩⟩
end
end Go.Proofs.YtkjbblkieglmlaaGreatDoor
