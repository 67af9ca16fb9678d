/- Part 2 of 7 of what the proofs of these laws stand on. -/
import Derived.Test.YtkjbblkieglmlaaGreatDoorPwA
import Derived.MapKept
import Derived.Test.YtkjbblkieglmlaaGreatDoorProg
import Derived.Shelf.Spec.TrailingZeros
set_option linter.all false
namespace Go.Proofs.YtkjbblkieglmlaaGreatDoor
abbrev zEA:=@List.mem_append
abbrev zEP:=@Go.MapKept.run_getObj_map
abbrev zET:=@beq_self_eq_true
abbrev zEe:=@Bool.eq_iff_iff
abbrev zEr:=@List.not_mem_nil
abbrev zFA:=@Go.MapKept.run_setObj_map
abbrev zFX:=@Go.MapKept.run_findKey
abbrev zFl:=@List.Perm.refl
abbrev zF5:=@List.nodup_cons
end Go.Proofs.YtkjbblkieglmlaaGreatDoor
namespace Go.Proofs.YtkjbblkieglmlaaGreatDoor
open Go.RowKit
def SZ (P:Program) (t:TypeId):Bool:=match P.underlying t with
 | some (.int .i64)=>true
 | _=>false
theorem aD {P:Program} {t:TypeId} (h:SZ P t=true):P.underlying t=some (.int .i64):=by
 unfold SZ at h;split at h
 ·assumption
 ·cases h
def GH (P:Program) (t:TypeId):Option Nat:=match P.underlying t with
 | some (.int .i64)=>some 1
 | some (.struct fs)=>match fs.toList with
  | [f,g]=>if f.name != "_" &&g.name != "_" &&decide (f.offset=0)&&decide (g.offset=1)&&SZ P f.type&&SZ P g.type&&!P.stoodInHeld t then some 2 else none
  | _=>none
 | _=>none
section
variable {P:Program} {w:World} {t:TypeId}
theorem PT {n:Nat} (h:GH P t=some n):(n=1/\ P.underlying t=some (.int .i64))∨∃ f g fs,n=2/\ P.underlying t=some (.struct fs)/\ fs.toList= [f,g]/\ f.name≠ "_" /\ g.name≠ "_" /\ f.offset=0/\ g.offset=1/\ P.underlying f.type=some (.int .i64)/\ P.underlying g.type=some (.int .i64)/\ P.stoodInHeld t=false:=by
 unfold GH at h;split at h
 ·exact .inl ⟨(zAU h).symm,by assumption⟩
 ·rename_i fs hu;split at h
  ·rename_i f g hf;split at h
   ·rename_i hc;simp only [zAL,zE3,ne_eq,zBg,zEM] at hc;obtain ⟨⟨⟨⟨⟨⟨h1,h2⟩,h3⟩,h4⟩,h5⟩,h6⟩,h7⟩:=hc;exact .inr ⟨f,g,fs,(zAU h).symm,hu,hf,h1,h2,h3,h4,aD h5,aD h6,h7⟩
   ·cases h
  ·cases h
 ·cases h
theorem O0 {t:TypeId} (h:P.underlying t=some (.int .i64)) (cs:Array Value) (o:Nat) (v:Value) (hv:cs[o]? =some v):(part t cs o).run P w= .ok v w:=by
 unfold part;rw [zAg,RF h];simp [Result.andThen,Ho,h,hv]
theorem V3 {x:List Int} (h:x.length=2): ∃ a b,x= [a,b]:=by
 match x,h with
 | [a,b],_=>exact ⟨a,b,rfl⟩
theorem NY {x:List Int} (h:x.length=1): ∃ a,x= [a]:=by
 match x,h with
 | [a],_=>exact ⟨a,rfl⟩
theorem PS {n:Nat} (hk:GH P t=some n) {x:List Int} (hx:x.length=n) (e:Bool):(Instr.checkKey e 10000 t (BS x)).run P w= .ok () w:=by
 rcases PT hk with ⟨rfl,hu⟩ | ⟨f,g,fs,rfl,hu,hf,n1,n2,o1,o2,t1,t2,_⟩
 ·obtain ⟨a,rfl⟩:=NY hx;exact MapKept.run_checkKey hu (by trivial) e 9999
 ·obtain ⟨a,b,rfl⟩:=V3 hx
  show (Instr.checkKey e (9999+1) t (.agg #[.int .i64 a,.int .i64 b])).run P w=_
  unfold Instr.checkKey;have c1: ∀ a,(Instr.checkKey e 9999 f.type (.int .i64 a)).run P w= .ok () w:=fun a=>MapKept.run_checkKey t1 (by trivial) e 9998
  have c2: ∀ a,(Instr.checkKey e 9999 g.type (.int .i64 a)).run P w= .ok () w:=fun a=>MapKept.run_checkKey t2 (by trivial) e 9998
  simp only [zAg,zDq hu,Result.andThen];rw [←Array.forIn_toList,hf];simp only [List.forIn_cons,List.forIn_nil,n1,n2,ne_eq,not_false_eq_true,zEG,o1,o2,zAg];rw [O0 t1 _ 0 (.int .i64 a) rfl];simp only [Result.andThen,c1,zFR,zAg];rw [O0 t2 _ 1 (.int .i64 b) rfl];simp only [Result.andThen,c2,zFR]
theorem wL {n:Nat} (hk:GH P t=some n) {x y:List Int} (hx:x.length=n) (hy:y.length=n):(Op.equal t (BS x) (BS y)).run P w= .ok (x==y) w:=by
 rcases PT hk with ⟨rfl,hu⟩ | ⟨f,g,fs,rfl,hu,hf,n1,n2,o1,o2,t1,t2,hs⟩
 ·obtain ⟨a,rfl⟩:=NY hx;obtain ⟨b,rfl⟩:=NY hy
  show (Op.equalIn (9999+1) t (.int .i64 a) (.int .i64 b)).run P w=_
  rw [zF4 w 9999 t .i64 .i64 a b hu]
  congr 1
  rw [zEe];simp
 ·obtain ⟨a,b,rfl⟩:=V3 hx;obtain ⟨c,d,rfl⟩:=V3 hy;have hF:P.fieldsOf t=fs:=by unfold Program.fieldsOf;rw [hu]
  show (Op.equalIn (9999+1) t (.agg #[.int .i64 a,.int .i64 b]) (.agg #[.int .i64 c,.int .i64 d])).run P w=_
  rw [run_equalIn_struct w 9999 t _ _ (by rw [hF];exact hu) hs,hF,hf];have e1: ∀ a c:Int,(Op.equalIn 9999 f.type (.int .i64 a) (.int .i64 c)).run P w= .ok (a==c) w:=fun a c=>zF4 w 9998 f.type .i64 .i64 a c t1
  have e2: ∀ a c:Int,(Op.equalIn 9999 g.type (.int .i64 a) (.int .i64 c)).run P w= .ok (a==c) w:=fun a c=>zF4 w 9998 g.type .i64 .i64 a c t2
  simp only [Op.eqFields,n1,n2,ne_eq,not_false_eq_true,zEG,o1,o2,zAg];rw [O0 t1 _ 0 (.int .i64 a) rfl];simp only [Result.andThen];rw [O0 t1 _ 0 (.int .i64 c) rfl];simp only [Result.andThen,e1,Sem.run_ite]
  by_cases h1:a=c
  ·subst h1;simp only [zET,zD2,zDs,zEg,zAg];rw [O0 t2 _ 1 (.int .i64 b) rfl];simp only [Result.andThen];rw [O0 t2 _ 1 (.int .i64 d) rfl];simp only [Result.andThen,e2,Sem.run_ite]
   by_cases h2:b=d
   ·subst h2;simp
   ·have:([a,b]== [a,d])=false:=by simp [h2]
    have L5:(b==d)=false:=by simp [h2]
    simp [L5,h2]
  ·have Ki:(a==c)=false:=by simp [h1]
   simp [Ki,h1]
theorem wK {n:Nat} (hk:GH P t=some n) {x:List Int} (hx:x.length=n) {ks:KS} (EG: ∀ y∈ks,y.length=n) {es:List MapEntry} (he: ∀ e∈es,∃ y∈ks,e.key=BS y):
 ((Instr.findKey t (BS x) es).run P w= .ok none w/\ ∀ e∈es,e.key≠BS x)∨∃ j e,(Instr.findKey t (BS x) es).run P w= .ok (some (j,e.val)) w/\ es[j]? =some e/\ e.key=BS x:=by
 have ask: ∀ (es:List MapEntry) (i:Nat),(∀ e∈es,∃ y∈ks,e.key=BS y) -> ((Instr.findAsking t (BS x) es i).run P w= .ok none w/\ ∀ e∈es,e.key≠BS x)∨∃ j e,(Instr.findAsking t (BS x) es i).run P w= .ok (some (i+j,e.val)) w/\ es[j]? =some e/\ e.key=BS x:=by
  intro es
  induction es with
  | nil=>intro i _;exact .inl ⟨rfl,fun e he=>by cases he⟩
  | cons e es ih=>
   intro i he;obtain ⟨y,hy,Bz⟩:=he e (by simp);have h1:(Op.equal t (BS x) e.key).run P w= .ok (x==y) w:=by rw [Bz];exact wL hk hx (EG y hy)
   by_cases WL:x=y
   ·subst WL;exact .inr ⟨0,e,by simp [Instr.findAsking,h1,Result.andThen],rfl,Bz⟩
   ·have hf:(x==y)=false:=by simp [WL]
    rcases ih (i+1) (fun e GQ=>he e (by simp [GQ])) with ⟨g1,g2⟩ | ⟨j,e',g1,g2,g3⟩
    ·refine .inl ⟨by simp [Instr.findAsking,h1,hf,Result.andThen,g1],fun e' GQ=>?_⟩;rcases zDu.1 GQ with rfl | GQ
     ·rw [Bz];exact fun h=>WL (jf h).symm
     ·exact g2 e' GQ
    ·exact .inr ⟨j+1,e',by simp [Instr.findAsking,h1,hf,Result.andThen,g1];omega,by simpa using g2,g3⟩
 rcases PT hk with ⟨rfl,hu⟩ | ⟨f,g,fs,rfl,hu,_⟩
 ·obtain ⟨a,rfl⟩:=NY hx
  rcases MapKept.findNow_spec (d:=.int .i64) (k:=.int .i64 a) (by trivial) es 0 (fun e hm=>by
   obtain ⟨y,hy,Bz⟩:=he e hm;obtain ⟨b,rfl⟩:=NY (EG y hy);rw [Bz];trivial) with ⟨h1,h2⟩ | ⟨j,e,h1,h2,h3⟩
  ·exact .inl ⟨zFX hu h1,h2⟩
  ·exact .inr ⟨j,e,by have:=zFX (w:=w) hu h1;rw [zAj] at this;exact this,h2,h3⟩
 ·have hn: ∀ es:List MapEntry,(∀ e∈es,∃ y∈ks,e.key=BS y) -> (Instr.findKey t (BS x) es).run P w=(match es with | []=>.ok none w | _=>(Instr.findAsking t (BS x) es 0).run P w):=fun es he=>by
   cases es with
   | nil=>simp [Instr.findKey,zDq hu,Instr.findNow,Result.andThen]
   | cons e es=>
    have:Instr.findNow (.struct fs) (BS x) (e::es) 0=none:=by
     simp [Instr.findNow,Instr.sameNow]
    simp [Instr.findKey,zDq hu,this,Result.andThen]
  rw [hn es he];cases es with
  | nil=>exact .inl ⟨rfl,fun e he=>by cases he⟩
  | cons e es=>
   rcases ask (e::es) 0 he with h | ⟨j,e',g1,g2⟩
   ·exact .inl h
   ·exact .inr ⟨j,e',by simpa using g1,g2⟩
theorem wJ {n:Nat} (hk:GH P t=some n) {x:List Int} (hx:x.length=n):(Instr.keyThatStays (BS x) (BS x)).run P w= .ok (BS x) w:=by
 rcases PT hk with ⟨rfl,hu⟩ | ⟨f,g,fs,rfl,hu,_⟩
 ·obtain ⟨a,rfl⟩:=NY hx;exact MapKept.run_keyThatStays (d:=.int .i64) (by trivial)
 ·obtain ⟨a,b,rfl⟩:=V3 hx
  have:Instr.sameBits 10000 (BS [a,b]) (BS [a,b])=true:=by
   show Instr.sameBits (9998+1+1) (.agg #[.int .i64 a,.int .i64 b]) (.agg #[.int .i64 a,.int .i64 b])=true
   simp [Instr.sameBits]
  simp [Instr.keyThatStays,this]
end
/-! ### Sets in order-/
def jI:List Int -> List Int -> Bool
 | _,[]=>false
 | [],_::_=>true
 | a::r,b::s=>decide (a<b)||(a==b&&jI r s)
def V8 (x:List Int):KS -> KS
 | []=>[x]
 | y::r=>if jI x y then x::y::r else y::V8 x r
def CP (x:List Int) (l:KS):KS:=if l.contains x then l else V8 x l
theorem ju (x:List Int): ∀ l:KS,(V8 x l).Perm (x::l)
 | []=>zFl _
 | y::r=>by
  unfold V8;split
  ·exact zFl _
  ·exact ((ju x r).cons y).trans (List.Perm.swap x y r)
theorem iB {x:List Int} {l:KS} (h:x∈l):CP x l=l:=by unfold CP;simp [h]
theorem ZB {x:List Int} {l:KS} (h:x∉l):(CP x l).Perm (x::l):=by unfold CP;simp [h];exact ju x l
theorem NS {x y:List Int} {l:KS}:y∈CP x l↔y=x∨y∈l:=by
 by_cases h:x∈l
 ·rw [iB h];exact ⟨.inr,fun h'=>h'.elim (fun e=>e▸h) id⟩
 ·rw [(ZB h).mem_iff];simp
section
variable {P:Program} {w:World} {b n:Nat} {l:KS} {es:Array MapEntry} {Ac:Nat}
theorem Ek.key (h:Ek w b n l es Ac): ∀ e∈es.toList,∃ y∈l,e.key=BS y:=fun e he=>by
 have:e.key∈es.toList.map (·.key):=zEK.2 ⟨e,he,rfl⟩;obtain ⟨y,h1,h2⟩:=zEK.1 (h.keys.mem_iff.1 this);exact ⟨y,h1,h2.symm⟩
theorem Ek.has (h:Ek w b n l es Ac) {x:List Int}:x∈l↔∃ e∈es.toList,e.key=BS x:=by
 constructor
 ·intro hx;have:BS x∈l.map BS:=zEK.2 ⟨x,hx,rfl⟩;obtain ⟨e,h1,h2⟩:=zEK.1 (h.keys.mem_iff.2 this);exact ⟨e,h1,h2⟩
 ·rintro ⟨e,h1,h2⟩;obtain ⟨y,h3,h4⟩:=h.key e h1;exact jf (h2.symm.trans h4)▸h3
theorem Ek.find (h:Ek w b n l es Ac) {t:TypeId} (hk:GH P t=some n) {x:List Int} (hx:x.length=n):
 (x∉l/\ (Instr.findKey t (BS x) es.toList).run P w= .ok none w)∨(x∈l/\ ∃ j e,(Instr.findKey t (BS x) es.toList).run P w= .ok (some (j,.bool true)) w/\ es[j]? =some e/\ e.key=BS x/\ e.val= .bool true):=by
 rcases wK (w:=w) hk hx h.len h.key with ⟨h1,h2⟩ | ⟨j,e,h1,h2,h3⟩
 ·exact .inl ⟨fun hx=>by obtain ⟨e,g1,g2⟩:=h.has.1 hx;exact h2 e g1 g2,h1⟩
 ·have hm:e∈es.toList:=zDz h2;have hv:=h.tru e hm;exact .inr ⟨h.has.2 ⟨e,hm,h3⟩,j,e,by rw [←hv];exact h1,by simpa using h2,h3,hv⟩
theorem Qe {w:World} {b:Nat} (o:Obj):AP (fun k=>k=b) w { w with heap:=w.heap.setIfInBounds b o }:=
 ⟨rfl,rfl,rfl,by simp,fun k _ Ak=>by simp [zFP Ak]⟩
theorem Ek.put (h:Ek w b n l es Ac) {mt kt et:TypeId} (hm:P.underlying mt=some (.map kt et)) (hk:GH P kt=some n) {x:List Int} (hx:x.length=n):
 ∃ w' D8 Ej,(Instr.mapUpdate mt (.map (some b)) (BS x) (.bool true)).run P w= .ok () w'/\ AP (fun k=>k=b) w w'/\ Ek w' b n (CP x l) D8 Ej:=by
 have AN:b<w.heap.size:=(zAJ.1 h.blk).1;rcases h.find hk hx with ⟨h1,h2⟩ | ⟨h1,j,e,h2,h3,h4,h5⟩
 ·refine ⟨{ w with heap:=w.heap.setIfInBounds b (.map (es.push { key:=BS x,val:=.bool true,born:=Ac }) (Ac+1)) },es.push { key:=BS x,val:=.bool true,born:=Ac },Ac+1,?_,Qe _,?_⟩
  ·simp [Instr.mapUpdate,zDq hm,zEP h.blk,PS hk hx,h2,zFA _ h.blk,Result.andThen]
  ·refine ⟨by simp [AN],?_,((ZB h1).nodup_iff).2 (zF5.2 ⟨h1,h.nd⟩),fun y hy=>?_,fun e he=>?_,fun e he=>?_,?_⟩
   ·have e1:((es.push { key:=BS x,val:=.bool true,born:=Ac }).toList.map (·.key))=es.toList.map (·.key)++[BS x]:=by simp
    rw [e1];refine (List.perm_append_comm).trans ?_
    show (BS x::es.toList.map (·.key)).Perm _
    exact (h.keys.cons (BS x)).trans (((ZB h1).map BS).symm)
   ·rcases NS.1 hy with rfl | hy
    ·exact hx
    ·exact h.len y hy
   ·simp only [Array.toList_push,zEA,zAp] at he;rcases he with he | rfl
    ·exact h.tru e he
    ·rfl
   ·simp only [Array.toList_push,zEA,zAp] at he;rcases he with he | rfl
    ·exact Nat.lt_succ_of_lt (h.born e he)
    ·exact Nat.lt_succ_self _
   ·have e1:((es.push { key:=BS x,val:=.bool true,born:=Ac }).toList.map (·.born))=es.toList.map (·.born)++[Ac]:=by simp
    rw [e1];refine List.nodup_append.2 ⟨h.stamps,by simp,fun a ha c hc=>?_⟩;obtain ⟨e,g1,g2⟩:=zEK.1 ha;have:=h.born e g1;simp at hc;omega
 ·have hj:j<es.size:=(zAJ.1 h3).1
  have zi:(es.modify j fun e=>{ e with key:=BS x,val:=.bool true })=es:=by
   apply Array.ext_getElem?;intro i;rw [zEx];split
   ·rename_i Ph;subst Ph;rw [h3]
    show some ({ e with key:=BS x,val:=.bool true }:MapEntry)=some e
    rw [←h4,←h5]
   ·rfl
  refine ⟨{ w with heap:=w.heap.setIfInBounds b (.map es Ac) },es,Ac,?_,Qe _,?_⟩
  ·have EG:((es[j]?).map (·.key)).getD (BS x)=BS x:=by rw [h3];exact h4
   simp [Instr.mapUpdate,zDq hm,zEP h.blk,PS hk hx,h2,EG,wJ hk hx,zFA _ h.blk,Result.andThen,zi]
  ·rw [iB h1];exact { h with blk:=by simp [AN] }
theorem Ek.look (h:Ek w b n l es Ac) {mt kt et:TypeId} (hm:P.underlying mt=some (.map kt et)) (hk:GH P kt=some n) {x:List Int} (hx:x.length=n) (hz:(zeroValue et).run P w= .ok (.bool false) w):
 (Instr.lookup mt (.map (some b)) (BS x) false).run P w= .ok (.bool (l.contains x)) w:=by
 rcases h.find hk hx with ⟨h1,h2⟩ | ⟨h1,j,e,h2,h3,h4,h5⟩
 ·have:l.contains x=false:=by simpa using h1
  simp [Instr.lookup,zDq hm,zEP h.blk,PS hk hx,h2,hz,Result.andThen,this,h1]
 ·have:l.contains x=true:=by simpa using h1
  simp [Instr.lookup,zDq hm,zEP h.blk,PS hk hx,h2,Result.andThen,this,h1]
end
/-! ### On du view-/
def Vv (lk:Option (Nat×Nat×Array MapEntry×Nat)) (i:Nat):Prop:=∀ y,lk=some y -> y.1≠i
section
variable {P:Program} {w w':World} {p:AI} {n:Nat} {ls:List (Option KS)} {lk:Option (Nat×Nat×Array MapEntry×Nat)} {vs:Array Value}
theorem E2.lies (h:E2 w p n ls lk vs) {b:Nat} (hb:p.foot b):Da w b:=by
 rcases h.foot b hb with rfl | ⟨j,l,h1,h2⟩
 ·obtain ⟨cs,t,h3,_⟩:=h.row;exact .cells h3
 ·obtain ⟨b',g1,_,_,es,Ac,g2,_⟩:=h.has j l h1;have:b'=b:=by rw [g1] at h2;cases h2;rfl
  subst this;exact ⟨_,rfl,(),g2.blk⟩
theorem E2.put (h:E2 w p n ls lk vs) {i b:Nat} {l l':KS} {es:Array MapEntry} {Ac:Nat} (hi:ls[i]? =some (some l)) (hb:vs[i]? =some (Value.map (some b))) (hu:AP (fun k=>k=b) w w') (hm:Ek w' b n l' es Ac) (ao:Vv lk i):E2 w' p n (ls.set i (some l')) lk vs:=by
 have Eh:i<ls.length:=(zAV.1 hi).1;obtain ⟨b0,g1,g2,g3,_⟩:=h.has i l hi;have:b0=b:=by rw [g1] at hb;cases hb;rfl
 subst this
 have IZ: ∀ {j:Nat} {x:Option KS},(ls.set i (some l'))[j]? =some x -> (j=i/\ x=some l')∨(j≠i/\ ls[j]? =some x):=fun {j x} hj=>by
  rw [zAo] at hj
  by_cases e:i=j
  ·subst e;simp [Eh] at hj;exact .inl ⟨rfl,hj.symm⟩
  ·rw [zAZ e] at hj;exact .inr ⟨zFP e,hj⟩
 refine ⟨h.val,by simp [h.size],?_,h.blk,fun j l1 hj=>?_,fun j hj=>?_,fun b' DA=>?_,h.inj⟩
 ·obtain ⟨cs,t,k1,k2⟩:=h.row;exact ⟨cs,t,(hu.block _ (zAJ.1 k1).1 (fun e=>g2 e.symm)).trans k1,by simpa using k2⟩
 ·rcases IZ hj with ⟨rfl,e⟩ | ⟨Ak,hj⟩
  ·cases e;exact ⟨b0,hb,g2,g3,es,Ac,hm,fun y hy e=>absurd e (ao y hy)⟩
  ·obtain ⟨b1,k1,k2,k3,H4,c1,k4,k5⟩:=h.has j l1 hj;refine ⟨b1,k1,k2,k3,H4,c1,k4.out (hu.block _ (zAJ.1 k4.blk).1 fun e=>Ak ?_),k5⟩;subst e;exact h.inj j i b1 k1 hb
 ·rcases IZ hj with ⟨rfl,e⟩ | ⟨Ak,hj⟩
  ·cases e
  ·exact h.nil j hj
 ·rcases h.foot b' DA with e | ⟨j,l1,k1,k2⟩
  ·exact .inl e
  ·by_cases e:j=i
   ·subst e;exact .inr ⟨j,l',by simp [Eh],k2⟩
   ·exact .inr ⟨j,l1,by rw [zAo,zAZ (zFP e)];exact k1,k2⟩
end
def V4 (n:Nat) (d:DV):Option (List Int):=match d with
 | .int .i64 a=>if n=1 then some [a] else none
 | .agg m f=>if m=n/\ n≠1 then if (List.range m).all fun j=>KM (f j) then some ((List.range m).map fun j=>Hp (f j)) else none else none
 | _=>none
def Z7 (n:Nat) (x:List Int):DV:=if n=1 then .int .i64 (x.getD 0 0) else .agg n (Fw n fun j=>.int .i64 (x.getD j 0))
section
variable {P:Program} {w:World} {ρ:List AI} {M:Nat -> Prop}
theorem jh {x:List Int} (h:x.length≠1):BS x= .agg (x.map fun a=>.int .i64 a).toArray:=by
 unfold BS;split
 ·simp at h
 ·rfl
theorem ji {n:Nat} {d:DV} {x:List Int} {v:Value} (h:V4 n d=some x) (hr:AM M w d ρ v):v=BS x/\ x.length=n:=by
 unfold V4 at h;split at h
 ·split at h
  ·cases h;exact ⟨hr,by simp;omega⟩
  ·cases h
 ·rename_i m f;split at h
  ·rename_i hm;split at h
   ·rename_i ha;cases h;have hl:((List.range m).map fun j=>Hp (f j)).length=m:=by simp
    refine ⟨?_,by rw [hl];exact hm.1⟩;obtain ⟨cs,rfl,hs,hc⟩:=hr;rw [jh (by rw [hl];omega)]
    congr 1
    apply Array.ext_getElem?;intro j
    by_cases hj:j<m
    ·obtain ⟨u,e1,e2⟩:=hc j hj;have:=Z9 (zAW.1 ha j (zAd.2 hj)) e2;rw [e1,this];simp [hj]
    ·rw [zFi (by omega)];simp [hj]
   ·cases h
  ·cases h
 ·cases h
theorem wM {n:Nat} {x:List Int} (h:x.length=n):AM M w (Z7 n x) ρ (BS x):=by
 unfold Z7;split
 ·rename_i e;subst e;obtain ⟨a,rfl⟩:=NY h;rfl
 ·rename_i e;rw [jh (by omega)];refine ⟨_,rfl,by simp [h],fun j hj=>?_⟩;rw [Ud hj];have BT:j<x.length:=by omega
  exact ⟨.int .i64 (x.getD j 0),by simp [BT],rfl⟩
end
def W8:Nat -> DH -> Option (Nat×Nat×List (Option KS)×Nat×Nat×Array MapEntry×Nat)
 | _,[]=>none
 | k,some (.mo (.sets n ls (some y)))::_=>some (k,n,ls,y)
 | k,_::r=>W8 (k+1) r
theorem zBN {n:Nat} {ls:List (Option KS)} {y:Nat×Nat×Array MapEntry×Nat} {k:Nat}: ∀ (h:DH) (k0:Nat),W8 k0 h=some (k,n,ls,y) -> k0<=k/\ h[k-k0]? =some (some (.mo (.sets n ls (some y)))):=by
 intro h
 induction h with
 | nil=>intro k0 e;cases e
 | cons x r ih=>
  intro k0 e
  have step:W8 (k0+1) r=some (k,n,ls,y) -> k0<=k/\ (x::r)[k-k0]? =some (some (.mo (.sets n ls (some y)))):=fun e=>by
   obtain ⟨h1,h2⟩:=ih (k0+1) e;refine ⟨by omega,?_⟩;have:k-k0=k-(k0+1)+1:=by omega
   rw [this];simpa using h2
  match x,e with
  | none,e=>exact step e
  | some (.cells _),e=>exact step e
  | some (.ints _),e=>exact step e
  | some (.bools _),e=>exact step e
  | some (.arr _ _ _),e=>exact step e
  | some (.iter _),e=>exact step e
  | some (.ro _),e=>exact step e
  | some (.mo (.set _ _)),e=>exact step e
  | some (.mo (.mit _ _ _ _ _ _)),e=>exact step e
  | some (.mo (.rows _ _)),e=>exact step e
  | some (.mo (.rws _ _)),e=>exact step e
  | some (.mo (.sets _ _ none)),e=>exact step e
  | some (.mo (.sets _ _ (some _))),e=>cases e;exact ⟨zAm _,by simp⟩
def NT (P:Program) (t:TypeId):Option (Nat×TypeId):=match P.underlying t with
 | some (.map k e)=>match GH P k with
  | some n=>match P.info? e with
   | some i=>match i.zero with
    | some (.bool false)=>some (n,k)
    | _=>none
   | none=>none
  | none=>none
 | _=>none
theorem Zt {P:Program} {t k:TypeId} {n:Nat} (h:NT P t=some (n,k)): ∃ e,P.underlying t=some (.map k e)/\ GH P k=some n/\ ∀ w,(zeroValue e).run P w= .ok (.bool false) w:=by
 unfold NT at h;split at h
 ·rename_i k' e hu;split at h
  ·rename_i n' hk;split at h
   ·rename_i i hi;split at h
    ·rename_i hz;cases h;exact ⟨e,hu,hk,fun w=>by simp [zeroValue,typeInfo,hi,hz]⟩
    ·cases h
   ·cases h
  ·cases h
 ·cases h
def VL (P:Program) (S:St) (t:TypeId) (m k x:DV):Option (DV×DH×List Prop×Bool):=match NT P t with
 | some (n,_)=>match V4 n k,x with
  | some x,.bool true=>match m with
   | .it j=>match S.h[j]? with
    | some (some (.mo (.set n' l)))=>if n'=n then some (.any,S.h.set j (some (.mo (.set n (CP x l)))),[],false) else none
    | _=>none
   | .mri j i=>match S.h[j]? with
    | some (some (.mo (.sets n' ls lk)))=>if n'=n then some (.any,S.h.set j (some (.mo (.sets n (ls.set i (some (CP x ((ls.getD i none).getD [])))) lk))),[(ls.getD i none).isSome=true,Vv lk i],false) else none
    | _=>none
   | _=>none
  | _,_=>none
 | none=>none
def Zu (P:Program) (S:St):Op -> Option (DV×DH×List Prop×Bool)
 | .makeMap t none=>match NT P t with
  | some (n,_)=>some (.it S.h.length,S.h++[some (.mo (.set n []))],[],true)
  | none=>none
 | .mapUpdate t m k x=>VL P S t (AX S.fr m) (AX S.fr k) (AX S.fr x)
 | .insert t m k x=>VL P S t (AX S.fr m) (AX S.fr k) (AX S.fr x)
 | .lookup t m k false=>match NT P t with
  | some (n,_)=>match V4 n (AX S.fr k) with
   | some x=>match AX S.fr m with
    | .it j=>match S.h[j]? with
     | some (some (.mo (.set n' l)))=>if n'=n then some (.bool (l.contains x),S.h,[],true) else none
     | _=>none
    | .mri j i=>match S.h[j]? with
     | some (some (.mo (.sets n' ls _)))=>if n'=n then some (.bool (((ls.getD i none).getD []).contains x),S.h,[(ls.getD i none).isSome=true],true) else none
     | _=>none
    | _=>none
   | none=>none
  | none=>none
 | .range t m=>match NT P t with
  | some (n,_)=>match AX S.fr m with
   | .mri j i=>match S.h[j]? with
    | some (some (.mo (.sets n' ls (some (i',mb,es,Ac)))))=>if n'=n then some (.it S.h.length,S.h++[some (.mo (.mit n mb es Ac ((ls.getD i none).getD []) none))],[(ls.getD i none).isSome=true,i'=i],true) else none
    | _=>none
   | _=>none
  | none=>none
 | .entry m=>match AX S.fr m with
  | .it j=>match S.h[j]? with
   | some (some (.mo (.mit n mb es Ac _ (some x))))=>match W8 0 S.h with
    | some (_,_,ls,i,jF,D8,Ej)=>some (.tup 2 (Fw 2 fun c=>if c=0 then Z7 n x else .bool true),S.h,[(ls.getD i none).isSome=true,jF=mb,D8=es,Ej=Ac],true)
    | none=>none
   | _=>none
  | _=>none
 | _=>none
section
variable {P:Program} {Γ:Aq} {N:Nat -> Prop} {S:St} {ρ:List AI} {a:Act} {w:World}
theorem Pu {ls:List (Option KS)} {i:Nat} (h:(ls.getD i none).isSome=true):ls[i]? =some (some ((ls.getD i none).getD [])):=by
 rw [u8] at h ⊢;cases hx:ls[i]? with
 | none=>rw [hx] at h;cases h
 | some x=>
  rw [hx] at h;cases x with
  | none=>cases h
  | some l=>simp
theorem Ye (R:AT P Γ N S ρ a w) {j n:Nat} {l:KS} {v:Value} (hk:S.h[j]? =some (some (.mo (.set n l)))) (hv:AM (MS N S.h ρ) w (.it j) ρ v): ∃ p es Ac,ρ[j]? =some p/\ v= .map (some p.blk)/\ p.foot=(fun b=>b=p.blk)/\ p.val=Value.map (some p.blk)/\ Ek w p.blk n l es Ac:=by
 obtain ⟨p,hp,rfl⟩:=hv;obtain ⟨p',BD,h1,h2,es,Ac,h3⟩:=R.hr.obj j _ hk;have:p'=p:=zAU (BD.symm.trans hp);subst this;exact ⟨p',es,Ac,hp,h1,h2,h1,h3⟩
theorem Yc (R:AT P Γ N S ρ a w) {j i n:Nat} {ls:List (Option KS)} {lk:Option (Nat×Nat×Array MapEntry×Nat)} {v:Value} (hk:S.h[j]? =some (some (.mo (.sets n ls lk)))) (hv:AM (MS N S.h ρ) w (.mri j i) ρ v) (hs:(ls.getD i none).isSome=true):
 ∃ p vs b es Ac,ρ[j]? =some p/\ E2 w p n ls lk vs/\ v= .map (some b)/\ vs[i]? =some (Value.map (some b))/\ p.foot b/\ Ek w b n ((ls.getD i none).getD []) es Ac/\ ∀ y,lk=some y -> y.1=i -> y.2=(b,es,Ac):=by
 obtain ⟨p,vs,hp,Gc,Cr⟩:=hv;obtain ⟨p',BD,Bm,h1⟩:=R.hr.obj j _ hk;have:p'=p:=zAU (BD.symm.trans hp);subst this;have:Bm=vs:=by have:=h1.val.symm.trans Gc;cases this;rfl
 subst this;obtain ⟨b,g1,g2,g3,es,Ac,g4,g5⟩:=h1.has i _ (Pu hs);have:v= .map (some b):=by rw [g1] at Cr;exact (zAU Cr).symm
 exact ⟨p',Bm,b,es,Ac,hp,h1,this,g1,g3,g4,g5⟩
theorem Yh (R:AT P Γ N S ρ a w) {d:DV} {v:Value} (hv:AM (MS N S.h ρ) w d ρ v):CW P Γ N S.h ρ w true d S.h v w:=⟨⟨ρ,R.hr,hv,A6.refl _ _ _,fun _ _ h=>h⟩,fun _=>Ao.refl w⟩
theorem TH (H:A1 P Γ N S.h ρ w) {ob:Obj} (C8:k6 ob=true) {pl:AI} (Ex:pl.foot=fun b=>b=w.heap.size) {o:DO} {d:DV} {v:Value} (ho: ∀ M ρ',Dx P M (w.alloc ob) ρ' pl o)
 (hv: ∀ M ρ',ρ'[S.h.length]? =some pl -> AM M (w.alloc ob) d ρ' v) (ext:Bool):CW P Γ N S.h ρ w ext d (S.h++[some o]) v (w.alloc ob):=by
 have hE:Ao w (w.alloc ob):=(Ao.refl w).allocR _;have hf: ∀ b,pl.foot b -> w.heap.size<=b:=fun b hb=>by rw [Ex] at hb;exact Nat.le_of_eq (Eq.symm hb)
 have hb:(w.alloc ob).heap[w.heap.size]? =some ob:=zEt w _;refine ⟨⟨ρ++[pl],H.snoc hE (fun b hx=>⟨hf b hx,ob,C8,(),by rw [Ex] at hx;rw [show b=w.heap.size from hx];exact hb⟩) (ho _ _),?_,A6.snoc H hE hf,fun k p hk=>EV hk⟩,fun _=>hE⟩;exact hv _ _ (by rw [←H.len];simp)
theorem iC (R:AT P Γ N S ρ a w) {t:TypeId} {m k x:Operand} {d:DV} {h':DH} {vs:List Prop} {ext:Bool} (hd:VL P S t (AX S.fr m) (AX S.fr k) (AX S.fr x)=some (d,h',vs,ext)) (hv:Ba vs):
 ∃ w',(Instr.mapUpdate t (a.eval m) (a.eval k) (a.eval x)).run P w= .ok () w'/\ CW P Γ N S.h ρ w ext d h' undef w':=by
 have rm:=Bh R m;have rk:=Bh R k;have rx:=Bh R x;unfold VL at hd;split at hd
 ·rename_i n kt hT;obtain ⟨e,hu,hk,hz⟩:=Zt hT;split at hd
  ·rename_i xs hK hX;obtain ⟨ek,el⟩:=ji hK rk;rw [hX] at rx;have ex:a.eval x= .bool true:=rx;rw [ek,ex];split at hd
   ·rename_i j hM;split at hd
    ·rename_i n' l hO;split at hd
     ·rename_i hn;cases hd;subst hn;rw [hM] at rm;obtain ⟨p,es,Ac,hp,ev,Ex,Gc,hA⟩:=Ye R hO rm;rw [ev];obtain ⟨w',D8,Ej,h1,h2,h3⟩:=hA.put hu hk el;have Ht:AP p.foot w w':=by rw [Ex];exact h2
      refine ⟨w',h1,⟨ρ,R.hr.write hO hp Ht (fun b hb=>?_) ⟨Gc,Ex,D8,Ej,h3⟩,trivial,A6.write hO hp Ht,fun _ _ h=>h⟩,fun h=>by cases h⟩;rw [Ex] at hb;exact ⟨_,rfl,(),by rw [show b=p.blk from hb];exact h3.blk⟩
     ·cases hd
    ·cases hd
   ·rename_i j i hM;split at hd
    ·rename_i n' ls lk hO;split at hd
     ·rename_i hn;cases hd;subst hn;obtain ⟨hs,ao,_⟩:=hv;rw [hM] at rm;obtain ⟨p,vs,b,es,Ac,hp,hS,ev,Cr,GP,hA,_⟩:=Yc R hO rm hs;rw [ev];obtain ⟨w',D8,Ej,h1,h2,h3⟩:=hA.put hu hk el;have Ht:AP p.foot w w':=h2.mono fun c _ hc=>by rw [show c=b from hc];exact GP
      have L3:=hS.put (Pu hs) Cr h2 h3 ao;exact ⟨w',h1,⟨ρ,R.hr.write hO hp Ht (fun b hb=>L3.lies hb) ⟨vs,L3⟩,trivial,A6.write hO hp Ht,fun _ _ h=>h⟩,fun h=>by cases h⟩
     ·cases hd
    ·cases hd
   ·cases hd
  ·cases hd
 ·cases hd
theorem vZ (es:Array MapEntry):leftOf es #[]=es:=by
 unfold leftOf;refine Array.filter_eq_self.2 fun x hx=>by simp
theorem sD {r bm IB Ac:Nat} {seen:Array Nat} {es:Array MapEntry} {e:MapEntry} (hr:w.heap[r]? =some (.mapIter (some bm) IB seen Ac)) (hs:seen.back? =some e.born) (hb:w.heap[bm]? =some (.map es Ac)) (he:e∈es.toList) (hn:(es.toList.map (·.born)).Nodup):
 (Instr.entry (.pointer (some ⟨r,0,none⟩))).run P w= .ok (.tuple #[e.key,e.val]) w:=by
 have hf:es.find? (·.born==e.born)=some e:=by rw [←Array.find?_toList];exact find_born e es.toList hn he
 simp only [Instr.entry,getObj,zAg,Sem.run,hr,hb,Result.andThen,hs,bne_self_eq_false,zDs,zEg,hf];rfl
theorem vB (R:AT P Γ N S ρ a w) (o:Oper) {d:DV} {h':DH} {vs:List Prop} {ext:Bool} (hd:Zu P S o.op=some (d,h',vs,ext)) (hv:Ba vs):BK P (execOp a.eval o) w (CW P Γ N S.h ρ w ext d h'):=by
 unfold Zu at hd;split at hd
 ·rename_i t ho;split at hd
  ·rename_i n kt hT;cases hd;refine BK.value (s:=Instr.makeMap t none) (by unfold execOp;rw [ho];rfl) (v:=.map (some w.heap.size)) (w':=w.alloc (.map #[] 0)) (by simp [Instr.makeMap,newObj];rfl) ?_;refine TH (ob:=.map #[] 0) (o:=.mo (.set n [])) (d:=.it S.h.length) (v:=.map (some w.heap.size)) (pl:=⟨w.heap.size,0,0,.map (some w.heap.size),fun b=>b=w.heap.size⟩) R.hr rfl rfl (fun M ρ'=>⟨rfl,rfl,#[],0,⟨zEt w _,by simp,List.nodup_nil,fun y hy=>absurd hy zEr,fun e he=>absurd he (by simp),fun e he=>absurd he (by simp),by simp⟩⟩) (fun M ρ' hp=>⟨_,hp,rfl⟩) true
  ·cases hd
 ·rename_i t m k x ho;obtain ⟨w',h1,h2⟩:=iC R hd hv;exact BK.skip (s:=Instr.mapUpdate t (a.eval m) (a.eval k) (a.eval x)) (by unfold execOp;rw [ho]) h1 h2
 ·rename_i t m k x ho;obtain ⟨w',h1,h2⟩:=iC R hd hv;exact BK.skip (s:=Instr.mapUpdate t (a.eval m) (a.eval k) (a.eval x)) (by unfold execOp;rw [ho]) h1 h2
 ·rename_i t m k ho;have rm:=Bh R m;have rk:=Bh R k;split at hd
  ·rename_i n kt hT;obtain ⟨e,hu,hk,hz⟩:=Zt hT;split at hd
   ·rename_i xs hK;obtain ⟨ek,el⟩:=ji hK rk;split at hd
    ·rename_i j hM;split at hd
     ·rename_i n' l hO;split at hd
      ·rename_i hn;cases hd;subst hn;rw [hM] at rm;obtain ⟨p,es,Ac,hp,ev,Ex,Gc,hA⟩:=Ye R hO rm;exact BK.value (s:=Instr.lookup t (a.eval m) (a.eval k) false) (by unfold execOp;rw [ho]) (by rw [ek,ev];exact hA.look hu hk el (hz w)) (Yh R rfl)
      ·cases hd
     ·cases hd
    ·rename_i j i hM;split at hd
     ·rename_i n' ls lk hO;split at hd
      ·rename_i hn;cases hd;subst hn;rw [hM] at rm;obtain ⟨p,vs,b,es,Ac,hp,hS,ev,Cr,GP,hA,_⟩:=Yc R hO rm hv.1;exact BK.value (s:=Instr.lookup t (a.eval m) (a.eval k) false) (by unfold execOp;rw [ho]) (by rw [ek,ev];exact hA.look hu hk el (hz w)) (Yh R rfl)
      ·cases hd
     ·cases hd
    ·cases hd
   ·cases hd
  ·cases hd
 ·rename_i t m ho;have rm:=Bh R m;split at hd
  ·rename_i n kt hT;obtain ⟨e,hu,hk,hz⟩:=Zt hT;split at hd
   ·rename_i j i hM;split at hd
    ·rename_i n' ls i' mb es Ac hO;split at hd
     ·rename_i hn;cases hd;subst hn;obtain ⟨hs,hi,_⟩:=hv;subst hi;rw [hM] at rm;obtain ⟨p,vs,b,H4,Xc,hp,hS,ev,Cr,GP,hA,hL⟩:=Yc R hO rm hs;have hL:=hL _ rfl rfl;cases hL;refine BK.value (s:=Instr.range t (a.eval m)) (by unfold execOp;rw [ho]) (by rw [ev];exact run_range_map w t _ _ _ _ _ hu hA.blk) ?_;refine TH (ob:=.mapIter (some mb) Ac #[] Ac) (o:=.mo (.mit n' mb es Ac ((ls.getD i' none).getD []) none)) (d:=.it S.h.length) (v:=.pointer (some ⟨w.heap.size,0,none⟩)) (pl:=⟨w.heap.size,0,0,.pointer (some ⟨w.heap.size,0,none⟩),fun b=>b=w.heap.size⟩) R.hr rfl rfl (fun M ρ'=>⟨fun x hx=>hx.elim (hA.len x) (fun e=>by cases e),rfl,rfl,#[],zEt w _,by rw [vZ];exact hA.keys,fun x hx=>by cases hx⟩) (fun M ρ' hp=>⟨_,hp,rfl⟩) true
     ·cases hd
    ·cases hd
   ·cases hd
  ·cases hd
 ·rename_i m ho;have rm:=Bh R m;split at hd
  ·rename_i j hM;split at hd
   ·rename_i n mb es Ac rem x hO;split at hd
    ·rename_i k n' ls i jF D8 Ej hF;cases hd;obtain ⟨hs,e1,e2,e3,_⟩:=hv;subst e1 e2 e3;rw [hM] at rm;obtain ⟨p,hp,ev⟩:=rm;obtain ⟨p',BD,h0,h1,h2,seen,h3,h4,h5⟩:=R.hr.obj j _ hO;have:p'=p:=zAU (BD.symm.trans hp);subst this;obtain ⟨e,g1,g2,g3⟩:=h5 x rfl;have hF:=(zBN _ _ hF).2;obtain ⟨q,hq,vs,hS⟩:=R.hr.obj _ _ hF;obtain ⟨b,k1,k2,k3,H4,Xc,k4,k5⟩:=hS.has i _ (Pu hs);have k5:=k5 _ rfl rfl;cases k5;refine BK.value (s:=Instr.entry (a.eval m)) (by unfold execOp;rw [ho]) (by rw [ev,h1];exact sD h3 g3 k4.blk g1 k4.stamps) (Yh R ?_);refine ⟨_,rfl,rfl,fun c hc=>?_⟩;rw [Ud hc,g2,k4.tru e g1]
     match c,hc with
     | 0,_=>exact ⟨BS x,rfl,wM (h0 x (.inr rfl))⟩
     | 1,_=>exact ⟨.bool true,rfl,rfl⟩
    ·cases hd
   ·cases hd
  ·cases hd
 ·cases hd
end
end Go.Proofs.YtkjbblkieglmlaaGreatDoor
namespace Go.Proofs.YtkjbblkieglmlaaGreatDoor
abbrev zD7:=@List.getElem?_replicate
abbrev zFZ:=@Array.getElem?_replicate
end Go.Proofs.YtkjbblkieglmlaaGreatDoor
namespace Go.Proofs.YtkjbblkieglmlaaGreatDoor
open Go.RowKit
def Vr (P:Program) (t:TypeId):Option (Nat×TypeId×TypeInfo):=match P.underlying t with
 | some (.slice e)=>match NT P e with
  | some (n,_)=>match P.info? e with
   | some i=>match i.zero with
    | some (.map none)=>if i.size=1/\ i.bytes<=128 then some (n,e,i) else none
    | _=>none
   | none=>none
  | none=>none
 | _=>none
theorem uy {P:Program} {t e:TypeId} {n:Nat} {i:TypeInfo} (h:Vr P t=some (n,e,i)):P.underlying t=some (.slice e)/\ P.info? e=some i/\ i.zero=some (.map none)/\ i.size=1/\ i.bytes<=128:=by
 unfold Vr at h;split at h
 ·rename_i e' hu;split at h
  ·split at h
   ·rename_i i' hi;split at h
    ·rename_i hz;split at h
     ·rename_i hc;cases h;exact ⟨hu,hi,hz,hc.1,hc.2⟩
     ·cases h
    ·cases h
   ·cases h
  ·cases h
 ·cases h
section
variable {P:Program} {Γ:Aq} {N:Nat -> Prop} {S:St} {ρ:List AI} {a:Act} {w:World} {h:DH}
theorem sw {α:Type} {n j:Nat} {x y:α} (h:(List.replicate n x)[j]? =some y):x=y:=by
 rw [zD7] at h;split at h
 ·exact zAU h
 ·cases h
theorem vD (R:AT P Γ N S ρ a w) {t e:TypeId} {x y:Operand} {n:Nat} {i:TypeInfo} {kx ky:IntKind} {m:Int} (hT:Vr P t=some (n,e,i)) (hx:AX S.fr x= .int kx m) (hy:AX S.fr y= .int ky m)
 (hn:0<=m/\ m<=1000000000000) (o:Oper) (ho:o.op= .makeSlice t x y) (ext:Bool):
 BK P (execOp a.eval o) w (CW P Γ N S.h ρ w ext (.msl S.h.length 1 0 m.toNat) (S.h++[some (.mo (.sets n (List.replicate m.toNat none) none))])):=by
 obtain ⟨hu,hi,hz,hs,Dh⟩:=uy hT;have GK:=hn.1;have GJ:=hn.2;have rx:=Bh R x;have ry:=Bh R y;rw [hx] at rx;rw [hy] at ry;have DU:(madeCells (Value.map none).cells (m.toNat*i.size)).size=m.toNat:=by rw [size_madeCells,hs,zD4]
 have C9: ∀ j,j<m.toNat -> (madeCells (Value.map none).cells (m.toNat*i.size))[j]? =some (Value.map none):=fun j hj=>by
  simp [madeCells,hs,hj,Value.cells,Nat.mod_one]
 refine BK.value (s:=Instr.makeSlice t (a.eval x) (a.eval y)) (by unfold execOp;rw [ho]) (v:=.slice (some ⟨w.heap.size,0,none⟩) m.toNat m.toNat) (w':=w.alloc (.cells (madeCells (Value.map none).cells (m.toNat*i.size)) e)) ?_ ?_
 ·rw [show a.eval x=_ from rx,show a.eval y=_ from ry];refine run_make w t e i _ hu hi hz kx ky m m GK (zER _) ?_ (by omega);have:(i.bytes:Int)*m<=128*1000000000000:=Int.mul_le_mul (by omega) GJ GK (by omega);omega
 ·generalize hC:madeCells (Value.map none).cells (m.toNat*i.size)=cs at DU C9 ⊢
  refine TH (ob:=.cells cs e) (o:=.mo (.sets n (List.replicate m.toNat none) none)) (d:=.msl S.h.length 1 0 m.toNat) (pl:=⟨w.heap.size,0,cs.size,.tuple (Array.replicate m.toNat (Value.map none)),fun b=>b=w.heap.size⟩) R.hr rfl rfl (fun M ρ'=>?_) (fun M ρ' hp=>⟨_,m.toNat,hp,by simp,zAm _,by unfold LB;omega,by simp [DU]⟩) ext;refine ⟨Array.replicate m.toNat (Value.map none),rfl,by simp,⟨cs,e,zEt w _,by simp [DU],zAm _,fun j hj=>?_⟩,rfl,fun j l hj=>?_,fun j hj=>?_,fun b hb=>.inl hb,fun i j b h1 h2=>?_⟩
  ·rw [zAe] at hj
   show cs[0+j]? =_
   rw [zAj,C9 j hj,zFZ,zAB hj]
  ·have:=sw hj;cases this
  ·have BT:=(zAV.1 hj).1;rw [zAe] at BT;rw [zFZ,zAB BT]
  ·rw [zFZ] at h1;split at h1 <;> cases h1
theorem A1.merge (H:A1 P Γ N h ρ w) {w':World} {k j:Nat} {o oj o':DO} {p q p':AI} (az:k≠j) (hk:h[k]? =some (some o)) (hp:ρ[k]? =some p) (hj:h[j]? =some (some oj)) (hq:ρ[j]? =some q) (hu:AP p.foot w w') (hf: ∀ b,p'.foot b -> (p.foot b∨q.foot b)/\ Da w' b)
 (ho:Dx P (MS N ((h.set k none).set j none++[some o']) (ρ++[p'])) w' (ρ++[p']) p' o'):
 A1 P Γ N ((h.set k none).set j none++[some o']) (ρ++[p']) w'/\ A6 h ρ w ((h.set k none).set j none++[some o']) (ρ++[p']) w':=by
 have Ap:((h.set k none).set j none).length=h.length:=by simp
 have hM: ∀ b,p.foot b -> MO h ρ b:=fun b hb=>⟨k,o,p,hk,hp,hb⟩
 have hMq: ∀ b,q.foot b -> MO h ρ b:=fun b hb=>⟨j,oj,q,hj,hq,hb⟩
 have lZ: ∀ {i:Nat} {o1:DO},((h.set k none).set j none)[i]? =some (some o1) -> i≠k/\ i≠j/\ h[i]? =some (some o1):=fun {i o1} hi=>by
  obtain ⟨e1,e2⟩:=Fs hi;obtain ⟨e3,e4⟩:=Fs e2;exact ⟨e3,e1,e4⟩
 have IS: ∀ {i:Nat} {o1:DO} {p1:AI},((h.set k none).set j none++[some o'])[i]? =some (some o1) -> (ρ++[p'])[i]? =some p1 -> (i≠k/\ i≠j/\ i<h.length/\ h[i]? =some (some o1)/\ ρ[i]? =some p1)∨(i=h.length/\ o1=o'/\ p1=p'):=by
  intro i o1 p1 h1 h2;rcases Di h1 with ⟨hl,h1⟩ | ⟨hl,h1⟩
  ·rw [Ap] at hl;rcases Di h2 with ⟨_,h2⟩ | ⟨Cf,_⟩
   ·obtain ⟨e1,e2,e3⟩:=lZ h1;exact .inl ⟨e1,e2,hl,e3,h2⟩
   ·rw [H.len] at Cf;omega
  ·rw [Ap] at hl;rcases Di h2 with ⟨Cf,_⟩ | ⟨_,h2⟩
   ·rw [H.len] at Cf;omega
   ·cases h1;exact .inr ⟨hl,rfl,h2.symm⟩
 have grow: ∀ b,MO ((h.set k none).set j none++[some o']) (ρ++[p']) b -> MO h ρ b:=by
  rintro b ⟨i,o1,p1,h1,h2,h3⟩;rcases IS h1 h2 with ⟨_,_,_,g1,g2⟩ | ⟨_,_,rfl⟩
  ·exact ⟨i,o1,p1,g1,g2,h3⟩
  ·exact (hf b h3).1.elim (hM b) (hMq b)
 have O:BU (MS N h ρ) w ρ (MS N ((h.set k none).set j none++[some o']) (ρ++[p'])) w' (ρ++[p']):=
  ⟨fun b hb hm _=>hu.block b hb fun hx=>hm (.inr (hM b hx)),fun b hb=>.inl (hb.imp id (grow b)),fun i q hi=>EV hi⟩
 refine ⟨⟨by simp [H.len],fun i o1 hi=>?_,fun i o1 p1 b h1 h2 h3=>?_,fun i i' o1 o2 p1 p2 b Ak h1 h2 h3 h4 h5 h6=>?_,fun b hb=>⟨zAY (H.nlt b hb).1 hu.size,(H.nlt b hb).2⟩,Γ.st _ _ H.gi (hu.mono fun b _ hb=>(H.cel k o p b hk hp hb).1)⟩,⟨hu.mono fun b _ hb=>hM b hb,fun b hb=>.inl (grow b hb)⟩⟩
 ·rcases Di hi with ⟨hl,hi⟩ | ⟨hl,hi⟩
  ·obtain ⟨e1,e2,e3⟩:=lZ hi;obtain ⟨p1,Lp,hr⟩:=H.obj i o1 e3;exact ⟨p1,EV Lp,hr.out O hu (fun b hb=>.inr (hM b hb)) fun b _ h1 h2=>H.dis i k o1 o p1 p b e1 e3 hk Lp hp h1 h2⟩
  ·cases hi;exact ⟨p',by rw [hl,Ap,←H.len];simp,ho⟩
 ·rcases IS h1 h2 with ⟨Ak,_,_,g1,g2⟩ | ⟨_,_,rfl⟩
  ·obtain ⟨e1,e2,c,t,z,e3⟩:=H.cel i o1 p1 b g1 g2 h3;exact ⟨e1,e2,c,t,z,(hu.block b (zAJ.1 e3).1 fun hx=>H.dis i k o1 o p1 p b Ak g1 hk g2 hp h3 hx).trans e3⟩
  ·obtain ⟨e1,e2⟩:=hf b h3;rcases e1 with e1 | e1
   ·obtain ⟨q1,q2,_⟩:=H.cel k o p b hk hp e1;exact ⟨q1,q2,e2⟩
   ·obtain ⟨q1,q2,_⟩:=H.cel j oj q b hj hq e1;exact ⟨q1,q2,e2⟩
 ·have key: ∀ {i o1 p1},i≠k -> i≠j -> h[i]? =some (some o1) -> ρ[i]? =some p1 -> p1.foot b -> p'.foot b -> False:=fun {i o1 p1} Ak Nr g1 g2 g3 g4=>by
   rcases (hf b g4).1 with e1 | e1
   ·exact H.dis i k o1 o p1 p b Ak g1 hk g2 hp g3 e1
   ·exact H.dis i j o1 oj p1 q b Nr g1 hj g2 hq g3 e1
  rcases IS h1 h3 with ⟨Sr,Nr,_,g1,g2⟩ | ⟨e1,_,rfl⟩
  ·rcases IS h2 h4 with ⟨hne3,_,_,g3,g4⟩ | ⟨e2,_,rfl⟩
   ·exact H.dis i i' o1 o2 p1 p2 b Ak g1 g3 g2 g4 h5 h6
   ·exact key Sr Nr g1 g2 h5 h6
  ·rcases IS h2 h4 with ⟨Sr,Nr,_,g1,g2⟩ | ⟨e2,_,rfl⟩
   ·exact key Sr Nr g1 g2 h6 h5
   ·exact Ak (e1.trans e2.symm)
def Lb (k k':Nat):DV -> DV
 | .msl k1 m o n=>if k1=k then .msl k' m o n else .msl k1 m o n
 | d=>d
def YM (P:Program) (S:St) (o:Oper):Option (St×List Prop):=match o.op with
 | .store t x y=>match o.dst with
  | none=>match AX S.fr x with
   | .mp k 1 i 0=>match AX S.fr y with
    | .it j=>match S.h[k]? with
     | some (some (.mo (.sets n ls none)))=>match S.h[j]? with
      | some (some (.mo (.set n' l)))=>if n'=n/\ (P.info? t).any (fun i=>i.size==1)=true then some (⟨S.fr.map (Lb k S.h.length),(S.h.set k none).set j none++[some (.mo (.sets n (ls.set i (some l)) none))]⟩,[i<ls.length]) else none
      | _=>none
     | _=>none
    | _=>none
   | _=>none
  | some _=>none
 | _=>none
theorem E2.of_map {p:AI} {n:Nat} {ls:List (Option KS)} {lk:Option (Nat×Nat×Array MapEntry×Nat)} {vs:Array Value} (hS:E2 w p n ls lk vs) {i b:Nat} (h:vs[i]? =some (Value.map (some b))): ∃ l,ls[i]? =some (some l)/\ p.foot b/\ b≠p.blk/\ ∃ es Ac,Ek w b n l es Ac:=by
 have hi:i<ls.length:=by rw [←hS.size];exact (zAJ.1 h).1
 cases hl:ls[i] with
 | none=>
  have:=hS.nil i (by rw [zAQ hi,hl]);rw [this] at h;cases h
 | some l=>
  have Ew:ls[i]? =some (some l):=by rw [zAQ hi,hl]
  obtain ⟨b',g1,g2,g3,es,Ac,g4,_⟩:=hS.has i l Ew;have:b'=b:=by rw [g1] at h;cases h;rfl
  subst this;exact ⟨l,Ew,g3,g2,es,Ac,g4⟩
theorem pK (R:AT P Γ N S ρ a w) {o:Oper} {S':St} {vs:List Prop} (h:YM P S o=some (S',vs)) (hv:Ba vs):
 BK P (execOp a.eval o) w (fun v w'=>(∃ ρ',AT P Γ N S' ρ' (a.put o.dst v) w'/\ Ci S.h ρ w S'.h ρ' w')/\ ∃ k i p t x y,o.op= .store t x y/\ AX S.fr x= .mp k 1 i 0/\ ρ[k]? =some p/\ AP p.foot w w'):=by
 unfold YM at h;split at h
 case h_2=>cases h
 rename_i t x y ho;split at h
 case h_2=>cases h
 rename_i bF;split at h
 case h_2=>cases h
 rename_i k i hX;split at h
 case h_2=>cases h
 rename_i j hY;split at h
 case h_2=>cases h
 rename_i n ls hK;split at h
 case h_2=>cases h
 rename_i n' l hJ;split at h
 case isFalse=>cases h
 rename_i hc;cases h;obtain ⟨zd,A3⟩:=hc;subst zd;have hi:i<ls.length:=hv.1;have rx:=Bh R x;have ry:=Bh R y;rw [hX] at rx;rw [hY] at ry;obtain ⟨p,hp,ex⟩:=rx;obtain ⟨q,es,Ac,hq,ey,kJ,hqv,hA⟩:=Ye R hJ ry;obtain ⟨p',BD,Og,hS⟩:=R.hr.obj k _ hK;have:p'=p:=zAU (BD.symm.trans hp);subst this;have az:k≠j:=fun e=>by subst e;rw [hK] at hJ;cases hJ
 obtain ⟨cs,ty,hb,Fb,Cf,C9⟩:=hS.row;cases KU:P.info? t with
 | none=>rw [KU] at A3;cases A3
 | some ti=>
 rw [KU] at A3;have PZ:ti.size=1:=by simpa using A3
 have kf:i<Og.size:=by rw [hS.size];exact hi
 have ab: ∀ b,p'.foot b -> b≠q.blk:=fun b hb e=>R.hr.dis k j _ _ p' q b az hK hJ hp hq hb (by rw [kJ];exact e)
 have bv:a.eval x= .pointer (some ⟨p'.blk,p'.off+i,none⟩):=by rw [ex];simp
 have A4:w.cell? ⟨p'.blk,p'.off+i,none⟩=some Og[i]:=by
  unfold World.cell?;simp only [hb];rw [C9 i hi,zAq kf];rfl
 have GO: ∀ jj,w.frozen? ⟨p'.blk,jj,none⟩=false:=fun jj=>by unfold World.frozen?;simp [hb]
 have hU:AP p'.foot w (w.setCells p'.blk (p'.off+i) (a.eval y).cells.toList):=(Oj _ _ _ _).mono fun b _ e=>by rw [show b=p'.blk from e];exact hS.blk
 refine BK.skip (s:=Instr.storeAt t (a.eval x) (a.eval y)) (by unfold execOp;rw [ho]) (w':=w.setCells p'.blk (p'.off+i) (a.eval y).cells.toList) ?_ ?_
 ·rw [bv];refine Yr KU (by rw [ey,PZ];rfl) (fun jj Lv=>?_) GO (fun u hu=>?_)
  ·rw [ey] at Lv;have:jj=0:=by simpa [Value.cells] using Lv
   subst this;rw [zEp,A4];rfl
  ·rw [ey] at hu;have:u= .map (some q.blk):=by simpa [Value.cells] using hu
   subst this;rfl
 ·rw [bF];rw [ey] at hU ⊢;have eC:(Value.map (some q.blk)).cells.toList= [Value.map (some q.blk)]:=rfl;rw [eC] at hU ⊢;obtain ⟨EJ,e1,e2,e3⟩:=Pi p'.blk ty (0,0) [Value.map (some q.blk)] (p'.off+i) w cs hb (by simp;omega)
  generalize hW:w.setCells p'.blk (p'.off+i) [Value.map (some q.blk)]=W at hU e1 ⊢
  have AF: ∀ {b ob},b≠p'.blk -> w.heap[b]? =some ob -> W.heap[b]? =some ob:=fun {b ob} Ak C8=>by
   rw [←C8,←hW];exact (Oj p'.blk [Value.map (some q.blk)] (p'.off+i) w).block b (zAJ.1 C8).1 Ak
  have iA:q.blk≠p'.blk:=fun e=>ab p'.blk hS.blk e.symm
  let Bm:=Og.setIfInBounds i (Value.map (some q.blk))
  have Hr: ∀ m:Nat,Bm[m]? =if i=m then some (Value.map (some q.blk)) else Og[m]? :=fun m=>by
   show (Og.setIfInBounds i _)[m]? =_
   rw [zD0]
   by_cases e:i=m
   ·rw [zAB e,zAB e,zAB kf]
   ·rw [zAZ e,zAZ e]
  let p2:AI:=⟨p'.blk,p'.off,p'.room,.tuple Bm,fun b=>b=p'.blk∨∃ m:Nat,Bm[m]? =some (Value.map (some b))⟩
  have jJ: ∀ {m:Nat} {z:Option KS},(ls.set i (some l))[m]? =some z -> (m=i/\ z=some l)∨(m≠i/\ ls[m]? =some z):=fun {m z} hm=>by
   rw [zAo] at hm
   by_cases e:i=m
   ·subst e;simp [hi] at hm;exact .inl ⟨rfl,hm.symm⟩
   ·rw [zAZ e] at hm;exact .inr ⟨zFP e,hm⟩
  have SA:E2 W p2 n' (ls.set i (some l)) none Bm:=by
   refine ⟨rfl,by simp [Bm,hS.size],⟨EJ,ty,e1,by simpa [e2] using Fb,by rw [e2];exact Cf,fun m hm=>?_⟩,.inl rfl,fun m l1 hm=>?_,fun m hm=>?_,fun b hb=>?_,fun m m' b h1 h2=>?_⟩
   ·rw [zAl] at hm
    show EJ[p'.off+m]? =Bm[m]?
    rw [e3,Hr]
    by_cases e:i=m
    ·subst e;rw [zAB (by simp),zAB rfl];simp
    ·rw [zAZ (by simp;omega),zAZ e];exact C9 m hm
   ·rcases jJ hm with ⟨rfl,e⟩ | ⟨Ak,hm⟩
    ·cases e;refine ⟨q.blk,by rw [Hr,zAB rfl],iA,.inr ⟨m,by rw [Hr,zAB rfl]⟩,es,Ac,{ hA with blk:=AF iA hA.blk },fun x hx=>by cases hx⟩
    ·obtain ⟨b,k1,k2,k3,H4,c1,k4,_⟩:=hS.has m l1 hm;exact ⟨b,by rw [Hr,zAZ (zFP Ak)];exact k1,k2,.inr ⟨m,by rw [Hr,zAZ (zFP Ak)];exact k1⟩,H4,c1,{ k4 with blk:=AF k2 k4.blk },fun x hx=>by cases hx⟩
   ·rcases jJ hm with ⟨rfl,e⟩ | ⟨Ak,hm⟩
    ·cases e
    ·rw [Hr,zAZ (zFP Ak)];exact hS.nil m hm
   ·rcases hb with hb | ⟨m,hm⟩
    ·exact .inl hb
    ·refine .inr ?_;have AD:=hm;rw [Hr] at hm
     by_cases e:i=m
     ·subst e;exact ⟨i,l,by simp [hi],AD⟩
     ·rw [zAZ e] at hm;obtain ⟨l1,g1,_⟩:=hS.of_map hm;exact ⟨m,l1,by rw [zAo,zAZ e];exact g1,AD⟩
   ·rw [Hr] at h1 h2
    by_cases c1:i=m
    ·by_cases c2:i=m'
     ·omega
     ·rw [zAB c1] at h1;rw [zAZ c2] at h2;cases h1;obtain ⟨_,_,g2,_⟩:=hS.of_map h2;exact absurd rfl (ab _ g2)
    ·rw [zAZ c1] at h1
     by_cases c2:i=m'
     ·rw [zAB c2] at h2;cases h2;obtain ⟨_,_,g2,_⟩:=hS.of_map h1;exact absurd rfl (ab _ g2)
     ·rw [zAZ c2] at h2;exact hS.inj m m' b h1 h2
  have Ex: ∀ b,p2.foot b -> (p'.foot b∨q.foot b)/\ Da W b:=fun b hb=>by
   refine ⟨?_,SA.lies hb⟩;rcases hb with hb | ⟨m,hm⟩
   ·exact .inl (by rw [hb];exact hS.blk)
   ·rw [Hr] at hm
    by_cases e:i=m
    ·rw [zAB e] at hm;cases hm;exact .inr (by rw [kJ])
    ·rw [zAZ e] at hm;exact .inl (hS.of_map hm).choose_spec.2.1
  obtain ⟨g1,g2⟩:=R.hr.merge (o':=.mo (.sets n' (ls.set i (some l)) none)) (p':=p2) az hK hp hJ hq hU Ex ⟨Bm,SA⟩
  have O:BU (MS N S.h ρ) w ρ (MS N ((S.h.set k none).set j none++[some (.mo (.sets n' (ls.set i (some l)) none))]) (ρ++[p2])) W (ρ++[p2]):=
   ⟨fun b hb hm _=>hU.block b hb fun hx=>hm (.inr ⟨k,_,p',hK,hp,hx⟩),fun b hb=>hb.elim (fun h=>.inl (.inl h)) (fun h=>(g2.grow b h).imp .inr id),fun k q hk=>EV hk⟩
  refine ⟨⟨ρ++[p2],⟨g1,by simp [R.fr.1,Act.put],fun m hm=>?_⟩,g2,fun k q hk=>EV hk⟩,k,i,p',t,x,y,ho,hX,hp,hU⟩;have CS:m<S.fr.length:=by simpa using hm
  have e:(S.fr.map (Lb k S.h.length)).getD m .any=Lb k S.h.length (S.fr.getD m .any):=by simp [CS]
  show AM _ W ((S.fr.map (Lb k S.h.length)).getD m .any) _ _
  rw [e];have r0:=R.fr.2 m CS;cases hd:S.fr.getD m .any with
  | msl k1 m1 o1 n1=>
   rw [hd] at r0
   by_cases hc:k1=k
   ·have e2:Lb k S.h.length (.msl k1 m1 o1 n1)= .msl S.h.length m1 o1 n1:=by simp only [Lb,zAB hc]
    rw [e2];rw [hc] at r0;obtain ⟨q0,cap,kK,xT,u1,u2,u3⟩:=r0;have eq0:q0=p':=zAU (kK.symm.trans hp);subst eq0;exact ⟨p2,cap,by rw [←R.hr.len];simp,xT,u1,u2,u3⟩
   ·have e2:Lb k S.h.length (.msl k1 m1 o1 n1)= .msl k1 m1 o1 n1:=by simp only [Lb,zAZ hc]
    rw [e2];exact AM.out _ O r0
  | _=>rw [hd] at r0;exact AM.out _ O r0
end
end Go.Proofs.YtkjbblkieglmlaaGreatDoor
namespace Go.Proofs.YtkjbblkieglmlaaGreatDoor
abbrev zFE:=@List.mem_iff_getElem?
abbrev zFF:=@Array.getElem?_toList
abbrev zFz:=@Array.mem_toList_iff
end Go.Proofs.YtkjbblkieglmlaaGreatDoor
namespace Go.Proofs.YtkjbblkieglmlaaGreatDoor
open Go.RowKit
def Mk:DV:=.tup 0 (fun j=>([]:List DV).getD j .any)
theorem US {M:Nat -> Prop} {w:World} {ρ:List AI}:AM M w Mk ρ undef:=⟨#[],rfl,rfl,fun j hj=>absurd hj (zAf j)⟩
def CY (fr:List DV) (dst:Option Nat) (d:DV):List DV:=match dst with
 | some t=>fr.set t d
 | none=>fr
section
variable {P:Program} {Γ:Aq} {N:Nat -> Prop} {S:St} {ρ:List AI} {a:Act} {w:World}
theorem GU (R:AT P Γ N S ρ a w) (dst:Option Nat) {d:DV} {v:Value} (hv:AM (MS N S.h ρ) w d ρ v):AT P Γ N ⟨CY S.fr dst d,S.h⟩ ρ (a.put dst v) w:=by
 refine ⟨R.hr,?_⟩;cases dst with
 | none=>exact R.fr
 | some t=>exact R.fr.set t hv
theorem L6 (R:AT P Γ N S ρ a w) {d d':DV} {h':DH} {ext:Bool} {v:Value} {w':World} (dst:Option Nat) (G:CW P Γ N S.h ρ w ext d h' v w') (hd: ∀ M ρ',AM M w' d ρ' v -> AM M w' d' ρ' v):
 ∃ ρ',AT P Γ N ⟨CY S.fr dst d',h'⟩ ρ' (a.put dst v) w'/\ Ci S.h ρ w h' ρ' w':=by
 obtain ⟨ρ',g1,g2,g3,g4⟩:=G.ex;have O:BU (MS N S.h ρ) w ρ (MS N h' ρ') w' ρ':=⟨fun b hb hm _=>g3.upd.block b hb fun hx=>hm (.inr hx),fun b hb=>hb.elim (fun h=>.inl (.inl h)) (fun h=>(g3.grow b h).imp .inr id),g4⟩;have R':AT P Γ N ⟨S.fr,h'⟩ ρ' a w':=⟨g1,R.fr.out O⟩;exact ⟨ρ',GU R' dst (hd _ _ g2),g3,g4⟩
end
def RH (P:Program) (t:TypeId):Option (TypeId×TypeId):=match P.underlying t with
 | some (.map k e)=>if SZ P k then match P.info? e with
  | some i=>match i.zero with
   | some (.slice none 0 0)=>some (k,e)
   | _=>none
  | none=>none
  else none
 | _=>none
theorem gM {P:Program} {t k e:TypeId} (h:RH P t=some (k,e)):P.underlying t=some (.map k e)/\ GH P k=some 1/\ ∀ w,(zeroValue e).run P w= .ok (.slice none 0 0) w:=by
 unfold RH at h;split at h
 ·rename_i k' e' hu;split at h
  ·rename_i hk;split at h
   ·rename_i i hi;split at h
    ·rename_i hz;cases h;exact ⟨hu,by unfold GH;rw [aD hk],fun w=>by simp [zeroValue,typeInfo,hi,hz]⟩
    ·cases h
   ·cases h
  ·cases h
 ·cases h
def PJ (j q:Nat):DV -> DV
 | .mri k i=>if k=j then (if i=0 then .mri q 0 else .any) else .mri k i
 | d=>d
def Mj (f:Int -> List Int) (k:Int) (L:List Int):Int -> List Int:=fun x=>if x=k then L else f x
def RL (P:Program) (S:St) (o:Oper):Option (St×List Prop):=match o.op with
 | .makeMap t none=>match RH P t with
  | some _=>some (⟨CY S.fr o.dst (.mri S.h.length 0),S.h++[some (.mo (.rows (fun _=>[]) none))]⟩,[])
  | none=>none
 | .lookup t m k false=>match RH P t with
  | some _=>match AX S.fr m,AX S.fr k with
   | .mri j 0,.int .i64 x=>match S.h[j]? with
    | some (some (.mo (.rows f Bv)))=>if Bv.all (fun y=>!y.2.2) then some (⟨CY (S.fr.map (PJ j S.h.length)) o.dst (.mri S.h.length 1),S.h.set j none++[some (.mo (.rows f (some (x,f x,false))))]⟩,[]) else none
    | _=>none
   | _,_=>none
  | none=>none
 | .mapUpdate t m k y=>match RH P t with
  | some _=>match AX S.fr m,AX S.fr k,AX S.fr y with
   | .mri j 0,.int .i64 x,.mri j' 1=>match S.h[j]? with
    | some (some (.mo (.rows f (some (x',L,_)))))=>if j'=j then some (⟨CY S.fr o.dst Mk,S.h.set j (some (.mo (.rows (Mj f x' L) none)))⟩,[x'=x]) else none
    | _=>none
   | _,_,_=>none
  | none=>none
 | .call c=>match c.callee with
  | .builtin .append=>match c.args.toList with
   | [x,y]=>match c.argTypes.toList with
    | [t,t']=>if t=t' then match Jb P t with
     | some (.ints,_,i,_)=>if 128<i.bytes then none else match AX S.fr x,KN S (AX S.fr y) with
      | .mse j 1 off n,some (ys,vy)=>match S.h[j]? with
       | some (some (.ints xs))=>some (⟨CY S.fr o.dst (.mse S.h.length 1 0 (n+ys.length)),S.h.set j none++[some (.ints (xs.drop off++ys))]⟩,[vy,0<ys.length,off+n=xs.length,n+ys.length<=BB])
       | _=>none
      | .mri j 1,some (ys,vy)=>match S.h[j]? with
       | some (some (.mo (.rows f (some (x',L,_)))))=>some (⟨CY (S.fr.map (PJ j S.h.length)) o.dst (.mri S.h.length 1),S.h.set j none++[some (.mo (.rows f (some (x',L++ys,true))))]⟩,[vy,0<ys.length,L.length+ys.length<=BB])
       | _=>none
      | _,_=>none
     | _=>none
     else none
    | _=>none
   | _=>none
  | _=>none
 | _=>none
theorem sL {P:Program} {S:St} {o:Oper} {r:St×List Prop} (h:RL P S o=some r) {t:TypeId} {x y:Operand}:o.op≠.store t x y:=by
 intro e;unfold RL at h;rw [e] at h;cases h
theorem BC.map {M:Nat -> Prop} {w:World} {ρ:List AI} {fr:List DV} {t:Array Value} (h:BC M w ρ fr t) {g:DV -> DV} (hg: ∀ d v,AM M w d ρ v -> AM M w (g d) ρ v):BC M w ρ (fr.map g) t:=
 ⟨by simp [h.1],fun i hi=>by
  have BP:i<fr.length:=by simpa using hi
  have e:(fr.map g).getD i .any=g (fr.getD i .any):=by simp [BP]
  rw [e];exact hg _ _ (h.2 i BP)⟩
section
variable {P:Program} {Γ:Aq} {N:Nat -> Prop} {S:St} {ρ:List AI} {a:Act} {w w':World} {p p':AI} {f:Int -> List Int} {Bv:Option (Int×List Int×Bool)} {u:Value} {es:Array MapEntry} {Ac:Nat}
theorem ik (h:Ea w p f Bv u es Ac) {kt:TypeId} (hk:P.underlying kt=some (.int .i64)) (x:Int):
 ((Instr.findKey kt (.int .i64 x) es.toList).run P w= .ok none w/\ ∀ e∈es.toList,e.key≠.int .i64 x)∨∃ j e,(Instr.findKey kt (.int .i64 x) es.toList).run P w= .ok (some (j,e.val)) w/\ es[j]? =some e/\ e.key= .int .i64 x:=by
 rcases MapKept.findNow_spec (d:=.int .i64) (k:=.int .i64 x) (by trivial) es.toList 0 (fun e hm=>by
  obtain ⟨k,hk,_⟩:=h.key e hm;rw [hk];trivial) with ⟨h1,h2⟩ | ⟨j,e,h1,h2,h3⟩
 ·exact .inl ⟨zFX hk h1,h2⟩
 ·exact .inr ⟨j,e,by have:=zFX (w:=w) hk h1;rw [zAj] at this;exact this,by simpa using h2,h3⟩
theorem Vb (R:AT P Γ N S ρ a w) {j i:Nat} {v:Value} (hk:S.h[j]? =some (some (.mo (.rows f Bv)))) (hv:AM (MS N S.h ρ) w (.mri j i) ρ v): ∃ p u es Ac,ρ[j]? =some p/\ Ea w p f Bv u es Ac/\ (#[Value.map (some p.blk),u]:Array Value)[i]? =some v:=by
 obtain ⟨p,vs,hp,Gc,Cr⟩:=hv;obtain ⟨p',BD,u,es,Ac,h1⟩:=R.hr.obj j _ hk;have:p'=p:=zAU (BD.symm.trans hp);subst this;have: #[Value.map (some p'.blk),u]=vs:=by have:=h1.val.symm.trans Gc;cases this;rfl
 subst this;exact ⟨p',u,es,Ac,hp,h1,Cr⟩
theorem Ea.lies (h:Ea w p f Bv u es Ac):Da w p.blk:=⟨_,rfl,(),h.blk⟩
theorem gL (R:AT P Γ N S ρ a w) {j:Nat} (hj:S.h[j]? =some (some (.mo (.rows f Bv)))) (hp:ρ[j]? =some p) (hO:Ea w p f Bv u es Ac) {f':Int -> List Int} {Ic:Option (Int×List Int×Bool)} {u':Value} {D8:Array MapEntry} {Ej:Nat}
 (hu:AP p.foot w w') (hf: ∀ b,p'.foot b -> (p.foot b∨w.heap.size<=b)/\ Da w' b) (L4:Ea w' p' f' Ic u' D8 Ej) (bL:p'.blk=p.blk) (dst:Option Nat):
 ∃ ρ',AT P Γ N ⟨CY (S.fr.map (PJ j S.h.length)) dst (.mri S.h.length 1),S.h.set j none++[some (.mo (.rows f' Ic))]⟩ ρ' (a.put dst u') w'/\ Ci S.h ρ w (S.h.set j none++[some (.mo (.rows f' Ic))]) ρ' w':=by
 obtain ⟨g1,g2⟩:=R.hr.regrow (o':=.mo (.rows f' Ic)) hj hp hu hf ⟨u',D8,Ej,L4⟩;have Eu: ∀ (k:Nat) (q:AI),ρ[k]? =some q -> (ρ++[p'])[k]? =some q:=fun k q hk=>EV hk
 have O:BU (MS N S.h ρ) w ρ (MS N (S.h.set j none++[some (.mo (.rows f' Ic))]) (ρ++[p'])) w' (ρ++[p']):=
  ⟨fun b hb hm _=>hu.block b hb fun hx=>hm (.inr ⟨j,_,p,hj,hp,hx⟩),fun b hb=>hb.elim (fun h=>.inl (.inl h)) (fun h=>(g2.grow b h).imp .inr id),Eu⟩
 have hq:(ρ++[p'])[S.h.length]? =some p':=by rw [←R.hr.len];simp
 have Cg:=(R.fr.out O).map (g:=PJ j S.h.length) (fun d v hd=>by
  unfold PJ;split
  ·rename_i k i;split
   ·rename_i e;split
    ·rename_i e2;subst e e2;obtain ⟨q,vs,h1,h2,h3⟩:=hd;have:q=p:=zAU (h1.symm.trans (Eu _ _ hp));subst this;have e3: #[Value.map (some q.blk),u]=vs:=by have:=hO.val.symm.trans h2;cases this;rfl
     subst e3;exact ⟨p',_,hq,L4.val,by rw [bL];simpa using h3⟩
    ·trivial
   ·exact hd
  ·exact hd)
 exact ⟨ρ++[p'],GU (S:=⟨S.fr.map (PJ j S.h.length),_⟩) ⟨g1,Cg⟩ dst ⟨p',_,hq,L4.val,rfl⟩,g2,Eu⟩
theorem uM (h:Ea w p f Bv u es Ac) (hh: ∀ k L,Bv≠some (k,L,true)) {t kt et:TypeId} (hm:P.underlying t=some (.map kt et)) (hk:GH P kt=some 1) (hz:(zeroValue et).run P w= .ok (.slice none 0 0) w) (x:Int):
 ∃ u',(Instr.lookup t (.map (some p.blk)) (.int .i64 x) false).run P w= .ok u' w/\ Ea w { p with val:=.tuple #[Value.map (some p.blk),u'] } f (some (x,f x,false)) u' es Ac:=by
 have hu:P.underlying kt=some (.int .i64):=by
  rcases PT hk with ⟨_,hu⟩ | ⟨_,_,_,h2,_⟩
  ·exact hu
  ·cases h2
 have hc:=fun e=>PS (w:=w) hk (x:=[x]) rfl e
 have mk: ∀ u',(HP w (fun b=>p.foot b/\ b≠p.blk) u' (f x)/\ ∀ e∈es.toList,∀ b,DG u'=some b -> DG e.val=some b -> e.key= .int .i64 x) -> Ea w { p with val:=.tuple #[Value.map (some p.blk),u'] } f (some (x,f x,false)) u' es Ac:=fun u' Br=>
  ⟨rfl,h.blk,h.own,fun e he=>let ⟨k,h1,h2⟩:=h.key e he;⟨k,h1,fun _=>h2 fun L=>hh k L⟩,h.no,h.nd,h.apart,h.born,h.stamps,fun k L g e=>by cases e;exact Br⟩
 rcases ik h hu x with ⟨h1,h2⟩ | ⟨j,e,h1,h2,h3⟩
 ·refine ⟨.slice none 0 0,?_,mk _ ⟨.inl ⟨h.no x h2,rfl⟩,fun e _ b hb=>by cases hb⟩⟩;have C1:=hc es.isEmpty;simp only [BS] at C1;simp [Instr.lookup,zDq hm,zEP h.blk,C1,h1,hz,Result.andThen]
 ·have CS:e∈es.toList:=zFz.2 (zEv h2);obtain ⟨k,g1,g2⟩:=h.key e CS;have:k=x:=by rw [g1] at h3;cases h3;rfl
  subst this;refine ⟨e.val,?_,mk _ ⟨g2 fun L=>hh k L,fun e' GQ b hb DA=>(h.apart e' GQ e CS b DA hb).trans h3⟩⟩;have C1:=hc es.isEmpty;simp only [BS] at C1;simp [Instr.lookup,zDq hm,zEP h.blk,C1,h1,Result.andThen]
theorem ff {F:Nat -> Prop} {L:List Int} (hs:HP w F u L) {t e ty:TypeId} {i:TypeInfo} {z:Value} (hu:P.underlying t=some (.slice e)) (hi:P.info? e=some i) (hz:i.zero=some z) (A3:i.size=1) (Ce:z.cells.size=i.size) (Dh:i.bytes<=128)
 {vy:Value} {ys:List Int} (hy:Src P i.size t vy ys.length (ys.map (Value.int .i64)) w) (hc:0<ys.length) (hb:L.length+ys.length<=BB):
 ∃ w' q B1,(Builtin.append_ #[t,t] ty #[u,vy]).run P w= .ok (.slice (some ⟨q.blk,q.off,none⟩) (L++ys).length B1) w'/\ (L++ys).length<=B1/\ q.off+B1<=q.room/\ AP (fun b=>DG u=some b) w w'/\ (DG u=some q.blk∨w.heap.size<=q.blk)/\ AZ w' q (L++ys).length (fun j v=>v= .int .i64 ((L++ys).getD j 0)):=by
 have Ap:(L++ys).length=L.length+ys.length:=zAh;rcases hs with ⟨rfl,rfl⟩ | ⟨q,cap,rfl,h1,h2,h3,h4,h5⟩
 ·obtain ⟨w',B1,r1,r2,cs,rfl,r4,r5⟩:=cr none (ty:=ty) hu hi hz Ce Dh hy hc (by unfold BB at hb;simp at hb;omega);rw [A3,zD4] at r4;refine ⟨_,EC w cs.size,B1,by simpa [EC] using r1,by simpa using r2,by simp [EC,r4],AP.ofExt ((Ao.toDrew w).allocR _),.inr (zAm _),M6 rfl (by simp;omega) fun j hj=>?_⟩;have BT:j<ys.length:=by simpa using hj
  refine ⟨.int .i64 (ys.getD j 0),?_,by simp⟩;rw [r5 j (by rw [A3,zD4];exact BT)];simp [BT]
 ·obtain ⟨w',q',B1,r1,r2,r3,r4,r5,r6⟩:=cm (ty:=ty) (R:=fun j v=>v= .int .i64 (L.getD j 0)) (cap:=cap) hu hi hz (by omega) Ce Dh (by rw [A3,zD4];exact h5) h1 (by rw [A3,zD4];exact h2) hy (by unfold BB at hb;omega);rw [A3,zD4] at r3;have hq:q.foot=(fun b=>b=q.blk):=h5.1;have hR:=aC (P:=P) (M:=fun _=>False) (ρ':=[]) A3 r6;refine ⟨w',q',B1,by rw [Ap];exact r1,by rw [Ap];exact r2,r3,r4.mono fun b _ hb=>by rw [hq] at hb;rw [show b=q.blk from hb];rfl,?_,hR⟩;have Lo:=r6.1;rcases r5 q'.blk (by rw [Lo]) with e | e
  ·rw [hq] at e;exact .inl (by rw [show q'.blk=q.blk from e];rfl)
  ·exact .inr e
theorem uN (h:Ea w p f Bv u es Ac) {x:Int} {L:List Int} {g:Bool} (JN:Bv=some (x,L,g)) (hl: ∀ b,p.foot b -> Da w b) {t e ty:TypeId} {i:TypeInfo} {z:Value} (hu:P.underlying t=some (.slice e)) (hi:P.info? e=some i) (hz:i.zero=some z) (A3:i.size=1) (Ce:z.cells.size=i.size) (Dh:i.bytes<=128)
 {vy:Value} {ys:List Int} (hy:Src P i.size t vy ys.length (ys.map (Value.int .i64)) w) (hc:0<ys.length) (hb:L.length+ys.length<=BB):
 ∃ w' u' p',(Builtin.append_ #[t,t] ty #[u,vy]).run P w= .ok u' w'/\ AP p.foot w w'/\ (∀ b,p'.foot b -> (p.foot b∨w.heap.size<=b)/\ Da w' b)/\ Ea w' p' f (some (x,L++ys,true)) u' es Ac/\ p'.blk=p.blk:=by
 obtain ⟨hs,hd⟩:=h.inHand x L g JN;have Ap:(L++ys).length=L.length+ys.length:=zAh;have Zv:=ff (ty:=ty) hs hu hi hz A3 Ce Dh hy hc hb;obtain ⟨w',q,B1,r1,r2,r3,r4,r5,r6⟩:=Zv;have Ml: ∀ b,DG u=some b -> (p.foot b/\ b≠p.blk)/\ b<w.heap.size:=fun b hb=>hs.blk hb
 have FZ: ∀ b,b<w.heap.size -> DG u≠some b -> w'.heap[b]? =w.heap[b]? :=fun b hb hn=>r4.block b hb hn
 have No:DG u≠some p.blk:=fun e=>(Ml _ e).1.2 rfl
 have ac:p.blk<w.heap.size:=(zAJ.1 h.blk).1;have aa:q.blk≠p.blk:=fun e=>r5.elim (fun e'=>No (by rw [←e];exact e')) (fun e'=>by omega)
 refine ⟨w',_,⟨p.blk,p.off,p.room,.tuple #[Value.map (some p.blk),.slice (some ⟨q.blk,q.off,none⟩) (L++ys).length B1],fun b=>(p.foot b/\ DG u≠some b)∨b=q.blk⟩,r1,r4.mono fun b _ hb=>(Ml b hb).1.1,fun b hb=>?_,?_,rfl⟩
 ·rcases hb with ⟨g1,g2⟩ | g1
  ·obtain ⟨c,t1,t2,hc⟩:=hl b g1;exact ⟨.inl g1,c,t1,t2,(FZ b (zAJ.1 hc).1 g2).trans hc⟩
  ·obtain ⟨_,cs,tt,g,_⟩:=r6;subst g1;exact ⟨r5.imp (fun e=>(Ml _ e).1.1) id,.cells g⟩
 ·have GZ: ∀ e'∈es.toList,∀ k,e'.key= .int .i64 k -> k≠x -> HP w (fun b=>p.foot b/\ b≠p.blk) e'.val (f k):=fun e' he k hk Kb=>by
   obtain ⟨k',h1,h2⟩:=h.key e' he;have:k'=k:=by rw [h1] at hk;cases hk;rfl
   subst this;exact h2 fun L' e=>by rw [JN] at e;cases e;exact Kb rfl
  refine ⟨rfl,(FZ _ ac No).trans h.blk,.inl ⟨h.own,No⟩,fun e' he=>?_,h.no,h.nd,h.apart,h.born,h.stamps,fun k L' g' e'=>?_⟩
  ·obtain ⟨k,h1,_⟩:=h.key e' he;refine ⟨k,h1,fun hn=>?_⟩;have hk:k≠x:=fun e=>by subst e;exact hn _ rfl
   have ne: ∀ b,DG e'.val=some b -> DG u≠some b:=fun b hb DA=>hk (by have:=hd e' he b DA hb;rw [h1] at this;cases this;rfl)
   exact (GZ e' he k h1 hk).out (fun b hf hb hl=>FZ b hl (ne b hb)) fun b hf hb=>⟨.inl ⟨hf.1,ne b hb⟩,hf.2⟩
  ·cases e';refine ⟨.inr ⟨q,B1,rfl,r2,r3,by unfold LB;unfold BB at hb;omega,⟨.inr rfl,aa⟩,r6⟩,fun e' he b hb DA=>?_⟩;cases hb;rcases r5 with r5 | r5
   ·exact hd e' he _ r5 DA
   ·obtain ⟨k',h1,_⟩:=h.key e' he
    by_cases hk:k'=x
    ·subst hk;exact h1
    ·exact absurd ((GZ e' he k' h1 hk).blk DA).2 (Nat.not_lt.2 r5)
theorem uL (h:Ea w p f Bv u es Ac) {x:Int} {L:List Int} {g:Bool} (JN:Bv=some (x,L,g)) {t kt et:TypeId} (hm:P.underlying t=some (.map kt et)) (hk:GH P kt=some 1):
 ∃ w' D8 Ej,(Instr.mapUpdate t (.map (some p.blk)) (.int .i64 x) u).run P w= .ok () w'/\ AP (fun b=>b=p.blk) w w'/\ Ea w' p (Mj f x L) none u D8 Ej:=by
 have hu:P.underlying kt=some (.int .i64):=by
  rcases PT hk with ⟨_,hu⟩ | ⟨_,_,_,h2,_⟩
  ·exact hu
  ·cases h2
 have hc:=PS (w:=w) hk (x:=[x]) rfl false;simp only [BS] at hc;obtain ⟨hs,hd⟩:=h.inHand x L g JN;have AN:p.blk<w.heap.size:=(zAJ.1 h.blk).1
 have mk: ∀ (D8:Array MapEntry) (Ej:Nat),(∀ e∈D8.toList,(e.key= .int .i64 x/\ e.val=u)∨(e∈es.toList/\ e.key≠.int .i64 x)) -> (∃ e∈D8.toList,e.key= .int .i64 x) -> (∀ e∈es.toList,e.key≠.int .i64 x -> e∈D8.toList) -> MapKept.Stamped D8 Ej ->
  Ea { w with heap:=w.heap.setIfInBounds p.blk (.map D8 Ej) } p (Mj f x L) none u D8 Ej:=fun D8 Ej m1 m2 m3 st=>by
  have stay: ∀ b,b≠p.blk -> (w.heap.setIfInBounds p.blk (.map D8 Ej))[b]? =w.heap[b]? :=fun b hb=>by simp [zFP hb]
  have GZ: ∀ e'∈es.toList,∀ k,e'.key= .int .i64 k -> k≠x -> HP w (fun b=>p.foot b/\ b≠p.blk) e'.val (f k):=fun e' he k hk Kb=>by
   obtain ⟨k',h1,h2⟩:=h.key e' he;have:k'=k:=by rw [h1] at hk;cases hk;rfl
   subst this;exact h2 fun L' e=>by rw [JN] at e;cases e;exact Kb rfl
  refine ⟨h.val,by simp [AN],h.own,fun e he=>?_,fun k BX=>?_,st.2.2,fun e he e' GQ b hb DA=>?_,st.1,st.2.1,fun k L' g' e=>by cases e⟩
  ·rcases m1 e he with ⟨a1,a2⟩ | ⟨a1,a2⟩
   ·refine ⟨x,a1,fun _=>?_⟩;rw [a2];unfold Mj;rw [zAB rfl];exact hs.out (fun b hf _ _=>stay b hf.2) fun _ h _=>h
   ·obtain ⟨k,h1,_⟩:=h.key e a1;have Kb:k≠x:=fun e'=>a2 (by rw [h1,e'])
    refine ⟨k,h1,fun _=>?_⟩;unfold Mj;rw [zAZ Kb];exact (GZ e a1 k h1 Kb).out (fun b hf _ _=>stay b hf.2) fun _ h _=>h
  ·have Kb:k≠x:=fun e=>by subst e;obtain ⟨e,h1,h2⟩:=m2;exact BX e h1 h2
   unfold Mj;rw [zAZ Kb];refine h.no k fun e he Wa=>?_
   exact BX e (m3 e he fun h=>Kb (by rw [Wa] at h;cases h;rfl)) Wa
  ·rcases m1 e he with ⟨a1,a2⟩ | ⟨a1,a2⟩
   ·rcases m1 e' GQ with ⟨b1,b2⟩ | ⟨b1,b2⟩
    ·rw [a1,b1]
    ·rw [a2] at hb;exact a1.trans (hd e' b1 b hb DA).symm
   ·rcases m1 e' GQ with ⟨b1,b2⟩ | ⟨b1,b2⟩
    ·rw [b2] at DA;exact (hd e a1 b DA hb).trans b1.symm
    ·exact h.apart e a1 e' b1 b hb DA
 have st:MapKept.Stamped es Ac:=⟨h.born,h.stamps,h.nd⟩;rcases ik h hu x with ⟨h1,h2⟩ | ⟨j,e,h1,h2,h3⟩
 ·refine ⟨_,es.push { key:=.int .i64 x,val:=u,born:=Ac },Ac+1,?_,Qe _,mk _ _ (fun e he=>?_) ⟨{ key:=.int .i64 x,val:=u,born:=Ac },by simp,rfl⟩ (fun e he _=>by simp [zFz.1 he]) (MapKept.stamped_push st h2)⟩
  ·simp [Instr.mapUpdate,zDq hm,zEP h.blk,hc,h1,zFA _ h.blk,Result.andThen]
  ·simp only [Array.toList_push,zEA,zAp] at he;rcases he with he | rfl
   ·exact .inr ⟨he,h2 e he⟩
   ·exact .inl ⟨rfl,rfl⟩
 ·have EG:((es[j]?).map (·.key)).getD (.int .i64 x)= .int .i64 x:=by rw [h2];exact h3
  have Df:=MapKept.run_keyThatStays (P:=P) (w:=w) (d:=.int .i64) (k:=.int .i64 x) (by trivial);have hj:j<es.size:=(zAJ.1 h2).1
  have inj: ∀ (m:Nat) (e':MapEntry),es[m]? =some e' -> e'.key= .int .i64 x -> m=j:=fun m e' CS BX=>by
   have GL:m<es.size:=(zAJ.1 CS).1;have g1:(es.toList.map (·.key))[m]? =some (.int .i64 x):=by simp [CS,BX]
   have g2:(es.toList.map (·.key))[j]? =some (.int .i64 x):=by simp [h2,h3]
   exact (List.getElem?_inj (by simpa using GL) h.nd).1 (g1.trans g2.symm)
  have IZ: ∀ (m:Nat),(es.modify j fun e=>{ e with key:=.int .i64 x,val:=u })[m]? =if j=m then (es[m]?).map (fun e=>{ e with key:=.int .i64 x,val:=u }) else es[m]? :=fun m=>zEx
  refine ⟨_,es.modify j fun e=>{ e with key:=.int .i64 x,val:=u },Ac,?_,Qe _,mk _ _ (fun e1 bE=>?_) ⟨{ e with key:=.int .i64 x,val:=u },?_,rfl⟩ (fun e1 bE Ak=>?_) (MapKept.stamped_modify st _ _ (fun _ _=>rfl) fun e' _ GQ=>by rw [h2] at GQ;cases GQ;exact h3.symm)⟩
  ·simp [Instr.mapUpdate,zDq hm,zEP h.blk,hc,h1,EG,Df,zFA _ h.blk,Result.andThen]
  ·obtain ⟨m,CS⟩:=zFE.1 bE;rw [zFF,IZ] at CS;split at CS
   ·rename_i bA;subst bA;rw [h2] at CS;cases CS;exact .inl ⟨rfl,rfl⟩
   ·rename_i bA;exact .inr ⟨zFz.2 (zEv CS),fun BX=>bA (inj m e1 CS BX).symm⟩
  ·exact zFE.2 ⟨j,by rw [zFF,IZ,zAB rfl,h2];rfl⟩
  ·obtain ⟨m,CS⟩:=zFE.1 bE;rw [zFF] at CS;refine zFE.2 ⟨m,by rw [zFF,IZ,zAZ];exact CS;rintro rfl;rw [h2] at CS;cases CS;exact Ak h3⟩
theorem uz (R:AT P Γ N S ρ a w) {j off n:Nat} {xs:List Int} {v:Value} (hO:S.h[j]? =some (some (.ints xs))) (hv:AM (MS N S.h ρ) w (.mse j 1 off n) ρ v) (hn:off+n=xs.length) {t e ty:TypeId} {i:TypeInfo} {z:Value} (hu:P.underlying t=some (.slice e)) (hi:P.info? e=some i) (hz:i.zero=some z) (A3:i.size=1) (Ce:z.cells.size=i.size) (Dh:i.bytes<=128)
 {vy:Value} {ys:List Int} (hy:Src P i.size t vy ys.length (ys.map (Value.int .i64)) w) (hc:0<ys.length) (hb:n+ys.length<=BB):
 ∃ u w' p' B1,v=u/\ (Builtin.append_ #[t,t] ty #[u,vy]).run P w= .ok (.slice (some ⟨p'.blk,p'.off,none⟩) (n+ys.length) B1) w'/\ n+ys.length<=B1/\ p'.off+B1<=p'.room/\ (∃ p,ρ[j]? =some p/\ AP p.foot w w'/\ ∀ b,p'.foot b -> (p.foot b∨w.heap.size<=b)/\ Da w' b)/\
  (∀ {M ρ'},Dx P M w' ρ' p' (.ints (xs.drop off++ys)))/\ True:=by
 obtain ⟨p,ad,cap,hp,rfl,h1,h2,h3⟩:=hv;obtain ⟨p2,Np,hr⟩:=R.hr.obj j _ hO;have:p2=p:=zAU (Np.symm.trans hp);subst this;have Nx:(xs.drop off).length=n:=by simp;omega
 have Zv: ∃ w' p' B1,(Builtin.append_ #[t,t] ty #[.slice ad n cap,vy]).run P w= .ok (.slice (some ⟨p'.blk,p'.off,none⟩) (n+ys.length) B1) w'/\ n+ys.length<=B1/\ p'.off+B1*i.size<=p'.room/\ AP p2.foot w w'/\ (∀ b,p'.foot b -> p2.foot b∨w.heap.size<=b)/\ AZ w' p' ((n+ys.length)*i.size) (H5 (n*i.size) (fun j u=>u= .int .i64 ((xs.drop off).getD j 0)) (ys.map (Value.int .i64))):=by
  by_cases Lz:cap=0
  ·subst Lz;have Gf:n=0:=by omega
   subst Gf;obtain ⟨w',B1,r1,r2,cs,rfl,r4,r5⟩:=cr ad (ty:=ty) hu hi hz Ce Dh hy hc (by unfold BB at hb;omega);refine ⟨_,EC w cs.size,B1,by simpa [EC] using r1,by omega,by simp [EC,r4],AP.ofExt ((Ao.toDrew w).allocR _),fun b hb=>.inr (Nat.le_of_eq (Eq.symm hb)),M6 rfl ?_ fun j hj=>?_⟩
   ·rw [r4];exact zEX _ (by omega)
   ·rw [zAj] at hj;refine ⟨(ys.map (Value.int .i64)).getD j undef,?_,?_⟩
    ·rw [r5 j hj];rw [A3,zD4] at hj;simp [hj]
    ·rw [A3,zD4] at hj;unfold H5;rw [zAZ (by omega)];simp [hj]
  ·obtain ⟨rfl,h4⟩:=h3 (by omega);obtain ⟨c1,cs,tt,c2,c3,c4,c5⟩:=hr
   exact cm (ty:=ty) (p:={ p2 with off:=p2.off+off*1 }) (cap:=cap) hu hi hz (by omega) Ce Dh (R:=fun j u=>u= .int .i64 ((xs.drop off).getD j 0)) (by
    refine ⟨c1,cs,tt,c2,?_,c4,fun j hj=>?_⟩
    ·rw [A3];show p2.off+off*1+n*1<=cs.size;omega
    ·rw [A3,zD4] at hj;obtain ⟨u,q1,q2⟩:=c5 (off+j) (by omega);refine ⟨u,by show cs[p2.off+off*1+j]? =_;rw [show p2.off+off*1+j=p2.off+(off+j) by omega];exact q1,?_⟩;rw [q2];simp [u8]) h1 (by rw [A3];simpa using h4) hy (by unfold BB at hb;omega)
 obtain ⟨w',p',B1,r1,r2,r3,r4,r5,r6⟩:=Zv;rw [A3,zD4] at r3;refine ⟨_,w',p',B1,rfl,r1,r2,r3,⟨p2,hp,r4,fun b hb=>⟨r5 b hb,?_⟩⟩,fun {M ρ'}=>aC (xs:=xs.drop off) (ys:=ys) A3 (by rw [Nx];exact r6),trivial⟩;obtain ⟨e1,cs,tt,e2,_⟩:=r6;rw [e1] at hb;exact .cells (c:=cs) (t:=tt) (z:=(0,0)) (by rw [show b=p'.blk from hb];exact e2)
theorem sK (R:AT P Γ N S ρ a w) {o:Oper} {S':St} {vs:List Prop} (h:RL P S o=some (S',vs)) (hv:Ba vs):
 BK P (execOp a.eval o) w (fun v w'=>∃ ρ',AT P Γ N S' ρ' (a.put o.dst v) w'/\ Ci S.h ρ w S'.h ρ' w'):=by
 unfold RL at h;split at h
 ·rename_i t ho;split at h
  ·rename_i r hT;cases h;refine BK.value (s:=Instr.makeMap t none) (by unfold execOp;rw [ho];rfl) (v:=.map (some w.heap.size)) (w':=w.alloc (.map #[] 0)) (by simp [Instr.makeMap,newObj];rfl) ?_;have G:=TH (ob:=.map #[] 0) (o:=.mo (.rows (fun _=>[]) none)) (d:=.mri S.h.length 0) (v:=.map (some w.heap.size)) (pl:=⟨w.heap.size,0,0,.tuple #[.map (some w.heap.size),undef],fun b=>b=w.heap.size⟩) R.hr rfl rfl (fun M ρ'=>⟨undef,#[],0,rfl,zEt w _,rfl,fun e he=>absurd he (by simp),fun _ _=>rfl,by simp,fun e he=>absurd he (by simp),fun e he=>absurd he (by simp),by simp,fun k L g e=>by cases e⟩) (fun M ρ' hp=>⟨_,_,hp,rfl,rfl⟩) true;exact L6 R o.dst G fun _ _ h=>h
  ·cases h
 ·rename_i t m k ho;split at h
  ·rename_i r hT;obtain ⟨kt,et⟩:=r;obtain ⟨hu,hk,hz⟩:=gM hT;have rm:=Bh R m;have rk:=Bh R k;split at h
   ·rename_i j x hM hK;split at h
    ·rename_i f Bv hO;split at h
     ·rename_i hh;cases h;rw [hM] at rm;rw [hK] at rk;obtain ⟨p,u,es,Ac,hp,hA,Cr⟩:=Vb R hO rm;have em:a.eval m= .map (some p.blk):=by simpa using Cr.symm
      have ek:a.eval k= .int .i64 x:=rk;obtain ⟨u',g1,g2⟩:=uM hA (fun k L e=>by subst e;simp at hh) hu hk (hz w) x;refine BK.value (s:=Instr.lookup t (a.eval m) (a.eval k) false) (by unfold execOp;rw [ho]) (by rw [em,ek];exact g1) ?_;exact gL (p':={ p with val:=.tuple #[Value.map (some p.blk),u'] }) R hO hp hA (AP.refl _ _) (fun b hb=>⟨.inl hb,(R.hr.cel j _ p b hO hp hb).2.2⟩) g2 rfl o.dst
     ·cases h
    ·cases h
   ·cases h
  ·cases h
 ·rename_i t m k y ho;split at h
  ·rename_i r hT;obtain ⟨kt,et⟩:=r;obtain ⟨hu,hk,hz⟩:=gM hT;have rm:=Bh R m;have rk:=Bh R k;have ry:=Bh R y;split at h
   ·rename_i j x j' hM hK hY;split at h
    ·rename_i f x' L g hO;split at h
     ·rename_i hj;cases h;subst hj;have hx:x'=x:=hv.1;subst hx;rw [hM] at rm;rw [hK] at rk;rw [hY] at ry;obtain ⟨p,u,es,Ac,hp,hA,Cr⟩:=Vb R hO rm;obtain ⟨p2,u2,es2,clock2,Np,hA2,xM⟩:=Vb R hO ry;have:p2=p:=zAU (Np.symm.trans hp);subst this;have eu:u2=u:=by have:=hA2.val.symm.trans hA.val;simp at this;exact this
      have em:a.eval m= .map (some p2.blk):=by simpa using Cr.symm
      have ek:a.eval k= .int .i64 x':=rk;have ey:a.eval y=u:=by rw [←eu];simpa using xM.symm
      obtain ⟨w',D8,Ej,g1,g2,g3⟩:=uL hA rfl hu hk;refine BK.skip (s:=Instr.mapUpdate t (a.eval m) (a.eval k) (a.eval y)) (by unfold execOp;rw [ho]) (w':=w') (by rw [em,ek,ey];exact g1) ?_;have Ht:AP p2.foot w w':=g2.mono fun b _ hb=>by rw [show b=p2.blk from hb];exact hA.own
      have hl: ∀ b,p2.foot b -> Da w' b:=fun b hb=>by
       by_cases e:b=p2.blk
       ·rw [e];exact g3.lies
       ·obtain ⟨c,t1,t2,hc⟩:=(R.hr.cel _ _ p2 b hO hp hb).2.2;exact ⟨c,t1,t2,(g2.block b (zAJ.1 hc).1 e).trans hc⟩
      have G:CW P Γ N S.h ρ w false Mk (S.h.set j' (some (.mo (.rows (Mj f x' L) none)))) undef w':=⟨⟨ρ,R.hr.write hO hp Ht hl ⟨u,D8,Ej,g3⟩,US,A6.write hO hp Ht,fun _ _ h=>h⟩,fun h=>by cases h⟩;exact L6 R o.dst G fun _ _ h=>h
     ·cases h
    ·cases h
   ·cases h
  ·cases h
 ·rename_i c ho;split at h
  ·rename_i hc;split at h
   ·rename_i x y ha;split at h
    ·rename_i t t' ht;split at h
     ·rename_i e;subst e;split at h
      ·rename_i e i z hk;obtain ⟨hu,hi,hz,h0,Ce,EG,_⟩:=TZ hk;have Cp:i.size=1:=EG.symm;split at h
       ·cases h
       ·rename_i Dh;have rx:=Bh R x;have ry:=Bh R y;split at h
        ·rename_i j off n ys vy hX hY;split at h
         ·rename_i xs hO;cases h;obtain ⟨v1,v2,v3,v4,_⟩:=hv;rw [hX] at rx;obtain ⟨ad,w',p',B1,e0,g1,g2,g3,g4,g5,_⟩:=uz (ty:=o.type) R hO rx v3 hu hi hz Cp Ce (by omega) (by rw [Cp];exact SY R hu ry hY v1) v2 v4;refine BK.value (MD ho hc ha ht) (by rw [e0];exact g1) ?_;obtain ⟨p,hp⟩:=g4;obtain ⟨q1,q2⟩:=R.hr.regrow (o':=.ints (xs.drop off++ys)) hO hp.1 hp.2.1 hp.2.2 g5
          have G:CW P Γ N S.h ρ w false (.mse S.h.length 1 0 (n+ys.length)) (S.h.set j none++[some (.ints (xs.drop off++ys))]) (.slice (some ⟨p'.blk,p'.off,none⟩) (n+ys.length) B1) w':=
           ⟨⟨ρ++[p'],q1,⟨p',_,B1,by rw [←R.hr.len];simp,rfl,g2,by unfold LB;unfold BB at v4;omega,fun _=>⟨by simp,by simpa using g3⟩⟩,q2,fun _ _ h=>EV h⟩,fun h=>by cases h⟩
          exact L6 R o.dst G fun _ _ h=>h
         ·cases h
        ·rename_i j ys vy hX hY;split at h
         ·rename_i f x' L g hO;cases h;obtain ⟨v1,v2,v3,_⟩:=hv;rw [hX] at rx;obtain ⟨p,u,es,Ac,hp,hA,Cr⟩:=Vb R hO rx;have ex:a.eval x=u:=by simpa using Cr.symm
          obtain ⟨w',u',p',g1,g2,g3,g4,g5⟩:=uN (ty:=o.type) hA rfl (fun b hb=>(R.hr.cel j _ p b hO hp hb).2.2) hu hi hz Cp Ce (by omega) (by rw [Cp];exact SY R hu ry hY v1) v2 v3;refine BK.value (MD ho hc ha ht) (by rw [ex];exact g1) ?_;exact gL R hO hp hA g2 g3 g4 g5 o.dst
         ·cases h
        ·cases h
      ·cases h
     ·cases h
    ·cases h
   ·cases h
  ·cases h
 ·cases h
def Uk (P:Program) (S:St) (o:Oper):Option (St×List Prop):=match YM P S o with
 | some r=>some r
 | none=>RL P S o
theorem fJ (R:AT P Γ N S ρ a w) {o:Oper} {S':St} {vs:List Prop} (h:Uk P S o=some (S',vs)) (hv:Ba vs):
 BK P (execOp a.eval o) w (fun v w'=>(∃ ρ',AT P Γ N S' ρ' (a.put o.dst v) w'/\ Ci S.h ρ w S'.h ρ' w')/\ ((∀ t x y,o.op≠.store t x y)∨∃ k i p t x y,o.op= .store t x y/\ AX S.fr x= .mp k 1 i 0/\ ρ[k]? =some p/\ AP p.foot w w')):=by
 have wk: ∀ {G G':Value -> World -> Prop},(∀ v w',G v w' -> G' v w') -> BK P (execOp a.eval o) w G -> BK P (execOp a.eval o) w G':=fun hg D=>by
  rcases D with ⟨v,w',h1,h2⟩ | ⟨w',h1,h2⟩ | ⟨f,args,w',h1,h2⟩
  ·exact .inl ⟨v,w',h1,hg _ _ h2⟩
  ·exact .inr (.inl ⟨w',h1,hg _ _ h2⟩)
  ·exact .inr (.inr ⟨f,args,w',h1,h2.mono fun e CK ⟨v,e1,e2⟩=>⟨v,e1,hg _ _ e2⟩⟩)
 unfold Uk at h;split at h
 ·rename_i r hM;cases h;exact wk (fun v w' hx=>⟨hx.1,.inr hx.2⟩) (pK R hM hv)
 ·exact wk (fun v w' hx=>⟨hx,.inl fun t x y=>sL h⟩) (sK R h hv)
end
end Go.Proofs.YtkjbblkieglmlaaGreatDoor
namespace Go.Proofs.YtkjbblkieglmlaaGreatDoor
abbrev zEB:=@List.getElem?_set_ne
abbrev zE4:=@Array.getElem?_setIfInBounds_ne
end Go.Proofs.YtkjbblkieglmlaaGreatDoor
namespace Go.Proofs.YtkjbblkieglmlaaGreatDoor
open Go.RowKit
def Yn (P:Program) (t:TypeId):Option (TypeId×TypeInfo):=match P.underlying t with
 | some (.slice e)=>match P.info? e with
  | some i=>match i.zero with
   | some (.slice none 0 0)=>if i.size=1/\ i.bytes<=128 then some (e,i) else none
   | _=>none
  | none=>none
 | _=>none
theorem rW {P:Program} {t e:TypeId} {i:TypeInfo} (h:Yn P t=some (e,i)):P.underlying t=some (.slice e)/\ P.info? e=some i/\ i.zero=some (.slice none 0 0)/\ i.size=1/\ i.bytes<=128:=by
 unfold Yn at h;split at h
 ·rename_i e' hu;split at h
  ·rename_i i' hi;split at h
   ·rename_i hz;split at h
    ·rename_i hc;cases h;exact ⟨hu,hi,hz,hc.1,hc.2⟩
    ·cases h
   ·cases h
  ·cases h
 ·cases h
def PI (j q:Nat):DV -> DV
 | .msl k m o n=>if k=j then .msl q m o n else .msl k m o n
 | .mp k m i c=>if k=j then .mp q m i c else .mp k m i c
 | .mri k i=>if k=j then .any else .mri k i
 | d=>d
def Uz (P:Program) (S:St) (fz:List (Nat×Fz)) (o:Oper):Option (St×List Prop×List (Nat×Fz)):=match o.op with
 | .makeSlice t x y=>match fz with
  | (d,.rws)::rest=>if o.dst=some d then match Yn P t with
   | some _=>match AX S.fr x,AX S.fr y with
    | .int _ m,.int _ m'=>some (⟨CY S.fr o.dst (.msl S.h.length 1 0 m.toNat),S.h++[some (.mo (.rws (List.replicate m.toNat []) none))]⟩,[m'=m/\ 0<=m/\ m<=1000000000000],rest)
    | _,_=>none
   | none=>none
   else none
  | _=>none
 | .call c=>match c.callee with
  | .builtin .append=>match c.args.toList with
   | [x,y]=>match c.argTypes.toList with
    | [t,t']=>if t=t' then match Jb P t with
     | some (.ints,_,i,_)=>if 128<i.bytes then none else match AX S.fr x,KN S (AX S.fr y) with
      | .mri j (r+1),some (ys,vy)=>match S.h[j]? with
       | some (some (.mo (.rws ls none)))=>some (⟨CY (S.fr.map (PI j S.h.length)) o.dst (.mri S.h.length 0),S.h.set j none++[some (.mo (.rws ls (some (r,ls.getD r default++ys))))]⟩,[vy,0<ys.length,r<ls.length,(ls.getD r default).length+ys.length<=BB],fz)
       | _=>none
      | _,_=>none
     | _=>none
     else none
    | _=>none
   | _=>none
  | _=>none
 | .store t x y=>match o.dst with
  | none=>match AX S.fr x,AX S.fr y with
   | .mp j 1 r 0,.mri j' 0=>match S.h[j]? with
    | some (some (.mo (.rws ls (some (r',L)))))=>if j'=j/\ (P.info? t).any (fun i=>i.size==1)=true then some (⟨S.fr.map (PI j S.h.length),S.h.set j none++[some (.mo (.rws (ls.set r L) none))]⟩,[r'=r,r<ls.length],fz) else none
    | _=>none
   | _,_=>none
  | some _=>none
 | _=>none
section
variable {P:Program} {Γ:Aq} {N:Nat -> Prop} {S:St} {ρ:List AI} {a:Act} {w w':World} {p p':AI} {ls SK:List (List Int)} {Bv Ic:Option (Nat×List Int)} {vs Bm:Array Value}
theorem gF (R:AT P Γ N S ρ a w) {j i:Nat} {v:Value} (hk:S.h[j]? =some (some (.mo (.rws ls Bv)))) (hv:AM (MS N S.h ρ) w (.mri j i) ρ v): ∃ p vs,ρ[j]? =some p/\ Jk w p ls Bv vs/\ vs[i]? =some v:=by
 obtain ⟨p,vs,hp,Gc,Cr⟩:=hv;obtain ⟨p',BD,Bm,h1⟩:=R.hr.obj j _ hk;have:p'=p:=zAU (BD.symm.trans hp);subst this;have:Bm=vs:=by have:=h1.val.symm.trans Gc;cases this;rfl
 subst this;exact ⟨p',Bm,hp,h1,Cr⟩
theorem gE (R:AT P Γ N S ρ a w) {j:Nat} (hj:S.h[j]? =some (some (.mo (.rws ls Bv)))) (hp:ρ[j]? =some p) (hu:AP p.foot w w') (hf: ∀ b,p'.foot b -> (p.foot b∨w.heap.size<=b)/\ Da w' b) (L4:Jk w' p' SK Ic Bm)
 (e1:p'.blk=p.blk) (e2:p'.off=p.off) (e3:p'.room=p.room) (dst:Option Nat) {d:DV} {v:Value} (hd: ∀ M ρ',ρ'[S.h.length]? =some p' -> AM M w' d ρ' v):
 ∃ ρ',AT P Γ N ⟨CY (S.fr.map (PI j S.h.length)) dst d,S.h.set j none++[some (.mo (.rws SK Ic))]⟩ ρ' (a.put dst v) w'/\ Ci S.h ρ w (S.h.set j none++[some (.mo (.rws SK Ic))]) ρ' w':=by
 obtain ⟨g1,g2⟩:=R.hr.regrow (o':=.mo (.rws SK Ic)) hj hp hu hf ⟨Bm,L4⟩;have Eu: ∀ (k:Nat) (q:AI),ρ[k]? =some q -> (ρ++[p'])[k]? =some q:=fun k q hk=>EV hk
 have O:BU (MS N S.h ρ) w ρ (MS N (S.h.set j none++[some (.mo (.rws SK Ic))]) (ρ++[p'])) w' (ρ++[p']):=
  ⟨fun b hb hm _=>hu.block b hb fun hx=>hm (.inr ⟨j,_,p,hj,hp,hx⟩),fun b hb=>hb.elim (fun h=>.inl (.inl h)) (fun h=>(g2.grow b h).imp .inr id),Eu⟩
 have hq:(ρ++[p'])[S.h.length]? =some p':=by rw [←R.hr.len];simp
 have Cg:=(R.fr.out O).map (g:=PI j S.h.length) (fun d v hd=>by
  unfold PI;split
  ·rename_i k m o n;split
   ·rename_i e;subst e;obtain ⟨q,cap,h1,h2,h3,h4,h5⟩:=hd;have:q=p:=zAU (h1.symm.trans (Eu _ _ hp));subst this;exact ⟨p',cap,hq,by rw [e1,e2];exact h2,h3,h4,by rw [e2,e3];exact h5⟩
   ·exact hd
  ·rename_i k m i c;split
   ·rename_i e;subst e;obtain ⟨q,h1,h2⟩:=hd;have:q=p:=zAU (h1.symm.trans (Eu _ _ hp));subst this;exact ⟨p',hq,by rw [e1,e2];exact h2⟩
   ·exact hd
  ·split
   ·trivial
   ·exact hd
  ·exact hd)
 exact ⟨ρ++[p'],GU (S:=⟨S.fr.map (PI j S.h.length),_⟩) ⟨g1,Cg⟩ dst (hd _ _ hq),g2,Eu⟩
theorem rV (h:Jk w p ls none vs) {r:Nat} (hr:r<ls.length) (hl: ∀ b,p.foot b -> Da w b) {t e ty:TypeId} {i:TypeInfo} {z:Value} (hu:P.underlying t=some (.slice e)) (hi:P.info? e=some i) (hz:i.zero=some z) (A3:i.size=1) (Ce:z.cells.size=i.size) (Dh:i.bytes<=128)
 {vy:Value} {ys:List Int} (hy:Src P i.size t vy ys.length (ys.map (Value.int .i64)) w) (hc:0<ys.length) (hb:(ls.getD r default).length+ys.length<=BB):
 ∃ w' u' p',(Builtin.append_ #[t,t] ty #[vs.getD (r+1) undef,vy]).run P w= .ok u' w'/\ AP p.foot w w'/\ (∀ b,p'.foot b -> (p.foot b∨w.heap.size<=b)/\ Da w' b)/\ Jk w' p' ls (some (r,ls.getD r default++ys)) (vs.setIfInBounds 0 u')/\ p'.blk=p.blk/\ p'.off=p.off/\ p'.room=p.room:=by
 have hs:=h.has r hr fun L e=>by cases e
 obtain ⟨w',q,B1,r1,r2,r3,r4,r5,r6⟩:=ff (ty:=ty) hs hu hi hz A3 Ce Dh hy hc hb
 generalize hU:vs.getD (r+1) undef=u at*
 have Ml: ∀ b,DG u=some b -> (p.foot b/\ b≠p.blk)/\ b<w.heap.size:=fun b hb=>hs.blk hb
 have FZ: ∀ b,b<w.heap.size -> DG u≠some b -> w'.heap[b]? =w.heap[b]? :=fun b hb hn=>r4.block b hb hn
 have No:DG u≠some p.blk:=fun e=>(Ml _ e).1.2 rfl
 obtain ⟨cs,tt,k1,k2,k3,k4⟩:=h.row;have ac:p.blk<w.heap.size:=(zAJ.1 k1).1;have aa:q.blk≠p.blk:=fun e=>r5.elim (fun e'=>No (by rw [←e];exact e')) (fun e'=>by omega)
 have hv: ∀ j,(vs.setIfInBounds 0 (.slice (some ⟨q.blk,q.off,none⟩) (ls.getD r default++ys).length B1)).getD (j+1) undef=vs.getD (j+1) undef:=fun j=>by
  simp [zAc,zD0]
 have PY:(vs.setIfInBounds 0 (.slice (some ⟨q.blk,q.off,none⟩) (ls.getD r default++ys).length B1)).getD 0 undef= .slice (some ⟨q.blk,q.off,none⟩) (ls.getD r default++ys).length B1:=by
  have:0<vs.size:=by rw [h.size];omega
  simp [zAc,zD0,this]
 have ne: ∀ j b,j<ls.length -> j≠r -> DG (vs.getD (j+1) undef)=some b -> DG u≠some b:=fun j b hj Ak hb DA=>Ak (h.apart j r b hj hr (fun L e=>by cases e) (fun L e=>by cases e) hb (by rw [hU];exact DA))
 refine ⟨w',_,⟨p.blk,p.off,p.room,.tuple (vs.setIfInBounds 0 (.slice (some ⟨q.blk,q.off,none⟩) (ls.getD r default++ys).length B1)),fun b=>(p.foot b/\ DG u≠some b)∨b=q.blk⟩,r1,r4.mono fun b _ hb=>(Ml b hb).1.1,fun b hb=>?_,?_,rfl,rfl,rfl⟩
 ·rcases hb with ⟨g1,g2⟩ | g1
  ·obtain ⟨c,t1,t2,hc⟩:=hl b g1;exact ⟨.inl g1,c,t1,t2,(FZ b (zAJ.1 hc).1 g2).trans hc⟩
  ·obtain ⟨_,cs,tt,g,_⟩:=r6;subst g1;exact ⟨r5.imp (fun e=>(Ml _ e).1.1) id,.cells g⟩
 ·refine ⟨rfl,by simpa using h.size,⟨cs,tt,(FZ _ ac No).trans k1,k2,k3,fun j hj=>?_⟩,.inl ⟨h.blk,No⟩,fun j hj hh=>?_,fun i j b hi hj _ _ h1 h2=>?_,fun k L e=>?_⟩
  ·rw [zE4 (by omega)];exact k4 j hj
  ·have Ak:j≠r:=fun e=>hh _ (by rw [e])
   rw [hv];exact (h.has j hj fun L e=>by cases e).out (fun b hf hb hl=>FZ b hl (ne j b hj Ak hb)) fun b hf hb=>⟨.inl ⟨hf.1,ne j b hj Ak hb⟩,hf.2⟩
  ·rw [hv] at h1 h2;exact h.apart i j b hi hj (fun L e=>by cases e) (fun L e=>by cases e) h1 h2
  ·cases e;rw [PY];refine ⟨.inr ⟨q,B1,rfl,r2,r3,by unfold LB;unfold BB at hb;simp only [zAh];omega,⟨.inr rfl,aa⟩,r6⟩,fun j b hj hb DA=>?_⟩;cases hb;rw [hv] at DA;rcases r5 with r5 | r5
   ·exact h.apart j r q.blk hj hr (fun L e=>by cases e) (fun L e=>by cases e) DA (by rw [hU];exact r5)
   ·exact absurd ((h.has j hj fun L e=>by cases e).blk DA).2 (Nat.not_lt.2 r5)
theorem rU (h:Jk w p ls Bv vs) {r:Nat} {L:List Int} (JN:Bv=some (r,L)) (hr:r<ls.length) {t:TypeId} {ti:TypeInfo} (KU:P.info? t=some ti) (A3:ti.size=1):
 ∃ w',(Instr.storeAt t (.pointer (some ⟨p.blk,p.off+r,none⟩)) (vs.getD 0 undef)).run P w= .ok () w'/\ AP (fun b=>b=p.blk) w w'/\ Jk w' { p with val:=.tuple (vs.setIfInBounds (r+1) (vs.getD 0 undef)) } (ls.set r L) none (vs.setIfInBounds (r+1) (vs.getD 0 undef))/\ Da w' p.blk:=by
 obtain ⟨hs,hd⟩:=h.inHand r L JN;obtain ⟨cs,tt,k1,k2,k3,k4⟩:=h.row
 generalize hU:vs.getD 0 undef=u at*
 have hc:u.cells= #[u]:=by rcases hs with ⟨_,rfl⟩ | ⟨q,cap,rfl,_⟩ <;> rfl
 have JI:r+1<vs.size:=by rw [h.size];omega
 have A4:w.cell? ⟨p.blk,p.off+r,none⟩=some vs[r+1]:=by
  have:=k4 r hr;rw [zAq JI] at this;unfold World.cell?;simp [k1,this]
 have GO: ∀ jj,w.frozen? ⟨p.blk,jj,none⟩=false:=fun jj=>by unfold World.frozen?;simp [k1]
 have hv: ∀ j,j≠r -> (vs.setIfInBounds (r+1) u).getD (j+1) undef=vs.getD (j+1) undef:=fun j hj=>by
  rw [zAc,zAc,zE4 (by omega)]
 have HI:(vs.setIfInBounds (r+1) u).getD (r+1) undef=u:=by
  simp [zAc,zD0,JI]
 obtain ⟨EJ,e1,e2,e3⟩:=Pi p.blk tt (0,0) [u] (p.off+r) w cs k1 (by simp;omega);have bP:AP (fun b=>b=p.blk) w (w.setCells p.blk (p.off+r) [u]):=Oj _ _ _ _
 generalize hW:w.setCells p.blk (p.off+r) [u]=W at bP e1
 have stay: ∀ b,b≠p.blk -> b<w.heap.size -> W.heap[b]? =w.heap[b]? :=fun b hb hl=>bP.block b hl hb
 refine ⟨W,?_,bP,?_,.cells e1⟩
 ·rw [←hW]
  have:=Yr (w:=w) (b:=p.blk) (o:=p.off+r) (v:=u) KU (by rw [hc,A3];rfl) (fun jj Lv=>by
   have:jj=0:=by rw [hc] at Lv;simpa using Lv
   subst this;rw [zEp,A4];rfl) GO (fun x hx=>by
   have:x=u:=by rw [hc] at hx;simpa using hx
   subst this;rcases hs with ⟨_,rfl⟩ | ⟨q,cap,rfl,_⟩ <;> rfl)
  rw [hc] at this;exact this
 ·have lg: ∀ j,j≠r -> (ls.set r L).getD j default=ls.getD j default:=fun j hj=>by
   rw [u8,u8,zEB (by omega)]
  refine ⟨rfl,by simpa using h.size,⟨EJ,tt,e1,by simpa [e2] using k2,by rw [e2];exact k3,fun j hj=>?_⟩,h.blk,fun j hj _=>?_,fun i j b hi hj _ _ h1 h2=>?_,fun k L e=>by cases e⟩
  ·rw [zAl] at hj
   show EJ[p.off+j]? =_
   rw [e3]
   by_cases e:j=r
   ·subst e;rw [zAB (by simp),Array.getElem?_setIfInBounds_self_of_lt JI];simp
   ·rw [zAZ (by simp;omega),zE4 (by omega)];exact k4 j hj
  ·rw [zAl] at hj
   by_cases e:j=r
   ·subst e;rw [HI,show (ls.set j L).getD j default=L by simp [u8,hj]];exact hs.out (fun b hf _ hl=>stay b hf.2 hl) fun _ h _=>h
   ·rw [hv j e,lg j e];exact (h.has j hj fun L' e'=>by rw [JN] at e';cases e';exact e rfl).out (fun b hf _ hl=>stay b hf.2 hl) fun _ h _=>h
  ·rw [zAl] at hi hj
   by_cases ei:i=r
   ·subst ei;rw [HI] at h1
    by_cases ej:j=i
    ·exact ej.symm
    ·rw [hv j ej] at h2;exact (hd j b hj h1 h2).symm
   ·rw [hv i ei] at h1
    by_cases ej:j=r
    ·subst ej;rw [HI] at h2;exact hd i b hi h2 h1
    ·rw [hv j ej] at h2;exact h.apart i j b hi hj (fun L' e'=>by rw [JN] at e';cases e';exact ei rfl) (fun L' e'=>by rw [JN] at e';cases e';exact ej rfl) h1 h2
theorem gG (R:AT P Γ N S ρ a w) {o:Oper} {S':St} {fz JX:List (Nat×Fz)} {vc:List Prop} (h:Uz P S fz o=some (S',vc,JX)) (hv:Ba vc):
 BK P (execOp a.eval o) w (fun v w'=>(∃ ρ',AT P Γ N S' ρ' (a.put o.dst v) w'/\ Ci S.h ρ w S'.h ρ' w')/\ ((∀ t x y,o.op≠.store t x y)∨∃ k i p t x y,o.op= .store t x y/\ AX S.fr x= .mp k 1 i 0/\ ρ[k]? =some p/\ AP p.foot w w')):=by
 unfold Uz at h;split at h
 ·rename_i t x y ho;split at h
  case h_2=>cases h
  rename_i d rest;split at h
  case isFalse=>cases h
  split at h
  case h_2=>cases h
  rename_i r hT;obtain ⟨e,i⟩:=r;split at h
  case h_2=>cases h
  rename_i k1 m k2 m' hx hy;cases h;obtain ⟨⟨rfl,GK,GJ⟩,_⟩:=hv;obtain ⟨hu,hi,hz,hs,Dh⟩:=rW hT;have rx:=Bh R x;have ry:=Bh R y;rw [hx] at rx;rw [hy] at ry;have DU:(madeCells (Value.slice none 0 0).cells (m'.toNat*i.size)).size=m'.toNat:=by rw [size_madeCells,hs,zD4]
  have C9: ∀ j,j<m'.toNat -> (madeCells (Value.slice none 0 0).cells (m'.toNat*i.size))[j]? =some (Value.slice none 0 0):=fun j hj=>by
   simp [madeCells,hs,hj,Value.cells,Nat.mod_one]
  refine BK.value (s:=Instr.makeSlice t (a.eval x) (a.eval y)) (by unfold execOp;rw [ho]) (v:=.slice (some ⟨w.heap.size,0,none⟩) m'.toNat m'.toNat) (w':=w.alloc (.cells (madeCells (Value.slice none 0 0).cells (m'.toNat*i.size)) e)) ?_ ?_
  ·rw [show a.eval x=_ from rx,show a.eval y=_ from ry];refine run_make w t e i _ hu hi hz k1 k2 m' m' GK (zER _) ?_ (by omega);have:(i.bytes:Int)*m'<=128*1000000000000:=Int.mul_le_mul (by omega) GJ GK (by omega);omega
  ·generalize hC:madeCells (Value.slice none 0 0).cells (m'.toNat*i.size)=cs at DU C9 ⊢
   have hg: ∀ j,j<m'.toNat -> (#[undef]++Array.replicate m'.toNat (Value.slice none 0 0)).getD (j+1) undef= .slice none 0 0:=fun j hj=>by
    simp [zAc,Array.getElem?_append,hj]
   refine ⟨L6 R o.dst (TH (ob:=.cells cs e) (o:=.mo (.rws (List.replicate m'.toNat []) none)) (d:=.msl S.h.length 1 0 m'.toNat) (pl:=⟨w.heap.size,0,cs.size,.tuple (#[undef]++Array.replicate m'.toNat (Value.slice none 0 0)),fun b=>b=w.heap.size⟩) R.hr rfl rfl (fun M ρ'=>?_) (fun M ρ' hp=>⟨_,m'.toNat,hp,by simp,zAm _,by unfold LB;omega,by simp [DU]⟩) true) fun _ _ h=>h,.inl fun t x y e=>by rw [ho] at e;cases e⟩;refine ⟨#[undef]++Array.replicate m'.toNat (Value.slice none 0 0),rfl,by simp;omega,⟨cs,e,zEt w _,by simp [DU],zAm _,fun j hj=>?_⟩,rfl,fun j hj _=>.inl ⟨?_,?_⟩,fun i j b hi hj _ _ h1 h2=>?_,fun k L e=>by cases e⟩
   ·rw [zAe] at hj
    show cs[0+j]? =_
    rw [zAj,C9 j hj];simp [Array.getElem?_append,hj]
   ·rw [zAe] at hj;simp [u8,hj]
   ·rw [zAe] at hj;exact hg j hj
   ·rw [zAe] at hi;rw [hg i hi] at h1;cases h1
 ·rename_i c ho;split at h
  case h_2=>cases h
  rename_i hc;split at h
  case h_2=>cases h
  rename_i x y ha;split at h
  case h_2=>cases h
  rename_i t t' ht;split at h
  case isFalse=>cases h
  rename_i e;subst e;split at h
  case h_2=>cases h
  rename_i e i z hk;obtain ⟨hu,hi,hz,h0,Ce,EG,_⟩:=TZ hk;have Cp:i.size=1:=EG.symm;split at h
  case isTrue=>cases h
  rename_i Dh;have rx:=Bh R x;have ry:=Bh R y;split at h
  case h_2=>cases h
  rename_i j r ys vy hX hY;split at h
  case h_2=>cases h
  rename_i ls hO;cases h;obtain ⟨v1,v2,v3,v4,_⟩:=hv;rw [hX] at rx;obtain ⟨p,vs,hp,hA,Cr⟩:=gF R hO rx;have ex:a.eval x=vs.getD (r+1) undef:=by simp [zAc,Cr]
  obtain ⟨w',u',p',g1,g2,g3,g4,g5,g6,g7⟩:=rV (ty:=o.type) hA v3 (fun b hb=>(R.hr.cel j _ p b hO hp hb).2.2) hu hi hz Cp Ce (by omega) (by rw [Cp];exact SY R hu ry hY v1) v2 v4;refine BK.value (MD ho hc ha ht) (by rw [ex];exact g1) ?_
  exact ⟨gE R hO hp g2 g3 g4 g5 g6 g7 o.dst fun M ρ' hq=>⟨p',_,hq,g4.val,by
   have:0<vs.size:=by rw [hA.size];omega
   simp [zD0,this]⟩,.inl fun t x y e=>by rw [ho] at e;cases e⟩
 ·rename_i t x y ho;split at h
  case h_2=>cases h
  rename_i bF;split at h
  case h_2=>cases h
  rename_i j r j' hX hY;split at h
  case h_2=>cases h
  rename_i ls r' L hO;split at h
  case isFalse=>cases h
  rename_i hc;cases h;obtain ⟨rfl,A3⟩:=hc;obtain ⟨rfl,v2,_⟩:=hv;have rx:=Bh R x;have ry:=Bh R y;rw [hX] at rx;rw [hY] at ry;obtain ⟨p,vs,hp,hA,Cr⟩:=gF R hO ry;obtain ⟨p2,Np,ex⟩:=rx;have:p2=p:=zAU (Np.symm.trans hp);subst this;cases KU:P.info? t with
  | none=>rw [KU] at A3;cases A3
  | some ti=>
  rw [KU] at A3;have bv:a.eval x= .pointer (some ⟨p2.blk,p2.off+r',none⟩):=by rw [ex];simp
  have ey:a.eval y=vs.getD 0 undef:=by simp [zAc,Cr]
  obtain ⟨W,g1,g2,g3,g4⟩:=rU hA rfl v2 KU (by simpa using A3);refine BK.skip (s:=Instr.storeAt t (a.eval x) (a.eval y)) (by unfold execOp;rw [ho]) (w':=W) (by rw [bv,ey];exact g1) ?_
  have:=gE (a:=a) (p':={ p2 with val:=.tuple (vs.setIfInBounds (r'+1) (vs.getD 0 undef)) }) R hO hp (g2.mono fun b _ hb=>by rw [show b=p2.blk from hb];exact hA.blk) (fun b hb=>⟨.inl hb,by
   by_cases e:b=p2.blk
   ·rw [e];exact g4
   ·obtain ⟨c,t1,t2,hc⟩:=(R.hr.cel _ _ p2 b hO hp hb).2.2;exact ⟨c,t1,t2,(g2.block b (zAJ.1 hc).1 e).trans hc⟩⟩) g3 rfl rfl rfl none (d:=.any) (v:=undef) fun _ _ _=>trivial
  rw [bF];exact ⟨this,.inr ⟨j',r',p2,t,x,y,ho,hX,hp,g2.mono fun b _ hb=>by rw [show b=p2.blk from hb];exact hA.blk⟩⟩
 ·cases h
end
end Go.Proofs.YtkjbblkieglmlaaGreatDoor
namespace Go.Proofs.YtkjbblkieglmlaaGreatDoor
abbrev zEV:=@Bool.false_or
abbrev zEu:=@Bool.false_ne_true
end Go.Proofs.YtkjbblkieglmlaaGreatDoor
namespace Go.Proofs.YtkjbblkieglmlaaGreatDoor
open Go.RowKit
def ES (P:Program) (Γ:Aq) (f:Nat) (ds:List DV) (h:DH) (d:DV) (h':DH) (ext:Bool):Prop:=
 (∃ fn,P.funcs[f]? =some fn/\ fn.name≠ "runtime.NumGoroutine" /\ fn.body.isSome=true)/\
 ∀ (N:Nat -> Prop) (ρ:List AI) (w:World) (args:Array Value),A1 P Γ N h ρ w -> BC (MS N h ρ) w ρ ds args ->
  Calls P f args w fun e w'=>∃ v,e= .returned v/\ CW P Γ N h ρ w ext d h' v w'
def V5 (h h':DH):Bool:=(List.range h.length).all fun k=>!(h.getD k none).isSome||(h'.getD k none).isSome
def Oc (P:Program) (Γ:Aq) (f:Nat) (ds:List DV) (h:DH) (d:DV) (h':DH) (k:Nat):Prop:=
 (∃ fn,P.funcs[f]? =some fn/\ fn.name≠ "runtime.NumGoroutine" /\ fn.body.isSome=true)/\
 ∀ (N:Nat -> Prop) (ρ:List AI) (w:World) (args:Array Value),A1 P Γ N h ρ w -> BC (MS N h ρ) w ρ ds args ->
  Calls P f args w fun e w'=>∃ v,e= .returned v/\ CW P Γ N h ρ w false d h' v w'/\ AP (fun b=>∃ i o p,k<=i/\ h[i]? =some (some o)/\ ρ[i]? =some p/\ p.foot b) w w'
structure BF where
 calls:List (DV×DH×Bool)
 co:List (Nat×DV)
 fz:List (Nat×Fz):=[]
 tg:List (List (Nat×Nat)×St):=[]
def Ip (ops:Array Oper) (S:St) (o:Oper):Option Bool:=match o.guard with
 | none=>some true
 | some (j,df)=>match (ops[j]?).bind (·.dst) with
  | some t=>match S.fr.getD t .any with
   | .bool b=>some (b==df)
   | .tup _ _=>some false
   | _=>none
  | none=>none
def Tt (co:List (Nat×DV)) (dst:Option Nat) (d:DV):DV×List Prop×List (Nat×DV):=match co with
 | []=>(d,[],[])
 | (t,d')::rest=>match dst with
  | some t'=>if t'=t then (d',[AS d d'],rest) else (d,[],co)
  | none=>(d,[],co)
def K3 (S:St):Op -> Bool
 | .move _=>true
 | .assign _=>true
 | .pick .. =>true
 | .binOp .shl .. =>false
 | .binOp .shr .. =>false
 | .binOp .quo .. =>false
 | .binOp .rem .. =>false
 | .binOp _ _ _ y _=>match AX S.fr y with
  | .nils=>false
  | _=>true
 | .unOp .. =>true
 | .convert .. =>true
 | .nilCheck _=>true
 | .fieldAddr .. =>true
 | .extract .. =>true
 | .makeFunc .. =>true
 | .build .. =>true
 | .field .. =>true
 | .call _=>true
 | .load _ x=>match AX S.fr x with
  | .mp .. =>false
  | _=>true
 | _=>false
def wW:Op -> Bool
 | .box .. =>true
 | .alloc _=>true
 | .buildSlice .. =>true
 | .makeSlice .. =>true
 | .store .. =>true
 | .makeMap .. =>true
 | .mapUpdate .. =>true
 | .insert .. =>true
 | .lookup .. =>true
 | .range .. =>true
 | .entry _=>true
 | .call c=>match c.callee with
  | .builtin .append=>true
  | .value _=>true
  | _=>false
 | _=>false
def O6 (P:Program) (ops:Array Oper) (S:St) (co:List (Nat×DV)) (o:Oper):Option (St×List Prop×List (Nat×DV)):=match Ip ops S o with
 | none=>none
 | some false=>some (⟨CY S.fr o.dst Mk,S.h⟩,[],co)
 | some true=>match Rk P S o.op with
  | none=>none
  | some (d,vc)=>match Tt co o.dst d with
   | (d',vs,Cq)=>some (⟨CY S.fr o.dst d',S.h⟩,(if K3 S o.op then vs else vc::vs),Cq)
def Rg (P:Program) (ops:Array Oper):List Oper -> St -> List (Nat×DV) -> Option (St×List Prop×List (Nat×DV))
 | [],S,co=>some (S,[],co)
 | o::rest,S,co=>match O6 P ops S co o with
  | none=>none
  | some (S',vs,Cq)=>match Rg P ops rest S' Cq with
   | none=>none
   | some (CJ,Bm,ml)=>some (CJ,vs++Bm,ml)
def MW (P:Program) (Γ:Aq) (S:St) (calls:List (DV×DH×Bool)):Op -> Option (DV×DH×List Prop×Bool×List (DV×DH×Bool))
 | .box _ x=>match Ie (AX S.fr x) with
  | some l=>some (.ref S.h.length 0,S.h++[some (.cells l)],[],true,calls)
  | none=>none
 | .alloc t=>match P.info? t with
  | some i=>match i.zero with
   | some z=>if Xw z then some (.mp S.h.length 1 0 0,S.h++[some (.bools (List.replicate z.cells.size false))],[],true,calls)
    else some (.ref S.h.length 0,S.h++[some (.cells (z.cells.toList.map GD))],[],true,calls)
   | none=>none
  | none=>none
 | .buildSlice t len parts=>match Jb P t with
  | some (k,_,_,_)=>if XN parts.toList len&&decide (len<=65536/\ k.cells<=64) then match QM k (parts.toList.map fun x=>AX S.fr x.2) with
   | some ob=>some (.msl S.h.length k.cells 0 len,S.h++[some ob],[],true,calls)
   | none=>none
   else none
  | none=>none
 | .makeSlice t x y=>match Vr P t with
  | some (n,_,_)=>match AX S.fr x,AX S.fr y with
   | .int _ m,.int _ m'=>some (.msl S.h.length 1 0 m.toNat,S.h++[some (.mo (.sets n (List.replicate m.toNat none) none))],[m'=m/\ 0<=m/\ m<=1000000000000],true,calls)
   | _,_=>none
  | none=>match Jb P t with
   | some (k,_,i,z)=>if decide (i.bytes<=128) then match AX S.fr x,AX S.fr y with
    | .int _ n,.int _ n'=>some (.msl S.h.length k.cells 0 n.toNat,S.h++[some (jH k n.toNat z)],[n'=n/\ 0<=n/\ n<=1000000000000],true,calls)
    | _,_=>none
    else none
   | none=>none
 | .store t x y=>match Mo P S t (AX S.fr x) (AX S.fr y) with
  | some (h',vc)=>some (.any,h',[vc],false,calls)
  | none=>none
 | .call c=>match c.callee with
  | .builtin .append=>match c.args.toList with
   | [x,y]=>match c.argTypes.toList with
    | [t,t']=>if t=t' then match QR P S t (AX S.fr x) (AX S.fr y) with
     | some (d,h',vc)=>some (d,h',[vc],false,calls)
     | none=>none
     else none
    | _=>none
   | _=>none
  | .value f=>match AX S.fr f,calls with
   | .fn g m cap,(d,h',ext)::rest=>some (d,h',[ES P Γ g (c.args.toList.map (AX S.fr)++(List.range m).map cap) S.h d h' ext],ext,rest)
   | _,_=>none
  | _=>none
 | op=>match Zu P S op with
  | some (d,h',vs,ext)=>some (d,h',vs,ext,calls)
  | none=>none
def OV (P:Program) (Γ:Aq) (ops:Array Oper) (S:St) (Aa:BF) (o:Oper):Option (St×List Prop×Bool×BF):=match Ip ops S o with
 | none=>none
 | some false=>some (⟨CY S.fr o.dst Mk,S.h⟩,[],true,Aa)
 | some true=>match Uz P S Aa.fz o with
  | some (S',vs,JX)=>some (S',vs,false,⟨Aa.calls,Aa.co,JX,Aa.tg⟩)
  | none=>match Uk P S o with
  | some (S',vs)=>some (S',vs,false,Aa)
  | none=>match MW P Γ S Aa.calls o.op with
   | none=>none
   | some (d,h',vs,ext,calls)=>match Tt Aa.co o.dst d with
    | (d',Bm,Cq)=>match TL Aa.fz o.dst ⟨CY S.fr o.dst d',h'⟩ with
     | none=>none
     | some (S',Oh,JX)=>some (S',vs++(Bm++Oh),ext,⟨calls,Cq,JX,Aa.tg⟩)
def DW (P:Program) (Γ:Aq) (ops:Array Oper):List Oper -> St -> BF -> Option (St×List Prop×BF)
 | [],S,Aa=>some (S,[],Aa)
 | o::rest,S,Aa=>match wW o.op with
  | true=>match OV P Γ ops S Aa o with
   | none=>none
   | some (S',vs,_,B2)=>match DW P Γ ops rest S' B2 with
    | none=>none
    | some (CJ,Bm,Rr)=>some (CJ,vs++Bm,Rr)
  | false=>match O6 P ops S Aa.co o with
   | none=>none
   | some (S',vs,Cq)=>match DW P Γ ops rest S' ⟨Aa.calls,Cq,Aa.fz,Aa.tg⟩ with
    | none=>none
    | some (CJ,Bm,Rr)=>some (CJ,vs++Bm,Rr)
def cY (P:Program) (Γ:Aq) (hb:DH) (ops:Array Oper) (S:St) (Aa:BF) (o:Oper):Option (St×List Prop×BF):=match o.op with
 | .call c=>match c.callee with
  | .value f=>match AX S.fr f,Aa.calls with
   | .fn g m cap,(d,h',false)::rest=>match Ip ops S o,V5 hb S.h with
    | some true,true=>match Tt Aa.co o.dst d with
     | (d',Bm,Cq)=>match TL Aa.fz o.dst ⟨CY S.fr o.dst d',h'⟩ with
      | some (S',Oh,JX)=>some (S',Oc P Γ g (c.args.toList.map (AX S.fr)++(List.range m).map cap) S.h d h' hb.length::(Bm++Oh),⟨rest,Cq,JX,Aa.tg⟩)
      | none=>none
    | _,_=>none
   | _,_=>none
  | _=>none
 | _=>none
def bh (Bl:List Nat) (hb h:DH):DH:=match Bl with
 | []=>hb
 | _=>h
def Lm (P:Program) (Γ:Aq) (ops:Array Oper):DH -> List (List Nat×Nat) -> List Nat -> St -> BF -> Option (St×List Prop×BF)
 | _,[],BJ,S,Aa=>match Rg P ops (CG ops BJ) S Aa.co with
  | none=>none
  | some (S',vs,Cq)=>some (S',vs,⟨Aa.calls,Cq,Aa.fz,Aa.tg⟩)
 | hb,(Bl,i)::AW,BJ,S,Aa=>match Rg P ops (CG ops Bl) S Aa.co with
  | none=>none
  | some (S',vs,Cq)=>match ops[i]? with
   | none=>none
   | some o=>match cY P Γ (bh Bl hb S.h) ops S' ⟨Aa.calls,Cq,Aa.fz,Aa.tg⟩ o with
    | some (CJ,Bm,B2)=>match Lm P Γ ops (bh Bl hb S.h) AW BJ CJ B2 with
     | none=>none
     | some (S3,Mi,KC)=>some (S3,vs++(Bm++Mi),KC)
    | none=>match OV P Γ ops S' ⟨Aa.calls,Cq,Aa.fz,Aa.tg⟩ o with
     | none=>none
     | some (CJ,Bm,ext,B2)=>match ext with
      | false=>none
      | true=>match Lm P Γ ops (bh Bl hb S.h) AW BJ CJ B2 with
       | none=>none
       | some (S3,Mi,KC)=>some (S3,vs++(Bm++Mi),KC)
def hseq (P:Program) (Γ:Aq) (ops:Array Oper) (hb:DH) (CT:List (List Nat×Nat)) (BJ tail:List Nat) (S:St) (Aa:BF):Option (St×List Prop×BF):=match Lm P Γ ops hb CT BJ S Aa with
 | none=>none
 | some (S',vs,B2)=>match DW P Γ ops (CG ops tail) S' B2 with
  | none=>none
  | some (CJ,Bm,Rr)=>some (CJ,vs++Bm,Rr)
section
variable {P:Program} {Γ:Aq} {N:Nat -> Prop} {S:St} {ρ:List AI} {a:Act} {w:World} {F:Fence}
structure Cv (F:Fence) (P:Program):Prop where
 fn: ∀ f,F.fn f
 dep:F.depth=none
 calls: ∀ {f:FuncId} {args:Array Value} {w:World} {R:Ending -> World -> Prop},Calls P f args w R -> CallsIn F 0 P f args w R
theorem Cv.wide:Cv Fence.wide P:=⟨fun _=>trivial,rfl,fun h=>zF8.2 h⟩
theorem Cv.round (l:Nat):Cv (Fence.wide.inRound l) P:=⟨fun _=>trivial,rfl,fun h=>CallsIn.inRound _ (zF8.2 h)⟩
theorem HZ (R:AT P Γ N S ρ a w) {ops:Array Oper} {o:Oper} {r:Bool} (h:Ip ops S o=some r):Region.wanted o (yielded ops a.tmps)=r:=by
 unfold Ip at h;unfold Region.wanted;split at h
 ·rename_i hg;rw [hg];cases h;rfl
 ·rename_i j df hg;rw [hg];split at h
  ·rename_i t ht;split at h
   ·rename_i b hb;cases h;have hr:=R.fr.at t;rw [hb] at hr;have hv:a.tmps.getD t undef= .bool b:=hr
    have:a.tmps[t]? =some (.bool b):=by
     rw [zAc] at hv;cases hx:a.tmps[t]? with
     | none=>rw [hx] at hv;cases hv
     | some u=>rw [hx] at hv;exact congrArg some hv
    simp [yielded,ht,this]
   ·rename_i m f hb;cases h;have hr:=R.fr.at t;rw [hb] at hr;obtain ⟨cs,hv,_⟩:=hr
    have:yielded ops a.tmps j=none:=by
     unfold yielded;rw [ht]
     show (match a.tmps[t]? with | some (.bool b)=>some b | _=>none)=none
     rw [zAc] at hv;cases hx:a.tmps[t]? with
     | none=>rfl
     | some u=>rw [hx] at hv;have hv:u= .tuple cs:=hv;rw [hv]
    simp [this]
   ·cases h
  ·cases h
theorem Ts {co:List (Nat×DV)} {dst:Option Nat} {d d':DV} {vs:List Prop} {Cq:List (Nat×DV)} (h:Tt co dst d=(d',vs,Cq)) (hv:Ba vs) {M:Nat -> Prop} {v:Value} (hr:AM M w d ρ v):AM M w d' ρ v:=by
 unfold Tt at h;split at h
 ·cases h;exact hr
 ·split at h
  ·split at h
   ·cases h;exact hv.1 M w ρ v hr
   ·cases h;exact hr
  ·cases h;exact hr
theorem iJ {op:Op} {d:DV} {vc:Prop} (h:O8 P S op=some (d,vc)) (ht:K3 S op=true):vc:=by
 unfold O8 at h;split at h
 ·cases h;trivial
 ·cases h;trivial
 ·repeat' (split at h)
  all_goals first | (cases h;trivial) | (cases h;done)
 ·rename_i t x;simp only [K3] at ht;unfold NV at h
  repeat' (split at h)
  all_goals first | (cases h;trivial) | (cases h;done) | (simp_all;done)
 ·rename_i op t x y t';unfold Xj at h;split at h
  ·split at h
   all_goals first | (cases h;trivial) | (cases h;done)
  ·split at h
   all_goals first | (cases h;trivial) | (cases h;done)
  ·rename_i e;simp [K3,e] at ht
  ·rename_i e;simp [K3,e] at ht
  ·rename_i e;simp [K3,e] at ht
  ·cases ht
  ·cases ht
  ·cases ht
  ·cases ht
  ·split at h
   ·unfold Xi at h;split at h
    all_goals first | (cases h;trivial) | (cases h;done)
   ·cases h
  ·cases h
 ·repeat' (split at h)
  all_goals first | (cases h;trivial) | (cases h;done)
 ·repeat' (split at h)
  all_goals first | (cases h;trivial) | (cases h;done)
 ·repeat' (split at h)
  all_goals first | (cases h;trivial) | (cases h;done)
 ·repeat' (split at h)
  all_goals first | (cases h;trivial) | (cases h;done)
 ·cases ht
 ·repeat' (split at h)
  all_goals first | (cases h;trivial) | (cases h;done)
 ·split at h
  ·cases h;trivial
  ·cases h
 ·split at h
  ·unfold Xg at h;split at h
   ·split at h
    ·split at h
     ·unfold Vx at h;split at h
      all_goals first | (cases h;trivial) | (cases h;done)
     ·cases h
    ·cases h
   ·split at h
    ·unfold Zo at h;split at h
     all_goals first | (cases h;trivial) | (cases h;done)
    ·cases h
   ·split at h
    ·unfold Zn at h;split at h
     all_goals first | (cases h;trivial) | (cases h;done)
    ·cases h
   ·cases h
  ·cases h
 ·cases h
theorem zBd {op:BinOp} {t:TypeId} {x y d:DV} {vc:Prop} (h:TU P op t x y=some (d,vc)):vc:=by
 unfold TU at h;split at h
 ·split at h
  all_goals first | (cases h;trivial) | (cases h;done)
 ·split at h
  all_goals first | (cases h;trivial) | (cases h;done)
 ·cases h
theorem oT {op:Op} {d:DV} {vc:Prop} (h:Rk P S op=some (d,vc)) (ht:K3 S op=true):vc:=by
 unfold Rk at h;split at h
 ·split at h
  all_goals first | (cases h;trivial) | (cases h;done)
 ·unfold Vw at h
  repeat' (split at h)
  all_goals first | (cases h;trivial) | (cases h;done)
 ·cases ht
 ·unfold W5 at h
  repeat' (split at h)
  all_goals first | (cases h;trivial) | (cases h;done)
 ·cases ht
 ·split at h
  ·rename_i r hr;cases h;exact zBd hr
  ·exact iJ h ht
 ·exact iJ h ht
theorem Re (R:AT P Γ N S ρ a w) {ops:Array Oper} {co:List (Nat×DV)} {o:Oper} {S':St} {vs:List Prop} {Cq:List (Nat×DV)} (h:O6 P ops S co o=some (S',vs,Cq)) (hv:Ba vs):
 S'.h=S.h/\ ((Region.wanted o (yielded ops a.tmps)=true/\ ∃ v,(∀ W,Keep N w W -> (execOp a.eval o).run P W= .ok (.value v) W)/\ AT P Γ N S' ρ (a.put o.dst v) w)∨(Region.wanted o (yielded ops a.tmps)=false/\ AT P Γ N S' ρ (a.put o.dst undef) w)):=by
 unfold O6 at h;split at h
 ·cases h
 ·rename_i hw;cases h;exact ⟨rfl,.inr ⟨HZ R hw,GU R _ US⟩⟩
 ·rename_i hw;split at h
  ·cases h
  ·rename_i d vc hp;split at h;rename_i d' Bm ml Ly;cases h
   have PX:vc/\ Ba Bm:=by
    by_cases ht:K3 S o.op=true
    ·rw [zAB ht] at hv;exact ⟨oT hp ht,hv⟩
    ·rw [zAZ ht] at hv;exact hv
   obtain ⟨v,g1,g2⟩:=tr R o hp PX.1;exact ⟨rfl,.inl ⟨HZ R hw,v,g1,GU R _ (Ts Ly PX.2 g2)⟩⟩
theorem Rf {ops:Array Oper} {Q:Act -> Prop}: ∀ (l:List Oper) {S:St} {a:Act} {co:List (Nat×DV)} {S':St} {vs:List Prop} {Cq:List (Nat×DV)},AT P Γ N S ρ a w -> Rg P ops l S co=some (S',vs,Cq) -> Ba vs ->
 (∀ a',S'.h=S.h -> AT P Γ N S' ρ a' w -> a'.defers=a.defers -> Q a') -> wpQuiet P ops (fun w'=>∃ x:UC w,w'=x.W) Q l a
 | [],S,a,co,S',vs,Cq,R,h,_,hQ=>by
  cases h;exact hQ a rfl R rfl
 | o::rest,S,a,co,S',vs,Cq,R,h,hv,hQ=>by
  simp only [Rg] at h;split at h
  ·cases h
  ·rename_i S1 CL Jf h1;split at h
   ·cases h
   ·rename_i S2 Dy cP h2;cases h;obtain ⟨B0,B5⟩:=Cu.1 hv;obtain ⟨e1,hs⟩:=Re R h1 B0;unfold wpQuiet;have CI: ∀ v,(a.put o.dst v).defers=a.defers:=fun v=>by cases ho:o.dst <;> simp [Act.put]
    rcases hs with ⟨hw,v,g1,g2⟩ | ⟨hw,g2⟩
    ·rw [zAB hw];refine ⟨v,?_,Rf rest g2 h2 B5 fun a' q1 q2 q3=>hQ a' (q1.trans e1) q2 (q3.trans (CI v))⟩;rintro W ⟨x,rfl⟩;unfold Oper.quietAt;rw [g1 x.W (Keep.ofExt x.le)];exact ⟨rfl,rfl⟩
    ·rw [zAZ (by rw [hw];exact zEu)];exact Rf rest g2 h2 B5 fun a' q1 q2 q3=>hQ a' (q1.trans e1) q2 (q3.trans (CI undef))
theorem BC.append {M:Nat -> Prop} {l l':List DV} {t t':Array Value} (h:BC M w ρ l t) (h':BC M w ρ l' t'):BC M w ρ (l++l') (t++t'):=by
 refine ⟨by simp [h.1,h'.1],fun i hi=>?_⟩;rcases zDj i l.length with hl | hl
 ·have:=h.2 i hl;have ht:i<t.size:=by rw [←h.1];exact hl
  simp only [u8,zAc] at this ⊢;rw [zAX hl,zES ht];exact this
 ·have BP:i-l.length<l'.length:=by simp at hi;omega
  have:=h'.2 _ BP;have ht:t.size<=i:=by rw [←h.1];exact hl
  simp only [u8,zAc] at this ⊢;rw [zAb hl,Array.getElem?_append_right ht,←h.1];exact this
theorem sF {g:Nat} {args:Array Value} {fn:Func} (Sz:P.funcs[g]? =some fn) (Ns:fn.name≠ "runtime.NumGoroutine") (zAP:fn.body.isSome=true):(callFunc g args).run P w= .ok (.enter g args) w:=by
 have ze:fn.body.isNone=false:=by cases hb:fn.body <;> simp [hb] at zAP ⊢
 have au:(fn.name== "runtime.NumGoroutine")=false:=by simpa using Ns
 unfold callFunc;rw [zAg,show Sem.run P program w= .ok P w from rfl];simp only [Result.andThen,Sz,au,ze,zDs,zEg];rfl
theorem cX (R:AT P Γ N S ρ a w) {c:Call} {f:Operand} {g m:Nat} {cap:Nat -> DV} (o:Oper) (ho:o.op= .call c) (hc:c.callee= .value f) (hf:AX S.fr f= .fn g m cap)
 (hen: ∀ args W,(callFunc g args).run P W= .ok (.enter g args) W): ∃ args,(execOp a.eval o).run P w= .ok (.enter g args) w/\ BC (MS N S.h ρ) w ρ (c.args.toList.map (AX S.fr)++(List.range m).map cap) args:=by
 have hr:=Bh R f;rw [hf] at hr;obtain ⟨lb,hv,hs,Lz⟩:=hr;refine ⟨c.args.map a.eval++lb,?_,BC.append ⟨by simp,fun i hi=>?_⟩ ⟨by simp [hs],fun i hi=>?_⟩⟩
 ·unfold execOp;rw [ho]
  show ((resolve a.eval c o.type)>>=fun d=>invoke d.target d.args).run P w=_
  unfold resolve;rw [hc];simp only [Deferred.ofValue,hv];have he:((pure { target:=.fn (.func g) lb,args:=#[]++Array.map a.eval c.args }:Sem Deferred)>>=fun d=>invoke d.target d.args).run P w=(callFunc g (#[]++Array.map a.eval c.args++lb)).run P w:=rfl;rw [he,hen];simp
 ·have BP:i<c.args.size:=by simpa using hi
  have:=Bh R c.args[i];simp [BP,this]
 ·have BP:i<m:=by simpa using hi
  obtain ⟨u,g1,g2⟩:=Lz i BP;simp [BP,g1,g2]
theorem my (R:AT P Γ N S ρ a w) {c:Call} {f:Operand} {g m:Nat} {cap:Nat -> DV} {G:Value -> World -> Prop} (o:Oper) (ho:o.op= .call c) (hc:c.callee= .value f) (hf:AX S.fr f= .fn g m cap)
 (Sz: ∃ fn,P.funcs[g]? =some fn/\ fn.name≠ "runtime.NumGoroutine" /\ fn.body.isSome=true) (hE: ∀ args,BC (MS N S.h ρ) w ρ (c.args.toList.map (AX S.fr)++(List.range m).map cap) args -> Calls P g args w fun e w'=>∃ v,e= .returned v/\ G v w'):BK P (execOp a.eval o) w G:=
 let ⟨_,h1,h2,h3⟩:=Sz
 let ⟨args,h4,h5⟩:=cX R o ho hc hf fun _ _=>sF h1 h2 h3
 .inr (.inr ⟨g,args,w,h4,hE _ h5⟩)
theorem zCt (R:AT P Γ N S ρ a w) {c:Call} {f:Operand} {g m:Nat} {cap:Nat -> DV} {d:DV} {h':DH} {ext:Bool} (o:Oper) (ho:o.op= .call c) (hc:c.callee= .value f) (hf:AX S.fr f= .fn g m cap)
 (hE:ES P Γ g (c.args.toList.map (AX S.fr)++(List.range m).map cap) S.h d h' ext):BK P (execOp a.eval o) w (CW P Γ N S.h ρ w ext d h'):=
 my R o ho hc hf hE.1 fun args ha=>hE.2 N ρ w args R.hr ha
theorem dI (R:AT P Γ N S ρ a w) {calls:List (DV×DH×Bool)} {o:Oper} {d:DV} {h':DH} {vs:List Prop} {ext:Bool} {OO:List (DV×DH×Bool)} (h:MW P Γ S calls o.op=some (d,h',vs,ext,OO)) (hv:Ba vs):
 BK P (execOp a.eval o) w (CW P Γ N S.h ρ w ext d h'):=by
 unfold MW at h;split at h
 ·rename_i t x ho;split at h
  ·rename_i l hl;cases h;exact zCy R hl o ho true
  ·cases h
 ·rename_i t ho;split at h
  ·rename_i i hi;split at h
   ·rename_i z hz;split at h
    ·rename_i aN;cases h;exact zDX R hi hz aN o ho true
    ·cases h;exact zDW R hi hz o ho true
   ·cases h
  ·cases h
 ·rename_i t len parts ho;split at h
  ·rename_i k e i z hk;split at h
   ·rename_i hc;simp only [zAL,zBg] at hc;split at h
    ·rename_i ob hb;cases h;exact zCw R hk hc.1 hc.2 hb o ho true
    ·cases h
   ·cases h
  ·cases h
 ·rename_i t x y ho;split at h
  ·rename_i n e i hT;split at h
   ·rename_i k1 m k2 m' hx hy;cases h;obtain ⟨⟨rfl,v1,v2⟩,_⟩:=hv;exact vD R hT hx hy ⟨v1,v2⟩ o ho true
   ·cases h
  split at h
  ·rename_i k e i z hk;split at h
   ·rename_i Dh;split at h
    ·rename_i k1 n k2 n' hx hy;cases h;obtain ⟨⟨rfl,v1,v2⟩,_⟩:=hv;exact vC R hk hx hy ⟨v1,v2⟩ (by simpa using Dh) o ho true
    ·cases h
   ·cases h
  ·cases h
 ·rename_i t x y ho;split at h
  ·rename_i h1 vc hs;cases h;exact fK R hs hv.1 o ho
  ·cases h
 ·rename_i c ho;split at h
  ·rename_i hc;split at h
   ·rename_i x y ha;split at h
    ·rename_i t t' ht;split at h
     ·rename_i e;subst e;split at h
      ·rename_i d1 h1 vc Ke;cases h;exact nY R Ke hv.1 o ho hc ha ht
      ·cases h
     ·cases h
    ·cases h
   ·cases h
  ·rename_i f hc;split at h
   ·rename_i g m cap d1 h1 ext1 rest hf;cases h;exact zCt R o ho hc hf hv.1
   ·cases h
  ·cases h
 ·split at h
  ·rename_i hm;cases h;exact vB R o hm hv
  ·cases h
theorem Jc (hF:Cv F P) {o:Oper} (hd: ∀ c,o.op≠.defer c) {G:Value -> World -> Prop} (h:BK P (execOp a.eval o) w G) {K:Act -> World -> Prop} {Q:Exit -> Act -> World -> Prop} (hK: ∀ v w',G v w' -> K (a.put o.dst v) w'):o.wpIn F 0 P a w K Q:=by
 refine ⟨fun f _=>hF.fn f,?_⟩;rw [zEa _ _ _ hd];rcases h with ⟨v,w',h1,h2⟩ | ⟨w',h1,h2⟩ | ⟨f,args,w',h1,h2⟩
 ·rw [h1];exact hK v w' h2
 ·rw [h1];exact hK undef w' h2
 ·rw [h1];refine ⟨fun hx=>(by rw [hF.dep] at hx;cases hx),(hF.calls h2).mono ?_⟩;rintro e CK ⟨v,rfl,hG⟩;exact hK v CK hG
theorem ci (hF:Cv F P) (R:AT P Γ N S ρ a w) {ops:Array Oper} {Aa:BF} {o:Oper} (hd: ∀ c,o.op≠.defer c) {S':St} {vs:List Prop} {ext:Bool} {B2:BF} (h:OV P Γ ops S Aa o=some (S',vs,ext,B2)) (hv:Ba vs)
 {K:Act -> World -> Prop} {Q:Exit -> Act -> World -> Prop} (hK: ∀ ρ' a' w',AT P Γ N S' ρ' a' w' -> Ci S.h ρ w S'.h ρ' w' -> a'.defers=a.defers -> (ext=true -> Ao w w') -> K a' w'):
 if Region.wanted o (yielded ops a.tmps) then o.wpIn F 0 P a w K Q else (∀ f,o.about P w a.eval=some f -> F.fn f)/\ K (a.put o.dst undef) w:=by
 have CI: ∀ v,(a.put o.dst v).defers=a.defers:=fun v=>by cases ho:o.dst <;> simp [Act.put]
 unfold OV at h;split at h
 ·cases h
 ·rename_i hw;cases h;rw [zAZ (by rw [HZ R hw];exact zEu)];exact ⟨fun f _=>hF.fn f,hK ρ _ _ (GU R _ US) (Ci.refl _ _ _) (CI _) fun _=>Ao.refl w⟩
 ·rename_i hw;rw [zAB (HZ R hw)];split at h
  ·rename_i S1 CL fz1 hM;cases h;exact Jc hF hd (gG R hM hv) fun v w' ⟨⟨ρ',g1,g2⟩,_⟩=>hK ρ' _ _ g1 g2 (CI v) fun e=>by cases e
  split at h
  ·rename_i S1 CL hM;cases h;exact Jc hF hd (fJ R hM hv) fun v w' ⟨⟨ρ',g1,g2⟩,_⟩=>hK ρ' _ _ g1 g2 (CI v) fun e=>by cases e
  split at h
  ·cases h
  ·rename_i d h1 CL ext1 calls Wj;split at h;rename_i d' Bm Cq Ly;split at h
   ·cases h
   ·rename_i S2 Oh JX GO;cases h;obtain ⟨B0,Si⟩:=Cu.1 hv;obtain ⟨B5,Hs⟩:=Cu.1 Si;refine Jc hF hd (dI R Wj B0) fun v w' G=>?_
    obtain ⟨ρ',g1,g2⟩:=L6 R o.dst G (d':=d') fun M ρ' hr=>Ts Ly B5 hr
    obtain ⟨g3,g4⟩:=TK _ GO Hs P Γ N ρ' _ _ g1;exact hK ρ' _ _ g3 (g2.trans ⟨g4,fun _ _ h=>h⟩) (CI v) G.ext
theorem JV (hF:Cv F P) {ops:Array Oper} (Av:CR ops=true) {Q:Exit -> Act -> World -> Prop}: ∀ (l:List Oper) (_: ∀ o∈l,o∈ops) {S:St} {ρ:List AI} {a:Act} {w:World} {Aa:BF} {S':St} {vs:List Prop} {B2:BF},
 AT P Γ N S ρ a w -> DW P Γ ops l S Aa=some (S',vs,B2) -> Ba vs ->
 (∀ ρ' a' w',AT P Γ N S' ρ' a' w' -> Ci S.h ρ w S'.h ρ' w' -> a'.defers=a.defers -> Q .normal a' w') -> wpListIn F 0 P ops Q l a w
 | [],_,S,ρ,a,w,Aa,S',vs,B2,R,h,_,hQ=>by
  cases h;exact hQ ρ a w R (Ci.refl _ _ _) rfl
 | o::rest,hl,S,ρ,a,w,Aa,S',vs,B2,R,h,hv,hQ=>by
  have hd: ∀ c,o.op≠.defer c:=by
   obtain ⟨j,hj,e⟩:=Array.getElem_of_mem (hl o (by simp));exact Ga Av (j:=j) (by rw [zAq hj,e])
  have Ew: ∀ o∈rest,o∈ops:=fun o ho=>hl o (by simp [ho])
  have CI: ∀ v,(a.put o.dst v).defers=a.defers:=fun v=>by cases ho:o.dst <;> simp [Act.put]
  simp only [DW] at h;unfold wpListIn;split at h
  ·split at h
   ·cases h
   ·rename_i S1 CL ext1 Ee h1;split at h
    ·cases h
    ·rename_i S2 Dy Fm h2;cases h;obtain ⟨B0,B5⟩:=Cu.1 hv;exact ci hF R hd h1 B0 fun ρ' a' w' R' st Ca _=>JV hF Av rest Ew R' h2 B5 fun ρ'' GS CK EZ C4 IU=>hQ ρ'' GS CK EZ (st.trans C4) (IU.trans Ca)
  ·split at h
   ·cases h
   ·rename_i S1 CL Jf h1;split at h
    ·cases h
    ·rename_i S2 Dy Fm h2;cases h;obtain ⟨B0,B5⟩:=Cu.1 hv;obtain ⟨e1,hs⟩:=Re R h1 B0
     have go: ∀ v,AT P Γ N S1 ρ (a.put o.dst v) w -> wpListIn F 0 P ops Q rest (a.put o.dst v) w:=fun v R'=>
      JV hF Av rest Ew R' h2 B5 fun ρ'' GS CK EZ C4 IU=>hQ ρ'' GS CK EZ (by rw [←e1];exact C4) (IU.trans (CI v))
     rcases hs with ⟨hw,v,g1,g2⟩ | ⟨hw,g2⟩
     ·rw [zAB hw];refine ⟨fun f _=>hF.fn f,?_⟩;rw [zEa _ _ _ hd,g1 w (Keep.ofExt (Ao.refl w))];exact go v g2
     ·rw [zAZ (by rw [hw];exact zEu)];exact ⟨fun f _=>hF.fn f,go undef g2⟩
theorem PC {ops:Array Oper}: ∀ (l:List Nat),∀ o∈CG ops l,o∈ops
 | [],o,h=>by simp [CG] at h
 | i::l,o,h=>by
  simp only [CG] at h;split at h
  ·rename_i o' ho;rcases zDu.1 h with rfl | h
   ·exact zEv ho
   ·exact PC l o h
  ·exact PC l o h
theorem mz (hF:Cv F P) (R:AT P Γ N S ρ a w) {hb:DH} {ops:Array Oper} {Aa:BF} {o:Oper} {S':St} {vs:List Prop} {B2:BF} (h:cY P Γ hb ops S Aa o=some (S',vs,B2)) (hv:Ba vs)
 {K:Act -> World -> Prop} {Q:Exit -> Act -> World -> Prop} (hK: ∀ ρ' a' w',AT P Γ N S' ρ' a' w' -> Ci S.h ρ w S'.h ρ' w' -> a'.defers=a.defers -> AP (fun b=>∃ i o p,hb.length<=i/\ S.h[i]? =some (some o)/\ ρ[i]? =some p/\ p.foot b) w w' -> K a' w'):
 V5 hb S.h=true/\ if Region.wanted o (yielded ops a.tmps) then o.wpIn F 0 P a w K Q else (∀ f,o.about P w a.eval=some f -> F.fn f)/\ K (a.put o.dst undef) w:=by
 have CI: ∀ v,(a.put o.dst v).defers=a.defers:=fun v=>by cases ho:o.dst <;> simp [Act.put]
 unfold cY at h;split at h
 case h_2=>cases h
 rename_i c ho;split at h
 case h_2=>cases h
 rename_i f hc;split at h
 case h_2=>cases h
 rename_i g m cap d h' rest hf hcalls;split at h
 case h_2=>cases h
 rename_i hw hk;split at h;rename_i d' Bm Cq Ly;split at h
 case h_2=>cases h
 rename_i S1 Oh JX GO;cases h;obtain ⟨B0,Si⟩:=hv;obtain ⟨B5,Hs⟩:=Cu.1 Si;refine ⟨hk,?_⟩;rw [zAB (HZ R hw)];refine Jc hF (fun c e=>by rw [ho] at e;cases e) (my R o ho hc hf B0.1 fun args ha=>B0.2 N ρ w args R.hr ha) fun v w' G=>?_
 obtain ⟨ρ',g1,g2⟩:=L6 R o.dst G.1 (d':=d') fun M ρ' hr=>Ts Ly B5 hr
 obtain ⟨g3,g4⟩:=TK _ GO Hs P Γ N ρ' _ _ g1;exact hK ρ' _ _ g3 (g2.trans ⟨g4,fun _ _ h=>h⟩) (CI v) G.2
theorem uu {hb h:DH} {ρb ρ:List AI} {b w w':World} (HR:A1 P Γ N h ρ w) (hS:Ci hb ρb b h ρ w) (hE:Ao b w) (hk:V5 hb h=true) (hu:AP (fun x=>∃ i o p,hb.length<=i/\ h[i]? =some (some o)/\ ρ[i]? =some p/\ p.foot x) w w'):Ao b w':=by
 refine ((AP.ofExt (S:=fun x=>∃ i o p,hb.length<=i/\ h[i]? =some (some o)/\ ρ[i]? =some p/\ p.foot x) hE).comp hu fun _ _ h=>h).toExt ?_;rintro x hx ⟨i,o,p,h1,h2,h3,h4⟩;rcases hS.st.grow x ⟨i,o,p,h2,h3,h4⟩ with ⟨k,o',q,g1,g2,g3⟩ | Ll
 ·have D6:=(zAV.1 g1).1;have:=zAW.1 hk k (zAd.2 D6);rw [show (hb.getD k none).isSome=true by rw [u8,g1];rfl,zD2,zEV] at this;obtain ⟨o2,Pe⟩:=zFY.1 this;have Pe:h[k]? =some (some o2):=getD_some Pe;exact HR.dis i k o o2 p q x (by omega) h2 Pe h3 (hS.pl k q g2) h4 g3
 ·omega
theorem WQ (hF:Cv F P) {ops:Array Oper} (Av:CR ops=true) {Q:Exit -> Act -> World -> Prop}: ∀ (CT:List (List Nat×Nat)) (BJ tail:List Nat) {S:St} {ρ:List AI} {a:Act} {w:World} {Aa:BF} {S':St} {vs:List Prop} {B2:BF} {hb:DH} {ρb:List AI} {b:World},
 (tail.all fun t=>decide (t<ops.size))=true -> AT P Γ N S ρ a w -> Ci hb ρb b S.h ρ w -> Ao b w -> Lm P Γ ops hb CT BJ S Aa=some (S',vs,B2) -> Ba vs ->
 (∀ ρ' a' w',AT P Γ N S' ρ' a' w' -> Ci S.h ρ w S'.h ρ' w' -> a'.defers=a.defers -> wpListIn F 0 P ops Q (CG ops tail) a' w') -> Nw F 0 P ops Q b CT BJ tail a w
 | [],BJ,tail,S,ρ,a,w,Aa,S',vs,B2,hb,ρb,b,ht,R,_,_,h,hv,hQ=>by
  simp only [Lm] at h;split at h
  ·cases h
  ·rename_i S1 CL Jf h1;cases h;exact zAD ht (Rf _ R h1 hv fun a' e1 R' Ca=>hQ ρ a' w R' (by rw [←e1];exact Ci.refl _ _ _) Ca)
 | (Bl,i)::AW,BJ,tail,S,ρ,a,w,Aa,S',vs,B2,hb,ρb,b,ht,R,hS,hE,h,hv,hQ=>by
  have Dv: ∃ ρb',Ci (bh Bl hb S.h) ρb' (bw Bl b w) S.h ρ w/\ Ao (bw Bl b w) w:=by
   cases Bl with
   | nil=>exact ⟨ρb,hS,hE⟩
   | cons s0 ss=>exact ⟨ρ,Ci.refl _ _ _,Ao.refl w⟩
  obtain ⟨ρb',L3,lT⟩:=Dv;simp only [Lm] at h;split at h
  ·cases h
  ·rename_i S1 CL Jf h1;split at h
   ·cases h
   ·rename_i o ho;split at h
    ·rename_i S2 Dy Fm h2;split at h
     ·cases h
     ·rename_i S3 Mi KC h3;cases h;obtain ⟨B0,EE⟩:=Cu.1 hv;obtain ⟨B5,Hs⟩:=Cu.1 EE
      show wpQuiet _ _ _ _ _ _
      refine Rf _ R h1 B0 fun a' e1 R' Ca=>?_
      unfold wpOpIn;simp only [ho];have hk:V5 (bh Bl hb S.h) S1.h=true:=(mz (K:=fun _ _=>True) (Q:=fun _ _ _=>True) hF R' h2 B5 fun _ _ _ _ _ _ _=>trivial).1;refine (mz hF R' h2 B5 fun ρ'' GS CK EZ C4 IU hu=>?_).2;rw [e1] at C4 hk;have hx:Ao (bw Bl b w) CK:=uu R.hr L3 lT hk (by rw [e1] at hu;exact hu);exact ⟨hx,WQ hF Av AW BJ tail ht EZ (L3.trans C4) hx h3 Hs fun ρ3 a3 w3 R3 FT bG=>hQ ρ3 a3 w3 R3 (C4.trans FT) (bG.trans (IU.trans Ca))⟩
    ·split at h
     ·cases h
     ·rename_i S2 Dy ext Fm h2;split at h
      ·cases h
      ·split at h
       ·cases h
       ·rename_i S3 Mi KC h3;cases h;obtain ⟨B0,EE⟩:=Cu.1 hv;obtain ⟨B5,Hs⟩:=Cu.1 EE
        show wpQuiet _ _ _ _ _ _
        refine Rf _ R h1 B0 fun a' e1 R' Ca=>?_
        unfold wpOpIn;simp only [ho];refine ci hF R' (Ga Av ho) h2 B5 fun ρ'' GS CK EZ C4 IU JO=>?_
        rw [e1] at C4;have hx:Ao (bw Bl b w) CK:=lT.trans (JO rfl);exact ⟨hx,WQ hF Av AW BJ tail ht EZ (L3.trans C4) hx h3 Hs fun ρ3 a3 w3 R3 FT bG=>hQ ρ3 a3 w3 R3 (C4.trans FT) (bG.trans (IU.trans Ca))⟩
theorem xh (hF:Cv F P) {ops:Array Oper} (Av:CR ops=true) {Q:Exit -> Act -> World -> Prop} (CT:List (List Nat×Nat)) (BJ tail:List Nat) {S:St} {ρ:List AI} {a:Act} {w:World} {Aa:BF} {S':St} {vs:List Prop} {B2:BF} {hb:DH} {ρb:List AI} {b:World}
 (ht:(tail.all fun t=>decide (t<ops.size))=true) (R:AT P Γ N S ρ a w) (h1:Ci hb ρb b S.h ρ w) (h2:Ao b w) (h:hseq P Γ ops hb CT BJ tail S Aa=some (S',vs,B2)) (hv:Ba vs)
 (hQ: ∀ ρ' a' w',AT P Γ N S' ρ' a' w' -> Ci S.h ρ w S'.h ρ' w' -> a'.defers=a.defers -> Q .normal a' w'):Nw F 0 P ops Q b CT BJ tail a w:=by
 unfold hseq at h;split at h
 ·cases h
 rename_i S1 CL Ee g1;split at h
 ·cases h
 rename_i S2 Dy Fm g2;cases h;obtain ⟨B0,B5⟩:=Cu.1 hv;exact WQ hF Av CT BJ tail ht R h1 h2 g1 B0 fun ρ1 a1 w1 R1 DF HJ=>JV hF Av _ (PC tail) R1 g2 B5 fun ρ2 a2 w2 R2 Ir S7=>hQ ρ2 a2 w2 R2 (DF.trans Ir) (S7.trans HJ)
end
end Go.Proofs.YtkjbblkieglmlaaGreatDoor
namespace Go.Proofs.YtkjbblkieglmlaaGreatDoor
abbrev zEf:=@Nat.zero_le
abbrev zFa:=@Go.wpIn_seq
end Go.Proofs.YtkjbblkieglmlaaGreatDoor
namespace Go.Proofs.YtkjbblkieglmlaaGreatDoor
open Go.RowKit
def CA (L:Nat) (ρ ρ':List AI):Prop:=∀ (k:Nat) (p:AI),k<L -> ρ[k]? =some p -> ρ'[k]? =some p
theorem CA.refl (L:Nat) (ρ:List AI):CA L ρ ρ:=fun _ _ _ h=>h
theorem CA.trans {L:Nat} {a b c:List AI} (h:CA L a b) (k:CA L b c):CA L a c:=fun i p hi hp=>k i p hi (h i p hi hp)
structure Bd (F:Fence) (B:Option Nat) (w:World):Prop where
 le: ∀ b,B=some b -> b<=w.heap.size
 rd: ∀ l,F.round=some l -> ∃ r,w.heap[l]? =some (.loop r)
theorem Bd.step {P:Program} {Γ:Aq} {N:Nat -> Prop} {h h':DH} {ρ ρ':List AI} {F:Fence} {B:Option Nat} {w w':World} (b:Bd F B w) (H:A1 P Γ N h ρ w) (st:A6 h ρ w h' ρ' w'):Bd F B w':=
 ⟨fun x e=>zAk (b.le x e) st.upd.size,fun l hl=>by
  obtain ⟨r,hr⟩:=b.rd l hl;refine ⟨r,(st.upd.block l (zAJ.1 hr).1 ?_).trans hr⟩;rintro ⟨k,o,p,h1,h2,h3⟩;obtain ⟨_,_,c,t,z,h4⟩:=H.cel k o p l h1 h2 h3;rw [hr] at h4;cases h4;cases t⟩
theorem Bd.wide {B:Nat} {w:World} (h:B<=w.heap.size):Bd Fence.wide (some B) w:=⟨fun b e=>by cases e;exact h,fun l hl=>by cases hl⟩
theorem Bd.none {w:World}:Bd Fence.wide none w:=⟨fun b e=>(by cases e),fun l hl=>by cases hl⟩
def Ku:Option Nat -> List Deferred -> World -> Prop
 | none,ds,_=>ds= []
 | some B,ds,w=>Eb B ds w
structure BR (P:Program) (Γ:Aq) (L:Nat) where
 I:(Nat -> Prop) -> DH -> List AI -> World -> Prop
 st: ∀ {N:Nat -> Prop} {h:DH} {ρ:List AI} {w:World} {h':DH} {ρ':List AI} {w':World},I N h ρ w -> A1 P Γ N h ρ w -> A1 P Γ N h' ρ' w' -> A6 h ρ w h' ρ' w' -> CA L ρ ρ' -> I N h' ρ' w'
def Ou (P:Program) (Γ:Aq) (L:Nat) (N0:Nat -> Prop) (h0:DH) (ρ0:List AI) (w0:World):BR P Γ L where
 I:=fun N h ρ w=>N=N0/\ A6 h0 ρ0 w0 h ρ w/\ CA L ρ0 ρ
 st:=fun ⟨e,s,k⟩ _ _ st k'=>⟨e,s.trans st,k.trans k'⟩
abbrev QY (P:Program) (Γ:Aq) (L:Nat):=Exit -> St -> BR P Γ L -> Prop
def QE {P:Program} {Γ:Aq} {L:Nat} (Q:QY P Γ L):Exit -> St -> BR P Γ L -> Prop
 | .outgrown,_,_=>False
 | e,S,Y=>Q e S Y
def Tr (P:Program) (Γ:Aq) (F:Fence) (B:Option Nat) (L:Nat) (Y:BR P Γ L) (c:Code) (S:St) (Q:QY P Γ L):Prop:=
 ∀ N ρ a w,AT P Γ N S ρ a w -> Y.I N S.h ρ w -> Ku B a.defers w -> Bd F B w ->
  c.wpIn F 0 P (fun e a' w'=>∃ S' ρ' N' Y',QE Q e S' Y'/\ AT P Γ N' S' ρ' a' w'/\ Y'.I N' S'.h ρ' w'/\ Ku B a'.defers w'/\ Bd F B w') a w
def Ay (L:Nat) (S S':St):Prop:=∀ P Γ N ρ a w,AT P Γ N S ρ a w -> ∃ ρ',AT P Γ N S' ρ' a w/\ A6 S.h ρ w S'.h ρ' w/\ CA L ρ ρ'
theorem Ay.refl (L:Nat) (S:St):Ay L S S:=fun _ _ _ ρ _ _ R=>⟨ρ,R,A6.refl _ _ _,CA.refl _ _⟩
theorem Ay.trans {L:Nat} {A B C:St} (h:Ay L A B) (k:Ay L B C):Ay L A C:=fun P Γ N ρ a w R=>by
 obtain ⟨ρ1,R1,s1,k1⟩:=h P Γ N ρ a w R;obtain ⟨ρ2,R2,s2,k2⟩:=k P Γ N ρ1 a w R1;exact ⟨ρ2,R2,s1.trans s2,k1.trans k2⟩
section
variable {P:Program} {Γ:Aq} {N:Nat -> Prop} {S:St} {F:Fence} {B:Option Nat} {L:Nat} {Y:BR P Γ L} {Q Q':QY P Γ L}
theorem QE.mono (h: ∀ e S Y,Q e S Y -> Q' e S Y) {e:Exit} {S:St} (hq:QE Q e S Y):QE Q' e S Y:=by
 cases e <;> first | exact hq | exact h _ _ _ hq
theorem Tr.mono {c:Code} (h:Tr P Γ F B L Y c S Q) (hq: ∀ e S Y,Q e S Y -> Q' e S Y):Tr P Γ F B L Y c S Q':=fun N ρ a w R y m b=>
 zEh (h N ρ a w R y m b) fun _ _ _ ⟨S',ρ',N',Y',h1,h2⟩=>⟨S',ρ',N',Y',h1.mono hq,h2⟩
theorem Tr.weaken {c:Code} {S':St} (hS:Ay L S S') (h:Tr P Γ F B L Y c S' Q):Tr P Γ F B L Y c S Q:=fun N ρ a w R y m b=>by
 obtain ⟨ρ1,R1,s1,k1⟩:=hS P Γ N ρ a w R;exact h N ρ1 a w R1 (Y.st y R.hr R1.hr s1 k1) m b
theorem SJ {ρ ρ':List AI} {h':DH} {ds:List Deferred} {w w':World} (H:A1 P Γ N S.h ρ w) (st:A6 S.h ρ w h' ρ' w') (m:Ku B ds w):Ku B ds w':=by
 cases B with
 | none=>exact m
 | some B=>
 refine Eb.upd st.upd m fun k _ hk e=>?_
 obtain ⟨i,o,p,h1,h2,h3⟩:=hk;obtain ⟨_,_,c,t,z,h4⟩:=H.cel i o p k h1 h2 h3;rw [h4] at e;cases e;cases t
theorem Tr.skip (h:Q .normal S Y):Tr P Γ F B L Y .skip S Q:=fun N ρ _ _ R y m b=>wpIn_skip ⟨S,ρ,N,Y,h,R,y,m,b⟩
theorem Tr.ret (h:Q .ret S Y):Tr P Γ F B L Y .ret S Q:=fun N ρ _ _ R y m b=>wpIn_ret ⟨S,ρ,N,Y,h,R,y,m,b⟩
theorem Tr.exit {id:Nat} (h:Q (.exit id) S Y):Tr P Γ F B L Y (.exit id) S Q:=fun N ρ _ _ R y m b=>wpIn_exit ⟨S,ρ,N,Y,h,R,y,m,b⟩
def Qg (K:St -> BR P Γ L -> Prop) (Q:QY P Γ L):QY P Γ L
 | .normal,S,Y=>K S Y
 | e,S,Y=>Q e S Y
theorem Tr.seq {x y:Code} (h:Tr P Γ F B L Y x S (Qg (fun S' Y'=>Tr P Γ F B L Y' y S' Q) Q)):Tr P Γ F B L Y (.seq x y) S Q:=fun N ρ a w R y m b=>by
 refine zFa (zEh (h N ρ a w R y m b) ?_);rintro e a' w' ⟨S',ρ',N',Y',h1,h2,h3,h4,h5⟩;cases e with
 | normal=>exact h1 N' ρ' a' w' h2 h3 h4 h5
 | ret=>exact ⟨S',ρ',N',Y',h1,h2,h3,h4,h5⟩
 | exit id=>exact ⟨S',ρ',N',Y',h1,h2,h3,h4,h5⟩
 | goto t=>exact ⟨S',ρ',N',Y',h1,h2,h3,h4,h5⟩
 | panic c=>exact ⟨S',ρ',N',Y',h1,h2,h3,h4,h5⟩
 | outgrown=>exact h1.elim
theorem Tr.cond {c:Operand} {x y:Code} {b:Bool} (hc:AX S.fr c= .bool b) (h1:b=true -> Tr P Γ F B L Y x S Q) (h2:b=false -> Tr P Γ F B L Y y S Q):Tr P Γ F B L Y (.cond c x y) S Q:=fun N ρ a w R y m bb=>by
 have hr:=Bh R c;rw [hc] at hr;refine wpIn_cond (t:=b) hr ?_;cases b
 ·exact h2 rfl N ρ a w R y m bb
 ·exact h1 rfl N ρ a w R y m bb
theorem n6 {F:Fence} {n:Nat} {P:Program} {Q:Exit -> Act -> World -> Prop} {a:Act} {w:World} {c:Code} (h:c.wpIn F n P (Exit.noGoto Q) a w):(Code.scope c).wpIn F n P Q a w:=by
 intro b k cs xk hb hr;have h0:(lone (b.atR a (.code (.scope c)::k)) cs w).fenced P F:=fenced_calm hb hr rfl;have s0:step P (lone (b.atR a (.code (.scope c)::k)) cs w)= .next (lone (b.atR a (.code c:: .inScope c::k)) cs w):=step_lone_go (by simp [stepG,stepG.exec,Frame.atR]);obtain ⟨e,a₁,w₁,hq,Pp⟩:=h b (.inScope c::k) cs xk hb hr;have s1:step P (lone (b.atR a₁ (.inScope c::k)) cs w₁)= .next (lone (b.atR a₁ k) cs w₁):=step_lone_go (by simp [stepG,stepG.exec,Frame.atR]);cases e with
 | normal=>exact ⟨.normal,a₁,w₁,hq,.head h0 s0 (StepsIn.trans Pp (.one (fenced_calm hb hr rfl) s1))⟩
 | exit id=>exact ⟨.exit id,a₁,w₁,hq,fun k' hk=>.head h0 s0 (Pp.1 k' hk),fun Cs hk=>let ⟨k₁,h1,h2⟩:=Pp.2 Cs hk;⟨k₁,h1,.head h0 s0 h2⟩⟩
 | goto l=>exact hq.elim
 | ret=>exact ⟨_,a₁,w₁,hq,.of_steps (.one h0 s0) Pp⟩
 | panic ch=>exact ⟨_,a₁,w₁,hq,.of_steps (.one h0 s0) Pp⟩
 | outgrown=>exact ⟨_,a₁,w₁,hq,.of_steps (.one h0 s0) Pp⟩
def ur (Q:QY P Γ L):QY P Γ L
 | .goto _,_,_=>False
 | e,S,Y=>Q e S Y
theorem Tr.scope {c:Code} (h:Tr P Γ F B L Y c S (ur Q)):Tr P Γ F B L Y (.scope c) S Q:=fun N ρ a w R y m b=>by
 refine n6 (zEh (h N ρ a w R y m b) ?_);rintro e a' w' ⟨S',ρ',N',Y',h1,h2⟩;cases e with
 | goto l=>exact h1.elim
 | _=>exact ⟨S',ρ',N',Y',h1,h2⟩
theorem Tr.label {l:Nat} (h:Q .normal S Y):Tr P Γ F B L Y (.label l) S Q:=fun N ρ a w R y m b=>wpIn_label ⟨S,ρ,N,Y,h,R,y,m,b⟩
def zC0 (id:Nat) (Q:QY P Γ L):QY P Γ L
 | .exit i,S,Y=>if i=id then Q .normal S Y else Q (.exit i) S Y
 | e,S,Y=>Q e S Y
theorem Tr.block {id:Nat} {c:Code} (h:Tr P Γ F B L Y c S (zC0 id Q)):Tr P Γ F B L Y (.block id c) S Q:=fun N ρ a w R y m b=>by
 refine wpIn_block (zEh (h N ρ a w R y m b) ?_);rintro e a' w' ⟨S',ρ',N',Y',h1,h2⟩;cases e with
 | exit i=>
  show if i=id then _ else _
  by_cases e:i=id
  ·rw [zAB e];have h1:(if i=id then Q .normal S' Y' else Q (.exit i) S' Y'):=h1;rw [zAB e] at h1;exact ⟨S',ρ',N',Y',h1,h2⟩
  ·rw [zAZ e];have h1:(if i=id then Q .normal S' Y' else Q (.exit i) S' Y'):=h1;rw [zAZ e] at h1;exact ⟨S',ρ',N',Y',h1,h2⟩
 | normal=>exact ⟨S',ρ',N',Y',h1,h2⟩
 | ret=>exact ⟨S',ρ',N',Y',h1,h2⟩
 | goto t=>exact ⟨S',ρ',N',Y',h1,h2⟩
 | panic c=>exact ⟨S',ρ',N',Y',h1,h2⟩
 | outgrown=>exact h1.elim
theorem Tr.loop {c:Code} (I:Nat -> St -> BR P Γ L -> Prop) (n:Nat) (h0:I n S Y) (h: ∀ n S Y,I n S Y -> Tr P Γ F B L Y c S (Qg (fun S' Y'=>∃ n',n'<n/\ I n' S' Y') Q)):Tr P Γ F B L Y (.loop c) S Q:=fun N ρ a w R y m b=>by
 refine wpIn_loop_ghost (fun k a' w'=>∃ S' ρ' N' Y',I k S' Y'/\ AT P Γ N' S' ρ' a' w'/\ Y'.I N' S'.h ρ' w'/\ Ku B a'.defers w'/\ Bd F B w') n ⟨S,ρ,N,Y,h0,R,y,m,b⟩ ?_;rintro k a' w' ⟨S',ρ',N',Y',h1,h2,h3,h4,h5⟩;refine zEh (h k S' Y' h1 N' ρ' a' w' h2 h3 h4 h5) ?_;rintro e a2 w2 ⟨S2,ρ2,N2,Y2,g1,g2,g3,g4,g5⟩;cases e with
 | normal=>
  obtain ⟨n',AN,hI⟩:=g1;exact ⟨n',AN,S2,ρ2,N2,Y2,hI,g2,g3,g4,g5⟩
 | ret=>exact ⟨S2,ρ2,N2,Y2,g1,g2,g3,g4,g5⟩
 | exit id=>exact ⟨S2,ρ2,N2,Y2,g1,g2,g3,g4,g5⟩
 | goto t=>exact ⟨S2,ρ2,N2,Y2,g1,g2,g3,g4,g5⟩
 | panic c=>exact ⟨S2,ρ2,N2,Y2,g1,g2,g3,g4,g5⟩
 | outgrown=>exact g1.elim
theorem AT.ext {ρ:List AI} {a:Act} {w w':World} (R:AT P Γ N S ρ a w) (hE:Ao w w'):AT P Γ N S ρ a w':=⟨R.hr.ext hE,R.fr.out (BU.ext ρ hE)⟩
theorem Tr.done {S':St} {e:Exit} {ρ ρ':List AI} {a a':Act} {w w':World} (R:AT P Γ N S ρ a w) (y:Y.I N S.h ρ w) (m:Ku B a.defers w) (b:Bd F B w) (hk:QE Q e S' Y) (R':AT P Γ N S' ρ' a' w') (st:A6 S.h ρ w S'.h ρ' w') (Ss:CA L ρ ρ') (Ca:a'.defers=a.defers):
 ∃ S' ρ' N' Y',QE Q e S' Y'/\ AT P Γ N' S' ρ' a' w'/\ Y'.I N' S'.h ρ' w'/\ Ku B a'.defers w'/\ Bd F B w':=
 ⟨S',ρ',N,Y,hk,R',Y.st y R.hr R'.hr st Ss,by rw [Ca];exact SJ R.hr st m,b.step R.hr st⟩
theorem Ay.fr {fr Gi:List DV} {h:DH} (hl:Gi.length=fr.length) (hd: ∀ i,i<fr.length -> AS (fr.getD i .any) (Gi.getD i .any)):Ay L ⟨fr,h⟩ ⟨Gi,h⟩:=fun P Γ N ρ a w R=>
 ⟨ρ,⟨R.hr,⟨by rw [hl];exact R.fr.1,fun i hi=>hd i (by rw [←hl];exact hi) _ _ _ _ (R.fr.2 i (by rw [←hl];exact hi))⟩⟩,A6.refl _ _ _,CA.refl _ _⟩
theorem AS.refl (d:DV):AS d d:=fun _ _ _ _ h=>h
theorem AS.any (d:DV):AS d .any:=fun _ _ _ _ _=>trivial
theorem AS.int {k:IntKind} {a b:Int} (h:a=b):AS (.int k a) (.int k b):=by rw [h];exact AS.refl _
theorem AS.bool {a b:Bool} (h:a=b):AS (.bool a) (.bool b):=by rw [h];exact AS.refl _
theorem AS.ints_nil:AS .nils (.ints []):=fun M w ρ v h=>⟨none,0,h,zAm _,zEf _,fun j hj=>absurd hj (zAf j)⟩
theorem AS.sl_nil (m:Nat) (f:Nat -> Nat -> DV):AS .nils (.sl m 0 f):=fun M w ρ v h=>⟨none,0,h,zAm _,zEf _,fun i j hi=>absurd hi (zAf i)⟩
def forget (live:List Nat) (fr:List DV):List DV:=(fr.zipIdx).map fun x=>if live.contains x.2 then x.1 else .any
theorem TQ (live:List Nat) (fr:List DV):(forget live fr).length=fr.length:=by simp [forget]
theorem bk (live:List Nat) (fr:List DV) {i:Nat} (hi:i<fr.length):(forget live fr).getD i .any=if live.contains i then fr.getD i .any else .any:=by
 simp [forget,hi]
theorem Ay.forget (live:List Nat) (fr:List DV) (h:DH):Ay L ⟨fr,h⟩ ⟨forget live fr,h⟩:=Ay.fr (TQ _ _) fun i hi=>by
 rw [bk live fr hi];split
 ·exact AS.refl _
 ·exact AS.any _
def D0:List Nat -> Nat -> Option Nat
 | [],_=>none
 | x::σ,k=>if x=k then some 0 else (D0 σ k).map (· +1)
def ET (σ:List Nat):DV -> DV
 | .ref k j=>match D0 σ k with
  | some k'=>.ref k' j
  | none=>.any
 | .mse k m off n=>match D0 σ k with
  | some k'=>.mse k' m off n
  | none=>.any
 | .mri k i=>match D0 σ k with
  | some k'=>.mri k' i
  | none=>.any
 | .msl k m off n=>match D0 σ k with
  | some k'=>.msl k' m off n
  | none=>.any
 | .mp k m i j=>match D0 σ k with
  | some k'=>.mp k' m i j
  | none=>.any
 | .it k=>match D0 σ k with
  | some k'=>.it k'
  | none=>.any
 | .agg m f=>.agg m fun j=>((List.range m).map fun i=>ET σ (f i)).getD j .any
 | .tup m f=>.tup m fun j=>((List.range m).map fun i=>ET σ (f i)).getD j .any
 | .fn g m c=>.fn g m fun j=>((List.range m).map fun i=>ET σ (c i)).getD j .any
 | d=>d
def Ra (σ:List Nat):Option DO -> Option DO
 | some (.cells l)=>some (.cells (l.map (ET σ)))
 | some (.ro l)=>some (.ro (l.map (ET σ)))
 | o=>o
def E1 (σ:List Nat) (S:St):St:=⟨S.fr.map (ET σ),σ.map fun k=>Ra σ (S.h.getD k none)⟩
theorem J5: ∀ {σ:List Nat} {k k':Nat},D0 σ k=some k' -> σ[k']? =some k
 | [],_,_,h=>by cases h
 | x::σ,k,k',h=>by
  unfold D0 at h;split at h
  ·rename_i e;cases h;subst e;rfl
  ·cases hr:D0 σ k with
   | none=>rw [hr] at h;cases h
   | some i=>
    rw [hr] at h;have e:k'=i+1:=(zAU h).symm;subst e;have:=J5 hr;simpa using this
theorem tQ {f:Nat -> DV} {m j:Nat} (hj:j<m):((List.range m).map f).getD j .any=f j:=by simp [hj]
theorem Y9 {M:Nat -> Prop} {w:World} {ρ:List AI} {f:Nat -> DV} {m j:Nat} {u:Value} (hj:j<m) (h:AM M w (f j) ρ u):AM M w (((List.range m).map f).getD j .any) ρ u:=by rw [tQ hj];exact h
theorem s3 {M M':Nat -> Prop} {w:World} {σ:List Nat} {ρ ρ':List AI} (hM: ∀ b,M' b -> M b) (hρ: ∀ (k k':Nat) (p:AI),σ[k']? =some k -> ρ[k]? =some p -> ρ'[k']? =some p): ∀ (d:DV) {v:Value},AM M w d ρ v -> AM M' w (ET σ d) ρ' v:=by
 have low: ∀ (d:DV) {v:Value},AM M w d [] v -> AM M' w d [] v:=fun d v h=>h.out d ⟨fun _ _ _ _=>rfl,fun b hb=>.inl (hM b hb),fun k p hk=>by simp at hk⟩
 intro d
 induction d with
 | any=>intro v _;trivial
 | nils=>intro v h;exact h
 | int k n=>intro v h;exact h
 | bool b=>intro v h;exact h
 | str s=>intro v h;exact h
 | ints l=>intro v h;exact low (.ints l) h
 | bools l=>intro v h;exact low (.bools l) h
 | sl m n f _=>intro v h;exact low (.sl m n f) h
 | fp m f _=>intro v h;exact low (.fp m f) h
 | agg m f ih=>
  rintro v ⟨cs,e,hs,h⟩;exact ⟨cs,e,hs,fun j hj=>let ⟨u,h1,h2⟩:=h j hj;⟨u,h1,Y9 hj (ih j h2)⟩⟩
 | tup m f ih=>
  rintro v ⟨cs,e,hs,h⟩;exact ⟨cs,e,hs,fun j hj=>let ⟨u,h1,h2⟩:=h j hj;⟨u,h1,Y9 hj (ih j h2)⟩⟩
 | fn g m c ih=>
  rintro v ⟨cs,e,hs,h⟩;exact ⟨cs,e,hs,fun j hj=>let ⟨u,h1,h2⟩:=h j hj;⟨u,h1,Y9 hj (ih j h2)⟩⟩
 | ref k j=>
  rintro v ⟨p,hp,e⟩;simp only [ET];cases hk:D0 σ k with
  | none=>trivial
  | some k'=>exact ⟨p,hρ k k' p (J5 hk) hp,e⟩
 | msl k m off n=>
  rintro v ⟨p,cap,hp,r⟩;simp only [ET];cases hk:D0 σ k with
  | none=>trivial
  | some k'=>exact ⟨p,cap,hρ k k' p (J5 hk) hp,r⟩
 | mp k m i j=>
  rintro v ⟨p,hp,e⟩;simp only [ET];cases hk:D0 σ k with
  | none=>trivial
  | some k'=>exact ⟨p,hρ k k' p (J5 hk) hp,e⟩
 | yl l=>intro v h;exact h
 | cst u=>intro v h;exact h
 | mse k m off n=>
  rintro v ⟨p,a,cap,hp,r⟩;simp only [ET];cases hk:D0 σ k with
  | none=>trivial
  | some k'=>exact ⟨p,a,cap,hρ k k' p (J5 hk) hp,r⟩
 | mri k i=>
  rintro v ⟨p,vs,hp,r⟩;simp only [ET];cases hk:D0 σ k with
  | none=>trivial
  | some k'=>exact ⟨p,vs,hρ k k' p (J5 hk) hp,r⟩
 | it k=>
  rintro v ⟨p,hp,e⟩;simp only [ET];cases hk:D0 σ k with
  | none=>trivial
  | some k'=>exact ⟨p,hρ k k' p (J5 hk) hp,e⟩
def i6:AI:=⟨0,0,0,undef,fun _=>False⟩
theorem Ay.compact (σ:List Nat) (S:St) (h1:σ.Nodup) (h2: ∀ k∈σ,k<S.h.length) (h3: ∀ k,k<L -> σ[k]? =some k):Ay L S (E1 σ S):=fun P Γ N ρ a w R=>by
 obtain ⟨ρ',KR⟩: ∃ ρ',ρ'=σ.map fun k=>ρ.getD k i6:=⟨_,rfl⟩
 have IZ: ∀ {k':Nat} {p:AI},ρ'[k']? =some p -> ∃ k,σ[k']? =some k/\ ρ[k]? =some p:=fun {k' p} h=>by
  rw [KR,zA1] at h;cases hk:σ[k']? with
  | none=>rw [hk] at h;cases h
  | some k=>
   rw [hk] at h;have AN:k<ρ.length:=by rw [R.hr.len];exact h2 k (zDz hk)
   refine ⟨k,rfl,?_⟩;simp [AN] at h;simp [AN,h]
 have put: ∀ (k k':Nat) (p:AI),σ[k']? =some k -> ρ[k]? =some p -> ρ'[k']? =some p:=fun k k' p hk hp=>by
  rw [KR,zA1,hk];simp [u8,hp]
 have GN: ∀ {k':Nat} {o':DO},(E1 σ S).h[k']? =some (some o') -> ∃ k o,σ[k']? =some k/\ S.h[k]? =some (some o)/\ Ra σ (some o)=some o':=fun {k' o'} h=>by
  show ∃ k o,_
  have h:(σ.map fun k=>Ra σ (S.h.getD k none))[k']? =some (some o'):=h;rw [zA1] at h;cases hk:σ[k']? with
  | none=>rw [hk] at h;cases h
  | some k=>
   rw [hk] at h;have AN:k<S.h.length:=h2 k (zDz hk);have h:Ra σ (S.h.getD k none)=some o':=zAU h;have e:S.h.getD k none=S.h[k]:=by simp [AN]
   rw [e] at h;cases ho:S.h[k] with
   | none=>rw [ho] at h;cases h
   | some o=>rw [ho] at h;exact ⟨k,o,rfl,by simp [AN,ho],h⟩
 have hM: ∀ b,MO (E1 σ S).h ρ' b -> MO S.h ρ b:=by
  rintro b ⟨k',o',p,g1,g2,g3⟩;obtain ⟨k,o,e1,e2,_⟩:=GN g1;obtain ⟨k2,e3,e4⟩:=IZ g2;have:k2=k:=zAU (e3.symm.trans e1);subst this;exact ⟨k2,o,p,e2,e4,g3⟩
 have Wl: ∀ b,MS N (E1 σ S).h ρ' b -> MS N S.h ρ b:=fun b hb=>hb.imp id (hM b)
 have O:BU (MS N S.h ρ) w [] (MS N (E1 σ S).h ρ') w []:=⟨fun _ _ _ _=>rfl,fun b hb=>.inl (Wl b hb),fun k p hk=>by simp at hk⟩;have low: ∀ (d:DV) {v:Value},AM (MS N S.h ρ) w d ρ v -> AM (MS N (E1 σ S).h ρ') w (ET σ d) ρ' v:=fun d v h=>s3 Wl put d h
 refine ⟨ρ',⟨⟨by simp [KR,E1],fun k' o' BX=>?_,fun k' o' p b g1 g2 g3=>?_,fun i i' o1 o2 p1 p2 b Ak g1 g2 g3 g4 g5 g6=>?_,R.hr.nlt,R.hr.gi⟩,⟨by simp [E1,R.fr.1],fun i hi=>?_⟩⟩,⟨AP.refl _ w,fun b hb=>.inl (hM b hb)⟩,fun k p hk hp=>put k k p (h3 k hk) hp⟩
 ·obtain ⟨k,o,e1,e2,e3⟩:=GN BX;obtain ⟨p,hp,hr⟩:=R.hr.obj k o e2;refine ⟨p,put k k' p e1 hp,?_⟩;cases o with
  | cells l=>
   cases e3
   show AZ w p (l.map (ET σ)).length _
   rw [zAn];refine AZ.out hr rfl fun j u hj hu=>?_
   have:(l.map (ET σ)).getD j .any=ET σ (l.getD j .any):=by simp [hj]
   rw [this];exact low _ hu
  | ints l=>cases e3;exact AZ.out hr rfl fun j u _ hu=>hu
  | bools l=>cases e3;exact AZ.out hr rfl fun j u _ hu=>hu
  | arr m n f=>cases e3;exact AZ.out hr rfl fun j u _ hu=>AM.out _ O hu
  | iter encs=>
   cases e3;obtain ⟨gf,lb,Rd,q1,q2,q3,q4⟩:=hr;exact ⟨gf,lb,Rd,q1,q2,fun b hb=>⟨fun hm=>(q3 b hb).1 (Wl b hm),(q3 b hb).2⟩,q4⟩
  | ro l=>
   cases e3;obtain ⟨r1,r2,r3⟩:=hr;refine ⟨r1,fun hm=>r2 (Wl _ hm),?_⟩
   show AZ w _ (l.map (ET σ)).length _
   rw [zAn];refine AZ.out r3 rfl fun j u hj hu=>?_
   have:(l.map (ET σ)).getD j .any=(ET σ) (l.getD j .any):=by simp [hj]
   rw [this];exact low _ hu
  | mo x=>cases e3;exact hr
 ·obtain ⟨k,o,e1,e2,_⟩:=GN g1;obtain ⟨k2,e3,e4⟩:=IZ g2;have:k2=k:=zAU (e3.symm.trans e1);subst this;exact R.hr.cel k2 o p b e2 e4 g3
 ·obtain ⟨k,o,e1,e2,_⟩:=GN g1;obtain ⟨k2,o2,e3,e4,_⟩:=GN g2;obtain ⟨k3,e5,e6⟩:=IZ g3;obtain ⟨k4,e7,e8⟩:=IZ g4;have:k3=k:=zAU (e5.symm.trans e1);subst this;have:k4=k2:=zAU (e7.symm.trans e3);subst this;refine R.hr.dis k3 k4 o o2 p1 p2 b (fun e=>Ak ?_) e2 e4 e6 e8 g5 g6;subst e;exact (List.getElem?_inj (zAV.1 e5).1 h1).1 (e5.trans e7.symm)
 ·have BP:i<S.fr.length:=by simpa [E1] using hi
  have:(E1 σ S).fr.getD i .any=ET σ (S.fr.getD i .any):=by simp [E1,BP]
  rw [this];exact low _ (R.fr.2 i BP)
end
end Go.Proofs.YtkjbblkieglmlaaGreatDoor
namespace Go.Proofs.YtkjbblkieglmlaaGreatDoor
open Go.RowKit
def gu (P:Program) (S:St):ResultVar -> Option DV
 | .tmp t=>some (S.fr.getD t .any)
 | .cell x t=>match S.fr.getD x .any with
  | .ref k j=>match NV P S t (.ref k j) with
   | some (d,_)=>some d
   | none=>none
  | _=>none
def LU (P:Program) (S:St):List ResultVar -> Option (List DV)
 | []=>some []
 | r::rs=>match gu P S r with
  | some d=>match LU P S rs with
   | some ds=>some (d::ds)
   | none=>none
  | none=>none
def Gz:List DV -> DV
 | [d]=>d
 | ds=>.tup ds.length fun j=>ds.getD j .any
section
variable {P:Program} {Γ:Aq} {N:Nat -> Prop} {S:St} {ρ:List AI} {a:Act} {w:World}
theorem vO {t:TypeId} {k j:Nat} {d:DV} {vc:Prop} (h:NV P S t (.ref k j)=some (d,vc)):vc:=by
 unfold NV at h
 repeat' (split at h)
 all_goals first | (cases h;trivial) | (cases h;done) | (simp_all;done)
def VE (tmps:Array Value):ResultVar -> Sem Value
 | .tmp t=>pure (tmps.getD t undef)
 | .cell x t=>do loadVar t (←asAddr (tmps.getD x undef))
theorem gv (R:AT P Γ N S ρ a w): ∀ (rs:List ResultVar) (ds:List DV),LU P S rs=some ds -> ∃ vs:List Value,(rs.mapM (VE a.tmps)).run P w= .ok vs w/\ vs.length=ds.length/\ ∀ i,i<ds.length -> AM (MS N S.h ρ) w (ds.getD i .any) ρ (vs.getD i undef)
 | [],ds,h=>by
  cases h;exact ⟨[],rfl,rfl,fun i hi=>absurd hi (zAf i)⟩
 | r::rs,ds,h=>by
  simp only [LU] at h;split at h
  ·rename_i d hd;split at h
   ·rename_i mS D7;cases h;obtain ⟨vs,h1,h2,h3⟩:=gv R rs mS D7
    obtain ⟨v,g1,g2⟩: ∃ v,(VE a.tmps r).run P w= .ok v w/\ AM (MS N S.h ρ) w d ρ v:=by
     unfold gu at hd;split at hd
     ·cases hd;exact ⟨_,rfl,R.fr.at _⟩
     ·rename_i x t;split at hd
      ·rename_i k j e;split at hd
       ·rename_i d' vc hl;cases hd;have hx:=R.fr.at x;rw [e] at hx;obtain ⟨v,q1,q2⟩:=jN R hx hl (vO hl);obtain ⟨p,hp,hv⟩:=hx;have q:=q1 w (Keep.ofExt (Ao.refl w));rw [hv,Yt] at q;refine ⟨v,?_,q2⟩
        show (do loadVar t (←asAddr (a.tmps.getD x undef)):Sem Value).run P w=_
        rw [hv];exact q
       ·cases hd
      ·cases hd
    refine ⟨v::vs,?_,by simp [h2],fun i hi=>?_⟩
    ·rw [List.mapM_cons,zAg,g1];simp only [Result.andThen,zAg,h1,zFR]
    ·cases i with
     | zero=>exact g2
     | succ i=>exact h3 i (by simpa using hi)
   ·cases h
  ·cases h
theorem VC (R:AT P Γ N S ρ a w) {fn:Func} {ds:List DV} (h:LU P S fn.results.toList=some ds): ∃ v,(results fn a.tmps).run P w= .ok v w/\ AM (MS N S.h ρ) w (Gz ds) ρ v:=by
 obtain ⟨vs,h1,h2,h3⟩:=gv R _ _ h
 have hm:(fn.results.mapM (VE a.tmps)).run P w= .ok vs.toArray w:=by
  rw [Array.mapM_eq_mapM_toList,←bind_pure_comp,zAg,h1];rfl
 have WS:(results fn a.tmps).run P w= .ok (if h:vs.toArray.size=1 then vs.toArray[0] else .tuple vs.toArray) w:=by
  show (do let vs←fn.results.mapM (VE a.tmps);pure (if h:vs.size=1 then vs[0] else .tuple vs):Sem Value).run P w=_
  rw [zAg,hm];rfl
 refine ⟨_,WS,?_⟩
 match ds,vs,h2,h3 with
 | [],[],_,_=>exact ⟨#[],rfl,rfl,fun j hj=>absurd hj (zAf j)⟩
 | [d],[v],_,h3=>exact h3 0 (by simp)
 | d::d'::ds,v::v'::vs,h2,h3=>
  have: ¬ ((v::v'::vs).toArray.size=1):=by simp
  rw [dif_neg this];refine ⟨_,rfl,by simpa using h2,fun j hj=>?_⟩;have BT:j<(v::v'::vs).length:=by rw [h2];exact hj
  exact ⟨(v::v'::vs).getD j undef,by simp only [zFr,u8,zAQ BT];rfl,h3 j hj⟩
def SG (h:DH):Prop:=∀ (k:Nat) (encs:List (List DV)),h[k]? ≠some (some (.iter encs))
theorem AT.shut (R:AT P Γ N S ρ a w) (hi:SG S.h) {B:Nat} (hB:Γ.ng<=B) {W:World} (hs:OX B w W):AT P Γ N S ρ a W:=by
 have nc: ∀ {b:Nat},Da w b -> W.heap[b]? =w.heap[b]? :=fun {b} ⟨c,t,z,h⟩=>
  hs.block b (zAJ.1 h).1 fun hx=>by rw [h] at hx;cases hx.2;cases t
 have O:BU (MS N S.h ρ) w ρ (MS N S.h ρ) W ρ:=⟨fun b _ _ ⟨_,_,_,hc⟩=>nc (.cells hc),fun b h=>.inl h,fun _ _ h=>h⟩
 have hr: ∀ {p:AI} {n:Nat} {Rw:Nat -> Value -> Prop},AZ w p n Rw -> W.heap[p.blk]? =w.heap[p.blk]? :=fun {p n Rw} h=>by
  obtain ⟨_,cs,t,h2,_⟩:=h;exact nc (.cells h2)
 refine ⟨⟨R.hr.len,fun k o hk=>?_,fun k o p b h1 h2 h3=>?_,R.hr.dis,fun b hb=>⟨zAY (R.hr.nlt b hb).1 hs.size,(R.hr.nlt b hb).2⟩,Γ.st _ _ R.hr.gi (hs.mono fun i _ hx=>zAk hB hx.1)⟩,R.fr.out O⟩
 ·obtain ⟨p,hp,ho⟩:=R.hr.obj k o hk;refine ⟨p,hp,?_⟩;cases o with
  | cells l=>exact AZ.out ho (hr ho) fun j u _ hu=>AM.out _ O hu
  | ints l=>exact AZ.out ho (hr ho) fun j u _ hu=>hu
  | bools l=>exact AZ.out ho (hr ho) fun j u _ hu=>hu
  | arr m n f=>exact AZ.out ho (hr ho) fun j u _ hu=>AM.out _ O.nil hu
  | iter encs=>exact absurd hk (hi k encs)
  | ro l=>obtain ⟨r1,r2,r3⟩:=ho;exact ⟨r1,r2,AZ.out r3 (hr r3) fun j u _ hu=>AM.out _ O hu⟩
  | mo x=>exact Mb.out ho fun b hb AN=>nc (R.hr.cel k _ p b hk hp hb).2.2
 ·obtain ⟨g1,g2,c,t,z,g3⟩:=R.hr.cel k o p b h1 h2 h3;exact ⟨g1,g2,c,t,z,(nc ⟨c,t,z,g3⟩).trans g3⟩
theorem A6.shut {h0 h:DH} {ρ0 ρ:List AI} {w0 w W:World} (st:A6 h0 ρ0 w0 h ρ w) (hs:OX w0.heap.size w W):A6 h0 ρ0 w0 h ρ W:=
 ⟨st.upd.comp hs fun i hi hx=>absurd hx.1 (by omega),st.grow⟩
theorem BC.anys (M:Nat -> Prop) (w:World) (ρ:List AI) (n:Nat):BC M w ρ (List.replicate n .any) (Array.replicate n undef):=
 ⟨by simp,fun i hi=>by
  have:(List.replicate n DV.any).getD i .any= .any:=by
   rw [u8,zD7];split <;> rfl
  rw [this];trivial⟩
def H7 (d:DV):Prop:=∀ (M:Nat -> Prop) (w:World) (ρ:List AI) (v:Value),AM M w d ρ v -> AM M w d [] v
def zDm (L:Nat) (S:St) (rs:List DV) (d:DV) (h':DH):Prop:=
 (AS (Gz rs) d/\ S.h=h')∨(SG S.h/\ AS (Gz rs) d/\ H7 d/\ L<=S.h.length/\ (E1 (List.range L) S).h=h')
def DC (P:Program) (fn:Func) (L:Nat) (d:DV) (h':DH) (e:Exit) (S':St):Prop:=
 (e= .normal∨e= .ret)/\ ∃ CJ,Ay L S' CJ/\ ∃ rs,LU P CJ fn.results.toList=some rs/\ zDm L CJ rs d h'
theorem ES.of_tr {f:Nat} {fn:Func} {c:Code} {ds:List DV} {h:DH} {d:DV} {h':DH} {ext:Bool} (hf:P.funcs[f]? =some fn) (hb:fn.body=some c) (Ns:fn.name≠ "runtime.NumGoroutine") (So:SG h')
 (H: ∀ (B:Nat) (N:BR P Γ h.length),Tr P Γ Fence.wide (some B) h.length N c ⟨ds++List.replicate (fn.ntmps-ds.length) .any,h⟩ (fun e S Y=>Y=N/\ DC P fn h.length d h' e S)) (JO:ext=true -> h= []):ES P Γ f ds h d h' ext:=by
 refine ⟨⟨fn,hf,Ns,by rw [hb];rfl⟩,fun N ρ w args HR Ch=>?_⟩;refine zCs w.heap.size hf hb ?_;have Ap:ds.length=args.size:=Ch.1
 have R:AT P Γ N ⟨ds++List.replicate (fn.ntmps-ds.length) .any,h⟩ ρ { tmps:=args++Array.replicate (fn.ntmps-args.size) undef,defers:=[] } w:=
  ⟨HR,BC.append Ch (by rw [Ap];exact BC.anys _ _ _ _)⟩
 have:=H w.heap.size (Ou P Γ h.length N h ρ w) N ρ _ w R ⟨rfl,A6.refl _ _ _,CA.refl _ _⟩ trivial (Bd.wide (zAm _));refine wpIn_wide.1 (zEh this ?_);rintro e a' w' ⟨S',ρ',N',Y',h1,h2,h3,h4,h5⟩
 have key:Y'=Ou P Γ h.length N h ρ w -> DC P fn h.length d h' e S' -> Eb w.heap.size a'.defers w'/\ ∀ W,OX w.heap.size w' W -> ∃ v,(results fn a'.tmps).run P W= .ok v W/\ ∃ v',Ending.returned v= .returned v'/\ CW P Γ N h ρ w ext d h' v' W:=by
  rintro rfl ⟨_,CJ,DL,rs,Ln,hd | ⟨hi,hd,hn,hl,hh⟩⟩
  all_goals
   obtain ⟨e0,h3,h5⟩:=h3;have e0:=e0.symm;subst e0
  ·obtain ⟨hd,rfl⟩:=hd;refine ⟨h4,fun W hW=>?_⟩;obtain ⟨ρ'',EZ,Qp,NZ⟩:=DL P Γ N ρ' a' w' h2;have RW:=EZ.shut So (Γ.lo _ HR.gi) hW;obtain ⟨v,g1,g2⟩:=VC RW Ln;have st:A6 h ρ w CJ.h ρ'' W:=(h3.trans Qp).shut hW;refine ⟨v,g1,v,rfl,⟨⟨ρ'',RW.hr,hd _ _ _ _ g2,st,fun k p hp=>?_⟩,fun he=>?_⟩⟩
   ·have hk:k<h.length:=by rw [←HR.len];exact (zAV.1 hp).1
    exact NZ k p hk (h5 k p hk hp)
   ·have:=JO he;subst this;exact st.upd.toExt fun i _ ⟨k,o,p,q1,_⟩=>by simp at q1
  ·refine ⟨h4,fun W hW=>?_⟩;obtain ⟨ρ'',EZ,Qp,NZ⟩:=DL P Γ N ρ' a' w' h2;have RW:=EZ.shut hi (Γ.lo _ HR.gi) hW;obtain ⟨v,g1,g2⟩:=VC RW Ln;have st:A6 h ρ w CJ.h ρ'' W:=(h3.trans Qp).shut hW;obtain ⟨ρ3,R3,FT,k3⟩:=Ay.compact (L:=h.length) (List.range h.length) CJ List.nodup_range (fun k hk=>zAY (zAd.1 hk) hl) (fun k hk=>by simp [hk]) P Γ N ρ'' a' W RW;rw [hh] at FT;have Ma:=R3.hr;rw [hh] at Ma;refine ⟨v,g1,v,rfl,⟨⟨ρ3,Ma,?_,st.trans FT,fun k p hp=>?_⟩,fun he=>?_⟩⟩
   ·have r0:=hn _ _ _ _ (hd _ _ _ _ g2);have r1:AM (MS N h' ρ3) W d [] v:=AM.out _ ⟨fun _ _ _ _=>rfl,fun b hb=>hb.elim (fun hx=>.inl (.inl hx)) fun hx=>(FT.grow b hx).imp .inr id,fun _ _ hx=>by simp at hx⟩ r0;exact AM.out _ ⟨fun _ _ _ _=>rfl,fun b hb=>.inl hb,fun _ _ hx=>by simp at hx⟩ r1
   ·have hk:k<h.length:=by rw [←HR.len];exact (zAV.1 hp).1
    exact k3 k p hk (NZ k p hk (h5 k p hk hp))
   ·have:=JO he;subst this;exact (st.trans FT).upd.toExt fun i _ ⟨k,o,p,q1,_⟩=>by simp at q1
 cases e with
 | normal=>exact key h1.1 h1.2
 | ret=>exact key h1.1 h1.2
 | exit id=>exact absurd h1.2.1 (by simp)
 | goto t=>exact absurd h1.2.1 (by simp)
 | panic ch=>exact absurd h1.2.1 (by simp)
 | outgrown=>exact h1.elim
def Gu (d:DV):Prop:=∀ (M M':Nat -> Prop) (w w':World) (ρ ρ':List AI) (v:Value),AM M w d ρ v -> AM M' w' d ρ' v
theorem H7.agg {m:Nat} {f:Nat -> DV} (h: ∀ j,j<m -> H7 (f j)):H7 (.agg m f):=fun M w ρ _ ⟨cs,e,hs,hc⟩=>⟨cs,e,hs,fun j hj=>let ⟨u,h1,h2⟩:=hc j hj;⟨u,h1,h j hj M w ρ u h2⟩⟩
theorem H7.tup {m:Nat} {f:Nat -> DV} (h: ∀ j,j<m -> H7 (f j)):H7 (.tup m f):=fun M w ρ _ ⟨cs,e,hs,hc⟩=>⟨cs,e,hs,fun j hj=>let ⟨u,h1,h2⟩:=hc j hj;⟨u,h1,h j hj M w ρ u h2⟩⟩
theorem Gu.int (k:IntKind) (n:Int):Gu (.int k n):=fun _ _ _ _ _ _ _ h=>h
theorem Gu.bool (b:Bool):Gu (.bool b):=fun _ _ _ _ _ _ _ h=>h
theorem Gu.tup {m:Nat} {f:Nat -> DV} (h: ∀ j,j<m -> Gu (f j)):Gu (.tup m f):=fun M M' w w' ρ ρ' _ ⟨cs,e,hs,hc⟩=>⟨cs,e,hs,fun j hj=>let ⟨u,h1,h2⟩:=hc j hj;⟨u,h1,h j hj M M' w w' ρ ρ' u h2⟩⟩
theorem Pc {M:Nat -> Prop} (hM: ∀ b,M b -> b<w.heap.size/\ Γ.ng<=b) (hg:Γ.gi w):A1 P Γ M [] [] w:=
 ⟨rfl,fun k o hk=>by simp at hk,fun k o p b h1=>by simp at h1,fun k k' o o' p p' b _ h1=>by simp at h1,hM,hg⟩
theorem OZ {M:Nat -> Prop} {b:Nat}:MS M [] [] b↔M b:=⟨fun h=>h.elim id fun ⟨k,o,p,h1,_⟩=>by simp at h1,.inl⟩
theorem ES.frame {f:Nat} {ds:List DV} {d:DV} (h0:ES P Γ f ds [] d [] true) (D7: ∀ x∈ds,H7 x) (h:DH):ES P Γ f ds h d h true:=by
 refine ⟨h0.1,fun N ρ w args HR Ch=>?_⟩;refine (h0.2 (MS N h ρ) [] w args (Pc (fun b hb=>HR.lt2 hb) HR.gi) ⟨Ch.1,fun i hi=>?_⟩).mono ?_
 ·have hx:=D7 (ds.getD i .any) (by simp [hi]);exact AM.out _ (C6 (fun b hb=>OZ.1 hb) []) (hx _ _ _ _ (Ch.2 i hi))
 ·rintro e w' ⟨v,rfl,⟨⟨ρ',g1,g2,g3,g4⟩,g5⟩⟩;have hE:=g5 rfl;have hρ:ρ'= []:=zEO (by rw [g1.len];rfl);subst hρ;exact ⟨v,rfl,⟨⟨ρ,HR.ext hE,RY (AM.out _ (C6 (fun b hb=>OZ.2 hb) []) g2),A6.ext hE,fun _ _ h=>h⟩,g5⟩⟩
def Ad (h:DH) (d d0:DV):Prop:=∀ (P:Program) (Γ:Aq) (N:Nat -> Prop) (ρ:List AI) (w:World) (v:Value),A1 P Γ N h ρ w -> AM (MS N h ρ) w d ρ v -> AM (fun _=>False) w d0 [] v
theorem Ad.nref {h:DH} {d:DV} (hn:H7 d):Ad h d d:=fun _ _ _ _ _ _ _ hr=>AM.out _ (C6 (fun _ hb=>hb.elim) []) (hn _ _ _ _ hr)
theorem Ad.ints {h:DH} {k n:Nat} {l:List Int} (hk:h[k]? =some (some (.ints l))) (hn:n=l.length):Ad h (.msl k 1 0 n) (.ints l):=by
 rintro P Γ N ρ w v H ⟨p,cap,hp,e,g1,g2,_⟩;subst hn;obtain ⟨p',BD,hr⟩:=H.obj k _ hk;have ep:p'=p:=zAU (BD.symm.trans hp);subst ep;refine ⟨_,cap,e,g1,g2,fun j hj=>⟨p'.blk,p'.off,by simp,id,?_⟩⟩;obtain ⟨u,e1,e2⟩:=AZ.cell hr hj;rw [e1,e2]
theorem Ad.bools {h:DH} {k n:Nat} {l:List Bool} (hk:h[k]? =some (some (.bools l))) (hn:n=l.length):Ad h (.msl k 1 0 n) (.bools l):=by
 rintro P Γ N ρ w v H ⟨p,cap,hp,e,g1,g2,_⟩;subst hn;obtain ⟨p',BD,hr⟩:=H.obj k _ hk;have ep:p'=p:=zAU (BD.symm.trans hp);subst ep;refine ⟨_,cap,e,g1,g2,fun j hj=>⟨p'.blk,p'.off,by simp,id,?_⟩⟩;obtain ⟨u,e1,e2⟩:=AZ.cell hr hj;rw [e1,e2]
theorem Ad.ref {h:DH} {k m:Nat} {l:List DV} {f:Nat -> DV} (hk:h[k]? =some (some (.cells l))) (hm:m<=l.length) (hf: ∀ j,j<m -> Ad h (l.getD j .any) (f j)):Ad h (.ref k 0) (.fp m f):=by
 rintro P Γ N ρ w v H ⟨p,hp,e⟩;obtain ⟨p',BD,hr⟩:=H.obj k _ hk;have ep:p'=p:=zAU (BD.symm.trans hp);subst ep;refine ⟨p'.blk,p'.off,e,fun j hj=>⟨id,?_⟩⟩;obtain ⟨u,e1,e2⟩:=AZ.cell hr (j:=j) (by omega);exact ⟨u,e1,hf j hj P Γ N ρ w u H e2⟩
theorem ES.snap {f:Nat} {ds D9:List DV} {d:DV} (h0:ES P Γ f D9 [] d [] true) (h:DH) (hl:D9.length=ds.length) (hs: ∀ i,i<ds.length -> Ad h (ds.getD i .any) (D9.getD i .any)) (hd:Gu d):ES P Γ f ds h d h true:=by
 refine ⟨h0.1,fun N ρ w args HR Ch=>?_⟩;refine (h0.2 (fun _=>False) [] w args (Pc (fun b hb=>hb.elim) HR.gi) ⟨by rw [hl];exact Ch.1,fun i hi=>?_⟩).mono ?_
 ·rw [hl] at hi;exact AM.out _ (C6 (fun b hb=>OZ.1 hb) []) (hs i hi P Γ N ρ w _ HR (Ch.2 i hi))
 ·rintro e w' ⟨v,rfl,⟨⟨ρ',g1,g2,g3,g4⟩,g5⟩⟩;have hE:=g5 rfl;exact ⟨v,rfl,⟨⟨ρ,HR.ext hE,hd _ _ _ _ _ _ _ g2,A6.ext hE,fun _ _ h=>h⟩,g5⟩⟩
end
end Go.Proofs.YtkjbblkieglmlaaGreatDoor
namespace Go.Proofs.YtkjbblkieglmlaaGreatDoor
open Go.RowKit
section
variable {F:Fence} {n:Nat} {P:Program} {ops:Array Oper} {Q:Exit -> Act -> World -> Prop}
def HV (F:Fence) (n:Nat) (P:Program) (ops:Array Oper) (Q:Exit -> Act -> World -> Prop) (R:Nat -> World -> World -> Prop) (By:Nat -> Bool) (g:Nat):Nat -> Array Bool -> Act -> World -> Prop
 | 0,AV,a,w=>(∀ j,j<ops.size -> By j=false -> AV.getD j true=true)/\ wpAnyIn F n P .any ops Q g AV a w
 | m+1,AV,a,w=>Region.ready .any ops AV≠[]/\ ∀ i∈Region.ready .any ops AV,wpOpIn F n P ops Q i (fun a' w'=>R i w w'/\ HV F n P ops Q R By g m (AV.setIfInBounds i true) a' w') a w
abbrev UK (F:Fence) (n:Nat) (P:Program) (ops:Array Oper) (Q:Exit -> Act -> World -> Prop) (R:Nat -> World -> World -> Prop):Nat -> Array Bool -> Act -> World -> Prop:=HV F n P ops Q R (fun _=>false) 0
section
variable {By:Nat -> Bool} {g:Nat}
theorem dT {R R':Nat -> World -> World -> Prop} (hR: ∀ i w w',R' i w w' -> R i w w'): ∀ (m:Nat) (AV:Array Bool) (a:Act) (w:World),HV F n P ops Q R' By g m AV a w -> HV F n P ops Q R By g m AV a w
 | 0,_,_,_,h=>h
 | m+1,_,_,_,h=>⟨h.1,fun i hi=>zFJ (fun _ _ h'=>⟨hR _ _ _ h'.1,dT hR m _ _ _ h'.2⟩) (h.2 i hi)⟩
theorem s5 {AV:Array Bool} (h: ∀ j,j<ops.size -> AV.getD j true=true):Region.ready .any ops AV= []:=by
 cases hr:Region.ready .any ops AV with
 | nil=>rfl
 | cons i l=>
  have hi:i∈Region.ready .any ops AV:=by rw [hr];simp
  obtain ⟨h1,oi,h2,_⟩:=zFN.1 hi;rw [h i (zAJ.1 h2).1] at h1;cases h1
theorem n0 {R:Nat -> World -> World -> Prop} {AV:Array Bool} {a:Act} {w:World} (h: ∀ j,j<ops.size -> AV.getD j true=true) (hq:Q .normal a w):UK F n P ops Q R 0 AV a w:=⟨fun j hj _=>h j hj,s5 h,hq⟩
theorem da {R:Nat -> World -> World -> Prop}: ∀ (m:Nat) (AV:Array Bool) (a:Act) (w:World),HV F n P ops Q R By g m AV a w -> wpAnyIn F n P .any ops Q (m+g) AV a w
 | 0,_,_,_,h=>by rw [zAj];exact h.2
 | m+1,_,_,_,h=>by
  rw [show m+1+g=(m+g)+1 by omega];exact ⟨fun h0=>absurd h0 h.1,fun i hi=>zFJ (fun a' w' h'=>da m _ a' w' h'.2) (h.2 i hi)⟩
theorem ny (hF: ∀ f,F.fn f) (Av:CR ops=true) {R:Nat -> World -> World -> Prop} {T:World -> Prop} {i:Nat} {oi:Oper} {v:Value} (hQ: ∀ c a d v w,Q (.panic c) (Act.put a d v) w -> Q (.panic c) a w) (hi:ops[i]? =some oi) (Sl: ∀ (j:Nat) (o:Oper) cs b,ops[j]? =some o -> o.op≠.select cs b) (lL: ∀ w,R i w w) (bQ: ∀ j,j<ops.size -> By j=true -> Em ops ops.size j i=true):
 ∀ (m:Nat) (AV:Array Bool) (a:Act) (w:World),FO ops AV ->
  (∀ j oj,ops[j]? =some oj -> j≠i -> AV.getD j true=false -> (∀ e∈oj.after,Region.binds .any e=true -> e.on≠i) -> oi.apart ops oj=true) ->
  (∀ j,j<ops.size -> j≠i -> AV.getD j true=false -> Em ops ops.size j i=false -> ∀ w w',T w -> R j w w' -> T w') ->
  i∈Region.ready .any ops AV -> YieldsIf P ops T oi v a -> T w ->
  HV F n P ops Q R By g m (AV.setIfInBounds i true) (a.put oi.dst v) w -> HV F n P ops Q R By g (m+1) AV a w:=by
 intro m
 induction m with
 | zero=>
  intro AV a w A4 _ _ hr hy hS H;have Lw:=(zFN.1 hr).1;refine ⟨fun h=>(by rw [h] at hr;cases hr),fun j hj=>?_⟩
  by_cases Eg:j=i
  ·subst Eg;exact UG hF (Ga Av hi) hi hy hS ⟨lL w,H⟩
  ·exfalso
   obtain ⟨JM,oj,Fa,HK⟩:=zFN.1 hj;have Nu:=(zAJ.1 Fa).1;cases ht:By j with
   | true=>
    have:=UL A4 _ j i oj Fa HK (bQ j Nu ht);rw [TI Lw] at this;cases this
   | false=>
    have:=H.1 j Nu ht;rw [getD_set_ne true (zFP Eg),JM] at this;cases this
 | succ m ih=>
  intro AV a w A4 Sy hT hr hy hS H;have Lw:=(zFN.1 hr).1;refine ⟨fun h=>(by rw [h] at hr;cases hr),fun j hj=>?_⟩
  by_cases Eg:j=i
  ·subst Eg;exact UG hF (Ga Av hi) hi hy hS ⟨lL w,H⟩
  ·have h1:=H.2 j (ready_mono hj Eg);obtain ⟨JM,oj,Fa,HK⟩:=zFN.1 hj;have Nu:=(zAJ.1 Fa).1
   have ap:Em ops ops.size j i=false:=by
    cases hx:Em ops ops.size j i with
    | false=>rfl
    | true=>
     have:=UL A4 _ j i oj Fa HK hx;rw [TI Lw] at this;cases this
   have aq: ∀ e∈oj.after,Region.binds .any e=true -> e.on≠i:=fun e he hb bC=>by
    have h1:=HK e he hb;rw [bC,TI Lw] at h1;cases h1
   have h2:=dU hF (Ga Av Fa) Fa (Sy j oj Fa Eg JM aq) (fun cs b=>Sl i oi cs b hi) (fun cs b=>Sl j oj cs b Fa) (fun c a w h=>hQ c a _ _ w h) hy h1
   have un: ∀ {k:Nat},(AV.setIfInBounds j true).getD k true=false -> AV.getD k true=false:=fun {k} EF=>by
    by_cases Sw:j=k
    ·subst Sw;exact JM
    ·rw [getD_set_ne true Sw] at EF;exact EF
   refine zFJ (fun a' w' h3=>⟨h3.2.1,ih (AV.setIfInBounds j true) a' w' (A4.set hj) (fun k ok hk Su EF GI=>Sy k ok hk Su (un EF) GI) (fun k EG Su EF zp=>hT k EG Su (un EF) zp) (ready_mono hr (zFP Eg)) h3.1 (hT j Nu Eg JM ap w w' hS h3.2.1) ?_⟩) h2;rw [Array.setIfInBounds_comm _ _ Eg];exact h3.2.2
theorem X2 {id:Nat} {a:Act} {w:World} {R:Nat -> World -> World -> Prop} (hm:P.follows .mixedOrders=true) {m:Nat} (hs:m+g=ops.size) (h:HV F n P ops Q R By g m (Array.replicate ops.size false) a w.drew):(Code.region id ops true).wpIn F n P Q a w:=
 wpIn_region_any hm (by
  have:=da (g:=g) m _ _ _ h;rw [hs] at this;exact this)
theorem dX {c:Code} {a:Act} {w:World} (h:c.wpIn F n P (NP Q) a w):c.wpIn F n P Q a w:=zEh h fun e _ _ hq=>by
 cases e <;> first | exact hq | exact hq.elim
theorem cR:FO ops (Array.replicate ops.size false):=fun j oj _ hl=>by
 exfalso
 rcases zDj j ops.size with h | h
 ·simp [h] at hl
 ·simp [h] at hl
def PB (ops:Array Oper) (i:Nat):Bool:=match ops[i]? with
 | some o=>O9 o.op
 | none=>false
def RZ (ops:Array Oper) (early:Nat -> Bool) (Z:Nat -> Nat -> Prop) (j:Nat) (w w':World):Prop:=(PB ops j=true -> w'=w)/\ (early j=true -> AP (Z j) w w')
def O4 (ops:Array Oper) (early:Nat -> Bool) (i:Nat) (AV:Array Bool):Bool:=
 (Region.ready .any ops AV).contains i&&Region.free .any ops AV i&&PB ops i&&
  ((List.range ops.size).all fun j=>AV.getD j true||j==i||PB ops j||early j||Em ops ops.size j i)
theorem VI (hF: ∀ f,F.fn f) (Av:CR ops=true) (hs:Region.noSelect ops=true) {early:Nat -> Bool} {Z:Nat -> Nat -> Prop} {Zi:Nat -> Prop} {i m:Nat} {AV:Array Bool} {a:Act} {w:World} {oi:Oper} {v:Value} (hQ: ∀ c a d v w,Q (.panic c) (Act.put a d v) w -> Q (.panic c) a w) (hi:ops[i]? =some oi) (A4:FO ops AV) (Ds:O4 ops early i AV=true) (hZ: ∀ j,Em ops ops.size j i=false -> ∀ b,Z j b -> Zi b) (bQ: ∀ j,j<ops.size -> By j=true -> Em ops ops.size j i=true)
 (hy:YieldsIf P ops (AP Zi w) oi v a) (h:HV F n P ops Q (RZ ops early Z) By g m (AV.setIfInBounds i true) (a.put oi.dst v) w):HV F n P ops Q (RZ ops early Z) By g (m+1) AV a w:=by
 simp only [O4,zAL,zAW,zAd,zDh,zDw] at Ds;obtain ⟨⟨⟨h1,h2⟩,h3⟩,h4⟩:=Ds;refine ny hF Av hQ hi (Region.noSelect_spec hs) (fun w=>⟨fun _=>rfl,fun _=>AP.refl _ _⟩) bQ m AV a w A4 (Region.free_spec hi h2) (fun j hj Eg EF hw w1 w2 hT hR=>?_) (by simpa using h1) hy (AP.refl _ _) h;rcases h4 j hj with (((h | h) | h) | h) | h
 ·rw [EF] at h;cases h
 ·exact absurd h Eg
 ·rw [hR.1 h];exact hT
 ·exact hT.trans ((hR.2 h).mono fun b _ hb=>hZ j hw b hb)
 ·rw [hw] at h;cases h
theorem Tu {AV:Array Bool} {i:Nat} (A4:FO ops AV) (h:(Region.ready .any ops AV).contains i=true):FO ops (AV.setIfInBounds i true):=A4.set (by simpa using h)
end
end
end Go.Proofs.YtkjbblkieglmlaaGreatDoor
namespace Go.Proofs.YtkjbblkieglmlaaGreatDoor
abbrev zE0:=@Bool.eq_false_iff
abbrev zFC:=@List.mem_filter
abbrev zFm:=@Option.map_eq_some_iff
end Go.Proofs.YtkjbblkieglmlaaGreatDoor
namespace Go.Proofs.YtkjbblkieglmlaaGreatDoor
open Go.RowKit
inductive ST where
 | fin (π live:List Nat)
 | rd (i:Nat) (t:ST)
 | ef (i:Nat) (t HN:ST)
 | no
def T8:ST -> List Nat
 | .ef i _ HN=>i::T8 HN
 | _=>[]
def EB (ops:Array Oper) (early:List Nat):Bool -> Nat -> ST -> Array Bool -> Bool
 | false,0,.fin _ _,L=>(List.range ops.size).all fun j=>L.getD j true
 | false,m+1,.rd i t,L=>O4 ops (fun j=>early.contains j) i L&&EB ops early false m t (L.setIfInBounds i true)
 | b,m+1,.ef i t HN,L=>(b||Region.ready .any ops L==T8 (.ef i .no HN))&&!PB ops i&&EB ops early false m t (L.setIfInBounds i true)&&EB ops early true (m+1) HN L
 | true,_,.no,_=>true
 | _,_,_,_=>false
def FA (p:Nat -> Bool) (h:DH):DH:=(List.range h.length).map fun i=>if p i then h.getD i none else none
def je (xs:List Nat) (h:DH):DH:=FA (fun i=>!xs.contains i) h
def K7 (S:St) (o:Oper):Option Nat:=match o.op with
 | .store _ x _=>match AX S.fr x with
  | .ref k _=>some k
  | .mp k _ _ _=>some k
  | _=>none
 | _=>none
def Hj:DV -> List Nat
 | .msl k _ _ _=>[k]
 | _=>[]
def Xo (S:St) (o:Oper):Option (List Nat):=match o.op with
 | .call c=>match c.callee with
  | .builtin .append=>match c.args.toList with
   | [x,y]=>some (Hj (AX S.fr x)++Hj (AX S.fr y))
   | _=>none
  | _=>none
 | _=>none
def QS (P:Program) (S:St) (fz:List (Nat×Fz)) (o:Oper):Option (List Nat):=match Uz P S fz o,Uk P S o with
 | none,none=>Xo S o
 | _,_=>none
def wO (nw:List Nat) (h h':DH):Bool:=(List.range h.length).all fun k=>nw.contains k|| !(h.getD k none).isSome||(h'.getD k none).isSome
def fk (σ:List Nat) (L n:Nat):Bool:=decide σ.Nodup&&σ.all (fun k=>decide (k<n))&&(List.range L).all fun k=>decide (σ[k]? =some k)
def In (xs:List (Nat×Nat)) (nw:List Nat) (j:Nat):List Nat:=(xs.filter fun q=>q.1==j).map (·.2)++nw
def K0 (ops:Array Oper) (xs:List (Nat×Nat)) (nw:List Nat) (i:Nat):List Nat:=(xs.filter fun q=>!Em ops ops.size q.1 i).map (·.2)++nw
def mR (P:Program) (fz:List (Nat×Fz)) (early:List Nat) (xs:List (Nat×Nat)) (nw:List Nat) (S S1:St) (i:Nat) (o:Oper) (ext:Bool):Bool:=
 wO nw S.h S1.h&&(!(early.contains i)||ext||(match K7 S o with | some k=>(In xs nw i).contains k&&(S.h.getD k none).isSome | none=>false)||(match QS P S fz o with | some l=>l.all fun k=>(In xs nw i).contains k | none=>false))
def Uq (π:List Nat) (L0:Nat):List Nat:=List.range L0++π.map (· +L0)
def K4 (P:Program) (Γ:Aq) (ops:Array Oper) (early:List Nat) (xs:List (Nat×Nat)) (nw:List Nat) (L0:Nat) (S':St):ST -> St -> BF -> Option (List Prop×BF)
 | .no,_,Aa=>some ([],Aa)
 | .fin π live,S,Aa=>if fk (Uq π L0) L0 S.h.length then some ([E1 (Uq π L0) ⟨forget live S.fr,S.h⟩=S'],Aa) else none
 | .rd i t,S,Aa=>match ops[i]? with
  | none=>none
  | some o=>match O6 P ops ⟨S.fr,je (K0 ops xs nw i) S.h⟩ Aa.co o with
   | none=>none
   | some (S1,vs,Cq)=>match K4 P Γ ops early xs nw L0 S' t ⟨S1.fr,S.h⟩ ⟨Aa.calls,Cq,Aa.fz,Aa.tg⟩ with
    | none=>none
    | some (Bm,B2)=>some (vs++Bm,B2)
 | .ef i t HN,S,Aa=>match ops[i]? with
  | none=>none
  | some o=>match OV P Γ ops S Aa o with
   | none=>none
   | some (S1,vs,ext,Ee)=>if mR P Aa.fz early xs nw S S1 i o ext then
    match K4 P Γ ops early xs nw L0 S' t S1 Ee with
    | none=>none
    | some (CL,Fm)=>match K4 P Γ ops early xs nw L0 S' HN S Fm with
     | none=>none
     | some (Dy,KC)=>some (vs++(CL++Dy),KC)
    else none
def Bq (ops:Array Oper) (early:List Nat) (t:ST):Prop:=(EB ops early false ops.size t (Array.replicate ops.size false)&&Region.noSelect ops&&CR ops)=true
def Qf (P:Program) (Γ:Aq) (ops:Array Oper) (early:List Nat) (t:ST) (S:St) (Aa:BF):Option (St×List Prop×BF):=match Aa.tg with
 | []=>none
 | (ks,S')::rest=>match K4 P Γ ops early ks (List.range' S.h.length ops.size) S.h.length S' t S ⟨Aa.calls,Aa.co,Aa.fz,rest⟩ with
  | none=>none
  | some (vs,B2)=>some (S',vs,B2)
theorem L7 {p:Nat -> Bool} {h:DH} {i:Nat} {o:DO} (hi:(FA p h)[i]? =some (some o)):h[i]? =some (some o)/\ p i=true:=by
 unfold FA at hi;rw [zA1] at hi;cases hr:(List.range h.length)[i]? with
 | none=>rw [hr] at hi;cases hi
 | some j=>
  have hj:i<h.length/\ i=j:=by
   have:=zAV.1 hr;obtain ⟨h1,h2⟩:=this;simp at h1 h2;exact ⟨h1,h2⟩
  rw [hr] at hi;obtain ⟨h1,rfl⟩:=hj;have hi:(if p i then h.getD i none else none)=some o:=zAU hi;split at hi
  ·exact ⟨by rw [u8,zAQ h1] at hi;rw [zAQ h1];exact congrArg some hi,by assumption⟩
  ·cases hi
theorem fy {p:Nat -> Bool} {h:DH}:(FA p h).length=h.length:=by simp [FA]
theorem bZ {p:Nat -> Bool} {h:DH} {k:Nat} (hp:p k=true) (hk:k<h.length):(FA p h)[k]? =h[k]? :=by
 unfold FA;rw [zA1,zFW hk];simp [hp,u8,hk]
section
variable {P:Program} {Γ:Aq} {N:Nat -> Prop} {S:St} {ρ:List AI} {a:Act} {w:World}
theorem AT.sel (R:AT P Γ N S ρ a w) (p:Nat -> Bool):AT P Γ (fun b=>N b∨∃ k o q,p k=false/\ S.h[k]? =some (some o)/\ ρ[k]? =some q/\ q.foot b) ⟨S.fr,FA p S.h⟩ ρ a w:=by
 have hM: ∀ b,MS (fun b=>N b∨∃ k o q,p k=false/\ S.h[k]? =some (some o)/\ ρ[k]? =some q/\ q.foot b) (FA p S.h) ρ b -> MS N S.h ρ b:=by
  rintro b ((h | ⟨k,o,q,h1,h2,h3,h4⟩) | ⟨k,o,q,h1,h2,h3⟩)
  ·exact .inl h
  ·exact .inr ⟨k,o,q,h2,h3,h4⟩
  ·exact .inr ⟨k,o,q,(L7 h1).1,h2,h3⟩
 refine ⟨⟨by rw [fy];exact R.hr.len,fun i o hi=>?_,fun i o q b g1 g2 g3=>?_,fun i i' o1 o2 p1 p2 b Ak g1 g2 g3 g4 g5 g6=>R.hr.dis i i' o1 o2 p1 p2 b Ak (L7 g1).1 (L7 g2).1 g3 g4 g5 g6,?_,R.hr.gi⟩,R.fr.out (C6 hM ρ)⟩
 ·obtain ⟨q,hq,hr⟩:=R.hr.obj i o (L7 hi).1;exact ⟨q,hq,hr.out (C6 hM ρ) (S:=fun _=>False) (AP.refl _ _) (fun _ h=>h.elim) fun _ _ _ h=>h⟩
 ·obtain ⟨hi,xw⟩:=L7 g1;obtain ⟨c1,c2,c3⟩:=R.hr.cel i o q b hi g2 g3;refine ⟨c1,?_,c3⟩;rintro (h | ⟨k,o',q',h1,h2,h3,h4⟩)
  ·exact c2 h
  ·exact R.hr.dis i k o o' q q' b (fun e=>by subst e;rw [xw] at h1;cases h1) hi h2 g2 h3 g3 h4
 ·rintro b (h | ⟨k,o',q',h1,h2,h3,h4⟩)
  ·exact R.hr.nlt b h
  ·obtain ⟨c1,_,c,t,z,c3⟩:=R.hr.cel k o' q' b h2 h3 h4;exact ⟨(zAJ.1 c3).1,c1⟩
theorem AT.unsel {p:Nat -> Bool} {fr:List DV} (R0:A1 P Γ N S.h ρ w) (R:BC (MS (fun b=>N b∨∃ k o q,p k=false/\ S.h[k]? =some (some o)/\ ρ[k]? =some q/\ q.foot b) (FA p S.h) ρ) w ρ fr a.tmps):AT P Γ N ⟨fr,S.h⟩ ρ a w:=by
 refine ⟨R0,R.out (C6 (fun b hb=>?_) ρ)⟩;rcases hb with h | ⟨k,o,q,h1,h2,h3⟩
 ·exact .inl (.inl h)
 ·cases hp:p k with
  | false=>exact .inl (.inr ⟨k,o,q,hp,h1,h2,h3⟩)
  | true=>
   refine .inr ⟨k,o,q,?_,h2,h3⟩;rw [bZ hp (zAV.1 h1).1];exact h1
def Zs (xs:List Nat) (h:DH) (ρ:List AI) (w:World) (b:Nat):Prop:=(∃ k o q,k∈xs/\ h[k]? =some (some o)/\ ρ[k]? =some q/\ q.foot b)∨w.heap.size<=b
theorem wP {xs:List Nat} {W:World} (hu:AP (Zs xs S.h ρ w) w W):Keep (fun b=>N b∨∃ k o q,(!xs.contains k)=false/\ S.h[k]? =some (some o)/\ ρ[k]? =some q/\ q.foot b) w W:=by
 intro b o u hb hc;have AN:b<w.heap.size:=zED w ⟨b,o,none⟩ hc;refine (cW (hu.block b AN ?_)).trans hc;rintro (⟨k,ob,q,h1,h2,h3,h4⟩ | h)
 ·exact hb (.inr ⟨k,ob,q,by simp [h1],h2,h3,h4⟩)
 ·omega
theorem P6 {ρ':Operand -> Value} {o:Oper} {t:TypeId} {x y:Operand} (ho:o.op= .store t x y) {nx:Next} {w w':World} (h:(execOp ρ' o).run P w= .ok nx w'):nx= .skip:=by
 unfold execOp at h;rw [ho] at h;have h:(Instr.storeAt t (ρ' x) (ρ' y)>>=fun _=>(pure .skip:Sem Next)).run P w= .ok nx w':=h;rw [zAg] at h;cases hs:(Instr.storeAt t (ρ' x) (ρ' y)).run P w with
 | ok v w1=>rw [hs] at h;simp only [Result.andThen] at h;cases h;rfl
 | halt x w1=>rw [hs] at h;simp only [Result.andThen] at h;cases h
theorem BK.store {ρ':Operand -> Value} {o:Oper} {t:TypeId} {x y:Operand} (ho:o.op= .store t x y) {w:World} {G G':Value -> World -> Prop} (h:BK P (execOp ρ' o) w G) (h':BK P (execOp ρ' o) w G'):BK P (execOp ρ' o) w (fun v W=>G v W/\ G' v W):=by
 rcases h with ⟨v,w1,h1,_⟩ | ⟨w1,h1,h2⟩ | ⟨f,ag,w1,h1,_⟩
 ·cases P6 ho h1
 ·rcases h' with ⟨v,w2,g1,_⟩ | ⟨w2,g1,g2⟩ | ⟨f,ag,w2,g1,_⟩
  ·cases P6 ho g1
  ·rw [h1] at g1;cases g1;exact .inr (.inl ⟨w1,h1,h2,g2⟩)
  ·cases P6 ho g1
 ·cases P6 ho h1
theorem pL {t:TypeId} {x d:DV} {k:Nat} {h':DH} {vc:Prop} (hx:(∃ j,x= .ref k j)∨∃ m i j,x= .mp k m i j) (h:Mo P S t x d=some (h',vc)):k<S.h.length/\ ∃ h2,Mo P ⟨S.fr,FA (fun i=>i==k) S.h⟩ t x d=some (h2,vc):=by
 have key: ∀ {o:DO},S.h[k]? =some (some o) -> k<S.h.length/\ (FA (fun i=>i==k) S.h)[k]? =some (some o):=fun {o} ho=>by
  have hk:=(zAV.1 ho).1;exact ⟨hk,by rw [bZ (by simp) hk];exact ho⟩
 unfold Mo at h ⊢;rcases hx with ⟨j,rfl⟩ | ⟨m,i,j,rfl⟩
 ·simp only at h ⊢;split at h
  ·rename_i l hl;obtain ⟨h1,h2⟩:=key hl;refine ⟨h1,?_⟩;simp only [h2]
   repeat' (split at h)
   all_goals first | (cases h;done) | skip
   cases h;rename_i q1 q2 q3;simp only [q1,q2,q3,zEG];exact ⟨_,rfl⟩
  ·cases h
 ·simp only at h ⊢;split at h
  ·rename_i A3;split at h
   ·rename_i l hl;obtain ⟨h1,h2⟩:=key hl;refine ⟨h1,?_⟩;simp only [h2,A3,zEG]
    repeat' (split at h)
    all_goals first | (cases h;done) | skip
    cases h;rename_i q1;simp only [q1,zEG];exact ⟨_,rfl⟩
   ·rename_i l hl;obtain ⟨h1,h2⟩:=key hl;refine ⟨h1,?_⟩;simp only [h2,A3,zEG]
    repeat' (split at h)
    all_goals first | (cases h;done) | skip
    cases h;rename_i q1;simp only [q1,zEG];exact ⟨_,rfl⟩
   ·rename_i m' n f hl;obtain ⟨h1,h2⟩:=key hl;refine ⟨h1,?_⟩;simp only [h2,A3,zEG]
    repeat' (split at h)
    all_goals first | (cases h;done) | skip
    cases h;rename_i q1;simp only [q1,zEG];exact ⟨_,rfl⟩
   ·cases h
  ·cases h
theorem BK.appendB {ρ':Operand -> Value} {o:Oper} {c:Call} {x y:Operand} {t t2:TypeId} (ho:o.op= .call c) (hc:c.callee= .builtin .append) (ha:c.args.toList= [x,y]) (ht:c.argTypes.toList= [t,t2]) {w:World} {G G':Value -> World -> Prop} (h:BK P (execOp ρ' o) w G) (h':BK P (execOp ρ' o) w G'):BK P (execOp ρ' o) w (fun v W=>G v W/\ G' v W):=by
 have hv: ∀ {nx:Next} {w':World},(execOp ρ' o).run P w= .ok nx w' -> ∃ v,nx= .value v:=fun he=>by
  rw [MD ho hc ha ht] at he;exact Oi (f:=fun x=>x) he
 rcases h with ⟨v,w1,h1,g⟩ | ⟨w1,h1,_⟩ | ⟨f,ag,w1,h1,_⟩
 ·rcases h' with ⟨v',w2,h2,g'⟩ | ⟨w2,h2,_⟩ | ⟨f,ag,w2,h2,_⟩
  ·rw [h1] at h2;cases h2;exact .inl ⟨v,w1,h1,g,g'⟩
  ·obtain ⟨_,e⟩:=hv h2;cases e
  ·obtain ⟨_,e⟩:=hv h2;cases e
 ·obtain ⟨_,e⟩:=hv h1;cases e
 ·obtain ⟨_,e⟩:=hv h1;cases e
theorem Wt {p:Nat -> Bool} {h:DH} {k:Nat} (hp:p k=true):(FA p h)[k]? =h[k]? :=by
 by_cases hk:k<h.length
 ·exact bZ hp hk
 ·rw [zEJ (by rw [fy];omega),zEJ (by omega)]
theorem zDN {p:Nat -> Bool} {t:TypeId} {x y:DV} (hx: ∀ k∈Hj x,p k=true) (hy: ∀ k∈Hj y,p k=true):(QR P ⟨S.fr,FA p S.h⟩ t x y).map (·.2.2)=(QR P S t x y).map (·.2.2):=by
 have e1:KN ⟨S.fr,FA p S.h⟩ y=KN S y:=by
  cases y <;> try rfl
  rename_i k m off n;simp only [KN,Wt (h:=S.h) (hy k (by simp [Hj]))]
 have e2:OP ⟨S.fr,FA p S.h⟩ y=OP S y:=by
  cases y <;> try rfl
  rename_i k m off n;simp only [OP,Wt (h:=S.h) (hy k (by simp [Hj]))]
 have e3: ∀ m,OA ⟨S.fr,FA p S.h⟩ m y=OA S m y:=fun m=>by
  cases y <;> try rfl
  rename_i k m off n;simp only [OA,Wt (h:=S.h) (hy k (by simp [Hj]))]
 have ex: ∀ k m off n,x= .msl k m off n -> (FA p S.h)[k]? =S.h[k]? :=fun k m off n e=>Wt (hx k (by subst e;simp [Hj]))
 unfold QR;cases Jb P t with
 | none=>rfl
 | some v=>
  obtain ⟨k,e,i,z⟩:=v;simp only
  by_cases hb:128<i.bytes
  ·simp only [hb,zEG]
  simp only [hb,zEg];cases k with
  | ints=>
   simp only [e1];cases KN S y with
   | none=>rfl
   | some v=>
    cases x <;> try rfl
    rename_i k m off n;simp only [ex k m off n rfl];cases S.h[k]? with
    | none=>rfl
    | some ob=>
     cases ob with
     | none=>rfl
     | some ob=>cases ob <;> first | rfl | (dsimp only;split <;> rfl)
  | bools=>
   simp only [e2];cases OP S y with
   | none=>rfl
   | some v=>
    cases x <;> try rfl
    rename_i k m off n;simp only [ex k m off n rfl];cases S.h[k]? with
    | none=>rfl
    | some ob=>
     cases ob with
     | none=>rfl
     | some ob=>cases ob <;> first | rfl | (dsimp only;split <;> rfl)
  | gen mm=>
   simp only [e3];cases OA S mm y with
   | none=>rfl
   | some v=>
    cases x <;> try rfl
    rename_i k m off n;simp only [ex k m off n rfl];cases S.h[k]? with
    | none=>rfl
    | some ob=>
     cases ob with
     | none=>rfl
     | some ob=>cases ob <;> first | rfl | (dsimp only;split <;> rfl)
theorem zDO (R:AT P Γ N S ρ a w) {calls:List (DV×DH×Bool)} {o:Oper} {d:DV} {h':DH} {vs:List Prop} {ext:Bool} {OO:List (DV×DH×Bool)} (h:MW P Γ S calls o.op=some (d,h',vs,ext,OO)) (hv:Ba vs) {l:List Nat} (hl:Xo S o=some l) {G:Value -> World -> Prop} (hG:BK P (execOp a.eval o) w G):
 BK P (execOp a.eval o) w (fun v w'=>G v w'/\ AP (fun b=>∃ k o q,k∈l/\ S.h[k]? =some (some o)/\ ρ[k]? =some q/\ q.foot b) w w'):=by
 unfold Xo at hl;split at hl
 rotate_left
 ·cases hl
 rename_i c ho;split at hl
 rotate_left
 ·cases hl
 rename_i hc;split at hl
 rotate_left
 ·cases hl
 rename_i x y ha;cases hl;rw [ho] at h;simp only [MW,hc,ha] at h;split at h
 rotate_left
 ·cases h
 rename_i t t' ht;split at h
 rotate_left
 ·cases h
 rename_i xV;subst xV;split at h
 rotate_left
 ·cases h
 rename_i d1 h1 vc Ke;cases h;have Pe:=zDN (P:=P) (S:=S) (t:=t) (x:=AX S.fr x) (y:=AX S.fr y) (p:=fun k=>(Hj (AX S.fr x)++Hj (AX S.fr y)).contains k) (fun k hk=>by simp [hk]) (fun k hk=>by simp [hk]);rw [Ke] at Pe;obtain ⟨⟨d2,h2,oE⟩,hs,PX⟩:=zFm.1 Pe;have PX:oE=vc:=PX;subst PX;have D2:=nY (AT.sel R (fun k=>(Hj (AX S.fr x)++Hj (AX S.fr y)).contains k)) hs hv.1 o ho hc ha ht;rcases BK.appendB ho hc ha ht hG D2 with ⟨v,w1,h3,g1,g2⟩ | ⟨w1,h3,g1,g2⟩ | ⟨f,ag,w1,h3,A4⟩
 ·refine .inl ⟨v,w1,h3,g1,?_⟩;obtain ⟨ρ2,_,_,st,_⟩:=g2.ex;refine st.upd.mono fun b _ hb=>?_
  obtain ⟨i,o',q,q1,q2,q3⟩:=hb;exact ⟨i,o',q,by simpa using (L7 q1).2,(L7 q1).1,q2,q3⟩
 ·rw [MD ho hc ha ht] at h3;obtain ⟨_,e⟩:=Oi (f:=fun x=>x) h3;cases e
 ·rw [MD ho hc ha ht] at h3;obtain ⟨_,e⟩:=Oi (f:=fun x=>x) h3;cases e
theorem YL {o:Oper} {k:Nat} (h:K7 S o=some k): ∃ t x y,o.op= .store t x y/\ ((∃ j,AX S.fr x= .ref k j)∨∃ m i j,AX S.fr x= .mp k m i j):=by
 unfold K7 at h;split at h
 ·rename_i t x y ho;refine ⟨t,x,y,ho,?_⟩;split at h
  ·rename_i j e;cases h;exact .inl ⟨j,e⟩
  ·rename_i m i j e;cases h;exact .inr ⟨m,i,j,e⟩
  ·cases h
 ·cases h
theorem zDf {calls:List (DV×DH×Bool)} {o:Oper} {t:TypeId} {x y:Operand} (ho:o.op= .store t x y) {d:DV} {h':DH} {vs:List Prop} {ext:Bool} {OO:List (DV×DH×Bool)} (h:MW P Γ S calls o.op=some (d,h',vs,ext,OO)): ∃ vc,Mo P S t (AX S.fr x) (AX S.fr y)=some (h',vc)/\ vs= [vc]:=by
 rw [ho] at h;simp only [MW] at h;split at h
 ·rename_i h1 vc hs;cases h;exact ⟨vc,hs,rfl⟩
 ·cases h
theorem zDg (R:AT P Γ N S ρ a w) {calls:List (DV×DH×Bool)} {o:Oper} {d:DV} {h':DH} {vs:List Prop} {ext:Bool} {OO:List (DV×DH×Bool)} (h:MW P Γ S calls o.op=some (d,h',vs,ext,OO)) (hv:Ba vs):
 BK P (execOp a.eval o) w (fun v w'=>CW P Γ N S.h ρ w ext d h' v w'/\ ∀ k,K7 S o=some k -> AP (fun b=>∃ q,ρ[k]? =some q/\ q.foot b) w w'):=by
 cases Df:K7 S o with
 | none=>
  have D:=dI R h hv;rcases D with ⟨v,w1,h1,h2⟩ | ⟨w1,h1,h2⟩ | ⟨f,ag,w1,h1,h2⟩
  ·exact .inl ⟨v,w1,h1,h2,fun k hk=>by cases hk⟩
  ·exact .inr (.inl ⟨w1,h1,h2,fun k hk=>by cases hk⟩)
  ·exact .inr (.inr ⟨f,ag,w1,h1,h2.mono fun e CK ⟨v,e1,e2⟩=>⟨v,e1,e2,fun k hk=>by cases hk⟩⟩)
 | some k=>
  obtain ⟨t,x,y,ho,hx⟩:=YL Df;have D:=dI R h hv;obtain ⟨vc,hs,rfl⟩:=zDf ho h;obtain ⟨_,h2,Hw⟩:=pL hx hs;have D2:=fK (AT.sel R (fun i=>i==k)) (tx:=x) (x:=y) Hw hv.1 o ho;have D3:=BK.store ho D D2;rcases D3 with ⟨v,w1,h1,g1,g2⟩ | ⟨w1,h1,g1,g2⟩ | ⟨f,ag,w1,h1,_⟩
  ·cases P6 ho h1
  ·refine .inr (.inl ⟨w1,h1,g1,fun k' BX=>?_⟩);cases BX;obtain ⟨ρ2,_,_,st,_⟩:=g2.ex;refine st.upd.mono fun b _ hb=>?_
   obtain ⟨i,o',q,q1,q2,q3⟩:=hb;have:=(L7 q1).2;have e:i=k:=by simpa using this
   subst e;exact ⟨q,q2,q3⟩
  ·cases P6 ho h1
theorem zDG {F:Fence} (hF:Cv F P) (R:AT P Γ N S ρ a w) {ops:Array Oper} {Aa:BF} {o:Oper} (hd: ∀ c,o.op≠.defer c) {S':St} {vs:List Prop} {ext:Bool} {B2:BF} (h:OV P Γ ops S Aa o=some (S',vs,ext,B2)) (hv:Ba vs)
 {K:Act -> World -> Prop} {Q:Exit -> Act -> World -> Prop} (hK: ∀ ρ' a' w',AT P Γ N S' ρ' a' w' -> Ci S.h ρ w S'.h ρ' w' -> a'.defers=a.defers -> (ext=true -> Ao w w') -> (∀ k,K7 S o=some k -> AP (fun b=>∃ q,ρ[k]? =some q/\ q.foot b) w w') -> (∀ l,QS P S Aa.fz o=some l -> AP (fun b=>∃ k o q,k∈l/\ S.h[k]? =some (some o)/\ ρ[k]? =some q/\ q.foot b) w w') -> K a' w'):
 if Region.wanted o (yielded ops a.tmps) then o.wpIn F 0 P a w K Q else (∀ f,o.about P w a.eval=some f -> F.fn f)/\ K (a.put o.dst undef) w:=by
 have CI: ∀ v,(a.put o.dst v).defers=a.defers:=fun v=>by cases ho:o.dst <;> simp [Act.put]
 unfold OV at h;split at h
 ·cases h
 ·rename_i hw;cases h;rw [zAZ (by rw [HZ R hw];exact zEu)];exact ⟨fun f _=>hF.fn f,hK ρ _ _ (GU R _ US) (Ci.refl _ _ _) (CI _) (fun _=>Ao.refl w) (fun _ _=>AP.refl _ _) fun _ _=>AP.refl _ _⟩
 ·rename_i hw;rw [zAB (HZ R hw)];split at h
  ·rename_i S1 CL fz1 hM;cases h;refine Jc hF hd (gG R hM hv) fun v w' ⟨⟨ρ',g1,g2⟩,Df⟩=>hK ρ' _ _ g1 g2 (CI v) (fun e=>by cases e) (fun k' BX=>?_) fun l hl=>?_
   obtain ⟨t0,x0,y0,Nn,_⟩:=YL BX;rcases Df with Df | ⟨k,i,p,t,x,y,q1,q2,q3,q4⟩
   ·exact absurd Nn (Df t0 x0 y0)
   have e:k'=k:=by
    unfold K7 at BX;rw [q1] at BX;simp only [q2] at BX;exact (zAU BX).symm
   subst e;exact q4.mono fun b _ hb=>⟨p,q3,hb⟩
   unfold QS at hl;rw [hM] at hl;cases hl
  split at h
  ·rename_i S1 CL hM;cases h;refine Jc hF hd (fJ R hM hv) fun v w' ⟨⟨ρ',g1,g2⟩,Df⟩=>hK ρ' _ _ g1 g2 (CI v) (fun e=>by cases e) (fun k' BX=>?_) fun l hl=>?_
   obtain ⟨t0,x0,y0,Nn,_⟩:=YL BX;rcases Df with Df | ⟨k,i,p,t,x,y,q1,q2,q3,q4⟩
   ·exact absurd Nn (Df t0 x0 y0)
   have e:k'=k:=by
    unfold K7 at BX;rw [q1] at BX;simp only [q2] at BX;exact (zAU BX).symm
   subst e;exact q4.mono fun b _ hb=>⟨p,q3,hb⟩
   unfold QS at hl;rw [hM] at hl;split at hl
   ·rename_i hx;cases hx
   ·cases hl
  split at h
  ·cases h
  ·rename_i d h1 CL ext1 calls Wj;split at h;rename_i d' Bm Cq Ly;split at h
   ·cases h
   ·rename_i S2 Oh JX GO;cases h;obtain ⟨B0,Si⟩:=Cu.1 hv;obtain ⟨B5,Hs⟩:=Cu.1 Si;have D:=zDg R Wj B0;cases Ke:Xo S o with
    | none=>
     refine Jc hF hd D fun v w' G=>?_
     obtain ⟨ρ',g1,g2⟩:=L6 R o.dst G.1 (d':=d') fun M ρ' hr=>Ts Ly B5 hr
     obtain ⟨g3,g4⟩:=TK _ GO Hs P Γ N ρ' _ _ g1;refine hK ρ' _ _ g3 (g2.trans ⟨g4,fun _ _ h=>h⟩) (CI v) G.1.ext G.2 fun l hl=>?_
     unfold QS at hl;split at hl
     ·rw [Ke] at hl;cases hl
     ·cases hl
    | some l0=>
     refine Jc hF hd (zDO R Wj B0 Ke D) fun v w' G=>?_
     obtain ⟨ρ',g1,g2⟩:=L6 R o.dst G.1.1 (d':=d') fun M ρ' hr=>Ts Ly B5 hr
     obtain ⟨g3,g4⟩:=TK _ GO Hs P Γ N ρ' _ _ g1;refine hK ρ' _ _ g3 (g2.trans ⟨g4,fun _ _ h=>h⟩) (CI v) G.1.1.ext G.1.2 fun l hl=>?_
     unfold QS at hl;split at hl
     ·rw [Ke] at hl;cases hl;exact G.2
     ·cases hl
theorem dq {F:Fence} (hF:Cv F P) {ops:Array Oper} (Av:CR ops=true) (hs:Region.noSelect ops=true) {early:List Nat} {xs:List (Nat×Nat)} {nw:List Nat} {L0:Nat} {S':St} {Q:Exit -> Act -> World -> Prop}:
 ∀ (t:ST) (m:Nat) (L:Array Bool) {S:St} {ρ:List AI} {a:Act} {w:World} {vs:List Prop} {Aa B2:BF},FO ops L -> AT P Γ N S ρ a w -> K4 P Γ ops early xs nw L0 S' t S Aa=some (vs,B2) -> Ba vs ->
 (∀ ρ' a' w',AT P Γ N S' ρ' a' w' -> A6 S.h ρ w S'.h ρ' w' -> (∀ k p,k<L0 -> ρ[k]? =some p -> ρ'[k]? =some p) -> a'.defers=a.defers -> Q .normal a' w') ->
 (EB ops early false m t L=true -> UK F 0 P ops (NP Q) (RZ ops (fun j=>early.contains j) (fun j=>Zs (In xs nw j) S.h ρ w)) m L a w)/\
 (EB ops early true m t L=true -> ∀ i∈T8 t,i∈Region.ready .any ops L -> ∃ m',m=m'+1/\ wpOpIn F 0 P ops (NP Q) i (fun a' w'=>RZ ops (fun j=>early.contains j) (fun j=>Zs (In xs nw j) S.h ρ w) i w w'/\ UK F 0 P ops (NP Q) (RZ ops (fun j=>early.contains j) (fun j=>Zs (In xs nw j) S.h ρ w)) m' (L.setIfInBounds i true) a' w') a w):=by
 intro t
 induction t with
 | no=>
  intro m L S ρ a w vs Aa ZW A4 R hV hv hQ;exact ⟨fun h=>by cases m <;> simp [EB] at h,fun _ i hi=>by cases hi⟩
 | fin π live=>
  intro m L S ρ a w vs Aa ZW A4 R hV hv hQ;refine ⟨fun h=>?_,fun h=>by cases m <;> simp [EB] at h⟩;cases m with
  | succ m=>simp [EB] at h
  | zero=>
   simp only [EB,zAW,zAd] at h;refine n0 h ?_;simp only [K4] at hV;split at hV
   ·rename_i hσ;cases hV;simp only [fk,zAL,zBg,zAW,zAd] at hσ;obtain ⟨ρ0,R0,Jw,k0⟩:=Ay.forget (L:=L0) live S.fr S.h P Γ N ρ a w R;obtain ⟨ρ',R',C4,k'⟩:=Ay.compact (L:=L0) (Uq π L0) ⟨forget live S.fr,S.h⟩ hσ.1.1 (fun k hk=>hσ.1.2 k hk) (fun k hk=>hσ.2 k hk) P Γ N ρ0 a w R0;have st:=Jw.trans C4;have e:E1 (Uq π L0) ⟨forget live S.fr,S.h⟩=S':=hv.1;rw [e] at R' st C4;exact hQ ρ' a w R' st (fun k p hk hp=>k' k p hk (k0 k p hk hp)) rfl
   ·cases hV
 | rd i t ih=>
  intro m L S ρ a w vs Aa ZW A4 R hV hv hQ;refine ⟨fun h=>?_,fun h=>by cases m <;> simp [EB] at h⟩;cases m with
  | zero=>simp [EB] at h
  | succ m=>
   simp only [EB,zAL] at h;simp only [K4] at hV;split at hV
   ·cases hV
   ·rename_i o ho
    ·split at hV
     ·cases hV
     ·rename_i S1 CL Jf hp;split at hV
      ·cases hV
      ·rename_i Dy Fm h2;cases hV;obtain ⟨B0,B5⟩:=Cu.1 hv;have RK:=AT.sel R (fun k=>!(K0 ops xs nw i).contains k);obtain ⟨e1,Df⟩:=Re RK hp B0;have CI: ∀ v,(a.put o.dst v).defers=a.defers:=fun v=>by cases ho:o.dst <;> simp [Act.put]
       have KX:(Region.ready .any ops L).contains i=true:=by
        have:=h.1;simp only [O4,zAL] at this;exact this.1.1.1
       have back: ∀ v,BC (MS (fun b=>N b∨∃ k o q,(!(K0 ops xs nw i).contains k)=false/\ S.h[k]? =some (some o)/\ ρ[k]? =some q/\ q.foot b) S1.h ρ) w ρ S1.fr (a.put o.dst v).tmps -> AT P Γ N ⟨S1.fr,S.h⟩ ρ (a.put o.dst v) w:=fun v hr=>by
        rw [e1] at hr;exact AT.unsel (p:=fun k=>!(K0 ops xs nw i).contains k) R.hr hr
       have hZ: ∀ j,Em ops ops.size j i=false -> ∀ b,Zs (In xs nw j) S.h ρ w b -> Zs (K0 ops xs nw i) S.h ρ w b:=by
        rintro j hj b (⟨k,ob,q,k1,k0,k2,k3⟩ | hb)
        ·refine .inl ⟨k,ob,q,?_,k0,k2,k3⟩;unfold In at k1;unfold K0;rcases zEA.1 k1 with k1 | k1
         ·obtain ⟨p,p1,p2⟩:=zEK.1 k1;obtain ⟨p3,p4⟩:=zFC.1 p1;have:p.1=j:=by simpa using p4
          exact zEA.2 (.inl (zEK.2 ⟨p,zFC.2 ⟨p3,by rw [this,hj];rfl⟩,p2⟩))
         ·exact zEA.2 (.inr k1)
        ·exact .inr hb
       rcases Df with ⟨hw,v,g1,g2⟩ | ⟨hw,g2⟩
       ·refine VI (Zi:=Zs (K0 ops xs nw i) S.h ρ w) hF.fn Av hs (fun c a d v w h=>NP.put c a d v w h) ho A4 h.1 hZ (fun _ _ h=>by cases h) (.inl ⟨hw,fun W hu=>g1 W (wP hu)⟩) ?_;exact (ih m _ (Tu A4 KX) (back v g2.fr) h2 B5 fun ρ' a' w' q1 q2 q3 q4=>hQ ρ' a' w' q1 q2 q3 (q4.trans (CI v))).1 h.2
       ·refine VI (Zi:=Zs (K0 ops xs nw i) S.h ρ w) hF.fn Av hs (v:=undef) (fun c a d v w h=>NP.put c a d v w h) ho A4 h.1 hZ (fun _ _ h=>by cases h) (.inr ⟨hw,rfl⟩) ?_;exact (ih m _ (Tu A4 KX) (back undef g2.fr) h2 B5 fun ρ' a' w' q1 q2 q3 q4=>hQ ρ' a' w' q1 q2 q3 (q4.trans (CI undef))).1 h.2
 | ef i t HN w7 aK=>
  intro m L S ρ a w vs Aa ZW A4 R hV hv hQ;simp only [K4] at hV;split at hV
  ·cases hV
  ·rename_i o ho;split at hV
   ·cases hV
   ·rename_i S1 CL ext Ee h1;split at hV
    ·rename_i Wi;simp only [mR,zAL,zDh] at Wi;obtain ⟨zq,zAF⟩:=Wi;split at hV
     ·cases hV
     rename_i Dy Fm h2;split at hV
     ·cases hV
     ·rename_i Mi KC h3;cases hV;obtain ⟨B0,EE⟩:=Cu.1 hv;obtain ⟨B5,Hs⟩:=Cu.1 EE;have A:=aK m L A4 R h3 Hs hQ
      have one: ∀ b,EB ops early b m (.ef i t HN) L=true -> (Region.ready .any ops L).contains i=true -> ∃ m',m=m'+1/\ EB ops early true m HN L=true/\ wpOpIn F 0 P ops (NP Q) i (fun a' w'=>RZ ops (fun j=>early.contains j) (fun j=>Zs (In xs nw j) S.h ρ w) i w w'/\ UK F 0 P ops (NP Q) (RZ ops (fun j=>early.contains j) (fun j=>Zs (In xs nw j) S.h ρ w)) m' (L.setIfInBounds i true) a' w') a w:=by
       intro b hb hr;cases m with
       | zero=>cases b <;> simp [EB] at hb
       | succ m=>
        have DA:(!PB ops i)=true/\ EB ops early false m t (L.setIfInBounds i true)=true/\ EB ops early true (m+1) HN L=true:=by
         cases b <;> simp only [EB,zAL] at hb <;> exact ⟨hb.1.1.2,hb.1.2,hb.2⟩
        obtain ⟨b1,b2,b3⟩:=DA;refine ⟨m,rfl,b3,?_⟩;unfold wpOpIn;simp only [ho];refine zDG hF R (Ga Av ho) h1 B0 fun ρ' a' w' R' st Ca JO xa zAS=>?_
        refine ⟨⟨fun hp=>(by rw [hp] at b1;cases b1),fun he=>?_⟩,?_⟩
        ·rcases zAF with ((h | h) | h) | h
         ·have he:early.contains i=true:=he;rw [he] at h;cases h
         ·exact AP.ofExt (JO h)
         ·split at h
          ·rename_i k hk;rw [zAL] at h;refine (xa k hk).mono fun b _ hb=>?_
           obtain ⟨q,q1,q2⟩:=hb;cases hg:S.h.getD k none with
           | none=>rw [hg] at h;cases h.2
           | some ob=>exact .inl ⟨k,ob,q,by simpa using h.1,getD_some hg,q1,q2⟩
          ·cases h
         ·split at h
          ·rename_i l hl;refine (zAS l hl).mono fun b _ hb=>?_
           obtain ⟨k,ob,q,q0,q1,q2,q3⟩:=hb;exact .inl ⟨k,ob,q,by simpa using zAW.1 h k q0,q1,q2,q3⟩
          ·cases h
        ·have T:=(w7 m _ (Tu A4 hr) R' h2 B5 fun ρ2 a2 w2 q1 q2 q3 q4=>hQ ρ2 a2 w2 q1 (st.st.trans q2) (fun k p hk hp=>q3 k p hk (st.pl k p hp)) (q4.trans Ca)).1 b2;refine dT (fun j w1 w2 hR=>⟨hR.1,fun he=>(hR.2 he).mono fun b lH hb=>?_⟩) _ _ _ _ T;rcases hb with ⟨k,ob,q,k1,k0,k2,k3⟩ | hb
         ·rcases st.st.grow b ⟨k,ob,q,k0,k2,k3⟩ with ⟨i2,o2,p2,g1,g2,g3⟩ | h
          ·by_cases Du:i2∈In xs nw j
           ·exact .inl ⟨i2,o2,p2,Du,g1,g2,g3⟩
           ·exfalso
            have EH:=(zAV.1 g1).1;have Ng:=zAW.1 zq i2 (zAd.2 EH);have e2:S.h.getD i2 none=some o2:=by rw [u8,g1];rfl
            have ap:nw.contains i2=false:=zE0.2 fun h=>Du (zEA.2 (.inr (by simpa using h)))
            rw [e2,ap] at Ng;cases ko:S1.h.getD i2 none with
            | none=>rw [ko] at Ng;cases Ng
            | some uY=>exact R'.hr.dis i2 k uY ob p2 q b (fun e=>Du (e▸k1)) (getD_some ko) k0 (st.pl i2 p2 g2) k2 g3 k3
          ·exact .inr h
         ·exact .inr (zAk st.st.upd.size hb)
      refine ⟨fun h=>?_,fun h j hj hr=>?_⟩
      ·have KX:Region.ready .any ops L=i::T8 HN:=by
        cases m <;> simp only [EB,zAL,zDh,zDw,T8,zDs,false_or] at h;exact h.1.1.1
       obtain ⟨m',e,ha,hw⟩:=one false h (by rw [KX];simp);subst e;refine ⟨by rw [KX];simp,fun j hj=>?_⟩;have Gg:=hj;rw [KX] at hj;rcases zDu.1 hj with rfl | hj
       ·exact hw
       ·obtain ⟨m2,e2,Sf⟩:=A.2 ha j hj Gg;cases e2;exact Sf
      ·rcases zDu.1 hj with rfl | hj
       ·obtain ⟨m',e,ha,hw⟩:=one true h (by simpa using hr);exact ⟨m',e,hw⟩
       ·have ha:EB ops early true m HN L=true:=by
         cases m <;> simp only [EB,zAL] at h
         ·cases h
         ·exact h.2
        exact A.2 ha j hj hr
    ·cases hV
theorem Tr.tree {F:Fence} {B:Option Nat} {L:Nat} {Y:BR P Γ L} {Q:QY P Γ L} (hF:Cv F P) {id:Nat} {ops:Array Oper} {early:List Nat} {t:ST} {Aa B2:BF} {S':St} {vs:List Prop} (hm:P.follows .mixedOrders=true) (hB:Bq ops early t)
 (h:Qf P Γ ops early t S Aa=some (S',vs,B2)) (hv:Ba vs) (hk:Q .normal S' Y):Tr P Γ F B L Y (.region id ops true) S Q:=fun N ρ a w R y m b=>by
 simp only [Bq,zAL] at hB;obtain ⟨⟨h1,h2⟩,h3⟩:=hB;unfold Qf at h;split at h
 ·cases h
 split at h
 ·cases h
 ·rename_i hV;cases h;have hE:Ao w w.drew:=Ao.toDrew w;refine dX (X2 hm (zEp _) ((dq hF h3 h2 t ops.size _ cR (R.ext hE) hV hv fun ρ' a' w' R' st Ss Ca=>?_).1 h1));have C4:A6 S.h ρ w S'.h ρ' w':=(A6.ext hE).trans st;exact Tr.done R y m b hk R' C4 (fun k p _ hp=>Ss k p (by rw [←R.hr.len];exact (zAV.1 hp).1) hp) Ca
end
end Go.Proofs.YtkjbblkieglmlaaGreatDoor
namespace Go.Proofs.YtkjbblkieglmlaaGreatDoor
abbrev zE6:=@Go.wpIn_region_list
abbrev zFw:=@Go.IntKind.wrap_i64
end Go.Proofs.YtkjbblkieglmlaaGreatDoor
namespace Go.Proofs.YtkjbblkieglmlaaGreatDoor
open Go.RowKit
inductive KI where
 | code (c:Code)
 | blk (id:Nat)
 | scp
 | lend (J:St -> Prop)
 | loopN (m:Nat) (b:Code)
def Jl (P:Program) (Γ:Aq) (F:Fence) (B:Option Nat) (L:Nat) (b:Code) (Q:QY P Γ L):Nat -> St -> BR P Γ L -> Prop
 | 0,_,_=>False
 | m+1,S,Y=>Tr P Γ F B L Y b S (Qg (Jl P Γ F B L b Q m) Q)
theorem Jl.loop {P:Program} {Γ:Aq} {F:Fence} {B:Option Nat} {L:Nat} {Y:BR P Γ L} {b:Code} {Q:QY P Γ L} {m:Nat} {S:St} (h:Jl P Γ F B L b Q m S Y):Tr P Γ F B L Y (.loop b) S Q:=by
 refine Tr.loop (fun m S Y=>Jl P Γ F B L b Q m S Y) m h fun m S Y hm=>?_
 cases m with
 | zero=>exact hm.elim
 | succ m=>
  refine Tr.mono hm fun e S' Y' hq=>?_
  cases e with
  | normal=>exact ⟨m,Nat.lt_succ_self m,hq⟩
  | _=>exact hq
def DZ (P:Program) (Γ:Aq) (F:Fence) (B:Option Nat) (L:Nat) (Q:QY P Γ L):List KI -> QY P Γ L
 | [],e,S,Y=>Q e S Y
 | .code c::k,e,S,Y=>match e with
  | .normal=>Tr P Γ F B L Y c S (DZ P Γ F B L Q k)
  | e=>DZ P Γ F B L Q k e S Y
 | .blk id::k,e,S,Y=>match e with
  | .exit i=>if i=id then DZ P Γ F B L Q k .normal S Y else DZ P Γ F B L Q k (.exit i) S Y
  | e=>DZ P Γ F B L Q k e S Y
 | .scp::k,e,S,Y=>match e with
  | .goto _=>False
  | e=>DZ P Γ F B L Q k e S Y
 | .lend J::k,e,S,Y=>match e with
  | .normal=>J S
  | e=>DZ P Γ F B L Q k e S Y
 | .loopN m b::k,e,S,Y=>match e with
  | .normal=>Jl P Γ F B L b (DZ P Γ F B L Q k) m S Y
  | e=>DZ P Γ F B L Q k e S Y
def An (P:Program) (Γ:Aq) (F:Fence) (B:Option Nat) (L:Nat) (Y:BR P Γ L) (Q:QY P Γ L) (k:List KI) (S:St):Prop:=DZ P Γ F B L Q k .normal S Y
def stay {P:Program} {Γ:Aq} {L:Nat} (N:BR P Γ L) (Q:Exit -> St -> Prop):QY P Γ L:=fun e S Y=>Y=N/\ Q e S
abbrev Bg (P:Program) (Γ:Aq) (F:Fence) (B:Option Nat) (L:Nat) (N:BR P Γ L) (Q:Exit -> St -> Prop) (k:List KI) (S:St):Prop:=An P Γ F B L N (stay N Q) k S
def IJ (id:Nat):List KI -> Option (List KI)
 | []=>none
 | .blk i::k=>if id=i then some k else IJ id k
 | _::k=>IJ id k
inductive dK where
 | no
 | ord (st:List (List Nat×Nat)) (la ta:List Nat)
 | stop
 | tre (early:List Nat) (t:ST)
abbrev Bi:=Nat -> dK
def dK.isStop:dK -> Bool
 | .stop=>true
 | _=>false
def AR (i:Nat) (s:Bi):Bi:=fun j=>if j=i then .stop else s j
def Ar (ops:Array Oper) (CT:List (List Nat×Nat)) (BJ tail:List Nat):Prop:=(Yf ops CT BJ tail&&CR ops&&tail.all fun t=>decide (t<ops.size))=true
inductive KO where
 | at (k:List KI)
 | ret
def B9 (P:Program) (Γ:Aq) (A9:Bi):Nat -> List KI -> St -> BF -> Option (KO×St×List Prop×BF)
 | 0,_,_,_=>none
 | n+1,k,S,o=>match k with
  | []=>some (.at [],S,[],o)
  | .blk _::k=>B9 P Γ A9 n k S o
  | .scp::k=>B9 P Γ A9 n k S o
  | .lend J::k=>some (.at (.lend J::k),S,[],o)
  | .loopN m b::k=>some (.at (.loopN m b::k),S,[],o)
  | .code c::k=>match c with
   | .skip=>B9 P Γ A9 n k S o
   | .seq a b=>B9 P Γ A9 n (.code a:: .code b::k) S o
   | .block id b=>B9 P Γ A9 n (.code b:: .blk id::k) S o
   | .scope b=>B9 P Γ A9 n (.code b:: .scp::k) S o
   | .label _=>B9 P Γ A9 n k S o
   | .exit id=>match IJ id k with
    | some k'=>B9 P Γ A9 n k' S o
    | none=>some (.at (.code (.exit id)::k),S,[],o)
   | .ret=>some (.ret,S,[],o)
   | .cond x a b=>match AX S.fr x with
    | .bool true=>B9 P Γ A9 n (.code a::k) S o
    | .bool false=>B9 P Γ A9 n (.code b::k) S o
    | _=>none
   | .region id ops dr=>if (A9 id).isStop then some (.at (.code (.region id ops dr)::k),S,[],o) else match dr with
    | false=>if CR ops then match DW P Γ ops ops.toList S o with
     | none=>none
     | some (S',vs,o')=>match B9 P Γ A9 n k S' o' with
      | none=>none
      | some (r,CJ,Bm,Rv)=>some (r,CJ,vs++Bm,Rv)
     else none
    | true=>match A9 id with
     | .no=>none
     | .stop=>none
     | .tre early t=>match Qf P Γ ops early t S o with
      | none=>none
      | some (S',vs,o')=>match B9 P Γ A9 n k S' o' with
       | none=>none
       | some (r,CJ,Bm,Rv)=>some (r,CJ,Bq ops early t::(vs++Bm),Rv)
     | .ord st la ta=>match hseq P Γ ops S.h st la ta S o with
      | none=>none
      | some (S',vs,o')=>match B9 P Γ A9 n k S' o' with
       | none=>none
       | some (r,CJ,Bm,Rv)=>some (r,CJ,Ar ops st la ta::(vs++Bm),Rv)
   | c=>some (.at (.code c::k),S,[],o)
section
variable {P:Program} {Γ:Aq} {F:Fence} {B:Option Nat} {L:Nat} {Y:BR P Γ L} {Q:QY P Γ L}
theorem zAt (hF:Cv F P) {S:St} {id:Nat} {ops:Array Oper} {Aa B2:BF} {S':St} {vs:List Prop} {Q:QY P Γ L} (Av:CR ops=true) (h:DW P Γ ops ops.toList S Aa=some (S',vs,B2)) (hv:Ba vs) (hk:Q .normal S' Y):Tr P Γ F B L Y (.region id ops false) S Q:=fun N ρ a w R y m b=>
 zE6 (JV hF Av _ (fun o ho=>by simpa using ho) R h hv fun ρ' a' w' R' st Ca=>Tr.done R y m b hk R' st.st (fun k p _ hp=>st.pl k p hp) Ca)
theorem xg (hF:Cv F P) {S:St} {id:Nat} {ops:Array Oper} {CT:List (List Nat×Nat)} {BJ tail:List Nat} {Aa B2:BF} {S':St} {vs:List Prop} {Q:QY P Γ L} (hm:P.follows .mixedOrders=true) (hB:Ar ops CT BJ tail)
 (h:hseq P Γ ops S.h CT BJ tail S Aa=some (S',vs,B2)) (hv:Ba vs) (hk:Q .normal S' Y):Tr P Γ F B L Y (.region id ops true) S Q:=fun N ρ a w R y m b=>by
 simp only [Ar,zAL] at hB;obtain ⟨⟨h1,h2⟩,h3⟩:=hB;have hE:Ao w w.drew:=Ao.toDrew w;refine dV hF.fn CT BJ tail hm (by simp only [zAL];exact ⟨h1,h2⟩) (xh hF h2 CT BJ tail h3 (R.ext hE) (Ci.refl _ _ _) (Ao.refl _) h hv fun ρ' a' w' R' st Ca=>?_);have C4:A6 S.h ρ w S'.h ρ' w':=(A6.ext hE).trans st.st;exact Tr.done R y m b hk R' C4 (fun k p _ hp=>st.pl k p hp) Ca
theorem NE {id:Nat} {S:St}: ∀ {k k':List KI},IJ id k=some k' -> DZ P Γ F B L Q k' .normal S Y -> DZ P Γ F B L Q k (.exit id) S Y
 | [],_,h,_=>by cases h
 | .blk i::k,k',h,hq=>by
  unfold IJ at h;split at h
  ·rename_i e;cases h;subst e
   show (if id=id then _ else _)
   rw [zAB rfl];exact hq
  ·rename_i e
   show (if id=i then _ else _)
   rw [zAZ e];exact NE h hq
 | .code c::k,k',h,hq=>NE (k:=k) h hq
 | .lend J::k,k',h,hq=>NE (k:=k) h hq
 | .scp::k,k',h,hq=>NE (k:=k) h hq
 | .loopN m b::k,k',h,hq=>NE (k:=k) h hq
theorem LT {S:St} (h:Q .ret S Y): ∀ (k:List KI),DZ P Γ F B L Q k .ret S Y
 | []=>h
 | .blk _::k=>LT h k
 | .code _::k=>LT h k
 | .lend _::k=>LT h k
 | .scp::k=>LT h k
 | .loopN _ _::k=>LT h k
def KOk (P:Program) (Γ:Aq) (F:Fence) (B:Option Nat) (L:Nat) (Y:BR P Γ L) (Q:QY P Γ L):KO -> St -> Prop
 | .at k,S=>An P Γ F B L Y Q k S
 | .ret,S=>Q .ret S Y
theorem FG (hF:Cv F P) (hm:P.follows .mixedOrders=true) {A9:Bi}: ∀ (n:Nat) (k:List KI) (S:St) (o:BF) (r:KO) (S':St) (vs:List Prop) (o':BF),B9 P Γ A9 n k S o=some (r,S',vs,o') -> Ba vs -> KOk P Γ F B L Y Q r S' -> An P Γ F B L Y Q k S
 | 0,_,_,_,_,_,_,_,h,_,_=>by cases h
 | n+1,k,S,o,r,S',vs,o',h,hv,hk=>by
  unfold B9 at h;cases k with
  | nil=>cases h;exact hk
  | cons i k=>
   cases i with
   | blk id=>exact FG hF hm n k S o r S' vs o' h hv hk
   | scp=>exact FG hF hm n k S o r S' vs o' h hv hk
   | lend J=>cases h;exact hk
   | loopN m b=>cases h;exact hk
   | code c=>
    show Tr P Γ F B L Y c S (DZ P Γ F B L Q k)
    cases c with
    | skip=>exact Tr.skip (FG hF hm n k S o r S' vs o' h hv hk)
    | seq a b=>
     refine Tr.seq (Tr.mono (FG hF hm n (.code a:: .code b::k) S o r S' vs o' h hv hk) fun e S2 Y2 hq=>?_);cases e <;> exact hq
    | block id b=>
     refine Tr.block (Tr.mono (FG hF hm n (.code b:: .blk id::k) S o r S' vs o' h hv hk) fun e S2 Y2 hq=>?_);cases e <;> exact hq
    | exit id=>
     simp only at h;split at h
     ·rename_i k' hp;exact Tr.exit (NE hp (FG hF hm n k' S o r S' vs o' h hv hk))
     ·cases h;exact hk
    | ret=>cases h;exact Tr.ret (LT hk k)
    | cond x a b=>
     simp only at h;split at h
     ·rename_i hc;exact Tr.cond hc (fun _=>FG hF hm n (.code a::k) S o r S' vs o' h hv hk) (fun e=>by cases e)
     ·rename_i hc;exact Tr.cond hc (fun e=>by cases e) (fun _=>FG hF hm n (.code b::k) S o r S' vs o' h hv hk)
     ·cases h
    | region id ops dr=>
     simp only at h;split at h
     ·cases h;exact hk
     ·cases dr with
      | false=>
       simp only at h;split at h
       ·rename_i Av;split at h
        ·cases h
        ·rename_i S1 CL o1 h1;split at h
         ·cases h
         ·rename_i r2 S2 Dy o2 h2;cases h;obtain ⟨B0,B5⟩:=Cu.1 hv;exact zAt hF Av h1 B0 (FG hF hm n k S1 o1 _ _ _ _ h2 B5 hk)
       ·cases h
      | true=>
       simp only at h;split at h
       ·cases h
       ·cases h
       ·rename_i early t hs;split at h
        ·cases h
        ·rename_i S1 CL o1 h1;split at h
         ·cases h
         ·rename_i r2 S2 Dy o2 h2;cases h;obtain ⟨PY,EE⟩:=hv;obtain ⟨B0,B5⟩:=Cu.1 EE;exact Tr.tree hF hm PY h1 B0 (FG hF hm n k S1 o1 _ _ _ _ h2 B5 hk)
       ·rename_i st la ta hs;split at h
        ·cases h
        ·rename_i S1 CL o1 h1;split at h
         ·cases h
         ·rename_i r2 S2 Dy o2 h2;cases h;obtain ⟨PY,EE⟩:=hv;obtain ⟨B0,B5⟩:=Cu.1 EE;exact xg hF hm PY h1 B0 (FG hF hm n k S1 o1 _ _ _ _ h2 B5 hk)
    | loop b=>cases h;exact hk
    | rangeFunc f ps T3 bd=>cases h;exact hk
    | scope b=>
     refine Tr.scope (Tr.mono (FG hF hm n (.code b:: .scp::k) S o r S' vs o' h hv hk) fun e S2 Y2 hq=>?_);cases e <;> exact hq
    | label l=>exact Tr.label (FG hF hm n k S o r S' vs o' h hv hk)
    | goto l=>cases h;exact hk
    | refuse w=>cases h;exact hk
theorem An.weaken {k:List KI} {S S':St} (hS:Ay L S S') (h:An P Γ F B L Y Q k S') (hk: ∃ c k',k= .code c::k'):An P Γ F B L Y Q k S:=by
 obtain ⟨c,k',rfl⟩:=hk;exact Tr.weaken hS h
def Na:List KI -> Bool
 | .code (.loop _)::_=>true
 | _=>false
def DE (k:List KI):List KI:=match k with
 | _::rest=>rest
 | []=>[]
def MA (id:Nat):List Nat -> Code -> List KI -> Option (List KI)
 | ms,.seq a b,k=>match MA id ms a (.code b::k) with
  | some r=>some r
  | none=>MA id ms b k
 | ms,.cond _ a b,k=>match MA id ms a k with
  | some r=>some r
  | none=>MA id ms b k
 | ms,.block i c,k=>if i=id then some (.code c:: .blk i::k) else MA id ms c (.blk i::k)
 | ms,.scope c,k=>MA id ms c (.scp::k)
 | m::ms,.loop b,k=>MA id ms b (.loopN m b::k)
 | _,_,_=>none
def MB (id:Nat):List Nat -> Code -> List KI -> Option (List KI)
 | ms,.seq a b,k=>match MB id ms a (.code b::k) with
  | some r=>some r
  | none=>MB id ms b k
 | ms,.cond _ a b,k=>match MB id ms a k with
  | some r=>some r
  | none=>MB id ms b k
 | ms,.block i c,k=>MB id ms c (.blk i::k)
 | ms,.scope c,k=>MB id ms c (.scp::k)
 | m::ms,.loop b,k=>MB id ms b (.loopN m b::k)
 | _,.region i ops dr,k=>if i=id then some (.code (.region i ops dr)::k) else none
 | _,_,_=>none
def A8 (m:Nat) (k:List KI):List KI:=match k with
 | .code (.loop b)::rest=>.loopN m b::rest
 | _=>[]
def dk (m:Nat) (k:List KI):List KI:=match k with
 | .code (.loop b)::rest=>.code b:: .loopN m b::rest
 | _=>[]
def start (f:Func):List KI:=match f.body with
 | some c=>[.code c]
 | none=>[]
def Iw (c:Code) (id:Nat):Array Oper:=match c with
 | .region i ops _=>if i=id then ops else #[]
 | .seq a b=>let x:=Iw a id;if x.size=0 then Iw b id else x
 | .cond _ a b=>let x:=Iw a id;if x.size=0 then Iw b id else x
 | .block _ c=>Iw c id
 | .loop c=>Iw c id
 | .scope c=>Iw c id
 | .rangeFunc _ _ a b=>let x:=Iw a id;if x.size=0 then Iw b id else x
 | _=>#[]
def Ag (f:Func) (id:Nat):Array Oper:=match f.body with
 | some c=>Iw c id
 | none=>#[]
theorem Bg.enter {k:List KI} {S:St} (m:Nat) (hk:Na k=true) (h:An P Γ F B L Y Q (A8 m k) S):An P Γ F B L Y Q k S:=by
 unfold Na at hk;split at hk
 ·exact Jl.loop h
 ·cases hk
theorem Bg.round {k:List KI} {S:St} {n m:Nat} (hm:n+1<=m) (hk:Na k=true) (h: ∀ m,n<=m -> An P Γ F B L Y Q (dk m k) S):An P Γ F B L Y Q (A8 m k) S:=by
 cases m with
 | zero=>omega
 | succ m=>
  have h:=h m (Nat.le_of_succ_le_succ hm);unfold Na at hk;split at hk
  ·refine Tr.mono h fun e S' Y' hq=>?_
   cases e <;> exact hq
  ·cases hk
def AG (n:Nat) (l:List (Nat×DV)):List DV:=(List.range n).map fun i=>match l.find? (fun x=>x.1==i) with
 | some x=>x.2
 | none=>.any
theorem DC.le {fn:Func} {d:DV} {h':DH} {e:Exit} {S S':St} (hS:Ay L S S') (h:DC P fn L d h' e S'):DC P fn L d h' e S:=by
 obtain ⟨he,CJ,h1,h2⟩:=h;exact ⟨he,CJ,hS.trans h1,h2⟩
theorem ES.of_trk {f:Nat} {fn:Func} {ds:List DV} {h:DH} {d:DV} {h':DH} {ext:Bool} (hf:P.funcs[f]? =some fn) (hb:fn.body.isSome=true) (Ns:(fn.name== "runtime.NumGoroutine")=false) (So:SG h') (JO:ext=true -> h= [])
 (H: ∀ (B:Nat) (N:BR P Γ h.length),Bg P Γ Fence.wide (some B) h.length N (DC P fn h.length d h') (start fn) ⟨ds++List.replicate (fn.ntmps-ds.length) .any,h⟩):ES P Γ f ds h d h' ext:=by
 cases hc:fn.body with
 | none=>rw [hc] at hb;cases hb
 | some c=>
  refine ES.of_tr hf hc (by simpa using Ns) So (fun B N=>?_) JO;have:=H B N;unfold start at this;rw [hc] at this;refine Tr.mono this fun e S Y hq=>?_
  cases e <;> exact hq
def Ep:DV -> Bool
 | .mse .. =>false
 | .mri .. =>false
 | .ref .. =>false
 | .msl .. =>false
 | .mp .. =>false
 | .it _=>false
 | .agg m f=>(List.range m).all fun j=>Ep (f j)
 | .tup m f=>(List.range m).all fun j=>Ep (f j)
 | .fn _ m f=>(List.range m).all fun j=>Ep (f j)
 | _=>true
theorem KD: ∀ {d:DV},Ep d=true -> H7 d:=by
 intro d
 induction d with
 | any=>exact fun _ _ _ _ _ _=>trivial
 | nils=>exact fun _ _ _ _ _ h=>h
 | int k n=>exact fun _ _ _ _ _ h=>h
 | bool b=>exact fun _ _ _ _ _ h=>h
 | str s=>exact fun _ _ _ _ _ h=>h
 | ints l=>exact fun _ _ _ _ _ h=>h
 | bools l=>exact fun _ _ _ _ _ h=>h
 | sl m n f _=>exact fun _ _ _ _ _ h=>h
 | fp m f _=>exact fun _ _ _ _ _ h=>h
 | agg m f ih=>exact fun hb=>H7.agg fun j hj=>ih j (zAW.1 hb j (zAd.2 hj))
 | tup m f ih=>exact fun hb=>H7.tup fun j hj=>ih j (zAW.1 hb j (zAd.2 hj))
 | ref k j=>exact fun hb=>by cases hb
 | msl k m o n=>exact fun hb=>by cases hb
 | mp k m i j=>exact fun hb=>by cases hb
 | fn g m c ih=>exact fun hb M w ρ v ⟨cs,e,hs,hc⟩=>⟨cs,e,hs,fun j hj=>let ⟨u,h1,h2⟩:=hc j hj;⟨u,h1,ih j (zAW.1 hb j (zAd.2 hj)) M w ρ u h2⟩⟩
 | it k=>exact fun hb=>by cases hb
 | yl l=>exact fun _ _ _ _ _ h=>h
 | cst u=>exact fun _ _ _ _ _ h=>h
 | mse k m o n=>exact fun hb=>by cases hb
 | mri k i=>exact fun hb=>by cases hb
theorem ES.frameB {f:Nat} {ds:List DV} {d:DV} (h0:ES P Γ f ds [] d [] true) (h:DH) (D7:ds.all Ep=true):ES P Γ f ds h d h true:=h0.frame (fun x hx=>KD (zAW.1 D7 x hx)) h
def Uw:DV -> Bool
 | .int .. =>true
 | .bool _=>true
 | .tup m f=>(List.range m).all fun j=>match f j with
  | .int .. =>true
  | .bool _=>true
  | _=>false
 | _=>false
theorem p9 {d:DV} (h:Uw d=true):Gu d:=by
 unfold Uw at h;split at h
 ·exact Gu.int _ _
 ·exact Gu.bool _
 ·rename_i m f;refine Gu.tup fun j hj=>?_
  have:=zAW.1 h j (zAd.2 hj);split at this
  ·rename_i e;rw [e];exact Gu.int _ _
  ·rename_i e;rw [e];exact Gu.bool _
  ·cases this
 ·cases h
def MU (h:DH):List DV -> List DV -> Prop
 | [],[]=>True
 | d::ds,d0::D9=>Ad h d d0/\ MU h ds D9
 | _,_=>False
theorem QT {h:DH}: ∀ {ds D9:List DV},MU h ds D9 -> D9.length=ds.length/\ ∀ i,i<ds.length -> Ad h (ds.getD i .any) (D9.getD i .any)
 | [],[],_=>⟨rfl,fun i hi=>absurd hi (zAf i)⟩
 | d::ds,d0::D9,⟨h1,h2⟩=>by
  obtain ⟨e,g⟩:=QT h2;refine ⟨by simp [e],fun i hi=>?_⟩;cases i with
  | zero=>exact h1
  | succ i=>exact g i (by simpa using hi)
 | [],_::_,h=>h.elim
 | _::_,[],h=>h.elim
theorem Ad.plain {h:DH} {d:DV} (hn:Ep d=true):Ad h d d:=Ad.nref (KD hn)
theorem Ad.nils {h:DH}:Ad h .nils (.ints []):=fun _ _ _ _ _ _ _ hr=>AS.ints_nil _ _ _ _ (AM.out _ (C6 (M:=fun _=>False) (fun _ hb=>hb) []) hr)
theorem ES.snapB {f:Nat} {ds D9:List DV} {d:DV} (h0:ES P Γ f D9 [] d [] true) (h:DH) (hs:MU h ds D9) (hd:Uw d=true):ES P Γ f ds h d h true:=ES.snap h0 h (QT hs).1 (QT hs).2 (p9 hd)
theorem AS.of_eq {d d':DV} (h:d=d'):AS d d':=by rw [h];exact AS.refl _
theorem SX {M:Nat -> Prop} {w:World} {ρ:List AI} {v:Value} {l:List Int} (h:AM M w (.ints l) ρ v):l.length<=LB:=let ⟨_,_,_,_,h,_⟩:=h;h
theorem nt {x c:Int} (h1:x=c) (h2: -9223372036854775808<=c) (h3:c<=9223372036854775807):IntKind.i64.wrap x=c:=by
 subst h1;rw [zFw];omega
end
end Go.Proofs.YtkjbblkieglmlaaGreatDoor
namespace Go.Proofs.YtkjbblkieglmlaaGreatDoor
open Go.RowKit
def MY (w:World):Prop:=TabAt 1 Lib.deBruijn64tab w
def GG:Aq where
 ng:=2
 gi:=fun w=>MY w/\ 2<=w.heap.size
 st:=fun w w' h hu=>⟨fun j hj=>hu.cell (by show ¬ (2<=1);omega) (h.1 j hj),zAk h.2 hu.size⟩
 lo:=fun w h=>h.2
end Go.Proofs.YtkjbblkieglmlaaGreatDoor
namespace Go.Proofs.YtkjbblkieglmlaaGreatDoor
abbrev zFb:=@List.all_cons
end Go.Proofs.YtkjbblkieglmlaaGreatDoor
namespace Go.Proofs.YtkjbblkieglmlaaGreatDoor
open Go.RowKit
theorem Bu {α:Type} {c:Prop} [Decidable c] {a:Option α} {r:α} (h:(if c then a else none)=some r):c/\ a=some r:=by
 split at h
 ·exact ⟨by assumption,h⟩
 ·cases h
theorem FM {α β:Type} {o:Option β} {f:β -> Option α} {r:α} (h:o.bind f=some r): ∃ v,o=some v/\ f v=some r:=by
 cases o with
 | none=>cases h
 | some v=>exact ⟨v,rfl,h⟩
theorem Bt {α:Type} {b:Bool} {x y:Option α} {r:α} (h:(bif b then x else y)=some r):(b=true/\ x=some r)∨(b=false/\ y=some r):=by
 cases b
 ·exact .inr ⟨rfl,h⟩
 ·exact .inl ⟨rfl,h⟩
def tT:Int -> Bool
 | .ofNat n=>Nat.ble n 9223372036854775807
 | .negSucc n=>Nat.ble n 9223372036854775807
def AL (x:Int):Prop:=tT x=true
instance (x:Int):Decidable (AL x):=by unfold AL;infer_instance
theorem A0 {x:Int}:AL x↔-9223372036854775808<=x/\ x<=9223372036854775807:=by
 unfold AL;cases x with
 | ofNat n=>
  show Nat.ble n 9223372036854775807=true↔_
  rw [Nat.ble_eq];simp only [Int.ofNat_eq_natCast];omega
 | negSucc n=>
  show Nat.ble n 9223372036854775807=true↔_
  rw [Nat.ble_eq];omega
theorem nu {x:Int} (h:AL x):AS (.int .i64 (IntKind.i64.wrap x)) (.int .i64 x):=AS.int (nt rfl (A0.1 h).1 (A0.1 h).2)
def comp (live σ:List Nat) (S:St):St:=E1 σ ⟨forget live S.fr,S.h⟩
def Is (σ:List Nat) (L n:Nat):Bool:=decide σ.Nodup&&σ.all (fun k=>decide (k<n))&&(List.range L).all fun k=>decide (σ[k]? =some k)
theorem Ay.comp {L:Nat} (live σ:List Nat) (S:St) (h:Is σ L S.h.length=true):Ay L S (comp live σ S):=by
 simp only [Is,zAL,zBg,zAW,zAd] at h;exact (Ay.forget live S.fr S.h).trans (Ay.compact σ _ h.1.1 (fun k hk=>h.1.2 k hk) (fun k hk=>h.2 k hk))
def Rq (live σ:List Nat) (L:Nat) (r:KO×St×List Prop×BF):KO×List DV×DH×List Prop×List (DV×DH×Bool)×List (Nat×DV)×Bool:=(r.1,(Proofs.YtkjbblkieglmlaaGreatDoor.comp live σ r.2.1).fr,(Proofs.YtkjbblkieglmlaaGreatDoor.comp live σ r.2.1).h,r.2.2.1,r.2.2.2.calls,r.2.2.2.co,Is σ L r.2.1.h.length)
section
variable {P:Program} {Γ:Aq} {F:Fence} {B:Option Nat} {L:Nat} {Y N:BR P Γ L} {Q:QY P Γ L}
theorem uQ {A9:Bi} {n:Nat} {k:List KI} {S:St} {o:BF} {live σ:List Nat} {r:KO} {fr:List DV} {h':DH} {vs:List Prop} (h:(B9 P Γ A9 n k S o).map (Rq live σ L)=some (r,fr,h',vs,[],[],true)):
 ∃ S' o',B9 P Γ A9 n k S o=some (r,S',vs,o')/\ Ay L S' ⟨fr,h'⟩:=by
 cases hr:B9 P Γ A9 n k S o with
 | none=>rw [hr] at h;cases h
 | some r=>
  obtain ⟨r1,S1,CL,⟨c1,o1,z1,g1⟩⟩:=r;rw [hr] at h;simp only [zBV,Rq,zC5,zD1] at h;obtain ⟨rfl,rfl,rfl,rfl,rfl,rfl,hs⟩:=h;exact ⟨S1,_,rfl,Ay.comp live σ S1 hs⟩
def Hn:List KI -> Bool
 | .code _::_=>true
 | .loopN _ _::_=>true
 | _=>false
theorem Jl.weaken {b:Code} {m:Nat} {S S':St} (hS:Ay L S S') (h:Jl P Γ F B L b Q m S' Y):Jl P Γ F B L b Q m S Y:=by
 cases m with
 | zero=>exact h.elim
 | succ m=>exact Tr.weaken hS h
theorem Bg.le {k:List KI} {S S':St} (hS:Ay L S S') (hc:Hn k=true) (h:An P Γ F B L Y Q k S'):An P Γ F B L Y Q k S:=by
 unfold Hn at hc;split at hc
 ·exact An.weaken hS h ⟨_,_,rfl⟩
 ·exact Jl.weaken hS h
 ·cases hc
theorem Ay.frzE {S:St} (k:Nat) (S':St) (vs:List Prop) (h:TN k S=some (S',vs)) (hv:Ba vs):Ay L S S':=fun P Γ N ρ a w R=>
 ⟨ρ,(Dw.frzE k S' vs h hv P Γ N ρ a w R).1,(Dw.frzE k S' vs h hv P Γ N ρ a w R).2,CA.refl _ _⟩
theorem Ay.compE {S:St} (σ:List Nat) (h:Is σ L S.h.length=true):Ay L S (E1 σ S):=by
 simp only [Is,zAL,zBg,zAW,zAd] at h;exact Ay.compact σ _ h.1.1 (fun k hk=>h.1.2 k hk) (fun k hk=>h.2 k hk)
def Vp:Option DO -> Bool
 | some (.iter _)=>false
 | _=>true
theorem NR {h:DH} (hb:h.all Vp=true):SG h:=fun k encs hk=>by
 have:=zAW.1 hb _ (zDz hk);cases this
theorem Ad.refL {h:DH} {k:Nat} {l l0:List DV} (hk:h[k]? =some (some (.cells l))) (hs:MU h l l0):Ad h (.ref k 0) (.fp l.length (fun j=>l0.getD j .any)):=
 Ad.ref hk (zAm _) fun j hj=>(QT hs).2 j hj
theorem Ad.fnL {h:DH} {g:Nat} {l l0:List DV} (hs:MU h l l0):Ad h (.fn g l.length (fun j=>l.getD j .any)) (.fn g l.length (fun j=>l0.getD j .any)):=by
 rintro P Γ N ρ w v H ⟨lb,e,hl,hc⟩;exact ⟨lb,e,hl,fun j hj=>let ⟨u,h1,h2⟩:=hc j hj;⟨u,h1,(QT hs).2 j hj P Γ N ρ w u H h2⟩⟩
theorem AS.ixI (l:List Int) {n:Int} {m:Nat} (hm:m=l.length) (h:(0:Int)<=n/\ n<((m:Nat):Int)):AS ((l.map (DV.int .i64)).getD n.toNat .any) (.int .i64 (l.getD n.toNat 0)):=by
 subst hm;have hl:n.toNat<l.length:=by omega
 have:(l.map (DV.int .i64)).getD n.toNat .any= .int .i64 (l.getD n.toNat 0):=by simp [hl]
 rw [this];exact AS.refl _
theorem AS.mslN {k m o n n':Nat} (h:n=n'):AS (.msl k m o n) (.msl k m o n'):=by rw [h];exact AS.refl _
def sM:DO -> Bool
 | .ints _=>true
 | .bools _=>true
 | _=>false
theorem ES.snapNew {f:Nat} {ds D9:List DV} {m n:Nat} {o:DO} (h0:ES P Γ f D9 [] (.msl 0 m 0 n) [some o] true) (h:DH) (hs:MU h ds D9) (ho:sM o=true):ES P Γ f ds h (.msl h.length m 0 n) (h++[some o]) true:=by
 obtain ⟨hl,hs⟩:=QT hs;refine ⟨h0.1,fun N ρ w args HR Ch=>?_⟩;refine (h0.2 (fun _=>False) [] w args (Pc (fun b hb=>hb.elim) HR.gi) ⟨by rw [hl];exact Ch.1,fun i hi=>?_⟩).mono ?_
 ·rw [hl] at hi;exact AM.out _ (C6 (fun b hb=>OZ.1 hb) []) (hs i hi P Γ N ρ w _ HR (Ch.2 i hi))
 ·rintro e w' ⟨v,rfl,⟨⟨ρ',g1,g2,g3,g4⟩,g5⟩⟩;have hE:=g5 rfl;obtain ⟨p,hp,C8⟩:=g1.obj 0 o rfl;have hf: ∀ b,p.foot b -> w.heap.size<=b:=fun b hb=>(g3.grow b ⟨0,o,p,rfl,hp,hb⟩).resolve_left fun ⟨k,o',p',q1,_⟩=>by simp at q1
  obtain ⟨p',cap,BD,e1,e2,e3,e4⟩:=g2;have ep:p'=p:=zAU (BD.symm.trans hp);subst ep;refine ⟨v,rfl,⟨⟨ρ++[p'],HR.snoc hE (fun b hb=>⟨hf b hb,(g1.cel 0 o p' b rfl hp hb).2.2⟩) ?_,⟨p',cap,by rw [←HR.len];simp,e1,e2,e3,e4⟩,A6.snoc HR hE hf,fun _ _ h=>EV h⟩,g5⟩⟩;cases o with
  | ints l=>exact AZ.out C8 rfl fun j u _ hu=>hu
  | bools l=>exact AZ.out C8 rfl fun j u _ hu=>hu
  | cells l=>cases ho
  | arr m n f=>cases ho
  | iter encs=>cases ho
  | mo x=>cases ho
  | ro l=>cases ho
theorem cz {h:DH}: ∀ {ds:List DV},ds.all Ep=true -> MU h ds ds
 | [],_=>trivial
 | d::ds,hd=>by
  simp only [zFb,zAL] at hd;exact ⟨Ad.plain hd.1,cz hd.2⟩
theorem AS.aggL {m:Nat} {l l':List DV} (hm:m=l.length) (h:MV l l'):AS (.agg m (fun j=>l.getD j .any)) (.agg m (fun j=>l'.getD j .any)):=by
 subst hm;rintro M w ρ v ⟨cs,e,hs,hc⟩;exact ⟨cs,e,hs,fun j hj=>let ⟨u,h1,h2⟩:=hc j hj;⟨u,h1,(T9 h).2 j hj M w ρ u h2⟩⟩
theorem AS.tupL {m:Nat} {l l':List DV} (hm:m=l.length) (h:MV l l'):AS (.tup m (fun j=>l.getD j .any)) (.tup m (fun j=>l'.getD j .any)):=by
 subst hm;rintro M w ρ v ⟨cs,e,hs,hc⟩;exact ⟨cs,e,hs,fun j hj=>let ⟨u,h1,h2⟩:=hc j hj;⟨u,h1,(T9 h).2 j hj M w ρ u h2⟩⟩
theorem Ad.dle {h:DH} {d d0:DV} (hn:Ep d=true) (hd:AS d d0):Ad h d d0:=fun P Γ N ρ w v H hr=>hd _ _ _ _ ((Ad.nref (KD hn)) P Γ N ρ w v H hr)
theorem ES.argsLe {f:Nat} {ds D9:List DV} {h h':DH} {d:DV} {ext:Bool} (h0:ES P Γ f D9 h d h' ext) (hd:MV ds D9):ES P Γ f ds h d h' ext:=by
 obtain ⟨hl,hd⟩:=T9 hd;exact ⟨h0.1,fun N ρ w args HR Ch=>h0.2 N ρ w args HR ⟨by rw [←hl];exact Ch.1,fun i hi=>hd i (by omega) _ _ _ _ (Ch.2 i (by omega))⟩⟩
theorem AS.mse_msl {k m o n n':Nat} (h:0<n) (e:n=n'):AS (.mse k m o n) (.msl k m o n'):=by
 subst e;rintro M w ρ v ⟨p,a,cap,hp,rfl,h1,h2,h3⟩;obtain ⟨rfl,h4⟩:=h3 (by omega);exact ⟨p,cap,hp,rfl,h1,h2,h4⟩
theorem AS.mse_nil {k m o n:Nat} (h:n=0):AS (.mse k m o n) (.ints []):=by
 subst h;rintro M w ρ v ⟨p,a,cap,hp,rfl,h1,h2,h3⟩;exact ⟨a,cap,rfl,zEf _,zEf _,fun j hj=>absurd hj (zAf j)⟩
theorem tq {n:Nat} (h:(n==0)=false):0<n:=by
 have:n≠0:=by simpa using h
 omega
def LN (k off k':Nat):DV -> DV
 | .msl k1 m o n=>if k1=k/\ m=1/\ o=off then .msl k' 1 0 n else .msl k1 m o n
 | d=>d
def gQ (k off:Nat) (S:St):Option (St×List Prop):=match S.h.getD k none with
 | some (.ints l)=>some (⟨S.fr.map (LN k off S.h.length),S.h.set k none++[some (.ints (l.drop off))]⟩,[off<=l.length])
 | _=>none
theorem Ay.rootE {S:St} (k off:Nat) (S':St) (vs:List Prop) (h:gQ k off S=some (S',vs)) (hv:Ba vs):Ay L S S':=fun P Γ N ρ a w R=>by
 unfold gQ at h;split at h
 ·rename_i l hl;cases h;have hv:=hv.1;have hk:=getD_some hl;obtain ⟨p,hp,hr⟩:=R.hr.obj k _ hk;have hr:AZ w p l.length _:=hr;obtain ⟨hf,cs,t,c1,c2,c3,c4⟩:=hr
  let p':AI:={ p with off:=p.off+off }
  obtain ⟨g1,g2⟩:=R.hr.regrow (o':=.ints (l.drop off)) (p':=p') hk hp (AP.refl _ _) (fun b hb=>⟨.inl hb,(R.hr.cel k _ p b hk hp hb).2.2⟩) (by
   refine ⟨hf,cs,t,c1,?_,c3,fun j hj=>?_⟩
   ·simp only [zFv,p'];omega
   ·rw [zFv] at hj;obtain ⟨u,q1,q2⟩:=c4 (off+j) (by omega);refine ⟨u,by rw [←q1];simp only [p',zDy],?_⟩;rw [q2];simp [u8,zEi])
  have O:BU (MS N S.h ρ) w ρ (MS N (S.h.set k none++[some (.ints (l.drop off))]) (ρ++[p'])) w (ρ++[p']):=⟨fun _ _ _ _=>rfl,fun b hb=>hb.elim (fun h=>.inl (.inl h)) fun h=>(g2.grow b h).imp .inr id,fun _ _ h=>EV h⟩;refine ⟨ρ++[p'],⟨g1,by simp [R.fr.1],fun i hi=>?_⟩,g2,fun _ _ _ h=>EV h⟩;have BP:i<S.fr.length:=by simpa using hi
  have e:(S.fr.map (LN k off S.h.length)).getD i .any=LN k off S.h.length (S.fr.getD i .any):=by simp [BP]
  show AM _ w ((S.fr.map (LN k off S.h.length)).getD i .any) _ _
  rw [e];have r0:=R.fr.2 i BP;cases hd:S.fr.getD i .any with
  | msl k1 m o n=>
   rw [hd] at r0
   by_cases hc:k1=k/\ m=1/\ o=off
   ·have e2:LN k off S.h.length (.msl k1 m o n)= .msl S.h.length 1 0 n:=by simp only [LN,zAB hc]
    rw [e2];obtain ⟨h1,h2,h3⟩:=hc;rw [h1,h2,h3] at r0;obtain ⟨q,cap,hq,hu,u1,u2,u3⟩:=r0;have eq:q=p:=zAU (hq.symm.trans hp);subst eq;exact ⟨p',cap,by rw [←R.hr.len];simp,by rw [hu];simp [p'],u1,u2,by simp only [p'];omega⟩
   ·have e2:LN k off S.h.length (.msl k1 m o n)= .msl k1 m o n:=by simp only [LN,zAZ hc]
    rw [e2];exact AM.out _ O r0
  | _=>rw [hd] at r0;exact AM.out _ O r0
 ·cases h
end
end Go.Proofs.YtkjbblkieglmlaaGreatDoor
namespace Go.Proofs.YtkjbblkieglmlaaGreatDoor
abbrev zD8:=@Nat.le_of_ble_eq_true
end Go.Proofs.YtkjbblkieglmlaaGreatDoor
namespace Go.Proofs.YtkjbblkieglmlaaGreatDoor
open Go.RowKit
def E7 (σ:List Nat) (b k:Nat):Nat:=if k<σ.length then σ.getD k 0 else b+(k-σ.length)
def up (σ:List Nat) (b:Nat):DV -> DV
 | .ref k j=>.ref (E7 σ b k) j
 | .msl k m o n=>.msl (E7 σ b k) m o n
 | .mse k m o n=>.mse (E7 σ b k) m o n
 | .mri k i=>.mri (E7 σ b k) i
 | .mp k m i j=>.mp (E7 σ b k) m i j
 | .it k=>.it (E7 σ b k)
 | .agg m f=>.agg m (Fw m fun j=>up σ b (f j))
 | .tup m f=>.tup m (Fw m fun j=>up σ b (f j))
 | .fn g m c=>.fn g m (Fw m fun j=>up σ b (c j))
 | d=>d
def Ed (σ:List Nat) (b:Nat):Option DO -> Option DO
 | some (.cells l)=>some (.cells (l.map (up σ b)))
 | some (.ro l)=>some (.ro (l.map (up σ b)))
 | o=>o
def Ez (H:DH) (σ:List Nat) (h':DH):DH:=((List.range H.length).map fun k=>match D0 σ k with
 | some i=>Ed σ H.length (h'.getD i none)
 | none=>H.getD k none)++(h'.drop σ.length).map (Ed σ H.length)
theorem Y0 {σ:List Nat} (hn:σ.Nodup) {i k:Nat} (h:σ[i]? =some k):D0 σ k=some i:=by
 induction σ generalizing i with
 | nil=>simp at h
 | cons x σ ih=>
  unfold D0;cases i with
  | zero=>
   have:x=k:=by simpa using h
   rw [zAB this]
  | succ i=>
   have h':σ[i]? =some k:=by simpa using h
   have Ak:x≠k:=by
    rintro rfl;exact (zF5.1 hn).1 (zDz h')
   rw [zAZ Ak,ih (zF5.1 hn).2 h'];rfl
theorem YA {σ:List Nat} {b:Nat} {x:Option DO} {o:DO} (h:Ed σ b x=some o): ∃ o0,x=some o0:=by
 cases x with
 | none=>cases h
 | some o0=>exact ⟨o0,rfl⟩
section
variable {P:Program} {Γ:Aq}
theorem X9 {M M':Nat -> Prop} {w:World} {σ:List Nat} {b:Nat} {ρ ρ':List AI} (hM: ∀ b,M' b -> M b) (hρ: ∀ (k:Nat) (p:AI),ρ[k]? =some p -> ρ'[E7 σ b k]? =some p): ∀ (d:DV) {v:Value},AM M w d ρ v -> AM M' w (up σ b d) ρ' v:=by
 have low: ∀ (d:DV) {v:Value},AM M w d [] v -> AM M' w d [] v:=fun d v h=>h.out d (C6 hM [])
 intro d
 induction d with
 | any=>intro v _;trivial
 | nils=>intro v h;exact h
 | int k n=>intro v h;exact h
 | bool b=>intro v h;exact h
 | str s=>intro v h;exact h
 | ints l=>intro v h;exact low (.ints l) h
 | bools l=>intro v h;exact low (.bools l) h
 | sl m n f _=>intro v h;exact low (.sl m n f) h
 | fp m f _=>intro v h;exact low (.fp m f) h
 | agg m f ih=>
  rintro v ⟨cs,e,hs,h⟩;exact ⟨cs,e,hs,fun j hj=>let ⟨u,h1,h2⟩:=h j hj;⟨u,h1,Jt hj (ih j h2)⟩⟩
 | tup m f ih=>
  rintro v ⟨cs,e,hs,h⟩;exact ⟨cs,e,hs,fun j hj=>let ⟨u,h1,h2⟩:=h j hj;⟨u,h1,Jt hj (ih j h2)⟩⟩
 | fn g m c ih=>
  rintro v ⟨cs,e,hs,h⟩;exact ⟨cs,e,hs,fun j hj=>let ⟨u,h1,h2⟩:=h j hj;⟨u,h1,Jt hj (ih j h2)⟩⟩
 | ref k j=>rintro v ⟨p,hp,r⟩;exact ⟨p,hρ k p hp,r⟩
 | msl k m o n=>rintro v ⟨p,cap,hp,r⟩;exact ⟨p,cap,hρ k p hp,r⟩
 | mp k m i j=>rintro v ⟨p,hp,r⟩;exact ⟨p,hρ k p hp,r⟩
 | it k=>rintro v ⟨p,hp,r⟩;exact ⟨p,hρ k p hp,r⟩
 | cst u=>intro v h;exact h
 | yl l=>intro v h;exact h
 | mse k m o n=>rintro v ⟨p,a,cap,hp,r⟩;exact ⟨p,a,cap,hρ k p hp,r⟩
 | mri k i=>rintro v ⟨p,vs,hp,r⟩;exact ⟨p,vs,hρ k p hp,r⟩
theorem cC {M M':Nat -> Prop} {w:World} {σ:List Nat} {b:Nat} {ρ ρ':List AI} (hM: ∀ b,M' b -> M b) (hρ: ∀ (k:Nat) (p:AI),ρ[E7 σ b k]? =some p -> ρ'[k]? =some p): ∀ (d:DV) {v:Value},AM M w (up σ b d) ρ v -> AM M' w d ρ' v:=by
 have low: ∀ (d:DV) {v:Value},AM M w d [] v -> AM M' w d [] v:=fun d v h=>h.out d (C6 hM [])
 have YB: ∀ {m j:Nat} {f:Nat -> DV} {u:Value},j<m -> AM M w (Fw m f j) ρ u -> AM M w (f j) ρ u:=fun hj h=>by rw [Ud hj] at h;exact h
 intro d
 induction d with
 | any=>intro v _;trivial
 | nils=>intro v h;exact h
 | int k n=>intro v h;exact h
 | bool b=>intro v h;exact h
 | str s=>intro v h;exact h
 | ints l=>intro v h;exact low (.ints l) h
 | bools l=>intro v h;exact low (.bools l) h
 | sl m n f _=>intro v h;exact low (.sl m n f) h
 | fp m f _=>intro v h;exact low (.fp m f) h
 | agg m f ih=>
  rintro v ⟨cs,e,hs,h⟩;exact ⟨cs,e,hs,fun j hj=>let ⟨u,h1,h2⟩:=h j hj;⟨u,h1,ih j (YB hj h2)⟩⟩
 | tup m f ih=>
  rintro v ⟨cs,e,hs,h⟩;exact ⟨cs,e,hs,fun j hj=>let ⟨u,h1,h2⟩:=h j hj;⟨u,h1,ih j (YB hj h2)⟩⟩
 | fn g m c ih=>
  rintro v ⟨cs,e,hs,h⟩;exact ⟨cs,e,hs,fun j hj=>let ⟨u,h1,h2⟩:=h j hj;⟨u,h1,ih j (YB hj h2)⟩⟩
 | ref k j=>rintro v ⟨p,hp,r⟩;exact ⟨p,hρ k p hp,r⟩
 | msl k m o n=>rintro v ⟨p,cap,hp,r⟩;exact ⟨p,cap,hρ k p hp,r⟩
 | mp k m i j=>rintro v ⟨p,hp,r⟩;exact ⟨p,hρ k p hp,r⟩
 | it k=>rintro v ⟨p,hp,r⟩;exact ⟨p,hρ k p hp,r⟩
 | cst u=>intro v h;exact h
 | yl l=>intro v h;exact h
 | mse k m o n=>rintro v ⟨p,a,cap,hp,r⟩;exact ⟨p,a,cap,hρ k p hp,r⟩
 | mri k i=>rintro v ⟨p,vs,hp,r⟩;exact ⟨p,vs,hρ k p hp,r⟩
theorem oG {M M':Nat -> Prop} {w:World} {σ:List Nat} {b:Nat} {ρ ρ':List AI} {p:AI} (hM: ∀ b,M' b -> M b) (hρ: ∀ (k:Nat) (p:AI),ρ[k]? =some p -> ρ'[E7 σ b k]? =some p) {o o':DO} (ho:Ed σ b (some o)=some o') (h:Dx P M w ρ p o):Dx P M' w ρ' p o':=by
 cases o with
 | cells l=>
  cases ho
  show AZ w p (l.map (up σ b)).length _
  rw [zAn];refine AZ.out h rfl fun j u hj hu=>?_
  have:(l.map (up σ b)).getD j .any=up σ b (l.getD j .any):=by simp [hj]
  rw [this];exact X9 hM hρ _ hu
 | ints l=>cases ho;exact AZ.out h rfl fun j u _ hu=>hu
 | bools l=>cases ho;exact AZ.out h rfl fun j u _ hu=>hu
 | arr m n f=>cases ho;exact AZ.out h rfl fun j u _ hu=>AM.out _ (C6 hM []) hu
 | iter encs=>
  cases ho;obtain ⟨gf,lb,Rd,q1,q2,q3,q4⟩:=h;exact ⟨gf,lb,Rd,q1,q2,fun b hb=>⟨fun hm=>(q3 b hb).1 (hM b hm),(q3 b hb).2⟩,q4⟩
 | ro l=>
  cases ho;obtain ⟨r1,r2,r3⟩:=h;refine ⟨r1,fun hm=>r2 (hM _ hm),?_⟩
  show AZ w _ (l.map (up σ b)).length _
  rw [zAn];refine AZ.out r3 rfl fun j u hj hu=>?_
  have:(l.map (up σ b)).getD j .any=up σ b (l.getD j .any):=by simp [hj]
  rw [this];exact X9 hM hρ _ hu
 | mo x=>cases ho;exact h
theorem zBj {M M':Nat -> Prop} {w:World} {σ:List Nat} {b:Nat} {ρ ρ':List AI} {p:AI} (hM: ∀ b,M' b -> M b) (hρ: ∀ (k:Nat) (p:AI),ρ[E7 σ b k]? =some p -> ρ'[k]? =some p) {o o':DO} (ho:Ed σ b (some o)=some o') (h:Dx P M w ρ p o'):Dx P M' w ρ' p o:=by
 cases o with
 | cells l=>
  cases ho;have h:AZ w p (l.map (up σ b)).length _:=h;rw [zAn] at h;refine AZ.out h rfl fun j u hj hu=>?_
  have:(l.map (up σ b)).getD j .any=up σ b (l.getD j .any):=by simp [hj]
  rw [this] at hu;exact cC hM hρ _ hu
 | ints l=>cases ho;exact AZ.out h rfl fun j u _ hu=>hu
 | bools l=>cases ho;exact AZ.out h rfl fun j u _ hu=>hu
 | arr m n f=>cases ho;exact AZ.out h rfl fun j u _ hu=>AM.out _ (C6 hM []) hu
 | iter encs=>
  cases ho;obtain ⟨gf,lb,Rd,q1,q2,q3,q4⟩:=h;exact ⟨gf,lb,Rd,q1,q2,fun b hb=>⟨fun hm=>(q3 b hb).1 (hM b hm),(q3 b hb).2⟩,q4⟩
 | ro l=>
  cases ho;obtain ⟨r1,r2,r3⟩:=h;refine ⟨r1,fun hm=>r2 (hM _ hm),?_⟩;have h:AZ w _ (l.map (up σ b)).length _:=r3;rw [zAn] at h;refine AZ.out h rfl fun j u hj hu=>?_
  have:(l.map (up σ b)).getD j .any=up σ b (l.getD j .any):=by simp [hj]
  rw [this] at hu;exact cC hM hρ _ hu
 | mo x=>cases ho;exact h
theorem ES.embedX {f:Nat} {ds:List DV} {h:DH} {d:DV} {h':DH} {ext:Bool} (Ey:ES P Γ f ds h d h' ext) (σ:List Nat) (H:DH) (hn:σ.Nodup) (AN: ∀ k∈σ,k<H.length) (hl:σ.length=h.length) (Ew:h.length<=h'.length)
 (hh:(σ.map fun k=>H.getD k none)=h.map (Ed σ H.length)):(∃ fn,P.funcs[f]? =some fn/\ fn.name≠ "runtime.NumGoroutine" /\ fn.body.isSome=true)/\
 ∀ (N:Nat -> Prop) (ρ:List AI) (w:World) (args:Array Value),A1 P Γ N H ρ w -> BC (MS N H ρ) w ρ (ds.map (up σ H.length)) args ->
  Calls P f args w fun e w'=>∃ v,e= .returned v/\ CW P Γ N H ρ w ext (up σ H.length d) (Ez H σ h') v w'/\ AP (fun b=>∃ i o p,i∈σ/\ H[i]? =some (some o)/\ ρ[i]? =some p/\ p.foot b) w w':=by
 refine ⟨Ey.1,fun N ρ w args HR Ch=>?_⟩;obtain ⟨ρ0,kA⟩: ∃ ρ0,ρ0=σ.map fun k=>ρ.getD k i6:=⟨_,rfl⟩
 have jP:ρ0.length=σ.length:=by rw [kA];simp
 have Jh: ∀ {i k:Nat},σ[i]? =some k -> ρ0[i]? =ρ[k]? :=fun {i k} hk=>by
  have BX:k<ρ.length:=by rw [HR.len];exact AN k (zDz hk)
  rw [kA,zA1,hk];simp [BX]
 have Ur: ∀ {i:Nat},i<σ.length -> ∃ k,σ[i]? =some k/\ E7 σ H.length i=k:=fun {i} hi=>by
  refine ⟨σ[i],by simp [hi],?_⟩;unfold E7;rw [zAB hi];simp [hi]
 have NM: ∀ {i:Nat} {o:DO},h[i]? =some (some o) -> ∃ k o',σ[i]? =some k/\ H[k]? =some (some o')/\ Ed σ H.length (some o)=some o':=fun {i o} hi=>by
  have Eh:i<σ.length:=by rw [hl];exact (zAV.1 hi).1
  obtain ⟨k,hk,_⟩:=Ur Eh;have e:=congrArg (·[i]?) hh;simp only [zA1,hk,hi,zBV] at e;have D6:=AN k (zDz hk);have e:H.getD k none=Ed σ H.length (some o):=zAU e;have e2: ∃ o',Ed σ H.length (some o)=some o':=by cases o <;> exact ⟨_,rfl⟩
  obtain ⟨o',JJ⟩:=e2;refine ⟨k,o',hk,?_,JJ⟩;rw [JJ] at e;rw [zAQ D6];rw [u8,zAQ D6] at e;exact congrArg some e
 have uX: ∀ {i k:Nat} {o':DO},σ[i]? =some k -> H[k]? =some (some o') -> ∃ o,h[i]? =some (some o)/\ Ed σ H.length (some o)=some o':=fun {i k o'} hk ho=>by
  have Eh:i<h.length:=by rw [←hl];exact (zAV.1 hk).1
  have e:=congrArg (·[i]?) hh;simp only [zA1,hk,zAQ Eh,zBV] at e;have e:H.getD k none=Ed σ H.length h[i]:=zAU e;rw [lY ho] at e;obtain ⟨o0,e0⟩:=YA e.symm;exact ⟨o0,by rw [zAQ Eh,e0],by rw [e0] at e;exact e.symm⟩
 obtain ⟨N0,IW⟩: ∃ N0:Nat -> Prop,N0=fun b=>N b∨∃ k o p,D0 σ k=none/\ H[k]? =some (some o)/\ ρ[k]? =some p/\ p.foot b:=⟨_,rfl⟩
 have SI: ∀ b,MO h ρ0 b -> MO H ρ b:=by
  rintro b ⟨i,o,p,g1,g2,g3⟩;obtain ⟨k,o',e1,e2,_⟩:=NM g1;exact ⟨k,o',p,e2,(Jh e1).symm.trans g2,g3⟩
 have Zl: ∀ b,MS N0 h ρ0 b -> MS N H ρ b:=by
  rintro b (hb | hb)
  ·rw [IW] at hb;rcases hb with hb | ⟨k,o,p,_,g1,g2,g3⟩
   ·exact .inl hb
   ·exact .inr ⟨k,o,p,g1,g2,g3⟩
  ·exact .inr (SI b hb)
 have ms1: ∀ b,MS N H ρ b -> MS N0 h ρ0 b:=by
  rintro b (hb | ⟨k,o,p,g1,g2,g3⟩)
  ·exact .inl (by rw [IW];exact .inl hb)
  ·cases hk:D0 σ k with
   | none=>exact .inl (by rw [IW];exact .inr ⟨k,o,p,hk,g1,g2,g3⟩)
   | some i=>
    have hi:=J5 hk;obtain ⟨o0,e1,_⟩:=uX hi g1;exact .inr ⟨i,o0,p,e1,(Jh hi).trans g2,g3⟩
 have dn: ∀ (k:Nat) (p:AI),ρ[E7 σ H.length k]? =some p -> ρ0[k]? =some p:=fun k p hp=>by
  by_cases hk:k<σ.length
  ·obtain ⟨k',e1,e2⟩:=Ur hk;rw [e2] at hp;exact (Jh e1).trans hp
  ·unfold E7 at hp;rw [zAZ hk] at hp;have:=(zAV.1 hp).1;rw [HR.len] at this;omega
 have foreign: ∀ {b:Nat},N0 b -> ¬ MO h ρ0 b:=by
  rintro b hb ⟨i,o,p,g1,g2,g3⟩;obtain ⟨k,o',e1,e2,_⟩:=NM g1;have hp:=(Jh e1).symm.trans g2;rw [IW] at hb;rcases hb with hb | ⟨k',o2,p2,q1,q2,q3,q4⟩
  ·exact (HR.cel k o' p b e2 hp g3).2.1 hb
  ·refine HR.dis k k' o' o2 p p2 b ?_ e2 q2 hp q3 g3 q4;rintro rfl;rw [Y0 hn e1] at q1;cases q1
 have H0:A1 P Γ N0 h ρ0 w:=by
  refine ⟨by rw [jP,hl],fun i o hi=>?_,fun i o p b g1 g2 g3=>?_,fun i i' o1 o2 p1 p2 b Ak g1 g2 g3 g4 g5 g6=>?_,fun b hb=>HR.lt2 (Zl b (.inl hb)),HR.gi⟩
  ·obtain ⟨k,o',e1,e2,e3⟩:=NM hi;obtain ⟨p,hp,hr⟩:=HR.obj k o' e2;exact ⟨p,(Jh e1).trans hp,zBj Zl dn e3 hr⟩
  ·obtain ⟨k,o',e1,e2,e3⟩:=NM g1;obtain ⟨q1,q2,q3⟩:=HR.cel k o' p b e2 ((Jh e1).symm.trans g2) g3;exact ⟨q1,fun hb=>foreign hb ⟨i,o,p,g1,g2,g3⟩,q3⟩
  ·obtain ⟨k,o',e1,e2,e3⟩:=NM g1;obtain ⟨k',uZ,b9,bz,e3'⟩:=NM g2;refine HR.dis k k' o' uZ p1 p2 b ?_ e2 bz ((Jh e1).symm.trans g3) ((Jh b9).symm.trans g4) g5 g6;rintro rfl;have a1:=Y0 hn e1;have a2:=Y0 hn b9;exact Ak (zAU (a1.symm.trans a2))
 refine (Ey.2 N0 ρ0 w args H0 ⟨by rw [←Ch.1];simp,fun i hi=>?_⟩).mono ?_
 ·have:=Ch.2 i (by simpa using hi);have e:(ds.map (up σ H.length)).getD i .any=up σ H.length (ds.getD i .any):=by simp [hi]
  rw [e] at this;exact cC Zl dn _ this
 ·rintro e w' ⟨v,rfl,⟨⟨ρ1,g1,g2,g3,g4⟩,g5⟩⟩;have l1:ρ1.length=h'.length:=g1.len;obtain ⟨ρ',KR⟩: ∃ ρ',ρ'=ρ++ρ1.drop σ.length:=⟨_,rfl⟩
  have nS: ∀ {i k:Nat},σ[i]? =some k -> ρ1[i]? =ρ[k]? :=fun {i k} hk=>by
   have Eh:i<ρ0.length:=by rw [jP];exact (zAV.1 hk).1
   have:=g4 i ρ0[i] (by simp [Eh]);rw [this,←Jh hk];simp [Eh]
  have GZ: ∀ {k:Nat},k<H.length -> ρ'[k]? =ρ[k]? :=fun {k} hk=>by rw [KR,zAX (by rw [HR.len];exact hk)]
  have di: ∀ (k:Nat) (p:AI),ρ1[k]? =some p -> ρ'[E7 σ H.length k]? =some p:=fun k p hp=>by
   by_cases hk:k<σ.length
   ·obtain ⟨k',e1,e2⟩:=Ur hk;rw [e2,GZ (AN k' (zDz e1)),←nS e1];exact hp
   ·unfold E7;rw [zAZ hk,KR,zAb (by rw [HR.len];omega),zEi,HR.len];rw [show σ.length+(H.length+(k-σ.length)-H.length)=k by omega];exact hp
  have vW:(Ez H σ h').length=H.length+(h'.length-σ.length):=by simp [Ez]
  have Mq: ∀ {k:Nat} {o':DO},(Ez H σ h')[k]? =some (some o') -> (k<H.length/\ D0 σ k=none/\ H[k]? =some (some o')/\ ρ'[k]? =ρ[k]?)∨∃ i o,h'[i]? =some (some o)/\ Ed σ H.length (some o)=some o'/\ ρ'[k]? =ρ1[i]? /\ k=E7 σ H.length i:=by
   intro k o' hk
   by_cases D6:k<H.length
   ·unfold Ez at hk;rw [zAX (by simpa using D6),zA1,zFW D6] at hk;simp only [zBV,zC5] at hk;split at hk
    ·rename_i i hi;have Wd:=J5 hi;obtain ⟨o0,e0⟩:=YA hk;have Eh:i<h'.length:=zAY (by rw [←hl];exact (zAV.1 Wd).1) Ew;rw [e0] at hk;refine .inr ⟨i,o0,?_,hk,?_,?_⟩
     ·rw [zAQ Eh];rw [u8,zAQ Eh] at e0;exact congrArg some e0
     ·rw [GZ D6,nS Wd]
     ·obtain ⟨k2,e1,e2⟩:=Ur (zAV.1 Wd).1;rw [e2];exact zAU (Wd.symm.trans e1)
    ·rename_i hi;refine .inl ⟨D6,hi,?_,GZ D6⟩;rw [zAQ D6];rw [u8,zAQ D6] at hk;exact congrArg some hk
   ·unfold Ez at hk;rw [zAb (by simp;omega),zA1,zEi] at hk;simp only [zAn,zFI] at hk;cases hx:h'[σ.length+(k-H.length)]? with
    | none=>rw [hx] at hk;cases hk
    | some x=>
     rw [hx] at hk;have hk:Ed σ H.length x=some o':=zAU hk;obtain ⟨o0,e0⟩:=YA hk;subst e0;refine .inr ⟨σ.length+(k-H.length),o0,hx,hk,?_,?_⟩
     ·rw [KR,zAb (by rw [HR.len];omega),zEi,HR.len]
     ·unfold E7;rw [zAZ (by omega)];omega
  have back: ∀ {k:Nat} {o:DO},D0 σ k=none -> H[k]? =some (some o) -> (Ez H σ h')[k]? =some (some o):=by
   intro k o hk ho;have D6:=(zAV.1 ho).1;unfold Ez;rw [zAX (by simpa using D6),zA1,zFW D6];simp only [zBV,hk,lY ho]
  have jC: ∀ b,MS N (Ez H σ h') ρ' b -> MS N0 h' ρ1 b:=by
   rintro b (hb | ⟨k,o',p,q1,q2,q3⟩)
   ·exact .inl (by rw [IW];exact .inl hb)
   ·rcases Mq q1 with ⟨a1,a2,a3,a4⟩ | ⟨i,o,a1,a2,a3,a4⟩
    ·exact .inl (by rw [IW];exact .inr ⟨k,o',p,a2,a3,a4.symm.trans q2,q3⟩)
    ·exact .inr ⟨i,o,p,a1,a3.symm.trans q2,q3⟩
  have grow: ∀ b,MO (Ez H σ h') ρ' b -> MO H ρ b∨w.heap.size<=b:=by
   rintro b ⟨k,o',p,q1,q2,q3⟩;rcases Mq q1 with ⟨a1,a2,a3,a4⟩ | ⟨i,o,a1,a2,a3,a4⟩
   ·exact .inl ⟨k,o',p,a3,a4.symm.trans q2,q3⟩
   ·exact (g3.grow b ⟨i,o,p,a1,a3.symm.trans q2,q3⟩).imp (SI b) id
  have pl: ∀ (k:Nat) (p:AI),ρ[k]? =some p -> ρ'[k]? =some p:=fun k p hp=>by
   rw [KR,zAX (zAV.1 hp).1];exact hp
  have O:BU (MS N H ρ) w ρ (MS N (Ez H σ h') ρ') w' ρ':=
   ⟨fun b hb hm _=>g3.upd.block b hb fun hx=>hm (.inr (SI b hx)),fun b hb=>hb.elim (fun hb=>.inl (.inl hb)) (fun hb=>(grow b hb).imp .inr id),pl⟩
  refine ⟨v,rfl,⟨⟨ρ',⟨?_,fun k o' hk=>?_,fun k o' p b q1 q2 q3=>?_,fun k k' o1 o2 p1 p2 b Ak q1 q2 q3 q4 q5 q6=>?_,fun b hb=>⟨zAY (HR.nlt b hb).1 g3.upd.size,(HR.nlt b hb).2⟩,g1.gi⟩,X9 jC di _ g2,⟨g3.upd.mono fun b _ hb=>SI b hb,grow⟩,pl⟩,g5⟩,g3.upd.mono fun b _ ⟨i,o,p,q1,q2,q3⟩=>?_⟩
  ·rw [vW,KR];simp [HR.len,l1]
  ·rcases Mq hk with ⟨a1,a2,a3,a4⟩ | ⟨i,o,a1,a2,a3,a4⟩
   ·obtain ⟨p,hp,hr⟩:=HR.obj k o' a3;refine ⟨p,a4.trans hp,hr.out O g3.upd (fun b hb=>.inr (SI b hb)) fun b _ hf hs=>?_⟩;exact foreign (by rw [IW];exact .inr ⟨k,o',p,a2,a3,hp,hf⟩) hs
   ·obtain ⟨p,hp,hr⟩:=g1.obj i o a1;exact ⟨p,a3.trans hp,oG jC di a2 hr⟩
  ·rcases Mq q1 with ⟨a1,a2,a3,a4⟩ | ⟨i,o,a1,a2,a3,a4⟩
   ·have hp:=a4.symm.trans q2;obtain ⟨c1,c2,c,t,z,c3⟩:=HR.cel k o' p b a3 hp q3;refine ⟨c1,c2,c,t,z,(g3.upd.block b (zAJ.1 c3).1 fun hx=>?_).trans c3⟩;exact foreign (by rw [IW];exact .inr ⟨k,o',p,a2,a3,hp,q3⟩) hx
   ·obtain ⟨c1,c2,c3⟩:=g1.cel i o p b a1 (a3.symm.trans q2) q3;exact ⟨c1,fun hb=>c2 (by rw [IW];exact .inl hb),c3⟩
  ·rcases Mq q1 with ⟨a1,a2,a3,a4⟩ | ⟨i,o,a1,a2,a3,a4⟩
   ·rcases Mq q2 with ⟨c1,c2,c3,c4⟩ | ⟨i',o',c1,c2,c3,c4⟩
    ·exact HR.dis k k' o1 o2 p1 p2 b Ak a3 c3 (a4.symm.trans q3) (c4.symm.trans q4) q5 q6
    ·exact (g1.cel i' o' p2 b c1 (c3.symm.trans q4) q6).2.1 (by rw [IW];exact .inr ⟨k,o1,p1,a2,a3,a4.symm.trans q3,q5⟩)
   ·rcases Mq q2 with ⟨c1,c2,c3,c4⟩ | ⟨i',o',c1,c2,c3,c4⟩
    ·exact (g1.cel i o p1 b a1 (a3.symm.trans q3) q5).2.1 (by rw [IW];exact .inr ⟨k',o2,p2,c2,c3,c4.symm.trans q4,q6⟩)
    ·refine g1.dis i i' o o' p1 p2 b ?_ a1 c1 (a3.symm.trans q3) (c3.symm.trans q4) q5 q6;rintro rfl;exact Ak (a4.trans c4.symm)
  ·obtain ⟨k,o',e1,e2,_⟩:=NM q1;exact ⟨k,o',p,zDz e1,e2,(Jh e1).symm.trans q2,q3⟩
theorem ES.embed {f:Nat} {ds:List DV} {h:DH} {d:DV} {h':DH} {ext:Bool} (Ey:ES P Γ f ds h d h' ext) (σ:List Nat) (H:DH) (hn:σ.Nodup) (AN: ∀ k∈σ,k<H.length) (hl:σ.length=h.length) (Ew:h.length<=h'.length)
 (hh:(σ.map fun k=>H.getD k none)=h.map (Ed σ H.length)):ES P Γ f (ds.map (up σ H.length)) H (up σ H.length d) (Ez H σ h') ext:=
 let ⟨h1,h2⟩:=Ey.embedX σ H hn AN hl Ew hh
 ⟨h1,fun N ρ w args HR ha=>(h2 N ρ w args HR ha).mono fun _ _ ⟨v,e,g,_⟩=>⟨v,e,g⟩⟩
def MH (σ:List Nat) (n l l':Nat):Bool:=decide σ.Nodup&&σ.all (fun k=>decide (k<n))&&decide (σ.length=l)&&decide (l<=l')
theorem ES.embedB {f:Nat} {ds:List DV} {h:DH} {d:DV} {h':DH} {ext:Bool} (Ey:ES P Γ f ds h d h' ext) (σ:List Nat) (H:DH) (hb:MH σ H.length h.length h'.length=true) (hh:(σ.map fun k=>H.getD k none)=h.map (Ed σ H.length))
 {cA:List DV} {d1:DV} {H1:DH} (e:(ds.map (up σ H.length),up σ H.length d,Ez H σ h')=(cA,d1,H1)):ES P Γ f cA H d1 H1 ext:=by
 simp only [MH,zAL,zBg,zAW] at hb;cases e;exact Ey.embed σ H hb.1.1.1 (fun k hk=>hb.1.1.2 k hk) hb.1.2 hb.2 hh
theorem ES.embedU {f:Nat} {ds:List DV} {h:DH} {d:DV} {h':DH} {ext:Bool} (Ey:ES P Γ f ds h d h' ext) (σ:List Nat) (H:DH) (k:Nat) (hb:MH σ H.length h.length h'.length=true) (hk:σ.all (fun j=>Nat.ble k j)=true) (hh:(σ.map fun k=>H.getD k none)=h.map (Ed σ H.length)):Oc P Γ f (ds.map (up σ H.length)) H (up σ H.length d) (Ez H σ h') k:=by
 simp only [MH,zAL,zBg,zAW] at hb;obtain ⟨h1,h2⟩:=Ey.embedX σ H hb.1.1.1 (fun k hk=>hb.1.1.2 k hk) hb.1.2 hb.2 hh;refine ⟨h1,fun N ρ w args HR ha=>(h2 N ρ w args HR ha).mono ?_⟩;rintro e w' ⟨v,e,⟨g1,g2⟩,hu⟩;exact ⟨v,e,⟨g1,fun h=>by cases h⟩,hu.mono fun b _ ⟨i,o,p,q1,q2⟩=>⟨i,o,p,zD8 (zAW.1 hk i q1),q2⟩⟩
end
end Go.Proofs.YtkjbblkieglmlaaGreatDoor
