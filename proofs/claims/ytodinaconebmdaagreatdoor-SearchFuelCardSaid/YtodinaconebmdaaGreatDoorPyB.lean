/- Part 2 of 7 of what the proofs of these laws stand on. -/
import Derived.Test.YtodinaconebmdaaGreatDoorPyA
import Derived.MapKept
import Derived.Test.YtodinaconebmdaaGreatDoorProg
import Derived.Shelf.Spec.TrailingZeros
set_option linter.all false
namespace Go.Proofs.YtodinaconebmdaaGreatDoor
abbrev zB3:=@List.mem_append
abbrev zFi:=@Go.MapKept.run_getObj_map
abbrev zFk:=@Bool.eq_iff_iff
abbrev zGG:=@List.not_mem_nil
abbrev zGW:=@Go.MapKept.run_setObj_map
abbrev zGn:=@beq_self_eq_true
abbrev zGs:=@Go.MapKept.run_findKey
abbrev zGy:=@List.nodup_cons
abbrev zG9:=@List.Perm.refl
open Go.RowKit
def UW (P:Program)(t:TypeId):Bool:=match P.underlying t with
 | some (.int .i64)=>true
 | _=>false
theorem b6 {P:Program}{t:TypeId}(h:UW P t=true):P.underlying t=some (.int .i64):=by
 unfold UW at h;split at h
 ·assumption
 ·cases h
def G6 (P:Program)(t:TypeId):Option Nat:=match P.underlying t with
 | some (.int .i64)=>some 1
 | some (.struct fs)=>match fs.toList with
  | [f,g]=>if f.name != "_" &&g.name != "_" &&decide (f.offset=0)&&decide (g.offset=1)&&UW P f.type&&UW P g.type&&!P.stoodInHeld t then some 2 else none
  | _=>none
 | _=>none
section
variable {P:Program} {w:World} {t:TypeId}
theorem Q2 {n:Nat}(h:G6 P t=some n):(n=1/\ P.underlying t=some (.int .i64))∨∃ f g fs,n=2/\ P.underlying t=some (.struct fs)/\ fs.toList= [f,g]/\ f.name≠ "_" /\ g.name≠ "_" /\ f.offset=0/\ g.offset=1/\ P.underlying f.type=some (.int .i64)/\ P.underlying g.type=some (.int .i64)/\ P.stoodInHeld t=false:=by
 unfold G6 at h;split at h
 ·exact .inl ⟨(zAV h).symm,by assumption⟩
 ·rename_i fs hu;split at h
  ·rename_i f g hf;split at h
   ·rename_i hc;simp only [zAO,zFy,ne_eq,zCJ,zCg] at hc;obtain ⟨⟨⟨⟨⟨⟨h1,h2⟩,h3⟩,h4⟩,h5⟩,h6⟩,h7⟩:=hc;exact .inr ⟨f,g,fs,(zAV h).symm,hu,hf,h1,h2,h3,h4,b6 h5,b6 h6,h7⟩
   ·cases h
  ·cases h
 ·cases h
theorem Qd {t:TypeId}(h:P.underlying t=some (.int .i64))(cs:Array Value)(o:Nat)(v:Value)(hv:cs[o]? =some v):(part t cs o).run P w= .ok v w:=by
 unfold part;rw [zBx,TV h];simp [Result.andThen,Ig,h,hv]
theorem Xt {x:List Int}(h:x.length=2): ∃ a b,x= [a,b]:=by
 match x,h with
 | [a,b],_=>exact ⟨a,b,rfl⟩
theorem Ow {x:List Int}(h:x.length=1): ∃ a,x= [a]:=by
 match x,h with
 | [a],_=>exact ⟨a,rfl⟩
theorem Q0 {n:Nat}(hk:G6 P t=some n){x:List Int}(hx:x.length=n)(e:Bool):(Instr.checkKey e 10000 t (BP x)).run P w= .ok () w:=by
 rcases Q2 hk with ⟨rfl,hu⟩ | ⟨f,g,fs,rfl,hu,hf,n1,n2,o1,o2,t1,t2,_⟩
 ·obtain ⟨a,rfl⟩:=Ow hx;exact MapKept.run_checkKey hu (by trivial) e 9999
 ·obtain ⟨a,b,rfl⟩:=Xt hx
  show (Instr.checkKey e (9999+1) t (.agg #[.int .i64 a,.int .i64 b])).run P w=_
  unfold Instr.checkKey;have c1: ∀ a,(Instr.checkKey e 9999 f.type (.int .i64 a)).run P w= .ok () w:=fun a=>MapKept.run_checkKey t1 (by trivial) e 9998
  have c2: ∀ a,(Instr.checkKey e 9999 g.type (.int .i64 a)).run P w= .ok () w:=fun a=>MapKept.run_checkKey t2 (by trivial) e 9998
  simp only [zBx,zCY hu,Result.andThen];rw [←Array.forIn_toList,hf];simp only [List.forIn_cons,List.forIn_nil,n1,n2,ne_eq,not_false_eq_true,zFV,o1,o2,zBx];rw [Qd t1 _ 0 (.int .i64 a) rfl];simp only [Result.andThen,c1,zGl,zBx];rw [Qd t2 _ 1 (.int .i64 b) rfl];simp only [Result.andThen,c2,zGl]
theorem zE {n:Nat}(hk:G6 P t=some n){x y:List Int}(hx:x.length=n)(hy:y.length=n):(Op.equal t (BP x) (BP y)).run P w= .ok (x==y) w:=by
 rcases Q2 hk with ⟨rfl,hu⟩ | ⟨f,g,fs,rfl,hu,hf,n1,n2,o1,o2,t1,t2,hs⟩
 ·obtain ⟨a,rfl⟩:=Ow hx;obtain ⟨b,rfl⟩:=Ow hy
  show (Op.equalIn (9999+1) t (.int .i64 a) (.int .i64 b)).run P w=_
  rw [zGx w 9999 t .i64 .i64 a b hu]
  congr 1
  rw [zFk];simp
 ·obtain ⟨a,b,rfl⟩:=Xt hx;obtain ⟨c,d,rfl⟩:=Xt hy;have hF:P.fieldsOf t=fs:=by unfold Program.fieldsOf;rw [hu]
  show (Op.equalIn (9999+1) t (.agg #[.int .i64 a,.int .i64 b]) (.agg #[.int .i64 c,.int .i64 d])).run P w=_
  rw [run_equalIn_struct w 9999 t _ _ (by rw [hF];exact hu) hs,hF,hf];have e1: ∀ a c:Int,(Op.equalIn 9999 f.type (.int .i64 a) (.int .i64 c)).run P w= .ok (a==c) w:=fun a c=>zGx w 9998 f.type .i64 .i64 a c t1
  have e2: ∀ a c:Int,(Op.equalIn 9999 g.type (.int .i64 a) (.int .i64 c)).run P w= .ok (a==c) w:=fun a c=>zGx w 9998 g.type .i64 .i64 a c t2
  simp only [Op.eqFields,n1,n2,ne_eq,not_false_eq_true,zFV,o1,o2,zBx];rw [Qd t1 _ 0 (.int .i64 a) rfl];simp only [Result.andThen];rw [Qd t1 _ 0 (.int .i64 c) rfl];simp only [Result.andThen,e1,Sem.run_ite]
  by_cases h1:a=c
  ·subst h1;simp only [zGn,zCX,zCZ,zF2,zBx];rw [Qd t2 _ 1 (.int .i64 b) rfl];simp only [Result.andThen];rw [Qd t2 _ 1 (.int .i64 d) rfl];simp only [Result.andThen,e2,Sem.run_ite]
   by_cases h2:b=d
   ·subst h2;simp
   ·have:([a,b]== [a,d])=false:=by simp [h2]
    have NH:(b==d)=false:=by simp [h2]
    simp [NH,h2]
  ·have Lo:(a==c)=false:=by simp [h1]
   simp [Lo,h1]
theorem zD {n:Nat}(hk:G6 P t=some n){x:List Int}(hx:x.length=n){ks:KS}(Ei: ∀ y∈ks,y.length=n){es:List MapEntry}(he: ∀ e∈es,∃ y∈ks,e.key=BP y):
 ((Instr.findKey t (BP x) es).run P w= .ok none w/\ ∀ e∈es,e.key≠BP x)∨∃ j e,(Instr.findKey t (BP x) es).run P w= .ok (some (j,e.val)) w/\ es[j]? =some e/\ e.key=BP x:=by
 have ask: ∀ (es:List MapEntry) (i:Nat),(∀ e∈es,∃ y∈ks,e.key=BP y) -> ((Instr.findAsking t (BP x) es i).run P w= .ok none w/\ ∀ e∈es,e.key≠BP x)∨∃ j e,(Instr.findAsking t (BP x) es i).run P w= .ok (some (i+j,e.val)) w/\ es[j]? =some e/\ e.key=BP x:=by
  intro es
  induction es with
  | nil=>intro i _;exact .inl ⟨rfl,fun e he=>by cases he⟩
  | cons e es ih=>
   intro i he;obtain ⟨y,hy,Cd⟩:=he e (by simp);have h1:(Op.equal t (BP x) e.key).run P w= .ok (x==y) w:=by rw [Cd];exact zE hk hx (Ei y hy)
   by_cases cU:x=y
   ·subst cU;exact .inr ⟨0,e,by simp [Instr.findAsking,h1,Result.andThen],rfl,Cd⟩
   ·have hf:(x==y)=false:=by simp [cU]
    rcases ih (i+1) (fun e H3=>he e (by simp [H3])) with ⟨g1,g2⟩ | ⟨j,e',g1,g2,g3⟩
    ·refine .inl ⟨by simp [Instr.findAsking,h1,hf,Result.andThen,g1],fun e' H3=>?_⟩;rcases zCC.1 H3 with rfl | H3
     ·rw [Cd];exact fun h=>cU (mi h).symm
     ·exact g2 e' H3
    ·exact .inr ⟨j+1,e',by simp [Instr.findAsking,h1,hf,Result.andThen,g1];omega,by simpa using g2,g3⟩
 rcases Q2 hk with ⟨rfl,hu⟩ | ⟨f,g,fs,rfl,hu,_⟩
 ·obtain ⟨a,rfl⟩:=Ow hx
  rcases MapKept.findNow_spec (d:=.int .i64) (k:=.int .i64 a) (by trivial) es 0 (fun e hm=>by
   obtain ⟨y,hy,Cd⟩:=he e hm;obtain ⟨b,rfl⟩:=Ow (Ei y hy);rw [Cd];trivial) with ⟨h1,h2⟩ | ⟨j,e,h1,h2,h3⟩
  ·exact .inl ⟨zGs hu h1,h2⟩
  ·exact .inr ⟨j,e,by have:=zGs (w:=w) hu h1;rw [zBy] at this;exact this,h2,h3⟩
 ·have hn: ∀ es:List MapEntry,(∀ e∈es,∃ y∈ks,e.key=BP y) -> (Instr.findKey t (BP x) es).run P w=(match es with | []=>.ok none w | _=>(Instr.findAsking t (BP x) es 0).run P w):=fun es he=>by
   cases es with
   | nil=>simp [Instr.findKey,zCY hu,Instr.findNow,Result.andThen]
   | cons e es=>
    have:Instr.findNow (.struct fs) (BP x) (e::es) 0=none:=by
     simp [Instr.findNow,Instr.sameNow]
    simp [Instr.findKey,zCY hu,this,Result.andThen]
  rw [hn es he];cases es with
  | nil=>exact .inl ⟨rfl,fun e he=>by cases he⟩
  | cons e es=>
   rcases ask (e::es) 0 he with h | ⟨j,e',g1,g2⟩
   ·exact .inl h
   ·exact .inr ⟨j,e',by simpa using g1,g2⟩
theorem zC {n:Nat}(hk:G6 P t=some n){x:List Int}(hx:x.length=n):(Instr.keyThatStays (BP x) (BP x)).run P w= .ok (BP x) w:=by
 rcases Q2 hk with ⟨rfl,hu⟩ | ⟨f,g,fs,rfl,hu,_⟩
 ·obtain ⟨a,rfl⟩:=Ow hx;exact MapKept.run_keyThatStays (d:=.int .i64) (by trivial)
 ·obtain ⟨a,b,rfl⟩:=Xt hx
  have:Instr.sameBits 10000 (BP [a,b]) (BP [a,b])=true:=by
   show Instr.sameBits (9998+1+1) (.agg #[.int .i64 a,.int .i64 b]) (.agg #[.int .i64 a,.int .i64 b])=true
   simp [Instr.sameBits]
  simp [Instr.keyThatStays,this]
end
/-! ### Sets in order-/
def mS:List Int -> List Int -> Bool
 | _,[]=>false
 | [],_::_=>true
 | a::r,b::s=>decide (a<b)||(a==b&&mS r s)
def Xy (x:List Int):KS -> KS
 | []=>[x]
 | y::r=>if mS x y then x::y::r else y::Xy x r
def CP (x:List Int)(l:KS):KS:=if l.contains x then l else Xy x l
theorem mw (x:List Int): ∀ l:KS,(Xy x l).Perm (x::l)
 | []=>zG9 _
 | y::r=>by
  unfold Xy;split
  ·exact zG9 _
  ·exact ((mw x r).cons y).trans (List.Perm.swap x y r)
theorem kr {x:List Int}{l:KS}(h:x∈l):CP x l=l:=by unfold CP;simp [h]
theorem ae {x:List Int}{l:KS}(h:x∉l):(CP x l).Perm (x::l):=by unfold CP;simp [h];exact mw x l
theorem Ok {x y:List Int}{l:KS}:y∈CP x l↔y=x∨y∈l:=by
 by_cases h:x∈l
 ·rw [kr h];exact ⟨.inr,fun h'=>h'.elim (fun e=>e▸h) id⟩
 ·rw [(ae h).mem_iff];simp
section
variable {P:Program} {w:World} {b n:Nat} {l:KS} {es:Array MapEntry} {AZ:Nat}
theorem FF.key (h:FF w b n l es AZ): ∀ e∈es.toList,∃ y∈l,e.key=BP y:=fun e he=>by
 have:e.key∈es.toList.map (·.key):=zDi.2 ⟨e,he,rfl⟩;obtain ⟨y,h1,h2⟩:=zDi.1 (h.keys.mem_iff.1 this);exact ⟨y,h1,h2.symm⟩
theorem FF.has (h:FF w b n l es AZ){x:List Int}:x∈l↔∃ e∈es.toList,e.key=BP x:=by
 constructor
 ·intro hx;have:BP x∈l.map BP:=zDi.2 ⟨x,hx,rfl⟩;obtain ⟨e,h1,h2⟩:=zDi.1 (h.keys.mem_iff.2 this);exact ⟨e,h1,h2⟩
 ·rintro ⟨e,h1,h2⟩;obtain ⟨y,h3,h4⟩:=h.key e h1;exact mi (h2.symm.trans h4)▸h3
theorem FF.find (h:FF w b n l es AZ){t:TypeId}(hk:G6 P t=some n){x:List Int}(hx:x.length=n):
 (x∉l/\ (Instr.findKey t (BP x) es.toList).run P w= .ok none w)∨(x∈l/\ ∃ j e,(Instr.findKey t (BP x) es.toList).run P w= .ok (some (j,.bool true)) w/\ es[j]? =some e/\ e.key=BP x/\ e.val= .bool true):=by
 rcases zD (w:=w) hk hx h.len h.key with ⟨h1,h2⟩ | ⟨j,e,h1,h2,h3⟩
 ·exact .inl ⟨fun hx=>by obtain ⟨e,g1,g2⟩:=h.has.1 hx;exact h2 e g1 g2,h1⟩
 ·have hm:e∈es.toList:=zB9 h2;have hv:=h.tru e hm;exact .inr ⟨h.has.2 ⟨e,hm,h3⟩,j,e,by rw [←hv];exact h1,by simpa using h2,h3,hv⟩
theorem Si {w:World}{b:Nat}(o:Obj):AN (fun k=>k=b) w { w with heap:=w.heap.setIfInBounds b o }:=
 ⟨rfl,rfl,rfl,by simp,fun k _ AR=>by simp [zGi AR]⟩
theorem FF.put (h:FF w b n l es AZ){mt kt et:TypeId}(hm:P.underlying mt=some (.map kt et))(hk:G6 P kt=some n){x:List Int}(hx:x.length=n):
 ∃ w' ER FC,(Instr.mapUpdate mt (.map (some b)) (BP x) (.bool true)).run P w= .ok () w'/\ AN (fun k=>k=b) w w'/\ FF w' b n (CP x l) ER FC:=by
 have AK:b<w.heap.size:=(zAL.1 h.blk).1;rcases h.find hk hx with ⟨h1,h2⟩ | ⟨h1,j,e,h2,h3,h4,h5⟩
 ·refine ⟨{ w with heap:=w.heap.setIfInBounds b (.map (es.push { key:=BP x,val:=.bool true,born:=AZ }) (AZ+1)) },es.push { key:=BP x,val:=.bool true,born:=AZ },AZ+1,?_,Si _,?_⟩
  ·simp [Instr.mapUpdate,zCY hm,zFi h.blk,Q0 hk hx,h2,zGW _ h.blk,Result.andThen]
  ·refine ⟨by simp [AK],?_,((ae h1).nodup_iff).2 (zGy.2 ⟨h1,h.nd⟩),fun y hy=>?_,fun e he=>?_,fun e he=>?_,?_⟩
   ·have e1:((es.push { key:=BP x,val:=.bool true,born:=AZ }).toList.map (·.key))=es.toList.map (·.key)++[BP x]:=by simp
    rw [e1];refine (List.perm_append_comm).trans ?_
    show (BP x::es.toList.map (·.key)).Perm _
    exact (h.keys.cons (BP x)).trans (((ae h1).map BP).symm)
   ·rcases Ok.1 hy with rfl | hy
    ·exact hx
    ·exact h.len y hy
   ·simp only [Array.toList_push,zB3,zBv] at he;rcases he with he | rfl
    ·exact h.tru e he
    ·rfl
   ·simp only [Array.toList_push,zB3,zBv] at he;rcases he with he | rfl
    ·exact Nat.lt_succ_of_lt (h.born e he)
    ·exact Nat.lt_succ_self _
   ·have e1:((es.push { key:=BP x,val:=.bool true,born:=AZ }).toList.map (·.born))=es.toList.map (·.born)++[AZ]:=by simp
    rw [e1];refine List.nodup_append.2 ⟨h.stamps,by simp,fun a ha c hc=>?_⟩;obtain ⟨e,g1,g2⟩:=zDi.1 ha;have:=h.born e g1;simp at hc;omega
 ·have hj:j<es.size:=(zAL.1 h3).1
  have hme:(es.modify j fun e=>{ e with key:=BP x,val:=.bool true })=es:=by
   apply Array.ext_getElem?;intro i;rw [zGN];split
   ·rename_i Ut;subst Ut;rw [h3]
    show some ({ e with key:=BP x,val:=.bool true }:MapEntry)=some e
    rw [←h4,←h5]
   ·rfl
  refine ⟨{ w with heap:=w.heap.setIfInBounds b (.map es AZ) },es,AZ,?_,Si _,?_⟩
  ·have Ei:((es[j]?).map (·.key)).getD (BP x)=BP x:=by rw [h3];exact h4
   simp [Instr.mapUpdate,zCY hm,zFi h.blk,Q0 hk hx,h2,Ei,zC hk hx,zGW _ h.blk,Result.andThen,hme]
  ·rw [kr h1];exact { h with blk:=by simp [AK] }
theorem FF.look (h:FF w b n l es AZ){mt kt et:TypeId}(hm:P.underlying mt=some (.map kt et))(hk:G6 P kt=some n){x:List Int}(hx:x.length=n)(hz:(zeroValue et).run P w= .ok (.bool false) w):
 (Instr.lookup mt (.map (some b)) (BP x) false).run P w= .ok (.bool (l.contains x)) w:=by
 rcases h.find hk hx with ⟨h1,h2⟩ | ⟨h1,j,e,h2,h3,h4,h5⟩
 ·have:l.contains x=false:=by simpa using h1
  simp [Instr.lookup,zCY hm,zFi h.blk,Q0 hk hx,h2,hz,Result.andThen,this,h1]
 ·have:l.contains x=true:=by simpa using h1
  simp [Instr.lookup,zCY hm,zFi h.blk,Q0 hk hx,h2,Result.andThen,this,h1]
end
/-! ### On iB view-/
def Xk (lk:Option (Nat×Nat×Array MapEntry×Nat))(i:Nat):Prop:=∀ y,lk=some y -> y.1≠i
section
variable {P:Program} {w w':World} {p:AE} {n:Nat} {ls:List (Option KS)} {lk:Option (Nat×Nat×Array MapEntry×Nat)} {vs:Array Value}
theorem FN.lies (h:FN w p n ls lk vs){b:Nat}(hb:p.foot b):Ds w b:=by
 rcases h.foot b hb with rfl | ⟨j,l,h1,h2⟩
 ·obtain ⟨cs,t,h3,_⟩:=h.row;exact .cells h3
 ·obtain ⟨b',g1,_,_,es,AZ,g2,_⟩:=h.has j l h1;have:b'=b:=by rw [g1] at h2;cases h2;rfl
  subst this;exact ⟨_,rfl,(),g2.blk⟩
theorem FN.put (h:FN w p n ls lk vs){i b:Nat}{l l':KS}{es:Array MapEntry}{AZ:Nat}(hi:ls[i]? =some (some l))(hb:vs[i]? =some (Value.map (some b)))(hu:AN (fun k=>k=b) w w')(hm:FF w' b n l' es AZ)(dK:Xk lk i):FN w' p n (ls.set i (some l')) lk vs:=by
 have C0:i<ls.length:=(zAW.1 hi).1;obtain ⟨b0,g1,g2,g3,_⟩:=h.has i l hi;have:b0=b:=by rw [g1] at hb;cases hb;rfl
 subst this
 have Jd: ∀ {j:Nat} {x:Option KS},(ls.set i (some l'))[j]? =some x -> (j=i/\ x=some l')∨(j≠i/\ ls[j]? =some x):=fun {j x} hj=>by
  rw [zB8] at hj
  by_cases e:i=j
  ·subst e;simp [C0] at hj;exact .inl ⟨rfl,hj.symm⟩
  ·rw [zAY e] at hj;exact .inr ⟨zGi e,hj⟩
 refine ⟨h.val,by simp [h.size],?_,h.blk,fun j l1 hj=>?_,fun j hj=>?_,fun b' DQ=>?_,h.inj⟩
 ·obtain ⟨cs,t,k1,k2⟩:=h.row;exact ⟨cs,t,(hu.block _ (zAL.1 k1).1 (fun e=>g2 e.symm)).trans k1,by simpa using k2⟩
 ·rcases Jd hj with ⟨rfl,e⟩ | ⟨AR,hj⟩
  ·cases e;exact ⟨b0,hb,g2,g3,es,AZ,hm,fun y hy e=>absurd e (dK y hy)⟩
  ·obtain ⟨b1,k1,k2,k3,Iz,c1,k4,k5⟩:=h.has j l1 hj;refine ⟨b1,k1,k2,k3,Iz,c1,k4.out (hu.block _ (zAL.1 k4.blk).1 fun e=>AR ?_),k5⟩;subst e;exact h.inj j i b1 k1 hb
 ·rcases Jd hj with ⟨rfl,e⟩ | ⟨AR,hj⟩
  ·cases e
  ·exact h.nil j hj
 ·rcases h.foot b' DQ with e | ⟨j,l1,k1,k2⟩
  ·exact .inl e
  ·by_cases e:j=i
   ·subst e;exact .inr ⟨j,l',by simp [C0],k2⟩
   ·exact .inr ⟨j,l1,by rw [zB8,zAY (zGi e)];exact k1,k2⟩
end
def Xu (n:Nat)(d:DV):Option (List Int):=match d with
 | .int .i64 a=>if n=1 then some [a] else none
 | .agg m f=>if m=n/\ n≠1 then if (List.range m).all fun j=>Ie (f j) then some ((List.range m).map fun j=>G7 (f j)) else none else none
 | _=>none
def br (n:Nat)(x:List Int):DV:=if n=1 then .int .i64 (x.getD 0 0) else .agg n (Gh n fun j=>.int .i64 (x.getD j 0))
section
variable {P:Program} {w:World} {ρ:List AE} {M:Nat -> Prop}
theorem mj {x:List Int}(h:x.length≠1):BP x= .agg (x.map fun a=>.int .i64 a).toArray:=by
 unfold BP;split
 ·simp at h
 ·rfl
theorem ml {n:Nat}{d:DV}{x:List Int}{v:Value}(h:Xu n d=some x)(hr:AI M w d ρ v):v=BP x/\ x.length=n:=by
 unfold Xu at h;split at h
 ·split at h
  ·cases h;exact ⟨hr,by simp;omega⟩
  ·cases h
 ·rename_i m f;split at h
  ·rename_i hm;split at h
   ·rename_i ha;cases h;have hl:((List.range m).map fun j=>G7 (f j)).length=m:=by simp
    refine ⟨?_,by rw [hl];exact hm.1⟩;obtain ⟨cs,rfl,hs,hc⟩:=hr;rw [mj (by rw [hl];omega)]
    congr 1
    apply Array.ext_getElem?;intro j
    by_cases hj:j<m
    ·obtain ⟨u,e1,e2⟩:=hc j hj;have:=Xw (zAX.1 ha j (zBf.2 hj)) e2;rw [e1,this];simp [hj]
    ·rw [zG5 (by omega)];simp [hj]
   ·cases h
  ·cases h
 ·cases h
theorem zF {n:Nat}{x:List Int}(h:x.length=n):AI M w (br n x) ρ (BP x):=by
 unfold br;split
 ·rename_i e;subst e;obtain ⟨a,rfl⟩:=Ow h;rfl
 ·rename_i e;rw [mj (by omega)];refine ⟨_,rfl,by simp [h],fun j hj=>?_⟩;rw [WP hj];have BM:j<x.length:=by omega
  exact ⟨.int .i64 (x.getD j 0),by simp [BM],rfl⟩
end
def Yv:Nat -> DH -> Option (Nat×Nat×List (Option KS)×Nat×Nat×Array MapEntry×Nat)
 | _,[]=>none
 | k,some (.mo (.sets n ls (some y)))::_=>some (k,n,ls,y)
 | k,_::r=>Yv (k+1) r
theorem zDJ {n:Nat}{ls:List (Option KS)}{y:Nat×Nat×Array MapEntry×Nat}{k:Nat}: ∀ (h:DH) (k0:Nat),Yv k0 h=some (k,n,ls,y) -> k0<=k/\ h[k-k0]? =some (some (.mo (.sets n ls (some y)))):=by
 intro h
 induction h with
 | nil=>intro k0 e;cases e
 | cons x r ih=>
  intro k0 e
  have step:Yv (k0+1) r=some (k,n,ls,y) -> k0<=k/\ (x::r)[k-k0]? =some (some (.mo (.sets n ls (some y)))):=fun e=>by
   obtain ⟨h1,h2⟩:=ih (k0+1) e;refine ⟨by omega,?_⟩;have:k-k0=k-(k0+1)+1:=by omega
   rw [this];simpa using h2
  match x,e with
  | none,e=>exact step e
  | some (.cells _),e=>exact step e
  | some (.ints _),e=>exact step e
  | some (.bools _),e=>exact step e
  | some (.arr _ _ _),e=>exact step e
  | some (.iter _),e=>exact step e
  | some (.ro _),e=>exact step e
  | some (.mo (.set _ _)),e=>exact step e
  | some (.mo (.mit _ _ _ _ _ _)),e=>exact step e
  | some (.mo (.rows _ _)),e=>exact step e
  | some (.mo (.rws _ _)),e=>exact step e
  | some (.mo (.sets _ _ none)),e=>exact step e
  | some (.mo (.sets _ _ (some _))),e=>cases e;exact ⟨zBl _,by simp⟩
def Ol (P:Program)(t:TypeId):Option (Nat×TypeId):=match P.underlying t with
 | some (.map k e)=>match G6 P k with
  | some n=>match P.info? e with
   | some i=>match i.zero with
    | some (.bool false)=>some (n,k)
    | _=>none
   | none=>none
  | none=>none
 | _=>none
theorem bU {P:Program}{t k:TypeId}{n:Nat}(h:Ol P t=some (n,k)): ∃ e,P.underlying t=some (.map k e)/\ G6 P k=some n/\ ∀ w,(zeroValue e).run P w= .ok (.bool false) w:=by
 unfold Ol at h;split at h
 ·rename_i k' e hu;split at h
  ·rename_i n' hk;split at h
   ·rename_i i hi;split at h
    ·rename_i hz;cases h;exact ⟨e,hu,hk,fun w=>by simp [zeroValue,typeInfo,hi,hz]⟩
    ·cases h
   ·cases h
  ·cases h
 ·cases h
def W8 (P:Program)(S:St)(t:TypeId)(m k x:DV):Option (DV×DH×List Prop×Bool):=match Ol P t with
 | some (n,_)=>match Xu n k,x with
  | some x,.bool true=>match m with
   | .it j=>match S.h[j]? with
    | some (some (.mo (.set n' l)))=>if n'=n then some (.any,S.h.set j (some (.mo (.set n (CP x l)))),[],false) else none
    | _=>none
   | .mri j i=>match S.h[j]? with
    | some (some (.mo (.sets n' ls lk)))=>if n'=n then some (.any,S.h.set j (some (.mo (.sets n (ls.set i (some (CP x ((ls.getD i none).getD [])))) lk))),[(ls.getD i none).isSome=true,Xk lk i],false) else none
    | _=>none
   | _=>none
  | _,_=>none
 | none=>none
def bV (P:Program)(S:St):Op -> Option (DV×DH×List Prop×Bool)
 | .makeMap t none=>match Ol P t with
  | some (n,_)=>some (.it S.h.length,S.h++[some (.mo (.set n []))],[],true)
  | none=>none
 | .mapUpdate t m k x=>W8 P S t (AT S.fr m) (AT S.fr k) (AT S.fr x)
 | .insert t m k x=>W8 P S t (AT S.fr m) (AT S.fr k) (AT S.fr x)
 | .lookup t m k false=>match Ol P t with
  | some (n,_)=>match Xu n (AT S.fr k) with
   | some x=>match AT S.fr m with
    | .it j=>match S.h[j]? with
     | some (some (.mo (.set n' l)))=>if n'=n then some (.bool (l.contains x),S.h,[],true) else none
     | _=>none
    | .mri j i=>match S.h[j]? with
     | some (some (.mo (.sets n' ls _)))=>if n'=n then some (.bool (((ls.getD i none).getD []).contains x),S.h,[(ls.getD i none).isSome=true],true) else none
     | _=>none
    | _=>none
   | none=>none
  | none=>none
 | .range t m=>match Ol P t with
  | some (n,_)=>match AT S.fr m with
   | .mri j i=>match S.h[j]? with
    | some (some (.mo (.sets n' ls (some (i',mb,es,AZ)))))=>if n'=n then some (.it S.h.length,S.h++[some (.mo (.mit n mb es AZ ((ls.getD i none).getD []) none))],[(ls.getD i none).isSome=true,i'=i],true) else none
    | _=>none
   | _=>none
  | none=>none
 | .entry m=>match AT S.fr m with
  | .it j=>match S.h[j]? with
   | some (some (.mo (.mit n mb es AZ _ (some x))))=>match Yv 0 S.h with
    | some (_,_,ls,i,mN,ER,FC)=>some (.tup 2 (Gh 2 fun c=>if c=0 then br n x else .bool true),S.h,[(ls.getD i none).isSome=true,mN=mb,ER=es,FC=AZ],true)
    | none=>none
   | _=>none
  | _=>none
 | _=>none
section
variable {P:Program} {Γ:Aj} {N:Nat -> Prop} {S:St} {ρ:List AE} {a:Act} {w:World}
theorem Rb {ls:List (Option KS)}{i:Nat}(h:(ls.getD i none).isSome=true):ls[i]? =some (some ((ls.getD i none).getD [])):=by
 rw [u8] at h ⊢;cases hx:ls[i]? with
 | none=>rw [hx] at h;cases h
 | some x=>
  rw [hx] at h;cases x with
  | none=>cases h
  | some l=>simp
theorem aC (R:AP P Γ N S ρ a w){j n:Nat}{l:KS}{v:Value}(hk:S.h[j]? =some (some (.mo (.set n l))))(hv:AI (MS N S.h ρ) w (.it j) ρ v): ∃ p es AZ,ρ[j]? =some p/\ v= .map (some p.blk)/\ p.foot=(fun b=>b=p.blk)/\ p.val=Value.map (some p.blk)/\ FF w p.blk n l es AZ:=by
 obtain ⟨p,hp,rfl⟩:=hv;obtain ⟨p',A5,h1,h2,es,AZ,h3⟩:=R.hr.obj j _ hk;have:p'=p:=zAV (A5.symm.trans hp);subst this;exact ⟨p',es,AZ,hp,h1,h2,h1,h3⟩
theorem aB (R:AP P Γ N S ρ a w){j i n:Nat}{ls:List (Option KS)}{lk:Option (Nat×Nat×Array MapEntry×Nat)}{v:Value}(hk:S.h[j]? =some (some (.mo (.sets n ls lk))))(hv:AI (MS N S.h ρ) w (.mri j i) ρ v)(hs:(ls.getD i none).isSome=true):
 ∃ p vs b es AZ,ρ[j]? =some p/\ FN w p n ls lk vs/\ v= .map (some b)/\ vs[i]? =some (Value.map (some b))/\ p.foot b/\ FF w b n ((ls.getD i none).getD []) es AZ/\ ∀ y,lk=some y -> y.1=i -> y.2=(b,es,AZ):=by
 obtain ⟨p,vs,hp,GT,C6⟩:=hv;obtain ⟨p',A5,Bg,h1⟩:=R.hr.obj j _ hk;have:p'=p:=zAV (A5.symm.trans hp);subst this;have:Bg=vs:=by have:=h1.val.symm.trans GT;cases this;rfl
 subst this;obtain ⟨b,g1,g2,g3,es,AZ,g4,g5⟩:=h1.has i _ (Rb hs);have:v= .map (some b):=by rw [g1] at C6;exact (zAV C6).symm
 exact ⟨p',Bg,b,es,AZ,hp,h1,this,g1,g3,g4,g5⟩
theorem aE (R:AP P Γ N S ρ a w){d:DV}{v:Value}(hv:AI (MS N S.h ρ) w d ρ v):B1 P Γ N S.h ρ w true d S.h v w:=⟨⟨ρ,R.hr,hv,Ap.refl _ _ _,fun _ _ h=>h⟩,fun _=>Am.refl w⟩
theorem U9 (H:Ag P Γ N S.h ρ w){ob:Obj}(DN:n6 ob=true){pl:AE}(FK:pl.foot=fun b=>b=w.heap.size){o:DO}{d:DV}{v:Value}(ho: ∀ M ρ',Dr P M (w.alloc ob) ρ' pl o) 
 (hv: ∀ M ρ',ρ'[S.h.length]? =some pl -> AI M (w.alloc ob) d ρ' v) (ext:Bool):B1 P Γ N S.h ρ w ext d (S.h++[some o]) v (w.alloc ob):=by
 have hE:Am w (w.alloc ob):=(Am.refl w).allocR _;have hf: ∀ b,pl.foot b -> w.heap.size<=b:=fun b hb=>by rw [FK] at hb;exact zHR (Eq.symm hb)
 have hb:(w.alloc ob).heap[w.heap.size]? =some ob:=zGI w _;refine ⟨⟨ρ++[pl],H.snoc hE (fun b hx=>⟨hf b hx,ob,DN,(),by rw [FK] at hx;rw [show b=w.heap.size from hx];exact hb⟩) (ho _ _),?_,Ap.snoc H hE hf,fun k p hk=>EO hk⟩,fun _=>hE⟩;exact hv _ _ (by rw [←H.len];simp)
theorem kw (R:AP P Γ N S ρ a w){t:TypeId}{m k x:Operand}{d:DV}{h':DH}{vs:List Prop}{ext:Bool}(hd:W8 P S t (AT S.fr m) (AT S.fr k) (AT S.fr x)=some (d,h',vs,ext))(hv:BY vs):
 ∃ w',(Instr.mapUpdate t (a.eval m) (a.eval k) (a.eval x)).run P w= .ok () w'/\ B1 P Γ N S.h ρ w ext d h' undef w':=by
 have rm:=BO R m;have rk:=BO R k;have rx:=BO R x;unfold W8 at hd;split at hd
 ·rename_i n kt hT;obtain ⟨e,hu,hk,hz⟩:=bU hT;split at hd
  ·rename_i xs hK hX;obtain ⟨ek,el⟩:=ml hK rk;rw [hX] at rx;have ex:a.eval x= .bool true:=rx;rw [ek,ex];split at hd
   ·rename_i j hM;split at hd
    ·rename_i n' l hO;split at hd
     ·rename_i hn;cases hd;subst hn;rw [hM] at rm;obtain ⟨p,es,AZ,hp,ev,FK,GT,hA⟩:=aC R hO rm;rw [ev];obtain ⟨w',ER,FC,h1,h2,h3⟩:=hA.put hu hk el;have Mw:AN p.foot w w':=by rw [FK];exact h2
      refine ⟨w',h1,⟨ρ,R.hr.write hO hp Mw (fun b hb=>?_) ⟨GT,FK,ER,FC,h3⟩,trivial,Ap.write hO hp Mw,fun _ _ h=>h⟩,fun h=>by cases h⟩;rw [FK] at hb;exact ⟨_,rfl,(),by rw [show b=p.blk from hb];exact h3.blk⟩
     ·cases hd
    ·cases hd
   ·rename_i j i hM;split at hd
    ·rename_i n' ls lk hO;split at hd
     ·rename_i hn;cases hd;subst hn;obtain ⟨hs,dK,_⟩:=hv;rw [hM] at rm;obtain ⟨p,vs,b,es,AZ,hp,hS,ev,C6,HJ,hA,_⟩:=aB R hO rm hs;rw [ev];obtain ⟨w',ER,FC,h1,h2,h3⟩:=hA.put hu hk el;have Mw:AN p.foot w w':=h2.mono fun c _ hc=>by rw [show c=b from hc];exact HJ
      have NG:=hS.put (Rb hs) C6 h2 h3 dK;exact ⟨w',h1,⟨ρ,R.hr.write hO hp Mw (fun b hb=>NG.lies hb) ⟨vs,NG⟩,trivial,Ap.write hO hp Mw,fun _ _ h=>h⟩,fun h=>by cases h⟩
     ·cases hd
    ·cases hd
   ·cases hd
  ·cases hd
 ·cases hd
theorem yg (es:Array MapEntry):leftOf es #[]=es:=by
 unfold leftOf;refine Array.filter_eq_self.2 fun x hx=>by simp
theorem vN {r bm JF AZ:Nat}{seen:Array Nat}{es:Array MapEntry}{e:MapEntry}(hr:w.heap[r]? =some (.mapIter (some bm) JF seen AZ))(hs:seen.back? =some e.born)(hb:w.heap[bm]? =some (.map es AZ))(he:e∈es.toList)(hn:(es.toList.map (·.born)).Nodup):
 (Instr.entry (.pointer (some ⟨r,0,none⟩))).run P w= .ok (.tuple #[e.key,e.val]) w:=by
 have hf:es.find? (·.born==e.born)=some e:=by rw [←Array.find?_toList];exact find_born e es.toList hn he
 simp only [Instr.entry,getObj,zBx,Sem.run,hr,hb,Result.andThen,hs,bne_self_eq_false,zCZ,zF2,hf];rfl
theorem yG (R:AP P Γ N S ρ a w)(o:Oper){d:DV}{h':DH}{vs:List Prop}{ext:Bool}(hd:bV P S o.op=some (d,h',vs,ext))(hv:BY vs):BG P (execOp a.eval o) w (B1 P Γ N S.h ρ w ext d h'):=by
 unfold bV at hd;split at hd
 ·rename_i t ho;split at hd
  ·rename_i n kt hT;cases hd;refine BG.value (s:=Instr.makeMap t none) (by unfold execOp;rw [ho];rfl) (v:=.map (some w.heap.size)) (w':=w.alloc (.map #[] 0)) (by simp [Instr.makeMap,newObj];rfl) ?_;refine U9 (ob:=.map #[] 0) (o:=.mo (.set n [])) (d:=.it S.h.length) (v:=.map (some w.heap.size)) (pl:=⟨w.heap.size,0,0,.map (some w.heap.size),fun b=>b=w.heap.size⟩) R.hr rfl rfl (fun M ρ'=>⟨rfl,rfl,#[],0,⟨zGI w _,by simp,List.nodup_nil,fun y hy=>absurd hy zGG,fun e he=>absurd he (by simp),fun e he=>absurd he (by simp),by simp⟩⟩) (fun M ρ' hp=>⟨_,hp,rfl⟩) true
  ·cases hd
 ·rename_i t m k x ho;obtain ⟨w',h1,h2⟩:=kw R hd hv;exact BG.skip (s:=Instr.mapUpdate t (a.eval m) (a.eval k) (a.eval x)) (by unfold execOp;rw [ho]) h1 h2
 ·rename_i t m k x ho;obtain ⟨w',h1,h2⟩:=kw R hd hv;exact BG.skip (s:=Instr.mapUpdate t (a.eval m) (a.eval k) (a.eval x)) (by unfold execOp;rw [ho]) h1 h2
 ·rename_i t m k ho;have rm:=BO R m;have rk:=BO R k;split at hd
  ·rename_i n kt hT;obtain ⟨e,hu,hk,hz⟩:=bU hT;split at hd
   ·rename_i xs hK;obtain ⟨ek,el⟩:=ml hK rk;split at hd
    ·rename_i j hM;split at hd
     ·rename_i n' l hO;split at hd
      ·rename_i hn;cases hd;subst hn;rw [hM] at rm;obtain ⟨p,es,AZ,hp,ev,FK,GT,hA⟩:=aC R hO rm;exact BG.value (s:=Instr.lookup t (a.eval m) (a.eval k) false) (by unfold execOp;rw [ho]) (by rw [ek,ev];exact hA.look hu hk el (hz w)) (aE R rfl)
      ·cases hd
     ·cases hd
    ·rename_i j i hM;split at hd
     ·rename_i n' ls lk hO;split at hd
      ·rename_i hn;cases hd;subst hn;rw [hM] at rm;obtain ⟨p,vs,b,es,AZ,hp,hS,ev,C6,HJ,hA,_⟩:=aB R hO rm hv.1;exact BG.value (s:=Instr.lookup t (a.eval m) (a.eval k) false) (by unfold execOp;rw [ho]) (by rw [ek,ev];exact hA.look hu hk el (hz w)) (aE R rfl)
      ·cases hd
     ·cases hd
    ·cases hd
   ·cases hd
  ·cases hd
 ·rename_i t m ho;have rm:=BO R m;split at hd
  ·rename_i n kt hT;obtain ⟨e,hu,hk,hz⟩:=bU hT;split at hd
   ·rename_i j i hM;split at hd
    ·rename_i n' ls i' mb es AZ hO;split at hd
     ·rename_i hn;cases hd;subst hn;obtain ⟨hs,hi,_⟩:=hv;subst hi;rw [hM] at rm;obtain ⟨p,vs,b,Iz,ZF,hp,hS,ev,C6,HJ,hA,hL⟩:=aB R hO rm hs;have hL:=hL _ rfl rfl;cases hL;refine BG.value (s:=Instr.range t (a.eval m)) (by unfold execOp;rw [ho]) (by rw [ev];exact run_range_map w t _ _ _ _ _ hu hA.blk) ?_;refine U9 (ob:=.mapIter (some mb) AZ #[] AZ) (o:=.mo (.mit n' mb es AZ ((ls.getD i' none).getD []) none)) (d:=.it S.h.length) (v:=.pointer (some ⟨w.heap.size,0,none⟩)) (pl:=⟨w.heap.size,0,0,.pointer (some ⟨w.heap.size,0,none⟩),fun b=>b=w.heap.size⟩) R.hr rfl rfl (fun M ρ'=>⟨fun x hx=>hx.elim (hA.len x) (fun e=>by cases e),rfl,rfl,#[],zGI w _,by rw [yg];exact hA.keys,fun x hx=>by cases hx⟩) (fun M ρ' hp=>⟨_,hp,rfl⟩) true
     ·cases hd
    ·cases hd
   ·cases hd
  ·cases hd
 ·rename_i m ho;have rm:=BO R m;split at hd
  ·rename_i j hM;split at hd
   ·rename_i n mb es AZ rem x hO;split at hd
    ·rename_i k n' ls i mN ER FC hF;cases hd;obtain ⟨hs,e1,e2,e3,_⟩:=hv;subst e1 e2 e3;rw [hM] at rm;obtain ⟨p,hp,ev⟩:=rm;obtain ⟨p',A5,h0,h1,h2,seen,h3,h4,h5⟩:=R.hr.obj j _ hO;have:p'=p:=zAV (A5.symm.trans hp);subst this;obtain ⟨e,g1,g2,g3⟩:=h5 x rfl;have hF:=(zDJ _ _ hF).2;obtain ⟨q,hq,vs,hS⟩:=R.hr.obj _ _ hF;obtain ⟨b,k1,k2,k3,Iz,ZF,k4,k5⟩:=hS.has i _ (Rb hs);have k5:=k5 _ rfl rfl;cases k5;refine BG.value (s:=Instr.entry (a.eval m)) (by unfold execOp;rw [ho]) (by rw [ev,h1];exact vN h3 g3 k4.blk g1 k4.stamps) (aE R ?_);refine ⟨_,rfl,rfl,fun c hc=>?_⟩;rw [WP hc,g2,k4.tru e g1]
     match c,hc with
     | 0,_=>exact ⟨BP x,rfl,zF (h0 x (.inr rfl))⟩
     | 1,_=>exact ⟨.bool true,rfl,rfl⟩
    ·cases hd
   ·cases hd
  ·cases hd
 ·cases hd
end
abbrev zCe:=@List.getElem?_replicate
abbrev zGu:=@Array.getElem?_replicate
def Xf (P:Program)(t:TypeId):Option (Nat×TypeId×TypeInfo):=match P.underlying t with
 | some (.slice e)=>match Ol P e with
  | some (n,_)=>match P.info? e with
   | some i=>match i.zero with
    | some (.map none)=>if i.size=1/\ i.bytes<=128 then some (n,e,i) else none
    | _=>none
   | none=>none
  | none=>none
 | _=>none
theorem yD {P:Program}{t e:TypeId}{n:Nat}{i:TypeInfo}(h:Xf P t=some (n,e,i)):P.underlying t=some (.slice e)/\ P.info? e=some i/\ i.zero=some (.map none)/\ i.size=1/\ i.bytes<=128:=by
 unfold Xf at h;split at h
 ·rename_i e' hu;split at h
  ·split at h
   ·rename_i i' hi;split at h
    ·rename_i hz;split at h
     ·rename_i hc;cases h;exact ⟨hu,hi,hz,hc.1,hc.2⟩
     ·cases h
    ·cases h
   ·cases h
  ·cases h
 ·cases h
section
variable {P:Program} {Γ:Aj} {N:Nat -> Prop} {S:St} {ρ:List AE} {a:Act} {w:World} {h:DH}
theorem vu {α:Type}{n j:Nat}{x y:α}(h:(List.replicate n x)[j]? =some y):x=y:=by
 rw [zCe] at h;split at h
 ·exact zAV h
 ·cases h
theorem yL (R:AP P Γ N S ρ a w){t e:TypeId}{x y:Operand}{n:Nat}{i:TypeInfo}{kx ky:IntKind}{m:Int}(hT:Xf P t=some (n,e,i))(hx:AT S.fr x= .int kx m)(hy:AT S.fr y= .int ky m) 
 (hn:0<=m/\ m<=1000000000000) (o:Oper) (ho:o.op= .makeSlice t x y) (ext:Bool):
 BG P (execOp a.eval o) w (B1 P Γ N S.h ρ w ext (.msl S.h.length 1 0 m.toNat) (S.h++[some (.mo (.sets n (List.replicate m.toNat none) none))])):=by
 obtain ⟨hu,hi,hz,hs,Dx⟩:=yD hT;have HD:=hn.1;have HB:=hn.2;have rx:=BO R x;have ry:=BO R y;rw [hx] at rx;rw [hy] at ry;have Do:(madeCells (Value.map none).cells (m.toNat*i.size)).size=m.toNat:=by rw [size_madeCells,hs,zCm]
 have DP: ∀ j,j<m.toNat -> (madeCells (Value.map none).cells (m.toNat*i.size))[j]? =some (Value.map none):=fun j hj=>by
  simp [madeCells,hs,hj,Value.cells,Nat.mod_one]
 refine BG.value (s:=Instr.makeSlice t (a.eval x) (a.eval y)) (by unfold execOp;rw [ho]) (v:=.slice (some ⟨w.heap.size,0,none⟩) m.toNat m.toNat) (w':=w.alloc (.cells (madeCells (Value.map none).cells (m.toNat*i.size)) e)) ?_ ?_
 ·rw [show a.eval x=_ from rx,show a.eval y=_ from ry];refine run_make w t e i _ hu hi hz kx ky m m HD (zFZ _) ?_ (by omega);have:(i.bytes:Int)*m<=128*1000000000000:=Int.mul_le_mul (by omega) HB HD (by omega);omega
 ·generalize hC:madeCells (Value.map none).cells (m.toNat*i.size)=cs at Do DP ⊢
  refine U9 (ob:=.cells cs e) (o:=.mo (.sets n (List.replicate m.toNat none) none)) (d:=.msl S.h.length 1 0 m.toNat) (pl:=⟨w.heap.size,0,cs.size,.tuple (Array.replicate m.toNat (Value.map none)),fun b=>b=w.heap.size⟩) R.hr rfl rfl (fun M ρ'=>?_) (fun M ρ' hp=>⟨_,m.toNat,hp,by simp,zBl _,by unfold LB;omega,by simp [Do]⟩) ext;refine ⟨Array.replicate m.toNat (Value.map none),rfl,by simp,⟨cs,e,zGI w _,by simp [Do],zBl _,fun j hj=>?_⟩,rfl,fun j l hj=>?_,fun j hj=>?_,fun b hb=>.inl hb,fun i j b h1 h2=>?_⟩
  ·rw [zB1] at hj
   show cs[0+j]? =_
   rw [zBy,DP j hj,zGu,zAA hj]
  ·have:=vu hj;cases this
  ·have BM:=(zAW.1 hj).1;rw [zB1] at BM;rw [zGu,zAA BM]
  ·rw [zGu] at h1;split at h1 <;> cases h1
theorem Ag.merge (H:Ag P Γ N h ρ w){w':World}{k j:Nat}{o oj o':DO}{p q p':AE}(dT:k≠j)(hk:h[k]? =some (some o))(hp:ρ[k]? =some p)(hj:h[j]? =some (some oj))(hq:ρ[j]? =some q)(hu:AN p.foot w w')(hf: ∀ b,p'.foot b -> (p.foot b∨q.foot b)/\ Ds w' b) 
 (ho:Dr P (MS N ((h.set k none).set j none++[some o']) (ρ++[p'])) w' (ρ++[p']) p' o'):
 Ag P Γ N ((h.set k none).set j none++[some o']) (ρ++[p']) w'/\ Ap h ρ w ((h.set k none).set j none++[some o']) (ρ++[p']) w':=by
 have Af:((h.set k none).set j none).length=h.length:=by simp
 have hM: ∀ b,p.foot b -> MO h ρ b:=fun b hb=>⟨k,o,p,hk,hp,hb⟩
 have hMq: ∀ b,q.foot b -> MO h ρ b:=fun b hb=>⟨j,oj,q,hj,hq,hb⟩
 have oY: ∀ {i:Nat} {o1:DO},((h.set k none).set j none)[i]? =some (some o1) -> i≠k/\ i≠j/\ h[i]? =some (some o1):=fun {i o1} hi=>by
  obtain ⟨e1,e2⟩:=GW hi;obtain ⟨e3,e4⟩:=GW e2;exact ⟨e3,e1,e4⟩
 have JS: ∀ {i:Nat} {o1:DO} {p1:AE},((h.set k none).set j none++[some o'])[i]? =some (some o1) -> (ρ++[p'])[i]? =some p1 -> (i≠k/\ i≠j/\ i<h.length/\ h[i]? =some (some o1)/\ ρ[i]? =some p1)∨(i=h.length/\ o1=o'/\ p1=p'):=by
  intro i o1 p1 h1 h2;rcases Dz h1 with ⟨hl,h1⟩ | ⟨hl,h1⟩
  ·rw [Af] at hl;rcases Dz h2 with ⟨_,h2⟩ | ⟨Cy,_⟩
   ·obtain ⟨e1,e2,e3⟩:=oY h1;exact .inl ⟨e1,e2,hl,e3,h2⟩
   ·rw [H.len] at Cy;omega
  ·rw [Af] at hl;rcases Dz h2 with ⟨Cy,_⟩ | ⟨_,h2⟩
   ·rw [H.len] at Cy;omega
   ·cases h1;exact .inr ⟨hl,rfl,h2.symm⟩
 have grow: ∀ b,MO ((h.set k none).set j none++[some o']) (ρ++[p']) b -> MO h ρ b:=by
  rintro b ⟨i,o1,p1,h1,h2,h3⟩;rcases JS h1 h2 with ⟨_,_,_,g1,g2⟩ | ⟨_,_,rfl⟩
  ·exact ⟨i,o1,p1,g1,g2,h3⟩
  ·exact (hf b h3).1.elim (hM b) (hMq b)
 have O:BH (MS N h ρ) w ρ (MS N ((h.set k none).set j none++[some o']) (ρ++[p'])) w' (ρ++[p']):=
  ⟨fun b hb hm _=>hu.block b hb fun hx=>hm (.inr (hM b hx)),fun b hb=>.inl (hb.imp id (grow b)),fun i q hi=>EO hi⟩
 refine ⟨⟨by simp [H.len],fun i o1 hi=>?_,fun i o1 p1 b h1 h2 h3=>?_,fun i i' o1 o2 p1 p2 b AR h1 h2 h3 h4 h5 h6=>?_,fun b hb=>⟨zBa (H.nlt b hb).1 hu.size,(H.nlt b hb).2⟩,Γ.st _ _ H.gi (hu.mono fun b _ hb=>(H.cel k o p b hk hp hb).1)⟩,⟨hu.mono fun b _ hb=>hM b hb,fun b hb=>.inl (grow b hb)⟩⟩
 ·rcases Dz hi with ⟨hl,hi⟩ | ⟨hl,hi⟩
  ·obtain ⟨e1,e2,e3⟩:=oY hi;obtain ⟨p1,M4,hr⟩:=H.obj i o1 e3;exact ⟨p1,EO M4,hr.out O hu (fun b hb=>.inr (hM b hb)) fun b _ h1 h2=>H.dis i k o1 o p1 p b e1 e3 hk M4 hp h1 h2⟩
  ·cases hi;exact ⟨p',by rw [hl,Af,←H.len];simp,ho⟩
 ·rcases JS h1 h2 with ⟨AR,_,_,g1,g2⟩ | ⟨_,_,rfl⟩
  ·obtain ⟨e1,e2,c,t,z,e3⟩:=H.cel i o1 p1 b g1 g2 h3;exact ⟨e1,e2,c,t,z,(hu.block b (zAL.1 e3).1 fun hx=>H.dis i k o1 o p1 p b AR g1 hk g2 hp h3 hx).trans e3⟩
  ·obtain ⟨e1,e2⟩:=hf b h3;rcases e1 with e1 | e1
   ·obtain ⟨q1,q2,_⟩:=H.cel k o p b hk hp e1;exact ⟨q1,q2,e2⟩
   ·obtain ⟨q1,q2,_⟩:=H.cel j oj q b hj hq e1;exact ⟨q1,q2,e2⟩
 ·have key: ∀ {i o1 p1},i≠k -> i≠j -> h[i]? =some (some o1) -> ρ[i]? =some p1 -> p1.foot b -> p'.foot b -> False:=fun {i o1 p1} AR PN g1 g2 g3 g4=>by
   rcases (hf b g4).1 with e1 | e1
   ·exact H.dis i k o1 o p1 p b AR g1 hk g2 hp g3 e1
   ·exact H.dis i j o1 oj p1 q b PN g1 hj g2 hq g3 e1
  rcases JS h1 h3 with ⟨Um,PN,_,g1,g2⟩ | ⟨e1,_,rfl⟩
  ·rcases JS h2 h4 with ⟨hne3,_,_,g3,g4⟩ | ⟨e2,_,rfl⟩
   ·exact H.dis i i' o1 o2 p1 p2 b AR g1 g3 g2 g4 h5 h6
   ·exact key Um PN g1 g2 h5 h6
  ·rcases JS h2 h4 with ⟨Um,PN,_,g1,g2⟩ | ⟨e2,_,rfl⟩
   ·exact key Um PN g1 g2 h6 h5
   ·exact AR (e1.trans e2.symm)
def Mn (k k':Nat):DV -> DV
 | .msl k1 m o n=>if k1=k then .msl k' m o n else .msl k1 m o n
 | d=>d
def Z3 (P:Program)(S:St)(o:Oper):Option (St×List Prop):=match o.op with
 | .store t x y=>match o.dst with
  | none=>match AT S.fr x with
   | .mp k 1 i 0=>match AT S.fr y with
    | .it j=>match S.h[k]? with
     | some (some (.mo (.sets n ls none)))=>match S.h[j]? with
      | some (some (.mo (.set n' l)))=>if n'=n/\ (P.info? t).any (fun i=>i.size==1)=true then some (⟨S.fr.map (Mn k S.h.length),(S.h.set k none).set j none++[some (.mo (.sets n (ls.set i (some l)) none))]⟩,[i<ls.length]) else none
      | _=>none
     | _=>none
    | _=>none
   | _=>none
  | some _=>none
 | _=>none
theorem FN.of_map {p:AE}{n:Nat}{ls:List (Option KS)}{lk:Option (Nat×Nat×Array MapEntry×Nat)}{vs:Array Value}(hS:FN w p n ls lk vs){i b:Nat}(h:vs[i]? =some (Value.map (some b))): ∃ l,ls[i]? =some (some l)/\ p.foot b/\ b≠p.blk/\ ∃ es AZ,FF w b n l es AZ:=by
 have hi:i<ls.length:=by rw [←hS.size];exact (zAL.1 h).1
 cases hl:ls[i] with
 | none=>
  have:=hS.nil i (by rw [zAE hi,hl]);rw [this] at h;cases h
 | some l=>
  have Eh:ls[i]? =some (some l):=by rw [zAE hi,hl]
  obtain ⟨b',g1,g2,g3,es,AZ,g4,_⟩:=hS.has i l Eh;have:b'=b:=by rw [g1] at h;cases h;rfl
  subst this;exact ⟨l,Eh,g3,g2,es,AZ,g4⟩
theorem sk (R:AP P Γ N S ρ a w){o:Oper}{S':St}{vs:List Prop}(h:Z3 P S o=some (S',vs))(hv:BY vs):
 BG P (execOp a.eval o) w (fun v w'=>(∃ ρ',AP P Γ N S' ρ' (a.put o.dst v) w'/\ C2 S.h ρ w S'.h ρ' w')/\ ∃ k i p t x y,o.op= .store t x y/\ AT S.fr x= .mp k 1 i 0/\ ρ[k]? =some p/\ AN p.foot w w'):=by
 unfold Z3 at h;split at h
 case h_2=>cases h
 rename_i t x y ho;split at h
 case h_2=>cases h
 rename_i de;split at h
 case h_2=>cases h
 rename_i k i hX;split at h
 case h_2=>cases h
 rename_i j hY;split at h
 case h_2=>cases h
 rename_i n ls hK;split at h
 case h_2=>cases h
 rename_i n' l hJ;split at h
 case isFalse=>cases h
 rename_i hc;cases h;obtain ⟨hnn,Av⟩:=hc;subst hnn;have hi:i<ls.length:=hv.1;have rx:=BO R x;have ry:=BO R y;rw [hX] at rx;rw [hY] at ry;obtain ⟨p,hp,ex⟩:=rx;obtain ⟨q,es,AZ,hq,ey,nK,hqv,hA⟩:=aC R hJ ry;obtain ⟨p',A5,QJ,hS⟩:=R.hr.obj k _ hK;have:p'=p:=zAV (A5.symm.trans hp);subst this;have dT:k≠j:=fun e=>by subst e;rw [hK] at hJ;cases hJ
 obtain ⟨cs,ty,hb,HF,Cy,DP⟩:=hS.row;cases LW:P.info? t with
 | none=>rw [LW] at Av;cases Av
 | some ti=>
 rw [LW] at Av;have Q6:ti.size=1:=by simpa using Av
 have nk:i<QJ.size:=by rw [hS.size];exact hi
 have cw: ∀ b,p'.foot b -> b≠q.blk:=fun b hb e=>R.hr.dis k j _ _ p' q b dT hK hJ hp hq hb (by rw [nK];exact e)
 have eY:a.eval x= .pointer (some ⟨p'.blk,p'.off+i,none⟩):=by rw [ex];simp
 have BF:w.cell? ⟨p'.blk,p'.off+i,none⟩=some QJ[i]:=by
  unfold World.cell?;simp only [hb];rw [DP i hi,zCV nk];rfl
 have HI: ∀ jj,w.frozen? ⟨p'.blk,jj,none⟩=false:=fun jj=>by unfold World.frozen?;simp [hb]
 have hU:AN p'.foot w (w.setCells p'.blk (p'.off+i) (a.eval y).cells.toList):=(QM _ _ _ _).mono fun b _ e=>by rw [show b=p'.blk from e];exact hS.blk
 refine BG.skip (s:=Instr.storeAt t (a.eval x) (a.eval y)) (by unfold execOp;rw [ho]) (w':=w.setCells p'.blk (p'.off+i) (a.eval y).cells.toList) ?_ ?_
 ·rw [eY];refine aL LW (by rw [ey,Q6];rfl) (fun jj NB=>?_) HI (fun u hu=>?_)
  ·rw [ey] at NB;have:jj=0:=by simpa [Value.cells] using NB
   subst this;rw [zF6,BF];rfl
  ·rw [ey] at hu;have:u= .map (some q.blk):=by simpa [Value.cells] using hu
   subst this;rfl
 ·rw [de];rw [ey] at hU ⊢;have eC:(Value.map (some q.blk)).cells.toList= [Value.map (some q.blk)]:=rfl;rw [eC] at hU ⊢;obtain ⟨El,e1,e2,e3⟩:=RP p'.blk ty (0,0) [Value.map (some q.blk)] (p'.off+i) w cs hb (by simp;omega)
  generalize hW:w.setCells p'.blk (p'.off+i) [Value.map (some q.blk)]=W at hU e1 ⊢
  have Bq: ∀ {b ob},b≠p'.blk -> w.heap[b]? =some ob -> W.heap[b]? =some ob:=fun {b ob} AR DN=>by
   rw [←DN,←hW];exact (QM p'.blk [Value.map (some q.blk)] (p'.off+i) w).block b (zAL.1 DN).1 AR
  have kq:q.blk≠p'.blk:=fun e=>cw p'.blk hS.blk e.symm
  let Bg:=QJ.setIfInBounds i (Value.map (some q.blk))
  have Ij: ∀ m:Nat,Bg[m]? =if i=m then some (Value.map (some q.blk)) else QJ[m]? :=fun m=>by
   show (QJ.setIfInBounds i _)[m]? =_
   rw [zCk]
   by_cases e:i=m
   ·rw [zAA e,zAA e,zAA nk]
   ·rw [zAY e,zAY e]
  let p2:AE:=⟨p'.blk,p'.off,p'.room,.tuple Bg,fun b=>b=p'.blk∨∃ m:Nat,Bg[m]? =some (Value.map (some b))⟩
  have mT: ∀ {m:Nat} {z:Option KS},(ls.set i (some l))[m]? =some z -> (m=i/\ z=some l)∨(m≠i/\ ls[m]? =some z):=fun {m z} hm=>by
   rw [zB8] at hm
   by_cases e:i=m
   ·subst e;simp [hi] at hm;exact .inl ⟨rfl,hm.symm⟩
   ·rw [zAY e] at hm;exact .inr ⟨zGi e,hm⟩
  have SA:FN W p2 n' (ls.set i (some l)) none Bg:=by
   refine ⟨rfl,by simp [Bg,hS.size],⟨El,ty,e1,by simpa [e2] using HF,by rw [e2];exact Cy,fun m hm=>?_⟩,.inl rfl,fun m l1 hm=>?_,fun m hm=>?_,fun b hb=>?_,fun m m' b h1 h2=>?_⟩
   ·rw [zCG] at hm
    show El[p'.off+m]? =Bg[m]?
    rw [e3,Ij]
    by_cases e:i=m
    ·subst e;rw [zAA (by simp),zAA rfl];simp
    ·rw [zAY (by simp;omega),zAY e];exact DP m hm
   ·rcases mT hm with ⟨rfl,e⟩ | ⟨AR,hm⟩
    ·cases e;refine ⟨q.blk,by rw [Ij,zAA rfl],kq,.inr ⟨m,by rw [Ij,zAA rfl]⟩,es,AZ,{ hA with blk:=Bq kq hA.blk },fun x hx=>by cases hx⟩
    ·obtain ⟨b,k1,k2,k3,Iz,c1,k4,_⟩:=hS.has m l1 hm;exact ⟨b,by rw [Ij,zAY (zGi AR)];exact k1,k2,.inr ⟨m,by rw [Ij,zAY (zGi AR)];exact k1⟩,Iz,c1,{ k4 with blk:=Bq k2 k4.blk },fun x hx=>by cases hx⟩
   ·rcases mT hm with ⟨rfl,e⟩ | ⟨AR,hm⟩
    ·cases e
    ·rw [Ij,zAY (zGi AR)];exact hS.nil m hm
   ·rcases hb with hb | ⟨m,hm⟩
    ·exact .inl hb
    ·refine .inr ?_;have AC:=hm;rw [Ij] at hm
     by_cases e:i=m
     ·subst e;exact ⟨i,l,by simp [hi],AC⟩
     ·rw [zAY e] at hm;obtain ⟨l1,g1,_⟩:=hS.of_map hm;exact ⟨m,l1,by rw [zB8,zAY e];exact g1,AC⟩
   ·rw [Ij] at h1 h2
    by_cases c1:i=m
    ·by_cases c2:i=m'
     ·omega
     ·rw [zAA c1] at h1;rw [zAY c2] at h2;cases h1;obtain ⟨_,_,g2,_⟩:=hS.of_map h2;exact absurd rfl (cw _ g2)
    ·rw [zAY c1] at h1
     by_cases c2:i=m'
     ·rw [zAA c2] at h2;cases h2;obtain ⟨_,_,g2,_⟩:=hS.of_map h1;exact absurd rfl (cw _ g2)
     ·rw [zAY c2] at h2;exact hS.inj m m' b h1 h2
  have FK: ∀ b,p2.foot b -> (p'.foot b∨q.foot b)/\ Ds W b:=fun b hb=>by
   refine ⟨?_,SA.lies hb⟩;rcases hb with hb | ⟨m,hm⟩
   ·exact .inl (by rw [hb];exact hS.blk)
   ·rw [Ij] at hm
    by_cases e:i=m
    ·rw [zAA e] at hm;cases hm;exact .inr (by rw [nK])
    ·rw [zAY e] at hm;exact .inl (hS.of_map hm).choose_spec.2.1
  obtain ⟨g1,g2⟩:=R.hr.merge (o':=.mo (.sets n' (ls.set i (some l)) none)) (p':=p2) dT hK hp hJ hq hU FK ⟨Bg,SA⟩
  have O:BH (MS N S.h ρ) w ρ (MS N ((S.h.set k none).set j none++[some (.mo (.sets n' (ls.set i (some l)) none))]) (ρ++[p2])) W (ρ++[p2]):=
   ⟨fun b hb hm _=>hU.block b hb fun hx=>hm (.inr ⟨k,_,p',hK,hp,hx⟩),fun b hb=>hb.elim (fun h=>.inl (.inl h)) (fun h=>(g2.grow b h).imp .inr id),fun k q hk=>EO hk⟩
  refine ⟨⟨ρ++[p2],⟨g1,by simp [R.fr.1,Act.put],fun m hm=>?_⟩,g2,fun k q hk=>EO hk⟩,k,i,p',t,x,y,ho,hX,hp,hU⟩;have CT:m<S.fr.length:=by simpa using hm
  have e:(S.fr.map (Mn k S.h.length)).getD m .any=Mn k S.h.length (S.fr.getD m .any):=by simp [CT]
  show AI _ W ((S.fr.map (Mn k S.h.length)).getD m .any) _ _
  rw [e];have r0:=R.fr.2 m CT;cases hd:S.fr.getD m .any with
  | msl k1 m1 o1 n1=>
   rw [hd] at r0
   by_cases hc:k1=k
   ·have e2:Mn k S.h.length (.msl k1 m1 o1 n1)= .msl S.h.length m1 o1 n1:=by simp only [Mn,zAA hc]
    rw [e2];rw [hc] at r0;obtain ⟨q0,cap,RD,ca,u1,u2,u3⟩:=r0;have eq0:q0=p':=zAV (RD.symm.trans hp);subst eq0;exact ⟨p2,cap,by rw [←R.hr.len];simp,ca,u1,u2,u3⟩
   ·have e2:Mn k S.h.length (.msl k1 m1 o1 n1)= .msl k1 m1 o1 n1:=by simp only [Mn,zAY hc]
    rw [e2];exact AI.out _ O r0
  | _=>rw [hd] at r0;exact AI.out _ O r0
end
abbrev zGZ:=@List.mem_iff_getElem?
abbrev zGa:=@Array.getElem?_toList
abbrev zHM:=@Array.mem_toList_iff
def QQ:DV:=.tup 0 (fun j=>([]:List DV).getD j .any)
theorem WJ {M:Nat -> Prop}{w:World}{ρ:List AE}:AI M w QQ ρ undef:=⟨#[],rfl,rfl,fun j hj=>absurd hj (zBk j)⟩
def CV (fr:List DV)(dst:Option Nat)(d:DV):List DV:=match dst with
 | some t=>fr.set t d
 | none=>fr
section
variable {P:Program} {Γ:Aj} {N:Nat -> Prop} {S:St} {ρ:List AE} {a:Act} {w:World}
theorem Gl (R:AP P Γ N S ρ a w)(dst:Option Nat){d:DV}{v:Value}(hv:AI (MS N S.h ρ) w d ρ v):AP P Γ N ⟨CV S.fr dst d,S.h⟩ ρ (a.put dst v) w:=by
 refine ⟨R.hr,?_⟩;cases dst with
 | none=>exact R.fr
 | some t=>exact R.fr.set t hv
theorem NK (R:AP P Γ N S ρ a w){d d':DV}{h':DH}{ext:Bool}{v:Value}{w':World}(dst:Option Nat)(G:B1 P Γ N S.h ρ w ext d h' v w')(hd: ∀ M ρ',AI M w' d ρ' v -> AI M w' d' ρ' v):
 ∃ ρ',AP P Γ N ⟨CV S.fr dst d',h'⟩ ρ' (a.put dst v) w'/\ C2 S.h ρ w h' ρ' w':=by
 obtain ⟨ρ',g1,g2,g3,g4⟩:=G.ex;have O:BH (MS N S.h ρ) w ρ (MS N h' ρ') w' ρ':=⟨fun b hb hm _=>g3.upd.block b hb fun hx=>hm (.inr hx),fun b hb=>hb.elim (fun h=>.inl (.inl h)) (fun h=>(g3.grow b h).imp .inr id),g4⟩;have R':AP P Γ N ⟨S.fr,h'⟩ ρ' a w':=⟨g1,R.fr.out O⟩;exact ⟨ρ',Gl R' dst (hd _ _ g2),g3,g4⟩
end
def TY (P:Program)(t:TypeId):Option (TypeId×TypeId):=match P.underlying t with
 | some (.map k e)=>if UW P k then match P.info? e with
  | some i=>match i.zero with
   | some (.slice none 0 0)=>some (k,e)
   | _=>none
  | none=>none
  else none
 | _=>none
theorem kP {P:Program}{t k e:TypeId}(h:TY P t=some (k,e)):P.underlying t=some (.map k e)/\ G6 P k=some 1/\ ∀ w,(zeroValue e).run P w= .ok (.slice none 0 0) w:=by
 unfold TY at h;split at h
 ·rename_i k' e' hu;split at h
  ·rename_i hk;split at h
   ·rename_i i hi;split at h
    ·rename_i hz;cases h;exact ⟨hu,by unfold G6;rw [b6 hk],fun w=>by simp [zeroValue,typeInfo,hi,hz]⟩
    ·cases h
   ·cases h
  ·cases h
 ·cases h
def Qt (j q:Nat):DV -> DV
 | .mri k i=>if k=j then (if i=0 then .mri q 0 else .any) else .mri k i
 | d=>d
def Hr (f:Int -> List Int)(k:Int)(L:List Int):Int -> List Int:=fun x=>if x=k then L else f x
def TZ (P:Program)(S:St)(o:Oper):Option (St×List Prop):=match o.op with
 | .makeMap t none=>match TY P t with
  | some _=>some (⟨CV S.fr o.dst (.mri S.h.length 0),S.h++[some (.mo (.rows (fun _=>[]) none))]⟩,[])
  | none=>none
 | .lookup t m k false=>match TY P t with
  | some _=>match AT S.fr m,AT S.fr k with
   | .mri j 0,.int .i64 x=>match S.h[j]? with
    | some (some (.mo (.rows f Bw)))=>if Bw.all (fun y=>!y.2.2) then some (⟨CV (S.fr.map (Qt j S.h.length)) o.dst (.mri S.h.length 1),S.h.set j none++[some (.mo (.rows f (some (x,f x,false))))]⟩,[]) else none
    | _=>none
   | _,_=>none
  | none=>none
 | .mapUpdate t m k y=>match TY P t with
  | some _=>match AT S.fr m,AT S.fr k,AT S.fr y with
   | .mri j 0,.int .i64 x,.mri j' 1=>match S.h[j]? with
    | some (some (.mo (.rows f (some (x',L,_)))))=>if j'=j then some (⟨CV S.fr o.dst QQ,S.h.set j (some (.mo (.rows (Hr f x' L) none)))⟩,[x'=x]) else none
    | _=>none
   | _,_,_=>none
  | none=>none
 | .call c=>match c.callee with
  | .builtin .append=>match c.args.toList with
   | [x,y]=>match c.argTypes.toList with
    | [t,t']=>if t=t' then match Kl P t with
     | some (.ints,_,i,_)=>if 128<i.bytes then none else match AT S.fr x,LS S (AT S.fr y) with
      | .mse j 1 off n,some (ys,vy)=>match S.h[j]? with
       | some (some (.ints xs))=>some (⟨CV S.fr o.dst (.mse S.h.length 1 0 (n+ys.length)),S.h.set j none++[some (.ints (xs.drop off++ys))]⟩,[vy,0<ys.length,off+n=xs.length,n+ys.length<=A3])
       | _=>none
      | .mri j 1,some (ys,vy)=>match S.h[j]? with
       | some (some (.mo (.rows f (some (x',L,_)))))=>some (⟨CV (S.fr.map (Qt j S.h.length)) o.dst (.mri S.h.length 1),S.h.set j none++[some (.mo (.rows f (some (x',L++ys,true))))]⟩,[vy,0<ys.length,L.length+ys.length<=A3])
       | _=>none
      | _,_=>none
     | _=>none
     else none
    | _=>none
   | _=>none
  | _=>none
 | _=>none
theorem vb {P:Program}{S:St}{o:Oper}{r:St×List Prop}(h:TZ P S o=some r){t:TypeId}{x y:Operand}:o.op≠.store t x y:=by
 intro e;unfold TZ at h;rw [e] at h;cases h
theorem A0.map {M:Nat -> Prop}{w:World}{ρ:List AE}{fr:List DV}{t:Array Value}(h:A0 M w ρ fr t){g:DV -> DV}(hg: ∀ d v,AI M w d ρ v -> AI M w (g d) ρ v):A0 M w ρ (fr.map g) t:=
 ⟨by simp [h.1],fun i hi=>by
  have A8:i<fr.length:=by simpa using hi
  have e:(fr.map g).getD i .any=g (fr.getD i .any):=by simp [A8]
  rw [e];exact hg _ _ (h.2 i A8)⟩
section
variable {P:Program} {Γ:Aj} {N:Nat -> Prop} {S:St} {ρ:List AE} {a:Act} {w w':World} {p p':AE} {f:Int -> List Int} {Bw:Option (Int×List Int×Bool)} {u:Value} {es:Array MapEntry} {AZ:Nat}
theorem lf (h:E2 w p f Bw u es AZ){kt:TypeId}(hk:P.underlying kt=some (.int .i64))(x:Int):
 ((Instr.findKey kt (.int .i64 x) es.toList).run P w= .ok none w/\ ∀ e∈es.toList,e.key≠.int .i64 x)∨∃ j e,(Instr.findKey kt (.int .i64 x) es.toList).run P w= .ok (some (j,e.val)) w/\ es[j]? =some e/\ e.key= .int .i64 x:=by
 rcases MapKept.findNow_spec (d:=.int .i64) (k:=.int .i64 x) (by trivial) es.toList 0 (fun e hm=>by
  obtain ⟨k,hk,_⟩:=h.key e hm;rw [hk];trivial) with ⟨h1,h2⟩ | ⟨j,e,h1,h2,h3⟩
 ·exact .inl ⟨zGs hk h1,h2⟩
 ·exact .inr ⟨j,e,by have:=zGs (w:=w) hk h1;rw [zBy] at this;exact this,by simpa using h2,h3⟩
theorem XP (R:AP P Γ N S ρ a w){j i:Nat}{v:Value}(hk:S.h[j]? =some (some (.mo (.rows f Bw))))(hv:AI (MS N S.h ρ) w (.mri j i) ρ v): ∃ p u es AZ,ρ[j]? =some p/\ E2 w p f Bw u es AZ/\ (#[Value.map (some p.blk),u]:Array Value)[i]? =some v:=by
 obtain ⟨p,vs,hp,GT,C6⟩:=hv;obtain ⟨p',A5,u,es,AZ,h1⟩:=R.hr.obj j _ hk;have:p'=p:=zAV (A5.symm.trans hp);subst this;have: #[Value.map (some p'.blk),u]=vs:=by have:=h1.val.symm.trans GT;cases this;rfl
 subst this;exact ⟨p',u,es,AZ,hp,h1,C6⟩
theorem E2.lies (h:E2 w p f Bw u es AZ):Ds w p.blk:=⟨_,rfl,(),h.blk⟩
theorem kN (R:AP P Γ N S ρ a w){j:Nat}(hj:S.h[j]? =some (some (.mo (.rows f Bw))))(hp:ρ[j]? =some p)(hO:E2 w p f Bw u es AZ){f':Int -> List Int}{Jg:Option (Int×List Int×Bool)}{u':Value}{ER:Array MapEntry}{FC:Nat} 
 (hu:AN p.foot w w') (hf: ∀ b,p'.foot b -> (p.foot b∨w.heap.size<=b)/\ Ds w' b) (Kg:E2 w' p' f' Jg u' ER FC) (dw:p'.blk=p.blk) (dst:Option Nat):
 ∃ ρ',AP P Γ N ⟨CV (S.fr.map (Qt j S.h.length)) dst (.mri S.h.length 1),S.h.set j none++[some (.mo (.rows f' Jg))]⟩ ρ' (a.put dst u') w'/\ C2 S.h ρ w (S.h.set j none++[some (.mo (.rows f' Jg))]) ρ' w':=by
 obtain ⟨g1,g2⟩:=R.hr.regrow (o':=.mo (.rows f' Jg)) hj hp hu hf ⟨u',ER,FC,Kg⟩;have EM: ∀ (k:Nat) (q:AE),ρ[k]? =some q -> (ρ++[p'])[k]? =some q:=fun k q hk=>EO hk
 have O:BH (MS N S.h ρ) w ρ (MS N (S.h.set j none++[some (.mo (.rows f' Jg))]) (ρ++[p'])) w' (ρ++[p']):=
  ⟨fun b hb hm _=>hu.block b hb fun hx=>hm (.inr ⟨j,_,p,hj,hp,hx⟩),fun b hb=>hb.elim (fun h=>.inl (.inl h)) (fun h=>(g2.grow b h).imp .inr id),EM⟩
 have hq:(ρ++[p'])[S.h.length]? =some p':=by rw [←R.hr.len];simp
 have B3:=(R.fr.out O).map (g:=Qt j S.h.length) (fun d v hd=>by
  unfold Qt;split
  ·rename_i k i;split
   ·rename_i e;split
    ·rename_i e2;subst e e2;obtain ⟨q,vs,h1,h2,h3⟩:=hd;have:q=p:=zAV (h1.symm.trans (EM _ _ hp));subst this;have e3: #[Value.map (some q.blk),u]=vs:=by have:=hO.val.symm.trans h2;cases this;rfl
     subst e3;exact ⟨p',_,hq,Kg.val,by rw [dw];simpa using h3⟩
    ·trivial
   ·exact hd
  ·exact hd)
 exact ⟨ρ++[p'],Gl (S:=⟨S.fr.map (Qt j S.h.length),_⟩) ⟨g1,B3⟩ dst ⟨p',_,hq,Kg.val,rfl⟩,g2,EM⟩
theorem xG (h:E2 w p f Bw u es AZ)(hh: ∀ k L,Bw≠some (k,L,true)){t kt et:TypeId}(hm:P.underlying t=some (.map kt et))(hk:G6 P kt=some 1)(hz:(zeroValue et).run P w= .ok (.slice none 0 0) w)(x:Int):
 ∃ u',(Instr.lookup t (.map (some p.blk)) (.int .i64 x) false).run P w= .ok u' w/\ E2 w { p with val:=.tuple #[Value.map (some p.blk),u'] } f (some (x,f x,false)) u' es AZ:=by
 have hu:P.underlying kt=some (.int .i64):=by
  rcases Q2 hk with ⟨_,hu⟩ | ⟨_,_,_,h2,_⟩
  ·exact hu
  ·cases h2
 have hc:=fun e=>Q0 (w:=w) hk (x:=[x]) rfl e
 have mk: ∀ u',(IB w (fun b=>p.foot b/\ b≠p.blk) u' (f x)/\ ∀ e∈es.toList,∀ b,DU u'=some b -> DU e.val=some b -> e.key= .int .i64 x) -> E2 w { p with val:=.tuple #[Value.map (some p.blk),u'] } f (some (x,f x,false)) u' es AZ:=fun u' Bh=>
  ⟨rfl,h.blk,h.own,fun e he=>let ⟨k,h1,h2⟩:=h.key e he;⟨k,h1,fun _=>h2 fun L=>hh k L⟩,h.no,h.nd,h.apart,h.born,h.stamps,fun k L g e=>by cases e;exact Bh⟩
 rcases lf h hu x with ⟨h1,h2⟩ | ⟨j,e,h1,h2,h3⟩
 ·refine ⟨.slice none 0 0,?_,mk _ ⟨.inl ⟨h.no x h2,rfl⟩,fun e _ b hb=>by cases hb⟩⟩;have H4:=hc es.isEmpty;simp only [BP] at H4;simp [Instr.lookup,zCY hm,zFi h.blk,H4,h1,hz,Result.andThen]
 ·have CT:e∈es.toList:=zHM.2 (zGL h2);obtain ⟨k,g1,g2⟩:=h.key e CT;have:k=x:=by rw [g1] at h3;cases h3;rfl
  subst this;refine ⟨e.val,?_,mk _ ⟨g2 fun L=>hh k L,fun e' H3 b hb DQ=>(h.apart e' H3 e CT b DQ hb).trans h3⟩⟩;have H4:=hc es.isEmpty;simp only [BP] at H4;simp [Instr.lookup,zCY hm,zFi h.blk,H4,h1,Result.andThen]
theorem jT {F:Nat -> Prop}{L:List Int}(hs:IB w F u L){t e ty:TypeId}{i:TypeInfo}{z:Value}(hu:P.underlying t=some (.slice e))(hi:P.info? e=some i)(hz:i.zero=some z)(Av:i.size=1)(Cl:z.cells.size=i.size)(Dx:i.bytes<=128) 
 {vy:Value} {ys:List Int} (hy:Src P i.size t vy ys.length (ys.map (Value.int .i64)) w) (hc:0<ys.length) (hb:L.length+ys.length<=A3):
 ∃ w' q Bz,(Builtin.append_ #[t,t] ty #[u,vy]).run P w= .ok (.slice (some ⟨q.blk,q.off,none⟩) (L++ys).length Bz) w'/\ (L++ys).length<=Bz/\ q.off+Bz<=q.room/\ AN (fun b=>DU u=some b) w w'/\ (DU u=some q.blk∨w.heap.size<=q.blk)/\ AQ w' q (L++ys).length (fun j v=>v= .int .i64 ((L++ys).getD j 0)):=by
 have Af:(L++ys).length=L.length+ys.length:=zBe;rcases hs with ⟨rfl,rfl⟩ | ⟨q,cap,rfl,h1,h2,h3,h4,h5⟩
 ·obtain ⟨w',Bz,r1,r2,cs,rfl,r4,r5⟩:=fc none (ty:=ty) hu hi hz Cl Dx hy hc (by unfold A3 at hb;simp at hb;omega);rw [Av,zCm] at r4;refine ⟨_,Ee w cs.size,Bz,by simpa [Ee] using r1,by simpa using r2,by simp [Ee,r4],AN.ofExt ((Am.toDrew w).allocR _),.inr (zBl _),OJ rfl (by simp;omega) fun j hj=>?_⟩;have BM:j<ys.length:=by simpa using hj
  refine ⟨.int .i64 (ys.getD j 0),?_,by simp⟩;rw [r5 j (by rw [Av,zCm];exact BM)];simp [BM]
 ·obtain ⟨w',q',Bz,r1,r2,r3,r4,r5,r6⟩:=fY (ty:=ty) (R:=fun j v=>v= .int .i64 (L.getD j 0)) (cap:=cap) hu hi hz (by omega) Cl Dx (by rw [Av,zCm];exact h5) h1 (by rw [Av,zCm];exact h2) hy (by unfold A3 at hb;omega);rw [Av,zCm] at r3;have hq:q.foot=(fun b=>b=q.blk):=h5.1;have hR:=bz (P:=P) (M:=fun _=>False) (ρ':=[]) Av r6;refine ⟨w',q',Bz,by rw [Af];exact r1,by rw [Af];exact r2,r3,r4.mono fun b _ hb=>by rw [hq] at hb;rw [show b=q.blk from hb];rfl,?_,hR⟩;have PI:=r6.1;rcases r5 q'.blk (by rw [PI]) with e | e
  ·rw [hq] at e;exact .inl (by rw [show q'.blk=q.blk from e];rfl)
  ·exact .inr e
theorem xH (h:E2 w p f Bw u es AZ){x:Int}{L:List Int}{g:Bool}(Ke:Bw=some (x,L,g))(hl: ∀ b,p.foot b -> Ds w b){t e ty:TypeId}{i:TypeInfo}{z:Value}(hu:P.underlying t=some (.slice e))(hi:P.info? e=some i)(hz:i.zero=some z)(Av:i.size=1)(Cl:z.cells.size=i.size)(Dx:i.bytes<=128) 
 {vy:Value} {ys:List Int} (hy:Src P i.size t vy ys.length (ys.map (Value.int .i64)) w) (hc:0<ys.length) (hb:L.length+ys.length<=A3):
 ∃ w' u' p',(Builtin.append_ #[t,t] ty #[u,vy]).run P w= .ok u' w'/\ AN p.foot w w'/\ (∀ b,p'.foot b -> (p.foot b∨w.heap.size<=b)/\ Ds w' b)/\ E2 w' p' f (some (x,L++ys,true)) u' es AZ/\ p'.blk=p.blk:=by
 obtain ⟨hs,hd⟩:=h.inHand x L g Ke;have Af:(L++ys).length=L.length+ys.length:=zBe;have bX:=jT (ty:=ty) hs hu hi hz Av Cl Dx hy hc hb;obtain ⟨w',q,Bz,r1,r2,r3,r4,r5,r6⟩:=bX;have Ns: ∀ b,DU u=some b -> (p.foot b/\ b≠p.blk)/\ b<w.heap.size:=fun b hb=>hs.blk hb
 have keep: ∀ b,b<w.heap.size -> DU u≠some b -> w'.heap[b]? =w.heap[b]? :=fun b hb hn=>r4.block b hb hn
 have PJ:DU u≠some p.blk:=fun e=>(Ns _ e).1.2 rfl
 have cx:p.blk<w.heap.size:=(zAL.1 h.blk).1;have cv:q.blk≠p.blk:=fun e=>r5.elim (fun e'=>PJ (by rw [←e];exact e')) (fun e'=>by omega)
 refine ⟨w',_,⟨p.blk,p.off,p.room,.tuple #[Value.map (some p.blk),.slice (some ⟨q.blk,q.off,none⟩) (L++ys).length Bz],fun b=>(p.foot b/\ DU u≠some b)∨b=q.blk⟩,r1,r4.mono fun b _ hb=>(Ns b hb).1.1,fun b hb=>?_,?_,rfl⟩
 ·rcases hb with ⟨g1,g2⟩ | g1
  ·obtain ⟨c,t1,t2,hc⟩:=hl b g1;exact ⟨.inl g1,c,t1,t2,(keep b (zAL.1 hc).1 g2).trans hc⟩
  ·obtain ⟨_,cs,tt,g,_⟩:=r6;subst g1;exact ⟨r5.imp (fun e=>(Ns _ e).1.1) id,.cells g⟩
 ·have FY: ∀ e'∈es.toList,∀ k,e'.key= .int .i64 k -> k≠x -> IB w (fun b=>p.foot b/\ b≠p.blk) e'.val (f k):=fun e' he k hk LZ=>by
   obtain ⟨k',h1,h2⟩:=h.key e' he;have:k'=k:=by rw [h1] at hk;cases hk;rfl
   subst this;exact h2 fun L' e=>by rw [Ke] at e;cases e;exact LZ rfl
  refine ⟨rfl,(keep _ cx PJ).trans h.blk,.inl ⟨h.own,PJ⟩,fun e' he=>?_,h.no,h.nd,h.apart,h.born,h.stamps,fun k L' g' e'=>?_⟩
  ·obtain ⟨k,h1,_⟩:=h.key e' he;refine ⟨k,h1,fun hn=>?_⟩;have hk:k≠x:=fun e=>by subst e;exact hn _ rfl
   have ne: ∀ b,DU e'.val=some b -> DU u≠some b:=fun b hb DQ=>hk (by have:=hd e' he b DQ hb;rw [h1] at this;cases this;rfl)
   exact (FY e' he k h1 hk).out (fun b hf hb hl=>keep b hl (ne b hb)) fun b hf hb=>⟨.inl ⟨hf.1,ne b hb⟩,hf.2⟩
  ·cases e';refine ⟨.inr ⟨q,Bz,rfl,r2,r3,by unfold LB;unfold A3 at hb;omega,⟨.inr rfl,cv⟩,r6⟩,fun e' he b hb DQ=>?_⟩;cases hb;rcases r5 with r5 | r5
   ·exact hd e' he _ r5 DQ
   ·obtain ⟨k',h1,_⟩:=h.key e' he
    by_cases hk:k'=x
    ·subst hk;exact h1
    ·exact absurd ((FY e' he k' h1 hk).blk DQ).2 (Nat.not_lt.2 r5)
theorem xF (h:E2 w p f Bw u es AZ){x:Int}{L:List Int}{g:Bool}(Ke:Bw=some (x,L,g)){t kt et:TypeId}(hm:P.underlying t=some (.map kt et))(hk:G6 P kt=some 1):
 ∃ w' ER FC,(Instr.mapUpdate t (.map (some p.blk)) (.int .i64 x) u).run P w= .ok () w'/\ AN (fun b=>b=p.blk) w w'/\ E2 w' p (Hr f x L) none u ER FC:=by
 have hu:P.underlying kt=some (.int .i64):=by
  rcases Q2 hk with ⟨_,hu⟩ | ⟨_,_,_,h2,_⟩
  ·exact hu
  ·cases h2
 have hc:=Q0 (w:=w) hk (x:=[x]) rfl false;simp only [BP] at hc;obtain ⟨hs,hd⟩:=h.inHand x L g Ke;have AK:p.blk<w.heap.size:=(zAL.1 h.blk).1
 have mk: ∀ (ER:Array MapEntry) (FC:Nat),(∀ e∈ER.toList,(e.key= .int .i64 x/\ e.val=u)∨(e∈es.toList/\ e.key≠.int .i64 x)) -> (∃ e∈ER.toList,e.key= .int .i64 x) -> (∀ e∈es.toList,e.key≠.int .i64 x -> e∈ER.toList) -> MapKept.Stamped ER FC ->
  E2 { w with heap:=w.heap.setIfInBounds p.blk (.map ER FC) } p (Hr f x L) none u ER FC:=fun ER FC m1 m2 m3 st=>by
  have stay: ∀ b,b≠p.blk -> (w.heap.setIfInBounds p.blk (.map ER FC))[b]? =w.heap[b]? :=fun b hb=>by simp [zGi hb]
  have FY: ∀ e'∈es.toList,∀ k,e'.key= .int .i64 k -> k≠x -> IB w (fun b=>p.foot b/\ b≠p.blk) e'.val (f k):=fun e' he k hk LZ=>by
   obtain ⟨k',h1,h2⟩:=h.key e' he;have:k'=k:=by rw [h1] at hk;cases hk;rfl
   subst this;exact h2 fun L' e=>by rw [Ke] at e;cases e;exact LZ rfl
  refine ⟨h.val,by simp [AK],h.own,fun e he=>?_,fun k Cz=>?_,st.2.2,fun e he e' H3 b hb DQ=>?_,st.1,st.2.1,fun k L' g' e=>by cases e⟩
  ·rcases m1 e he with ⟨a1,a2⟩ | ⟨a1,a2⟩
   ·refine ⟨x,a1,fun _=>?_⟩;rw [a2];unfold Hr;rw [zAA rfl];exact hs.out (fun b hf _ _=>stay b hf.2) fun _ h _=>h
   ·obtain ⟨k,h1,_⟩:=h.key e a1;have LZ:k≠x:=fun e'=>a2 (by rw [h1,e'])
    refine ⟨k,h1,fun _=>?_⟩;unfold Hr;rw [zAY LZ];exact (FY e a1 k h1 LZ).out (fun b hf _ _=>stay b hf.2) fun _ h _=>h
  ·have LZ:k≠x:=fun e=>by subst e;obtain ⟨e,h1,h2⟩:=m2;exact Cz e h1 h2
   unfold Hr;rw [zAY LZ];refine h.no k fun e he nj=>?_
   exact Cz e (m3 e he fun h=>LZ (by rw [nj] at h;cases h;rfl)) nj
  ·rcases m1 e he with ⟨a1,a2⟩ | ⟨a1,a2⟩
   ·rcases m1 e' H3 with ⟨b1,b2⟩ | ⟨b1,b2⟩
    ·rw [a1,b1]
    ·rw [a2] at hb;exact a1.trans (hd e' b1 b hb DQ).symm
   ·rcases m1 e' H3 with ⟨b1,b2⟩ | ⟨b1,b2⟩
    ·rw [b2] at DQ;exact (hd e a1 b DQ hb).trans b1.symm
    ·exact h.apart e a1 e' b1 b hb DQ
 have st:MapKept.Stamped es AZ:=⟨h.born,h.stamps,h.nd⟩;rcases lf h hu x with ⟨h1,h2⟩ | ⟨j,e,h1,h2,h3⟩
 ·refine ⟨_,es.push { key:=.int .i64 x,val:=u,born:=AZ },AZ+1,?_,Si _,mk _ _ (fun e he=>?_) ⟨{ key:=.int .i64 x,val:=u,born:=AZ },by simp,rfl⟩ (fun e he _=>by simp [zHM.1 he]) (MapKept.stamped_push st h2)⟩
  ·simp [Instr.mapUpdate,zCY hm,zFi h.blk,hc,h1,zGW _ h.blk,Result.andThen]
  ·simp only [Array.toList_push,zB3,zBv] at he;rcases he with he | rfl
   ·exact .inr ⟨he,h2 e he⟩
   ·exact .inl ⟨rfl,rfl⟩
 ·have Ei:((es[j]?).map (·.key)).getD (.int .i64 x)= .int .i64 x:=by rw [h2];exact h3
  have hst:=MapKept.run_keyThatStays (P:=P) (w:=w) (d:=.int .i64) (k:=.int .i64 x) (by trivial);have hj:j<es.size:=(zAL.1 h2).1
  have inj: ∀ (m:Nat) (e':MapEntry),es[m]? =some e' -> e'.key= .int .i64 x -> m=j:=fun m e' CT Cz=>by
   have HE:m<es.size:=(zAL.1 CT).1;have g1:(es.toList.map (·.key))[m]? =some (.int .i64 x):=by simp [CT,Cz]
   have g2:(es.toList.map (·.key))[j]? =some (.int .i64 x):=by simp [h2,h3]
   exact (List.getElem?_inj (by simpa using HE) h.nd).1 (g1.trans g2.symm)
  have Jd: ∀ (m:Nat),(es.modify j fun e=>{ e with key:=.int .i64 x,val:=u })[m]? =if j=m then (es[m]?).map (fun e=>{ e with key:=.int .i64 x,val:=u }) else es[m]? :=fun m=>zGN
  refine ⟨_,es.modify j fun e=>{ e with key:=.int .i64 x,val:=u },AZ,?_,Si _,mk _ _ (fun e1 dc=>?_) ⟨{ e with key:=.int .i64 x,val:=u },?_,rfl⟩ (fun e1 dc AR=>?_) (MapKept.stamped_modify st _ _ (fun _ _=>rfl) fun e' _ H3=>by rw [h2] at H3;cases H3;exact h3.symm)⟩
  ·simp [Instr.mapUpdate,zCY hm,zFi h.blk,hc,h1,Ei,hst,zGW _ h.blk,Result.andThen]
  ·obtain ⟨m,CT⟩:=zGZ.1 dc;rw [zGa,Jd] at CT;split at CT
   ·rename_i dW;subst dW;rw [h2] at CT;cases CT;exact .inl ⟨rfl,rfl⟩
   ·rename_i dW;exact .inr ⟨zHM.2 (zGL CT),fun Cz=>dW (inj m e1 CT Cz).symm⟩
  ·exact zGZ.2 ⟨j,by rw [zGa,Jd,zAA rfl,h2];rfl⟩
  ·obtain ⟨m,CT⟩:=zGZ.1 dc;rw [zGa] at CT;refine zGZ.2 ⟨m,by rw [zGa,Jd,zAY];exact CT;rintro rfl;rw [h2] at CT;cases CT;exact AR h3⟩
theorem yE (R:AP P Γ N S ρ a w){j off n:Nat}{xs:List Int}{v:Value}(hO:S.h[j]? =some (some (.ints xs)))(hv:AI (MS N S.h ρ) w (.mse j 1 off n) ρ v)(hn:off+n=xs.length){t e ty:TypeId}{i:TypeInfo}{z:Value}(hu:P.underlying t=some (.slice e))(hi:P.info? e=some i)(hz:i.zero=some z)(Av:i.size=1)(Cl:z.cells.size=i.size)(Dx:i.bytes<=128) 
 {vy:Value} {ys:List Int} (hy:Src P i.size t vy ys.length (ys.map (Value.int .i64)) w) (hc:0<ys.length) (hb:n+ys.length<=A3):
 ∃ u w' p' Bz,v=u/\ (Builtin.append_ #[t,t] ty #[u,vy]).run P w= .ok (.slice (some ⟨p'.blk,p'.off,none⟩) (n+ys.length) Bz) w'/\ n+ys.length<=Bz/\ p'.off+Bz<=p'.room/\ (∃ p,ρ[j]? =some p/\ AN p.foot w w'/\ ∀ b,p'.foot b -> (p.foot b∨w.heap.size<=b)/\ Ds w' b)/\
  (∀ {M ρ'},Dr P M w' ρ' p' (.ints (xs.drop off++ys)))/\ True:=by
 obtain ⟨p,ad,cap,hp,rfl,h1,h2,h3⟩:=hv;obtain ⟨p2,PK,hr⟩:=R.hr.obj j _ hO;have:p2=p:=zAV (PK.symm.trans hp);subst this;have PX:(xs.drop off).length=n:=by simp;omega
 have bX: ∃ w' p' Bz,(Builtin.append_ #[t,t] ty #[.slice ad n cap,vy]).run P w= .ok (.slice (some ⟨p'.blk,p'.off,none⟩) (n+ys.length) Bz) w'/\ n+ys.length<=Bz/\ p'.off+Bz*i.size<=p'.room/\ AN p2.foot w w'/\ (∀ b,p'.foot b -> p2.foot b∨w.heap.size<=b)/\ AQ w' p' ((n+ys.length)*i.size) (I2 (n*i.size) (fun j u=>u= .int .i64 ((xs.drop off).getD j 0)) (ys.map (Value.int .i64))):=by
  by_cases NE:cap=0
  ·subst NE;have Fw:n=0:=by omega
   subst Fw;obtain ⟨w',Bz,r1,r2,cs,rfl,r4,r5⟩:=fc ad (ty:=ty) hu hi hz Cl Dx hy hc (by unfold A3 at hb;omega);refine ⟨_,Ee w cs.size,Bz,by simpa [Ee] using r1,by omega,by simp [Ee,r4],AN.ofExt ((Am.toDrew w).allocR _),fun b hb=>.inr (zHR (Eq.symm hb)),OJ rfl ?_ fun j hj=>?_⟩
   ·rw [r4];exact zFn _ (by omega)
   ·rw [zBy] at hj;refine ⟨(ys.map (Value.int .i64)).getD j undef,?_,?_⟩
    ·rw [r5 j hj];rw [Av,zCm] at hj;simp [hj]
    ·rw [Av,zCm] at hj;unfold I2;rw [zAY (by omega)];simp [hj]
  ·obtain ⟨rfl,h4⟩:=h3 (by omega);obtain ⟨c1,cs,tt,c2,c3,c4,c5⟩:=hr
   exact fY (ty:=ty) (p:={ p2 with off:=p2.off+off*1 }) (cap:=cap) hu hi hz (by omega) Cl Dx (R:=fun j u=>u= .int .i64 ((xs.drop off).getD j 0)) (by
    refine ⟨c1,cs,tt,c2,?_,c4,fun j hj=>?_⟩
    ·rw [Av];show p2.off+off*1+n*1<=cs.size;omega
    ·rw [Av,zCm] at hj;obtain ⟨u,q1,q2⟩:=c5 (off+j) (by omega);refine ⟨u,by show cs[p2.off+off*1+j]? =_;rw [show p2.off+off*1+j=p2.off+(off+j) by omega];exact q1,?_⟩;rw [q2];simp [u8]) h1 (by rw [Av];simpa using h4) hy (by unfold A3 at hb;omega)
 obtain ⟨w',p',Bz,r1,r2,r3,r4,r5,r6⟩:=bX;rw [Av,zCm] at r3;refine ⟨_,w',p',Bz,rfl,r1,r2,r3,⟨p2,hp,r4,fun b hb=>⟨r5 b hb,?_⟩⟩,fun {M ρ'}=>bz (xs:=xs.drop off) (ys:=ys) Av (by rw [PX];exact r6),trivial⟩;obtain ⟨e1,cs,tt,e2,_⟩:=r6;rw [e1] at hb;exact .cells (c:=cs) (t:=tt) (z:=(0,0)) (by rw [show b=p'.blk from hb];exact e2)
theorem va (R:AP P Γ N S ρ a w){o:Oper}{S':St}{vs:List Prop}(h:TZ P S o=some (S',vs))(hv:BY vs):
 BG P (execOp a.eval o) w (fun v w'=>∃ ρ',AP P Γ N S' ρ' (a.put o.dst v) w'/\ C2 S.h ρ w S'.h ρ' w'):=by
 unfold TZ at h;split at h
 ·rename_i t ho;split at h
  ·rename_i r hT;cases h;refine BG.value (s:=Instr.makeMap t none) (by unfold execOp;rw [ho];rfl) (v:=.map (some w.heap.size)) (w':=w.alloc (.map #[] 0)) (by simp [Instr.makeMap,newObj];rfl) ?_;have G:=U9 (ob:=.map #[] 0) (o:=.mo (.rows (fun _=>[]) none)) (d:=.mri S.h.length 0) (v:=.map (some w.heap.size)) (pl:=⟨w.heap.size,0,0,.tuple #[.map (some w.heap.size),undef],fun b=>b=w.heap.size⟩) R.hr rfl rfl (fun M ρ'=>⟨undef,#[],0,rfl,zGI w _,rfl,fun e he=>absurd he (by simp),fun _ _=>rfl,by simp,fun e he=>absurd he (by simp),fun e he=>absurd he (by simp),by simp,fun k L g e=>by cases e⟩) (fun M ρ' hp=>⟨_,_,hp,rfl,rfl⟩) true;exact NK R o.dst G fun _ _ h=>h
  ·cases h
 ·rename_i t m k ho;split at h
  ·rename_i r hT;obtain ⟨kt,et⟩:=r;obtain ⟨hu,hk,hz⟩:=kP hT;have rm:=BO R m;have rk:=BO R k;split at h
   ·rename_i j x hM hK;split at h
    ·rename_i f Bw hO;split at h
     ·rename_i hh;cases h;rw [hM] at rm;rw [hK] at rk;obtain ⟨p,u,es,AZ,hp,hA,C6⟩:=XP R hO rm;have em:a.eval m= .map (some p.blk):=by simpa using C6.symm
      have ek:a.eval k= .int .i64 x:=rk;obtain ⟨u',g1,g2⟩:=xG hA (fun k L e=>by subst e;simp at hh) hu hk (hz w) x;refine BG.value (s:=Instr.lookup t (a.eval m) (a.eval k) false) (by unfold execOp;rw [ho]) (by rw [em,ek];exact g1) ?_;exact kN (p':={ p with val:=.tuple #[Value.map (some p.blk),u'] }) R hO hp hA (AN.refl _ _) (fun b hb=>⟨.inl hb,(R.hr.cel j _ p b hO hp hb).2.2⟩) g2 rfl o.dst
     ·cases h
    ·cases h
   ·cases h
  ·cases h
 ·rename_i t m k y ho;split at h
  ·rename_i r hT;obtain ⟨kt,et⟩:=r;obtain ⟨hu,hk,hz⟩:=kP hT;have rm:=BO R m;have rk:=BO R k;have ry:=BO R y;split at h
   ·rename_i j x j' hM hK hY;split at h
    ·rename_i f x' L g hO;split at h
     ·rename_i hj;cases h;subst hj;have hx:x'=x:=hv.1;subst hx;rw [hM] at rm;rw [hK] at rk;rw [hY] at ry;obtain ⟨p,u,es,AZ,hp,hA,C6⟩:=XP R hO rm;obtain ⟨p2,u2,es2,clock2,PK,hA2,zv⟩:=XP R hO ry;have:p2=p:=zAV (PK.symm.trans hp);subst this;have eu:u2=u:=by have:=hA2.val.symm.trans hA.val;simp at this;exact this
      have em:a.eval m= .map (some p2.blk):=by simpa using C6.symm
      have ek:a.eval k= .int .i64 x':=rk;have ey:a.eval y=u:=by rw [←eu];simpa using zv.symm
      obtain ⟨w',ER,FC,g1,g2,g3⟩:=xF hA rfl hu hk;refine BG.skip (s:=Instr.mapUpdate t (a.eval m) (a.eval k) (a.eval y)) (by unfold execOp;rw [ho]) (w':=w') (by rw [em,ek,ey];exact g1) ?_;have Mw:AN p2.foot w w':=g2.mono fun b _ hb=>by rw [show b=p2.blk from hb];exact hA.own
      have hl: ∀ b,p2.foot b -> Ds w' b:=fun b hb=>by
       by_cases e:b=p2.blk
       ·rw [e];exact g3.lies
       ·obtain ⟨c,t1,t2,hc⟩:=(R.hr.cel _ _ p2 b hO hp hb).2.2;exact ⟨c,t1,t2,(g2.block b (zAL.1 hc).1 e).trans hc⟩
      have G:B1 P Γ N S.h ρ w false QQ (S.h.set j' (some (.mo (.rows (Hr f x' L) none)))) undef w':=⟨⟨ρ,R.hr.write hO hp Mw hl ⟨u,ER,FC,g3⟩,WJ,Ap.write hO hp Mw,fun _ _ h=>h⟩,fun h=>by cases h⟩;exact NK R o.dst G fun _ _ h=>h
     ·cases h
    ·cases h
   ·cases h
  ·cases h
 ·rename_i c ho;split at h
  ·rename_i hc;split at h
   ·rename_i x y ha;split at h
    ·rename_i t t' ht;split at h
     ·rename_i e;subst e;split at h
      ·rename_i e i z hk;obtain ⟨hu,hi,hz,h0,Cl,Ei,_⟩:=VS hk;have Cx:i.size=1:=Ei.symm;split at h
       ·cases h
       ·rename_i Dx;have rx:=BO R x;have ry:=BO R y;split at h
        ·rename_i j off n ys vy hX hY;split at h
         ·rename_i xs hO;cases h;obtain ⟨v1,v2,v3,v4,_⟩:=hv;rw [hX] at rx;obtain ⟨ad,w',p',Bz,e0,g1,g2,g3,g4,g5,_⟩:=yE (ty:=o.type) R hO rx v3 hu hi hz Cx Cl (by omega) (by rw [Cx];exact UV R hu ry hY v1) v2 v4;refine BG.value (NS ho hc ha ht) (by rw [e0];exact g1) ?_;obtain ⟨p,hp⟩:=g4;obtain ⟨q1,q2⟩:=R.hr.regrow (o':=.ints (xs.drop off++ys)) hO hp.1 hp.2.1 hp.2.2 g5
          have G:B1 P Γ N S.h ρ w false (.mse S.h.length 1 0 (n+ys.length)) (S.h.set j none++[some (.ints (xs.drop off++ys))]) (.slice (some ⟨p'.blk,p'.off,none⟩) (n+ys.length) Bz) w':=
           ⟨⟨ρ++[p'],q1,⟨p',_,Bz,by rw [←R.hr.len];simp,rfl,g2,by unfold LB;unfold A3 at v4;omega,fun _=>⟨by simp,by simpa using g3⟩⟩,q2,fun _ _ h=>EO h⟩,fun h=>by cases h⟩
          exact NK R o.dst G fun _ _ h=>h
         ·cases h
        ·rename_i j ys vy hX hY;split at h
         ·rename_i f x' L g hO;cases h;obtain ⟨v1,v2,v3,_⟩:=hv;rw [hX] at rx;obtain ⟨p,u,es,AZ,hp,hA,C6⟩:=XP R hO rx;have ex:a.eval x=u:=by simpa using C6.symm
          obtain ⟨w',u',p',g1,g2,g3,g4,g5⟩:=xH (ty:=o.type) hA rfl (fun b hb=>(R.hr.cel j _ p b hO hp hb).2.2) hu hi hz Cx Cl (by omega) (by rw [Cx];exact UV R hu ry hY v1) v2 v3;refine BG.value (NS ho hc ha ht) (by rw [ex];exact g1) ?_;exact kN R hO hp hA g2 g3 g4 g5 o.dst
         ·cases h
        ·cases h
      ·cases h
     ·cases h
    ·cases h
   ·cases h
  ·cases h
 ·cases h
def WV (P:Program)(S:St)(o:Oper):Option (St×List Prop):=match Z3 P S o with
 | some r=>some r
 | none=>TZ P S o
theorem jB (R:AP P Γ N S ρ a w){o:Oper}{S':St}{vs:List Prop}(h:WV P S o=some (S',vs))(hv:BY vs):
 BG P (execOp a.eval o) w (fun v w'=>(∃ ρ',AP P Γ N S' ρ' (a.put o.dst v) w'/\ C2 S.h ρ w S'.h ρ' w')/\ ((∀ t x y,o.op≠.store t x y)∨∃ k i p t x y,o.op= .store t x y/\ AT S.fr x= .mp k 1 i 0/\ ρ[k]? =some p/\ AN p.foot w w')):=by
 have wk: ∀ {G G':Value -> World -> Prop},(∀ v w',G v w' -> G' v w') -> BG P (execOp a.eval o) w G -> BG P (execOp a.eval o) w G':=fun hg D=>by
  rcases D with ⟨v,w',h1,h2⟩ | ⟨w',h1,h2⟩ | ⟨f,args,w',h1,h2⟩
  ·exact .inl ⟨v,w',h1,hg _ _ h2⟩
  ·exact .inr (.inl ⟨w',h1,hg _ _ h2⟩)
  ·exact .inr (.inr ⟨f,args,w',h1,h2.mono fun e Bu ⟨v,e1,e2⟩=>⟨v,e1,hg _ _ e2⟩⟩)
 unfold WV at h;split at h
 ·rename_i r hM;cases h;exact wk (fun v w' hx=>⟨hx.1,.inr hx.2⟩) (sk R hM hv)
 ·exact wk (fun v w' hx=>⟨hx,.inl fun t x y=>vb h⟩) (va R h hv)
end
abbrev zFU:=@List.getElem?_set_ne
abbrev zGS:=@Array.getElem?_setIfInBounds_ne
def aI (P:Program)(t:TypeId):Option (TypeId×TypeInfo):=match P.underlying t with
 | some (.slice e)=>match P.info? e with
  | some i=>match i.zero with
   | some (.slice none 0 0)=>if i.size=1/\ i.bytes<=128 then some (e,i) else none
   | _=>none
  | none=>none
 | _=>none
theorem u5 {P:Program}{t e:TypeId}{i:TypeInfo}(h:aI P t=some (e,i)):P.underlying t=some (.slice e)/\ P.info? e=some i/\ i.zero=some (.slice none 0 0)/\ i.size=1/\ i.bytes<=128:=by
 unfold aI at h;split at h
 ·rename_i e' hu;split at h
  ·rename_i i' hi;split at h
   ·rename_i hz;split at h
    ·rename_i hc;cases h;exact ⟨hu,hi,hz,hc.1,hc.2⟩
    ·cases h
   ·cases h
  ·cases h
 ·cases h
def Qs (j q:Nat):DV -> DV
 | .msl k m o n=>if k=j then .msl q m o n else .msl k m o n
 | .mp k m i c=>if k=j then .mp q m i c else .mp k m i c
 | .mri k i=>if k=j then .any else .mri k i
 | d=>d
def Wl (P:Program)(S:St)(fz:List (Nat×Fz))(o:Oper):Option (St×List Prop×List (Nat×Fz)):=match o.op with
 | .makeSlice t x y=>match fz with
  | (d,.rws)::rest=>if o.dst=some d then match aI P t with
   | some _=>match AT S.fr x,AT S.fr y with
    | .int _ m,.int _ m'=>some (⟨CV S.fr o.dst (.msl S.h.length 1 0 m.toNat),S.h++[some (.mo (.rws (List.replicate m.toNat []) none))]⟩,[m'=m/\ 0<=m/\ m<=1000000000000],rest)
    | _,_=>none
   | none=>none
   else none
  | _=>none
 | .call c=>match c.callee with
  | .builtin .append=>match c.args.toList with
   | [x,y]=>match c.argTypes.toList with
    | [t,t']=>if t=t' then match Kl P t with
     | some (.ints,_,i,_)=>if 128<i.bytes then none else match AT S.fr x,LS S (AT S.fr y) with
      | .mri j (r+1),some (ys,vy)=>match S.h[j]? with
       | some (some (.mo (.rws ls none)))=>some (⟨CV (S.fr.map (Qs j S.h.length)) o.dst (.mri S.h.length 0),S.h.set j none++[some (.mo (.rws ls (some (r,ls.getD r default++ys))))]⟩,[vy,0<ys.length,r<ls.length,(ls.getD r default).length+ys.length<=A3],fz)
       | _=>none
      | _,_=>none
     | _=>none
     else none
    | _=>none
   | _=>none
  | _=>none
 | .store t x y=>match o.dst with
  | none=>match AT S.fr x,AT S.fr y with
   | .mp j 1 r 0,.mri j' 0=>match S.h[j]? with
    | some (some (.mo (.rws ls (some (r',L)))))=>if j'=j/\ (P.info? t).any (fun i=>i.size==1)=true then some (⟨S.fr.map (Qs j S.h.length),S.h.set j none++[some (.mo (.rws (ls.set r L) none))]⟩,[r'=r,r<ls.length],fz) else none
    | _=>none
   | _,_=>none
  | some _=>none
 | _=>none
section
variable {P:Program} {Γ:Aj} {N:Nat -> Prop} {S:St} {ρ:List AE} {a:Act} {w w':World} {p p':AE} {ls UL:List (List Int)} {Bw Jg:Option (Nat×List Int)} {vs Bg:Array Value}
theorem j9 (R:AP P Γ N S ρ a w){j i:Nat}{v:Value}(hk:S.h[j]? =some (some (.mo (.rws ls Bw))))(hv:AI (MS N S.h ρ) w (.mri j i) ρ v): ∃ p vs,ρ[j]? =some p/\ Kp w p ls Bw vs/\ vs[i]? =some v:=by
 obtain ⟨p,vs,hp,GT,C6⟩:=hv;obtain ⟨p',A5,Bg,h1⟩:=R.hr.obj j _ hk;have:p'=p:=zAV (A5.symm.trans hp);subst this;have:Bg=vs:=by have:=h1.val.symm.trans GT;cases this;rfl
 subst this;exact ⟨p',Bg,hp,h1,C6⟩
theorem j8 (R:AP P Γ N S ρ a w){j:Nat}(hj:S.h[j]? =some (some (.mo (.rws ls Bw))))(hp:ρ[j]? =some p)(hu:AN p.foot w w')(hf: ∀ b,p'.foot b -> (p.foot b∨w.heap.size<=b)/\ Ds w' b)(Kg:Kp w' p' UL Jg Bg) 
 (e1:p'.blk=p.blk) (e2:p'.off=p.off) (e3:p'.room=p.room) (dst:Option Nat) {d:DV} {v:Value} (hd: ∀ M ρ',ρ'[S.h.length]? =some p' -> AI M w' d ρ' v):
 ∃ ρ',AP P Γ N ⟨CV (S.fr.map (Qs j S.h.length)) dst d,S.h.set j none++[some (.mo (.rws UL Jg))]⟩ ρ' (a.put dst v) w'/\ C2 S.h ρ w (S.h.set j none++[some (.mo (.rws UL Jg))]) ρ' w':=by
 obtain ⟨g1,g2⟩:=R.hr.regrow (o':=.mo (.rws UL Jg)) hj hp hu hf ⟨Bg,Kg⟩;have EM: ∀ (k:Nat) (q:AE),ρ[k]? =some q -> (ρ++[p'])[k]? =some q:=fun k q hk=>EO hk
 have O:BH (MS N S.h ρ) w ρ (MS N (S.h.set j none++[some (.mo (.rws UL Jg))]) (ρ++[p'])) w' (ρ++[p']):=
  ⟨fun b hb hm _=>hu.block b hb fun hx=>hm (.inr ⟨j,_,p,hj,hp,hx⟩),fun b hb=>hb.elim (fun h=>.inl (.inl h)) (fun h=>(g2.grow b h).imp .inr id),EM⟩
 have hq:(ρ++[p'])[S.h.length]? =some p':=by rw [←R.hr.len];simp
 have B3:=(R.fr.out O).map (g:=Qs j S.h.length) (fun d v hd=>by
  unfold Qs;split
  ·rename_i k m o n;split
   ·rename_i e;subst e;obtain ⟨q,cap,h1,h2,h3,h4,h5⟩:=hd;have:q=p:=zAV (h1.symm.trans (EM _ _ hp));subst this;exact ⟨p',cap,hq,by rw [e1,e2];exact h2,h3,h4,by rw [e2,e3];exact h5⟩
   ·exact hd
  ·rename_i k m i c;split
   ·rename_i e;subst e;obtain ⟨q,h1,h2⟩:=hd;have:q=p:=zAV (h1.symm.trans (EM _ _ hp));subst this;exact ⟨p',hq,by rw [e1,e2];exact h2⟩
   ·exact hd
  ·split
   ·trivial
   ·exact hd
  ·exact hd)
 exact ⟨ρ++[p'],Gl (S:=⟨S.fr.map (Qs j S.h.length),_⟩) ⟨g1,B3⟩ dst (hd _ _ hq),g2,EM⟩
theorem u4 (h:Kp w p ls none vs){r:Nat}(hr:r<ls.length)(hl: ∀ b,p.foot b -> Ds w b){t e ty:TypeId}{i:TypeInfo}{z:Value}(hu:P.underlying t=some (.slice e))(hi:P.info? e=some i)(hz:i.zero=some z)(Av:i.size=1)(Cl:z.cells.size=i.size)(Dx:i.bytes<=128) 
 {vy:Value} {ys:List Int} (hy:Src P i.size t vy ys.length (ys.map (Value.int .i64)) w) (hc:0<ys.length) (hb:(ls.getD r default).length+ys.length<=A3):
 ∃ w' u' p',(Builtin.append_ #[t,t] ty #[vs.getD (r+1) undef,vy]).run P w= .ok u' w'/\ AN p.foot w w'/\ (∀ b,p'.foot b -> (p.foot b∨w.heap.size<=b)/\ Ds w' b)/\ Kp w' p' ls (some (r,ls.getD r default++ys)) (vs.setIfInBounds 0 u')/\ p'.blk=p.blk/\ p'.off=p.off/\ p'.room=p.room:=by
 have hs:=h.has r hr fun L e=>by cases e
 obtain ⟨w',q,Bz,r1,r2,r3,r4,r5,r6⟩:=jT (ty:=ty) hs hu hi hz Av Cl Dx hy hc hb
 generalize hU:vs.getD (r+1) undef=u at*
 have Ns: ∀ b,DU u=some b -> (p.foot b/\ b≠p.blk)/\ b<w.heap.size:=fun b hb=>hs.blk hb
 have keep: ∀ b,b<w.heap.size -> DU u≠some b -> w'.heap[b]? =w.heap[b]? :=fun b hb hn=>r4.block b hb hn
 have PJ:DU u≠some p.blk:=fun e=>(Ns _ e).1.2 rfl
 obtain ⟨cs,tt,k1,k2,k3,k4⟩:=h.row;have cx:p.blk<w.heap.size:=(zAL.1 k1).1;have cv:q.blk≠p.blk:=fun e=>r5.elim (fun e'=>PJ (by rw [←e];exact e')) (fun e'=>by omega)
 have hv: ∀ j,(vs.setIfInBounds 0 (.slice (some ⟨q.blk,q.off,none⟩) (ls.getD r default++ys).length Bz)).getD (j+1) undef=vs.getD (j+1) undef:=fun j=>by
  simp [zBs,zCk]
 have Il:(vs.setIfInBounds 0 (.slice (some ⟨q.blk,q.off,none⟩) (ls.getD r default++ys).length Bz)).getD 0 undef= .slice (some ⟨q.blk,q.off,none⟩) (ls.getD r default++ys).length Bz:=by
  have:0<vs.size:=by rw [h.size];omega
  simp [zBs,zCk,this]
 have ne: ∀ j b,j<ls.length -> j≠r -> DU (vs.getD (j+1) undef)=some b -> DU u≠some b:=fun j b hj AR hb DQ=>AR (h.apart j r b hj hr (fun L e=>by cases e) (fun L e=>by cases e) hb (by rw [hU];exact DQ))
 refine ⟨w',_,⟨p.blk,p.off,p.room,.tuple (vs.setIfInBounds 0 (.slice (some ⟨q.blk,q.off,none⟩) (ls.getD r default++ys).length Bz)),fun b=>(p.foot b/\ DU u≠some b)∨b=q.blk⟩,r1,r4.mono fun b _ hb=>(Ns b hb).1.1,fun b hb=>?_,?_,rfl,rfl,rfl⟩
 ·rcases hb with ⟨g1,g2⟩ | g1
  ·obtain ⟨c,t1,t2,hc⟩:=hl b g1;exact ⟨.inl g1,c,t1,t2,(keep b (zAL.1 hc).1 g2).trans hc⟩
  ·obtain ⟨_,cs,tt,g,_⟩:=r6;subst g1;exact ⟨r5.imp (fun e=>(Ns _ e).1.1) id,.cells g⟩
 ·refine ⟨rfl,by simpa using h.size,⟨cs,tt,(keep _ cx PJ).trans k1,k2,k3,fun j hj=>?_⟩,.inl ⟨h.blk,PJ⟩,fun j hj hh=>?_,fun i j b hi hj _ _ h1 h2=>?_,fun k L e=>?_⟩
  ·rw [zGS (by omega)];exact k4 j hj
  ·have AR:j≠r:=fun e=>hh _ (by rw [e])
   rw [hv];exact (h.has j hj fun L e=>by cases e).out (fun b hf hb hl=>keep b hl (ne j b hj AR hb)) fun b hf hb=>⟨.inl ⟨hf.1,ne j b hj AR hb⟩,hf.2⟩
  ·rw [hv] at h1 h2;exact h.apart i j b hi hj (fun L e=>by cases e) (fun L e=>by cases e) h1 h2
  ·cases e;rw [Il];refine ⟨.inr ⟨q,Bz,rfl,r2,r3,by unfold LB;unfold A3 at hb;simp only [zBe];omega,⟨.inr rfl,cv⟩,r6⟩,fun j b hj hb DQ=>?_⟩;cases hb;rw [hv] at DQ;rcases r5 with r5 | r5
   ·exact h.apart j r q.blk hj hr (fun L e=>by cases e) (fun L e=>by cases e) DQ (by rw [hU];exact r5)
   ·exact absurd ((h.has j hj fun L e=>by cases e).blk DQ).2 (Nat.not_lt.2 r5)
theorem u0 (h:Kp w p ls Bw vs){r:Nat}{L:List Int}(Ke:Bw=some (r,L))(hr:r<ls.length){t:TypeId}{ti:TypeInfo}(LW:P.info? t=some ti)(Av:ti.size=1):
 ∃ w',(Instr.storeAt t (.pointer (some ⟨p.blk,p.off+r,none⟩)) (vs.getD 0 undef)).run P w= .ok () w'/\ AN (fun b=>b=p.blk) w w'/\ Kp w' { p with val:=.tuple (vs.setIfInBounds (r+1) (vs.getD 0 undef)) } (ls.set r L) none (vs.setIfInBounds (r+1) (vs.getD 0 undef))/\ Ds w' p.blk:=by
 obtain ⟨hs,hd⟩:=h.inHand r L Ke;obtain ⟨cs,tt,k1,k2,k3,k4⟩:=h.row
 generalize hU:vs.getD 0 undef=u at*
 have hc:u.cells= #[u]:=by rcases hs with ⟨_,rfl⟩ | ⟨q,cap,rfl,_⟩ <;> rfl
 have LX:r+1<vs.size:=by rw [h.size];omega
 have BF:w.cell? ⟨p.blk,p.off+r,none⟩=some vs[r+1]:=by
  have:=k4 r hr;rw [zCV LX] at this;unfold World.cell?;simp [k1,this]
 have HI: ∀ jj,w.frozen? ⟨p.blk,jj,none⟩=false:=fun jj=>by unfold World.frozen?;simp [k1]
 have hv: ∀ j,j≠r -> (vs.setIfInBounds (r+1) u).getD (j+1) undef=vs.getD (j+1) undef:=fun j hj=>by
  rw [zBs,zBs,zGS (by omega)]
 have G9:(vs.setIfInBounds (r+1) u).getD (r+1) undef=u:=by
  simp [zBs,zCk,LX]
 obtain ⟨El,e1,e2,e3⟩:=RP p.blk tt (0,0) [u] (p.off+r) w cs k1 (by simp;omega);have dz:AN (fun b=>b=p.blk) w (w.setCells p.blk (p.off+r) [u]):=QM _ _ _ _
 generalize hW:w.setCells p.blk (p.off+r) [u]=W at dz e1
 have stay: ∀ b,b≠p.blk -> b<w.heap.size -> W.heap[b]? =w.heap[b]? :=fun b hb hl=>dz.block b hl hb
 refine ⟨W,?_,dz,?_,.cells e1⟩
 ·rw [←hW]
  have:=aL (w:=w) (b:=p.blk) (o:=p.off+r) (v:=u) LW (by rw [hc,Av];rfl) (fun jj NB=>by
   have:jj=0:=by rw [hc] at NB;simpa using NB
   subst this;rw [zF6,BF];rfl) HI (fun x hx=>by
   have:x=u:=by rw [hc] at hx;simpa using hx
   subst this;rcases hs with ⟨_,rfl⟩ | ⟨q,cap,rfl,_⟩ <;> rfl)
  rw [hc] at this;exact this
 ·have lg: ∀ j,j≠r -> (ls.set r L).getD j default=ls.getD j default:=fun j hj=>by
   rw [u8,u8,zFU (by omega)]
  refine ⟨rfl,by simpa using h.size,⟨El,tt,e1,by simpa [e2] using k2,by rw [e2];exact k3,fun j hj=>?_⟩,h.blk,fun j hj _=>?_,fun i j b hi hj _ _ h1 h2=>?_,fun k L e=>by cases e⟩
  ·rw [zCG] at hj
   show El[p.off+j]? =_
   rw [e3]
   by_cases e:j=r
   ·subst e;rw [zAA (by simp),Array.getElem?_setIfInBounds_self_of_lt LX];simp
   ·rw [zAY (by simp;omega),zGS (by omega)];exact k4 j hj
  ·rw [zCG] at hj
   by_cases e:j=r
   ·subst e;rw [G9,show (ls.set j L).getD j default=L by simp [u8,hj]];exact hs.out (fun b hf _ hl=>stay b hf.2 hl) fun _ h _=>h
   ·rw [hv j e,lg j e];exact (h.has j hj fun L' e'=>by rw [Ke] at e';cases e';exact e rfl).out (fun b hf _ hl=>stay b hf.2 hl) fun _ h _=>h
  ·rw [zCG] at hi hj
   by_cases ei:i=r
   ·subst ei;rw [G9] at h1
    by_cases ej:j=i
    ·exact ej.symm
    ·rw [hv j ej] at h2;exact (hd j b hj h1 h2).symm
   ·rw [hv i ei] at h1
    by_cases ej:j=r
    ·subst ej;rw [G9] at h2;exact hd i b hi h2 h1
    ·rw [hv j ej] at h2;exact h.apart i j b hi hj (fun L' e'=>by rw [Ke] at e';cases e';exact ei rfl) (fun L' e'=>by rw [Ke] at e';cases e';exact ej rfl) h1 h2
theorem kA (R:AP P Γ N S ρ a w){o:Oper}{S':St}{fz Kj:List (Nat×Fz)}{vc:List Prop}(h:Wl P S fz o=some (S',vc,Kj))(hv:BY vc):
 BG P (execOp a.eval o) w (fun v w'=>(∃ ρ',AP P Γ N S' ρ' (a.put o.dst v) w'/\ C2 S.h ρ w S'.h ρ' w')/\ ((∀ t x y,o.op≠.store t x y)∨∃ k i p t x y,o.op= .store t x y/\ AT S.fr x= .mp k 1 i 0/\ ρ[k]? =some p/\ AN p.foot w w')):=by
 unfold Wl at h;split at h
 ·rename_i t x y ho;split at h
  case h_2=>cases h
  rename_i d rest;split at h
  case isFalse=>cases h
  split at h
  case h_2=>cases h
  rename_i r hT;obtain ⟨e,i⟩:=r;split at h
  case h_2=>cases h
  rename_i k1 m k2 m' hx hy;cases h;obtain ⟨⟨rfl,HD,HB⟩,_⟩:=hv;obtain ⟨hu,hi,hz,hs,Dx⟩:=u5 hT;have rx:=BO R x;have ry:=BO R y;rw [hx] at rx;rw [hy] at ry;have Do:(madeCells (Value.slice none 0 0).cells (m'.toNat*i.size)).size=m'.toNat:=by rw [size_madeCells,hs,zCm]
  have DP: ∀ j,j<m'.toNat -> (madeCells (Value.slice none 0 0).cells (m'.toNat*i.size))[j]? =some (Value.slice none 0 0):=fun j hj=>by
   simp [madeCells,hs,hj,Value.cells,Nat.mod_one]
  refine BG.value (s:=Instr.makeSlice t (a.eval x) (a.eval y)) (by unfold execOp;rw [ho]) (v:=.slice (some ⟨w.heap.size,0,none⟩) m'.toNat m'.toNat) (w':=w.alloc (.cells (madeCells (Value.slice none 0 0).cells (m'.toNat*i.size)) e)) ?_ ?_
  ·rw [show a.eval x=_ from rx,show a.eval y=_ from ry];refine run_make w t e i _ hu hi hz k1 k2 m' m' HD (zFZ _) ?_ (by omega);have:(i.bytes:Int)*m'<=128*1000000000000:=Int.mul_le_mul (by omega) HB HD (by omega);omega
  ·generalize hC:madeCells (Value.slice none 0 0).cells (m'.toNat*i.size)=cs at Do DP ⊢
   have hg: ∀ j,j<m'.toNat -> (#[undef]++Array.replicate m'.toNat (Value.slice none 0 0)).getD (j+1) undef= .slice none 0 0:=fun j hj=>by
    simp [zBs,Array.getElem?_append,hj]
   refine ⟨NK R o.dst (U9 (ob:=.cells cs e) (o:=.mo (.rws (List.replicate m'.toNat []) none)) (d:=.msl S.h.length 1 0 m'.toNat) (pl:=⟨w.heap.size,0,cs.size,.tuple (#[undef]++Array.replicate m'.toNat (Value.slice none 0 0)),fun b=>b=w.heap.size⟩) R.hr rfl rfl (fun M ρ'=>?_) (fun M ρ' hp=>⟨_,m'.toNat,hp,by simp,zBl _,by unfold LB;omega,by simp [Do]⟩) true) fun _ _ h=>h,.inl fun t x y e=>by rw [ho] at e;cases e⟩;refine ⟨#[undef]++Array.replicate m'.toNat (Value.slice none 0 0),rfl,by simp;omega,⟨cs,e,zGI w _,by simp [Do],zBl _,fun j hj=>?_⟩,rfl,fun j hj _=>.inl ⟨?_,?_⟩,fun i j b hi hj _ _ h1 h2=>?_,fun k L e=>by cases e⟩
   ·rw [zB1] at hj
    show cs[0+j]? =_
    rw [zBy,DP j hj];simp [Array.getElem?_append,hj]
   ·rw [zB1] at hj;simp [u8,hj]
   ·rw [zB1] at hj;exact hg j hj
   ·rw [zB1] at hi;rw [hg i hi] at h1;cases h1
 ·rename_i c ho;split at h
  case h_2=>cases h
  rename_i hc;split at h
  case h_2=>cases h
  rename_i x y ha;split at h
  case h_2=>cases h
  rename_i t t' ht;split at h
  case isFalse=>cases h
  rename_i e;subst e;split at h
  case h_2=>cases h
  rename_i e i z hk;obtain ⟨hu,hi,hz,h0,Cl,Ei,_⟩:=VS hk;have Cx:i.size=1:=Ei.symm;split at h
  case isTrue=>cases h
  rename_i Dx;have rx:=BO R x;have ry:=BO R y;split at h
  case h_2=>cases h
  rename_i j r ys vy hX hY;split at h
  case h_2=>cases h
  rename_i ls hO;cases h;obtain ⟨v1,v2,v3,v4,_⟩:=hv;rw [hX] at rx;obtain ⟨p,vs,hp,hA,C6⟩:=j9 R hO rx;have ex:a.eval x=vs.getD (r+1) undef:=by simp [zBs,C6]
  obtain ⟨w',u',p',g1,g2,g3,g4,g5,g6,g7⟩:=u4 (ty:=o.type) hA v3 (fun b hb=>(R.hr.cel j _ p b hO hp hb).2.2) hu hi hz Cx Cl (by omega) (by rw [Cx];exact UV R hu ry hY v1) v2 v4;refine BG.value (NS ho hc ha ht) (by rw [ex];exact g1) ?_
  exact ⟨j8 R hO hp g2 g3 g4 g5 g6 g7 o.dst fun M ρ' hq=>⟨p',_,hq,g4.val,by
   have:0<vs.size:=by rw [hA.size];omega
   simp [zCk,this]⟩,.inl fun t x y e=>by rw [ho] at e;cases e⟩
 ·rename_i t x y ho;split at h
  case h_2=>cases h
  rename_i de;split at h
  case h_2=>cases h
  rename_i j r j' hX hY;split at h
  case h_2=>cases h
  rename_i ls r' L hO;split at h
  case isFalse=>cases h
  rename_i hc;cases h;obtain ⟨rfl,Av⟩:=hc;obtain ⟨rfl,v2,_⟩:=hv;have rx:=BO R x;have ry:=BO R y;rw [hX] at rx;rw [hY] at ry;obtain ⟨p,vs,hp,hA,C6⟩:=j9 R hO ry;obtain ⟨p2,PK,ex⟩:=rx;have:p2=p:=zAV (PK.symm.trans hp);subst this;cases LW:P.info? t with
  | none=>rw [LW] at Av;cases Av
  | some ti=>
  rw [LW] at Av;have eY:a.eval x= .pointer (some ⟨p2.blk,p2.off+r',none⟩):=by rw [ex];simp
  have ey:a.eval y=vs.getD 0 undef:=by simp [zBs,C6]
  obtain ⟨W,g1,g2,g3,g4⟩:=u0 hA rfl v2 LW (by simpa using Av);refine BG.skip (s:=Instr.storeAt t (a.eval x) (a.eval y)) (by unfold execOp;rw [ho]) (w':=W) (by rw [eY,ey];exact g1) ?_
  have:=j8 (a:=a) (p':={ p2 with val:=.tuple (vs.setIfInBounds (r'+1) (vs.getD 0 undef)) }) R hO hp (g2.mono fun b _ hb=>by rw [show b=p2.blk from hb];exact hA.blk) (fun b hb=>⟨.inl hb,by
   by_cases e:b=p2.blk
   ·rw [e];exact g4
   ·obtain ⟨c,t1,t2,hc⟩:=(R.hr.cel _ _ p2 b hO hp hb).2.2;exact ⟨c,t1,t2,(g2.block b (zAL.1 hc).1 e).trans hc⟩⟩) g3 rfl rfl rfl none (d:=.any) (v:=undef) fun _ _ _=>trivial
  rw [de];exact ⟨this,.inr ⟨j',r',p2,t,x,y,ho,hX,hp,g2.mono fun b _ hb=>by rw [show b=p2.blk from hb];exact hA.blk⟩⟩
 ·cases h
end
abbrev zFq:=@Bool.false_or
abbrev zGJ:=@Bool.false_ne_true
def ES (P:Program)(Γ:Aj)(f:Nat)(ds:List DV)(h:DH)(d:DV)(h':DH)(ext:Bool):Prop:=
 (∃ fn,P.funcs[f]? =some fn/\ fn.name≠ "runtime.NumGoroutine" /\ fn.body.isSome=true)/\
 ∀ (N:Nat -> Prop) (ρ:List AE) (w:World) (args:Array Value),Ag P Γ N h ρ w -> A0 (MS N h ρ) w ρ ds args ->
  Calls P f args w fun e w'=>∃ v,e= .returned v/\ B1 P Γ N h ρ w ext d h' v w'
def Xv (h h':DH):Bool:=(List.range h.length).all fun k=>!(h.getD k none).isSome||(h'.getD k none).isSome
def ESu (P:Program)(Γ:Aj)(f:Nat)(ds:List DV)(h:DH)(d:DV)(h':DH)(k:Nat):Prop:=
 (∃ fn,P.funcs[f]? =some fn/\ fn.name≠ "runtime.NumGoroutine" /\ fn.body.isSome=true)/\
 ∀ (N:Nat -> Prop) (ρ:List AE) (w:World) (args:Array Value),Ag P Γ N h ρ w -> A0 (MS N h ρ) w ρ ds args ->
  Calls P f args w fun e w'=>∃ v,e= .returned v/\ B1 P Γ N h ρ w false d h' v w'/\ AN (fun b=>∃ i o p,k<=i/\ h[i]? =some (some o)/\ ρ[i]? =some p/\ p.foot b) w w'
structure BI where
 calls:List (DV×DH×Bool)
 co:List (Nat×DV)
 fz:List (Nat×Fz):=[]
 tg:List (List (Nat×Nat)×St):=[]
def J2 (ops:Array Oper)(S:St)(o:Oper):Option Bool:=match o.guard with
 | none=>some true
 | some (j,gj)=>match (ops[j]?).bind (·.dst) with
  | some t=>match S.fr.getD t .any with
   | .bool b=>some (b==gj)
   | .tup _ _=>some false
   | _=>none
  | none=>none
def Vk (co:List (Nat×DV))(dst:Option Nat)(d:DV):DV×List Prop×List (Nat×DV):=match co with
 | []=>(d,[],[])
 | (t,d')::rest=>match dst with
  | some t'=>if t'=t then (d',[AL d d'],rest) else (d,[],co)
  | none=>(d,[],co)
def MF (S:St):Op -> Bool
 | .move _=>true
 | .assign _=>true
 | .pick .. =>true
 | .binOp .shl .. =>false
 | .binOp .shr .. =>false
 | .binOp .quo .. =>false
 | .binOp .rem .. =>false
 | .binOp _ _ _ y _=>match AT S.fr y with
  | .nils=>false
  | _=>true
 | .unOp .. =>true
 | .convert .. =>true
 | .nilCheck _=>true
 | .fieldAddr .. =>true
 | .extract .. =>true
 | .makeFunc .. =>true
 | .build .. =>true
 | .field .. =>true
 | .call _=>true
 | .load _ x=>match AT S.fr x with
  | .mp .. =>false
  | _=>true
 | _=>false
def zM:Op -> Bool
 | .box .. =>true
 | .alloc _=>true
 | .buildSlice .. =>true
 | .makeSlice .. =>true
 | .store .. =>true
 | .makeMap .. =>true
 | .mapUpdate .. =>true
 | .insert .. =>true
 | .lookup .. =>true
 | .range .. =>true
 | .entry _=>true
 | .call c=>match c.callee with
  | .builtin .append=>true
  | .value _=>true
  | _=>false
 | _=>false
def Ti (P:Program)(ops:Array Oper)(S:St)(co:List (Nat×DV))(o:Oper):Option (St×List Prop×List (Nat×DV)):=match J2 ops S o with
 | none=>none
 | some false=>some (⟨CV S.fr o.dst QQ,S.h⟩,[],co)
 | some true=>match Tt P S o.op with
  | none=>none
  | some (d,vc)=>match Vk co o.dst d with
   | (d',vs,Dd)=>some (⟨CV S.fr o.dst d',S.h⟩,(if MF S o.op then vs else vc::vs),Dd)
def Tk (P:Program)(ops:Array Oper):List Oper -> St -> List (Nat×DV) -> Option (St×List Prop×List (Nat×DV))
 | [],S,co=>some (S,[],co)
 | o::rest,S,co=>match Ti P ops S co o with
  | none=>none
  | some (S',vs,Dd)=>match Tk P ops rest S' Dd with
   | none=>none
   | some (CJ,Bg,pj)=>some (CJ,vs++Bg,pj)
def Nf (P:Program)(Γ:Aj)(S:St)(calls:List (DV×DH×Bool)):Op -> Option (DV×DH×List Prop×Bool×List (DV×DH×Bool))
 | .box _ x=>match Ji (AT S.fr x) with
  | some l=>some (.ref S.h.length 0,S.h++[some (.cells l)],[],true,calls)
  | none=>none
 | .alloc t=>match P.info? t with
  | some i=>match i.zero with
   | some z=>if Za z then some (.mp S.h.length 1 0 0,S.h++[some (.bools (List.replicate z.cells.size false))],[],true,calls)
    else some (.ref S.h.length 0,S.h++[some (.cells (z.cells.toList.map Gz))],[],true,calls)
   | none=>none
  | none=>none
 | .buildSlice t len parts=>match Kl P t with
  | some (k,_,_,_)=>if Y4 parts.toList len&&decide (len<=65536/\ k.cells<=64) then match SC k (parts.toList.map fun x=>AT S.fr x.2) with
   | some ob=>some (.msl S.h.length k.cells 0 len,S.h++[some ob],[],true,calls)
   | none=>none
   else none
  | none=>none
 | .makeSlice t x y=>match Xf P t with
  | some (n,_,_)=>match AT S.fr x,AT S.fr y with
   | .int _ m,.int _ m'=>some (.msl S.h.length 1 0 m.toNat,S.h++[some (.mo (.sets n (List.replicate m.toNat none) none))],[m'=m/\ 0<=m/\ m<=1000000000000],true,calls)
   | _,_=>none
  | none=>match Kl P t with
   | some (k,_,i,z)=>if decide (i.bytes<=128) then match AT S.fr x,AT S.fr y with
    | .int _ n,.int _ n'=>some (.msl S.h.length k.cells 0 n.toNat,S.h++[some (mR k n.toNat z)],[n'=n/\ 0<=n/\ n<=1000000000000],true,calls)
    | _,_=>none
    else none
   | none=>none
 | .store t x y=>match Nx P S t (AT S.fr x) (AT S.fr y) with
  | some (h',vc)=>some (.any,h',[vc],false,calls)
  | none=>none
 | .call c=>match c.callee with
  | .builtin .append=>match c.args.toList with
   | [x,y]=>match c.argTypes.toList with
    | [t,t']=>if t=t' then match SH P S t (AT S.fr x) (AT S.fr y) with
     | some (d,h',vc)=>some (d,h',[vc],false,calls)
     | none=>none
     else none
    | _=>none
   | _=>none
  | .value f=>match AT S.fr f,calls with
   | .fn g m cap,(d,h',ext)::rest=>some (d,h',[ES P Γ g (c.args.toList.map (AT S.fr)++(List.range m).map cap) S.h d h' ext],ext,rest)
   | _,_=>none
  | _=>none
 | op=>match bV P S op with
  | some (d,h',vs,ext)=>some (d,h',vs,ext,calls)
  | none=>none
def Pu (P:Program)(Γ:Aj)(ops:Array Oper)(S:St)(Aa:BI)(o:Oper):Option (St×List Prop×Bool×BI):=match J2 ops S o with
 | none=>none
 | some false=>some (⟨CV S.fr o.dst QQ,S.h⟩,[],true,Aa)
 | some true=>match Wl P S Aa.fz o with
  | some (S',vs,Kj)=>some (S',vs,false,⟨Aa.calls,Aa.co,Kj,Aa.tg⟩)
  | none=>match WV P S o with
  | some (S',vs)=>some (S',vs,false,Aa)
  | none=>match Nf P Γ S Aa.calls o.op with
   | none=>none
   | some (d,h',vs,ext,calls)=>match Vk Aa.co o.dst d with
    | (d',Bg,Dd)=>match VD Aa.fz o.dst ⟨CV S.fr o.dst d',h'⟩ with
     | none=>none
     | some (S',QK,Kj)=>some (S',vs++(Bg++QK),ext,⟨calls,Dd,Kj,Aa.tg⟩)
def Dy (P:Program)(Γ:Aj)(ops:Array Oper):List Oper -> St -> BI -> Option (St×List Prop×BI)
 | [],S,Aa=>some (S,[],Aa)
 | o::rest,S,Aa=>match zM o.op with
  | true=>match Pu P Γ ops S Aa o with
   | none=>none
   | some (S',vs,_,B6)=>match Dy P Γ ops rest S' B6 with
    | none=>none
    | some (CJ,Bg,T7)=>some (CJ,vs++Bg,T7)
  | false=>match Ti P ops S Aa.co o with
   | none=>none
   | some (S',vs,Dd)=>match Dy P Γ ops rest S' ⟨Aa.calls,Dd,Aa.fz,Aa.tg⟩ with
    | none=>none
    | some (CJ,Bg,T7)=>some (CJ,vs++Bg,T7)
def fO (P:Program)(Γ:Aj)(hb:DH)(ops:Array Oper)(S:St)(Aa:BI)(o:Oper):Option (St×List Prop×BI):=match o.op with
 | .call c=>match c.callee with
  | .value f=>match AT S.fr f,Aa.calls with
   | .fn g m cap,(d,h',false)::rest=>match J2 ops S o,Xv hb S.h with
    | some true,true=>match Vk Aa.co o.dst d with
     | (d',Bg,Dd)=>match VD Aa.fz o.dst ⟨CV S.fr o.dst d',h'⟩ with
      | some (S',QK,Kj)=>some (S',ESu P Γ g (c.args.toList.map (AT S.fr)++(List.range m).map cap) S.h d h' hb.length::(Bg++QK),⟨rest,Dd,Kj,Aa.tg⟩)
      | none=>none
    | _,_=>none
   | _,_=>none
  | _=>none
 | _=>none
def bh (C3:List Nat)(hb h:DH):DH:=match C3 with
 | []=>hb
 | _=>h
def Q9 (P:Program)(Γ:Aj)(ops:Array Oper):DH -> List (List Nat×Nat) -> List Nat -> St -> BI -> Option (St×List Prop×BI)
 | _,[],BV,S,Aa=>match Tk P ops (CB ops BV) S Aa.co with
  | none=>none
  | some (S',vs,Dd)=>some (S',vs,⟨Aa.calls,Dd,Aa.fz,Aa.tg⟩)
 | hb,(C3,i)::Cv,BV,S,Aa=>match Tk P ops (CB ops C3) S Aa.co with
  | none=>none
  | some (S',vs,Dd)=>match ops[i]? with
   | none=>none
   | some o=>match fO P Γ (bh C3 hb S.h) ops S' ⟨Aa.calls,Dd,Aa.fz,Aa.tg⟩ o with
    | some (CJ,Bg,B6)=>match Q9 P Γ ops (bh C3 hb S.h) Cv BV CJ B6 with
     | none=>none
     | some (S3,Nr,LJ)=>some (S3,vs++(Bg++Nr),LJ)
    | none=>match Pu P Γ ops S' ⟨Aa.calls,Dd,Aa.fz,Aa.tg⟩ o with
     | none=>none
     | some (CJ,Bg,ext,B6)=>match ext with
      | false=>none
      | true=>match Q9 P Γ ops (bh C3 hb S.h) Cv BV CJ B6 with
       | none=>none
       | some (S3,Nr,LJ)=>some (S3,vs++(Bg++Nr),LJ)
def hseq (P:Program)(Γ:Aj)(ops:Array Oper)(hb:DH)(Dj:List (List Nat×Nat))(BV tail:List Nat)(S:St)(Aa:BI):Option (St×List Prop×BI):=match Q9 P Γ ops hb Dj BV S Aa with
 | none=>none
 | some (S',vs,B6)=>match Dy P Γ ops (CB ops tail) S' B6 with
  | none=>none
  | some (CJ,Bg,T7)=>some (CJ,vs++Bg,T7)
section
variable {P:Program} {Γ:Aj} {N:Nat -> Prop} {S:St} {ρ:List AE} {a:Act} {w:World} {F:Fence}
structure Dg (F:Fence)(P:Program):Prop where
 fn: ∀ f,F.fn f
 dep:F.depth=none
 calls: ∀ {f:FuncId} {args:Array Value} {w:World} {R:Ending -> World -> Prop},Calls P f args w R -> CallsIn F 0 P f args w R
theorem Dg.wide:Dg Fence.wide P:=⟨fun _=>trivial,rfl,fun h=>zGj.2 h⟩
theorem Dg.round (l:Nat):Dg (Fence.wide.inRound l) P:=⟨fun _=>trivial,rfl,fun h=>CallsIn.inRound _ (zGj.2 h)⟩
theorem IJ (R:AP P Γ N S ρ a w){ops:Array Oper}{o:Oper}{r:Bool}(h:J2 ops S o=some r):Region.wanted o (yielded ops a.tmps)=r:=by
 unfold J2 at h;unfold Region.wanted;split at h
 ·rename_i hg;rw [hg];cases h;rfl
 ·rename_i j gj hg;rw [hg];split at h
  ·rename_i t ht;split at h
   ·rename_i b hb;cases h;have hr:=R.fr.at t;rw [hb] at hr;have hv:a.tmps.getD t undef= .bool b:=hr
    have:a.tmps[t]? =some (.bool b):=by
     rw [zBs] at hv;cases hx:a.tmps[t]? with
     | none=>rw [hx] at hv;cases hv
     | some u=>rw [hx] at hv;exact congrArg some hv
    simp [yielded,ht,this]
   ·rename_i m f hb;cases h;have hr:=R.fr.at t;rw [hb] at hr;obtain ⟨cs,hv,_⟩:=hr
    have:yielded ops a.tmps j=none:=by
     unfold yielded;rw [ht]
     show (match a.tmps[t]? with | some (.bool b)=>some b | _=>none)=none
     rw [zBs] at hv;cases hx:a.tmps[t]? with
     | none=>rfl
     | some u=>rw [hx] at hv;have hv:u= .tuple cs:=hv;rw [hv]
    simp [this]
   ·cases h
  ·cases h
theorem Vj {co:List (Nat×DV)}{dst:Option Nat}{d d':DV}{vs:List Prop}{Dd:List (Nat×DV)}(h:Vk co dst d=(d',vs,Dd))(hv:BY vs){M:Nat -> Prop}{v:Value}(hr:AI M w d ρ v):AI M w d' ρ v:=by
 unfold Vk at h;split at h
 ·cases h;exact hr
 ·split at h
  ·split at h
   ·cases h;exact hv.1 M w ρ v hr
   ·cases h;exact hr
  ·cases h;exact hr
theorem lA {op:Op}{d:DV}{vc:Prop}(h:pop P S op=some (d,vc))(ht:MF S op=true):vc:=by
 unfold pop at h;split at h
 ·cases h;trivial
 ·cases h;trivial
 ·repeat' (split at h)
  all_goals first | (cases h;trivial) | (cases h;done)
 ·rename_i t x;simp only [MF] at ht;unfold Ot at h
  repeat' (split at h)
  all_goals first | (cases h;trivial) | (cases h;done) | (simp_all;done)
 ·rename_i op t x y t';unfold ZN at h;split at h
  ·split at h
   all_goals first | (cases h;trivial) | (cases h;done)
  ·split at h
   all_goals first | (cases h;trivial) | (cases h;done)
  ·rename_i e;simp [MF,e] at ht
  ·rename_i e;simp [MF,e] at ht
  ·rename_i e;simp [MF,e] at ht
  ·cases ht
  ·cases ht
  ·cases ht
  ·cases ht
  ·split at h
   ·unfold ZM at h;split at h
    all_goals first | (cases h;trivial) | (cases h;done)
   ·cases h
  ·cases h
 ·repeat' (split at h)
  all_goals first | (cases h;trivial) | (cases h;done)
 ·repeat' (split at h)
  all_goals first | (cases h;trivial) | (cases h;done)
 ·repeat' (split at h)
  all_goals first | (cases h;trivial) | (cases h;done)
 ·repeat' (split at h)
  all_goals first | (cases h;trivial) | (cases h;done)
 ·cases ht
 ·repeat' (split at h)
  all_goals first | (cases h;trivial) | (cases h;done)
 ·split at h
  ·cases h;trivial
  ·cases h
 ·split at h
  ·unfold ZJ at h;split at h
   ·split at h
    ·split at h
     ·unfold Xm at h;split at h
      all_goals first | (cases h;trivial) | (cases h;done)
     ·cases h
    ·cases h
   ·split at h
    ·unfold bS at h;split at h
     all_goals first | (cases h;trivial) | (cases h;done)
    ·cases h
   ·split at h
    ·unfold bR at h;split at h
     all_goals first | (cases h;trivial) | (cases h;done)
    ·cases h
   ·cases h
  ·cases h
 ·cases h
theorem zDb {op:BinOp}{t:TypeId}{x y d:DV}{vc:Prop}(h:VP P op t x y=some (d,vc)):vc:=by
 unfold VP at h;split at h
 ·split at h
  all_goals first | (cases h;trivial) | (cases h;done)
 ·split at h
  all_goals first | (cases h;trivial) | (cases h;done)
 ·cases h
theorem sK {op:Op}{d:DV}{vc:Prop}(h:Tt P S op=some (d,vc))(ht:MF S op=true):vc:=by
 unfold Tt at h;split at h
 ·split at h
  all_goals first | (cases h;trivial) | (cases h;done)
 ·unfold Xl at h
  repeat' (split at h)
  all_goals first | (cases h;trivial) | (cases h;done)
 ·cases ht
 ·unfold Yr at h
  repeat' (split at h)
  all_goals first | (cases h;trivial) | (cases h;done)
 ·cases ht
 ·split at h
  ·rename_i r hr;cases h;exact zDb hr
  ·exact lA h ht
 ·exact lA h ht
theorem XA (R:AP P Γ N S ρ a w){ops:Array Oper}{co:List (Nat×DV)}{o:Oper}{S':St}{vs:List Prop}{Dd:List (Nat×DV)}(h:Ti P ops S co o=some (S',vs,Dd))(hv:BY vs):
 S'.h=S.h/\ ((Region.wanted o (yielded ops a.tmps)=true/\ ∃ v,(∀ W,Keep N w W -> (execOp a.eval o).run P W= .ok (.value v) W)/\ AP P Γ N S' ρ (a.put o.dst v) w)∨(Region.wanted o (yielded ops a.tmps)=false/\ AP P Γ N S' ρ (a.put o.dst undef) w)):=by
 unfold Ti at h;split at h
 ·cases h
 ·rename_i hw;cases h;exact ⟨rfl,.inr ⟨IJ R hw,Gl R _ WJ⟩⟩
 ·rename_i hw;split at h
  ·cases h
  ·rename_i d vc hp;split at h;rename_i d' Bg pj ND;cases h
   have Q4:vc/\ BY Bg:=by
    by_cases ht:MF S o.op=true
    ·rw [zAA ht] at hv;exact ⟨sK hp ht,hv⟩
    ·rw [zAY ht] at hv;exact hv
   obtain ⟨v,g1,g2⟩:=wi R o hp Q4.1;exact ⟨rfl,.inl ⟨IJ R hw,v,g1,Gl R _ (Vj ND Q4.2 g2)⟩⟩
theorem Tj {ops:Array Oper}{Q:Act -> Prop}: ∀ (l:List Oper) {S:St} {a:Act} {co:List (Nat×DV)} {S':St} {vs:List Prop} {Dd:List (Nat×DV)},AP P Γ N S ρ a w -> Tk P ops l S co=some (S',vs,Dd) -> BY vs ->
 (∀ a',S'.h=S.h -> AP P Γ N S' ρ a' w -> a'.defers=a.defers -> Q a') -> wpQuiet P ops (fun w'=>∃ x:V7 w,w'=x.W) Q l a
 | [],S,a,co,S',vs,Dd,R,h,_,hQ=>by
  cases h;exact hQ a rfl R rfl
 | o::rest,S,a,co,S',vs,Dd,R,h,hv,hQ=>by
  simp only [Tk] at h;split at h
  ·cases h
  ·rename_i S1 C9 Vl h1;split at h
   ·cases h
   ·rename_i S2 E4 co2 h2;cases h;obtain ⟨Bb,CG⟩:=DE.1 hv;obtain ⟨e1,hs⟩:=XA R h1 Bb;unfold wpQuiet;have CX: ∀ v,(a.put o.dst v).defers=a.defers:=fun v=>by cases ho:o.dst <;> simp [Act.put]
    rcases hs with ⟨hw,v,g1,g2⟩ | ⟨hw,g2⟩
    ·rw [zAA hw];refine ⟨v,?_,Tj rest g2 h2 CG fun a' q1 q2 q3=>hQ a' (q1.trans e1) q2 (q3.trans (CX v))⟩;rintro W ⟨x,rfl⟩;unfold Oper.quietAt;rw [g1 x.W (Keep.ofExt x.le)];exact ⟨rfl,rfl⟩
    ·rw [zAY (by rw [hw];exact zGJ)];exact Tj rest g2 h2 CG fun a' q1 q2 q3=>hQ a' (q1.trans e1) q2 (q3.trans (CX undef))
theorem A0.append {M:Nat -> Prop}{l l':List DV}{t t':Array Value}(h:A0 M w ρ l t)(h':A0 M w ρ l' t'):A0 M w ρ (l++l') (t++t'):=by
 refine ⟨by simp [h.1,h'.1],fun i hi=>?_⟩;rcases zCb i l.length with hl | hl
 ·have:=h.2 i hl;have ht:i<t.size:=by rw [←h.1];exact hl
  simp only [u8,zBs] at this ⊢;rw [zBc hl,zFz ht];exact this
 ·have A8:i-l.length<l'.length:=by simp at hi;omega
  have:=h'.2 _ A8;have ht:t.size<=i:=by rw [←h.1];exact hl
  simp only [u8,zBs] at this ⊢;rw [zBg hl,Array.getElem?_append_right ht,←h.1];exact this
theorem vO {g:Nat}{args:Array Value}{fn:Func}(GV:P.funcs[g]? =some fn)(PP:fn.name≠ "runtime.NumGoroutine")(du:fn.body.isSome=true):(callFunc g args).run P w= .ok (.enter g args) w:=by
 have hnb:fn.body.isNone=false:=by cases hb:fn.body <;> simp [hb] at du ⊢
 have PM:(fn.name== "runtime.NumGoroutine")=false:=by simpa using PP
 unfold callFunc;rw [zBx,show Sem.run P program w= .ok P w from rfl];simp only [Result.andThen,GV,PM,hnb,zCZ,zF2];rfl
theorem fN (R:AP P Γ N S ρ a w){c:Call}{f:Operand}{g m:Nat}{cap:Nat -> DV}(o:Oper)(ho:o.op= .call c)(hc:c.callee= .value f)(hf:AT S.fr f= .fn g m cap) 
 (hen: ∀ args W,(callFunc g args).run P W= .ok (.enter g args) W): ∃ args,(execOp a.eval o).run P w= .ok (.enter g args) w/\ A0 (MS N S.h ρ) w ρ (c.args.toList.map (AT S.fr)++(List.range m).map cap) args:=by
 have hr:=BO R f;rw [hf] at hr;obtain ⟨lb,hv,hs,NE⟩:=hr;refine ⟨c.args.map a.eval++lb,?_,A0.append ⟨by simp,fun i hi=>?_⟩ ⟨by simp [hs],fun i hi=>?_⟩⟩
 ·unfold execOp;rw [ho]
  show ((resolve a.eval c o.type)>>=fun d=>invoke d.target d.args).run P w=_
  unfold resolve;rw [hc];simp only [Deferred.ofValue,hv];have he:((pure { target:=.fn (.func g) lb,args:=#[]++Array.map a.eval c.args }:Sem Deferred)>>=fun d=>invoke d.target d.args).run P w=(callFunc g (#[]++Array.map a.eval c.args++lb)).run P w:=rfl;rw [he,hen];simp
 ·have A8:i<c.args.size:=by simpa using hi
  have:=BO R c.args[i];simp [A8,this]
 ·have A8:i<m:=by simpa using hi
  obtain ⟨u,g1,g2⟩:=NE i A8;simp [A8,g1,g2]
theorem qD (R:AP P Γ N S ρ a w){c:Call}{f:Operand}{g m:Nat}{cap:Nat -> DV}{G:Value -> World -> Prop}(o:Oper)(ho:o.op= .call c)(hc:c.callee= .value f)(hf:AT S.fr f= .fn g m cap) 
 (GV: ∃ fn,P.funcs[g]? =some fn/\ fn.name≠ "runtime.NumGoroutine" /\ fn.body.isSome=true) (hE: ∀ args,A0 (MS N S.h ρ) w ρ (c.args.toList.map (AT S.fr)++(List.range m).map cap) args -> Calls P g args w fun e w'=>∃ v,e= .returned v/\ G v w'):BG P (execOp a.eval o) w G:=
 let ⟨_,h1,h2,h3⟩:=GV
 let ⟨args,h4,h5⟩:=fN R o ho hc hf fun _ _=>vO h1 h2 h3
 .inr (.inr ⟨g,args,w,h4,hE _ h5⟩)
theorem zEX (R:AP P Γ N S ρ a w){c:Call}{f:Operand}{g m:Nat}{cap:Nat -> DV}{d:DV}{h':DH}{ext:Bool}(o:Oper)(ho:o.op= .call c)(hc:c.callee= .value f)(hf:AT S.fr f= .fn g m cap) 
 (hE:ES P Γ g (c.args.toList.map (AT S.fr)++(List.range m).map cap) S.h d h' ext):BG P (execOp a.eval o) w (B1 P Γ N S.h ρ w ext d h'):=
 qD R o ho hc hf hE.1 fun args ha=>hE.2 N ρ w args R.hr ha
theorem f5 (R:AP P Γ N S ρ a w){calls:List (DV×DH×Bool)}{o:Oper}{d:DV}{h':DH}{vs:List Prop}{ext:Bool}{Pn:List (DV×DH×Bool)}(h:Nf P Γ S calls o.op=some (d,h',vs,ext,Pn))(hv:BY vs):
 BG P (execOp a.eval o) w (B1 P Γ N S.h ρ w ext d h'):=by
 unfold Nf at h;split at h
 ·rename_i t x ho;split at h
  ·rename_i l hl;cases h;exact zEc R hl o ho true
  ·cases h
 ·rename_i t ho;split at h
  ·rename_i i hi;split at h
   ·rename_i z hz;split at h
    ·rename_i cJ;cases h;exact zE9 R hi hz cJ o ho true
    ·cases h;exact zE8 R hi hz o ho true
   ·cases h
  ·cases h
 ·rename_i t len parts ho;split at h
  ·rename_i k e i z hk;split at h
   ·rename_i hc;simp only [zAO,zCJ] at hc;split at h
    ·rename_i ob hb;cases h;exact zEa R hk hc.1 hc.2 hb o ho true
    ·cases h
   ·cases h
  ·cases h
 ·rename_i t x y ho;split at h
  ·rename_i n e i hT;split at h
   ·rename_i k1 m k2 m' hx hy;cases h;obtain ⟨⟨rfl,v1,v2⟩,_⟩:=hv;exact yL R hT hx hy ⟨v1,v2⟩ o ho true
   ·cases h
  split at h
  ·rename_i k e i z hk;split at h
   ·rename_i Dx;split at h
    ·rename_i k1 n k2 n' hx hy;cases h;obtain ⟨⟨rfl,v1,v2⟩,_⟩:=hv;exact yK R hk hx hy ⟨v1,v2⟩ (by simpa using Dx) o ho true
    ·cases h
   ·cases h
  ·cases h
 ·rename_i t x y ho;split at h
  ·rename_i h1 vc hs;cases h;exact jC R hs hv.1 o ho
  ·cases h
 ·rename_i c ho;split at h
  ·rename_i hc;split at h
   ·rename_i x y ha;split at h
    ·rename_i t t' ht;split at h
     ·rename_i e;subst e;split at h
      ·rename_i d1 h1 vc Lk;cases h;exact qg R Lk hv.1 o ho hc ha ht
      ·cases h
     ·cases h
    ·cases h
   ·cases h
  ·rename_i f hc;split at h
   ·rename_i g m cap d1 h1 ext1 rest hf;cases h;exact zEX R o ho hc hf hv.1
   ·cases h
  ·cases h
 ·split at h
  ·rename_i hm;cases h;exact yG R o hm hv
  ·cases h
theorem Km (hF:Dg F P){o:Oper}(hd: ∀ c,o.op≠.defer c){G:Value -> World -> Prop}(h:BG P (execOp a.eval o) w G){K:Act -> World -> Prop}{Q:Exit -> Act -> World -> Prop}(hK: ∀ v w',G v w' -> K (a.put o.dst v) w'):o.wpIn F 0 P a w K Q:=by
 refine ⟨fun f _=>hF.fn f,?_⟩;rw [zFp _ _ _ hd];rcases h with ⟨v,w',h1,h2⟩ | ⟨w',h1,h2⟩ | ⟨f,args,w',h1,h2⟩
 ·rw [h1];exact hK v w' h2
 ·rw [h1];exact hK undef w' h2
 ·rw [h1];refine ⟨fun hx=>(by rw [hF.dep] at hx;cases hx),(hF.calls h2).mono ?_⟩;rintro e Bu ⟨v,rfl,hG⟩;exact hK v Bu hG
theorem fV (hF:Dg F P)(R:AP P Γ N S ρ a w){ops:Array Oper}{Aa:BI}{o:Oper}(hd: ∀ c,o.op≠.defer c){S':St}{vs:List Prop}{ext:Bool}{B6:BI}(h:Pu P Γ ops S Aa o=some (S',vs,ext,B6))(hv:BY vs) 
 {K:Act -> World -> Prop} {Q:Exit -> Act -> World -> Prop} (hK: ∀ ρ' a' w',AP P Γ N S' ρ' a' w' -> C2 S.h ρ w S'.h ρ' w' -> a'.defers=a.defers -> (ext=true -> Am w w') -> K a' w'):
 if Region.wanted o (yielded ops a.tmps) then o.wpIn F 0 P a w K Q else (∀ f,o.about P w a.eval=some f -> F.fn f)/\ K (a.put o.dst undef) w:=by
 have CX: ∀ v,(a.put o.dst v).defers=a.defers:=fun v=>by cases ho:o.dst <;> simp [Act.put]
 unfold Pu at h;split at h
 ·cases h
 ·rename_i hw;cases h;rw [zAY (by rw [IJ R hw];exact zGJ)];exact ⟨fun f _=>hF.fn f,hK ρ _ _ (Gl R _ WJ) (C2.refl _ _ _) (CX _) fun _=>Am.refl w⟩
 ·rename_i hw;rw [zAA (IJ R hw)];split at h
  ·rename_i S1 C9 fz1 hM;cases h;exact Km hF hd (kA R hM hv) fun v w' ⟨⟨ρ',g1,g2⟩,_⟩=>hK ρ' _ _ g1 g2 (CX v) fun e=>by cases e
  split at h
  ·rename_i S1 C9 hM;cases h;exact Km hF hd (jB R hM hv) fun v w' ⟨⟨ρ',g1,g2⟩,_⟩=>hK ρ' _ _ g1 g2 (CX v) fun e=>by cases e
  split at h
  ·cases h
  ·rename_i d h1 C9 ext1 calls YY;split at h;rename_i d' Bg Dd ND;split at h
   ·cases h
   ·rename_i S2 QK Kj HI;cases h;obtain ⟨Bb,Ud⟩:=DE.1 hv;obtain ⟨CG,Ik⟩:=DE.1 Ud;refine Km hF hd (f5 R YY Bb) fun v w' G=>?_
    obtain ⟨ρ',g1,g2⟩:=NK R o.dst G (d':=d') fun M ρ' hr=>Vj ND CG hr
    obtain ⟨g3,g4⟩:=VC _ HI Ik P Γ N ρ' _ _ g1;exact hK ρ' _ _ g3 (g2.trans ⟨g4,fun _ _ h=>h⟩) (CX v) G.ext
theorem Ki (hF:Dg F P){ops:Array Oper}(As:Cu ops=true){Q:Exit -> Act -> World -> Prop}: ∀ (l:List Oper) (_: ∀ o∈l,o∈ops) {S:St} {ρ:List AE} {a:Act} {w:World} {Aa:BI} {S':St} {vs:List Prop} {B6:BI},
 AP P Γ N S ρ a w -> Dy P Γ ops l S Aa=some (S',vs,B6) -> BY vs ->
 (∀ ρ' a' w',AP P Γ N S' ρ' a' w' -> C2 S.h ρ w S'.h ρ' w' -> a'.defers=a.defers -> Q .normal a' w') -> wpListIn F 0 P ops Q l a w
 | [],_,S,ρ,a,w,Aa,S',vs,B6,R,h,_,hQ=>by
  cases h;exact hQ ρ a w R (C2.refl _ _ _) rfl
 | o::rest,hl,S,ρ,a,w,Aa,S',vs,B6,R,h,hv,hQ=>by
  have hd: ∀ c,o.op≠.defer c:=by
   obtain ⟨j,hj,e⟩:=Array.getElem_of_mem (hl o (by simp));exact Hc As (j:=j) (by rw [zCV hj,e])
  have Eh: ∀ o∈rest,o∈ops:=fun o ho=>hl o (by simp [ho])
  have CX: ∀ v,(a.put o.dst v).defers=a.defers:=fun v=>by cases ho:o.dst <;> simp [Act.put]
  simp only [Dy] at h;unfold wpListIn;split at h
  ·split at h
   ·cases h
   ·rename_i S1 C9 ext1 GM h1;split at h
    ·cases h
    ·rename_i S2 E4 GL h2;cases h;obtain ⟨Bb,CG⟩:=DE.1 hv;exact fV hF R hd h1 Bb fun ρ' a' w' R' st Db _=>Ki hF As rest Eh R' h2 CG fun ρ'' GB Bu E1 Eb JY=>hQ ρ'' GB Bu E1 (st.trans Eb) (JY.trans Db)
  ·split at h
   ·cases h
   ·rename_i S1 C9 Vl h1;split at h
    ·cases h
    ·rename_i S2 E4 GL h2;cases h;obtain ⟨Bb,CG⟩:=DE.1 hv;obtain ⟨e1,hs⟩:=XA R h1 Bb
     have go: ∀ v,AP P Γ N S1 ρ (a.put o.dst v) w -> wpListIn F 0 P ops Q rest (a.put o.dst v) w:=fun v R'=>
      Ki hF As rest Eh R' h2 CG fun ρ'' GB Bu E1 Eb JY=>hQ ρ'' GB Bu E1 (by rw [←e1];exact Eb) (JY.trans (CX v))
     rcases hs with ⟨hw,v,g1,g2⟩ | ⟨hw,g2⟩
     ·rw [zAA hw];refine ⟨fun f _=>hF.fn f,?_⟩;rw [zFp _ _ _ hd,g1 w (Keep.ofExt (Am.refl w))];exact go v g2
     ·rw [zAY (by rw [hw];exact zGJ)];exact ⟨fun f _=>hF.fn f,go undef g2⟩
theorem OT {ops:Array Oper}: ∀ (l:List Nat),∀ o∈CB ops l,o∈ops
 | [],o,h=>by simp [CB] at h
 | i::l,o,h=>by
  simp only [CB] at h;split at h
  ·rename_i o' ho;rcases zCC.1 h with rfl | h
   ·exact zGL ho
   ·exact OT l o h
  ·exact OT l o h
theorem qE (hF:Dg F P)(R:AP P Γ N S ρ a w){hb:DH}{ops:Array Oper}{Aa:BI}{o:Oper}{S':St}{vs:List Prop}{B6:BI}(h:fO P Γ hb ops S Aa o=some (S',vs,B6))(hv:BY vs) 
 {K:Act -> World -> Prop} {Q:Exit -> Act -> World -> Prop} (hK: ∀ ρ' a' w',AP P Γ N S' ρ' a' w' -> C2 S.h ρ w S'.h ρ' w' -> a'.defers=a.defers -> AN (fun b=>∃ i o p,hb.length<=i/\ S.h[i]? =some (some o)/\ ρ[i]? =some p/\ p.foot b) w w' -> K a' w'):
 Xv hb S.h=true/\ if Region.wanted o (yielded ops a.tmps) then o.wpIn F 0 P a w K Q else (∀ f,o.about P w a.eval=some f -> F.fn f)/\ K (a.put o.dst undef) w:=by
 have CX: ∀ v,(a.put o.dst v).defers=a.defers:=fun v=>by cases ho:o.dst <;> simp [Act.put]
 unfold fO at h;split at h
 case h_2=>cases h
 rename_i c ho;split at h
 case h_2=>cases h
 rename_i f hc;split at h
 case h_2=>cases h
 rename_i g m cap d h' rest hf hcalls;split at h
 case h_2=>cases h
 rename_i hw hk;split at h;rename_i d' Bg Dd ND;split at h
 case h_2=>cases h
 rename_i S1 QK Kj HI;cases h;obtain ⟨Bb,Ud⟩:=hv;obtain ⟨CG,Ik⟩:=DE.1 Ud;refine ⟨hk,?_⟩;rw [zAA (IJ R hw)];refine Km hF (fun c e=>by rw [ho] at e;cases e) (qD R o ho hc hf Bb.1 fun args ha=>Bb.2 N ρ w args R.hr ha) fun v w' G=>?_
 obtain ⟨ρ',g1,g2⟩:=NK R o.dst G.1 (d':=d') fun M ρ' hr=>Vj ND CG hr
 obtain ⟨g3,g4⟩:=VC _ HI Ik P Γ N ρ' _ _ g1;exact hK ρ' _ _ g3 (g2.trans ⟨g4,fun _ _ h=>h⟩) (CX v) G.2
theorem xz {hb h:DH}{ρb ρ:List AE}{b w w':World}(HR:Ag P Γ N h ρ w)(hS:C2 hb ρb b h ρ w)(hE:Am b w)(hk:Xv hb h=true)(hu:AN (fun x=>∃ i o p,hb.length<=i/\ h[i]? =some (some o)/\ ρ[i]? =some p/\ p.foot x) w w'):Am b w':=by
 refine ((AN.ofExt (S:=fun x=>∃ i o p,hb.length<=i/\ h[i]? =some (some o)/\ ρ[i]? =some p/\ p.foot x) hE).comp hu fun _ _ h=>h).toExt ?_;rintro x hx ⟨i,o,p,h1,h2,h3,h4⟩;rcases hS.st.grow x ⟨i,o,p,h2,h3,h4⟩ with ⟨k,o',q,g1,g2,g3⟩ | Mv
 ·have Bn:=(zAW.1 g1).1;have:=zAX.1 hk k (zBf.2 Bn);rw [show (hb.getD k none).isSome=true by rw [u8,g1];rfl,zCX,zFq] at this;obtain ⟨o2,RH⟩:=zGt.1 this;have RH:h[k]? =some (some o2):=getD_some RH;exact HR.dis i k o o2 p q x (by omega) h2 RH h3 (hS.pl k q g2) h4 g3
 ·omega
theorem cm (hF:Dg F P){ops:Array Oper}(As:Cu ops=true){Q:Exit -> Act -> World -> Prop}: ∀ (Dj:List (List Nat×Nat)) (BV tail:List Nat) {S:St} {ρ:List AE} {a:Act} {w:World} {Aa:BI} {S':St} {vs:List Prop} {B6:BI} {hb:DH} {ρb:List AE} {b:World},
 (tail.all fun t=>decide (t<ops.size))=true -> AP P Γ N S ρ a w -> C2 hb ρb b S.h ρ w -> Am b w -> Q9 P Γ ops hb Dj BV S Aa=some (S',vs,B6) -> BY vs ->
 (∀ ρ' a' w',AP P Γ N S' ρ' a' w' -> C2 S.h ρ w S'.h ρ' w' -> a'.defers=a.defers -> wpListIn F 0 P ops Q (CB ops tail) a' w') -> PV F 0 P ops Q b Dj BV tail a w
 | [],BV,tail,S,ρ,a,w,Aa,S',vs,B6,hb,ρb,b,ht,R,_,_,h,hv,hQ=>by
  simp only [Q9] at h;split at h
  ·cases h
  ·rename_i S1 C9 Vl h1;cases h;exact zCB ht (Tj _ R h1 hv fun a' e1 R' Db=>hQ ρ a' w R' (by rw [←e1];exact C2.refl _ _ _) Db)
 | (C3,i)::Cv,BV,tail,S,ρ,a,w,Aa,S',vs,B6,hb,ρb,b,ht,R,hS,hE,h,hv,hQ=>by
  have Dp: ∃ ρb',C2 (bh C3 hb S.h) ρb' (bw C3 b w) S.h ρ w/\ Am (bw C3 b w) w:=by
   cases C3 with
   | nil=>exact ⟨ρb,hS,hE⟩
   | cons s0 ss=>exact ⟨ρ,C2.refl _ _ _,Am.refl w⟩
  obtain ⟨ρb',NG,oQ⟩:=Dp;simp only [Q9] at h;split at h
  ·cases h
  ·rename_i S1 C9 Vl h1;split at h
   ·cases h
   ·rename_i o ho;split at h
    ·rename_i S2 E4 GL h2;split at h
     ·cases h
     ·rename_i S3 Nr LJ h3;cases h;obtain ⟨Bb,Dv⟩:=DE.1 hv;obtain ⟨CG,Ik⟩:=DE.1 Dv
      show wpQuiet _ _ _ _ _ _
      refine Tj _ R h1 Bb fun a' e1 R' Db=>?_
      unfold wpOpIn;simp only [ho];have hk:Xv (bh C3 hb S.h) S1.h=true:=(qE (K:=fun _ _=>True) (Q:=fun _ _ _=>True) hF R' h2 CG fun _ _ _ _ _ _ _=>trivial).1;refine (qE hF R' h2 CG fun ρ'' GB Bu E1 Eb JY hu=>?_).2;rw [e1] at Eb hk;have hx:Am (bw C3 b w) Bu:=xz R.hr NG oQ hk (by rw [e1] at hu;exact hu);exact ⟨hx,cm hF As Cv BV tail ht E1 (NG.trans Eb) hx h3 Ik fun ρ3 a3 w3 R3 En dg=>hQ ρ3 a3 w3 R3 (Eb.trans En) (dg.trans (JY.trans Db))⟩
    ·split at h
     ·cases h
     ·rename_i S2 E4 ext GL h2;split at h
      ·cases h
      ·split at h
       ·cases h
       ·rename_i S3 Nr LJ h3;cases h;obtain ⟨Bb,Dv⟩:=DE.1 hv;obtain ⟨CG,Ik⟩:=DE.1 Dv
        show wpQuiet _ _ _ _ _ _
        refine Tj _ R h1 Bb fun a' e1 R' Db=>?_
        unfold wpOpIn;simp only [ho];refine fV hF R' (Hc As ho) h2 CG fun ρ'' GB Bu E1 Eb JY Kf=>?_
        rw [e1] at Eb;have hx:Am (bw C3 b w) Bu:=oQ.trans (Kf rfl);exact ⟨hx,cm hF As Cv BV tail ht E1 (NG.trans Eb) hx h3 Ik fun ρ3 a3 w3 R3 En dg=>hQ ρ3 a3 w3 R3 (Eb.trans En) (dg.trans (JY.trans Db))⟩
theorem zAN (hF:Dg F P){ops:Array Oper}(As:Cu ops=true){Q:Exit -> Act -> World -> Prop}(Dj:List (List Nat×Nat))(BV tail:List Nat){S:St}{ρ:List AE}{a:Act}{w:World}{Aa:BI}{S':St}{vs:List Prop}{B6:BI}{hb:DH}{ρb:List AE}{b:World} 
 (ht:(tail.all fun t=>decide (t<ops.size))=true) (R:AP P Γ N S ρ a w) (h1:C2 hb ρb b S.h ρ w) (h2:Am b w) (h:hseq P Γ ops hb Dj BV tail S Aa=some (S',vs,B6)) (hv:BY vs)
 (hQ: ∀ ρ' a' w',AP P Γ N S' ρ' a' w' -> C2 S.h ρ w S'.h ρ' w' -> a'.defers=a.defers -> Q .normal a' w'):PV F 0 P ops Q b Dj BV tail a w:=by
 unfold hseq at h;split at h
 ·cases h
 rename_i S1 C9 GM g1;split at h
 ·cases h
 rename_i S2 E4 GL g2;cases h;obtain ⟨Bb,CG⟩:=DE.1 hv;exact cm hF As Dj BV tail ht R h1 h2 g1 Bb fun ρ1 a1 w1 R1 Br FL=>Ki hF As _ (OT tail) R1 g2 CG fun ρ2 a2 w2 R2 Ea Ir=>hQ ρ2 a2 w2 R2 (Br.trans Ea) (Ir.trans FL)
end
abbrev zFl:=@Go.wpIn_seq
abbrev zFo:=@Nat.zero_le
abbrev zG4:=@Go.wpIn_skip
abbrev zHA:=@Go.wpIn_ret
def B0 (L:Nat)(ρ ρ':List AE):Prop:=∀ (k:Nat) (p:AE),k<L -> ρ[k]? =some p -> ρ'[k]? =some p
theorem B0.refl (L:Nat)(ρ:List AE):B0 L ρ ρ:=fun _ _ _ h=>h
theorem B0.trans {L:Nat}{a b c:List AE}(h:B0 L a b)(k:B0 L b c):B0 L a c:=fun i p hi hp=>k i p hi (h i p hi hp)
structure Bd (F:Fence)(B:Option Nat)(w:World):Prop where
 le: ∀ b,B=some b -> b<=w.heap.size
 rd: ∀ l,F.round=some l -> ∃ r,w.heap[l]? =some (.loop r)
theorem Bd.step {P:Program}{Γ:Aj}{N:Nat -> Prop}{h h':DH}{ρ ρ':List AE}{F:Fence}{B:Option Nat}{w w':World}(b:Bd F B w)(H:Ag P Γ N h ρ w)(st:Ap h ρ w h' ρ' w'):Bd F B w':=
 ⟨fun x e=>zAa (b.le x e) st.upd.size,fun l hl=>by
  obtain ⟨r,hr⟩:=b.rd l hl;refine ⟨r,(st.upd.block l (zAL.1 hr).1 ?_).trans hr⟩;rintro ⟨k,o,p,h1,h2,h3⟩;obtain ⟨_,_,c,t,z,h4⟩:=H.cel k o p l h1 h2 h3;rw [hr] at h4;cases h4;cases t⟩
theorem Bd.wide {B:Nat}{w:World}(h:B<=w.heap.size):Bd Fence.wide (some B) w:=⟨fun b e=>by cases e;exact h,fun l hl=>by cases hl⟩
theorem Bd.none {w:World}:Bd Fence.wide none w:=⟨fun b e=>(by cases e),fun l hl=>by cases hl⟩
def L4:Option Nat -> List Deferred -> World -> Prop
 | none,ds,_=>ds= []
 | some B,ds,w=>EA B ds w
structure BB (P:Program)(Γ:Aj)(L:Nat) where
 I:(Nat -> Prop) -> DH -> List AE -> World -> Prop
 st: ∀ {N:Nat -> Prop} {h:DH} {ρ:List AE} {w:World} {h':DH} {ρ':List AE} {w':World},I N h ρ w -> Ag P Γ N h ρ w -> Ag P Γ N h' ρ' w' -> Ap h ρ w h' ρ' w' -> B0 L ρ ρ' -> I N h' ρ' w'
def QW (P:Program)(Γ:Aj)(L:Nat)(N0:Nat -> Prop)(h0:DH)(ρ0:List AE)(w0:World):BB P Γ L where
 I:=fun N h ρ w=>N=N0/\ Ap h0 ρ0 w0 h ρ w/\ B0 L ρ0 ρ
 st:=fun ⟨e,s,k⟩ _ _ st k'=>⟨e,s.trans st,k.trans k'⟩
abbrev QY (P:Program)(Γ:Aj)(L:Nat):=Exit -> St -> BB P Γ L -> Prop
def QE {P:Program}{Γ:Aj}{L:Nat}(Q:QY P Γ L):Exit -> St -> BB P Γ L -> Prop
 | .outgrown,_,_=>False
 | e,S,Y=>Q e S Y
def Tr (P:Program)(Γ:Aj)(F:Fence)(B:Option Nat)(L:Nat)(Y:BB P Γ L)(c:Code)(S:St)(Q:QY P Γ L):Prop:= ∀ N ρ a w,AP P Γ N S ρ a w -> Y.I N S.h ρ w -> L4 B a.defers w -> Bd F B w -> c.wpIn F 0 P (fun e a' w'=>∃ S' ρ' N' Y',QE Q e S' Y'/\ AP P Γ N' S' ρ' a' w'/\ Y'.I N' S'.h ρ' w'/\ L4 B a'.defers w'/\ Bd F B w') a w
def At (L:Nat)(S S':St):Prop:=∀ P Γ N ρ a w,AP P Γ N S ρ a w -> ∃ ρ',AP P Γ N S' ρ' a w/\ Ap S.h ρ w S'.h ρ' w/\ B0 L ρ ρ'
theorem At.refl (L:Nat)(S:St):At L S S:=fun _ _ _ ρ _ _ R=>⟨ρ,R,Ap.refl _ _ _,B0.refl _ _⟩
theorem At.trans {L:Nat}{A B C:St}(h:At L A B)(k:At L B C):At L A C:=fun P Γ N ρ a w R=>by
 obtain ⟨ρ1,R1,s1,k1⟩:=h P Γ N ρ a w R;obtain ⟨ρ2,R2,s2,k2⟩:=k P Γ N ρ1 a w R1;exact ⟨ρ2,R2,s1.trans s2,k1.trans k2⟩
section
variable {P:Program} {Γ:Aj} {N:Nat -> Prop} {S:St} {F:Fence} {B:Option Nat} {L:Nat} {Y:BB P Γ L} {Q Q':QY P Γ L}
theorem QE.mono (h: ∀ e S Y,Q e S Y -> Q' e S Y){e:Exit}{S:St}(hq:QE Q e S Y):QE Q' e S Y:=by
 cases e <;> first | exact hq | exact h _ _ _ hq
theorem Tr.mono {c:Code}(h:Tr P Γ F B L Y c S Q)(hq: ∀ e S Y,Q e S Y -> Q' e S Y):Tr P Γ F B L Y c S Q':=fun N ρ a w R y m b=>
 zGE (h N ρ a w R y m b) fun _ _ _ ⟨S',ρ',N',Y',h1,h2⟩=>⟨S',ρ',N',Y',h1.mono hq,h2⟩
theorem Tr.weaken {c:Code}{S':St}(hS:At L S S')(h:Tr P Γ F B L Y c S' Q):Tr P Γ F B L Y c S Q:=fun N ρ a w R y m b=>by
 obtain ⟨ρ1,R1,s1,k1⟩:=hS P Γ N ρ a w R;exact h N ρ1 a w R1 (Y.st y R.hr R1.hr s1 k1) m b
theorem UI {ρ ρ':List AE}{h':DH}{ds:List Deferred}{w w':World}(H:Ag P Γ N S.h ρ w)(st:Ap S.h ρ w h' ρ' w')(m:L4 B ds w):L4 B ds w':=by
 cases B with
 | none=>exact m
 | some B=>
 refine EA.upd st.upd m fun k _ hk e=>?_
 obtain ⟨i,o,p,h1,h2,h3⟩:=hk;obtain ⟨_,_,c,t,z,h4⟩:=H.cel i o p k h1 h2 h3;rw [h4] at e;cases e;cases t
theorem Tr.skip (h:Q .normal S Y):Tr P Γ F B L Y .skip S Q:=fun N ρ _ _ R y m b=>zG4 ⟨S,ρ,N,Y,h,R,y,m,b⟩
theorem Tr.ret (h:Q .ret S Y):Tr P Γ F B L Y .ret S Q:=fun N ρ _ _ R y m b=>zHA ⟨S,ρ,N,Y,h,R,y,m,b⟩
theorem Tr.exit {id:Nat}(h:Q (.exit id) S Y):Tr P Γ F B L Y (.exit id) S Q:=fun N ρ _ _ R y m b=>wpIn_exit ⟨S,ρ,N,Y,h,R,y,m,b⟩
def QS (K:St -> BB P Γ L -> Prop)(Q:QY P Γ L):QY P Γ L
 | .normal,S,Y=>K S Y
 | e,S,Y=>Q e S Y
theorem Tr.seq {x y:Code}(h:Tr P Γ F B L Y x S (QS (fun S' Y'=>Tr P Γ F B L Y' y S' Q) Q)):Tr P Γ F B L Y (.seq x y) S Q:=fun N ρ a w R y m b=>by
 refine zFl (zGE (h N ρ a w R y m b) ?_);rintro e a' w' ⟨S',ρ',N',Y',h1,h2,h3,h4,h5⟩;cases e with
 | normal=>exact h1 N' ρ' a' w' h2 h3 h4 h5
 | ret=>exact ⟨S',ρ',N',Y',h1,h2,h3,h4,h5⟩
 | exit id=>exact ⟨S',ρ',N',Y',h1,h2,h3,h4,h5⟩
 | goto t=>exact ⟨S',ρ',N',Y',h1,h2,h3,h4,h5⟩
 | panic c=>exact ⟨S',ρ',N',Y',h1,h2,h3,h4,h5⟩
 | outgrown=>exact h1.elim
theorem Tr.cond {c:Operand}{x y:Code}{b:Bool}(hc:AT S.fr c= .bool b)(h1:b=true -> Tr P Γ F B L Y x S Q)(h2:b=false -> Tr P Γ F B L Y y S Q):Tr P Γ F B L Y (.cond c x y) S Q:=fun N ρ a w R y m bb=>by
 have hr:=BO R c;rw [hc] at hr;refine wpIn_cond (t:=b) hr ?_;cases b
 ·exact h2 rfl N ρ a w R y m bb
 ·exact h1 rfl N ρ a w R y m bb
theorem rP {F:Fence}{n:Nat}{P:Program}{Q:Exit -> Act -> World -> Prop}{a:Act}{w:World}{c:Code}(h:c.wpIn F n P (Exit.noGoto Q) a w):(Code.scope c).wpIn F n P Q a w:=by
 intro b k cs JU hb hr;have h0:(lone (b.atR a (.code (.scope c)::k)) cs w).fenced P F:=zF7 hb hr rfl;have s0:step P (lone (b.atR a (.code (.scope c)::k)) cs w)= .next (lone (b.atR a (.code c:: .inScope c::k)) cs w):=step_lone_go (by simp [stepG,stepG.exec,Frame.atR]);obtain ⟨e,a₁,w₁,hq,CH⟩:=h b (.inScope c::k) cs JU hb hr;have s1:step P (lone (b.atR a₁ (.inScope c::k)) cs w₁)= .next (lone (b.atR a₁ k) cs w₁):=step_lone_go (by simp [stepG,stepG.exec,Frame.atR]);cases e with
 | normal=>exact ⟨.normal,a₁,w₁,hq,.head h0 s0 (zFf CH (.one (zF7 hb hr rfl) s1))⟩
 | exit id=>exact ⟨.exit id,a₁,w₁,hq,fun k' hk=>.head h0 s0 (CH.1 k' hk),fun CC hk=>let ⟨k₁,h1,h2⟩:=CH.2 CC hk;⟨k₁,h1,.head h0 s0 h2⟩⟩
 | goto l=>exact hq.elim
 | ret=>exact ⟨_,a₁,w₁,hq,.of_steps (.one h0 s0) CH⟩
 | panic ch=>exact ⟨_,a₁,w₁,hq,.of_steps (.one h0 s0) CH⟩
 | outgrown=>exact ⟨_,a₁,w₁,hq,.of_steps (.one h0 s0) CH⟩
def xx (Q:QY P Γ L):QY P Γ L
 | .goto _,_,_=>False
 | e,S,Y=>Q e S Y
theorem Tr.scope {c:Code}(h:Tr P Γ F B L Y c S (xx Q)):Tr P Γ F B L Y (.scope c) S Q:=fun N ρ a w R y m b=>by
 refine rP (zGE (h N ρ a w R y m b) ?_);rintro e a' w' ⟨S',ρ',N',Y',h1,h2⟩;cases e with
 | goto l=>exact h1.elim
 | _=>exact ⟨S',ρ',N',Y',h1,h2⟩
theorem Tr.label {l:Nat}(h:Q .normal S Y):Tr P Γ F B L Y (.label l) S Q:=fun N ρ a w R y m b=>wpIn_label ⟨S,ρ,N,Y,h,R,y,m,b⟩
def zEe (id:Nat)(Q:QY P Γ L):QY P Γ L
 | .exit i,S,Y=>if i=id then Q .normal S Y else Q (.exit i) S Y
 | e,S,Y=>Q e S Y
theorem Tr.block {id:Nat}{c:Code}(h:Tr P Γ F B L Y c S (zEe id Q)):Tr P Γ F B L Y (.block id c) S Q:=fun N ρ a w R y m b=>by
 refine wpIn_block (zGE (h N ρ a w R y m b) ?_);rintro e a' w' ⟨S',ρ',N',Y',h1,h2⟩;cases e with
 | exit i=>
  show if i=id then _ else _
  by_cases e:i=id
  ·rw [zAA e];have h1:(if i=id then Q .normal S' Y' else Q (.exit i) S' Y'):=h1;rw [zAA e] at h1;exact ⟨S',ρ',N',Y',h1,h2⟩
  ·rw [zAY e];have h1:(if i=id then Q .normal S' Y' else Q (.exit i) S' Y'):=h1;rw [zAY e] at h1;exact ⟨S',ρ',N',Y',h1,h2⟩
 | normal=>exact ⟨S',ρ',N',Y',h1,h2⟩
 | ret=>exact ⟨S',ρ',N',Y',h1,h2⟩
 | goto t=>exact ⟨S',ρ',N',Y',h1,h2⟩
 | panic c=>exact ⟨S',ρ',N',Y',h1,h2⟩
 | outgrown=>exact h1.elim
theorem Tr.loop {c:Code}(I:Nat -> St -> BB P Γ L -> Prop)(n:Nat)(h0:I n S Y)(h: ∀ n S Y,I n S Y -> Tr P Γ F B L Y c S (QS (fun S' Y'=>∃ n',n'<n/\ I n' S' Y') Q)):Tr P Γ F B L Y (.loop c) S Q:=fun N ρ a w R y m b=>by
 refine wpIn_loop_ghost (fun k a' w'=>∃ S' ρ' N' Y',I k S' Y'/\ AP P Γ N' S' ρ' a' w'/\ Y'.I N' S'.h ρ' w'/\ L4 B a'.defers w'/\ Bd F B w') n ⟨S,ρ,N,Y,h0,R,y,m,b⟩ ?_;rintro k a' w' ⟨S',ρ',N',Y',h1,h2,h3,h4,h5⟩;refine zGE (h k S' Y' h1 N' ρ' a' w' h2 h3 h4 h5) ?_;rintro e a2 w2 ⟨S2,ρ2,N2,Y2,g1,g2,g3,g4,g5⟩;cases e with
 | normal=>
  obtain ⟨n',AK,hI⟩:=g1;exact ⟨n',AK,S2,ρ2,N2,Y2,hI,g2,g3,g4,g5⟩
 | ret=>exact ⟨S2,ρ2,N2,Y2,g1,g2,g3,g4,g5⟩
 | exit id=>exact ⟨S2,ρ2,N2,Y2,g1,g2,g3,g4,g5⟩
 | goto t=>exact ⟨S2,ρ2,N2,Y2,g1,g2,g3,g4,g5⟩
 | panic c=>exact ⟨S2,ρ2,N2,Y2,g1,g2,g3,g4,g5⟩
 | outgrown=>exact g1.elim
theorem AP.ext {ρ:List AE}{a:Act}{w w':World}(R:AP P Γ N S ρ a w)(hE:Am w w'):AP P Γ N S ρ a w':=⟨R.hr.ext hE,R.fr.out (BH.ext ρ hE)⟩
theorem Tr.done {S':St}{e:Exit}{ρ ρ':List AE}{a a':Act}{w w':World}(R:AP P Γ N S ρ a w)(y:Y.I N S.h ρ w)(m:L4 B a.defers w)(b:Bd F B w)(hk:QE Q e S' Y)(R':AP P Γ N S' ρ' a' w')(st:Ap S.h ρ w S'.h ρ' w')(Uo:B0 L ρ ρ')(Db:a'.defers=a.defers):
 ∃ S' ρ' N' Y',QE Q e S' Y'/\ AP P Γ N' S' ρ' a' w'/\ Y'.I N' S'.h ρ' w'/\ L4 B a'.defers w'/\ Bd F B w':=
 ⟨S',ρ',N,Y,hk,R',Y.st y R.hr R'.hr st Uo,by rw [Db];exact UI R.hr st m,b.step R.hr st⟩
theorem At.fr {fr fr':List DV}{h:DH}(hl:fr'.length=fr.length)(hd: ∀ i,i<fr.length -> AL (fr.getD i .any) (fr'.getD i .any)):At L ⟨fr,h⟩ ⟨fr',h⟩:=fun P Γ N ρ a w R=>
 ⟨ρ,⟨R.hr,⟨by rw [hl];exact R.fr.1,fun i hi=>hd i (by rw [←hl];exact hi) _ _ _ _ (R.fr.2 i (by rw [←hl];exact hi))⟩⟩,Ap.refl _ _ _,B0.refl _ _⟩
theorem AL.refl (d:DV):AL d d:=fun _ _ _ _ h=>h
theorem AL.any (d:DV):AL d .any:=fun _ _ _ _ _=>trivial
theorem AL.int {k:IntKind}{a b:Int}(h:a=b):AL (.int k a) (.int k b):=by rw [h];exact AL.refl _
theorem AL.bool {a b:Bool}(h:a=b):AL (.bool a) (.bool b):=by rw [h];exact AL.refl _
theorem AL.ints_nil:AL .nils (.ints []):=fun M w ρ v h=>⟨none,0,h,zBl _,zFo _,fun j hj=>absurd hj (zBk j)⟩
theorem AL.sl_nil (m:Nat)(f:Nat -> Nat -> DV):AL .nils (.sl m 0 f):=fun M w ρ v h=>⟨none,0,h,zBl _,zFo _,fun i j hi=>absurd hi (zBk i)⟩
def forget (live:List Nat)(fr:List DV):List DV:=(fr.zipIdx).map fun x=>if live.contains x.2 then x.1 else .any
theorem VH (live:List Nat)(fr:List DV):(forget live fr).length=fr.length:=by simp [forget]
theorem eO (live:List Nat)(fr:List DV){i:Nat}(hi:i<fr.length):(forget live fr).getD i .any=if live.contains i then fr.getD i .any else .any:=by
 simp [forget,hi]
theorem At.forget (live:List Nat)(fr:List DV)(h:DH):At L ⟨fr,h⟩ ⟨forget live fr,h⟩:=At.fr (VH _ _) fun i hi=>by
 rw [eO live fr hi];split
 ·exact AL.refl _
 ·exact AL.any _
def DX:List Nat -> Nat -> Option Nat
 | [],_=>none
 | x::σ,k=>if x=k then some 0 else (DX σ k).map (· +1)
def Et (σ:List Nat):DV -> DV
 | .ref k j=>match DX σ k with
  | some k'=>.ref k' j
  | none=>.any
 | .mse k m off n=>match DX σ k with
  | some k'=>.mse k' m off n
  | none=>.any
 | .mri k i=>match DX σ k with
  | some k'=>.mri k' i
  | none=>.any
 | .msl k m off n=>match DX σ k with
  | some k'=>.msl k' m off n
  | none=>.any
 | .mp k m i j=>match DX σ k with
  | some k'=>.mp k' m i j
  | none=>.any
 | .it k=>match DX σ k with
  | some k'=>.it k'
  | none=>.any
 | .agg m f=>.agg m fun j=>((List.range m).map fun i=>Et σ (f i)).getD j .any
 | .tup m f=>.tup m fun j=>((List.range m).map fun i=>Et σ (f i)).getD j .any
 | .fn g m c=>.fn g m fun j=>((List.range m).map fun i=>Et σ (c i)).getD j .any
 | d=>d
def Tg (σ:List Nat):Option DO -> Option DO
 | some (.cells l)=>some (.cells (l.map (Et σ)))
 | some (.ro l)=>some (.ro (l.map (Et σ)))
 | o=>o
def Fi (σ:List Nat)(S:St):St:=⟨S.fr.map (Et σ),σ.map fun k=>Tg σ (S.h.getD k none)⟩
theorem KA: ∀ {σ:List Nat} {k k':Nat},DX σ k=some k' -> σ[k']? =some k
 | [],_,_,h=>by cases h
 | x::σ,k,k',h=>by
  unfold DX at h;split at h
  ·rename_i e;cases h;subst e;rfl
  ·cases hr:DX σ k with
   | none=>rw [hr] at h;cases h
   | some i=>
    rw [hr] at h;have e:k'=i+1:=(zAV h).symm;subst e;have:=KA hr;simpa using this
theorem wP {f:Nat -> DV}{m j:Nat}(hj:j<m):((List.range m).map f).getD j .any=f j:=by simp [hj]
theorem ab {M:Nat -> Prop}{w:World}{ρ:List AE}{f:Nat -> DV}{m j:Nat}{u:Value}(hj:j<m)(h:AI M w (f j) ρ u):AI M w (((List.range m).map f).getD j .any) ρ u:=by rw [wP hj];exact h
theorem vv {M M':Nat -> Prop}{w:World}{σ:List Nat}{ρ ρ':List AE}(hM: ∀ b,M' b -> M b)(hρ: ∀ (k k':Nat) (p:AE),σ[k']? =some k -> ρ[k]? =some p -> ρ'[k']? =some p): ∀ (d:DV) {v:Value},AI M w d ρ v -> AI M' w (Et σ d) ρ' v:=by
 have low: ∀ (d:DV) {v:Value},AI M w d [] v -> AI M' w d [] v:=fun d v h=>h.out d ⟨fun _ _ _ _=>rfl,fun b hb=>.inl (hM b hb),fun k p hk=>by simp at hk⟩
 intro d
 induction d with
 | any=>intro v _;trivial
 | nils=>intro v h;exact h
 | int k n=>intro v h;exact h
 | bool b=>intro v h;exact h
 | str s=>intro v h;exact h
 | ints l=>intro v h;exact low (.ints l) h
 | bools l=>intro v h;exact low (.bools l) h
 | sl m n f _=>intro v h;exact low (.sl m n f) h
 | fp m f _=>intro v h;exact low (.fp m f) h
 | agg m f ih=>
  rintro v ⟨cs,e,hs,h⟩;exact ⟨cs,e,hs,fun j hj=>let ⟨u,h1,h2⟩:=h j hj;⟨u,h1,ab hj (ih j h2)⟩⟩
 | tup m f ih=>
  rintro v ⟨cs,e,hs,h⟩;exact ⟨cs,e,hs,fun j hj=>let ⟨u,h1,h2⟩:=h j hj;⟨u,h1,ab hj (ih j h2)⟩⟩
 | fn g m c ih=>
  rintro v ⟨cs,e,hs,h⟩;exact ⟨cs,e,hs,fun j hj=>let ⟨u,h1,h2⟩:=h j hj;⟨u,h1,ab hj (ih j h2)⟩⟩
 | ref k j=>
  rintro v ⟨p,hp,e⟩;simp only [Et];cases hk:DX σ k with
  | none=>trivial
  | some k'=>exact ⟨p,hρ k k' p (KA hk) hp,e⟩
 | msl k m off n=>
  rintro v ⟨p,cap,hp,r⟩;simp only [Et];cases hk:DX σ k with
  | none=>trivial
  | some k'=>exact ⟨p,cap,hρ k k' p (KA hk) hp,r⟩
 | mp k m i j=>
  rintro v ⟨p,hp,e⟩;simp only [Et];cases hk:DX σ k with
  | none=>trivial
  | some k'=>exact ⟨p,hρ k k' p (KA hk) hp,e⟩
 | yl l=>intro v h;exact h
 | cst u=>intro v h;exact h
 | mse k m off n=>
  rintro v ⟨p,a,cap,hp,r⟩;simp only [Et];cases hk:DX σ k with
  | none=>trivial
  | some k'=>exact ⟨p,a,cap,hρ k k' p (KA hk) hp,r⟩
 | mri k i=>
  rintro v ⟨p,vs,hp,r⟩;simp only [Et];cases hk:DX σ k with
  | none=>trivial
  | some k'=>exact ⟨p,vs,hρ k k' p (KA hk) hp,r⟩
 | it k=>
  rintro v ⟨p,hp,e⟩;simp only [Et];cases hk:DX σ k with
  | none=>trivial
  | some k'=>exact ⟨p,hρ k k' p (KA hk) hp,e⟩
def bQ:AE:=⟨0,0,0,undef,fun _=>False⟩
theorem At.compact (σ:List Nat)(S:St)(h1:σ.Nodup)(h2: ∀ k∈σ,k<S.h.length)(h3: ∀ k,k<L -> σ[k]? =some k):At L S (Fi σ S):=fun P Γ N ρ a w R=>by
 obtain ⟨ρ',G8⟩: ∃ ρ',ρ'=σ.map fun k=>ρ.getD k bQ:=⟨_,rfl⟩
 have Jd: ∀ {k':Nat} {p:AE},ρ'[k']? =some p -> ∃ k,σ[k']? =some k/\ ρ[k]? =some p:=fun {k' p} h=>by
  rw [G8,zBt] at h;cases hk:σ[k']? with
  | none=>rw [hk] at h;cases h
  | some k=>
   rw [hk] at h;have AK:k<ρ.length:=by rw [R.hr.len];exact h2 k (zB9 hk)
   refine ⟨k,rfl,?_⟩;simp [AK] at h;simp [AK,h]
 have put: ∀ (k k':Nat) (p:AE),σ[k']? =some k -> ρ[k]? =some p -> ρ'[k']? =some p:=fun k k' p hk hp=>by
  rw [G8,zBt,hk];simp [u8,hp]
 have HG: ∀ {k':Nat} {o':DO},(Fi σ S).h[k']? =some (some o') -> ∃ k o,σ[k']? =some k/\ S.h[k]? =some (some o)/\ Tg σ (some o)=some o':=fun {k' o'} h=>by
  show ∃ k o,_
  have h:(σ.map fun k=>Tg σ (S.h.getD k none))[k']? =some (some o'):=h;rw [zBt] at h;cases hk:σ[k']? with
  | none=>rw [hk] at h;cases h
  | some k=>
   rw [hk] at h;have AK:k<S.h.length:=h2 k (zB9 hk);have h:Tg σ (S.h.getD k none)=some o':=zAV h;have e:S.h.getD k none=S.h[k]:=by simp [AK]
   rw [e] at h;cases ho:S.h[k] with
   | none=>rw [ho] at h;cases h
   | some o=>rw [ho] at h;exact ⟨k,o,rfl,by simp [AK,ho],h⟩
 have hM: ∀ b,MO (Fi σ S).h ρ' b -> MO S.h ρ b:=by
  rintro b ⟨k',o',p,g1,g2,g3⟩;obtain ⟨k,o,e1,e2,_⟩:=HG g1;obtain ⟨k2,e3,e4⟩:=Jd g2;have:k2=k:=zAV (e3.symm.trans e1);subst this;exact ⟨k2,o,p,e2,e4,g3⟩
 have Ya: ∀ b,MS N (Fi σ S).h ρ' b -> MS N S.h ρ b:=fun b hb=>hb.imp id (hM b)
 have O:BH (MS N S.h ρ) w [] (MS N (Fi σ S).h ρ') w []:=⟨fun _ _ _ _=>rfl,fun b hb=>.inl (Ya b hb),fun k p hk=>by simp at hk⟩;have low: ∀ (d:DV) {v:Value},AI (MS N S.h ρ) w d ρ v -> AI (MS N (Fi σ S).h ρ') w (Et σ d) ρ' v:=fun d v h=>vv Ya put d h
 refine ⟨ρ',⟨⟨by simp [G8,Fi],fun k' o' Cz=>?_,fun k' o' p b g1 g2 g3=>?_,fun i i' o1 o2 p1 p2 b AR g1 g2 g3 g4 g5 g6=>?_,R.hr.nlt,R.hr.gi⟩,⟨by simp [Fi,R.fr.1],fun i hi=>?_⟩⟩,⟨AN.refl _ w,fun b hb=>.inl (hM b hb)⟩,fun k p hk hp=>put k k p (h3 k hk) hp⟩
 ·obtain ⟨k,o,e1,e2,e3⟩:=HG Cz;obtain ⟨p,hp,hr⟩:=R.hr.obj k o e2;refine ⟨p,put k k' p e1 hp,?_⟩;cases o with
  | cells l=>
   cases e3
   show AQ w p (l.map (Et σ)).length _
   rw [zCM];refine AQ.out hr rfl fun j u hj hu=>?_
   have:(l.map (Et σ)).getD j .any=Et σ (l.getD j .any):=by simp [hj]
   rw [this];exact low _ hu
  | ints l=>cases e3;exact AQ.out hr rfl fun j u _ hu=>hu
  | bools l=>cases e3;exact AQ.out hr rfl fun j u _ hu=>hu
  | arr m n f=>cases e3;exact AQ.out hr rfl fun j u _ hu=>AI.out _ O hu
  | iter encs=>
   cases e3;obtain ⟨gf,lb,Rd,q1,q2,q3,q4⟩:=hr;exact ⟨gf,lb,Rd,q1,q2,fun b hb=>⟨fun hm=>(q3 b hb).1 (Ya b hm),(q3 b hb).2⟩,q4⟩
  | ro l=>
   cases e3;obtain ⟨r1,r2,r3⟩:=hr;refine ⟨r1,fun hm=>r2 (Ya _ hm),?_⟩
   show AQ w _ (l.map (Et σ)).length _
   rw [zCM];refine AQ.out r3 rfl fun j u hj hu=>?_
   have:(l.map (Et σ)).getD j .any=(Et σ) (l.getD j .any):=by simp [hj]
   rw [this];exact low _ hu
  | mo x=>cases e3;exact hr
 ·obtain ⟨k,o,e1,e2,_⟩:=HG g1;obtain ⟨k2,e3,e4⟩:=Jd g2;have:k2=k:=zAV (e3.symm.trans e1);subst this;exact R.hr.cel k2 o p b e2 e4 g3
 ·obtain ⟨k,o,e1,e2,_⟩:=HG g1;obtain ⟨k2,o2,e3,e4,_⟩:=HG g2;obtain ⟨k3,e5,e6⟩:=Jd g3;obtain ⟨k4,e7,e8⟩:=Jd g4;have:k3=k:=zAV (e5.symm.trans e1);subst this;have:k4=k2:=zAV (e7.symm.trans e3);subst this;refine R.hr.dis k3 k4 o o2 p1 p2 b (fun e=>AR ?_) e2 e4 e6 e8 g5 g6;subst e;exact (List.getElem?_inj (zAW.1 e5).1 h1).1 (e5.trans e7.symm)
 ·have A8:i<S.fr.length:=by simpa [Fi] using hi
  have:(Fi σ S).fr.getD i .any=Et σ (S.fr.getD i .any):=by simp [Fi,A8]
  rw [this];exact low _ (R.fr.2 i A8)
end
def ki (P:Program)(S:St):ResultVar -> Option DV
 | .tmp t=>some (S.fr.getD t .any)
 | .cell x t=>match S.fr.getD x .any with
  | .ref k j=>match Ot P S t (.ref k j) with
   | some (d,_)=>some d
   | none=>none
  | _=>none
def Me (P:Program)(S:St):List ResultVar -> Option (List DV)
 | []=>some []
 | r::rs=>match ki P S r with
  | some d=>match Me P S rs with
   | some ds=>some (d::ds)
   | none=>none
  | none=>none
def Hs:List DV -> DV
 | [d]=>d
 | ds=>.tup ds.length fun j=>ds.getD j .any
section
variable {P:Program} {Γ:Aj} {N:Nat -> Prop} {S:St} {ρ:List AE} {a:Act} {w:World}
theorem yY {t:TypeId}{k j:Nat}{d:DV}{vc:Prop}(h:Ot P S t (.ref k j)=some (d,vc)):vc:=by
 unfold Ot at h
 repeat' (split at h)
 all_goals first | (cases h;trivial) | (cases h;done) | (simp_all;done)
def Wy (tmps:Array Value):ResultVar -> Sem Value
 | .tmp t=>pure (tmps.getD t undef)
 | .cell x t=>do loadVar t (←asAddr (tmps.getD x undef))
theorem kj (R:AP P Γ N S ρ a w): ∀ (rs:List ResultVar) (ds:List DV),Me P S rs=some ds -> ∃ vs:List Value,(rs.mapM (Wy a.tmps)).run P w= .ok vs w/\ vs.length=ds.length/\ ∀ i,i<ds.length -> AI (MS N S.h ρ) w (ds.getD i .any) ρ (vs.getD i undef)
 | [],ds,h=>by
  cases h;exact ⟨[],rfl,rfl,fun i hi=>absurd hi (zBk i)⟩
 | r::rs,ds,h=>by
  simp only [Me] at h;split at h
  ·rename_i d hd;split at h
   ·rename_i ds' Ey;cases h;obtain ⟨vs,h1,h2,h3⟩:=kj R rs ds' Ey
    obtain ⟨v,g1,g2⟩: ∃ v,(Wy a.tmps r).run P w= .ok v w/\ AI (MS N S.h ρ) w d ρ v:=by
     unfold ki at hd;split at hd
     ·cases hd;exact ⟨_,rfl,R.fr.at _⟩
     ·rename_i x t;split at hd
      ·rename_i k j e;split at hd
       ·rename_i d' vc hl;cases hd;have hx:=R.fr.at x;rw [e] at hx;obtain ⟨v,q1,q2⟩:=mW R hx hl (yY hl);obtain ⟨p,hp,hv⟩:=hx;have q:=q1 w (Keep.ofExt (Am.refl w));rw [hv,aM] at q;refine ⟨v,?_,q2⟩
        show (do loadVar t (←asAddr (a.tmps.getD x undef)):Sem Value).run P w=_
        rw [hv];exact q
       ·cases hd
      ·cases hd
    refine ⟨v::vs,?_,by simp [h2],fun i hi=>?_⟩
    ·rw [List.mapM_cons,zBx,g1];simp only [Result.andThen,zBx,h1,zGl]
    ·cases i with
     | zero=>exact g2
     | succ i=>exact h3 i (by simpa using hi)
   ·cases h
  ·cases h
theorem Ww (R:AP P Γ N S ρ a w){fn:Func}{ds:List DV}(h:Me P S fn.results.toList=some ds): ∃ v,(results fn a.tmps).run P w= .ok v w/\ AI (MS N S.h ρ) w (Hs ds) ρ v:=by
 obtain ⟨vs,h1,h2,h3⟩:=kj R _ _ h
 have hm:(fn.results.mapM (Wy a.tmps)).run P w= .ok vs.toArray w:=by
  rw [Array.mapM_eq_mapM_toList,←bind_pure_comp,zBx,h1];rfl
 have PH:(results fn a.tmps).run P w= .ok (if h:vs.toArray.size=1 then vs.toArray[0] else .tuple vs.toArray) w:=by
  show (do let vs←fn.results.mapM (Wy a.tmps);pure (if h:vs.size=1 then vs[0] else .tuple vs):Sem Value).run P w=_
  rw [zBx,hm];rfl
 refine ⟨_,PH,?_⟩
 match ds,vs,h2,h3 with
 | [],[],_,_=>exact ⟨#[],rfl,rfl,fun j hj=>absurd hj (zBk j)⟩
 | [d],[v],_,h3=>exact h3 0 (by simp)
 | d::d'::ds,v::v'::vs,h2,h3=>
  have: ¬ ((v::v'::vs).toArray.size=1):=by simp
  rw [dif_neg this];refine ⟨_,rfl,by simpa using h2,fun j hj=>?_⟩;have BM:j<(v::v'::vs).length:=by rw [h2];exact hj
  exact ⟨(v::v'::vs).getD j undef,by simp only [zHF,u8,zAE BM];rfl,h3 j hj⟩
def Oh (h:DH):Prop:=∀ (k:Nat) (encs:List (List DV)),h[k]? ≠some (some (.iter encs))
theorem AP.shut (R:AP P Γ N S ρ a w)(hi:Oh S.h){B:Nat}(hB:Γ.ng<=B){W:World}(hs:L2 B w W):AP P Γ N S ρ a W:=by
 have nc: ∀ {b:Nat},Ds w b -> W.heap[b]? =w.heap[b]? :=fun {b} ⟨c,t,z,h⟩=>
  hs.block b (zAL.1 h).1 fun hx=>by rw [h] at hx;cases hx.2;cases t
 have O:BH (MS N S.h ρ) w ρ (MS N S.h ρ) W ρ:=⟨fun b _ _ ⟨_,_,_,hc⟩=>nc (.cells hc),fun b h=>.inl h,fun _ _ h=>h⟩
 have hr: ∀ {p:AE} {n:Nat} {Rw:Nat -> Value -> Prop},AQ w p n Rw -> W.heap[p.blk]? =w.heap[p.blk]? :=fun {p n Rw} h=>by
  obtain ⟨_,cs,t,h2,_⟩:=h;exact nc (.cells h2)
 refine ⟨⟨R.hr.len,fun k o hk=>?_,fun k o p b h1 h2 h3=>?_,R.hr.dis,fun b hb=>⟨zBa (R.hr.nlt b hb).1 hs.size,(R.hr.nlt b hb).2⟩,Γ.st _ _ R.hr.gi (hs.mono fun i _ hx=>zAa hB hx.1)⟩,R.fr.out O⟩
 ·obtain ⟨p,hp,ho⟩:=R.hr.obj k o hk;refine ⟨p,hp,?_⟩;cases o with
  | cells l=>exact AQ.out ho (hr ho) fun j u _ hu=>AI.out _ O hu
  | ints l=>exact AQ.out ho (hr ho) fun j u _ hu=>hu
  | bools l=>exact AQ.out ho (hr ho) fun j u _ hu=>hu
  | arr m n f=>exact AQ.out ho (hr ho) fun j u _ hu=>AI.out _ O.nil hu
  | iter encs=>exact absurd hk (hi k encs)
  | ro l=>obtain ⟨r1,r2,r3⟩:=ho;exact ⟨r1,r2,AQ.out r3 (hr r3) fun j u _ hu=>AI.out _ O hu⟩
  | mo x=>exact Nl.out ho fun b hb AK=>nc (R.hr.cel k _ p b hk hp hb).2.2
 ·obtain ⟨g1,g2,c,t,z,g3⟩:=R.hr.cel k o p b h1 h2 h3;exact ⟨g1,g2,c,t,z,(nc ⟨c,t,z,g3⟩).trans g3⟩
theorem Ap.shut {h0 h:DH}{ρ0 ρ:List AE}{w0 w W:World}(st:Ap h0 ρ0 w0 h ρ w)(hs:L2 w0.heap.size w W):Ap h0 ρ0 w0 h ρ W:=
 ⟨st.upd.comp hs fun i hi hx=>absurd hx.1 (by omega),st.grow⟩
theorem A0.anys (M:Nat -> Prop)(w:World)(ρ:List AE)(n:Nat):A0 M w ρ (List.replicate n .any) (Array.replicate n undef):=
 ⟨by simp,fun i hi=>by
  have:(List.replicate n DV.any).getD i .any= .any:=by
   rw [u8,zCe];split <;> rfl
  rw [this];trivial⟩
def I6 (d:DV):Prop:=∀ (M:Nat -> Prop) (w:World) (ρ:List AE) (v:Value),AI M w d ρ v -> AI M w d [] v
def zFa (L:Nat)(S:St)(rs:List DV)(d:DV)(h':DH):Prop:= (AL (Hs rs) d/\ S.h=h')∨(Oh S.h/\ AL (Hs rs) d/\ I6 d/\ L<=S.h.length/\ (Fi (List.range L) S).h=h')
def CZ (P:Program)(fn:Func)(L:Nat)(d:DV)(h':DH)(e:Exit)(S':St):Prop:= (e= .normal∨e= .ret)/\ ∃ CJ,At L S' CJ/\ ∃ rs,Me P CJ fn.results.toList=some rs/\ zFa L CJ rs d h'
theorem ES.of_tr {f:Nat}{fn:Func}{c:Code}{ds:List DV}{h:DH}{d:DV}{h':DH}{ext:Bool}(hf:P.funcs[f]? =some fn)(hb:fn.body=some c)(PP:fn.name≠ "runtime.NumGoroutine")(hni:Oh h') 
 (H: ∀ (B:Nat) (N:BB P Γ h.length),Tr P Γ Fence.wide (some B) h.length N c ⟨ds++List.replicate (fn.ntmps-ds.length) .any,h⟩ (fun e S Y=>Y=N/\ CZ P fn h.length d h' e S)) (Kf:ext=true -> h= []):ES P Γ f ds h d h' ext:=by
 refine ⟨⟨fn,hf,PP,by rw [hb];rfl⟩,fun N ρ w args HR CD=>?_⟩;refine zEV w.heap.size hf hb ?_;have Af:ds.length=args.size:=CD.1
 have R:AP P Γ N ⟨ds++List.replicate (fn.ntmps-ds.length) .any,h⟩ ρ { tmps:=args++Array.replicate (fn.ntmps-args.size) undef,defers:=[] } w:=
  ⟨HR,A0.append CD (by rw [Af];exact A0.anys _ _ _ _)⟩
 have:=H w.heap.size (QW P Γ h.length N h ρ w) N ρ _ w R ⟨rfl,Ap.refl _ _ _,B0.refl _ _⟩ trivial (Bd.wide (zBl _));refine wpIn_wide.1 (zGE this ?_);rintro e a' w' ⟨S',ρ',N',Y',h1,h2,h3,h4,h5⟩
 have key:Y'=QW P Γ h.length N h ρ w -> CZ P fn h.length d h' e S' -> EA w.heap.size a'.defers w'/\ ∀ W,L2 w.heap.size w' W -> ∃ v,(results fn a'.tmps).run P W= .ok v W/\ ∃ v',Ending.returned v= .returned v'/\ B1 P Γ N h ρ w ext d h' v' W:=by
  rintro rfl ⟨_,CJ,B2,rs,My,hd | ⟨hi,hd,hn,hl,hh⟩⟩
  all_goals
   obtain ⟨e0,h3,h5⟩:=h3;have e0:=e0.symm;subst e0
  ·obtain ⟨hd,rfl⟩:=hd;refine ⟨h4,fun W hW=>?_⟩;obtain ⟨ρ'',E1,Sy,Ox⟩:=B2 P Γ N ρ' a' w' h2;have RW:=E1.shut hni (Γ.lo _ HR.gi) hW;obtain ⟨v,g1,g2⟩:=Ww RW My;have st:Ap h ρ w CJ.h ρ'' W:=(h3.trans Sy).shut hW;refine ⟨v,g1,v,rfl,⟨⟨ρ'',RW.hr,hd _ _ _ _ g2,st,fun k p hp=>?_⟩,fun he=>?_⟩⟩
   ·have hk:k<h.length:=by rw [←HR.len];exact (zAW.1 hp).1
    exact Ox k p hk (h5 k p hk hp)
   ·have:=Kf he;subst this;exact st.upd.toExt fun i _ ⟨k,o,p,q1,_⟩=>by simp at q1
  ·refine ⟨h4,fun W hW=>?_⟩;obtain ⟨ρ'',E1,Sy,Ox⟩:=B2 P Γ N ρ' a' w' h2;have RW:=E1.shut hi (Γ.lo _ HR.gi) hW;obtain ⟨v,g1,g2⟩:=Ww RW My;have st:Ap h ρ w CJ.h ρ'' W:=(h3.trans Sy).shut hW;obtain ⟨ρ3,R3,En,k3⟩:=At.compact (L:=h.length) (List.range h.length) CJ List.nodup_range (fun k hk=>zBa (zBf.1 hk) hl) (fun k hk=>by simp [hk]) P Γ N ρ'' a' W RW;rw [hh] at En;have Nk:=R3.hr;rw [hh] at Nk;refine ⟨v,g1,v,rfl,⟨⟨ρ3,Nk,?_,st.trans En,fun k p hp=>?_⟩,fun he=>?_⟩⟩
   ·have r0:=hn _ _ _ _ (hd _ _ _ _ g2);have r1:AI (MS N h' ρ3) W d [] v:=AI.out _ ⟨fun _ _ _ _=>rfl,fun b hb=>hb.elim (fun hx=>.inl (.inl hx)) fun hx=>(En.grow b hx).imp .inr id,fun _ _ hx=>by simp at hx⟩ r0;exact AI.out _ ⟨fun _ _ _ _=>rfl,fun b hb=>.inl hb,fun _ _ hx=>by simp at hx⟩ r1
   ·have hk:k<h.length:=by rw [←HR.len];exact (zAW.1 hp).1
    exact k3 k p hk (Ox k p hk (h5 k p hk hp))
   ·have:=Kf he;subst this;exact (st.trans En).upd.toExt fun i _ ⟨k,o,p,q1,_⟩=>by simp at q1
 cases e with
 | normal=>exact key h1.1 h1.2
 | ret=>exact key h1.1 h1.2
 | exit id=>exact absurd h1.2.1 (by simp)
 | goto t=>exact absurd h1.2.1 (by simp)
 | panic ch=>exact absurd h1.2.1 (by simp)
 | outgrown=>exact h1.elim
def Hn (d:DV):Prop:=∀ (M M':Nat -> Prop) (w w':World) (ρ ρ':List AE) (v:Value),AI M w d ρ v -> AI M' w' d ρ' v
theorem I6.agg {m:Nat}{f:Nat -> DV}(h: ∀ j,j<m -> I6 (f j)):I6 (.agg m f):=fun M w ρ _ ⟨cs,e,hs,hc⟩=>⟨cs,e,hs,fun j hj=>let ⟨u,h1,h2⟩:=hc j hj;⟨u,h1,h j hj M w ρ u h2⟩⟩
theorem I6.tup {m:Nat}{f:Nat -> DV}(h: ∀ j,j<m -> I6 (f j)):I6 (.tup m f):=fun M w ρ _ ⟨cs,e,hs,hc⟩=>⟨cs,e,hs,fun j hj=>let ⟨u,h1,h2⟩:=hc j hj;⟨u,h1,h j hj M w ρ u h2⟩⟩
theorem Hn.int (k:IntKind)(n:Int):Hn (.int k n):=fun _ _ _ _ _ _ _ h=>h
theorem Hn.bool (b:Bool):Hn (.bool b):=fun _ _ _ _ _ _ _ h=>h
theorem Hn.tup {m:Nat}{f:Nat -> DV}(h: ∀ j,j<m -> Hn (f j)):Hn (.tup m f):=fun M M' w w' ρ ρ' _ ⟨cs,e,hs,hc⟩=>⟨cs,e,hs,fun j hj=>let ⟨u,h1,h2⟩:=hc j hj;⟨u,h1,h j hj M M' w w' ρ ρ' u h2⟩⟩
theorem RB {M:Nat -> Prop}(hM: ∀ b,M b -> b<w.heap.size/\ Γ.ng<=b)(hg:Γ.gi w):Ag P Γ M [] [] w:=
 ⟨rfl,fun k o hk=>by simp at hk,fun k o p b h1=>by simp at h1,fun k k' o o' p p' b _ h1=>by simp at h1,hM,hg⟩
theorem P6 {M:Nat -> Prop}{b:Nat}:MS M [] [] b↔M b:=⟨fun h=>h.elim id fun ⟨k,o,p,h1,_⟩=>by simp at h1,.inl⟩
theorem ES.frame {f:Nat}{ds:List DV}{d:DV}(h0:ES P Γ f ds [] d [] true)(Ey: ∀ x∈ds,I6 x)(h:DH):ES P Γ f ds h d h true:=by
 refine ⟨h0.1,fun N ρ w args HR CD=>?_⟩;refine (h0.2 (MS N h ρ) [] w args (RB (fun b hb=>HR.lt2 hb) HR.gi) ⟨CD.1,fun i hi=>?_⟩).mono ?_
 ·have hx:=Ey (ds.getD i .any) (by simp [hi]);exact AI.out _ (Dk (fun b hb=>P6.1 hb) []) (hx _ _ _ _ (CD.2 i hi))
 ·rintro e w' ⟨v,rfl,⟨⟨ρ',g1,g2,g3,g4⟩,g5⟩⟩;have hE:=g5 rfl;have hρ:ρ'= []:=zDe (by rw [g1.len];rfl);subst hρ;exact ⟨v,rfl,⟨⟨ρ,HR.ext hE,Qf (AI.out _ (Dk (fun b hb=>P6.2 hb) []) g2),Ap.ext hE,fun _ _ h=>h⟩,g5⟩⟩
def Aq (h:DH)(d d0:DV):Prop:=∀ (P:Program) (Γ:Aj) (N:Nat -> Prop) (ρ:List AE) (w:World) (v:Value),Ag P Γ N h ρ w -> AI (MS N h ρ) w d ρ v -> AI (fun _=>False) w d0 [] v
theorem Aq.nref {h:DH}{d:DV}(hn:I6 d):Aq h d d:=fun _ _ _ _ _ _ _ hr=>AI.out _ (Dk (fun _ hb=>hb.elim) []) (hn _ _ _ _ hr)
theorem Aq.ints {h:DH}{k n:Nat}{l:List Int}(hk:h[k]? =some (some (.ints l)))(hn:n=l.length):Aq h (.msl k 1 0 n) (.ints l):=by
 rintro P Γ N ρ w v H ⟨p,cap,hp,e,g1,g2,_⟩;subst hn;obtain ⟨p',A5,hr⟩:=H.obj k _ hk;have ep:p'=p:=zAV (A5.symm.trans hp);subst ep;refine ⟨_,cap,e,g1,g2,fun j hj=>⟨p'.blk,p'.off,by simp,id,?_⟩⟩;obtain ⟨u,e1,e2⟩:=AQ.cell hr hj;rw [e1,e2]
theorem Aq.bools {h:DH}{k n:Nat}{l:List Bool}(hk:h[k]? =some (some (.bools l)))(hn:n=l.length):Aq h (.msl k 1 0 n) (.bools l):=by
 rintro P Γ N ρ w v H ⟨p,cap,hp,e,g1,g2,_⟩;subst hn;obtain ⟨p',A5,hr⟩:=H.obj k _ hk;have ep:p'=p:=zAV (A5.symm.trans hp);subst ep;refine ⟨_,cap,e,g1,g2,fun j hj=>⟨p'.blk,p'.off,by simp,id,?_⟩⟩;obtain ⟨u,e1,e2⟩:=AQ.cell hr hj;rw [e1,e2]
theorem Aq.ref {h:DH}{k m:Nat}{l:List DV}{f:Nat -> DV}(hk:h[k]? =some (some (.cells l)))(hm:m<=l.length)(hf: ∀ j,j<m -> Aq h (l.getD j .any) (f j)):Aq h (.ref k 0) (.fp m f):=by
 rintro P Γ N ρ w v H ⟨p,hp,e⟩;obtain ⟨p',A5,hr⟩:=H.obj k _ hk;have ep:p'=p:=zAV (A5.symm.trans hp);subst ep;refine ⟨p'.blk,p'.off,e,fun j hj=>⟨id,?_⟩⟩;obtain ⟨u,e1,e2⟩:=AQ.cell hr (j:=j) (by omega);exact ⟨u,e1,hf j hj P Γ N ρ w u H e2⟩
theorem ES.snap {f:Nat}{ds ET:List DV}{d:DV}(h0:ES P Γ f ET [] d [] true)(h:DH)(hl:ET.length=ds.length)(hs: ∀ i,i<ds.length -> Aq h (ds.getD i .any) (ET.getD i .any))(hd:Hn d):ES P Γ f ds h d h true:=by
 refine ⟨h0.1,fun N ρ w args HR CD=>?_⟩;refine (h0.2 (fun _=>False) [] w args (RB (fun b hb=>hb.elim) HR.gi) ⟨by rw [hl];exact CD.1,fun i hi=>?_⟩).mono ?_
 ·rw [hl] at hi;exact AI.out _ (Dk (fun b hb=>P6.1 hb) []) (hs i hi P Γ N ρ w _ HR (CD.2 i hi))
 ·rintro e w' ⟨v,rfl,⟨⟨ρ',g1,g2,g3,g4⟩,g5⟩⟩;have hE:=g5 rfl;exact ⟨v,rfl,⟨⟨ρ,HR.ext hE,hd _ _ _ _ _ _ _ g2,Ap.ext hE,fun _ _ h=>h⟩,g5⟩⟩
end
section
variable {F:Fence} {n:Nat} {P:Program} {ops:Array Oper} {Q:Exit -> Act -> World -> Prop}
def J0 (F:Fence)(n:Nat)(P:Program)(ops:Array Oper)(Q:Exit -> Act -> World -> Prop)(R:Nat -> World -> World -> Prop)(By:Nat -> Bool)(g:Nat):Nat -> Array Bool -> Act -> World -> Prop
 | 0,AV,a,w=>(∀ j,j<ops.size -> By j=false -> AV.getD j true=true)/\ wpAnyIn F n P .any ops Q g AV a w
 | m+1,AV,a,w=>Region.ready .any ops AV≠[]/\ ∀ i∈Region.ready .any ops AV,wpOpIn F n P ops Q i (fun a' w'=>R i w w'/\ J0 F n P ops Q R By g m (AV.setIfInBounds i true) a' w') a w
abbrev WD (F:Fence)(n:Nat)(P:Program)(ops:Array Oper)(Q:Exit -> Act -> World -> Prop)(R:Nat -> World -> World -> Prop):Nat -> Array Bool -> Act -> World -> Prop:=J0 F n P ops Q R (fun _=>false) 0
section
variable {By:Nat -> Bool} {g:Nat}
theorem gN {R R':Nat -> World -> World -> Prop}(hR: ∀ i w w',R' i w w' -> R i w w'): ∀ (m:Nat) (AV:Array Bool) (a:Act) (w:World),J0 F n P ops Q R' By g m AV a w -> J0 F n P ops Q R By g m AV a w
 | 0,_,_,_,h=>h
 | m+1,_,_,_,h=>⟨h.1,fun i hi=>zGb (fun _ _ h'=>⟨hR _ _ _ h'.1,gN hR m _ _ _ h'.2⟩) (h.2 i hi)⟩
theorem vw {AV:Array Bool}(h: ∀ j,j<ops.size -> AV.getD j true=true):Region.ready .any ops AV= []:=by
 cases hr:Region.ready .any ops AV with
 | nil=>rfl
 | cons i l=>
  have hi:i∈Region.ready .any ops AV:=by rw [hr];simp
  obtain ⟨h1,oi,h2,_⟩:=zGg.1 hi;rw [h i (zAL.1 h2).1] at h1;cases h1
theorem rM {R:Nat -> World -> World -> Prop}{AV:Array Bool}{a:Act}{w:World}(h: ∀ j,j<ops.size -> AV.getD j true=true)(hq:Q .normal a w):WD F n P ops Q R 0 AV a w:=⟨fun j hj _=>h j hj,vw h,hq⟩
theorem gX {R:Nat -> World -> World -> Prop}: ∀ (m:Nat) (AV:Array Bool) (a:Act) (w:World),J0 F n P ops Q R By g m AV a w -> wpAnyIn F n P .any ops Q (m+g) AV a w
 | 0,_,_,_,h=>by rw [zBy];exact h.2
 | m+1,_,_,_,h=>by
  rw [show m+1+g=(m+g)+1 by omega];exact ⟨fun h0=>absurd h0 h.1,fun i hi=>zGb (fun a' w' h'=>gX m _ a' w' h'.2) (h.2 i hi)⟩
theorem rL (hF: ∀ f,F.fn f)(As:Cu ops=true){R:Nat -> World -> World -> Prop}{T:World -> Prop}{i:Nat}{oi:Oper}{v:Value}(hQ: ∀ c a d v w,Q (.panic c) (Act.put a d v) w -> Q (.panic c) a w)(hi:ops[i]? =some oi)(Uh: ∀ (j:Nat) (o:Oper) cs b,ops[j]? =some o -> o.op≠.select cs b)(oJ: ∀ w,R i w w)(d5: ∀ j,j<ops.size -> By j=true -> Fn ops ops.size j i=true):
 ∀ (m:Nat) (AV:Array Bool) (a:Act) (w:World),Ge ops AV ->
  (∀ j oj,ops[j]? =some oj -> j≠i -> AV.getD j true=false -> (∀ e∈oj.after,Region.binds .any e=true -> e.on≠i) -> oi.apart ops oj=true) ->
  (∀ j,j<ops.size -> j≠i -> AV.getD j true=false -> Fn ops ops.size j i=false -> ∀ w w',T w -> R j w w' -> T w') ->
  i∈Region.ready .any ops AV -> YieldsIf P ops T oi v a -> T w ->
  J0 F n P ops Q R By g m (AV.setIfInBounds i true) (a.put oi.dst v) w -> J0 F n P ops Q R By g (m+1) AV a w:=by
 intro m
 induction m with
 | zero=>
  intro AV a w BF _ _ hr hy hS H;have NC:=(zGg.1 hr).1;refine ⟨fun h=>(by rw [h] at hr;cases hr),fun j hj=>?_⟩
  by_cases E9:j=i
  ·subst E9;exact V8 hF (Hc As hi) hi hy hS ⟨oJ w,H⟩
  ·exfalso
   obtain ⟨Kc,oj,Fv,H5⟩:=zGg.1 hj;have PT:=(zAL.1 Fv).1;cases ht:By j with
   | true=>
    have:=WG BF _ j i oj Fv H5 (d5 j PT ht);rw [VA NC] at this;cases this
   | false=>
    have:=H.1 j PT ht;rw [getD_set_ne true (zGi E9),Kc] at this;cases this
 | succ m ih=>
  intro AV a w BF Uw hT hr hy hS H;have NC:=(zGg.1 hr).1;refine ⟨fun h=>(by rw [h] at hr;cases hr),fun j hj=>?_⟩
  by_cases E9:j=i
  ·subst E9;exact V8 hF (Hc As hi) hi hy hS ⟨oJ w,H⟩
  ·have h1:=H.2 j (ready_mono hj E9);obtain ⟨Kc,oj,Fv,H5⟩:=zGg.1 hj;have PT:=(zAL.1 Fv).1
   have dL:Fn ops ops.size j i=false:=by
    cases hx:Fn ops ops.size j i with
    | false=>rfl
    | true=>
     have:=WG BF _ j i oj Fv H5 hx;rw [VA NC] at this;cases this
   have dM: ∀ e∈oj.after,Region.binds .any e=true -> e.on≠i:=fun e he hb RO=>by
    have h1:=H5 e he hb;rw [RO,VA NC] at h1;cases h1
   have h2:=gP hF (Hc As Fv) Fv (Uw j oj Fv E9 Kc dM) (fun cs b=>Uh i oi cs b hi) (fun cs b=>Uh j oj cs b Fv) (fun c a w h=>hQ c a _ _ w h) hy h1
   have un: ∀ {k:Nat},(AV.setIfInBounds j true).getD k true=false -> AV.getD k true=false:=fun {k} Eg=>by
    by_cases Us:j=k
    ·subst Us;exact Kc
    ·rw [getD_set_ne true Us] at Eg;exact Eg
   refine zGb (fun a' w' h3=>⟨h3.2.1,ih (AV.setIfInBounds j true) a' w' (BF.set hj) (fun k ok hk Uq Eg HA=>Uw k ok hk Uq (un Eg) HA) (fun k Ei Uq Eg hkw=>hT k Ei Uq (un Eg) hkw) (ready_mono hr (zGi E9)) h3.1 (hT j PT E9 Kc dL w w' hS h3.2.1) ?_⟩) h2;rw [Array.setIfInBounds_comm _ _ E9];exact h3.2.2
theorem gQ {id:Nat}{a:Act}{w:World}{R:Nat -> World -> World -> Prop}(hm:P.follows .mixedOrders=true){m:Nat}(hs:m+g=ops.size)(h:J0 F n P ops Q R By g m (Array.replicate ops.size false) a w.drew):(Code.region id ops true).wpIn F n P Q a w:=
 wpIn_region_any hm (by
  have:=gX (g:=g) m _ _ _ h;rw [hs] at this;exact this)
theorem gR {c:Code}{a:Act}{w:World}(h:c.wpIn F n P (NP Q) a w):c.wpIn F n P Q a w:=zGE h fun e _ _ hq=>by
 cases e <;> first | exact hq | exact hq.elim
theorem po:Ge ops (Array.replicate ops.size false):=fun j oj _ hl=>by
 exfalso
 rcases zCb j ops.size with h | h
 ·simp [h] at hl
 ·simp [h] at hl
def Tv (ops:Array Oper)(i:Nat):Bool:=match ops[i]? with
 | some o=>Tu o.op
 | none=>false
def RZ (ops:Array Oper)(early:Nat -> Bool)(Z:Nat -> Nat -> Prop)(j:Nat)(w w':World):Prop:=(Tv ops j=true -> w'=w)/\ (early j=true -> AN (Z j) w w')
def W5 (ops:Array Oper)(early:Nat -> Bool)(i:Nat)(AV:Array Bool):Bool:= (Region.ready .any ops AV).contains i&&Region.free .any ops AV i&&Tv ops i&& ((List.range ops.size).all fun j=>AV.getD j true||j==i||Tv ops j||early j||Fn ops ops.size j i)
theorem km (hF: ∀ f,F.fn f)(As:Cu ops=true)(hs:Region.noSelect ops=true){early:Nat -> Bool}{Z:Nat -> Nat -> Prop}{Zi:Nat -> Prop}{i m:Nat}{AV:Array Bool}{a:Act}{w:World}{oi:Oper}{v:Value}(hQ: ∀ c a d v w,Q (.panic c) (Act.put a d v) w -> Q (.panic c) a w)(hi:ops[i]? =some oi)(BF:Ge ops AV)(CW:W5 ops early i AV=true)(hZ: ∀ j,Fn ops ops.size j i=false -> ∀ b,Z j b -> Zi b)(d5: ∀ j,j<ops.size -> By j=true -> Fn ops ops.size j i=true) 
 (hy:YieldsIf P ops (AN Zi w) oi v a) (h:J0 F n P ops Q (RZ ops early Z) By g m (AV.setIfInBounds i true) (a.put oi.dst v) w):J0 F n P ops Q (RZ ops early Z) By g (m+1) AV a w:=by
 simp only [W5,zAO,zAX,zBf,zCL,zCR] at CW;obtain ⟨⟨⟨h1,h2⟩,h3⟩,h4⟩:=CW;refine rL hF As hQ hi (Region.noSelect_spec hs) (fun w=>⟨fun _=>rfl,fun _=>AN.refl _ _⟩) d5 m AV a w BF (Region.free_spec hi h2) (fun j hj E9 Eg hw w1 w2 hT hR=>?_) (by simpa using h1) hy (AN.refl _ _) h;rcases h4 j hj with (((h | h) | h) | h) | h
 ·rw [Eg] at h;cases h
 ·exact absurd h E9
 ·rw [hR.1 h];exact hT
 ·exact hT.trans ((hR.2 h).mono fun b _ hb=>hZ j hw b hb)
 ·rw [hw] at h;cases h
theorem fH {AV:Array Bool}{i:Nat}(BF:Ge ops AV)(h:(Region.ready .any ops AV).contains i=true):Ge ops (AV.setIfInBounds i true):=BF.set (by simpa using h)
end
end
abbrev zFc:=@Option.map_eq_some_iff
abbrev zGB:=@List.mem_filter
abbrev zGQ:=@Bool.eq_false_iff
inductive ST where
 | fin (π live:List Nat)
 | rd (i:Nat) (t:ST)
 | ef (i:Nat) (t IA:ST)
 | no
def V1:ST -> List Nat
 | .ef i _ IA=>i::V1 IA
 | _=>[]
def EZ (ops:Array Oper)(early:List Nat):Bool -> Nat -> ST -> Array Bool -> Bool
 | false,0,.fin _ _,L=>(List.range ops.size).all fun j=>L.getD j true
 | false,m+1,.rd i t,L=>W5 ops (fun j=>early.contains j) i L&&EZ ops early false m t (L.setIfInBounds i true)
 | b,m+1,.ef i t IA,L=>(b||Region.ready .any ops L==V1 (.ef i .no IA))&&!Tv ops i&&EZ ops early false m t (L.setIfInBounds i true)&&EZ ops early true (m+1) IA L
 | true,_,.no,_=>true
 | _,_,_,_=>false
def FU (p:Nat -> Bool)(h:DH):DH:=(List.range h.length).map fun i=>if p i then h.getD i none else none
def zB (xs:List Nat)(h:DH):DH:=FU (fun i=>!xs.contains i) h
def MJ (S:St)(o:Oper):Option Nat:=match o.op with
 | .store _ x _=>match AT S.fr x with
  | .ref k _=>some k
  | .mp k _ _ _=>some k
  | _=>none
 | _=>none
def IX:DV -> List Nat
 | .msl k _ _ _=>[k]
 | _=>[]
def ZR (S:St)(o:Oper):Option (List Nat):=match o.op with
 | .call c=>match c.callee with
  | .builtin .append=>match c.args.toList with
   | [x,y]=>some (IX (AT S.fr x)++IX (AT S.fr y))
   | _=>none
  | _=>none
 | _=>none
def SI (P:Program)(S:St)(fz:List (Nat×Fz))(o:Oper):Option (List Nat):=match Wl P S fz o,WV P S o with
 | none,none=>ZR S o
 | _,_=>none
def zH (nw:List Nat)(h h':DH):Bool:=(List.range h.length).all fun k=>nw.contains k|| !(h.getD k none).isSome||(h'.getD k none).isSome
def jX (σ:List Nat)(L n:Nat):Bool:=decide σ.Nodup&&σ.all (fun k=>decide (k<n))&&(List.range L).all fun k=>decide (σ[k]? =some k)
def Jz (xs:List (Nat×Nat))(nw:List Nat)(j:Nat):List Nat:=(xs.filter fun q=>q.1==j).map (·.2)++nw
def MA (ops:Array Oper)(xs:List (Nat×Nat))(nw:List Nat)(i:Nat):List Nat:=(xs.filter fun q=>!Fn ops ops.size q.1 i).map (·.2)++nw
def pV (P:Program)(fz:List (Nat×Fz))(early:List Nat)(xs:List (Nat×Nat))(nw:List Nat)(S S1:St)(i:Nat)(o:Oper)(ext:Bool):Bool:=
 zH nw S.h S1.h&&(!(early.contains i)||ext||(match MJ S o with | some k=>(Jz xs nw i).contains k&&(S.h.getD k none).isSome | none=>false)||(match SI P S fz o with | some l=>l.all fun k=>(Jz xs nw i).contains k | none=>false))
def Wb (π:List Nat)(L0:Nat):List Nat:=List.range L0++π.map (· +L0)
def MG (P:Program)(Γ:Aj)(ops:Array Oper)(early:List Nat)(xs:List (Nat×Nat))(nw:List Nat)(L0:Nat)(S':St):ST -> St -> BI -> Option (List Prop×BI)
 | .no,_,Aa=>some ([],Aa)
 | .fin π live,S,Aa=>if jX (Wb π L0) L0 S.h.length then some ([Fi (Wb π L0) ⟨forget live S.fr,S.h⟩=S'],Aa) else none
 | .rd i t,S,Aa=>match ops[i]? with
  | none=>none
  | some o=>match Ti P ops ⟨S.fr,zB (MA ops xs nw i) S.h⟩ Aa.co o with
   | none=>none
   | some (S1,vs,Dd)=>match MG P Γ ops early xs nw L0 S' t ⟨S1.fr,S.h⟩ ⟨Aa.calls,Dd,Aa.fz,Aa.tg⟩ with
    | none=>none
    | some (Bg,B6)=>some (vs++Bg,B6)
 | .ef i t IA,S,Aa=>match ops[i]? with
  | none=>none
  | some o=>match Pu P Γ ops S Aa o with
   | none=>none
   | some (S1,vs,ext,GM)=>if pV P Aa.fz early xs nw S S1 i o ext then
    match MG P Γ ops early xs nw L0 S' t S1 GM with
    | none=>none
    | some (C9,GL)=>match MG P Γ ops early xs nw L0 S' IA S GL with
     | none=>none
     | some (E4,LJ)=>some (vs++(C9++E4),LJ)
    else none
def Bs (ops:Array Oper)(early:List Nat)(t:ST):Prop:=(EZ ops early false ops.size t (Array.replicate ops.size false)&&Region.noSelect ops&&Cu ops)=true
def Sn (P:Program)(Γ:Aj)(ops:Array Oper)(early:List Nat)(t:ST)(S:St)(Aa:BI):Option (St×List Prop×BI):=match Aa.tg with
 | []=>none
 | (ks,S')::rest=>match MG P Γ ops early ks (List.range' S.h.length ops.size) S.h.length S' t S ⟨Aa.calls,Aa.co,Aa.fz,rest⟩ with
  | none=>none
  | some (vs,B6)=>some (S',vs,B6)
theorem NL {p:Nat -> Bool}{h:DH}{i:Nat}{o:DO}(hi:(FU p h)[i]? =some (some o)):h[i]? =some (some o)/\ p i=true:=by
 unfold FU at hi;rw [zBt] at hi;cases hr:(List.range h.length)[i]? with
 | none=>rw [hr] at hi;cases hi
 | some j=>
  have hj:i<h.length/\ i=j:=by
   have:=zAW.1 hr;obtain ⟨h1,h2⟩:=this;simp at h1 h2;exact ⟨h1,h2⟩
  rw [hr] at hi;obtain ⟨h1,rfl⟩:=hj;have hi:(if p i then h.getD i none else none)=some o:=zAV hi;split at hi
  ·exact ⟨by rw [u8,zAE h1] at hi;rw [zAE h1];exact congrArg some hi,by assumption⟩
  ·cases hi
theorem jm {p:Nat -> Bool}{h:DH}:(FU p h).length=h.length:=by simp [FU]
theorem eH {p:Nat -> Bool}{h:DH}{k:Nat}(hp:p k=true)(hk:k<h.length):(FU p h)[k]? =h[k]? :=by
 unfold FU;rw [zBt,zGC hk];simp [hp,u8,hk]
section
variable {P:Program} {Γ:Aj} {N:Nat -> Prop} {S:St} {ρ:List AE} {a:Act} {w:World}
theorem AP.sel (R:AP P Γ N S ρ a w)(p:Nat -> Bool):AP P Γ (fun b=>N b∨∃ k o q,p k=false/\ S.h[k]? =some (some o)/\ ρ[k]? =some q/\ q.foot b) ⟨S.fr,FU p S.h⟩ ρ a w:=by
 have hM: ∀ b,MS (fun b=>N b∨∃ k o q,p k=false/\ S.h[k]? =some (some o)/\ ρ[k]? =some q/\ q.foot b) (FU p S.h) ρ b -> MS N S.h ρ b:=by
  rintro b ((h | ⟨k,o,q,h1,h2,h3,h4⟩) | ⟨k,o,q,h1,h2,h3⟩)
  ·exact .inl h
  ·exact .inr ⟨k,o,q,h2,h3,h4⟩
  ·exact .inr ⟨k,o,q,(NL h1).1,h2,h3⟩
 refine ⟨⟨by rw [jm];exact R.hr.len,fun i o hi=>?_,fun i o q b g1 g2 g3=>?_,fun i i' o1 o2 p1 p2 b AR g1 g2 g3 g4 g5 g6=>R.hr.dis i i' o1 o2 p1 p2 b AR (NL g1).1 (NL g2).1 g3 g4 g5 g6,?_,R.hr.gi⟩,R.fr.out (Dk hM ρ)⟩
 ·obtain ⟨q,hq,hr⟩:=R.hr.obj i o (NL hi).1;exact ⟨q,hq,hr.out (Dk hM ρ) (S:=fun _=>False) (AN.refl _ _) (fun _ h=>h.elim) fun _ _ _ h=>h⟩
 ·obtain ⟨hi,hpi⟩:=NL g1;obtain ⟨c1,c2,c3⟩:=R.hr.cel i o q b hi g2 g3;refine ⟨c1,?_,c3⟩;rintro (h | ⟨k,o',q',h1,h2,h3,h4⟩)
  ·exact c2 h
  ·exact R.hr.dis i k o o' q q' b (fun e=>by subst e;rw [hpi] at h1;cases h1) hi h2 g2 h3 g3 h4
 ·rintro b (h | ⟨k,o',q',h1,h2,h3,h4⟩)
  ·exact R.hr.nlt b h
  ·obtain ⟨c1,_,c,t,z,c3⟩:=R.hr.cel k o' q' b h2 h3 h4;exact ⟨(zAL.1 c3).1,c1⟩
theorem AP.unsel {p:Nat -> Bool}{fr:List DV}(R0:Ag P Γ N S.h ρ w)(R:A0 (MS (fun b=>N b∨∃ k o q,p k=false/\ S.h[k]? =some (some o)/\ ρ[k]? =some q/\ q.foot b) (FU p S.h) ρ) w ρ fr a.tmps):AP P Γ N ⟨fr,S.h⟩ ρ a w:=by
 refine ⟨R0,R.out (Dk (fun b hb=>?_) ρ)⟩;rcases hb with h | ⟨k,o,q,h1,h2,h3⟩
 ·exact .inl (.inl h)
 ·cases hp:p k with
  | false=>exact .inl (.inr ⟨k,o,q,hp,h1,h2,h3⟩)
  | true=>
   refine .inr ⟨k,o,q,?_,h2,h3⟩;rw [eH hp (zAW.1 h1).1];exact h1
def Zs (xs:List Nat)(h:DH)(ρ:List AE)(w:World)(b:Nat):Prop:=(∃ k o q,k∈xs/\ h[k]? =some (some o)/\ ρ[k]? =some q/\ q.foot b)∨w.heap.size<=b
theorem zI {xs:List Nat}{W:World}(hu:AN (Zs xs S.h ρ w) w W):Keep (fun b=>N b∨∃ k o q,(!xs.contains k)=false/\ S.h[k]? =some (some o)/\ ρ[k]? =some q/\ q.foot b) w W:=by
 intro b o u hb hc;have AK:b<w.heap.size:=zFX w ⟨b,o,none⟩ hc;refine (p8 (hu.block b AK ?_)).trans hc;rintro (⟨k,ob,q,h1,h2,h3,h4⟩ | h)
 ·exact hb (.inr ⟨k,ob,q,by simp [h1],h2,h3,h4⟩)
 ·omega
theorem Rm {ρ':Operand -> Value}{o:Oper}{t:TypeId}{x y:Operand}(ho:o.op= .store t x y){nx:Next}{w w':World}(h:(execOp ρ' o).run P w= .ok nx w'):nx= .skip:=by
 unfold execOp at h;rw [ho] at h;have h:(Instr.storeAt t (ρ' x) (ρ' y)>>=fun _=>(pure .skip:Sem Next)).run P w= .ok nx w':=h;rw [zBx] at h;cases hs:(Instr.storeAt t (ρ' x) (ρ' y)).run P w with
 | ok v w1=>rw [hs] at h;simp only [Result.andThen] at h;cases h;rfl
 | halt x w1=>rw [hs] at h;simp only [Result.andThen] at h;cases h
theorem BG.store {ρ':Operand -> Value}{o:Oper}{t:TypeId}{x y:Operand}(ho:o.op= .store t x y){w:World}{G G':Value -> World -> Prop}(h:BG P (execOp ρ' o) w G)(h':BG P (execOp ρ' o) w G'):BG P (execOp ρ' o) w (fun v W=>G v W/\ G' v W):=by
 rcases h with ⟨v,w1,h1,_⟩ | ⟨w1,h1,h2⟩ | ⟨f,ag,w1,h1,_⟩
 ·cases Rm ho h1
 ·rcases h' with ⟨v,w2,g1,_⟩ | ⟨w2,g1,g2⟩ | ⟨f,ag,w2,g1,_⟩
  ·cases Rm ho g1
  ·rw [h1] at g1;cases g1;exact .inr (.inl ⟨w1,h1,h2,g2⟩)
  ·cases Rm ho g1
 ·cases Rm ho h1
theorem sn {t:TypeId}{x d:DV}{k:Nat}{h':DH}{vc:Prop}(hx:(∃ j,x= .ref k j)∨∃ m i j,x= .mp k m i j)(h:Nx P S t x d=some (h',vc)):k<S.h.length/\ ∃ h2,Nx P ⟨S.fr,FU (fun i=>i==k) S.h⟩ t x d=some (h2,vc):=by
 have key: ∀ {o:DO},S.h[k]? =some (some o) -> k<S.h.length/\ (FU (fun i=>i==k) S.h)[k]? =some (some o):=fun {o} ho=>by
  have hk:=(zAW.1 ho).1;exact ⟨hk,by rw [eH (by simp) hk];exact ho⟩
 unfold Nx at h ⊢;rcases hx with ⟨j,rfl⟩ | ⟨m,i,j,rfl⟩
 ·simp only at h ⊢;split at h
  ·rename_i l hl;obtain ⟨h1,h2⟩:=key hl;refine ⟨h1,?_⟩;simp only [h2]
   repeat' (split at h)
   all_goals first | (cases h;done) | skip
   cases h;rename_i q1 q2 q3;simp only [q1,q2,q3,zFV];exact ⟨_,rfl⟩
  ·cases h
 ·simp only at h ⊢;split at h
  ·rename_i Av;split at h
   ·rename_i l hl;obtain ⟨h1,h2⟩:=key hl;refine ⟨h1,?_⟩;simp only [h2,Av,zFV]
    repeat' (split at h)
    all_goals first | (cases h;done) | skip
    cases h;rename_i q1;simp only [q1,zFV];exact ⟨_,rfl⟩
   ·rename_i l hl;obtain ⟨h1,h2⟩:=key hl;refine ⟨h1,?_⟩;simp only [h2,Av,zFV]
    repeat' (split at h)
    all_goals first | (cases h;done) | skip
    cases h;rename_i q1;simp only [q1,zFV];exact ⟨_,rfl⟩
   ·rename_i m' n f hl;obtain ⟨h1,h2⟩:=key hl;refine ⟨h1,?_⟩;simp only [h2,Av,zFV]
    repeat' (split at h)
    all_goals first | (cases h;done) | skip
    cases h;rename_i q1;simp only [q1,zFV];exact ⟨_,rfl⟩
   ·cases h
  ·cases h
theorem BG.appendB {ρ':Operand -> Value}{o:Oper}{c:Call}{x y:Operand}{t t2:TypeId}(ho:o.op= .call c)(hc:c.callee= .builtin .append)(ha:c.args.toList= [x,y])(ht:c.argTypes.toList= [t,t2]){w:World}{G G':Value -> World -> Prop}(h:BG P (execOp ρ' o) w G)(h':BG P (execOp ρ' o) w G'):BG P (execOp ρ' o) w (fun v W=>G v W/\ G' v W):=by
 have hv: ∀ {nx:Next} {w':World},(execOp ρ' o).run P w= .ok nx w' -> ∃ v,nx= .value v:=fun he=>by
  rw [NS ho hc ha ht] at he;exact QL (f:=fun x=>x) he
 rcases h with ⟨v,w1,h1,g⟩ | ⟨w1,h1,_⟩ | ⟨f,ag,w1,h1,_⟩
 ·rcases h' with ⟨v',w2,h2,g'⟩ | ⟨w2,h2,_⟩ | ⟨f,ag,w2,h2,_⟩
  ·rw [h1] at h2;cases h2;exact .inl ⟨v,w1,h1,g,g'⟩
  ·obtain ⟨_,e⟩:=hv h2;cases e
  ·obtain ⟨_,e⟩:=hv h2;cases e
 ·obtain ⟨_,e⟩:=hv h1;cases e
 ·obtain ⟨_,e⟩:=hv h1;cases e
theorem Yi {p:Nat -> Bool}{h:DH}{k:Nat}(hp:p k=true):(FU p h)[k]? =h[k]? :=by
 by_cases hk:k<h.length
 ·exact eH hp hk
 ·rw [zCU (by rw [jm];omega),zCU (by omega)]
theorem zE0 {p:Nat -> Bool}{t:TypeId}{x y:DV}(hx: ∀ k∈IX x,p k=true)(hy: ∀ k∈IX y,p k=true):(SH P ⟨S.fr,FU p S.h⟩ t x y).map (·.2.2)=(SH P S t x y).map (·.2.2):=by
 have e1:LS ⟨S.fr,FU p S.h⟩ y=LS S y:=by
  cases y <;> try rfl
  rename_i k m off n;simp only [LS,Yi (h:=S.h) (hy k (by simp [IX]))]
 have e2:Po ⟨S.fr,FU p S.h⟩ y=Po S y:=by
  cases y <;> try rfl
  rename_i k m off n;simp only [Po,Yi (h:=S.h) (hy k (by simp [IX]))]
 have e3: ∀ m,Pe ⟨S.fr,FU p S.h⟩ m y=Pe S m y:=fun m=>by
  cases y <;> try rfl
  rename_i k m off n;simp only [Pe,Yi (h:=S.h) (hy k (by simp [IX]))]
 have ex: ∀ k m off n,x= .msl k m off n -> (FU p S.h)[k]? =S.h[k]? :=fun k m off n e=>Yi (hx k (by subst e;simp [IX]))
 unfold SH;cases Kl P t with
 | none=>rfl
 | some v=>
  obtain ⟨k,e,i,z⟩:=v;simp only
  by_cases hb:128<i.bytes
  ·simp only [hb,zFV]
  simp only [hb,zF2];cases k with
  | ints=>
   simp only [e1];cases LS S y with
   | none=>rfl
   | some v=>
    cases x <;> try rfl
    rename_i k m off n;simp only [ex k m off n rfl];cases S.h[k]? with
    | none=>rfl
    | some ob=>
     cases ob with
     | none=>rfl
     | some ob=>cases ob <;> first | rfl | (dsimp only;split <;> rfl)
  | bools=>
   simp only [e2];cases Po S y with
   | none=>rfl
   | some v=>
    cases x <;> try rfl
    rename_i k m off n;simp only [ex k m off n rfl];cases S.h[k]? with
    | none=>rfl
    | some ob=>
     cases ob with
     | none=>rfl
     | some ob=>cases ob <;> first | rfl | (dsimp only;split <;> rfl)
  | gen mm=>
   simp only [e3];cases Pe S mm y with
   | none=>rfl
   | some v=>
    cases x <;> try rfl
    rename_i k m off n;simp only [ex k m off n rfl];cases S.h[k]? with
    | none=>rfl
    | some ob=>
     cases ob with
     | none=>rfl
     | some ob=>cases ob <;> first | rfl | (dsimp only;split <;> rfl)
theorem zE1 (R:AP P Γ N S ρ a w){calls:List (DV×DH×Bool)}{o:Oper}{d:DV}{h':DH}{vs:List Prop}{ext:Bool}{Pn:List (DV×DH×Bool)}(h:Nf P Γ S calls o.op=some (d,h',vs,ext,Pn))(hv:BY vs){l:List Nat}(hl:ZR S o=some l){G:Value -> World -> Prop}(hG:BG P (execOp a.eval o) w G):
 BG P (execOp a.eval o) w (fun v w'=>G v w'/\ AN (fun b=>∃ k o q,k∈l/\ S.h[k]? =some (some o)/\ ρ[k]? =some q/\ q.foot b) w w'):=by
 unfold ZR at hl;split at hl
 rotate_left
 ·cases hl
 rename_i c ho;split at hl
 rotate_left
 ·cases hl
 rename_i hc;split at hl
 rotate_left
 ·cases hl
 rename_i x y ha;cases hl;rw [ho] at h;simp only [Nf,hc,ha] at h;split at h
 rotate_left
 ·cases h
 rename_i t t' ht;split at h
 rotate_left
 ·cases h
 rename_i KX;subst KX;split at h
 rotate_left
 ·cases h
 rename_i d1 h1 vc Lk;cases h;have RH:=zE0 (P:=P) (S:=S) (t:=t) (x:=AT S.fr x) (y:=AT S.fr y) (p:=fun k=>(IX (AT S.fr x)++IX (AT S.fr y)).contains k) (fun k hk=>by simp [hk]) (fun k hk=>by simp [hk]);rw [Lk] at RH;obtain ⟨⟨d2,h2,rn⟩,hs,Q4⟩:=zFc.1 RH;have Q4:rn=vc:=Q4;subst Q4;have D2:=qg (AP.sel R (fun k=>(IX (AT S.fr x)++IX (AT S.fr y)).contains k)) hs hv.1 o ho hc ha ht;rcases BG.appendB ho hc ha ht hG D2 with ⟨v,w1,h3,g1,g2⟩ | ⟨w1,h3,g1,g2⟩ | ⟨f,ag,w1,h3,BF⟩
 ·refine .inl ⟨v,w1,h3,g1,?_⟩;obtain ⟨ρ2,_,_,st,_⟩:=g2.ex;refine st.upd.mono fun b _ hb=>?_
  obtain ⟨i,o',q,q1,q2,q3⟩:=hb;exact ⟨i,o',q,by simpa using (NL q1).2,(NL q1).1,q2,q3⟩
 ·rw [NS ho hc ha ht] at h3;obtain ⟨_,e⟩:=QL (f:=fun x=>x) h3;cases e
 ·rw [NS ho hc ha ht] at h3;obtain ⟨_,e⟩:=QL (f:=fun x=>x) h3;cases e
theorem Z2 {o:Oper}{k:Nat}(h:MJ S o=some k): ∃ t x y,o.op= .store t x y/\ ((∃ j,AT S.fr x= .ref k j)∨∃ m i j,AT S.fr x= .mp k m i j):=by
 unfold MJ at h;split at h
 ·rename_i t x y ho;refine ⟨t,x,y,ho,?_⟩;split at h
  ·rename_i j e;cases h;exact .inl ⟨j,e⟩
  ·rename_i m i j e;cases h;exact .inr ⟨m,i,j,e⟩
  ·cases h
 ·cases h
theorem zFS {calls:List (DV×DH×Bool)}{o:Oper}{t:TypeId}{x y:Operand}(ho:o.op= .store t x y){d:DV}{h':DH}{vs:List Prop}{ext:Bool}{Pn:List (DV×DH×Bool)}(h:Nf P Γ S calls o.op=some (d,h',vs,ext,Pn)): ∃ vc,Nx P S t (AT S.fr x) (AT S.fr y)=some (h',vc)/\ vs= [vc]:=by
 rw [ho] at h;simp only [Nf] at h;split at h
 ·rename_i h1 vc hs;cases h;exact ⟨vc,hs,rfl⟩
 ·cases h
theorem zFT (R:AP P Γ N S ρ a w){calls:List (DV×DH×Bool)}{o:Oper}{d:DV}{h':DH}{vs:List Prop}{ext:Bool}{Pn:List (DV×DH×Bool)}(h:Nf P Γ S calls o.op=some (d,h',vs,ext,Pn))(hv:BY vs):
 BG P (execOp a.eval o) w (fun v w'=>B1 P Γ N S.h ρ w ext d h' v w'/\ ∀ k,MJ S o=some k -> AN (fun b=>∃ q,ρ[k]? =some q/\ q.foot b) w w'):=by
 cases hst:MJ S o with
 | none=>
  have D:=f5 R h hv;rcases D with ⟨v,w1,h1,h2⟩ | ⟨w1,h1,h2⟩ | ⟨f,ag,w1,h1,h2⟩
  ·exact .inl ⟨v,w1,h1,h2,fun k hk=>by cases hk⟩
  ·exact .inr (.inl ⟨w1,h1,h2,fun k hk=>by cases hk⟩)
  ·exact .inr (.inr ⟨f,ag,w1,h1,h2.mono fun e Bu ⟨v,e1,e2⟩=>⟨v,e1,e2,fun k hk=>by cases hk⟩⟩)
 | some k=>
  obtain ⟨t,x,y,ho,hx⟩:=Z2 hst;have D:=f5 R h hv;obtain ⟨vc,hs,rfl⟩:=zFS ho h;obtain ⟨_,h2,JT⟩:=sn hx hs;have D2:=jC (AP.sel R (fun i=>i==k)) (tx:=x) (x:=y) JT hv.1 o ho;have D3:=BG.store ho D D2;rcases D3 with ⟨v,w1,h1,g1,g2⟩ | ⟨w1,h1,g1,g2⟩ | ⟨f,ag,w1,h1,_⟩
  ·cases Rm ho h1
  ·refine .inr (.inl ⟨w1,h1,g1,fun k' Cz=>?_⟩);cases Cz;obtain ⟨ρ2,_,_,st,_⟩:=g2.ex;refine st.upd.mono fun b _ hb=>?_
   obtain ⟨i,o',q,q1,q2,q3⟩:=hb;have:=(NL q1).2;have e:i=k:=by simpa using this
   subst e;exact ⟨q,q2,q3⟩
  ·cases Rm ho h1
theorem zEw {F:Fence}(hF:Dg F P)(R:AP P Γ N S ρ a w){ops:Array Oper}{Aa:BI}{o:Oper}(hd: ∀ c,o.op≠.defer c){S':St}{vs:List Prop}{ext:Bool}{B6:BI}(h:Pu P Γ ops S Aa o=some (S',vs,ext,B6))(hv:BY vs) 
 {K:Act -> World -> Prop} {Q:Exit -> Act -> World -> Prop} (hK: ∀ ρ' a' w',AP P Γ N S' ρ' a' w' -> C2 S.h ρ w S'.h ρ' w' -> a'.defers=a.defers -> (ext=true -> Am w w') -> (∀ k,MJ S o=some k -> AN (fun b=>∃ q,ρ[k]? =some q/\ q.foot b) w w') -> (∀ l,SI P S Aa.fz o=some l -> AN (fun b=>∃ k o q,k∈l/\ S.h[k]? =some (some o)/\ ρ[k]? =some q/\ q.foot b) w w') -> K a' w'):
 if Region.wanted o (yielded ops a.tmps) then o.wpIn F 0 P a w K Q else (∀ f,o.about P w a.eval=some f -> F.fn f)/\ K (a.put o.dst undef) w:=by
 have CX: ∀ v,(a.put o.dst v).defers=a.defers:=fun v=>by cases ho:o.dst <;> simp [Act.put]
 unfold Pu at h;split at h
 ·cases h
 ·rename_i hw;cases h;rw [zAY (by rw [IJ R hw];exact zGJ)];exact ⟨fun f _=>hF.fn f,hK ρ _ _ (Gl R _ WJ) (C2.refl _ _ _) (CX _) (fun _=>Am.refl w) (fun _ _=>AN.refl _ _) fun _ _=>AN.refl _ _⟩
 ·rename_i hw;rw [zAA (IJ R hw)];split at h
  ·rename_i S1 C9 fz1 hM;cases h;refine Km hF hd (kA R hM hv) fun v w' ⟨⟨ρ',g1,g2⟩,hst⟩=>hK ρ' _ _ g1 g2 (CX v) (fun e=>by cases e) (fun k' Cz=>?_) fun l hl=>?_
   obtain ⟨t0,x0,y0,RA,_⟩:=Z2 Cz;rcases hst with hst | ⟨k,i,p,t,x,y,q1,q2,q3,q4⟩
   ·exact absurd RA (hst t0 x0 y0)
   have e:k'=k:=by
    unfold MJ at Cz;rw [q1] at Cz;simp only [q2] at Cz;exact (zAV Cz).symm
   subst e;exact q4.mono fun b _ hb=>⟨p,q3,hb⟩
   unfold SI at hl;rw [hM] at hl;cases hl
  split at h
  ·rename_i S1 C9 hM;cases h;refine Km hF hd (jB R hM hv) fun v w' ⟨⟨ρ',g1,g2⟩,hst⟩=>hK ρ' _ _ g1 g2 (CX v) (fun e=>by cases e) (fun k' Cz=>?_) fun l hl=>?_
   obtain ⟨t0,x0,y0,RA,_⟩:=Z2 Cz;rcases hst with hst | ⟨k,i,p,t,x,y,q1,q2,q3,q4⟩
   ·exact absurd RA (hst t0 x0 y0)
   have e:k'=k:=by
    unfold MJ at Cz;rw [q1] at Cz;simp only [q2] at Cz;exact (zAV Cz).symm
   subst e;exact q4.mono fun b _ hb=>⟨p,q3,hb⟩
   unfold SI at hl;rw [hM] at hl;split at hl
   ·rename_i hx;cases hx
   ·cases hl
  split at h
  ·cases h
  ·rename_i d h1 C9 ext1 calls YY;split at h;rename_i d' Bg Dd ND;split at h
   ·cases h
   ·rename_i S2 QK Kj HI;cases h;obtain ⟨Bb,Ud⟩:=DE.1 hv;obtain ⟨CG,Ik⟩:=DE.1 Ud;have D:=zFT R YY Bb;cases Lk:ZR S o with
    | none=>
     refine Km hF hd D fun v w' G=>?_
     obtain ⟨ρ',g1,g2⟩:=NK R o.dst G.1 (d':=d') fun M ρ' hr=>Vj ND CG hr
     obtain ⟨g3,g4⟩:=VC _ HI Ik P Γ N ρ' _ _ g1;refine hK ρ' _ _ g3 (g2.trans ⟨g4,fun _ _ h=>h⟩) (CX v) G.1.ext G.2 fun l hl=>?_
     unfold SI at hl;split at hl
     ·rw [Lk] at hl;cases hl
     ·cases hl
    | some l0=>
     refine Km hF hd (zE1 R YY Bb Lk D) fun v w' G=>?_
     obtain ⟨ρ',g1,g2⟩:=NK R o.dst G.1.1 (d':=d') fun M ρ' hr=>Vj ND CG hr
     obtain ⟨g3,g4⟩:=VC _ HI Ik P Γ N ρ' _ _ g1;refine hK ρ' _ _ g3 (g2.trans ⟨g4,fun _ _ h=>h⟩) (CX v) G.1.1.ext G.1.2 fun l hl=>?_
     unfold SI at hl;split at hl
     ·rw [Lk] at hl;cases hl;exact G.2
     ·cases hl
theorem g9 {F:Fence}(hF:Dg F P){ops:Array Oper}(As:Cu ops=true)(hs:Region.noSelect ops=true){early:List Nat}{xs:List (Nat×Nat)}{nw:List Nat}{L0:Nat}{S':St}{Q:Exit -> Act -> World -> Prop}:
 ∀ (t:ST) (m:Nat) (L:Array Bool) {S:St} {ρ:List AE} {a:Act} {w:World} {vs:List Prop} {Aa B6:BI},Ge ops L -> AP P Γ N S ρ a w -> MG P Γ ops early xs nw L0 S' t S Aa=some (vs,B6) -> BY vs ->
 (∀ ρ' a' w',AP P Γ N S' ρ' a' w' -> Ap S.h ρ w S'.h ρ' w' -> (∀ k p,k<L0 -> ρ[k]? =some p -> ρ'[k]? =some p) -> a'.defers=a.defers -> Q .normal a' w') ->
 (EZ ops early false m t L=true -> WD F 0 P ops (NP Q) (RZ ops (fun j=>early.contains j) (fun j=>Zs (Jz xs nw j) S.h ρ w)) m L a w)/\
 (EZ ops early true m t L=true -> ∀ i∈V1 t,i∈Region.ready .any ops L -> ∃ m',m=m'+1/\ wpOpIn F 0 P ops (NP Q) i (fun a' w'=>RZ ops (fun j=>early.contains j) (fun j=>Zs (Jz xs nw j) S.h ρ w) i w w'/\ WD F 0 P ops (NP Q) (RZ ops (fun j=>early.contains j) (fun j=>Zs (Jz xs nw j) S.h ρ w)) m' (L.setIfInBounds i true) a' w') a w):=by
 intro t
 induction t with
 | no=>
  intro m L S ρ a w vs Aa bB BF R hV hv hQ;exact ⟨fun h=>by cases m <;> simp [EZ] at h,fun _ i hi=>by cases hi⟩
 | fin π live=>
  intro m L S ρ a w vs Aa bB BF R hV hv hQ;refine ⟨fun h=>?_,fun h=>by cases m <;> simp [EZ] at h⟩;cases m with
  | succ m=>simp [EZ] at h
  | zero=>
   simp only [EZ,zAX,zBf] at h;refine rM h ?_;simp only [MG] at hV;split at hV
   ·rename_i hσ;cases hV;simp only [jX,zAO,zCJ,zAX,zBf] at hσ;obtain ⟨ρ0,R0,Eo,k0⟩:=At.forget (L:=L0) live S.fr S.h P Γ N ρ a w R;obtain ⟨ρ',R',Eb,k'⟩:=At.compact (L:=L0) (Wb π L0) ⟨forget live S.fr,S.h⟩ hσ.1.1 (fun k hk=>hσ.1.2 k hk) (fun k hk=>hσ.2 k hk) P Γ N ρ0 a w R0;have st:=Eo.trans Eb;have e:Fi (Wb π L0) ⟨forget live S.fr,S.h⟩=S':=hv.1;rw [e] at R' st Eb;exact hQ ρ' a w R' st (fun k p hk hp=>k' k p hk (k0 k p hk hp)) rfl
   ·cases hV
 | rd i t ih=>
  intro m L S ρ a w vs Aa bB BF R hV hv hQ;refine ⟨fun h=>?_,fun h=>by cases m <;> simp [EZ] at h⟩;cases m with
  | zero=>simp [EZ] at h
  | succ m=>
   simp only [EZ,zAO] at h;simp only [MG] at hV;split at hV
   ·cases hV
   ·rename_i o ho
    ·split at hV
     ·cases hV
     ·rename_i S1 C9 Vl hp;split at hV
      ·cases hV
      ·rename_i E4 GL h2;cases hV;obtain ⟨Bb,CG⟩:=DE.1 hv;have RK:=AP.sel R (fun k=>!(MA ops xs nw i).contains k);obtain ⟨e1,hst⟩:=XA RK hp Bb;have CX: ∀ v,(a.put o.dst v).defers=a.defers:=fun v=>by cases ho:o.dst <;> simp [Act.put]
       have RC:(Region.ready .any ops L).contains i=true:=by
        have:=h.1;simp only [W5,zAO] at this;exact this.1.1.1
       have back: ∀ v,A0 (MS (fun b=>N b∨∃ k o q,(!(MA ops xs nw i).contains k)=false/\ S.h[k]? =some (some o)/\ ρ[k]? =some q/\ q.foot b) S1.h ρ) w ρ S1.fr (a.put o.dst v).tmps -> AP P Γ N ⟨S1.fr,S.h⟩ ρ (a.put o.dst v) w:=fun v hr=>by
        rw [e1] at hr;exact AP.unsel (p:=fun k=>!(MA ops xs nw i).contains k) R.hr hr
       have hZ: ∀ j,Fn ops ops.size j i=false -> ∀ b,Zs (Jz xs nw j) S.h ρ w b -> Zs (MA ops xs nw i) S.h ρ w b:=by
        rintro j hj b (⟨k,ob,q,k1,k0,k2,k3⟩ | hb)
        ·refine .inl ⟨k,ob,q,?_,k0,k2,k3⟩;unfold Jz at k1;unfold MA;rcases zB3.1 k1 with k1 | k1
         ·obtain ⟨p,p1,p2⟩:=zDi.1 k1;obtain ⟨p3,p4⟩:=zGB.1 p1;have:p.1=j:=by simpa using p4
          exact zB3.2 (.inl (zDi.2 ⟨p,zGB.2 ⟨p3,by rw [this,hj];rfl⟩,p2⟩))
         ·exact zB3.2 (.inr k1)
        ·exact .inr hb
       rcases hst with ⟨hw,v,g1,g2⟩ | ⟨hw,g2⟩
       ·refine km (Zi:=Zs (MA ops xs nw i) S.h ρ w) hF.fn As hs (fun c a d v w h=>NP.put c a d v w h) ho BF h.1 hZ (fun _ _ h=>by cases h) (.inl ⟨hw,fun W hu=>g1 W (zI hu)⟩) ?_;exact (ih m _ (fH BF RC) (back v g2.fr) h2 CG fun ρ' a' w' q1 q2 q3 q4=>hQ ρ' a' w' q1 q2 q3 (q4.trans (CX v))).1 h.2
       ·refine km (Zi:=Zs (MA ops xs nw i) S.h ρ w) hF.fn As hs (v:=undef) (fun c a d v w h=>NP.put c a d v w h) ho BF h.1 hZ (fun _ _ h=>by cases h) (.inr ⟨hw,rfl⟩) ?_;exact (ih m _ (fH BF RC) (back undef g2.fr) h2 CG fun ρ' a' w' q1 q2 q3 q4=>hQ ρ' a' w' q1 q2 q3 (q4.trans (CX undef))).1 h.2
 | ef i t IA cG cF=>
  intro m L S ρ a w vs Aa bB BF R hV hv hQ;simp only [MG] at hV;split at hV
  ·cases hV
  ·rename_i o ho;split at hV
   ·cases hV
   ·rename_i S1 C9 ext GM h1;split at hV
    ·rename_i YU;simp only [pV,zAO,zCL] at YU;obtain ⟨zBu,zCD⟩:=YU;split at hV
     ·cases hV
     rename_i E4 GL h2;split at hV
     ·cases hV
     ·rename_i Nr LJ h3;cases hV;obtain ⟨Bb,Dv⟩:=DE.1 hv;obtain ⟨CG,Ik⟩:=DE.1 Dv;have A:=cF m L BF R h3 Ik hQ
      have one: ∀ b,EZ ops early b m (.ef i t IA) L=true -> (Region.ready .any ops L).contains i=true -> ∃ m',m=m'+1/\ EZ ops early true m IA L=true/\ wpOpIn F 0 P ops (NP Q) i (fun a' w'=>RZ ops (fun j=>early.contains j) (fun j=>Zs (Jz xs nw j) S.h ρ w) i w w'/\ WD F 0 P ops (NP Q) (RZ ops (fun j=>early.contains j) (fun j=>Zs (Jz xs nw j) S.h ρ w)) m' (L.setIfInBounds i true) a' w') a w:=by
       intro b hb hr;cases m with
       | zero=>cases b <;> simp [EZ] at hb
       | succ m=>
        have DQ:(!Tv ops i)=true/\ EZ ops early false m t (L.setIfInBounds i true)=true/\ EZ ops early true (m+1) IA L=true:=by
         cases b <;> simp only [EZ,zAO] at hb <;> exact ⟨hb.1.1.2,hb.1.2,hb.2⟩
        obtain ⟨b1,b2,b3⟩:=DQ;refine ⟨m,rfl,b3,?_⟩;unfold wpOpIn;simp only [ho];refine zEw hF R (Hc As ho) h1 Bb fun ρ' a' w' R' st Db Kf zAG zCP=>?_
        refine ⟨⟨fun hp=>(by rw [hp] at b1;cases b1),fun he=>?_⟩,?_⟩
        ·rcases zCD with ((h | h) | h) | h
         ·have he:early.contains i=true:=he;rw [he] at h;cases h
         ·exact AN.ofExt (Kf h)
         ·split at h
          ·rename_i k hk;rw [zAO] at h;refine (zAG k hk).mono fun b _ hb=>?_
           obtain ⟨q,q1,q2⟩:=hb;cases hg:S.h.getD k none with
           | none=>rw [hg] at h;cases h.2
           | some ob=>exact .inl ⟨k,ob,q,by simpa using h.1,getD_some hg,q1,q2⟩
          ·cases h
         ·split at h
          ·rename_i l hl;refine (zCP l hl).mono fun b _ hb=>?_
           obtain ⟨k,ob,q,q0,q1,q2,q3⟩:=hb;exact .inl ⟨k,ob,q,by simpa using zAX.1 h k q0,q1,q2,q3⟩
          ·cases h
        ·have T:=(cG m _ (fH BF hr) R' h2 CG fun ρ2 a2 w2 q1 q2 q3 q4=>hQ ρ2 a2 w2 q1 (st.st.trans q2) (fun k p hk hp=>q3 k p hk (st.pl k p hp)) (q4.trans Db)).1 b2;refine gN (fun j w1 w2 hR=>⟨hR.1,fun he=>(hR.2 he).mono fun b Iu hb=>?_⟩) _ _ _ _ T;rcases hb with ⟨k,ob,q,k1,k0,k2,k3⟩ | hb
         ·rcases st.st.grow b ⟨k,ob,q,k0,k2,k3⟩ with ⟨i2,o2,p2,g1,g2,g3⟩ | h
          ·by_cases B8:i2∈Jz xs nw j
           ·exact .inl ⟨i2,o2,p2,B8,g1,g2,g3⟩
           ·exfalso
            have In:=(zAW.1 g1).1;have Ii:=zAX.1 zBu i2 (zBf.2 In);have e2:S.h.getD i2 none=some o2:=by rw [u8,g1];rfl
            have dL:nw.contains i2=false:=zGQ.2 fun h=>B8 (zB3.2 (.inr (by simpa using h)))
            rw [e2,dL] at Ii;cases ns:S1.h.getD i2 none with
            | none=>rw [ns] at Ii;cases Ii
            | some xZ=>exact R'.hr.dis i2 k xZ ob p2 q b (fun e=>B8 (e▸k1)) (getD_some ns) k0 (st.pl i2 p2 g2) k2 g3 k3
          ·exact .inr h
         ·exact .inr (zAa st.st.upd.size hb)
      refine ⟨fun h=>?_,fun h j hj hr=>?_⟩
      ·have RC:Region.ready .any ops L=i::V1 IA:=by
        cases m <;> simp only [EZ,zAO,zCL,zCR,V1,zCZ,false_or] at h;exact h.1.1.1
       obtain ⟨m',e,ha,hw⟩:=one false h (by rw [RC];simp);subst e;refine ⟨by rw [RC];simp,fun j hj=>?_⟩;have Hg:=hj;rw [RC] at hj;rcases zCC.1 hj with rfl | hj
       ·exact hw
       ·obtain ⟨m2,e2,Ub⟩:=A.2 ha j hj Hg;cases e2;exact Ub
      ·rcases zCC.1 hj with rfl | hj
       ·obtain ⟨m',e,ha,hw⟩:=one true h (by simpa using hr);exact ⟨m',e,hw⟩
       ·have ha:EZ ops early true m IA L=true:=by
         cases m <;> simp only [EZ,zAO] at h
         ·cases h
         ·exact h.2
        exact A.2 ha j hj hr
    ·cases hV
theorem Tr.tree {F:Fence}{B:Option Nat}{L:Nat}{Y:BB P Γ L}{Q:QY P Γ L}(hF:Dg F P){id:Nat}{ops:Array Oper}{early:List Nat}{t:ST}{Aa B6:BI}{S':St}{vs:List Prop}(hm:P.follows .mixedOrders=true)(hB:Bs ops early t) 
 (h:Sn P Γ ops early t S Aa=some (S',vs,B6)) (hv:BY vs) (hk:Q .normal S' Y):Tr P Γ F B L Y (.region id ops true) S Q:=fun N ρ a w R y m b=>by
 simp only [Bs,zAO] at hB;obtain ⟨⟨h1,h2⟩,h3⟩:=hB;unfold Sn at h;split at h
 ·cases h
 split at h
 ·cases h
 ·rename_i hV;cases h;have hE:Am w w.drew:=Am.toDrew w;refine gR (gQ hm (zF6 _) ((g9 hF h3 h2 t ops.size _ po (R.ext hE) hV hv fun ρ' a' w' R' st Uo Db=>?_).1 h1));have Eb:Ap S.h ρ w S'.h ρ' w':=(Ap.ext hE).trans st;exact Tr.done R y m b hk R' Eb (fun k p _ hp=>Uo k p (by rw [←R.hr.len];exact (zAW.1 hp).1) hp) Db
end
abbrev zFw:=@Go.wpIn_region_list
abbrev zGo:=@Go.IntKind.wrap_i64
inductive KI where
 | code (c:Code)
 | blk (id:Nat)
 | scp
 | lend (J:St -> Prop)
 | loopN (m:Nat) (b:Code)
def HP (P:Program)(Γ:Aj)(F:Fence)(B:Option Nat)(L:Nat)(b:Code)(Q:QY P Γ L):Nat -> St -> BB P Γ L -> Prop
 | 0,_,_=>False
 | m+1,S,Y=>Tr P Γ F B L Y b S (QS (HP P Γ F B L b Q m) Q)
theorem HP.loop {P:Program}{Γ:Aj}{F:Fence}{B:Option Nat}{L:Nat}{Y:BB P Γ L}{b:Code}{Q:QY P Γ L}{m:Nat}{S:St}(h:HP P Γ F B L b Q m S Y):Tr P Γ F B L Y (.loop b) S Q:=by
 refine Tr.loop (fun m S Y=>HP P Γ F B L b Q m S Y) m h fun m S Y hm=>?_
 cases m with
 | zero=>exact hm.elim
 | succ m=>
  refine Tr.mono hm fun e S' Y' hq=>?_
  cases e with
  | normal=>exact ⟨m,Nat.lt_succ_self m,hq⟩
  | _=>exact hq
def A6 (P:Program)(Γ:Aj)(F:Fence)(B:Option Nat)(L:Nat)(Q:QY P Γ L):List KI -> QY P Γ L
 | [],e,S,Y=>Q e S Y
 | .code c::k,e,S,Y=>match e with
  | .normal=>Tr P Γ F B L Y c S (A6 P Γ F B L Q k)
  | e=>A6 P Γ F B L Q k e S Y
 | .blk id::k,e,S,Y=>match e with
  | .exit i=>if i=id then A6 P Γ F B L Q k .normal S Y else A6 P Γ F B L Q k (.exit i) S Y
  | e=>A6 P Γ F B L Q k e S Y
 | .scp::k,e,S,Y=>match e with
  | .goto _=>False
  | e=>A6 P Γ F B L Q k e S Y
 | .lend J::k,e,S,Y=>match e with
  | .normal=>J S
  | e=>A6 P Γ F B L Q k e S Y
 | .loopN m b::k,e,S,Y=>match e with
  | .normal=>HP P Γ F B L b (A6 P Γ F B L Q k) m S Y
  | e=>A6 P Γ F B L Q k e S Y
def An (P:Program)(Γ:Aj)(F:Fence)(B:Option Nat)(L:Nat)(Y:BB P Γ L)(Q:QY P Γ L)(k:List KI)(S:St):Prop:=A6 P Γ F B L Q k .normal S Y
def stay {P:Program}{Γ:Aj}{L:Nat}(N:BB P Γ L)(Q:Exit -> St -> Prop):QY P Γ L:=fun e S Y=>Y=N/\ Q e S
abbrev BU (P:Program)(Γ:Aj)(F:Fence)(B:Option Nat)(L:Nat)(N:BB P Γ L)(Q:Exit -> St -> Prop)(k:List KI)(S:St):Prop:=An P Γ F B L N (stay N Q) k S
def JO (id:Nat):List KI -> Option (List KI)
 | []=>none
 | .blk i::k=>if id=i then some k else JO id k
 | _::k=>JO id k
inductive gA where
 | no
 | ord (st:List (List Nat×Nat)) (la ta:List Nat)
 | stop
 | tre (early:List Nat) (t:ST)
abbrev Bi:=Nat -> gA
def gA.isStop:gA -> Bool
 | .stop=>true
 | _=>false
def AX (i:Nat)(s:Bi):Bi:=fun j=>if j=i then .stop else s j
def Az (ops:Array Oper)(Dj:List (List Nat×Nat))(BV tail:List Nat):Prop:=(aD ops Dj BV tail&&Cu ops&&tail.all fun t=>decide (t<ops.size))=true
inductive KO where
 | at (k:List KI)
 | ret
def B7 (P:Program)(Γ:Aj)(A1:Bi):Nat -> List KI -> St -> BI -> Option (KO×St×List Prop×BI)
 | 0,_,_,_=>none
 | n+1,k,S,o=>match k with
  | []=>some (.at [],S,[],o)
  | .blk _::k=>B7 P Γ A1 n k S o
  | .scp::k=>B7 P Γ A1 n k S o
  | .lend J::k=>some (.at (.lend J::k),S,[],o)
  | .loopN m b::k=>some (.at (.loopN m b::k),S,[],o)
  | .code c::k=>match c with
   | .skip=>B7 P Γ A1 n k S o
   | .seq a b=>B7 P Γ A1 n (.code a:: .code b::k) S o
   | .block id b=>B7 P Γ A1 n (.code b:: .blk id::k) S o
   | .scope b=>B7 P Γ A1 n (.code b:: .scp::k) S o
   | .label _=>B7 P Γ A1 n k S o
   | .exit id=>match JO id k with
    | some k'=>B7 P Γ A1 n k' S o
    | none=>some (.at (.code (.exit id)::k),S,[],o)
   | .ret=>some (.ret,S,[],o)
   | .cond x a b=>match AT S.fr x with
    | .bool true=>B7 P Γ A1 n (.code a::k) S o
    | .bool false=>B7 P Γ A1 n (.code b::k) S o
    | _=>none
   | .region id ops dr=>if (A1 id).isStop then some (.at (.code (.region id ops dr)::k),S,[],o) else match dr with
    | false=>if Cu ops then match Dy P Γ ops ops.toList S o with
     | none=>none
     | some (S',vs,o')=>match B7 P Γ A1 n k S' o' with
      | none=>none
      | some (r,CJ,Bg,UA)=>some (r,CJ,vs++Bg,UA)
     else none
    | true=>match A1 id with
     | .no=>none
     | .stop=>none
     | .tre early t=>match Sn P Γ ops early t S o with
      | none=>none
      | some (S',vs,o')=>match B7 P Γ A1 n k S' o' with
       | none=>none
       | some (r,CJ,Bg,UA)=>some (r,CJ,Bs ops early t::(vs++Bg),UA)
     | .ord st la ta=>match hseq P Γ ops S.h st la ta S o with
      | none=>none
      | some (S',vs,o')=>match B7 P Γ A1 n k S' o' with
       | none=>none
       | some (r,CJ,Bg,UA)=>some (r,CJ,Az ops st la ta::(vs++Bg),UA)
   | c=>some (.at (.code c::k),S,[],o)
section
variable {P:Program} {Γ:Aj} {F:Fence} {B:Option Nat} {L:Nat} {Y:BB P Γ L} {Q:QY P Γ L}
theorem zCr (hF:Dg F P){S:St}{id:Nat}{ops:Array Oper}{Aa B6:BI}{S':St}{vs:List Prop}{Q:QY P Γ L}(As:Cu ops=true)(h:Dy P Γ ops ops.toList S Aa=some (S',vs,B6))(hv:BY vs)(hk:Q .normal S' Y):Tr P Γ F B L Y (.region id ops false) S Q:=fun N ρ a w R y m b=>
 zFw (Ki hF As _ (fun o ho=>by simpa using ho) R h hv fun ρ' a' w' R' st Db=>Tr.done R y m b hk R' st.st (fun k p _ hp=>st.pl k p hp) Db)
theorem zAM (hF:Dg F P){S:St}{id:Nat}{ops:Array Oper}{Dj:List (List Nat×Nat)}{BV tail:List Nat}{Aa B6:BI}{S':St}{vs:List Prop}{Q:QY P Γ L}(hm:P.follows .mixedOrders=true)(hB:Az ops Dj BV tail) 
 (h:hseq P Γ ops S.h Dj BV tail S Aa=some (S',vs,B6)) (hv:BY vs) (hk:Q .normal S' Y):Tr P Γ F B L Y (.region id ops true) S Q:=fun N ρ a w R y m b=>by
 simp only [Az,zAO] at hB;obtain ⟨⟨h1,h2⟩,h3⟩:=hB;have hE:Am w w.drew:=Am.toDrew w;refine rQ hF.fn Dj BV tail hm (by simp only [zAO];exact ⟨h1,h2⟩) (zAN hF h2 Dj BV tail h3 (R.ext hE) (C2.refl _ _ _) (Am.refl _) h hv fun ρ' a' w' R' st Db=>?_);have Eb:Ap S.h ρ w S'.h ρ' w':=(Ap.ext hE).trans st.st;exact Tr.done R y m b hk R' Eb (fun k p _ hp=>st.pl k p hp) Db
theorem OS {id:Nat}{S:St}: ∀ {k k':List KI},JO id k=some k' -> A6 P Γ F B L Q k' .normal S Y -> A6 P Γ F B L Q k (.exit id) S Y
 | [],_,h,_=>by cases h
 | .blk i::k,k',h,hq=>by
  unfold JO at h;split at h
  ·rename_i e;cases h;subst e
   show (if id=id then _ else _)
   rw [zAA rfl];exact hq
  ·rename_i e
   show (if id=i then _ else _)
   rw [zAY e];exact OS h hq
 | .code c::k,k',h,hq=>OS (k:=k) h hq
 | .lend J::k,k',h,hq=>OS (k:=k) h hq
 | .scp::k,k',h,hq=>OS (k:=k) h hq
 | .loopN m b::k,k',h,hq=>OS (k:=k) h hq
theorem Md {S:St}(h:Q .ret S Y): ∀ (k:List KI),A6 P Γ F B L Q k .ret S Y
 | []=>h
 | .blk _::k=>Md h k
 | .code _::k=>Md h k
 | .lend _::k=>Md h k
 | .scp::k=>Md h k
 | .loopN _ _::k=>Md h k
def KOk (P:Program)(Γ:Aj)(F:Fence)(B:Option Nat)(L:Nat)(Y:BB P Γ L)(Q:QY P Γ L):KO -> St -> Prop
 | .at k,S=>An P Γ F B L Y Q k S
 | .ret,S=>Q .ret S Y
theorem Fd (hF:Dg F P)(hm:P.follows .mixedOrders=true){A1:Bi}: ∀ (n:Nat) (k:List KI) (S:St) (o:BI) (r:KO) (S':St) (vs:List Prop) (o':BI),B7 P Γ A1 n k S o=some (r,S',vs,o') -> BY vs -> KOk P Γ F B L Y Q r S' -> An P Γ F B L Y Q k S
 | 0,_,_,_,_,_,_,_,h,_,_=>by cases h
 | n+1,k,S,o,r,S',vs,o',h,hv,hk=>by
  unfold B7 at h;cases k with
  | nil=>cases h;exact hk
  | cons i k=>
   cases i with
   | blk id=>exact Fd hF hm n k S o r S' vs o' h hv hk
   | scp=>exact Fd hF hm n k S o r S' vs o' h hv hk
   | lend J=>cases h;exact hk
   | loopN m b=>cases h;exact hk
   | code c=>
    show Tr P Γ F B L Y c S (A6 P Γ F B L Q k)
    cases c with
    | skip=>exact Tr.skip (Fd hF hm n k S o r S' vs o' h hv hk)
    | seq a b=>
     refine Tr.seq (Tr.mono (Fd hF hm n (.code a:: .code b::k) S o r S' vs o' h hv hk) fun e S2 Y2 hq=>?_);cases e <;> exact hq
    | block id b=>
     refine Tr.block (Tr.mono (Fd hF hm n (.code b:: .blk id::k) S o r S' vs o' h hv hk) fun e S2 Y2 hq=>?_);cases e <;> exact hq
    | exit id=>
     simp only at h;split at h
     ·rename_i k' hp;exact Tr.exit (OS hp (Fd hF hm n k' S o r S' vs o' h hv hk))
     ·cases h;exact hk
    | ret=>cases h;exact Tr.ret (Md hk k)
    | cond x a b=>
     simp only at h;split at h
     ·rename_i hc;exact Tr.cond hc (fun _=>Fd hF hm n (.code a::k) S o r S' vs o' h hv hk) (fun e=>by cases e)
     ·rename_i hc;exact Tr.cond hc (fun e=>by cases e) (fun _=>Fd hF hm n (.code b::k) S o r S' vs o' h hv hk)
     ·cases h
    | region id ops dr=>
     simp only at h;split at h
     ·cases h;exact hk
     ·cases dr with
      | false=>
       simp only at h;split at h
       ·rename_i As;split at h
        ·cases h
        ·rename_i S1 C9 o1 h1;split at h
         ·cases h
         ·rename_i r2 S2 E4 o2 h2;cases h;obtain ⟨Bb,CG⟩:=DE.1 hv;exact zCr hF As h1 Bb (Fd hF hm n k S1 o1 _ _ _ _ h2 CG hk)
       ·cases h
      | true=>
       simp only at h;split at h
       ·cases h
       ·cases h
       ·rename_i early t hs;split at h
        ·cases h
        ·rename_i S1 C9 o1 h1;split at h
         ·cases h
         ·rename_i r2 S2 E4 o2 h2;cases h;obtain ⟨Il,Dv⟩:=hv;obtain ⟨Bb,CG⟩:=DE.1 Dv;exact Tr.tree hF hm Il h1 Bb (Fd hF hm n k S1 o1 _ _ _ _ h2 CG hk)
       ·rename_i st la ta hs;split at h
        ·cases h
        ·rename_i S1 C9 o1 h1;split at h
         ·cases h
         ·rename_i r2 S2 E4 o2 h2;cases h;obtain ⟨Il,Dv⟩:=hv;obtain ⟨Bb,CG⟩:=DE.1 Dv;exact zAM hF hm Il h1 Bb (Fd hF hm n k S1 o1 _ _ _ _ h2 CG hk)
    | loop b=>cases h;exact hk
    | rangeFunc f ps Pv bd=>cases h;exact hk
    | scope b=>
     refine Tr.scope (Tr.mono (Fd hF hm n (.code b:: .scp::k) S o r S' vs o' h hv hk) fun e S2 Y2 hq=>?_);cases e <;> exact hq
    | label l=>exact Tr.label (Fd hF hm n k S o r S' vs o' h hv hk)
    | goto l=>cases h;exact hk
    | refuse w=>cases h;exact hk
theorem An.weaken {k:List KI}{S S':St}(hS:At L S S')(h:An P Γ F B L Y Q k S')(hk: ∃ c k',k= .code c::k'):An P Γ F B L Y Q k S:=by
 obtain ⟨c,k',rfl⟩:=hk;exact Tr.weaken hS h
def Oz:List KI -> Bool
 | .code (.loop _)::_=>true
 | _=>false
def EG (k:List KI):List KI:=match k with
 | _::rest=>rest
 | []=>[]
def NQ (id:Nat):List Nat -> Code -> List KI -> Option (List KI)
 | ms,.seq a b,k=>match NQ id ms a (.code b::k) with
  | some r=>some r
  | none=>NQ id ms b k
 | ms,.cond _ a b,k=>match NQ id ms a k with
  | some r=>some r
  | none=>NQ id ms b k
 | ms,.block i c,k=>if i=id then some (.code c:: .blk i::k) else NQ id ms c (.blk i::k)
 | ms,.scope c,k=>NQ id ms c (.scp::k)
 | m::ms,.loop b,k=>NQ id ms b (.loopN m b::k)
 | _,_,_=>none
def NR (id:Nat):List Nat -> Code -> List KI -> Option (List KI)
 | ms,.seq a b,k=>match NR id ms a (.code b::k) with
  | some r=>some r
  | none=>NR id ms b k
 | ms,.cond _ a b,k=>match NR id ms a k with
  | some r=>some r
  | none=>NR id ms b k
 | ms,.block i c,k=>NR id ms c (.blk i::k)
 | ms,.scope c,k=>NR id ms c (.scp::k)
 | m::ms,.loop b,k=>NR id ms b (.loopN m b::k)
 | _,.region i ops dr,k=>if i=id then some (.code (.region i ops dr)::k) else none
 | _,_,_=>none
def Ax (m:Nat)(k:List KI):List KI:=match k with
 | .code (.loop b)::rest=>.loopN m b::rest
 | _=>[]
def gy (m:Nat)(k:List KI):List KI:=match k with
 | .code (.loop b)::rest=>.code b:: .loopN m b::rest
 | _=>[]
def start (f:Func):List KI:=match f.body with
 | some c=>[.code c]
 | none=>[]
def KB (c:Code)(id:Nat):Array Oper:=match c with
 | .region i ops _=>if i=id then ops else #[]
 | .seq a b=>let x:=KB a id;if x.size=0 then KB b id else x
 | .cond _ a b=>let x:=KB a id;if x.size=0 then KB b id else x
 | .block _ c=>KB c id
 | .loop c=>KB c id
 | .scope c=>KB c id
 | .rangeFunc _ _ a b=>let x:=KB a id;if x.size=0 then KB b id else x
 | _=>#[]
def A4 (f:Func)(id:Nat):Array Oper:=match f.body with
 | some c=>KB c id
 | none=>#[]
theorem BU.enter {k:List KI}{S:St}(m:Nat)(hk:Oz k=true)(h:An P Γ F B L Y Q (Ax m k) S):An P Γ F B L Y Q k S:=by
 unfold Oz at hk;split at hk
 ·exact HP.loop h
 ·cases hk
theorem BU.round {k:List KI}{S:St}{n m:Nat}(hm:n+1<=m)(hk:Oz k=true)(h: ∀ m,n<=m -> An P Γ F B L Y Q (gy m k) S):An P Γ F B L Y Q (Ax m k) S:=by
 cases m with
 | zero=>omega
 | succ m=>
  have h:=h m (Nat.le_of_succ_le_succ hm);unfold Oz at hk;split at hk
  ·refine Tr.mono h fun e S' Y' hq=>?_
   cases e <;> exact hq
  ·cases hk
def AF (n:Nat)(l:List (Nat×DV)):List DV:=(List.range n).map fun i=>match l.find? (fun x=>x.1==i) with
 | some x=>x.2
 | none=>.any
theorem CZ.le {fn:Func}{d:DV}{h':DH}{e:Exit}{S S':St}(hS:At L S S')(h:CZ P fn L d h' e S'):CZ P fn L d h' e S:=by
 obtain ⟨he,CJ,h1,h2⟩:=h;exact ⟨he,CJ,hS.trans h1,h2⟩
theorem ES.of_trk {f:Nat}{fn:Func}{ds:List DV}{h:DH}{d:DV}{h':DH}{ext:Bool}(hf:P.funcs[f]? =some fn)(hb:fn.body.isSome=true)(PP:(fn.name== "runtime.NumGoroutine")=false)(hni:Oh h')(Kf:ext=true -> h= []) 
 (H: ∀ (B:Nat) (N:BB P Γ h.length),BU P Γ Fence.wide (some B) h.length N (CZ P fn h.length d h') (start fn) ⟨ds++List.replicate (fn.ntmps-ds.length) .any,h⟩):ES P Γ f ds h d h' ext:=by
 cases hc:fn.body with
 | none=>rw [hc] at hb;cases hb
 | some c=>
  refine ES.of_tr hf hc (by simpa using PP) hni (fun B N=>?_) Kf;have:=H B N;unfold start at this;rw [hc] at this;refine Tr.mono this fun e S Y hq=>?_
  cases e <;> exact hq
def Fb:DV -> Bool
 | .mse .. =>false
 | .mri .. =>false
 | .ref .. =>false
 | .msl .. =>false
 | .mp .. =>false
 | .it _=>false
 | .agg m f=>(List.range m).all fun j=>Fb (f j)
 | .tup m f=>(List.range m).all fun j=>Fb (f j)
 | .fn _ m f=>(List.range m).all fun j=>Fb (f j)
 | _=>true
theorem Ml: ∀ {d:DV},Fb d=true -> I6 d:=by
 intro d
 induction d with
 | any=>exact fun _ _ _ _ _ _=>trivial
 | nils=>exact fun _ _ _ _ _ h=>h
 | int k n=>exact fun _ _ _ _ _ h=>h
 | bool b=>exact fun _ _ _ _ _ h=>h
 | str s=>exact fun _ _ _ _ _ h=>h
 | ints l=>exact fun _ _ _ _ _ h=>h
 | bools l=>exact fun _ _ _ _ _ h=>h
 | sl m n f _=>exact fun _ _ _ _ _ h=>h
 | fp m f _=>exact fun _ _ _ _ _ h=>h
 | agg m f ih=>exact fun hb=>I6.agg fun j hj=>ih j (zAX.1 hb j (zBf.2 hj))
 | tup m f ih=>exact fun hb=>I6.tup fun j hj=>ih j (zAX.1 hb j (zBf.2 hj))
 | ref k j=>exact fun hb=>by cases hb
 | msl k m o n=>exact fun hb=>by cases hb
 | mp k m i j=>exact fun hb=>by cases hb
 | fn g m c ih=>exact fun hb M w ρ v ⟨cs,e,hs,hc⟩=>⟨cs,e,hs,fun j hj=>let ⟨u,h1,h2⟩:=hc j hj;⟨u,h1,ih j (zAX.1 hb j (zBf.2 hj)) M w ρ u h2⟩⟩
 | it k=>exact fun hb=>by cases hb
 | yl l=>exact fun _ _ _ _ _ h=>h
 | cst u=>exact fun _ _ _ _ _ h=>h
 | mse k m o n=>exact fun hb=>by cases hb
 | mri k i=>exact fun hb=>by cases hb
theorem ES.frameB {f:Nat}{ds:List DV}{d:DV}(h0:ES P Γ f ds [] d [] true)(h:DH)(Ey:ds.all Fb=true):ES P Γ f ds h d h true:=h0.frame (fun x hx=>Ml (zAX.1 Ey x hx)) h
def Wh:DV -> Bool
 | .int .. =>true
 | .bool _=>true
 | .tup m f=>(List.range m).all fun j=>match f j with
  | .int .. =>true
  | .bool _=>true
  | _=>false
 | _=>false
theorem tY {d:DV}(h:Wh d=true):Hn d:=by
 unfold Wh at h;split at h
 ·exact Hn.int _ _
 ·exact Hn.bool _
 ·rename_i m f;refine Hn.tup fun j hj=>?_
  have:=zAX.1 h j (zBf.2 hj);split at this
  ·rename_i e;rw [e];exact Hn.int _ _
  ·rename_i e;rw [e];exact Hn.bool _
  ·cases this
 ·cases h
def Nc (h:DH):List DV -> List DV -> Prop
 | [],[]=>True
 | d::ds,d0::ET=>Aq h d d0/\ Nc h ds ET
 | _,_=>False
theorem SJ {h:DH}: ∀ {ds ET:List DV},Nc h ds ET -> ET.length=ds.length/\ ∀ i,i<ds.length -> Aq h (ds.getD i .any) (ET.getD i .any)
 | [],[],_=>⟨rfl,fun i hi=>absurd hi (zBk i)⟩
 | d::ds,d0::ET,⟨h1,h2⟩=>by
  obtain ⟨e,g⟩:=SJ h2;refine ⟨by simp [e],fun i hi=>?_⟩;cases i with
  | zero=>exact h1
  | succ i=>exact g i (by simpa using hi)
 | [],_::_,h=>h.elim
 | _::_,[],h=>h.elim
theorem Aq.plain {h:DH}{d:DV}(hn:Fb d=true):Aq h d d:=Aq.nref (Ml hn)
theorem ES.snapB {f:Nat}{ds ET:List DV}{d:DV}(h0:ES P Γ f ET [] d [] true)(h:DH)(hs:Nc h ds ET)(hd:Wh d=true):ES P Γ f ds h d h true:=ES.snap h0 h (SJ hs).1 (SJ hs).2 (tY hd)
theorem AL.of_eq {d d':DV}(h:d=d'):AL d d':=by rw [h];exact AL.refl _
theorem UU {M:Nat -> Prop}{w:World}{ρ:List AE}{v:Value}{l:List Int}(h:AI M w (.ints l) ρ v):l.length<=LB:=let ⟨_,_,_,_,h,_⟩:=h;h
theorem rJ {x c:Int}(h1:x=c)(h2: -9223372036854775808<=c)(h3:c<=9223372036854775807):IntKind.i64.wrap x=c:=by
 subst h1;rw [zGo];omega
end
def Ng (w:World):Prop:=TabAt 1 Lib.deBruijn64tab w
def GG:Aj where
 ng:=2
 gi:=fun w=>Ng w/\ 2<=w.heap.size
 st:=fun w w' h hu=>⟨fun j hj=>hu.cell (by show ¬ (2<=1);omega) (h.1 j hj),zAa h.2 hu.size⟩
 lo:=fun w h=>h.2
theorem C1 {α:Type}{c:Prop} [Decidable c] {a:Option α} {r:α} (h:(if c then a else none)=some r):c/\ a=some r:=by
 split at h
 ·exact ⟨by assumption,h⟩
 ·cases h
theorem GA {α β:Type}{o:Option β}{f:β -> Option α}{r:α}(h:o.bind f=some r): ∃ v,o=some v/\ f v=some r:=by
 cases o with
 | none=>cases h
 | some v=>exact ⟨v,rfl,h⟩
theorem C8 {α:Type}{b:Bool}{x y:Option α}{r:α}(h:(bif b then x else y)=some r):(b=true/\ x=some r)∨(b=false/\ y=some r):=by
 cases b
 ·exact .inr ⟨rfl,h⟩
 ·exact .inl ⟨rfl,h⟩
def wT:Int -> Bool
 | .ofNat n=>Nat.ble n 9223372036854775807
 | .negSucc n=>Nat.ble n 9223372036854775807
def AH (x:Int):Prop:=wT x=true
instance (x:Int):Decidable (AH x):=by unfold AH;infer_instance
theorem Aw {x:Int}:AH x↔-9223372036854775808<=x/\ x<=9223372036854775807:=by
 unfold AH;cases x with
 | ofNat n=>
  show Nat.ble n 9223372036854775807=true↔_
  rw [Nat.ble_eq];simp only [Int.ofNat_eq_natCast];omega
 | negSucc n=>
  show Nat.ble n 9223372036854775807=true↔_
  rw [Nat.ble_eq];omega
theorem rK {x:Int}(h:AH x):AL (.int .i64 (IntKind.i64.wrap x)) (.int .i64 x):=AL.int (rJ rfl (Aw.1 h).1 (Aw.1 h).2)
def comp (live σ:List Nat)(S:St):St:=Fi σ ⟨forget live S.fr,S.h⟩
def J5 (σ:List Nat)(L n:Nat):Bool:=decide σ.Nodup&&σ.all (fun k=>decide (k<n))&&(List.range L).all fun k=>decide (σ[k]? =some k)
theorem At.comp {L:Nat}(live σ:List Nat)(S:St)(h:J5 σ L S.h.length=true):At L S (comp live σ S):=by
 simp only [J5,zAO,zCJ,zAX,zBf] at h;exact (At.forget live S.fr S.h).trans (At.compact σ _ h.1.1 (fun k hk=>h.1.2 k hk) (fun k hk=>h.2 k hk))
def T5 (live σ:List Nat)(L:Nat)(r:KO×St×List Prop×BI):KO×List DV×DH×List Prop×List (DV×DH×Bool)×List (Nat×DV)×Bool:=(r.1,(Proofs.YtodinaconebmdaaGreatDoor.comp live σ r.2.1).fr,(Proofs.YtodinaconebmdaaGreatDoor.comp live σ r.2.1).h,r.2.2.1,r.2.2.2.calls,r.2.2.2.co,J5 σ L r.2.1.h.length)
section
variable {P:Program} {Γ:Aj} {F:Fence} {B:Option Nat} {L:Nat} {Y N:BB P Γ L} {Q:QY P Γ L}
theorem xL {A1:Bi}{n:Nat}{k:List KI}{S:St}{o:BI}{live σ:List Nat}{r:KO}{fr:List DV}{h':DH}{vs:List Prop}(h:(B7 P Γ A1 n k S o).map (T5 live σ L)=some (r,fr,h',vs,[],[],true)):
 ∃ S' o',B7 P Γ A1 n k S o=some (r,S',vs,o')/\ At L S' ⟨fr,h'⟩:=by
 cases hr:B7 P Γ A1 n k S o with
 | none=>rw [hr] at h;cases h
 | some r=>
  obtain ⟨r1,S1,C9,⟨c1,o1,z1,g1⟩⟩:=r;rw [hr] at h;simp only [zCA,T5,zCW,zDU] at h;obtain ⟨rfl,rfl,rfl,rfl,rfl,rfl,hs⟩:=h;exact ⟨S1,_,rfl,At.comp live σ S1 hs⟩
def If:List KI -> Bool
 | .code _::_=>true
 | .loopN _ _::_=>true
 | _=>false
theorem HP.weaken {b:Code}{m:Nat}{S S':St}(hS:At L S S')(h:HP P Γ F B L b Q m S' Y):HP P Γ F B L b Q m S Y:=by
 cases m with
 | zero=>exact h.elim
 | succ m=>exact Tr.weaken hS h
theorem BU.le {k:List KI}{S S':St}(hS:At L S S')(hc:If k=true)(h:An P Γ F B L Y Q k S'):An P Γ F B L Y Q k S:=by
 unfold If at hc;split at hc
 ·exact An.weaken hS h ⟨_,_,rfl⟩
 ·exact HP.weaken hS h
 ·cases hc
theorem At.frzE {S:St}(k:Nat)(S':St)(vs:List Prop)(h:VF k S=some (S',vs))(hv:BY vs):At L S S':=fun P Γ N ρ a w R=>
 ⟨ρ,(D4.frzE k S' vs h hv P Γ N ρ a w R).1,(D4.frzE k S' vs h hv P Γ N ρ a w R).2,B0.refl _ _⟩
theorem At.compE {S:St}(σ:List Nat)(h:J5 σ L S.h.length=true):At L S (Fi σ S):=by
 simp only [J5,zAO,zCJ,zAX,zBf] at h;exact At.compact σ _ h.1.1 (fun k hk=>h.1.2 k hk) (fun k hk=>h.2 k hk)
def UF:Option DO -> Bool
 | some (.iter _)=>false
 | _=>true
theorem Og {h:DH}(hb:h.all UF=true):Oh h:=fun k encs hk=>by
 have:=zAX.1 hb _ (zB9 hk);cases this
theorem Aq.refL {h:DH}{k:Nat}{l l0:List DV}(hk:h[k]? =some (some (.cells l)))(hs:Nc h l l0):Aq h (.ref k 0) (.fp l.length (fun j=>l0.getD j .any)):=
 Aq.ref hk (zBl _) fun j hj=>(SJ hs).2 j hj
theorem Aq.fnL {h:DH}{g:Nat}{l l0:List DV}(hs:Nc h l l0):Aq h (.fn g l.length (fun j=>l.getD j .any)) (.fn g l.length (fun j=>l0.getD j .any)):=by
 rintro P Γ N ρ w v H ⟨lb,e,hl,hc⟩;exact ⟨lb,e,hl,fun j hj=>let ⟨u,h1,h2⟩:=hc j hj;⟨u,h1,(SJ hs).2 j hj P Γ N ρ w u H h2⟩⟩
theorem AL.ixI (l:List Int){n:Int}{m:Nat}(hm:m=l.length)(h:(0:Int)<=n/\ n<((m:Nat):Int)):AL ((l.map (DV.int .i64)).getD n.toNat .any) (.int .i64 (l.getD n.toNat 0)):=by
 subst hm;have hl:n.toNat<l.length:=by omega
 have:(l.map (DV.int .i64)).getD n.toNat .any= .int .i64 (l.getD n.toNat 0):=by simp [hl]
 rw [this];exact AL.refl _
theorem AL.mslN {k m o n n':Nat}(h:n=n'):AL (.msl k m o n) (.msl k m o n'):=by rw [h];exact AL.refl _
def vd:DO -> Bool
 | .ints _=>true
 | .bools _=>true
 | _=>false
theorem ES.snapNew {f:Nat}{ds ET:List DV}{m n:Nat}{o:DO}(h0:ES P Γ f ET [] (.msl 0 m 0 n) [some o] true)(h:DH)(hs:Nc h ds ET)(ho:vd o=true):ES P Γ f ds h (.msl h.length m 0 n) (h++[some o]) true:=by
 obtain ⟨hl,hs⟩:=SJ hs;refine ⟨h0.1,fun N ρ w args HR CD=>?_⟩;refine (h0.2 (fun _=>False) [] w args (RB (fun b hb=>hb.elim) HR.gi) ⟨by rw [hl];exact CD.1,fun i hi=>?_⟩).mono ?_
 ·rw [hl] at hi;exact AI.out _ (Dk (fun b hb=>P6.1 hb) []) (hs i hi P Γ N ρ w _ HR (CD.2 i hi))
 ·rintro e w' ⟨v,rfl,⟨⟨ρ',g1,g2,g3,g4⟩,g5⟩⟩;have hE:=g5 rfl;obtain ⟨p,hp,DN⟩:=g1.obj 0 o rfl;have hf: ∀ b,p.foot b -> w.heap.size<=b:=fun b hb=>(g3.grow b ⟨0,o,p,rfl,hp,hb⟩).resolve_left fun ⟨k,o',p',q1,_⟩=>by simp at q1
  obtain ⟨p',cap,A5,e1,e2,e3,e4⟩:=g2;have ep:p'=p:=zAV (A5.symm.trans hp);subst ep;refine ⟨v,rfl,⟨⟨ρ++[p'],HR.snoc hE (fun b hb=>⟨hf b hb,(g1.cel 0 o p' b rfl hp hb).2.2⟩) ?_,⟨p',cap,by rw [←HR.len];simp,e1,e2,e3,e4⟩,Ap.snoc HR hE hf,fun _ _ h=>EO h⟩,g5⟩⟩;cases o with
  | ints l=>exact AQ.out DN rfl fun j u _ hu=>hu
  | bools l=>exact AQ.out DN rfl fun j u _ hu=>hu
  | cells l=>cases ho
  | arr m n f=>cases ho
  | iter encs=>cases ho
  | mo x=>cases ho
  | ro l=>cases ho
theorem fl {h:DH}: ∀ {ds:List DV},ds.all Fb=true -> Nc h ds ds
 | [],_=>trivial
 | d::ds,hd=>by
  simp only [zGY,zAO] at hd;exact ⟨Aq.plain hd.1,fl hd.2⟩
theorem AL.aggL {m:Nat}{l l':List DV}(hm:m=l.length)(h:I3 l l'):AL (.agg m (fun j=>l.getD j .any)) (.agg m (fun j=>l'.getD j .any)):=by
 subst hm;rintro M w ρ v ⟨cs,e,hs,hc⟩;exact ⟨cs,e,hs,fun j hj=>let ⟨u,h1,h2⟩:=hc j hj;⟨u,h1,(SL h).2 j hj M w ρ u h2⟩⟩
theorem AL.tupL {m:Nat}{l l':List DV}(hm:m=l.length)(h:I3 l l'):AL (.tup m (fun j=>l.getD j .any)) (.tup m (fun j=>l'.getD j .any)):=by
 subst hm;rintro M w ρ v ⟨cs,e,hs,hc⟩;exact ⟨cs,e,hs,fun j hj=>let ⟨u,h1,h2⟩:=hc j hj;⟨u,h1,(SL h).2 j hj M w ρ u h2⟩⟩
theorem ES.argsLe {f:Nat}{ds ET:List DV}{h h':DH}{d:DV}{ext:Bool}(h0:ES P Γ f ET h d h' ext)(hd:I3 ds ET):ES P Γ f ds h d h' ext:=by
 obtain ⟨hl,hd⟩:=SL hd;exact ⟨h0.1,fun N ρ w args HR CD=>h0.2 N ρ w args HR ⟨by rw [←hl];exact CD.1,fun i hi=>hd i (by omega) _ _ _ _ (CD.2 i (by omega))⟩⟩
theorem AL.mse_msl {k m o n n':Nat}(h:0<n)(e:n=n'):AL (.mse k m o n) (.msl k m o n'):=by
 subst e;rintro M w ρ v ⟨p,a,cap,hp,rfl,h1,h2,h3⟩;obtain ⟨rfl,h4⟩:=h3 (by omega);exact ⟨p,cap,hp,rfl,h1,h2,h4⟩
theorem AL.mse_nil {k m o n:Nat}(h:n=0):AL (.mse k m o n) (.ints []):=by
 subst h;rintro M w ρ v ⟨p,a,cap,hp,rfl,h1,h2,h3⟩;exact ⟨a,cap,rfl,zFo _,zFo _,fun j hj=>absurd hj (zBk j)⟩
theorem XC {n:Nat}(h:(n==0)=false):0<n:=by
 have:n≠0:=by simpa using h
 omega
def MY (k off k':Nat):DV -> DV
 | .msl k1 m o n=>if k1=k/\ m=1/\ o=off then .msl k' 1 0 n else .msl k1 m o n
 | d=>d
def kR (k off:Nat)(S:St):Option (St×List Prop):=match S.h.getD k none with
 | some (.ints l)=>some (⟨S.fr.map (MY k off S.h.length),S.h.set k none++[some (.ints (l.drop off))]⟩,[off<=l.length])
 | _=>none
theorem At.rootE {S:St}(k off:Nat)(S':St)(vs:List Prop)(h:kR k off S=some (S',vs))(hv:BY vs):At L S S':=fun P Γ N ρ a w R=>by
 unfold kR at h;split at h
 ·rename_i l hl;cases h;have hv:=hv.1;have hk:=getD_some hl;obtain ⟨p,hp,hr⟩:=R.hr.obj k _ hk;have hr:AQ w p l.length _:=hr;obtain ⟨hf,cs,t,c1,c2,c3,c4⟩:=hr
  let p':AE:={ p with off:=p.off+off }
  obtain ⟨g1,g2⟩:=R.hr.regrow (o':=.ints (l.drop off)) (p':=p') hk hp (AN.refl _ _) (fun b hb=>⟨.inl hb,(R.hr.cel k _ p b hk hp hb).2.2⟩) (by
   refine ⟨hf,cs,t,c1,?_,c3,fun j hj=>?_⟩
   ·simp only [zGm,p'];omega
   ·rw [zGm] at hj;obtain ⟨u,q1,q2⟩:=c4 (off+j) (by omega);refine ⟨u,by rw [←q1];simp only [p',zCd],?_⟩;rw [q2];simp [u8,zFh])
  have O:BH (MS N S.h ρ) w ρ (MS N (S.h.set k none++[some (.ints (l.drop off))]) (ρ++[p'])) w (ρ++[p']):=⟨fun _ _ _ _=>rfl,fun b hb=>hb.elim (fun h=>.inl (.inl h)) fun h=>(g2.grow b h).imp .inr id,fun _ _ h=>EO h⟩;refine ⟨ρ++[p'],⟨g1,by simp [R.fr.1],fun i hi=>?_⟩,g2,fun _ _ _ h=>EO h⟩;have A8:i<S.fr.length:=by simpa using hi
  have e:(S.fr.map (MY k off S.h.length)).getD i .any=MY k off S.h.length (S.fr.getD i .any):=by simp [A8]
  show AI _ w ((S.fr.map (MY k off S.h.length)).getD i .any) _ _
  rw [e];have r0:=R.fr.2 i A8;cases hd:S.fr.getD i .any with
  | msl k1 m o n=>
   rw [hd] at r0
   by_cases hc:k1=k/\ m=1/\ o=off
   ·have e2:MY k off S.h.length (.msl k1 m o n)= .msl S.h.length 1 0 n:=by simp only [MY,zAA hc]
    rw [e2];obtain ⟨h1,h2,h3⟩:=hc;rw [h1,h2,h3] at r0;obtain ⟨q,cap,hq,hu,u1,u2,u3⟩:=r0;have eq:q=p:=zAV (hq.symm.trans hp);subst eq;exact ⟨p',cap,by rw [←R.hr.len];simp,by rw [hu];simp [p'],u1,u2,by simp only [p'];omega⟩
   ·have e2:MY k off S.h.length (.msl k1 m o n)= .msl k1 m o n:=by simp only [MY,zAY hc]
    rw [e2];exact AI.out _ O r0
  | _=>rw [hd] at r0;exact AI.out _ O r0
 ·cases h
theorem AL.msl_mse {k m o n:Nat}:AL (.msl k m o n) (.mse k m o n):=fun _ _ _ _ ⟨p,cap,hp,hv,h1,h2,h3⟩=>⟨p,_,cap,hp,hv,h1,h2,fun _=>⟨rfl,h3⟩⟩
def Oi (k q:Nat):DV -> DV
 | .msl k1 m o n=>if k1=k then .msl q m o n else .msl k1 m o n
 | .mse k1 m o n=>if k1=k then .mse q m o n else .mse k1 m o n
 | d=>d
def mapOb (g:DV -> DV):Option DO -> Option DO
 | some (.cells l)=>some (.cells (l.map g))
 | some (.ro l)=>some (.ro (l.map g))
 | o=>o
def mK (k:Nat)(S:St):Option St:=match S.h.getD k none with
 | some (.ints l)=>some ⟨S.fr.map (Oi k S.h.length),(S.h.set k none++[some (DO.ints l)]).map (mapOb (Oi k S.h.length))⟩
 | _=>none
theorem UJ {g:DV -> DV}{h:DH}{k:Nat}{o':DO}(hk:(h.map (mapOb g))[k]? =some (some o')): ∃ o,h[k]? =some (some o)/\ mapOb g (some o)=some o':=by
 rw [zBt] at hk;cases hx:h[k]? with
 | none=>rw [hx] at hk;cases hk
 | some x=>
  rw [hx] at hk;have hk:mapOb g x=some o':=zAV hk;cases x with
  | none=>cases hk
  | some o=>exact ⟨o,rfl,hk⟩
theorem MO.mapOb {g:DV -> DV}{h:DH}{ρ:List AE}{b:Nat}:MO (h.map (mapOb g)) ρ b↔MO h ρ b:=by
 constructor
 ·rintro ⟨k,o',p,h1,h2,h3⟩;obtain ⟨o,g1,_⟩:=UJ h1;exact ⟨k,o,p,g1,h2,h3⟩
 ·rintro ⟨k,o,p,h1,h2,h3⟩;cases o with
  | cells l=>exact ⟨k,.cells (l.map g),p,by rw [zBt,h1];rfl,h2,h3⟩
  | _=>exact ⟨k,_,p,by rw [zBt,h1];rfl,h2,h3⟩
theorem Ag.mapCells {N:Nat -> Prop}{h:DH}{ρ:List AE}{w:World}(H:Ag P Γ N h ρ w){g:DV -> DV}(hg: ∀ d u,AI (MS N h ρ) w d ρ u -> AI (MS N h ρ) w (g d) ρ u):Ag P Γ N (h.map (mapOb g)) ρ w:=by
 have hM: ∀ b,MS N (h.map (mapOb g)) ρ b -> MS N h ρ b:=fun b hb=>hb.imp id MO.mapOb.1
 refine ⟨by rw [H.len];simp,fun k o' hk=>?_,fun k o' p b h1 h2 h3=>?_,fun k k' o1 o2 p1 p2 b AR h1 h2 h3 h4 h5 h6=>?_,H.nlt,H.gi⟩
 ·obtain ⟨o,h1,h2⟩:=UJ hk;obtain ⟨p,hp,hr⟩:=H.obj k o h1;refine ⟨p,hp,?_⟩;have O:BH (MS N h ρ) w ρ (MS N (h.map (mapOb g)) ρ) w ρ:=⟨fun _ _ _ _=>rfl,fun b hb=>.inl (hM b hb),fun _ _ h=>h⟩;cases o with
  | cells l=>
   cases h2
   show AQ w p (l.map g).length _
   rw [zCM];refine AQ.out hr rfl fun j u hj hu=>?_
   have e:(l.map g).getD j .any=g (l.getD j .any):=by simp [hj]
   rw [e];exact AI.out _ O (hg _ _ hu)
  | ints l=>cases h2;exact AQ.out hr rfl fun j u _ hu=>hu
  | bools l=>cases h2;exact AQ.out hr rfl fun j u _ hu=>hu
  | arr m n f=>cases h2;exact AQ.out hr rfl fun j u _ hu=>AI.out _ O.nil hu
  | iter encs=>
   cases h2;obtain ⟨gf,lb,Rd,q1,q2,q3,q4⟩:=hr;exact ⟨gf,lb,Rd,q1,q2,fun b hb=>⟨fun hm=>(q3 b hb).1 (hM b hm),(q3 b hb).2⟩,q4⟩
  | ro l=>
   cases h2;obtain ⟨r1,r2,r3⟩:=hr;refine ⟨r1,fun hm=>r2 (hM _ hm),?_⟩
   show AQ w _ (l.map g).length _
   rw [zCM];refine AQ.out r3 rfl fun j u hj hu=>?_
   have e:(l.map g).getD j .any=g (l.getD j .any):=by simp [hj]
   rw [e];exact AI.out _ O (hg _ _ hu)
  | mo x=>cases h2;exact hr
 ·obtain ⟨o,g1,_⟩:=UJ h1;exact H.cel k o p b g1 h2 h3
 ·obtain ⟨o,g1,_⟩:=UJ h1;obtain ⟨o',g2,_⟩:=UJ h2;exact H.dis k k' o o' p1 p2 b AR g1 g2 h3 h4 h5 h6
theorem At.moveE {S:St}(k:Nat)(S':St)(h:mK k S=some S'):At L S S':=fun P Γ N ρ a w R=>by
 unfold mK at h;split at h
 ·rename_i l hl;cases h;have hk:=getD_some hl;obtain ⟨p,hp,hr⟩:=R.hr.obj k _ hk;obtain ⟨g1,g2⟩:=R.hr.regrow (o':=.ints l) (p':=p) hk hp (AN.refl _ _) (fun b hb=>⟨.inl hb,(R.hr.cel k _ p b hk hp hb).2.2⟩) hr;have EM: ∀ (i:Nat) (q:AE),ρ[i]? =some q -> (ρ++[p])[i]? =some q:=fun _ _ h=>EO h
  have O:BH (MS N S.h ρ) w ρ (MS N (S.h.set k none++[some (DO.ints l)]) (ρ++[p])) w (ρ++[p]):=⟨fun _ _ _ _=>rfl,fun b hb=>hb.elim (fun h=>.inl (.inl h)) fun h=>(g2.grow b h).imp .inr id,EM⟩;have hq:(ρ++[p])[S.h.length]? =some p:=by rw [←R.hr.len];simp
  have mv: ∀ {M:Nat -> Prop} (d:DV) (u:Value),AI M w d (ρ++[p]) u -> AI M w (Oi k S.h.length d) (ρ++[p]) u:=fun {M} d u hd=>by
   unfold Oi;split
   ·rename_i k1 m o n;split
    ·rename_i e;obtain ⟨q,cap,RD,r⟩:=hd;subst e;have:q=p:=zAV (RD.symm.trans (EM _ _ hp));subst this;exact ⟨q,cap,hq,r⟩
    ·exact hd
   ·rename_i k1 m o n;split
    ·rename_i e;obtain ⟨q,a0,cap,RD,r⟩:=hd;subst e;have:q=p:=zAV (RD.symm.trans (EM _ _ hp));subst this;exact ⟨q,a0,cap,hq,r⟩
    ·exact hd
   ·exact hd
  have R1:=g1.mapCells (g:=Oi k S.h.length) fun d u=>mv d u
  have hM: ∀ b,MS N ((S.h.set k none++[some (DO.ints l)]).map (mapOb (Oi k S.h.length))) (ρ++[p]) b -> MS N (S.h.set k none++[some (DO.ints l)]) (ρ++[p]) b:=fun b hb=>hb.imp id MO.mapOb.1
  have O2:BH (MS N (S.h.set k none++[some (DO.ints l)]) (ρ++[p])) w (ρ++[p]) (MS N ((S.h.set k none++[some (DO.ints l)]).map (mapOb (Oi k S.h.length))) (ρ++[p])) w (ρ++[p]):=⟨fun _ _ _ _=>rfl,fun b hb=>.inl (hM b hb),fun _ _ h=>h⟩;exact ⟨ρ++[p],⟨R1,((R.fr.out O).map fun d u=>mv d u).out O2⟩,⟨g2.upd,fun b hb=>g2.grow b (MO.mapOb.1 hb)⟩,fun _ _ _ h=>EO h⟩
 ·cases h
end
def DI (σ:List Nat)(b k:Nat):Nat:=if k<σ.length then σ.getD k 0 else b+(k-σ.length)
def up (σ:List Nat)(b:Nat):DV -> DV
 | .ref k j=>.ref (DI σ b k) j
 | .msl k m o n=>.msl (DI σ b k) m o n
 | .mse k m o n=>.mse (DI σ b k) m o n
 | .mri k i=>.mri (DI σ b k) i
 | .mp k m i j=>.mp (DI σ b k) m i j
 | .it k=>.it (DI σ b k)
 | .agg m f=>.agg m (Gh m fun j=>up σ b (f j))
 | .tup m f=>.tup m (Gh m fun j=>up σ b (f j))
 | .fn g m c=>.fn g m (Gh m fun j=>up σ b (c j))
 | d=>d
def DA (σ:List Nat)(b:Nat):Option DO -> Option DO
 | some (.cells l)=>some (.cells (l.map (up σ b)))
 | some (.ro l)=>some (.ro (l.map (up σ b)))
 | o=>o
def DD (H:DH)(σ:List Nat)(h':DH):DH:=((List.range H.length).map fun k=>match DX σ k with
 | some i=>DA σ H.length (h'.getD i none)
 | none=>H.getD k none)++(h'.drop σ.length).map (DA σ H.length)
theorem Qg {σ:List Nat}(hn:σ.Nodup){i k:Nat}(h:σ[i]? =some k):DX σ k=some i:=by
 induction σ generalizing i with
 | nil=>simp at h
 | cons x σ ih=>
  unfold DX;cases i with
  | zero=>
   have:x=k:=by simpa using h
   rw [zAA this]
  | succ i=>
   have h':σ[i]? =some k:=by simpa using h
   have AR:x≠k:=by
    rintro rfl;exact (zGy.1 hn).1 (zB9 h')
   rw [zAY AR,ih (zGy.1 hn).2 h'];rfl
theorem QO {σ:List Nat}{b:Nat}{x:Option DO}{o:DO}(h:DA σ b x=some o): ∃ o0,x=some o0:=by
 cases x with
 | none=>cases h
 | some o0=>exact ⟨o0,rfl⟩
section
variable {P:Program} {Γ:Aj}
theorem Zp {M M':Nat -> Prop}{w:World}{σ:List Nat}{b:Nat}{ρ ρ':List AE}(hM: ∀ b,M' b -> M b)(hρ: ∀ (k:Nat) (p:AE),ρ[k]? =some p -> ρ'[DI σ b k]? =some p): ∀ (d:DV) {v:Value},AI M w d ρ v -> AI M' w (up σ b d) ρ' v:=by
 have low: ∀ (d:DV) {v:Value},AI M w d [] v -> AI M' w d [] v:=fun d v h=>h.out d (Dk hM [])
 intro d
 induction d with
 | any=>intro v _;trivial
 | nils=>intro v h;exact h
 | int k n=>intro v h;exact h
 | bool b=>intro v h;exact h
 | str s=>intro v h;exact h
 | ints l=>intro v h;exact low (.ints l) h
 | bools l=>intro v h;exact low (.bools l) h
 | sl m n f _=>intro v h;exact low (.sl m n f) h
 | fp m f _=>intro v h;exact low (.fp m f) h
 | agg m f ih=>
  rintro v ⟨cs,e,hs,h⟩;exact ⟨cs,e,hs,fun j hj=>let ⟨u,h1,h2⟩:=h j hj;⟨u,h1,IL hj (ih j h2)⟩⟩
 | tup m f ih=>
  rintro v ⟨cs,e,hs,h⟩;exact ⟨cs,e,hs,fun j hj=>let ⟨u,h1,h2⟩:=h j hj;⟨u,h1,IL hj (ih j h2)⟩⟩
 | fn g m c ih=>
  rintro v ⟨cs,e,hs,h⟩;exact ⟨cs,e,hs,fun j hj=>let ⟨u,h1,h2⟩:=h j hj;⟨u,h1,IL hj (ih j h2)⟩⟩
 | ref k j=>rintro v ⟨p,hp,r⟩;exact ⟨p,hρ k p hp,r⟩
 | msl k m o n=>rintro v ⟨p,cap,hp,r⟩;exact ⟨p,cap,hρ k p hp,r⟩
 | mp k m i j=>rintro v ⟨p,hp,r⟩;exact ⟨p,hρ k p hp,r⟩
 | it k=>rintro v ⟨p,hp,r⟩;exact ⟨p,hρ k p hp,r⟩
 | cst u=>intro v h;exact h
 | yl l=>intro v h;exact h
 | mse k m o n=>rintro v ⟨p,a,cap,hp,r⟩;exact ⟨p,a,cap,hρ k p hp,r⟩
 | mri k i=>rintro v ⟨p,vs,hp,r⟩;exact ⟨p,vs,hρ k p hp,r⟩
theorem Y1 {M M':Nat -> Prop}{w:World}{σ:List Nat}{b:Nat}{ρ ρ':List AE}(hM: ∀ b,M' b -> M b)(hρ: ∀ (k:Nat) (p:AE),ρ[DI σ b k]? =some p -> ρ'[k]? =some p): ∀ (d:DV) {v:Value},AI M w (up σ b d) ρ v -> AI M' w d ρ' v:=by
 have low: ∀ (d:DV) {v:Value},AI M w d [] v -> AI M' w d [] v:=fun d v h=>h.out d (Dk hM [])
 have Zr: ∀ {m j:Nat} {f:Nat -> DV} {u:Value},j<m -> AI M w (Gh m f j) ρ u -> AI M w (f j) ρ u:=fun hj h=>by rw [WP hj] at h;exact h
 intro d
 induction d with
 | any=>intro v _;trivial
 | nils=>intro v h;exact h
 | int k n=>intro v h;exact h
 | bool b=>intro v h;exact h
 | str s=>intro v h;exact h
 | ints l=>intro v h;exact low (.ints l) h
 | bools l=>intro v h;exact low (.bools l) h
 | sl m n f _=>intro v h;exact low (.sl m n f) h
 | fp m f _=>intro v h;exact low (.fp m f) h
 | agg m f ih=>
  rintro v ⟨cs,e,hs,h⟩;exact ⟨cs,e,hs,fun j hj=>let ⟨u,h1,h2⟩:=h j hj;⟨u,h1,ih j (Zr hj h2)⟩⟩
 | tup m f ih=>
  rintro v ⟨cs,e,hs,h⟩;exact ⟨cs,e,hs,fun j hj=>let ⟨u,h1,h2⟩:=h j hj;⟨u,h1,ih j (Zr hj h2)⟩⟩
 | fn g m c ih=>
  rintro v ⟨cs,e,hs,h⟩;exact ⟨cs,e,hs,fun j hj=>let ⟨u,h1,h2⟩:=h j hj;⟨u,h1,ih j (Zr hj h2)⟩⟩
 | ref k j=>rintro v ⟨p,hp,r⟩;exact ⟨p,hρ k p hp,r⟩
 | msl k m o n=>rintro v ⟨p,cap,hp,r⟩;exact ⟨p,cap,hρ k p hp,r⟩
 | mp k m i j=>rintro v ⟨p,hp,r⟩;exact ⟨p,hρ k p hp,r⟩
 | it k=>rintro v ⟨p,hp,r⟩;exact ⟨p,hρ k p hp,r⟩
 | cst u=>intro v h;exact h
 | yl l=>intro v h;exact h
 | mse k m o n=>rintro v ⟨p,a,cap,hp,r⟩;exact ⟨p,a,cap,hρ k p hp,r⟩
 | mri k i=>rintro v ⟨p,vs,hp,r⟩;exact ⟨p,vs,hρ k p hp,r⟩
theorem sC {M M':Nat -> Prop}{w:World}{σ:List Nat}{b:Nat}{ρ ρ':List AE}{p:AE}(hM: ∀ b,M' b -> M b)(hρ: ∀ (k:Nat) (p:AE),ρ[k]? =some p -> ρ'[DI σ b k]? =some p){o o':DO}(ho:DA σ b (some o)=some o')(h:Dr P M w ρ p o):Dr P M' w ρ' p o':=by
 cases o with
 | cells l=>
  cases ho
  show AQ w p (l.map (up σ b)).length _
  rw [zCM];refine AQ.out h rfl fun j u hj hu=>?_
  have:(l.map (up σ b)).getD j .any=up σ b (l.getD j .any):=by simp [hj]
  rw [this];exact Zp hM hρ _ hu
 | ints l=>cases ho;exact AQ.out h rfl fun j u _ hu=>hu
 | bools l=>cases ho;exact AQ.out h rfl fun j u _ hu=>hu
 | arr m n f=>cases ho;exact AQ.out h rfl fun j u _ hu=>AI.out _ (Dk hM []) hu
 | iter encs=>
  cases ho;obtain ⟨gf,lb,Rd,q1,q2,q3,q4⟩:=h;exact ⟨gf,lb,Rd,q1,q2,fun b hb=>⟨fun hm=>(q3 b hb).1 (hM b hm),(q3 b hb).2⟩,q4⟩
 | ro l=>
  cases ho;obtain ⟨r1,r2,r3⟩:=h;refine ⟨r1,fun hm=>r2 (hM _ hm),?_⟩
  show AQ w _ (l.map (up σ b)).length _
  rw [zCM];refine AQ.out r3 rfl fun j u hj hu=>?_
  have:(l.map (up σ b)).getD j .any=up σ b (l.getD j .any):=by simp [hj]
  rw [this];exact Zp hM hρ _ hu
 | mo x=>cases ho;exact h
theorem pY {M M':Nat -> Prop}{w:World}{σ:List Nat}{b:Nat}{ρ ρ':List AE}{p:AE}(hM: ∀ b,M' b -> M b)(hρ: ∀ (k:Nat) (p:AE),ρ[DI σ b k]? =some p -> ρ'[k]? =some p){o o':DO}(ho:DA σ b (some o)=some o')(h:Dr P M w ρ p o'):Dr P M' w ρ' p o:=by
 cases o with
 | cells l=>
  cases ho;have h:AQ w p (l.map (up σ b)).length _:=h;rw [zCM] at h;refine AQ.out h rfl fun j u hj hu=>?_
  have:(l.map (up σ b)).getD j .any=up σ b (l.getD j .any):=by simp [hj]
  rw [this] at hu;exact Y1 hM hρ _ hu
 | ints l=>cases ho;exact AQ.out h rfl fun j u _ hu=>hu
 | bools l=>cases ho;exact AQ.out h rfl fun j u _ hu=>hu
 | arr m n f=>cases ho;exact AQ.out h rfl fun j u _ hu=>AI.out _ (Dk hM []) hu
 | iter encs=>
  cases ho;obtain ⟨gf,lb,Rd,q1,q2,q3,q4⟩:=h;exact ⟨gf,lb,Rd,q1,q2,fun b hb=>⟨fun hm=>(q3 b hb).1 (hM b hm),(q3 b hb).2⟩,q4⟩
 | ro l=>
  cases ho;obtain ⟨r1,r2,r3⟩:=h;refine ⟨r1,fun hm=>r2 (hM _ hm),?_⟩;have h:AQ w _ (l.map (up σ b)).length _:=r3;rw [zCM] at h;refine AQ.out h rfl fun j u hj hu=>?_
  have:(l.map (up σ b)).getD j .any=up σ b (l.getD j .any):=by simp [hj]
  rw [this] at hu;exact Y1 hM hρ _ hu
 | mo x=>cases ho;exact h
theorem ES.embedX {f:Nat}{ds:List DV}{h:DH}{d:DV}{h':DH}{ext:Bool}(Ej:ES P Γ f ds h d h' ext)(σ:List Nat)(H:DH)(hn:σ.Nodup)(AK: ∀ k∈σ,k<H.length)(hl:σ.length=h.length)(Eh:h.length<=h'.length) 
 (hh:(σ.map fun k=>H.getD k none)=h.map (DA σ H.length)):(∃ fn,P.funcs[f]? =some fn/\ fn.name≠ "runtime.NumGoroutine" /\ fn.body.isSome=true)/\
 ∀ (N:Nat -> Prop) (ρ:List AE) (w:World) (args:Array Value),Ag P Γ N H ρ w -> A0 (MS N H ρ) w ρ (ds.map (up σ H.length)) args ->
  Calls P f args w fun e w'=>∃ v,e= .returned v/\ B1 P Γ N H ρ w ext (up σ H.length d) (DD H σ h') v w'/\ AN (fun b=>∃ i o p,i∈σ/\ H[i]? =some (some o)/\ ρ[i]? =some p/\ p.foot b) w w':=by
 refine ⟨Ej.1,fun N ρ w args HR CD=>?_⟩;obtain ⟨ρ0,UY⟩: ∃ ρ0,ρ0=σ.map fun k=>ρ.getD k bQ:=⟨_,rfl⟩
 have UQ:ρ0.length=σ.length:=by rw [UY];simp
 have FE: ∀ {i k:Nat},σ[i]? =some k -> ρ0[i]? =ρ[k]? :=fun {i k} hk=>by
  have Cz:k<ρ.length:=by rw [HR.len];exact AK k (zB9 hk)
  rw [UY,zBt,hk];simp [Cz]
 have K0: ∀ {i:Nat},i<σ.length -> ∃ k,σ[i]? =some k/\ DI σ H.length i=k:=fun {i} hi=>by
  refine ⟨σ[i],by simp [hi],?_⟩;unfold DI;rw [zAA hi];simp [hi]
 have G4: ∀ {i:Nat} {o:DO},h[i]? =some (some o) -> ∃ k o',σ[i]? =some k/\ H[k]? =some (some o')/\ DA σ H.length (some o)=some o':=fun {i o} hi=>by
  have C0:i<σ.length:=by rw [hl];exact (zAW.1 hi).1
  obtain ⟨k,hk,_⟩:=K0 C0;have e:=congrArg (·[i]?) hh;simp only [zBt,hk,hi,zCA] at e;have Bn:=AK k (zB9 hk);have e:H.getD k none=DA σ H.length (some o):=zAV e;have e2: ∃ o',DA σ H.length (some o)=some o':=by cases o <;> exact ⟨_,rfl⟩
  obtain ⟨o',H2⟩:=e2;refine ⟨k,o',hk,?_,H2⟩;rw [H2] at e;rw [zAE Bn];rw [u8,zAE Bn] at e;exact congrArg some e
 have lw: ∀ {i k:Nat} {o':DO},σ[i]? =some k -> H[k]? =some (some o') -> ∃ o,h[i]? =some (some o)/\ DA σ H.length (some o)=some o':=fun {i k o'} hk ho=>by
  have C0:i<h.length:=by rw [←hl];exact (zAW.1 hk).1
  have e:=congrArg (·[i]?) hh;simp only [zBt,hk,zAE C0,zCA] at e;have e:H.getD k none=DA σ H.length h[i]:=zAV e;rw [Yh ho] at e;obtain ⟨o0,e0⟩:=QO e.symm;exact ⟨o0,by rw [zAE C0,e0],by rw [e0] at e;exact e.symm⟩
 obtain ⟨N0,HL⟩: ∃ N0:Nat -> Prop,N0=fun b=>N b∨∃ k o p,DX σ k=none/\ H[k]? =some (some o)/\ ρ[k]? =some p/\ p.foot b:=⟨_,rfl⟩
 have Ib: ∀ b,MO h ρ0 b -> MO H ρ b:=by
  rintro b ⟨i,o,p,g1,g2,g3⟩;obtain ⟨k,o',e1,e2,_⟩:=G4 g1;exact ⟨k,o',p,e2,(FE e1).symm.trans g2,g3⟩
 have Oj: ∀ b,MS N0 h ρ0 b -> MS N H ρ b:=by
  rintro b (hb | hb)
  ·rw [HL] at hb;rcases hb with hb | ⟨k,o,p,_,g1,g2,g3⟩
   ·exact .inl hb
   ·exact .inr ⟨k,o,p,g1,g2,g3⟩
  ·exact .inr (Ib b hb)
 have ms1: ∀ b,MS N H ρ b -> MS N0 h ρ0 b:=by
  rintro b (hb | ⟨k,o,p,g1,g2,g3⟩)
  ·exact .inl (by rw [HL];exact .inl hb)
  ·cases hk:DX σ k with
   | none=>exact .inl (by rw [HL];exact .inr ⟨k,o,p,hk,g1,g2,g3⟩)
   | some i=>
    have hi:=KA hk;obtain ⟨o0,e1,_⟩:=lw hi g1;exact .inr ⟨i,o0,p,e1,(FE hi).trans g2,g3⟩
 have dn: ∀ (k:Nat) (p:AE),ρ[DI σ H.length k]? =some p -> ρ0[k]? =some p:=fun k p hp=>by
  by_cases hk:k<σ.length
  ·obtain ⟨k',e1,e2⟩:=K0 hk;rw [e2] at hp;exact (FE e1).trans hp
  ·unfold DI at hp;rw [zAY hk] at hp;have:=(zAW.1 hp).1;rw [HR.len] at this;omega
 have foreign: ∀ {b:Nat},N0 b -> ¬ MO h ρ0 b:=by
  rintro b hb ⟨i,o,p,g1,g2,g3⟩;obtain ⟨k,o',e1,e2,_⟩:=G4 g1;have hp:=(FE e1).symm.trans g2;rw [HL] at hb;rcases hb with hb | ⟨k',o2,p2,q1,q2,q3,q4⟩
  ·exact (HR.cel k o' p b e2 hp g3).2.1 hb
  ·refine HR.dis k k' o' o2 p p2 b ?_ e2 q2 hp q3 g3 q4;rintro rfl;rw [Qg hn e1] at q1;cases q1
 have H0:Ag P Γ N0 h ρ0 w:=by
  refine ⟨by rw [UQ,hl],fun i o hi=>?_,fun i o p b g1 g2 g3=>?_,fun i i' o1 o2 p1 p2 b AR g1 g2 g3 g4 g5 g6=>?_,fun b hb=>HR.lt2 (Oj b (.inl hb)),HR.gi⟩
  ·obtain ⟨k,o',e1,e2,e3⟩:=G4 hi;obtain ⟨p,hp,hr⟩:=HR.obj k o' e2;exact ⟨p,(FE e1).trans hp,pY Oj dn e3 hr⟩
  ·obtain ⟨k,o',e1,e2,e3⟩:=G4 g1;obtain ⟨q1,q2,q3⟩:=HR.cel k o' p b e2 ((FE e1).symm.trans g2) g3;exact ⟨q1,fun hb=>foreign hb ⟨i,o,p,g1,g2,g3⟩,q3⟩
  ·obtain ⟨k,o',e1,e2,e3⟩:=G4 g1;obtain ⟨k',bI,Rq,VT,e3'⟩:=G4 g2;refine HR.dis k k' o' bI p1 p2 b ?_ e2 VT ((FE e1).symm.trans g3) ((FE Rq).symm.trans g4) g5 g6;rintro rfl;have a1:=Qg hn e1;have a2:=Qg hn Rq;exact AR (zAV (a1.symm.trans a2))
 refine (Ej.2 N0 ρ0 w args H0 ⟨by rw [←CD.1];simp,fun i hi=>?_⟩).mono ?_
 ·have:=CD.2 i (by simpa using hi);have e:(ds.map (up σ H.length)).getD i .any=up σ H.length (ds.getD i .any):=by simp [hi]
  rw [e] at this;exact Y1 Oj dn _ this
 ·rintro e w' ⟨v,rfl,⟨⟨ρ1,g1,g2,g3,g4⟩,g5⟩⟩;have l1:ρ1.length=h'.length:=g1.len;obtain ⟨ρ',G8⟩: ∃ ρ',ρ'=ρ++ρ1.drop σ.length:=⟨_,rfl⟩
  have Vy: ∀ {i k:Nat},σ[i]? =some k -> ρ1[i]? =ρ[k]? :=fun {i k} hk=>by
   have C0:i<ρ0.length:=by rw [UQ];exact (zAW.1 hk).1
   have:=g4 i ρ0[i] (by simp [C0]);rw [this,←FE hk];simp [C0]
  have FY: ∀ {k:Nat},k<H.length -> ρ'[k]? =ρ[k]? :=fun {k} hk=>by rw [G8,zBc (by rw [HR.len];exact hk)]
  have Sf: ∀ (k:Nat) (p:AE),ρ1[k]? =some p -> ρ'[DI σ H.length k]? =some p:=fun k p hp=>by
   by_cases hk:k<σ.length
   ·obtain ⟨k',e1,e2⟩:=K0 hk;rw [e2,FY (AK k' (zB9 e1)),←Vy e1];exact hp
   ·unfold DI;rw [zAY hk,G8,zBg (by rw [HR.len];omega),zFh,HR.len];rw [show σ.length+(H.length+(k-σ.length)-H.length)=k by omega];exact hp
  have bg:(DD H σ h').length=H.length+(h'.length-σ.length):=by simp [DD]
  have HT: ∀ {k:Nat} {o':DO},(DD H σ h')[k]? =some (some o') -> (k<H.length/\ DX σ k=none/\ H[k]? =some (some o')/\ ρ'[k]? =ρ[k]?)∨∃ i o,h'[i]? =some (some o)/\ DA σ H.length (some o)=some o'/\ ρ'[k]? =ρ1[i]? /\ k=DI σ H.length i:=by
   intro k o' hk
   by_cases Bn:k<H.length
   ·unfold DD at hk;rw [zBc (by simpa using Bn),zBt,zGC Bn] at hk;simp only [zCA,zCW] at hk;split at hk
    ·rename_i i hi;have Lb:=KA hi;obtain ⟨o0,e0⟩:=QO hk;have C0:i<h'.length:=zBa (by rw [←hl];exact (zAW.1 Lb).1) Eh;rw [e0] at hk;refine .inr ⟨i,o0,?_,hk,?_,?_⟩
     ·rw [zAE C0];rw [u8,zAE C0] at e0;exact congrArg some e0
     ·rw [FY Bn,Vy Lb]
     ·obtain ⟨k2,e1,e2⟩:=K0 (zAW.1 Lb).1;rw [e2];exact zAV (Lb.symm.trans e1)
    ·rename_i hi;refine .inl ⟨Bn,hi,?_,FY Bn⟩;rw [zAE Bn];rw [u8,zAE Bn] at hk;exact congrArg some hk
   ·unfold DD at hk;rw [zBg (by simp;omega),zBt,zFh] at hk;simp only [zCM,zF8] at hk;cases hx:h'[σ.length+(k-H.length)]? with
    | none=>rw [hx] at hk;cases hk
    | some x=>
     rw [hx] at hk;have hk:DA σ H.length x=some o':=zAV hk;obtain ⟨o0,e0⟩:=QO hk;subst e0;refine .inr ⟨σ.length+(k-H.length),o0,hx,hk,?_,?_⟩
     ·rw [G8,zBg (by rw [HR.len];omega),zFh,HR.len]
     ·unfold DI;rw [zAY (by omega)];omega
  have back: ∀ {k:Nat} {o:DO},DX σ k=none -> H[k]? =some (some o) -> (DD H σ h')[k]? =some (some o):=by
   intro k o hk ho;have Bn:=(zAW.1 ho).1;unfold DD;rw [zBc (by simpa using Bn),zBt,zGC Bn];simp only [zCA,hk,Yh ho]
  have mJ: ∀ b,MS N (DD H σ h') ρ' b -> MS N0 h' ρ1 b:=by
   rintro b (hb | ⟨k,o',p,q1,q2,q3⟩)
   ·exact .inl (by rw [HL];exact .inl hb)
   ·rcases HT q1 with ⟨a1,a2,a3,a4⟩ | ⟨i,o,a1,a2,a3,a4⟩
    ·exact .inl (by rw [HL];exact .inr ⟨k,o',p,a2,a3,a4.symm.trans q2,q3⟩)
    ·exact .inr ⟨i,o,p,a1,a3.symm.trans q2,q3⟩
  have grow: ∀ b,MO (DD H σ h') ρ' b -> MO H ρ b∨w.heap.size<=b:=by
   rintro b ⟨k,o',p,q1,q2,q3⟩;rcases HT q1 with ⟨a1,a2,a3,a4⟩ | ⟨i,o,a1,a2,a3,a4⟩
   ·exact .inl ⟨k,o',p,a3,a4.symm.trans q2,q3⟩
   ·exact (g3.grow b ⟨i,o,p,a1,a3.symm.trans q2,q3⟩).imp (Ib b) id
  have pl: ∀ (k:Nat) (p:AE),ρ[k]? =some p -> ρ'[k]? =some p:=fun k p hp=>by
   rw [G8,zBc (zAW.1 hp).1];exact hp
  have O:BH (MS N H ρ) w ρ (MS N (DD H σ h') ρ') w' ρ':=
   ⟨fun b hb hm _=>g3.upd.block b hb fun hx=>hm (.inr (Ib b hx)),fun b hb=>hb.elim (fun hb=>.inl (.inl hb)) (fun hb=>(grow b hb).imp .inr id),pl⟩
  refine ⟨v,rfl,⟨⟨ρ',⟨?_,fun k o' hk=>?_,fun k o' p b q1 q2 q3=>?_,fun k k' o1 o2 p1 p2 b AR q1 q2 q3 q4 q5 q6=>?_,fun b hb=>⟨zBa (HR.nlt b hb).1 g3.upd.size,(HR.nlt b hb).2⟩,g1.gi⟩,Zp mJ Sf _ g2,⟨g3.upd.mono fun b _ hb=>Ib b hb,grow⟩,pl⟩,g5⟩,g3.upd.mono fun b _ ⟨i,o,p,q1,q2,q3⟩=>?_⟩
  ·rw [bg,G8];simp [HR.len,l1]
  ·rcases HT hk with ⟨a1,a2,a3,a4⟩ | ⟨i,o,a1,a2,a3,a4⟩
   ·obtain ⟨p,hp,hr⟩:=HR.obj k o' a3;refine ⟨p,a4.trans hp,hr.out O g3.upd (fun b hb=>.inr (Ib b hb)) fun b _ hf hs=>?_⟩;exact foreign (by rw [HL];exact .inr ⟨k,o',p,a2,a3,hp,hf⟩) hs
   ·obtain ⟨p,hp,hr⟩:=g1.obj i o a1;exact ⟨p,a3.trans hp,sC mJ Sf a2 hr⟩
  ·rcases HT q1 with ⟨a1,a2,a3,a4⟩ | ⟨i,o,a1,a2,a3,a4⟩
   ·have hp:=a4.symm.trans q2;obtain ⟨c1,c2,c,t,z,c3⟩:=HR.cel k o' p b a3 hp q3;refine ⟨c1,c2,c,t,z,(g3.upd.block b (zAL.1 c3).1 fun hx=>?_).trans c3⟩;exact foreign (by rw [HL];exact .inr ⟨k,o',p,a2,a3,hp,q3⟩) hx
   ·obtain ⟨c1,c2,c3⟩:=g1.cel i o p b a1 (a3.symm.trans q2) q3;exact ⟨c1,fun hb=>c2 (by rw [HL];exact .inl hb),c3⟩
  ·rcases HT q1 with ⟨a1,a2,a3,a4⟩ | ⟨i,o,a1,a2,a3,a4⟩
   ·rcases HT q2 with ⟨c1,c2,c3,c4⟩ | ⟨i',o',c1,c2,c3,c4⟩
    ·exact HR.dis k k' o1 o2 p1 p2 b AR a3 c3 (a4.symm.trans q3) (c4.symm.trans q4) q5 q6
    ·exact (g1.cel i' o' p2 b c1 (c3.symm.trans q4) q6).2.1 (by rw [HL];exact .inr ⟨k,o1,p1,a2,a3,a4.symm.trans q3,q5⟩)
   ·rcases HT q2 with ⟨c1,c2,c3,c4⟩ | ⟨i',o',c1,c2,c3,c4⟩
    ·exact (g1.cel i o p1 b a1 (a3.symm.trans q3) q5).2.1 (by rw [HL];exact .inr ⟨k',o2,p2,c2,c3,c4.symm.trans q4,q6⟩)
    ·refine g1.dis i i' o o' p1 p2 b ?_ a1 c1 (a3.symm.trans q3) (c3.symm.trans q4) q5 q6;rintro rfl;exact AR (a4.trans c4.symm)
  ·obtain ⟨k,o',e1,e2,_⟩:=G4 q1;exact ⟨k,o',p,zB9 e1,e2,(FE e1).symm.trans q2,q3⟩
theorem ES.embed {f:Nat}{ds:List DV}{h:DH}{d:DV}{h':DH}{ext:Bool}(Ej:ES P Γ f ds h d h' ext)(σ:List Nat)(H:DH)(hn:σ.Nodup)(AK: ∀ k∈σ,k<H.length)(hl:σ.length=h.length)(Eh:h.length<=h'.length) 
 (hh:(σ.map fun k=>H.getD k none)=h.map (DA σ H.length)):ES P Γ f (ds.map (up σ H.length)) H (up σ H.length d) (DD H σ h') ext:=
 let ⟨h1,h2⟩:=Ej.embedX σ H hn AK hl Eh hh
 ⟨h1,fun N ρ w args HR ha=>(h2 N ρ w args HR ha).mono fun _ _ ⟨v,e,g,_⟩=>⟨v,e,g⟩⟩
def NV (σ:List Nat)(n l l':Nat):Bool:=decide σ.Nodup&&σ.all (fun k=>decide (k<n))&&decide (σ.length=l)&&decide (l<=l')
theorem ES.embedB {f:Nat}{ds:List DV}{h:DH}{d:DV}{h':DH}{ext:Bool}(Ej:ES P Γ f ds h d h' ext)(σ:List Nat)(H:DH)(hb:NV σ H.length h.length h'.length=true)(hh:(σ.map fun k=>H.getD k none)=h.map (DA σ H.length)) 
 {Ek:List DV} {d1:DV} {H1:DH} (e:(ds.map (up σ H.length),up σ H.length d,DD H σ h')=(Ek,d1,H1)):ES P Γ f Ek H d1 H1 ext:=by
 simp only [NV,zAO,zCJ,zAX] at hb;cases e;exact Ej.embed σ H hb.1.1.1 (fun k hk=>hb.1.1.2 k hk) hb.1.2 hb.2 hh
end
end Go.Proofs.YtodinaconebmdaaGreatDoor
