/- Part 2 of 7 of what the proofs of these laws stand on. -/
import Derived.Test.YtkjbblkieglmlaaGreatDoorPuA
import Derived.MapKept
import Derived.Test.YtkjbblkieglmlaaGreatDoorProg
import Derived.Shelf.Spec.TrailingZeros
set_option linter.all false
namespace Go.Proofs.YtkjbblkieglmlaaGreatDoor
abbrev zC1:=@List.mem_append
abbrev zDF:=@Bool.eq_iff_iff
abbrev zDK:=@Go.MapKept.run_getObj_map
abbrev zDu:=@List.not_mem_nil
abbrev zD7:=@beq_self_eq_true
abbrev zGm:=@bne_self_eq_false
abbrev zGt:=@Go.MapKept.run_setObj_map
abbrev zHJ:=@Go.MapKept.run_findKey
abbrev zHO:=@List.nodup_cons
abbrev zHY:=@List.Perm.refl
open Go.RowKit
def Ti (P:Program)(t:TypeId):Bool:=match P.underlying t with
 | some (.int .i64)=>true
 | _=>false
theorem bc {P:Program}{t:TypeId}(h:Ti P t=true):P.underlying t=some (.int .i64):=by
 unfold Ti at h;split at h
 ·assumption
 ·cases h
def Gl (P:Program)(t:TypeId):Option Nat:=match P.underlying t with
 | some (.int .i64)=>some 1
 | some (.struct fs)=>match fs.toList with
  | [f,g]=>if f.name != "_" &&g.name != "_" &&decide (f.offset=0)&&decide (g.offset=1)&&Ti P f.type&&Ti P g.type&&!P.stoodInHeld t then some 2 else none
  | _=>none
 | _=>none
section
variable {P:Program} {w:World} {t:TypeId}
theorem QQ {n:Nat}(h:Gl P t=some n):(n=1/\ P.underlying t=some (.int .i64))∨∃ f g fs,n=2/\ P.underlying t=some (.struct fs)/\ fs.toList= [f,g]/\ f.name≠ "_" /\ g.name≠ "_" /\ f.offset=0/\ g.offset=1/\ P.underlying f.type=some (.int .i64)/\ P.underlying g.type=some (.int .i64)/\ P.stoodInHeld t=false:=by
 unfold Gl at h;split at h
 ·exact .inl ⟨(zAe h).symm,by assumption⟩
 ·rename_i fs hu;split at h
  ·rename_i f g hf;split at h
   ·rename_i hc;simp only [zAW,zC8,ne_eq,zCQ,zCw] at hc;obtain ⟨⟨⟨⟨⟨⟨h1,h2⟩,h3⟩,h4⟩,h5⟩,h6⟩,h7⟩:=hc;exact .inr ⟨f,g,fs,(zAe h).symm,hu,hf,h1,h2,h3,h4,bc h5,bc h6,h7⟩
   ·cases h
  ·cases h
 ·cases h
theorem Pu {t:TypeId}(h:P.underlying t=some (.int .i64))(cs:Array Value)(o:Nat)(v:Value)(hv:cs[o]? =some v):(part t cs o).run P w= .ok v w:=by
 unfold part;rw [zA6,Sb h];simp [Result.andThen,IN,h,hv]
theorem W8 {x:List Int}(h:x.length=2): ∃ a b,x= [a,b]:=by
 match x,h with
 | [a,b],_=>exact ⟨a,b,rfl⟩
theorem OT {x:List Int}(h:x.length=1): ∃ a,x= [a]:=by
 match x,h with
 | [a],_=>exact ⟨a,rfl⟩
theorem QP {n:Nat}(hk:Gl P t=some n){x:List Int}(hx:x.length=n)(e:Bool):(Instr.checkKey e 10000 t (BR x)).run P w= .ok () w:=by
 rcases QQ hk with ⟨rfl,hu⟩ | ⟨f,g,fs,rfl,hu,hf,n1,n2,o1,o2,t1,t2,_⟩
 ·obtain ⟨a,rfl⟩:=OT hx;exact MapKept.run_checkKey hu (by trivial) e 9999
 ·obtain ⟨a,b,rfl⟩:=W8 hx
  show (Instr.checkKey e (9999+1) t (.agg #[.int .i64 a,.int .i64 b])).run P w=_
  unfold Instr.checkKey;have c1: ∀ a,(Instr.checkKey e 9999 f.type (.int .i64 a)).run P w= .ok () w:=fun a=>MapKept.run_checkKey t1 (by trivial) e 9998
  have c2: ∀ a,(Instr.checkKey e 9999 g.type (.int .i64 a)).run P w= .ok () w:=fun a=>MapKept.run_checkKey t2 (by trivial) e 9998
  simp only [zA6,zCY hu,Result.andThen];rw [←Array.forIn_toList,hf];simp only [List.forIn_cons,List.forIn_nil,n1,n2,ne_eq,not_false_eq_true,zC9,o1,o2,zA6];rw [Pu t1 _ 0 (.int .i64 a) rfl];simp only [Result.andThen,c1,zHB,zA6];rw [Pu t2 _ 1 (.int .i64 b) rfl];simp only [Result.andThen,c2,zHB]
theorem zf {n:Nat}(hk:Gl P t=some n){x y:List Int}(hx:x.length=n)(hy:y.length=n):(Op.equal t (BR x) (BR y)).run P w= .ok (x==y) w:=by
 rcases QQ hk with ⟨rfl,hu⟩ | ⟨f,g,fs,rfl,hu,hf,n1,n2,o1,o2,t1,t2,hs⟩
 ·obtain ⟨a,rfl⟩:=OT hx;obtain ⟨b,rfl⟩:=OT hy
  show (Op.equalIn (9999+1) t (.int .i64 a) (.int .i64 b)).run P w=_
  rw [zHs w 9999 t .i64 .i64 a b hu]
  congr 1
  rw [zDF];simp
 ·obtain ⟨a,b,rfl⟩:=W8 hx;obtain ⟨c,d,rfl⟩:=W8 hy;have hF:P.fieldsOf t=fs:=by unfold Program.fieldsOf;rw [hu]
  show (Op.equalIn (9999+1) t (.agg #[.int .i64 a,.int .i64 b]) (.agg #[.int .i64 c,.int .i64 d])).run P w=_
  rw [run_equalIn_struct w 9999 t _ _ (by rw [hF];exact hu) hs,hF,hf];have e1: ∀ a c:Int,(Op.equalIn 9999 f.type (.int .i64 a) (.int .i64 c)).run P w= .ok (a==c) w:=fun a c=>zHs w 9998 f.type .i64 .i64 a c t1
  have e2: ∀ a c:Int,(Op.equalIn 9999 g.type (.int .i64 a) (.int .i64 c)).run P w= .ok (a==c) w:=fun a c=>zHs w 9998 g.type .i64 .i64 a c t2
  simp only [Op.eqFields,n1,n2,ne_eq,not_false_eq_true,zC9,o1,o2,zA6];rw [Pu t1 _ 0 (.int .i64 a) rfl];simp only [Result.andThen];rw [Pu t1 _ 0 (.int .i64 c) rfl];simp only [Result.andThen,e1,Sem.run_ite]
  by_cases h1:a=c
  ·subst h1;simp only [zD7,zCs,zCe,zGQ,zA6];rw [Pu t2 _ 1 (.int .i64 b) rfl];simp only [Result.andThen];rw [Pu t2 _ 1 (.int .i64 d) rfl];simp only [Result.andThen,e2,Sem.run_ite]
   by_cases h2:b=d
   ·subst h2;simp
   ·have:([a,b]== [a,d])=false:=by simp [h2]
    have Mw:(b==d)=false:=by simp [h2]
    simp [Mw,h2]
  ·have LV:(a==c)=false:=by simp [h1]
   simp [LV,h1]
theorem ze {n:Nat}(hk:Gl P t=some n){x:List Int}(hx:x.length=n){ks:KS}(EW: ∀ y∈ks,y.length=n){es:List MapEntry}(he: ∀ e∈es,∃ y∈ks,e.key=BR y):
 ((Instr.findKey t (BR x) es).run P w= .ok none w/\ ∀ e∈es,e.key≠BR x)∨∃ j e,(Instr.findKey t (BR x) es).run P w= .ok (some (j,e.val)) w/\ es[j]? =some e/\ e.key=BR x:=by
 have ask: ∀ (es:List MapEntry) (i:Nat),(∀ e∈es,∃ y∈ks,e.key=BR y) -> ((Instr.findAsking t (BR x) es i).run P w= .ok none w/\ ∀ e∈es,e.key≠BR x)∨∃ j e,(Instr.findAsking t (BR x) es i).run P w= .ok (some (i+j,e.val)) w/\ es[j]? =some e/\ e.key=BR x:=by
  intro es
  induction es with
  | nil=>intro i _;exact .inl ⟨rfl,fun e he=>by cases he⟩
  | cons e es ih=>
   intro i he;obtain ⟨y,hy,B6⟩:=he e (by simp);have h1:(Op.equal t (BR x) e.key).run P w= .ok (x==y) w:=by rw [B6];exact zf hk hx (EW y hy)
   by_cases XQ:x=y
   ·subst XQ;exact .inr ⟨0,e,by simp [Instr.findAsking,h1,Result.andThen],rfl,B6⟩
   ·have hf:(x==y)=false:=by simp [XQ]
    rcases ih (i+1) (fun e Gs=>he e (by simp [Gs])) with ⟨g1,g2⟩ | ⟨j,e',g1,g2,g3⟩
    ·refine .inl ⟨by simp [Instr.findAsking,h1,hf,Result.andThen,g1],fun e' Gs=>?_⟩;rcases zCD.1 Gs with rfl | Gs
     ·rw [B6];exact fun h=>XQ (mG h).symm
     ·exact g2 e' Gs
    ·exact .inr ⟨j+1,e',by simp [Instr.findAsking,h1,hf,Result.andThen,g1];omega,by simpa using g2,g3⟩
 rcases QQ hk with ⟨rfl,hu⟩ | ⟨f,g,fs,rfl,hu,_⟩
 ·obtain ⟨a,rfl⟩:=OT hx
  rcases MapKept.findNow_spec (d:=.int .i64) (k:=.int .i64 a) (by trivial) es 0 (fun e hm=>by
   obtain ⟨y,hy,B6⟩:=he e hm;obtain ⟨b,rfl⟩:=OT (EW y hy);rw [B6];trivial) with ⟨h1,h2⟩ | ⟨j,e,h1,h2,h3⟩
  ·exact .inl ⟨zHJ hu h1,h2⟩
  ·exact .inr ⟨j,e,by have:=zHJ (w:=w) hu h1;rw [zA8] at this;exact this,h2,h3⟩
 ·have hn: ∀ es:List MapEntry,(∀ e∈es,∃ y∈ks,e.key=BR y) -> (Instr.findKey t (BR x) es).run P w=(match es with | []=>.ok none w | _=>(Instr.findAsking t (BR x) es 0).run P w):=fun es he=>by
   cases es with
   | nil=>simp [Instr.findKey,zCY hu,Instr.findNow,Result.andThen]
   | cons e es=>
    have:Instr.findNow (.struct fs) (BR x) (e::es) 0=none:=by
     simp [Instr.findNow,Instr.sameNow]
    simp [Instr.findKey,zCY hu,this,Result.andThen]
  rw [hn es he];cases es with
  | nil=>exact .inl ⟨rfl,fun e he=>by cases he⟩
  | cons e es=>
   rcases ask (e::es) 0 he with h | ⟨j,e',g1,g2⟩
   ·exact .inl h
   ·exact .inr ⟨j,e',by simpa using g1,g2⟩
theorem zd {n:Nat}(hk:Gl P t=some n){x:List Int}(hx:x.length=n):(Instr.keyThatStays (BR x) (BR x)).run P w= .ok (BR x) w:=by
 rcases QQ hk with ⟨rfl,hu⟩ | ⟨f,g,fs,rfl,hu,_⟩
 ·obtain ⟨a,rfl⟩:=OT hx;exact MapKept.run_keyThatStays (d:=.int .i64) (by trivial)
 ·obtain ⟨a,b,rfl⟩:=W8 hx
  have:Instr.sameBits 10000 (BR [a,b]) (BR [a,b])=true:=by
   show Instr.sameBits (9998+1+1) (.agg #[.int .i64 a,.int .i64 b]) (.agg #[.int .i64 a,.int .i64 b])=true
   simp [Instr.sameBits]
  simp [Instr.keyThatStays,this]
end
/-! ### Sets in order-/
def lW:List Int -> List Int -> Bool
 | _,[]=>false
 | [],_::_=>true
 | a::r,b::s=>decide (a<b)||(a==b&&lW r s)
def XD (x:List Int):KS -> KS
 | []=>[x]
 | y::r=>if lW x y then x::y::r else y::XD x r
def Ca (x:List Int)(l:KS):KS:=if l.contains x then l else XD x l
theorem mP (x:List Int): ∀ l:KS,(XD x l).Perm (x::l)
 | []=>zHY _
 | y::r=>by
  unfold XD;split
  ·exact zHY _
  ·exact ((mP x r).cons y).trans (List.Perm.swap x y r)
theorem kE {x:List Int}{l:KS}(h:x∈l):Ca x l=l:=by unfold Ca;simp [h]
theorem aL {x:List Int}{l:KS}(h:x∉l):(Ca x l).Perm (x::l):=by unfold Ca;simp [h];exact mP x l
theorem OK {x y:List Int}{l:KS}:y∈Ca x l↔y=x∨y∈l:=by
 by_cases h:x∈l
 ·rw [kE h];exact ⟨.inr,fun h'=>h'.elim (fun e=>e▸h) id⟩
 ·rw [(aL h).mem_iff];simp
section
variable {P:Program} {w:World} {b n:Nat} {l:KS} {es:Array MapEntry} {Ac:Nat}
theorem E1.key (h:E1 w b n l es Ac): ∀ e∈es.toList,∃ y∈l,e.key=BR y:=fun e he=>by
 have:e.key∈es.toList.map (·.key):=zDA.2 ⟨e,he,rfl⟩;obtain ⟨y,h1,h2⟩:=zDA.1 (h.keys.mem_iff.1 this);exact ⟨y,h1,h2.symm⟩
theorem E1.has (h:E1 w b n l es Ac){x:List Int}:x∈l↔∃ e∈es.toList,e.key=BR x:=by
 constructor
 ·intro hx;have:BR x∈l.map BR:=zDA.2 ⟨x,hx,rfl⟩;obtain ⟨e,h1,h2⟩:=zDA.1 (h.keys.mem_iff.2 this);exact ⟨e,h1,h2⟩
 ·rintro ⟨e,h1,h2⟩;obtain ⟨y,h3,h4⟩:=h.key e h1;exact mG (h2.symm.trans h4)▸h3
theorem E1.find (h:E1 w b n l es Ac){t:TypeId}(hk:Gl P t=some n){x:List Int}(hx:x.length=n):
 (x∉l/\ (Instr.findKey t (BR x) es.toList).run P w= .ok none w)∨(x∈l/\ ∃ j e,(Instr.findKey t (BR x) es.toList).run P w= .ok (some (j,.bool true)) w/\ es[j]? =some e/\ e.key=BR x/\ e.val= .bool true):=by
 rcases ze (w:=w) hk hx h.len h.key with ⟨h1,h2⟩ | ⟨j,e,h1,h2,h3⟩
 ·exact .inl ⟨fun hx=>by obtain ⟨e,g1,g2⟩:=h.has.1 hx;exact h2 e g1 g2,h1⟩
 ·have hm:e∈es.toList:=zCi h2;have hv:=h.tru e hm;exact .inr ⟨h.has.2 ⟨e,hm,h3⟩,j,e,by rw [←hv];exact h1,by simpa using h2,h3,hv⟩
theorem Rj {w:World}{b:Nat}(o:Obj):AO (fun k=>k=b) w { w with heap:=w.heap.setIfInBounds b o }:=
 ⟨rfl,rfl,rfl,by simp,fun k _ Ad=>by simp [zG9 Ad]⟩
theorem E1.put (h:E1 w b n l es Ac){mt kt et:TypeId}(hm:P.underlying mt=some (.map kt et))(hk:Gl P kt=some n){x:List Int}(hx:x.length=n):
 ∃ w' EM Ey,(Instr.mapUpdate mt (.map (some b)) (BR x) (.bool true)).run P w= .ok () w'/\ AO (fun k=>k=b) w w'/\ E1 w' b n (Ca x l) EM Ey:=by
 have AM:b<w.heap.size:=(zAZ.1 h.blk).1;rcases h.find hk hx with ⟨h1,h2⟩ | ⟨h1,j,e,h2,h3,h4,h5⟩
 ·refine ⟨{ w with heap:=w.heap.setIfInBounds b (.map (es.push { key:=BR x,val:=.bool true,born:=Ac }) (Ac+1)) },es.push { key:=BR x,val:=.bool true,born:=Ac },Ac+1,?_,Rj _,?_⟩
  ·simp [Instr.mapUpdate,zCY hm,zDK h.blk,QP hk hx,h2,zGt _ h.blk,Result.andThen]
  ·refine ⟨by simp [AM],?_,((aL h1).nodup_iff).2 (zHO.2 ⟨h1,h.nd⟩),fun y hy=>?_,fun e he=>?_,fun e he=>?_,?_⟩
   ·have e1:((es.push { key:=BR x,val:=.bool true,born:=Ac }).toList.map (·.key))=es.toList.map (·.key)++[BR x]:=by simp
    rw [e1];refine (List.perm_append_comm).trans ?_
    show (BR x::es.toList.map (·.key)).Perm _
    exact (h.keys.cons (BR x)).trans (((aL h1).map BR).symm)
   ·rcases OK.1 hy with rfl | hy
    ·exact hx
    ·exact h.len y hy
   ·simp only [Array.toList_push,zC1,zA1] at he;rcases he with he | rfl
    ·exact h.tru e he
    ·rfl
   ·simp only [Array.toList_push,zC1,zA1] at he;rcases he with he | rfl
    ·exact Nat.lt_succ_of_lt (h.born e he)
    ·exact Nat.lt_succ_self _
   ·have e1:((es.push { key:=BR x,val:=.bool true,born:=Ac }).toList.map (·.born))=es.toList.map (·.born)++[Ac]:=by simp
    rw [e1];refine List.nodup_append.2 ⟨h.stamps,by simp,fun a ha c hc=>?_⟩;obtain ⟨e,g1,g2⟩:=zDA.1 ha;have:=h.born e g1;simp at hc;omega
 ·have hj:j<es.size:=(zAZ.1 h3).1
  have hme:(es.modify j fun e=>{ e with key:=BR x,val:=.bool true })=es:=by
   apply Array.ext_getElem?;intro i;rw [zGi];split
   ·rename_i Qg;subst Qg;rw [h3]
    show some ({ e with key:=BR x,val:=.bool true }:MapEntry)=some e
    rw [←h4,←h5]
   ·rfl
  refine ⟨{ w with heap:=w.heap.setIfInBounds b (.map es Ac) },es,Ac,?_,Rj _,?_⟩
  ·have EW:((es[j]?).map (·.key)).getD (BR x)=BR x:=by rw [h3];exact h4
   simp [Instr.mapUpdate,zCY hm,zDK h.blk,QP hk hx,h2,EW,zd hk hx,zGt _ h.blk,Result.andThen,hme]
  ·rw [kE h1];exact { h with blk:=by simp [AM] }
theorem E1.look (h:E1 w b n l es Ac){mt kt et:TypeId}(hm:P.underlying mt=some (.map kt et))(hk:Gl P kt=some n){x:List Int}(hx:x.length=n)(hz:(zeroValue et).run P w= .ok (.bool false) w):
 (Instr.lookup mt (.map (some b)) (BR x) false).run P w= .ok (.bool (l.contains x)) w:=by
 rcases h.find hk hx with ⟨h1,h2⟩ | ⟨h1,j,e,h2,h3,h4,h5⟩
 ·have:l.contains x=false:=by simpa using h1
  simp [Instr.lookup,zCY hm,zDK h.blk,QP hk hx,h2,hz,Result.andThen,this,h1]
 ·have:l.contains x=true:=by simpa using h1
  simp [Instr.lookup,zCY hm,zDK h.blk,QP hk hx,h2,Result.andThen,this,h1]
end
/-! ### On gE view-/
def Ww (lk:Option (Nat×Nat×Array MapEntry×Nat))(i:Nat):Prop:=∀ y,lk=some y -> y.1≠i
section
variable {P:Program} {w w':World} {p:AH} {n:Nat} {ls:List (Option KS)} {lk:Option (Nat×Nat×Array MapEntry×Nat)} {vs:Array Value}
theorem FM.lies (h:FM w p n ls lk vs){b:Nat}(hb:p.foot b):Dm w b:=by
 rcases h.foot b hb with rfl | ⟨j,l,h1,h2⟩
 ·obtain ⟨cs,t,h3,_⟩:=h.row;exact .cells h3
 ·obtain ⟨b',g1,_,_,es,Ac,g2,_⟩:=h.has j l h1;have:b'=b:=by rw [g1] at h2;cases h2;rfl
  subst this;exact ⟨_,rfl,(),g2.blk⟩
theorem FM.put (h:FM w p n ls lk vs){i b:Nat}{l l':KS}{es:Array MapEntry}{Ac:Nat}(hi:ls[i]? =some (some l))(hb:vs[i]? =some (Value.map (some b)))(hu:AO (fun k=>k=b) w w')(hm:E1 w' b n l' es Ac)(cT:Ww lk i):FM w' p n (ls.set i (some l')) lk vs:=by
 have Ew:i<ls.length:=(zAf.1 hi).1;obtain ⟨b0,g1,g2,g3,_⟩:=h.has i l hi;have:b0=b:=by rw [g1] at hb;cases hb;rfl
 subst this
 have JB: ∀ {j:Nat} {x:Option KS},(ls.set i (some l'))[j]? =some x -> (j=i/\ x=some l')∨(j≠i/\ ls[j]? =some x):=fun {j x} hj=>by
  rw [zCE] at hj
  by_cases e:i=j
  ·subst e;simp [Ew] at hj;exact .inl ⟨rfl,hj.symm⟩
  ·rw [zAh e] at hj;exact .inr ⟨zG9 e,hj⟩
 refine ⟨h.val,by simp [h.size],?_,h.blk,fun j l1 hj=>?_,fun j hj=>?_,fun b' DN=>?_,h.inj⟩
 ·obtain ⟨cs,t,k1,k2⟩:=h.row;exact ⟨cs,t,(hu.block _ (zAZ.1 k1).1 (fun e=>g2 e.symm)).trans k1,by simpa using k2⟩
 ·rcases JB hj with ⟨rfl,e⟩ | ⟨Ad,hj⟩
  ·cases e;exact ⟨b0,hb,g2,g3,es,Ac,hm,fun y hy e=>absurd e (cT y hy)⟩
  ·obtain ⟨b1,k1,k2,k3,Ia,c1,k4,k5⟩:=h.has j l1 hj;refine ⟨b1,k1,k2,k3,Ia,c1,k4.out (hu.block _ (zAZ.1 k4.blk).1 fun e=>Ad ?_),k5⟩;subst e;exact h.inj j i b1 k1 hb
 ·rcases JB hj with ⟨rfl,e⟩ | ⟨Ad,hj⟩
  ·cases e
  ·exact h.nil j hj
 ·rcases h.foot b' DN with e | ⟨j,l1,k1,k2⟩
  ·exact .inl e
  ·by_cases e:j=i
   ·subst e;exact .inr ⟨j,l',by simp [Ew],k2⟩
   ·exact .inr ⟨j,l1,by rw [zCE,zAh (zG9 e)];exact k1,k2⟩
end
def W9 (n:Nat)(d:DV):Option (List Int):=match d with
 | .int .i64 a=>if n=1 then some [a] else none
 | .agg m f=>if m=n/\ n≠1 then if (List.range m).all fun j=>K7 (f j) then some ((List.range m).map fun j=>IP (f j)) else none else none
 | _=>none
def bU (n:Nat)(x:List Int):DV:=if n=1 then .int .i64 (x.getD 0 0) else .agg n (Gc n fun j=>.int .i64 (x.getD j 0))
section
variable {P:Program} {w:World} {ρ:List AH} {M:Nat -> Prop}
theorem mH {x:List Int}(h:x.length≠1):BR x= .agg (x.map fun a=>.int .i64 a).toArray:=by
 unfold BR;split
 ·simp at h
 ·rfl
theorem mI {n:Nat}{d:DV}{x:List Int}{v:Value}(h:W9 n d=some x)(hr:AK M w d ρ v):v=BR x/\ x.length=n:=by
 unfold W9 at h;split at h
 ·split at h
  ·cases h;exact ⟨hr,by simp;omega⟩
  ·cases h
 ·rename_i m f;split at h
  ·rename_i hm;split at h
   ·rename_i ha;cases h;have hl:((List.range m).map fun j=>IP (f j)).length=m:=by simp
    refine ⟨?_,by rw [hl];exact hm.1⟩;obtain ⟨cs,rfl,hs,hc⟩:=hr;rw [mH (by rw [hl];omega)]
    congr 1
    apply Array.ext_getElem?;intro j
    by_cases hj:j<m
    ·obtain ⟨u,e1,e2⟩:=hc j hj;have:=bX (zAg.1 ha j (zAn.2 hj)) e2;rw [e1,this];simp [hj]
    ·rw [zHV (by omega)];simp [hj]
   ·cases h
  ·cases h
 ·cases h
theorem zg {n:Nat}{x:List Int}(h:x.length=n):AK M w (bU n x) ρ (BR x):=by
 unfold bU;split
 ·rename_i e;subst e;obtain ⟨a,rfl⟩:=OT h;rfl
 ·rename_i e;rw [mH (by omega)];refine ⟨_,rfl,by simp [h],fun j hj=>?_⟩;rw [VZ hj];have BJ:j<x.length:=by omega
  exact ⟨.int .i64 (x.getD j 0),by simp [BJ],rfl⟩
end
def YB:Nat -> DH -> Option (Nat×Nat×List (Option KS)×Nat×Nat×Array MapEntry×Nat)
 | _,[]=>none
 | k,some (.mo (.sets n ls (some y)))::_=>some (k,n,ls,y)
 | k,_::r=>YB (k+1) r
theorem zDn {n:Nat}{ls:List (Option KS)}{y:Nat×Nat×Array MapEntry×Nat}{k:Nat}: ∀ (h:DH) (k0:Nat),YB k0 h=some (k,n,ls,y) -> k0<=k/\ h[k-k0]? =some (some (.mo (.sets n ls (some y)))):=by
 intro h
 induction h with
 | nil=>intro k0 e;cases e
 | cons x r ih=>
  intro k0 e
  have step:YB (k0+1) r=some (k,n,ls,y) -> k0<=k/\ (x::r)[k-k0]? =some (some (.mo (.sets n ls (some y)))):=fun e=>by
   obtain ⟨h1,h2⟩:=ih (k0+1) e;refine ⟨by omega,?_⟩;have:k-k0=k-(k0+1)+1:=by omega
   rw [this];simpa using h2
  match x,e with
  | none,e=>exact step e
  | some (.cells _),e=>exact step e
  | some (.ints _),e=>exact step e
  | some (.bools _),e=>exact step e
  | some (.arr _ _ _),e=>exact step e
  | some (.iter _),e=>exact step e
  | some (.ro _),e=>exact step e
  | some (.mo (.set _ _)),e=>exact step e
  | some (.mo (.mit _ _ _ _ _ _)),e=>exact step e
  | some (.mo (.rows _ _)),e=>exact step e
  | some (.mo (.rws _ _)),e=>exact step e
  | some (.mo (.sets _ _ none)),e=>exact step e
  | some (.mo (.sets _ _ (some _))),e=>cases e;exact ⟨zA5 _,by simp⟩
def OL (P:Program)(t:TypeId):Option (Nat×TypeId):=match P.underlying t with
 | some (.map k e)=>match Gl P k with
  | some n=>match P.info? e with
   | some i=>match i.zero with
    | some (.bool false)=>some (n,k)
    | _=>none
   | none=>none
  | none=>none
 | _=>none
theorem bH {P:Program}{t k:TypeId}{n:Nat}(h:OL P t=some (n,k)): ∃ e,P.underlying t=some (.map k e)/\ Gl P k=some n/\ ∀ w,(zeroValue e).run P w= .ok (.bool false) w:=by
 unfold OL at h;split at h
 ·rename_i k' e hu;split at h
  ·rename_i n' hk;split at h
   ·rename_i i hi;split at h
    ·rename_i hz;cases h;exact ⟨e,hu,hk,fun w=>by simp [zeroValue,typeInfo,hi,hz]⟩
    ·cases h
   ·cases h
  ·cases h
 ·cases h
def WM (P:Program)(S:St)(t:TypeId)(m k x:DV):Option (DV×DH×List Prop×Bool):=match OL P t with
 | some (n,_)=>match W9 n k,x with
  | some x,.bool true=>match m with
   | .it j=>match S.h[j]? with
    | some (some (.mo (.set n' l)))=>if n'=n then some (.any,S.h.set j (some (.mo (.set n (Ca x l)))),[],false) else none
    | _=>none
   | .mri j i=>match S.h[j]? with
    | some (some (.mo (.sets n' ls lk)))=>if n'=n then some (.any,S.h.set j (some (.mo (.sets n (ls.set i (some (Ca x ((ls.getD i none).getD [])))) lk))),[(ls.getD i none).isSome=true,Ww lk i],false) else none
    | _=>none
   | _=>none
  | _,_=>none
 | none=>none
def bI (P:Program)(S:St):Op -> Option (DV×DH×List Prop×Bool)
 | .makeMap t none=>match OL P t with
  | some (n,_)=>some (.it S.h.length,S.h++[some (.mo (.set n []))],[],true)
  | none=>none
 | .mapUpdate t m k x=>WM P S t (AW S.fr m) (AW S.fr k) (AW S.fr x)
 | .insert t m k x=>WM P S t (AW S.fr m) (AW S.fr k) (AW S.fr x)
 | .lookup t m k false=>match OL P t with
  | some (n,_)=>match W9 n (AW S.fr k) with
   | some x=>match AW S.fr m with
    | .it j=>match S.h[j]? with
     | some (some (.mo (.set n' l)))=>if n'=n then some (.bool (l.contains x),S.h,[],true) else none
     | _=>none
    | .mri j i=>match S.h[j]? with
     | some (some (.mo (.sets n' ls _)))=>if n'=n then some (.bool (((ls.getD i none).getD []).contains x),S.h,[(ls.getD i none).isSome=true],true) else none
     | _=>none
    | _=>none
   | none=>none
  | none=>none
 | .range t m=>match OL P t with
  | some (n,_)=>match AW S.fr m with
   | .mri j i=>match S.h[j]? with
    | some (some (.mo (.sets n' ls (some (i',mb,es,Ac)))))=>if n'=n then some (.it S.h.length,S.h++[some (.mo (.mit n mb es Ac ((ls.getD i none).getD []) none))],[(ls.getD i none).isSome=true,i'=i],true) else none
    | _=>none
   | _=>none
  | none=>none
 | .entry m=>match AW S.fr m with
  | .it j=>match S.h[j]? with
   | some (some (.mo (.mit n mb es Ac _ (some x))))=>match YB 0 S.h with
    | some (_,_,ls,i,lS,EM,Ey)=>some (.tup 2 (Gc 2 fun c=>if c=0 then bU n x else .bool true),S.h,[(ls.getD i none).isSome=true,lS=mb,EM=es,Ey=Ac],true)
    | none=>none
   | _=>none
  | _=>none
 | _=>none
section
variable {P:Program} {Γ:At} {N:Nat -> Prop} {S:St} {ρ:List AH} {a:Act} {w:World}
theorem Qs {ls:List (Option KS)}{i:Nat}(h:(ls.getD i none).isSome=true):ls[i]? =some (some ((ls.getD i none).getD [])):=by
 rw [u8] at h ⊢;cases hx:ls[i]? with
 | none=>rw [hx] at h;cases h
 | some x=>
  rw [hx] at h;cases x with
  | none=>cases h
  | some l=>simp
theorem Zm (R:AR P Γ N S ρ a w){j n:Nat}{l:KS}{v:Value}(hk:S.h[j]? =some (some (.mo (.set n l))))(hv:AK (MS N S.h ρ) w (.it j) ρ v): ∃ p es Ac,ρ[j]? =some p/\ v= .map (some p.blk)/\ p.foot=(fun b=>b=p.blk)/\ p.val=Value.map (some p.blk)/\ E1 w p.blk n l es Ac:=by
 obtain ⟨p,hp,rfl⟩:=hv;obtain ⟨p',BC,h1,h2,es,Ac,h3⟩:=R.hr.obj j _ hk;have:p'=p:=zAe (BC.symm.trans hp);subst this;exact ⟨p',es,Ac,hp,h1,h2,h1,h3⟩
theorem Zl (R:AR P Γ N S ρ a w){j i n:Nat}{ls:List (Option KS)}{lk:Option (Nat×Nat×Array MapEntry×Nat)}{v:Value}(hk:S.h[j]? =some (some (.mo (.sets n ls lk))))(hv:AK (MS N S.h ρ) w (.mri j i) ρ v)(hs:(ls.getD i none).isSome=true):
 ∃ p vs b es Ac,ρ[j]? =some p/\ FM w p n ls lk vs/\ v= .map (some b)/\ vs[i]? =some (Value.map (some b))/\ p.foot b/\ E1 w b n ((ls.getD i none).getD []) es Ac/\ ∀ y,lk=some y -> y.1=i -> y.2=(b,es,Ac):=by
 obtain ⟨p,vs,hp,Fg,C5⟩:=hv;obtain ⟨p',BC,Bn,h1⟩:=R.hr.obj j _ hk;have:p'=p:=zAe (BC.symm.trans hp);subst this;have:Bn=vs:=by have:=h1.val.symm.trans Fg;cases this;rfl
 subst this;obtain ⟨b,g1,g2,g3,es,Ac,g4,g5⟩:=h1.has i _ (Qs hs);have:v= .map (some b):=by rw [g1] at C5;exact (zAe C5).symm
 exact ⟨p',Bn,b,es,Ac,hp,h1,this,g1,g3,g4,g5⟩
theorem Zq (R:AR P Γ N S ρ a w){d:DV}{v:Value}(hv:AK (MS N S.h ρ) w d ρ v):Ci P Γ N S.h ρ w true d S.h v w:=⟨⟨ρ,R.hr,hv,A5.refl _ _ _,fun _ _ h=>h⟩,fun _=>Aq.refl w⟩
theorem UM (H:A1 P Γ N S.h ρ w){ob:Obj}(DL:nZ ob=true){pl:AH}(FF:pl.foot=fun b=>b=w.heap.size){o:DO}{d:DV}{v:Value}(ho: ∀ M ρ',EC P M (w.alloc ob) ρ' pl o) 
 (hv: ∀ M ρ',ρ'[S.h.length]? =some pl -> AK M (w.alloc ob) d ρ' v) (ext:Bool):Ci P Γ N S.h ρ w ext d (S.h++[some o]) v (w.alloc ob):=by
 have hE:Aq w (w.alloc ob):=(Aq.refl w).allocR _;have hf: ∀ b,pl.foot b -> w.heap.size<=b:=fun b hb=>by rw [FF] at hb;exact Nat.le_of_eq (Eq.symm hb)
 have hb:(w.alloc ob).heap[w.heap.size]? =some ob:=zGf w _;refine ⟨⟨ρ++[pl],H.snoc hE (fun b hx=>⟨hf b hx,ob,DL,(),by rw [FF] at hx;rw [show b=w.heap.size from hx];exact hb⟩) (ho _ _),?_,A5.snoc H hE hf,fun k p hk=>Eh hk⟩,fun _=>hE⟩;exact hv _ _ (by rw [←H.len];simp)
theorem kF (R:AR P Γ N S ρ a w){t:TypeId}{m k x:Operand}{d:DV}{h':DH}{vs:List Prop}{ext:Bool}(hd:WM P S t (AW S.fr m) (AW S.fr k) (AW S.fr x)=some (d,h',vs,ext))(hv:BZ vs):
 ∃ w',(Instr.mapUpdate t (a.eval m) (a.eval k) (a.eval x)).run P w= .ok () w'/\ Ci P Γ N S.h ρ w ext d h' undef w':=by
 have rm:=Bj R m;have rk:=Bj R k;have rx:=Bj R x;unfold WM at hd;split at hd
 ·rename_i n kt hT;obtain ⟨e,hu,hk,hz⟩:=bH hT;split at hd
  ·rename_i xs hK hX;obtain ⟨ek,el⟩:=mI hK rk;rw [hX] at rx;have ex:a.eval x= .bool true:=rx;rw [ek,ex];split at hd
   ·rename_i j hM;split at hd
    ·rename_i n' l hO;split at hd
     ·rename_i hn;cases hd;subst hn;rw [hM] at rm;obtain ⟨p,es,Ac,hp,ev,FF,Fg,hA⟩:=Zm R hO rm;rw [ev];obtain ⟨w',EM,Ey,h1,h2,h3⟩:=hA.put hu hk el;have IT:AO p.foot w w':=by rw [FF];exact h2
      refine ⟨w',h1,⟨ρ,R.hr.write hO hp IT (fun b hb=>?_) ⟨Fg,FF,EM,Ey,h3⟩,trivial,A5.write hO hp IT,fun _ _ h=>h⟩,fun h=>by cases h⟩;rw [FF] at hb;exact ⟨_,rfl,(),by rw [show b=p.blk from hb];exact h3.blk⟩
     ·cases hd
    ·cases hd
   ·rename_i j i hM;split at hd
    ·rename_i n' ls lk hO;split at hd
     ·rename_i hn;cases hd;subst hn;obtain ⟨hs,cT,_⟩:=hv;rw [hM] at rm;obtain ⟨p,vs,b,es,Ac,hp,hS,ev,C5,Gq,hA,_⟩:=Zl R hO rm hs;rw [ev];obtain ⟨w',EM,Ey,h1,h2,h3⟩:=hA.put hu hk el;have IT:AO p.foot w w':=h2.mono fun c _ hc=>by rw [show c=b from hc];exact Gq
      have Mt:=hS.put (Qs hs) C5 h2 h3 cT;exact ⟨w',h1,⟨ρ,R.hr.write hO hp IT (fun b hb=>Mt.lies hb) ⟨vs,Mt⟩,trivial,A5.write hO hp IT,fun _ _ h=>h⟩,fun h=>by cases h⟩
     ·cases hd
    ·cases hd
   ·cases hd
  ·cases hd
 ·cases hd
theorem yt (es:Array MapEntry):leftOf es #[]=es:=by
 unfold leftOf;refine Array.filter_eq_self.2 fun x hx=>by simp
theorem vO {r bm In Ac:Nat}{seen:Array Nat}{es:Array MapEntry}{e:MapEntry}(hr:w.heap[r]? =some (.mapIter (some bm) In seen Ac))(hs:seen.back? =some e.born)(hb:w.heap[bm]? =some (.map es Ac))(he:e∈es.toList)(hn:(es.toList.map (·.born)).Nodup):
 (Instr.entry (.pointer (some ⟨r,0,none⟩))).run P w= .ok (.tuple #[e.key,e.val]) w:=by
 have hf:es.find? (·.born==e.born)=some e:=by rw [←Array.find?_toList];exact find_born e es.toList hn he
 simp only [Instr.entry,getObj,zA6,Sem.run,hr,hb,Result.andThen,hs,zGm,zCe,zGQ,hf];rfl
theorem yN (R:AR P Γ N S ρ a w)(o:Oper){d:DV}{h':DH}{vs:List Prop}{ext:Bool}(hd:bI P S o.op=some (d,h',vs,ext))(hv:BZ vs):BL P (execOp a.eval o) w (Ci P Γ N S.h ρ w ext d h'):=by
 unfold bI at hd;split at hd
 ·rename_i t ho;split at hd
  ·rename_i n kt hT;cases hd;refine BL.value (s:=Instr.makeMap t none) (by unfold execOp;rw [ho];rfl) (v:=.map (some w.heap.size)) (w':=w.alloc (.map #[] 0)) (by simp [Instr.makeMap,newObj];rfl) ?_;refine UM (ob:=.map #[] 0) (o:=.mo (.set n [])) (d:=.it S.h.length) (v:=.map (some w.heap.size)) (pl:=⟨w.heap.size,0,0,.map (some w.heap.size),fun b=>b=w.heap.size⟩) R.hr rfl rfl (fun M ρ'=>⟨rfl,rfl,#[],0,⟨zGf w _,by simp,List.nodup_nil,fun y hy=>absurd hy zDu,fun e he=>absurd he (by simp),fun e he=>absurd he (by simp),by simp⟩⟩) (fun M ρ' hp=>⟨_,hp,rfl⟩) true
  ·cases hd
 ·rename_i t m k x ho;obtain ⟨w',h1,h2⟩:=kF R hd hv;exact BL.skip (s:=Instr.mapUpdate t (a.eval m) (a.eval k) (a.eval x)) (by unfold execOp;rw [ho]) h1 h2
 ·rename_i t m k x ho;obtain ⟨w',h1,h2⟩:=kF R hd hv;exact BL.skip (s:=Instr.mapUpdate t (a.eval m) (a.eval k) (a.eval x)) (by unfold execOp;rw [ho]) h1 h2
 ·rename_i t m k ho;have rm:=Bj R m;have rk:=Bj R k;split at hd
  ·rename_i n kt hT;obtain ⟨e,hu,hk,hz⟩:=bH hT;split at hd
   ·rename_i xs hK;obtain ⟨ek,el⟩:=mI hK rk;split at hd
    ·rename_i j hM;split at hd
     ·rename_i n' l hO;split at hd
      ·rename_i hn;cases hd;subst hn;rw [hM] at rm;obtain ⟨p,es,Ac,hp,ev,FF,Fg,hA⟩:=Zm R hO rm;exact BL.value (s:=Instr.lookup t (a.eval m) (a.eval k) false) (by unfold execOp;rw [ho]) (by rw [ek,ev];exact hA.look hu hk el (hz w)) (Zq R rfl)
      ·cases hd
     ·cases hd
    ·rename_i j i hM;split at hd
     ·rename_i n' ls lk hO;split at hd
      ·rename_i hn;cases hd;subst hn;rw [hM] at rm;obtain ⟨p,vs,b,es,Ac,hp,hS,ev,C5,Gq,hA,_⟩:=Zl R hO rm hv.1;exact BL.value (s:=Instr.lookup t (a.eval m) (a.eval k) false) (by unfold execOp;rw [ho]) (by rw [ek,ev];exact hA.look hu hk el (hz w)) (Zq R rfl)
      ·cases hd
     ·cases hd
    ·cases hd
   ·cases hd
  ·cases hd
 ·rename_i t m ho;have rm:=Bj R m;split at hd
  ·rename_i n kt hT;obtain ⟨e,hu,hk,hz⟩:=bH hT;split at hd
   ·rename_i j i hM;split at hd
    ·rename_i n' ls i' mb es Ac hO;split at hd
     ·rename_i hn;cases hd;subst hn;obtain ⟨hs,hi,_⟩:=hv;subst hi;rw [hM] at rm;obtain ⟨p,vs,b,Ia,Ym,hp,hS,ev,C5,Gq,hA,hL⟩:=Zl R hO rm hs;have hL:=hL _ rfl rfl;cases hL;refine BL.value (s:=Instr.range t (a.eval m)) (by unfold execOp;rw [ho]) (by rw [ev];exact run_range_map w t _ _ _ _ _ hu hA.blk) ?_;refine UM (ob:=.mapIter (some mb) Ac #[] Ac) (o:=.mo (.mit n' mb es Ac ((ls.getD i' none).getD []) none)) (d:=.it S.h.length) (v:=.pointer (some ⟨w.heap.size,0,none⟩)) (pl:=⟨w.heap.size,0,0,.pointer (some ⟨w.heap.size,0,none⟩),fun b=>b=w.heap.size⟩) R.hr rfl rfl (fun M ρ'=>⟨fun x hx=>hx.elim (hA.len x) (fun e=>by cases e),rfl,rfl,#[],zGf w _,by rw [yt];exact hA.keys,fun x hx=>by cases hx⟩) (fun M ρ' hp=>⟨_,hp,rfl⟩) true
     ·cases hd
    ·cases hd
   ·cases hd
  ·cases hd
 ·rename_i m ho;have rm:=Bj R m;split at hd
  ·rename_i j hM;split at hd
   ·rename_i n mb es Ac rem x hO;split at hd
    ·rename_i k n' ls i lS EM Ey hF;cases hd;obtain ⟨hs,e1,e2,e3,_⟩:=hv;subst e1 e2 e3;rw [hM] at rm;obtain ⟨p,hp,ev⟩:=rm;obtain ⟨p',BC,h0,h1,h2,seen,h3,h4,h5⟩:=R.hr.obj j _ hO;have:p'=p:=zAe (BC.symm.trans hp);subst this;obtain ⟨e,g1,g2,g3⟩:=h5 x rfl;have hF:=(zDn _ _ hF).2;obtain ⟨q,hq,vs,hS⟩:=R.hr.obj _ _ hF;obtain ⟨b,k1,k2,k3,Ia,Ym,k4,k5⟩:=hS.has i _ (Qs hs);have k5:=k5 _ rfl rfl;cases k5;refine BL.value (s:=Instr.entry (a.eval m)) (by unfold execOp;rw [ho]) (by rw [ev,h1];exact vO h3 g3 k4.blk g1 k4.stamps) (Zq R ?_);refine ⟨_,rfl,rfl,fun c hc=>?_⟩;rw [VZ hc,g2,k4.tru e g1]
     match c,hc with
     | 0,_=>exact ⟨BR x,rfl,zg (h0 x (.inr rfl))⟩
     | 1,_=>exact ⟨.bool true,rfl,rfl⟩
    ·cases hd
   ·cases hd
  ·cases hd
 ·cases hd
end
abbrev zCx:=@List.getElem?_replicate
abbrev zHL:=@Array.getElem?_replicate
def Wr (P:Program)(t:TypeId):Option (Nat×TypeId×TypeInfo):=match P.underlying t with
 | some (.slice e)=>match OL P e with
  | some (n,_)=>match P.info? e with
   | some i=>match i.zero with
    | some (.map none)=>if i.size=1/\ i.bytes<=128 then some (n,e,i) else none
    | _=>none
   | none=>none
  | none=>none
 | _=>none
theorem yG {P:Program}{t e:TypeId}{n:Nat}{i:TypeInfo}(h:Wr P t=some (n,e,i)):P.underlying t=some (.slice e)/\ P.info? e=some i/\ i.zero=some (.map none)/\ i.size=1/\ i.bytes<=128:=by
 unfold Wr at h;split at h
 ·rename_i e' hu;split at h
  ·split at h
   ·rename_i i' hi;split at h
    ·rename_i hz;split at h
     ·rename_i hc;cases h;exact ⟨hu,hi,hz,hc.1,hc.2⟩
     ·cases h
    ·cases h
   ·cases h
  ·cases h
 ·cases h
section
variable {P:Program} {Γ:At} {N:Nat -> Prop} {S:St} {ρ:List AH} {a:Act} {w:World} {h:DH}
theorem wA {α:Type}{n j:Nat}{x y:α}(h:(List.replicate n x)[j]? =some y):x=y:=by
 rw [zCx] at h;split at h
 ·exact zAe h
 ·cases h
theorem yS (R:AR P Γ N S ρ a w){t e:TypeId}{x y:Operand}{n:Nat}{i:TypeInfo}{kx ky:IntKind}{m:Int}(hT:Wr P t=some (n,e,i))(hx:AW S.fr x= .int kx m)(hy:AW S.fr y= .int ky m) 
 (hn:0<=m/\ m<=1000000000000) (o:Oper) (ho:o.op= .makeSlice t x y) (ext:Bool):
 BL P (execOp a.eval o) w (Ci P Γ N S.h ρ w ext (.msl S.h.length 1 0 m.toNat) (S.h++[some (.mo (.sets n (List.replicate m.toNat none) none))])):=by
 obtain ⟨hu,hi,hz,hs,Du⟩:=yG hT;have F2:=hn.1;have F1:=hn.2;have rx:=Bj R x;have ry:=Bj R y;rw [hx] at rx;rw [hy] at ry;have Dh:(madeCells (Value.map none).cells (m.toNat*i.size)).size=m.toNat:=by rw [size_madeCells,hs,zCz]
 have DM: ∀ j,j<m.toNat -> (madeCells (Value.map none).cells (m.toNat*i.size))[j]? =some (Value.map none):=fun j hj=>by
  simp [madeCells,hs,hj,Value.cells,Nat.mod_one]
 refine BL.value (s:=Instr.makeSlice t (a.eval x) (a.eval y)) (by unfold execOp;rw [ho]) (v:=.slice (some ⟨w.heap.size,0,none⟩) m.toNat m.toNat) (w':=w.alloc (.cells (madeCells (Value.map none).cells (m.toNat*i.size)) e)) ?_ ?_
 ·rw [show a.eval x=_ from rx,show a.eval y=_ from ry];refine run_make w t e i _ hu hi hz kx ky m m F2 (zCn _) ?_ (by omega);have:(i.bytes:Int)*m<=128*1000000000000:=Int.mul_le_mul (by omega) F1 F2 (by omega);omega
 ·generalize hC:madeCells (Value.map none).cells (m.toNat*i.size)=cs at Dh DM ⊢
  refine UM (ob:=.cells cs e) (o:=.mo (.sets n (List.replicate m.toNat none) none)) (d:=.msl S.h.length 1 0 m.toNat) (pl:=⟨w.heap.size,0,cs.size,.tuple (Array.replicate m.toNat (Value.map none)),fun b=>b=w.heap.size⟩) R.hr rfl rfl (fun M ρ'=>?_) (fun M ρ' hp=>⟨_,m.toNat,hp,by simp,zA5 _,by unfold LB;omega,by simp [Dh]⟩) ext;refine ⟨Array.replicate m.toNat (Value.map none),rfl,by simp,⟨cs,e,zGf w _,by simp [Dh],zA5 _,fun j hj=>?_⟩,rfl,fun j l hj=>?_,fun j hj=>?_,fun b hb=>.inl hb,fun i j b h1 h2=>?_⟩
  ·rw [zAw] at hj
   show cs[0+j]? =_
   rw [zA8,DM j hj,zHL,zAM hj]
  ·have:=wA hj;cases this
  ·have BJ:=(zAf.1 hj).1;rw [zAw] at BJ;rw [zHL,zAM BJ]
  ·rw [zHL] at h1;split at h1 <;> cases h1
theorem A1.merge (H:A1 P Γ N h ρ w){w':World}{k j:Nat}{o oj o':DO}{p q p':AH}(cc:k≠j)(hk:h[k]? =some (some o))(hp:ρ[k]? =some p)(hj:h[j]? =some (some oj))(hq:ρ[j]? =some q)(hu:AO p.foot w w')(hf: ∀ b,p'.foot b -> (p.foot b∨q.foot b)/\ Dm w' b) 
 (ho:EC P (MS N ((h.set k none).set j none++[some o']) (ρ++[p'])) w' (ρ++[p']) p' o'):
 A1 P Γ N ((h.set k none).set j none++[some o']) (ρ++[p']) w'/\ A5 h ρ w ((h.set k none).set j none++[some o']) (ρ++[p']) w':=by
 have Ak:((h.set k none).set j none).length=h.length:=by simp
 have hM: ∀ b,p.foot b -> MO h ρ b:=fun b hb=>⟨k,o,p,hk,hp,hb⟩
 have hMq: ∀ b,q.foot b -> MO h ρ b:=fun b hb=>⟨j,oj,q,hj,hq,hb⟩
 have oD: ∀ {i:Nat} {o1:DO},((h.set k none).set j none)[i]? =some (some o1) -> i≠k/\ i≠j/\ h[i]? =some (some o1):=fun {i o1} hi=>by
  obtain ⟨e1,e2⟩:=GX hi;obtain ⟨e3,e4⟩:=GX e2;exact ⟨e3,e1,e4⟩
 have I2: ∀ {i:Nat} {o1:DO} {p1:AH},((h.set k none).set j none++[some o'])[i]? =some (some o1) -> (ρ++[p'])[i]? =some p1 -> (i≠k/\ i≠j/\ i<h.length/\ h[i]? =some (some o1)/\ ρ[i]? =some p1)∨(i=h.length/\ o1=o'/\ p1=p'):=by
  intro i o1 p1 h1 h2;rcases Dv h1 with ⟨hl,h1⟩ | ⟨hl,h1⟩
  ·rw [Ak] at hl;rcases Dv h2 with ⟨_,h2⟩ | ⟨Cs,_⟩
   ·obtain ⟨e1,e2,e3⟩:=oD h1;exact .inl ⟨e1,e2,hl,e3,h2⟩
   ·rw [H.len] at Cs;omega
  ·rw [Ak] at hl;rcases Dv h2 with ⟨Cs,_⟩ | ⟨_,h2⟩
   ·rw [H.len] at Cs;omega
   ·cases h1;exact .inr ⟨hl,rfl,h2.symm⟩
 have grow: ∀ b,MO ((h.set k none).set j none++[some o']) (ρ++[p']) b -> MO h ρ b:=by
  rintro b ⟨i,o1,p1,h1,h2,h3⟩;rcases I2 h1 h2 with ⟨_,_,_,g1,g2⟩ | ⟨_,_,rfl⟩
  ·exact ⟨i,o1,p1,g1,g2,h3⟩
  ·exact (hf b h3).1.elim (hM b) (hMq b)
 have O:BS (MS N h ρ) w ρ (MS N ((h.set k none).set j none++[some o']) (ρ++[p'])) w' (ρ++[p']):=
  ⟨fun b hb hm _=>hu.block b hb fun hx=>hm (.inr (hM b hx)),fun b hb=>.inl (hb.imp id (grow b)),fun i q hi=>Eh hi⟩
 refine ⟨⟨by simp [H.len],fun i o1 hi=>?_,fun i o1 p1 b h1 h2 h3=>?_,fun i i' o1 o2 p1 p2 b Ad h1 h2 h3 h4 h5 h6=>?_,fun b hb=>⟨zAj (H.nlt b hb).1 hu.size,(H.nlt b hb).2⟩,Γ.st _ _ H.gi (hu.mono fun b _ hb=>(H.cel k o p b hk hp hb).1)⟩,⟨hu.mono fun b _ hb=>hM b hb,fun b hb=>.inl (grow b hb)⟩⟩
 ·rcases Dv hi with ⟨hl,hi⟩ | ⟨hl,hi⟩
  ·obtain ⟨e1,e2,e3⟩:=oD hi;obtain ⟨p1,Mi,hr⟩:=H.obj i o1 e3;exact ⟨p1,Eh Mi,hr.out O hu (fun b hb=>.inr (hM b hb)) fun b _ h1 h2=>H.dis i k o1 o p1 p b e1 e3 hk Mi hp h1 h2⟩
  ·cases hi;exact ⟨p',by rw [hl,Ak,←H.len];simp,ho⟩
 ·rcases I2 h1 h2 with ⟨Ad,_,_,g1,g2⟩ | ⟨_,_,rfl⟩
  ·obtain ⟨e1,e2,c,t,z,e3⟩:=H.cel i o1 p1 b g1 g2 h3;exact ⟨e1,e2,c,t,z,(hu.block b (zAZ.1 e3).1 fun hx=>H.dis i k o1 o p1 p b Ad g1 hk g2 hp h3 hx).trans e3⟩
  ·obtain ⟨e1,e2⟩:=hf b h3;rcases e1 with e1 | e1
   ·obtain ⟨q1,q2,_⟩:=H.cel k o p b hk hp e1;exact ⟨q1,q2,e2⟩
   ·obtain ⟨q1,q2,_⟩:=H.cel j oj q b hj hq e1;exact ⟨q1,q2,e2⟩
 ·have key: ∀ {i o1 p1},i≠k -> i≠j -> h[i]? =some (some o1) -> ρ[i]? =some p1 -> p1.foot b -> p'.foot b -> False:=fun {i o1 p1} Ad Ok g1 g2 g3 g4=>by
   rcases (hf b g4).1 with e1 | e1
   ·exact H.dis i k o1 o p1 p b Ad g1 hk g2 hp g3 e1
   ·exact H.dis i j o1 oj p1 q b Ok g1 hj g2 hq g3 e1
  rcases I2 h1 h3 with ⟨T0,Ok,_,g1,g2⟩ | ⟨e1,_,rfl⟩
  ·rcases I2 h2 h4 with ⟨hne3,_,_,g3,g4⟩ | ⟨e2,_,rfl⟩
   ·exact H.dis i i' o1 o2 p1 p2 b Ad g1 g3 g2 g4 h5 h6
   ·exact key T0 Ok g1 g2 h5 h6
  ·rcases I2 h2 h4 with ⟨T0,Ok,_,g1,g2⟩ | ⟨e2,_,rfl⟩
   ·exact key T0 Ok g1 g2 h6 h5
   ·exact Ad (e1.trans e2.symm)
def MU (k k':Nat):DV -> DV
 | .msl k1 m o n=>if k1=k then .msl k' m o n else .msl k1 m o n
 | d=>d
def ZX (P:Program)(S:St)(o:Oper):Option (St×List Prop):=match o.op with
 | .store t x y=>match o.dst with
  | none=>match AW S.fr x with
   | .mp k 1 i 0=>match AW S.fr y with
    | .it j=>match S.h[k]? with
     | some (some (.mo (.sets n ls none)))=>match S.h[j]? with
      | some (some (.mo (.set n' l)))=>if n'=n/\ (P.info? t).any (fun i=>i.size==1)=true then some (⟨S.fr.map (MU k S.h.length),(S.h.set k none).set j none++[some (.mo (.sets n (ls.set i (some l)) none))]⟩,[i<ls.length]) else none
      | _=>none
     | _=>none
    | _=>none
   | _=>none
  | some _=>none
 | _=>none
theorem FM.of_map {p:AH}{n:Nat}{ls:List (Option KS)}{lk:Option (Nat×Nat×Array MapEntry×Nat)}{vs:Array Value}(hS:FM w p n ls lk vs){i b:Nat}(h:vs[i]? =some (Value.map (some b))): ∃ l,ls[i]? =some (some l)/\ p.foot b/\ b≠p.blk/\ ∃ es Ac,E1 w b n l es Ac:=by
 have hi:i<ls.length:=by rw [←hS.size];exact (zAZ.1 h).1
 cases hl:ls[i] with
 | none=>
  have:=hS.nil i (by rw [zAa hi,hl]);rw [this] at h;cases h
 | some l=>
  have Eg:ls[i]? =some (some l):=by rw [zAa hi,hl]
  obtain ⟨b',g1,g2,g3,es,Ac,g4,_⟩:=hS.has i l Eg;have:b'=b:=by rw [g1] at h;cases h;rfl
  subst this;exact ⟨l,Eg,g3,g2,es,Ac,g4⟩
theorem sF (R:AR P Γ N S ρ a w){o:Oper}{S':St}{vs:List Prop}(h:ZX P S o=some (S',vs))(hv:BZ vs):
 BL P (execOp a.eval o) w (fun v w'=>(∃ ρ',AR P Γ N S' ρ' (a.put o.dst v) w'/\ Cv S.h ρ w S'.h ρ' w')/\ ∃ k i p t x y,o.op= .store t x y/\ AW S.fr x= .mp k 1 i 0/\ ρ[k]? =some p/\ AO p.foot w w'):=by
 unfold ZX at h;split at h
 case h_2=>cases h
 rename_i t x y ho;split at h
 case h_2=>cases h
 rename_i ct;split at h
 case h_2=>cases h
 rename_i k i hX;split at h
 case h_2=>cases h
 rename_i j hY;split at h
 case h_2=>cases h
 rename_i n ls hK;split at h
 case h_2=>cases h
 rename_i n' l hJ;split at h
 case isFalse=>cases h
 rename_i hc;cases h;obtain ⟨hnn,Ay⟩:=hc;subst hnn;have hi:i<ls.length:=hv.1;have rx:=Bj R x;have ry:=Bj R y;rw [hX] at rx;rw [hY] at ry;obtain ⟨p,hp,ex⟩:=rx;obtain ⟨q,es,Ac,hq,ey,mr,hqv,hA⟩:=Zm R hJ ry;obtain ⟨p',BC,NU,hS⟩:=R.hr.obj k _ hK;have:p'=p:=zAe (BC.symm.trans hp);subst this;have cc:k≠j:=fun e=>by subst e;rw [hK] at hJ;cases hJ
 obtain ⟨cs,ty,hb,F8,Cs,DM⟩:=hS.row;cases LF:P.info? t with
 | none=>rw [LF] at Ay;cases Ay
 | some ti=>
 rw [LF] at Ay;have QV:ti.size=1:=by simpa using Ay
 have nL:i<NU.size:=by rw [hS.size];exact hi
 have cK: ∀ b,p'.foot b -> b≠q.blk:=fun b hb e=>R.hr.dis k j _ _ p' q b cc hK hJ hp hq hb (by rw [mr];exact e)
 have di:a.eval x= .pointer (some ⟨p'.blk,p'.off+i,none⟩):=by rw [ex];simp
 have Az:w.cell? ⟨p'.blk,p'.off+i,none⟩=some NU[i]:=by
  unfold World.cell?;simp only [hb];rw [DM i hi,zCF nL];rfl
 have GV: ∀ jj,w.frozen? ⟨p'.blk,jj,none⟩=false:=fun jj=>by unfold World.frozen?;simp [hb]
 have hU:AO p'.foot w (w.setCells p'.blk (p'.off+i) (a.eval y).cells.toList):=(Pf _ _ _ _).mono fun b _ e=>by rw [show b=p'.blk from e];exact hS.blk
 refine BL.skip (s:=Instr.storeAt t (a.eval x) (a.eval y)) (by unfold execOp;rw [ho]) (w':=w.setCells p'.blk (p'.off+i) (a.eval y).cells.toList) ?_ ?_
 ·rw [di];refine Z1 LF (by rw [ey,QV];rfl) (fun jj Mo=>?_) GV (fun u hu=>?_)
  ·rw [ey] at Mo;have:jj=0:=by simpa [Value.cells] using Mo
   subst this;rw [zGc,Az];rfl
  ·rw [ey] at hu;have:u= .map (some q.blk):=by simpa [Value.cells] using hu
   subst this;rfl
 ·rw [ct];rw [ey] at hU ⊢;have eC:(Value.map (some q.blk)).cells.toList= [Value.map (some q.blk)]:=rfl;rw [eC] at hU ⊢;obtain ⟨EZ,e1,e2,e3⟩:=Qi p'.blk ty (0,0) [Value.map (some q.blk)] (p'.off+i) w cs hb (by simp;omega)
  generalize hW:w.setCells p'.blk (p'.off+i) [Value.map (some q.blk)]=W at hU e1 ⊢
  have AF: ∀ {b ob},b≠p'.blk -> w.heap[b]? =some ob -> W.heap[b]? =some ob:=fun {b ob} Ad DL=>by
   rw [←DL,←hW];exact (Pf p'.blk [Value.map (some q.blk)] (p'.off+i) w).block b (zAZ.1 DL).1 Ad
  have kD:q.blk≠p'.blk:=fun e=>cK p'.blk hS.blk e.symm
  let Bn:=NU.setIfInBounds i (Value.map (some q.blk))
  have IR: ∀ m:Nat,Bn[m]? =if i=m then some (Value.map (some q.blk)) else NU[m]? :=fun m=>by
   show (NU.setIfInBounds i _)[m]? =_
   rw [zCu]
   by_cases e:i=m
   ·rw [zAM e,zAM e,zAM nL]
   ·rw [zAh e,zAh e]
  let p2:AH:=⟨p'.blk,p'.off,p'.room,.tuple Bn,fun b=>b=p'.blk∨∃ m:Nat,Bn[m]? =some (Value.map (some b))⟩
  have lX: ∀ {m:Nat} {z:Option KS},(ls.set i (some l))[m]? =some z -> (m=i/\ z=some l)∨(m≠i/\ ls[m]? =some z):=fun {m z} hm=>by
   rw [zCE] at hm
   by_cases e:i=m
   ·subst e;simp [hi] at hm;exact .inl ⟨rfl,hm.symm⟩
   ·rw [zAh e] at hm;exact .inr ⟨zG9 e,hm⟩
  have SA:FM W p2 n' (ls.set i (some l)) none Bn:=by
   refine ⟨rfl,by simp [Bn,hS.size],⟨EZ,ty,e1,by simpa [e2] using F8,by rw [e2];exact Cs,fun m hm=>?_⟩,.inl rfl,fun m l1 hm=>?_,fun m hm=>?_,fun b hb=>?_,fun m m' b h1 h2=>?_⟩
   ·rw [zBB] at hm
    show EZ[p'.off+m]? =Bn[m]?
    rw [e3,IR]
    by_cases e:i=m
    ·subst e;rw [zAM (by simp),zAM rfl];simp
    ·rw [zAh (by simp;omega),zAh e];exact DM m hm
   ·rcases lX hm with ⟨rfl,e⟩ | ⟨Ad,hm⟩
    ·cases e;refine ⟨q.blk,by rw [IR,zAM rfl],kD,.inr ⟨m,by rw [IR,zAM rfl]⟩,es,Ac,{ hA with blk:=AF kD hA.blk },fun x hx=>by cases hx⟩
    ·obtain ⟨b,k1,k2,k3,Ia,c1,k4,_⟩:=hS.has m l1 hm;exact ⟨b,by rw [IR,zAh (zG9 Ad)];exact k1,k2,.inr ⟨m,by rw [IR,zAh (zG9 Ad)];exact k1⟩,Ia,c1,{ k4 with blk:=AF k2 k4.blk },fun x hx=>by cases hx⟩
   ·rcases lX hm with ⟨rfl,e⟩ | ⟨Ad,hm⟩
    ·cases e
    ·rw [IR,zAh (zG9 Ad)];exact hS.nil m hm
   ·rcases hb with hb | ⟨m,hm⟩
    ·exact .inl hb
    ·refine .inr ?_;have AD:=hm;rw [IR] at hm
     by_cases e:i=m
     ·subst e;exact ⟨i,l,by simp [hi],AD⟩
     ·rw [zAh e] at hm;obtain ⟨l1,g1,_⟩:=hS.of_map hm;exact ⟨m,l1,by rw [zCE,zAh e];exact g1,AD⟩
   ·rw [IR] at h1 h2
    by_cases c1:i=m
    ·by_cases c2:i=m'
     ·omega
     ·rw [zAM c1] at h1;rw [zAh c2] at h2;cases h1;obtain ⟨_,_,g2,_⟩:=hS.of_map h2;exact absurd rfl (cK _ g2)
    ·rw [zAh c1] at h1
     by_cases c2:i=m'
     ·rw [zAM c2] at h2;cases h2;obtain ⟨_,_,g2,_⟩:=hS.of_map h1;exact absurd rfl (cK _ g2)
     ·rw [zAh c2] at h2;exact hS.inj m m' b h1 h2
  have FF: ∀ b,p2.foot b -> (p'.foot b∨q.foot b)/\ Dm W b:=fun b hb=>by
   refine ⟨?_,SA.lies hb⟩;rcases hb with hb | ⟨m,hm⟩
   ·exact .inl (by rw [hb];exact hS.blk)
   ·rw [IR] at hm
    by_cases e:i=m
    ·rw [zAM e] at hm;cases hm;exact .inr (by rw [mr])
    ·rw [zAh e] at hm;exact .inl (hS.of_map hm).choose_spec.2.1
  obtain ⟨g1,g2⟩:=R.hr.merge (o':=.mo (.sets n' (ls.set i (some l)) none)) (p':=p2) cc hK hp hJ hq hU FF ⟨Bn,SA⟩
  have O:BS (MS N S.h ρ) w ρ (MS N ((S.h.set k none).set j none++[some (.mo (.sets n' (ls.set i (some l)) none))]) (ρ++[p2])) W (ρ++[p2]):=
   ⟨fun b hb hm _=>hU.block b hb fun hx=>hm (.inr ⟨k,_,p',hK,hp,hx⟩),fun b hb=>hb.elim (fun h=>.inl (.inl h)) (fun h=>(g2.grow b h).imp .inr id),fun k q hk=>Eh hk⟩
  refine ⟨⟨ρ++[p2],⟨g1,by simp [R.fr.1,Act.put],fun m hm=>?_⟩,g2,fun k q hk=>Eh hk⟩,k,i,p',t,x,y,ho,hX,hp,hU⟩;have Cd:m<S.fr.length:=by simpa using hm
  have e:(S.fr.map (MU k S.h.length)).getD m .any=MU k S.h.length (S.fr.getD m .any):=by simp [Cd]
  show AK _ W ((S.fr.map (MU k S.h.length)).getD m .any) _ _
  rw [e];have r0:=R.fr.2 m Cd;cases hd:S.fr.getD m .any with
  | msl k1 m1 o1 n1=>
   rw [hd] at r0
   by_cases hc:k1=k
   ·have e2:MU k S.h.length (.msl k1 m1 o1 n1)= .msl S.h.length m1 o1 n1:=by simp only [MU,zAM hc]
    rw [e2];rw [hc] at r0;obtain ⟨q0,cap,mx,cC,u1,u2,u3⟩:=r0;have eq0:q0=p':=zAe (mx.symm.trans hp);subst eq0;exact ⟨p2,cap,by rw [←R.hr.len];simp,cC,u1,u2,u3⟩
   ·have e2:MU k S.h.length (.msl k1 m1 o1 n1)= .msl k1 m1 o1 n1:=by simp only [MU,zAh hc]
    rw [e2];exact AK.out _ O r0
  | _=>rw [hd] at r0;exact AK.out _ O r0
end
abbrev zGw:=@List.mem_iff_getElem?
abbrev zGx:=@Array.getElem?_toList
abbrev zHp:=@Array.mem_toList_iff
def NW:DV:=.tup 0 (fun j=>([]:List DV).getD j .any)
theorem VT {M:Nat -> Prop}{w:World}{ρ:List AH}:AK M w NW ρ undef:=⟨#[],rfl,rfl,fun j hj=>absurd hj (zAv j)⟩
def Ck (fr:List DV)(dst:Option Nat)(d:DV):List DV:=match dst with
 | some t=>fr.set t d
 | none=>fr
section
variable {P:Program} {Γ:At} {N:Nat -> Prop} {S:St} {ρ:List AH} {a:Act} {w:World}
theorem G6 (R:AR P Γ N S ρ a w)(dst:Option Nat){d:DV}{v:Value}(hv:AK (MS N S.h ρ) w d ρ v):AR P Γ N ⟨Ck S.fr dst d,S.h⟩ ρ (a.put dst v) w:=by
 refine ⟨R.hr,?_⟩;cases dst with
 | none=>exact R.fr
 | some t=>exact R.fr.set t hv
theorem Mx (R:AR P Γ N S ρ a w){d d':DV}{h':DH}{ext:Bool}{v:Value}{w':World}(dst:Option Nat)(G:Ci P Γ N S.h ρ w ext d h' v w')(hd: ∀ M ρ',AK M w' d ρ' v -> AK M w' d' ρ' v):
 ∃ ρ',AR P Γ N ⟨Ck S.fr dst d',h'⟩ ρ' (a.put dst v) w'/\ Cv S.h ρ w h' ρ' w':=by
 obtain ⟨ρ',g1,g2,g3,g4⟩:=G.ex;have O:BS (MS N S.h ρ) w ρ (MS N h' ρ') w' ρ':=⟨fun b hb hm _=>g3.upd.block b hb fun hx=>hm (.inr hx),fun b hb=>hb.elim (fun h=>.inl (.inl h)) (fun h=>(g3.grow b h).imp .inr id),g4⟩;have R':AR P Γ N ⟨S.fr,h'⟩ ρ' a w':=⟨g1,R.fr.out O⟩;exact ⟨ρ',G6 R' dst (hd _ _ g2),g3,g4⟩
end
def Sd (P:Program)(t:TypeId):Option (TypeId×TypeId):=match P.underlying t with
 | some (.map k e)=>if Ti P k then match P.info? e with
  | some i=>match i.zero with
   | some (.slice none 0 0)=>some (k,e)
   | _=>none
  | none=>none
  else none
 | _=>none
theorem jZ {P:Program}{t k e:TypeId}(h:Sd P t=some (k,e)):P.underlying t=some (.map k e)/\ Gl P k=some 1/\ ∀ w,(zeroValue e).run P w= .ok (.slice none 0 0) w:=by
 unfold Sd at h;split at h
 ·rename_i k' e' hu;split at h
  ·rename_i hk;split at h
   ·rename_i i hi;split at h
    ·rename_i hz;cases h;exact ⟨hu,by unfold Gl;rw [bc hk],fun w=>by simp [zeroValue,typeInfo,hi,hz]⟩
    ·cases h
   ·cases h
  ·cases h
 ·cases h
def QH (j q:Nat):DV -> DV
 | .mri k i=>if k=j then (if i=0 then .mri q 0 else .any) else .mri k i
 | d=>d
def NV (f:Int -> List Int)(k:Int)(L:List Int):Int -> List Int:=fun x=>if x=k then L else f x
def Se (P:Program)(S:St)(o:Oper):Option (St×List Prop):=match o.op with
 | .makeMap t none=>match Sd P t with
  | some _=>some (⟨Ck S.fr o.dst (.mri S.h.length 0),S.h++[some (.mo (.rows (fun _=>[]) none))]⟩,[])
  | none=>none
 | .lookup t m k false=>match Sd P t with
  | some _=>match AW S.fr m,AW S.fr k with
   | .mri j 0,.int .i64 x=>match S.h[j]? with
    | some (some (.mo (.rows f B1)))=>if B1.all (fun y=>!y.2.2) then some (⟨Ck (S.fr.map (QH j S.h.length)) o.dst (.mri S.h.length 1),S.h.set j none++[some (.mo (.rows f (some (x,f x,false))))]⟩,[]) else none
    | _=>none
   | _,_=>none
  | none=>none
 | .mapUpdate t m k y=>match Sd P t with
  | some _=>match AW S.fr m,AW S.fr k,AW S.fr y with
   | .mri j 0,.int .i64 x,.mri j' 1=>match S.h[j]? with
    | some (some (.mo (.rows f (some (x',L,_)))))=>if j'=j then some (⟨Ck S.fr o.dst NW,S.h.set j (some (.mo (.rows (NV f x' L) none)))⟩,[x'=x]) else none
    | _=>none
   | _,_,_=>none
  | none=>none
 | .call c=>match c.callee with
  | .builtin .append=>match c.args.toList with
   | [x,y]=>match c.argTypes.toList with
    | [t,t']=>if t=t' then match KT P t with
     | some (.ints,_,i,_)=>if 128<i.bytes then none else match AW S.fr x,K9 S (AW S.fr y) with
      | .mse j 1 off n,some (ys,vy)=>match S.h[j]? with
       | some (some (.ints xs))=>some (⟨Ck S.fr o.dst (.mse S.h.length 1 0 (n+ys.length)),S.h.set j none++[some (.ints (xs.drop off++ys))]⟩,[vy,0<ys.length,off+n=xs.length,n+ys.length<=BA])
       | _=>none
      | .mri j 1,some (ys,vy)=>match S.h[j]? with
       | some (some (.mo (.rows f (some (x',L,_)))))=>some (⟨Ck (S.fr.map (QH j S.h.length)) o.dst (.mri S.h.length 1),S.h.set j none++[some (.mo (.rows f (some (x',L++ys,true))))]⟩,[vy,0<ys.length,L.length+ys.length<=BA])
       | _=>none
      | _,_=>none
     | _=>none
     else none
    | _=>none
   | _=>none
  | _=>none
 | _=>none
theorem vW {P:Program}{S:St}{o:Oper}{r:St×List Prop}(h:Se P S o=some r){t:TypeId}{x y:Operand}:o.op≠.store t x y:=by
 intro e;unfold Se at h;rw [e] at h;cases h
theorem A9.map {M:Nat -> Prop}{w:World}{ρ:List AH}{fr:List DV}{t:Array Value}(h:A9 M w ρ fr t){g:DV -> DV}(hg: ∀ d v,AK M w d ρ v -> AK M w (g d) ρ v):A9 M w ρ (fr.map g) t:=
 ⟨by simp [h.1],fun i hi=>by
  have BT:i<fr.length:=by simpa using hi
  have e:(fr.map g).getD i .any=g (fr.getD i .any):=by simp [BT]
  rw [e];exact hg _ _ (h.2 i BT)⟩
section
variable {P:Program} {Γ:At} {N:Nat -> Prop} {S:St} {ρ:List AH} {a:Act} {w w':World} {p p':AH} {f:Int -> List Int} {B1:Option (Int×List Int×Bool)} {u:Value} {es:Array MapEntry} {Ac:Nat}
theorem ko (h:Em w p f B1 u es Ac){kt:TypeId}(hk:P.underlying kt=some (.int .i64))(x:Int):
 ((Instr.findKey kt (.int .i64 x) es.toList).run P w= .ok none w/\ ∀ e∈es.toList,e.key≠.int .i64 x)∨∃ j e,(Instr.findKey kt (.int .i64 x) es.toList).run P w= .ok (some (j,e.val)) w/\ es[j]? =some e/\ e.key= .int .i64 x:=by
 rcases MapKept.findNow_spec (d:=.int .i64) (k:=.int .i64 x) (by trivial) es.toList 0 (fun e hm=>by
  obtain ⟨k,hk,_⟩:=h.key e hm;rw [hk];trivial) with ⟨h1,h2⟩ | ⟨j,e,h1,h2,h3⟩
 ·exact .inl ⟨zHJ hk h1,h2⟩
 ·exact .inr ⟨j,e,by have:=zHJ (w:=w) hk h1;rw [zA8] at this;exact this,by simpa using h2,h3⟩
theorem Wb (R:AR P Γ N S ρ a w){j i:Nat}{v:Value}(hk:S.h[j]? =some (some (.mo (.rows f B1))))(hv:AK (MS N S.h ρ) w (.mri j i) ρ v): ∃ p u es Ac,ρ[j]? =some p/\ Em w p f B1 u es Ac/\ (#[Value.map (some p.blk),u]:Array Value)[i]? =some v:=by
 obtain ⟨p,vs,hp,Fg,C5⟩:=hv;obtain ⟨p',BC,u,es,Ac,h1⟩:=R.hr.obj j _ hk;have:p'=p:=zAe (BC.symm.trans hp);subst this;have: #[Value.map (some p'.blk),u]=vs:=by have:=h1.val.symm.trans Fg;cases this;rfl
 subst this;exact ⟨p',u,es,Ac,hp,h1,C5⟩
theorem Em.lies (h:Em w p f B1 u es Ac):Dm w p.blk:=⟨_,rfl,(),h.blk⟩
theorem jX (R:AR P Γ N S ρ a w){j:Nat}(hj:S.h[j]? =some (some (.mo (.rows f B1))))(hp:ρ[j]? =some p)(hO:Em w p f B1 u es Ac){f':Int -> List Int}{JF:Option (Int×List Int×Bool)}{u':Value}{EM:Array MapEntry}{Ey:Nat} 
 (hu:AO p.foot w w') (hf: ∀ b,p'.foot b -> (p.foot b∨w.heap.size<=b)/\ Dm w' b) (Mu:Em w' p' f' JF u' EM Ey) (cz:p'.blk=p.blk) (dst:Option Nat):
 ∃ ρ',AR P Γ N ⟨Ck (S.fr.map (QH j S.h.length)) dst (.mri S.h.length 1),S.h.set j none++[some (.mo (.rows f' JF))]⟩ ρ' (a.put dst u') w'/\ Cv S.h ρ w (S.h.set j none++[some (.mo (.rows f' JF))]) ρ' w':=by
 obtain ⟨g1,g2⟩:=R.hr.regrow (o':=.mo (.rows f' JF)) hj hp hu hf ⟨u',EM,Ey,Mu⟩;have FD: ∀ (k:Nat) (q:AH),ρ[k]? =some q -> (ρ++[p'])[k]? =some q:=fun k q hk=>Eh hk
 have O:BS (MS N S.h ρ) w ρ (MS N (S.h.set j none++[some (.mo (.rows f' JF))]) (ρ++[p'])) w' (ρ++[p']):=
  ⟨fun b hb hm _=>hu.block b hb fun hx=>hm (.inr ⟨j,_,p,hj,hp,hx⟩),fun b hb=>hb.elim (fun h=>.inl (.inl h)) (fun h=>(g2.grow b h).imp .inr id),FD⟩
 have hq:(ρ++[p'])[S.h.length]? =some p':=by rw [←R.hr.len];simp
 have Cu:=(R.fr.out O).map (g:=QH j S.h.length) (fun d v hd=>by
  unfold QH;split
  ·rename_i k i;split
   ·rename_i e;split
    ·rename_i e2;subst e e2;obtain ⟨q,vs,h1,h2,h3⟩:=hd;have:q=p:=zAe (h1.symm.trans (FD _ _ hp));subst this;have e3: #[Value.map (some q.blk),u]=vs:=by have:=hO.val.symm.trans h2;cases this;rfl
     subst e3;exact ⟨p',_,hq,Mu.val,by rw [cz];simpa using h3⟩
    ·trivial
   ·exact hd
  ·exact hd)
 exact ⟨ρ++[p'],G6 (S:=⟨S.fr.map (QH j S.h.length),_⟩) ⟨g1,Cu⟩ dst ⟨p',_,hq,Mu.val,rfl⟩,g2,FD⟩
theorem xL (h:Em w p f B1 u es Ac)(hh: ∀ k L,B1≠some (k,L,true)){t kt et:TypeId}(hm:P.underlying t=some (.map kt et))(hk:Gl P kt=some 1)(hz:(zeroValue et).run P w= .ok (.slice none 0 0) w)(x:Int):
 ∃ u',(Instr.lookup t (.map (some p.blk)) (.int .i64 x) false).run P w= .ok u' w/\ Em w { p with val:=.tuple #[Value.map (some p.blk),u'] } f (some (x,f x,false)) u' es Ac:=by
 have hu:P.underlying kt=some (.int .i64):=by
  rcases QQ hk with ⟨_,hu⟩ | ⟨_,_,_,h2,_⟩
  ·exact hu
  ·cases h2
 have hc:=fun e=>QP (w:=w) hk (x:=[x]) rfl e
 have mk: ∀ u',(H3 w (fun b=>p.foot b/\ b≠p.blk) u' (f x)/\ ∀ e∈es.toList,∀ b,DY u'=some b -> DY e.val=some b -> e.key= .int .i64 x) -> Em w { p with val:=.tuple #[Value.map (some p.blk),u'] } f (some (x,f x,false)) u' es Ac:=fun u' Bo=>
  ⟨rfl,h.blk,h.own,fun e he=>let ⟨k,h1,h2⟩:=h.key e he;⟨k,h1,fun _=>h2 fun L=>hh k L⟩,h.no,h.nd,h.apart,h.born,h.stamps,fun k L g e=>by cases e;exact Bo⟩
 rcases ko h hu x with ⟨h1,h2⟩ | ⟨j,e,h1,h2,h3⟩
 ·refine ⟨.slice none 0 0,?_,mk _ ⟨.inl ⟨h.no x h2,rfl⟩,fun e _ b hb=>by cases hb⟩⟩;have DE:=hc es.isEmpty;simp only [BR] at DE;simp [Instr.lookup,zCY hm,zDK h.blk,DE,h1,hz,Result.andThen]
 ·have Cd:e∈es.toList:=zHp.2 (zGP h2);obtain ⟨k,g1,g2⟩:=h.key e Cd;have:k=x:=by rw [g1] at h3;cases h3;rfl
  subst this;refine ⟨e.val,?_,mk _ ⟨g2 fun L=>hh k L,fun e' Gs b hb DN=>(h.apart e' Gs e Cd b DN hb).trans h3⟩⟩;have DE:=hc es.isEmpty;simp only [BR] at DE;simp [Instr.lookup,zCY hm,zDK h.blk,DE,h1,Result.andThen]
theorem iw {F:Nat -> Prop}{L:List Int}(hs:H3 w F u L){t e ty:TypeId}{i:TypeInfo}{z:Value}(hu:P.underlying t=some (.slice e))(hi:P.info? e=some i)(hz:i.zero=some z)(Ay:i.size=1)(Cq:z.cells.size=i.size)(Du:i.bytes<=128) 
 {vy:Value} {ys:List Int} (hy:Src P i.size t vy ys.length (ys.map (Value.int .i64)) w) (hc:0<ys.length) (hb:L.length+ys.length<=BA):
 ∃ w' q B7,(Builtin.append_ #[t,t] ty #[u,vy]).run P w= .ok (.slice (some ⟨q.blk,q.off,none⟩) (L++ys).length B7) w'/\ (L++ys).length<=B7/\ q.off+B7<=q.room/\ AO (fun b=>DY u=some b) w w'/\ (DY u=some q.blk∨w.heap.size<=q.blk)/\ AY w' q (L++ys).length (fun j v=>v= .int .i64 ((L++ys).getD j 0)):=by
 have Ak:(L++ys).length=L.length+ys.length:=zA7;rcases hs with ⟨rfl,rfl⟩ | ⟨q,cap,rfl,h1,h2,h3,h4,h5⟩
 ·obtain ⟨w',B7,r1,r2,cs,rfl,r4,r5⟩:=ea none (ty:=ty) hu hi hz Cq Du hy hc (by unfold BA at hb;simp at hb;omega);rw [Ay,zCz] at r4;refine ⟨_,ER w cs.size,B7,by simpa [ER] using r1,by simpa using r2,by simp [ER,r4],AO.ofExt ((Aq.toDrew w).allocR _),.inr (zA5 _),Nu rfl (by simp;omega) fun j hj=>?_⟩;have BJ:j<ys.length:=by simpa using hj
  refine ⟨.int .i64 (ys.getD j 0),?_,by simp⟩;rw [r5 j (by rw [Ay,zCz];exact BJ)];simp [BJ]
 ·obtain ⟨w',q',B7,r1,r2,r3,r4,r5,r6⟩:=eY (ty:=ty) (R:=fun j v=>v= .int .i64 (L.getD j 0)) (cap:=cap) hu hi hz (by omega) Cq Du (by rw [Ay,zCz];exact h5) h1 (by rw [Ay,zCz];exact h2) hy (by unfold BA at hb;omega);rw [Ay,zCz] at r3;have hq:q.foot=(fun b=>b=q.blk):=h5.1;have hR:=ba (P:=P) (M:=fun _=>False) (ρ':=[]) Ay r6;refine ⟨w',q',B7,by rw [Ak];exact r1,by rw [Ak];exact r2,r3,r4.mono fun b _ hb=>by rw [hq] at hb;rw [show b=q.blk from hb];rfl,?_,hR⟩;have Mh:=r6.1;rcases r5 q'.blk (by rw [Mh]) with e | e
  ·rw [hq] at e;exact .inl (by rw [show q'.blk=q.blk from e];rfl)
  ·exact .inr e
theorem xN (h:Em w p f B1 u es Ac){x:Int}{L:List Int}{g:Bool}(KB:B1=some (x,L,g))(hl: ∀ b,p.foot b -> Dm w b){t e ty:TypeId}{i:TypeInfo}{z:Value}(hu:P.underlying t=some (.slice e))(hi:P.info? e=some i)(hz:i.zero=some z)(Ay:i.size=1)(Cq:z.cells.size=i.size)(Du:i.bytes<=128) 
 {vy:Value} {ys:List Int} (hy:Src P i.size t vy ys.length (ys.map (Value.int .i64)) w) (hc:0<ys.length) (hb:L.length+ys.length<=BA):
 ∃ w' u' p',(Builtin.append_ #[t,t] ty #[u,vy]).run P w= .ok u' w'/\ AO p.foot w w'/\ (∀ b,p'.foot b -> (p.foot b∨w.heap.size<=b)/\ Dm w' b)/\ Em w' p' f (some (x,L++ys,true)) u' es Ac/\ p'.blk=p.blk:=by
 obtain ⟨hs,hd⟩:=h.inHand x L g KB;have Ak:(L++ys).length=L.length+ys.length:=zA7;have bJ:=iw (ty:=ty) hs hu hi hz Ay Cq Du hy hc hb;obtain ⟨w',q,B7,r1,r2,r3,r4,r5,r6⟩:=bJ;have NY: ∀ b,DY u=some b -> (p.foot b/\ b≠p.blk)/\ b<w.heap.size:=fun b hb=>hs.blk hb
 have keep: ∀ b,b<w.heap.size -> DY u≠some b -> w'.heap[b]? =w.heap[b]? :=fun b hb hn=>r4.block b hb hn
 have Oh:DY u≠some p.blk:=fun e=>(NY _ e).1.2 rfl
 have cL:p.blk<w.heap.size:=(zAZ.1 h.blk).1;have cJ:q.blk≠p.blk:=fun e=>r5.elim (fun e'=>Oh (by rw [←e];exact e')) (fun e'=>by omega)
 refine ⟨w',_,⟨p.blk,p.off,p.room,.tuple #[Value.map (some p.blk),.slice (some ⟨q.blk,q.off,none⟩) (L++ys).length B7],fun b=>(p.foot b/\ DY u≠some b)∨b=q.blk⟩,r1,r4.mono fun b _ hb=>(NY b hb).1.1,fun b hb=>?_,?_,rfl⟩
 ·rcases hb with ⟨g1,g2⟩ | g1
  ·obtain ⟨c,t1,t2,hc⟩:=hl b g1;exact ⟨.inl g1,c,t1,t2,(keep b (zAZ.1 hc).1 g2).trans hc⟩
  ·obtain ⟨_,cs,tt,g,_⟩:=r6;subst g1;exact ⟨r5.imp (fun e=>(NY _ e).1.1) id,.cells g⟩
 ·have HB: ∀ e'∈es.toList,∀ k,e'.key= .int .i64 k -> k≠x -> H3 w (fun b=>p.foot b/\ b≠p.blk) e'.val (f k):=fun e' he k hk LO=>by
   obtain ⟨k',h1,h2⟩:=h.key e' he;have:k'=k:=by rw [h1] at hk;cases hk;rfl
   subst this;exact h2 fun L' e=>by rw [KB] at e;cases e;exact LO rfl
  refine ⟨rfl,(keep _ cL Oh).trans h.blk,.inl ⟨h.own,Oh⟩,fun e' he=>?_,h.no,h.nd,h.apart,h.born,h.stamps,fun k L' g' e'=>?_⟩
  ·obtain ⟨k,h1,_⟩:=h.key e' he;refine ⟨k,h1,fun hn=>?_⟩;have hk:k≠x:=fun e=>by subst e;exact hn _ rfl
   have ne: ∀ b,DY e'.val=some b -> DY u≠some b:=fun b hb DN=>hk (by have:=hd e' he b DN hb;rw [h1] at this;cases this;rfl)
   exact (HB e' he k h1 hk).out (fun b hf hb hl=>keep b hl (ne b hb)) fun b hf hb=>⟨.inl ⟨hf.1,ne b hb⟩,hf.2⟩
  ·cases e';refine ⟨.inr ⟨q,B7,rfl,r2,r3,by unfold LB;unfold BA at hb;omega,⟨.inr rfl,cJ⟩,r6⟩,fun e' he b hb DN=>?_⟩;cases hb;rcases r5 with r5 | r5
   ·exact hd e' he _ r5 DN
   ·obtain ⟨k',h1,_⟩:=h.key e' he
    by_cases hk:k'=x
    ·subst hk;exact h1
    ·exact absurd ((HB e' he k' h1 hk).blk DN).2 (Nat.not_lt.2 r5)
theorem xK (h:Em w p f B1 u es Ac){x:Int}{L:List Int}{g:Bool}(KB:B1=some (x,L,g)){t kt et:TypeId}(hm:P.underlying t=some (.map kt et))(hk:Gl P kt=some 1):
 ∃ w' EM Ey,(Instr.mapUpdate t (.map (some p.blk)) (.int .i64 x) u).run P w= .ok () w'/\ AO (fun b=>b=p.blk) w w'/\ Em w' p (NV f x L) none u EM Ey:=by
 have hu:P.underlying kt=some (.int .i64):=by
  rcases QQ hk with ⟨_,hu⟩ | ⟨_,_,_,h2,_⟩
  ·exact hu
  ·cases h2
 have hc:=QP (w:=w) hk (x:=[x]) rfl false;simp only [BR] at hc;obtain ⟨hs,hd⟩:=h.inHand x L g KB;have AM:p.blk<w.heap.size:=(zAZ.1 h.blk).1
 have mk: ∀ (EM:Array MapEntry) (Ey:Nat),(∀ e∈EM.toList,(e.key= .int .i64 x/\ e.val=u)∨(e∈es.toList/\ e.key≠.int .i64 x)) -> (∃ e∈EM.toList,e.key= .int .i64 x) -> (∀ e∈es.toList,e.key≠.int .i64 x -> e∈EM.toList) -> MapKept.Stamped EM Ey ->
  Em { w with heap:=w.heap.setIfInBounds p.blk (.map EM Ey) } p (NV f x L) none u EM Ey:=fun EM Ey m1 m2 m3 st=>by
  have stay: ∀ b,b≠p.blk -> (w.heap.setIfInBounds p.blk (.map EM Ey))[b]? =w.heap[b]? :=fun b hb=>by simp [zG9 hb]
  have HB: ∀ e'∈es.toList,∀ k,e'.key= .int .i64 k -> k≠x -> H3 w (fun b=>p.foot b/\ b≠p.blk) e'.val (f k):=fun e' he k hk LO=>by
   obtain ⟨k',h1,h2⟩:=h.key e' he;have:k'=k:=by rw [h1] at hk;cases hk;rfl
   subst this;exact h2 fun L' e=>by rw [KB] at e;cases e;exact LO rfl
  refine ⟨h.val,by simp [AM],h.own,fun e he=>?_,fun k Ct=>?_,st.2.2,fun e he e' Gs b hb DN=>?_,st.1,st.2.1,fun k L' g' e=>by cases e⟩
  ·rcases m1 e he with ⟨a1,a2⟩ | ⟨a1,a2⟩
   ·refine ⟨x,a1,fun _=>?_⟩;rw [a2];unfold NV;rw [zAM rfl];exact hs.out (fun b hf _ _=>stay b hf.2) fun _ h _=>h
   ·obtain ⟨k,h1,_⟩:=h.key e a1;have LO:k≠x:=fun e'=>a2 (by rw [h1,e'])
    refine ⟨k,h1,fun _=>?_⟩;unfold NV;rw [zAh LO];exact (HB e a1 k h1 LO).out (fun b hf _ _=>stay b hf.2) fun _ h _=>h
  ·have LO:k≠x:=fun e=>by subst e;obtain ⟨e,h1,h2⟩:=m2;exact Ct e h1 h2
   unfold NV;rw [zAh LO];refine h.no k fun e he nI=>?_
   exact Ct e (m3 e he fun h=>LO (by rw [nI] at h;cases h;rfl)) nI
  ·rcases m1 e he with ⟨a1,a2⟩ | ⟨a1,a2⟩
   ·rcases m1 e' Gs with ⟨b1,b2⟩ | ⟨b1,b2⟩
    ·rw [a1,b1]
    ·rw [a2] at hb;exact a1.trans (hd e' b1 b hb DN).symm
   ·rcases m1 e' Gs with ⟨b1,b2⟩ | ⟨b1,b2⟩
    ·rw [b2] at DN;exact (hd e a1 b DN hb).trans b1.symm
    ·exact h.apart e a1 e' b1 b hb DN
 have st:MapKept.Stamped es Ac:=⟨h.born,h.stamps,h.nd⟩;rcases ko h hu x with ⟨h1,h2⟩ | ⟨j,e,h1,h2,h3⟩
 ·refine ⟨_,es.push { key:=.int .i64 x,val:=u,born:=Ac },Ac+1,?_,Rj _,mk _ _ (fun e he=>?_) ⟨{ key:=.int .i64 x,val:=u,born:=Ac },by simp,rfl⟩ (fun e he _=>by simp [zHp.1 he]) (MapKept.stamped_push st h2)⟩
  ·simp [Instr.mapUpdate,zCY hm,zDK h.blk,hc,h1,zGt _ h.blk,Result.andThen]
  ·simp only [Array.toList_push,zC1,zA1] at he;rcases he with he | rfl
   ·exact .inr ⟨he,h2 e he⟩
   ·exact .inl ⟨rfl,rfl⟩
 ·have EW:((es[j]?).map (·.key)).getD (.int .i64 x)= .int .i64 x:=by rw [h2];exact h3
  have Ds:=MapKept.run_keyThatStays (P:=P) (w:=w) (d:=.int .i64) (k:=.int .i64 x) (by trivial);have hj:j<es.size:=(zAZ.1 h2).1
  have inj: ∀ (m:Nat) (e':MapEntry),es[m]? =some e' -> e'.key= .int .i64 x -> m=j:=fun m e' Cd Ct=>by
   have F3:m<es.size:=(zAZ.1 Cd).1;have g1:(es.toList.map (·.key))[m]? =some (.int .i64 x):=by simp [Cd,Ct]
   have g2:(es.toList.map (·.key))[j]? =some (.int .i64 x):=by simp [h2,h3]
   exact (List.getElem?_inj (by simpa using F3) h.nd).1 (g1.trans g2.symm)
  have JB: ∀ (m:Nat),(es.modify j fun e=>{ e with key:=.int .i64 x,val:=u })[m]? =if j=m then (es[m]?).map (fun e=>{ e with key:=.int .i64 x,val:=u }) else es[m]? :=fun m=>zGi
  refine ⟨_,es.modify j fun e=>{ e with key:=.int .i64 x,val:=u },Ac,?_,Rj _,mk _ _ (fun e1 cr=>?_) ⟨{ e with key:=.int .i64 x,val:=u },?_,rfl⟩ (fun e1 cr Ad=>?_) (MapKept.stamped_modify st _ _ (fun _ _=>rfl) fun e' _ Gs=>by rw [h2] at Gs;cases Gs;exact h3.symm)⟩
  ·simp [Instr.mapUpdate,zCY hm,zDK h.blk,hc,h1,EW,Ds,zGt _ h.blk,Result.andThen]
  ·obtain ⟨m,Cd⟩:=zGw.1 cr;rw [zGx,JB] at Cd;split at Cd
   ·rename_i ci;subst ci;rw [h2] at Cd;cases Cd;exact .inl ⟨rfl,rfl⟩
   ·rename_i ci;exact .inr ⟨zHp.2 (zGP Cd),fun Ct=>ci (inj m e1 Cd Ct).symm⟩
  ·exact zGw.2 ⟨j,by rw [zGx,JB,zAM rfl,h2];rfl⟩
  ·obtain ⟨m,Cd⟩:=zGw.1 cr;rw [zGx] at Cd;refine zGw.2 ⟨m,by rw [zGx,JB,zAh];exact Cd;rintro rfl;rw [h2] at Cd;cases Cd;exact Ad h3⟩
theorem yH (R:AR P Γ N S ρ a w){j off n:Nat}{xs:List Int}{v:Value}(hO:S.h[j]? =some (some (.ints xs)))(hv:AK (MS N S.h ρ) w (.mse j 1 off n) ρ v)(hn:off+n=xs.length){t e ty:TypeId}{i:TypeInfo}{z:Value}(hu:P.underlying t=some (.slice e))(hi:P.info? e=some i)(hz:i.zero=some z)(Ay:i.size=1)(Cq:z.cells.size=i.size)(Du:i.bytes<=128) 
 {vy:Value} {ys:List Int} (hy:Src P i.size t vy ys.length (ys.map (Value.int .i64)) w) (hc:0<ys.length) (hb:n+ys.length<=BA):
 ∃ u w' p' B7,v=u/\ (Builtin.append_ #[t,t] ty #[u,vy]).run P w= .ok (.slice (some ⟨p'.blk,p'.off,none⟩) (n+ys.length) B7) w'/\ n+ys.length<=B7/\ p'.off+B7<=p'.room/\ (∃ p,ρ[j]? =some p/\ AO p.foot w w'/\ ∀ b,p'.foot b -> (p.foot b∨w.heap.size<=b)/\ Dm w' b)/\
  (∀ {M ρ'},EC P M w' ρ' p' (.ints (xs.drop off++ys)))/\ True:=by
 obtain ⟨p,ad,cap,hp,rfl,h1,h2,h3⟩:=hv;obtain ⟨p2,Oi,hr⟩:=R.hr.obj j _ hO;have:p2=p:=zAe (Oi.symm.trans hp);subst this;have Ow:(xs.drop off).length=n:=by simp;omega
 have bJ: ∃ w' p' B7,(Builtin.append_ #[t,t] ty #[.slice ad n cap,vy]).run P w= .ok (.slice (some ⟨p'.blk,p'.off,none⟩) (n+ys.length) B7) w'/\ n+ys.length<=B7/\ p'.off+B7*i.size<=p'.room/\ AO p2.foot w w'/\ (∀ b,p'.foot b -> p2.foot b∨w.heap.size<=b)/\ AY w' p' ((n+ys.length)*i.size) (Ic (n*i.size) (fun j u=>u= .int .i64 ((xs.drop off).getD j 0)) (ys.map (Value.int .i64))):=by
  by_cases Mr:cap=0
  ·subst Mr;have HM:n=0:=by omega
   subst HM;obtain ⟨w',B7,r1,r2,cs,rfl,r4,r5⟩:=ea ad (ty:=ty) hu hi hz Cq Du hy hc (by unfold BA at hb;omega);refine ⟨_,ER w cs.size,B7,by simpa [ER] using r1,by omega,by simp [ER,r4],AO.ofExt ((Aq.toDrew w).allocR _),fun b hb=>.inr (Nat.le_of_eq (Eq.symm hb)),Nu rfl ?_ fun j hj=>?_⟩
   ·rw [r4];exact zGH _ (by omega)
   ·rw [zA8] at hj;refine ⟨(ys.map (Value.int .i64)).getD j undef,?_,?_⟩
    ·rw [r5 j hj];rw [Ay,zCz] at hj;simp [hj]
    ·rw [Ay,zCz] at hj;unfold Ic;rw [zAh (by omega)];simp [hj]
  ·obtain ⟨rfl,h4⟩:=h3 (by omega);obtain ⟨c1,cs,tt,c2,c3,c4,c5⟩:=hr
   exact eY (ty:=ty) (p:={ p2 with off:=p2.off+off*1 }) (cap:=cap) hu hi hz (by omega) Cq Du (R:=fun j u=>u= .int .i64 ((xs.drop off).getD j 0)) (by
    refine ⟨c1,cs,tt,c2,?_,c4,fun j hj=>?_⟩
    ·rw [Ay];show p2.off+off*1+n*1<=cs.size;omega
    ·rw [Ay,zCz] at hj;obtain ⟨u,q1,q2⟩:=c5 (off+j) (by omega);refine ⟨u,by show cs[p2.off+off*1+j]? =_;rw [show p2.off+off*1+j=p2.off+(off+j) by omega];exact q1,?_⟩;rw [q2];simp [u8]) h1 (by rw [Ay];simpa using h4) hy (by unfold BA at hb;omega)
 obtain ⟨w',p',B7,r1,r2,r3,r4,r5,r6⟩:=bJ;rw [Ay,zCz] at r3;refine ⟨_,w',p',B7,rfl,r1,r2,r3,⟨p2,hp,r4,fun b hb=>⟨r5 b hb,?_⟩⟩,fun {M ρ'}=>ba (xs:=xs.drop off) (ys:=ys) Ay (by rw [Ow];exact r6),trivial⟩;obtain ⟨e1,cs,tt,e2,_⟩:=r6;rw [e1] at hb;exact .cells (c:=cs) (t:=tt) (z:=(0,0)) (by rw [show b=p'.blk from hb];exact e2)
theorem vV (R:AR P Γ N S ρ a w){o:Oper}{S':St}{vs:List Prop}(h:Se P S o=some (S',vs))(hv:BZ vs):
 BL P (execOp a.eval o) w (fun v w'=>∃ ρ',AR P Γ N S' ρ' (a.put o.dst v) w'/\ Cv S.h ρ w S'.h ρ' w'):=by
 unfold Se at h;split at h
 ·rename_i t ho;split at h
  ·rename_i r hT;cases h;refine BL.value (s:=Instr.makeMap t none) (by unfold execOp;rw [ho];rfl) (v:=.map (some w.heap.size)) (w':=w.alloc (.map #[] 0)) (by simp [Instr.makeMap,newObj];rfl) ?_;have G:=UM (ob:=.map #[] 0) (o:=.mo (.rows (fun _=>[]) none)) (d:=.mri S.h.length 0) (v:=.map (some w.heap.size)) (pl:=⟨w.heap.size,0,0,.tuple #[.map (some w.heap.size),undef],fun b=>b=w.heap.size⟩) R.hr rfl rfl (fun M ρ'=>⟨undef,#[],0,rfl,zGf w _,rfl,fun e he=>absurd he (by simp),fun _ _=>rfl,by simp,fun e he=>absurd he (by simp),fun e he=>absurd he (by simp),by simp,fun k L g e=>by cases e⟩) (fun M ρ' hp=>⟨_,_,hp,rfl,rfl⟩) true;exact Mx R o.dst G fun _ _ h=>h
  ·cases h
 ·rename_i t m k ho;split at h
  ·rename_i r hT;obtain ⟨kt,et⟩:=r;obtain ⟨hu,hk,hz⟩:=jZ hT;have rm:=Bj R m;have rk:=Bj R k;split at h
   ·rename_i j x hM hK;split at h
    ·rename_i f B1 hO;split at h
     ·rename_i hh;cases h;rw [hM] at rm;rw [hK] at rk;obtain ⟨p,u,es,Ac,hp,hA,C5⟩:=Wb R hO rm;have em:a.eval m= .map (some p.blk):=by simpa using C5.symm
      have ek:a.eval k= .int .i64 x:=rk;obtain ⟨u',g1,g2⟩:=xL hA (fun k L e=>by subst e;simp at hh) hu hk (hz w) x;refine BL.value (s:=Instr.lookup t (a.eval m) (a.eval k) false) (by unfold execOp;rw [ho]) (by rw [em,ek];exact g1) ?_;exact jX (p':={ p with val:=.tuple #[Value.map (some p.blk),u'] }) R hO hp hA (AO.refl _ _) (fun b hb=>⟨.inl hb,(R.hr.cel j _ p b hO hp hb).2.2⟩) g2 rfl o.dst
     ·cases h
    ·cases h
   ·cases h
  ·cases h
 ·rename_i t m k y ho;split at h
  ·rename_i r hT;obtain ⟨kt,et⟩:=r;obtain ⟨hu,hk,hz⟩:=jZ hT;have rm:=Bj R m;have rk:=Bj R k;have ry:=Bj R y;split at h
   ·rename_i j x j' hM hK hY;split at h
    ·rename_i f x' L g hO;split at h
     ·rename_i hj;cases h;subst hj;have hx:x'=x:=hv.1;subst hx;rw [hM] at rm;rw [hK] at rk;rw [hY] at ry;obtain ⟨p,u,es,Ac,hp,hA,C5⟩:=Wb R hO rm;obtain ⟨p2,u2,es2,clock2,Oi,hA2,zAd⟩:=Wb R hO ry;have:p2=p:=zAe (Oi.symm.trans hp);subst this;have eu:u2=u:=by have:=hA2.val.symm.trans hA.val;simp at this;exact this
      have em:a.eval m= .map (some p2.blk):=by simpa using C5.symm
      have ek:a.eval k= .int .i64 x':=rk;have ey:a.eval y=u:=by rw [←eu];simpa using zAd.symm
      obtain ⟨w',EM,Ey,g1,g2,g3⟩:=xK hA rfl hu hk;refine BL.skip (s:=Instr.mapUpdate t (a.eval m) (a.eval k) (a.eval y)) (by unfold execOp;rw [ho]) (w':=w') (by rw [em,ek,ey];exact g1) ?_;have IT:AO p2.foot w w':=g2.mono fun b _ hb=>by rw [show b=p2.blk from hb];exact hA.own
      have hl: ∀ b,p2.foot b -> Dm w' b:=fun b hb=>by
       by_cases e:b=p2.blk
       ·rw [e];exact g3.lies
       ·obtain ⟨c,t1,t2,hc⟩:=(R.hr.cel _ _ p2 b hO hp hb).2.2;exact ⟨c,t1,t2,(g2.block b (zAZ.1 hc).1 e).trans hc⟩
      have G:Ci P Γ N S.h ρ w false NW (S.h.set j' (some (.mo (.rows (NV f x' L) none)))) undef w':=⟨⟨ρ,R.hr.write hO hp IT hl ⟨u,EM,Ey,g3⟩,VT,A5.write hO hp IT,fun _ _ h=>h⟩,fun h=>by cases h⟩;exact Mx R o.dst G fun _ _ h=>h
     ·cases h
    ·cases h
   ·cases h
  ·cases h
 ·rename_i c ho;split at h
  ·rename_i hc;split at h
   ·rename_i x y ha;split at h
    ·rename_i t t' ht;split at h
     ·rename_i e;subst e;split at h
      ·rename_i e i z hk;obtain ⟨hu,hi,hz,h0,Cq,EW,_⟩:=Ub hk;have C3:i.size=1:=EW.symm;split at h
       ·cases h
       ·rename_i Du;have rx:=Bj R x;have ry:=Bj R y;split at h
        ·rename_i j off n ys vy hX hY;split at h
         ·rename_i xs hO;cases h;obtain ⟨v1,v2,v3,v4,_⟩:=hv;rw [hX] at rx;obtain ⟨ad,w',p',B7,e0,g1,g2,g3,g4,g5,_⟩:=yH (ty:=o.type) R hO rx v3 hu hi hz C3 Cq (by omega) (by rw [C3];exact Th R hu ry hY v1) v2 v4;refine BL.value (M4 ho hc ha ht) (by rw [e0];exact g1) ?_;obtain ⟨p,hp⟩:=g4;obtain ⟨q1,q2⟩:=R.hr.regrow (o':=.ints (xs.drop off++ys)) hO hp.1 hp.2.1 hp.2.2 g5
          have G:Ci P Γ N S.h ρ w false (.mse S.h.length 1 0 (n+ys.length)) (S.h.set j none++[some (.ints (xs.drop off++ys))]) (.slice (some ⟨p'.blk,p'.off,none⟩) (n+ys.length) B7) w':=
           ⟨⟨ρ++[p'],q1,⟨p',_,B7,by rw [←R.hr.len];simp,rfl,g2,by unfold LB;unfold BA at v4;omega,fun _=>⟨by simp,by simpa using g3⟩⟩,q2,fun _ _ h=>Eh h⟩,fun h=>by cases h⟩
          exact Mx R o.dst G fun _ _ h=>h
         ·cases h
        ·rename_i j ys vy hX hY;split at h
         ·rename_i f x' L g hO;cases h;obtain ⟨v1,v2,v3,_⟩:=hv;rw [hX] at rx;obtain ⟨p,u,es,Ac,hp,hA,C5⟩:=Wb R hO rx;have ex:a.eval x=u:=by simpa using C5.symm
          obtain ⟨w',u',p',g1,g2,g3,g4,g5⟩:=xN (ty:=o.type) hA rfl (fun b hb=>(R.hr.cel j _ p b hO hp hb).2.2) hu hi hz C3 Cq (by omega) (by rw [C3];exact Th R hu ry hY v1) v2 v3;refine BL.value (M4 ho hc ha ht) (by rw [ex];exact g1) ?_;exact jX R hO hp hA g2 g3 g4 g5 o.dst
         ·cases h
        ·cases h
      ·cases h
     ·cases h
    ·cases h
   ·cases h
  ·cases h
 ·cases h
def Vg (P:Program)(S:St)(o:Oper):Option (St×List Prop):=match ZX P S o with
 | some r=>some r
 | none=>Se P S o
theorem iS (R:AR P Γ N S ρ a w){o:Oper}{S':St}{vs:List Prop}(h:Vg P S o=some (S',vs))(hv:BZ vs):
 BL P (execOp a.eval o) w (fun v w'=>(∃ ρ',AR P Γ N S' ρ' (a.put o.dst v) w'/\ Cv S.h ρ w S'.h ρ' w')/\ ((∀ t x y,o.op≠.store t x y)∨∃ k i p t x y,o.op= .store t x y/\ AW S.fr x= .mp k 1 i 0/\ ρ[k]? =some p/\ AO p.foot w w')):=by
 have wk: ∀ {G G':Value -> World -> Prop},(∀ v w',G v w' -> G' v w') -> BL P (execOp a.eval o) w G -> BL P (execOp a.eval o) w G':=fun hg D=>by
  rcases D with ⟨v,w',h1,h2⟩ | ⟨w',h1,h2⟩ | ⟨f,args,w',h1,h2⟩
  ·exact .inl ⟨v,w',h1,hg _ _ h2⟩
  ·exact .inr (.inl ⟨w',h1,hg _ _ h2⟩)
  ·exact .inr (.inr ⟨f,args,w',h1,h2.mono fun e CV ⟨v,e1,e2⟩=>⟨v,e1,hg _ _ e2⟩⟩)
 unfold Vg at h;split at h
 ·rename_i r hM;cases h;exact wk (fun v w' hx=>⟨hx.1,.inr hx.2⟩) (sF R hM hv)
 ·exact wk (fun v w' hx=>⟨hx,.inl fun t x y=>vW h⟩) (vV R h hv)
end
abbrev zC2:=@List.getElem?_set_ne
abbrev zGq:=@Array.getElem?_setIfInBounds_ne
def Zx (P:Program)(t:TypeId):Option (TypeId×TypeInfo):=match P.underlying t with
 | some (.slice e)=>match P.info? e with
  | some i=>match i.zero with
   | some (.slice none 0 0)=>if i.size=1/\ i.bytes<=128 then some (e,i) else none
   | _=>none
  | none=>none
 | _=>none
theorem uz {P:Program}{t e:TypeId}{i:TypeInfo}(h:Zx P t=some (e,i)):P.underlying t=some (.slice e)/\ P.info? e=some i/\ i.zero=some (.slice none 0 0)/\ i.size=1/\ i.bytes<=128:=by
 unfold Zx at h;split at h
 ·rename_i e' hu;split at h
  ·rename_i i' hi;split at h
   ·rename_i hz;split at h
    ·rename_i hc;cases h;exact ⟨hu,hi,hz,hc.1,hc.2⟩
    ·cases h
   ·cases h
  ·cases h
 ·cases h
def QG (j q:Nat):DV -> DV
 | .msl k m o n=>if k=j then .msl q m o n else .msl k m o n
 | .mp k m i c=>if k=j then .mp q m i c else .mp k m i c
 | .mri k i=>if k=j then .any else .mri k i
 | d=>d
def Vz (P:Program)(S:St)(fz:List (Nat×Fz))(o:Oper):Option (St×List Prop×List (Nat×Fz)):=match o.op with
 | .makeSlice t x y=>match fz with
  | (d,.rws)::rest=>if o.dst=some d then match Zx P t with
   | some _=>match AW S.fr x,AW S.fr y with
    | .int _ m,.int _ m'=>some (⟨Ck S.fr o.dst (.msl S.h.length 1 0 m.toNat),S.h++[some (.mo (.rws (List.replicate m.toNat []) none))]⟩,[m'=m/\ 0<=m/\ m<=1000000000000],rest)
    | _,_=>none
   | none=>none
   else none
  | _=>none
 | .call c=>match c.callee with
  | .builtin .append=>match c.args.toList with
   | [x,y]=>match c.argTypes.toList with
    | [t,t']=>if t=t' then match KT P t with
     | some (.ints,_,i,_)=>if 128<i.bytes then none else match AW S.fr x,K9 S (AW S.fr y) with
      | .mri j (r+1),some (ys,vy)=>match S.h[j]? with
       | some (some (.mo (.rws ls none)))=>some (⟨Ck (S.fr.map (QG j S.h.length)) o.dst (.mri S.h.length 0),S.h.set j none++[some (.mo (.rws ls (some (r,ls.getD r default++ys))))]⟩,[vy,0<ys.length,r<ls.length,(ls.getD r default).length+ys.length<=BA],fz)
       | _=>none
      | _,_=>none
     | _=>none
     else none
    | _=>none
   | _=>none
  | _=>none
 | .store t x y=>match o.dst with
  | none=>match AW S.fr x,AW S.fr y with
   | .mp j 1 r 0,.mri j' 0=>match S.h[j]? with
    | some (some (.mo (.rws ls (some (r',L)))))=>if j'=j/\ (P.info? t).any (fun i=>i.size==1)=true then some (⟨S.fr.map (QG j S.h.length),S.h.set j none++[some (.mo (.rws (ls.set r L) none))]⟩,[r'=r,r<ls.length],fz) else none
    | _=>none
   | _,_=>none
  | some _=>none
 | _=>none
section
variable {P:Program} {Γ:At} {N:Nat -> Prop} {S:St} {ρ:List AH} {a:Act} {w w':World} {p p':AH} {ls TT:List (List Int)} {B1 JF:Option (Nat×List Int)} {vs Bn:Array Value}
theorem jP (R:AR P Γ N S ρ a w){j i:Nat}{v:Value}(hk:S.h[j]? =some (some (.mo (.rws ls B1))))(hv:AK (MS N S.h ρ) w (.mri j i) ρ v): ∃ p vs,ρ[j]? =some p/\ Kb w p ls B1 vs/\ vs[i]? =some v:=by
 obtain ⟨p,vs,hp,Fg,C5⟩:=hv;obtain ⟨p',BC,Bn,h1⟩:=R.hr.obj j _ hk;have:p'=p:=zAe (BC.symm.trans hp);subst this;have:Bn=vs:=by have:=h1.val.symm.trans Fg;cases this;rfl
 subst this;exact ⟨p',Bn,hp,h1,C5⟩
theorem jO (R:AR P Γ N S ρ a w){j:Nat}(hj:S.h[j]? =some (some (.mo (.rws ls B1))))(hp:ρ[j]? =some p)(hu:AO p.foot w w')(hf: ∀ b,p'.foot b -> (p.foot b∨w.heap.size<=b)/\ Dm w' b)(Mu:Kb w' p' TT JF Bn) 
 (e1:p'.blk=p.blk) (e2:p'.off=p.off) (e3:p'.room=p.room) (dst:Option Nat) {d:DV} {v:Value} (hd: ∀ M ρ',ρ'[S.h.length]? =some p' -> AK M w' d ρ' v):
 ∃ ρ',AR P Γ N ⟨Ck (S.fr.map (QG j S.h.length)) dst d,S.h.set j none++[some (.mo (.rws TT JF))]⟩ ρ' (a.put dst v) w'/\ Cv S.h ρ w (S.h.set j none++[some (.mo (.rws TT JF))]) ρ' w':=by
 obtain ⟨g1,g2⟩:=R.hr.regrow (o':=.mo (.rws TT JF)) hj hp hu hf ⟨Bn,Mu⟩;have FD: ∀ (k:Nat) (q:AH),ρ[k]? =some q -> (ρ++[p'])[k]? =some q:=fun k q hk=>Eh hk
 have O:BS (MS N S.h ρ) w ρ (MS N (S.h.set j none++[some (.mo (.rws TT JF))]) (ρ++[p'])) w' (ρ++[p']):=
  ⟨fun b hb hm _=>hu.block b hb fun hx=>hm (.inr ⟨j,_,p,hj,hp,hx⟩),fun b hb=>hb.elim (fun h=>.inl (.inl h)) (fun h=>(g2.grow b h).imp .inr id),FD⟩
 have hq:(ρ++[p'])[S.h.length]? =some p':=by rw [←R.hr.len];simp
 have Cu:=(R.fr.out O).map (g:=QG j S.h.length) (fun d v hd=>by
  unfold QG;split
  ·rename_i k m o n;split
   ·rename_i e;subst e;obtain ⟨q,cap,h1,h2,h3,h4,h5⟩:=hd;have:q=p:=zAe (h1.symm.trans (FD _ _ hp));subst this;exact ⟨p',cap,hq,by rw [e1,e2];exact h2,h3,h4,by rw [e2,e3];exact h5⟩
   ·exact hd
  ·rename_i k m i c;split
   ·rename_i e;subst e;obtain ⟨q,h1,h2⟩:=hd;have:q=p:=zAe (h1.symm.trans (FD _ _ hp));subst this;exact ⟨p',hq,by rw [e1,e2];exact h2⟩
   ·exact hd
  ·split
   ·trivial
   ·exact hd
  ·exact hd)
 exact ⟨ρ++[p'],G6 (S:=⟨S.fr.map (QG j S.h.length),_⟩) ⟨g1,Cu⟩ dst (hd _ _ hq),g2,FD⟩
theorem uy (h:Kb w p ls none vs){r:Nat}(hr:r<ls.length)(hl: ∀ b,p.foot b -> Dm w b){t e ty:TypeId}{i:TypeInfo}{z:Value}(hu:P.underlying t=some (.slice e))(hi:P.info? e=some i)(hz:i.zero=some z)(Ay:i.size=1)(Cq:z.cells.size=i.size)(Du:i.bytes<=128) 
 {vy:Value} {ys:List Int} (hy:Src P i.size t vy ys.length (ys.map (Value.int .i64)) w) (hc:0<ys.length) (hb:(ls.getD r default).length+ys.length<=BA):
 ∃ w' u' p',(Builtin.append_ #[t,t] ty #[vs.getD (r+1) undef,vy]).run P w= .ok u' w'/\ AO p.foot w w'/\ (∀ b,p'.foot b -> (p.foot b∨w.heap.size<=b)/\ Dm w' b)/\ Kb w' p' ls (some (r,ls.getD r default++ys)) (vs.setIfInBounds 0 u')/\ p'.blk=p.blk/\ p'.off=p.off/\ p'.room=p.room:=by
 have hs:=h.has r hr fun L e=>by cases e
 obtain ⟨w',q,B7,r1,r2,r3,r4,r5,r6⟩:=iw (ty:=ty) hs hu hi hz Ay Cq Du hy hc hb
 generalize hU:vs.getD (r+1) undef=u at*
 have NY: ∀ b,DY u=some b -> (p.foot b/\ b≠p.blk)/\ b<w.heap.size:=fun b hb=>hs.blk hb
 have keep: ∀ b,b<w.heap.size -> DY u≠some b -> w'.heap[b]? =w.heap[b]? :=fun b hb hn=>r4.block b hb hn
 have Oh:DY u≠some p.blk:=fun e=>(NY _ e).1.2 rfl
 obtain ⟨cs,tt,k1,k2,k3,k4⟩:=h.row;have cL:p.blk<w.heap.size:=(zAZ.1 k1).1;have cJ:q.blk≠p.blk:=fun e=>r5.elim (fun e'=>Oh (by rw [←e];exact e')) (fun e'=>by omega)
 have hv: ∀ j,(vs.setIfInBounds 0 (.slice (some ⟨q.blk,q.off,none⟩) (ls.getD r default++ys).length B7)).getD (j+1) undef=vs.getD (j+1) undef:=fun j=>by
  simp [zAq,zCu]
 have Me:(vs.setIfInBounds 0 (.slice (some ⟨q.blk,q.off,none⟩) (ls.getD r default++ys).length B7)).getD 0 undef= .slice (some ⟨q.blk,q.off,none⟩) (ls.getD r default++ys).length B7:=by
  have:0<vs.size:=by rw [h.size];omega
  simp [zAq,zCu,this]
 have ne: ∀ j b,j<ls.length -> j≠r -> DY (vs.getD (j+1) undef)=some b -> DY u≠some b:=fun j b hj Ad hb DN=>Ad (h.apart j r b hj hr (fun L e=>by cases e) (fun L e=>by cases e) hb (by rw [hU];exact DN))
 refine ⟨w',_,⟨p.blk,p.off,p.room,.tuple (vs.setIfInBounds 0 (.slice (some ⟨q.blk,q.off,none⟩) (ls.getD r default++ys).length B7)),fun b=>(p.foot b/\ DY u≠some b)∨b=q.blk⟩,r1,r4.mono fun b _ hb=>(NY b hb).1.1,fun b hb=>?_,?_,rfl,rfl,rfl⟩
 ·rcases hb with ⟨g1,g2⟩ | g1
  ·obtain ⟨c,t1,t2,hc⟩:=hl b g1;exact ⟨.inl g1,c,t1,t2,(keep b (zAZ.1 hc).1 g2).trans hc⟩
  ·obtain ⟨_,cs,tt,g,_⟩:=r6;subst g1;exact ⟨r5.imp (fun e=>(NY _ e).1.1) id,.cells g⟩
 ·refine ⟨rfl,by simpa using h.size,⟨cs,tt,(keep _ cL Oh).trans k1,k2,k3,fun j hj=>?_⟩,.inl ⟨h.blk,Oh⟩,fun j hj hh=>?_,fun i j b hi hj _ _ h1 h2=>?_,fun k L e=>?_⟩
  ·rw [zGq (by omega)];exact k4 j hj
  ·have Ad:j≠r:=fun e=>hh _ (by rw [e])
   rw [hv];exact (h.has j hj fun L e=>by cases e).out (fun b hf hb hl=>keep b hl (ne j b hj Ad hb)) fun b hf hb=>⟨.inl ⟨hf.1,ne j b hj Ad hb⟩,hf.2⟩
  ·rw [hv] at h1 h2;exact h.apart i j b hi hj (fun L e=>by cases e) (fun L e=>by cases e) h1 h2
  ·cases e;rw [Me];refine ⟨.inr ⟨q,B7,rfl,r2,r3,by unfold LB;unfold BA at hb;simp only [zA7];omega,⟨.inr rfl,cJ⟩,r6⟩,fun j b hj hb DN=>?_⟩;cases hb;rw [hv] at DN;rcases r5 with r5 | r5
   ·exact h.apart j r q.blk hj hr (fun L e=>by cases e) (fun L e=>by cases e) DN (by rw [hU];exact r5)
   ·exact absurd ((h.has j hj fun L e=>by cases e).blk DN).2 (Nat.not_lt.2 r5)
theorem ux (h:Kb w p ls B1 vs){r:Nat}{L:List Int}(KB:B1=some (r,L))(hr:r<ls.length){t:TypeId}{ti:TypeInfo}(LF:P.info? t=some ti)(Ay:ti.size=1):
 ∃ w',(Instr.storeAt t (.pointer (some ⟨p.blk,p.off+r,none⟩)) (vs.getD 0 undef)).run P w= .ok () w'/\ AO (fun b=>b=p.blk) w w'/\ Kb w' { p with val:=.tuple (vs.setIfInBounds (r+1) (vs.getD 0 undef)) } (ls.set r L) none (vs.setIfInBounds (r+1) (vs.getD 0 undef))/\ Dm w' p.blk:=by
 obtain ⟨hs,hd⟩:=h.inHand r L KB;obtain ⟨cs,tt,k1,k2,k3,k4⟩:=h.row
 generalize hU:vs.getD 0 undef=u at*
 have hc:u.cells= #[u]:=by rcases hs with ⟨_,rfl⟩ | ⟨q,cap,rfl,_⟩ <;> rfl
 have I4:r+1<vs.size:=by rw [h.size];omega
 have Az:w.cell? ⟨p.blk,p.off+r,none⟩=some vs[r+1]:=by
  have:=k4 r hr;rw [zCF I4] at this;unfold World.cell?;simp [k1,this]
 have GV: ∀ jj,w.frozen? ⟨p.blk,jj,none⟩=false:=fun jj=>by unfold World.frozen?;simp [k1]
 have hv: ∀ j,j≠r -> (vs.setIfInBounds (r+1) u).getD (j+1) undef=vs.getD (j+1) undef:=fun j hj=>by
  rw [zAq,zAq,zGq (by omega)]
 have Gm:(vs.setIfInBounds (r+1) u).getD (r+1) undef=u:=by
  simp [zAq,zCu,I4]
 obtain ⟨EZ,e1,e2,e3⟩:=Qi p.blk tt (0,0) [u] (p.off+r) w cs k1 (by simp;omega);have dE:AO (fun b=>b=p.blk) w (w.setCells p.blk (p.off+r) [u]):=Pf _ _ _ _
 generalize hW:w.setCells p.blk (p.off+r) [u]=W at dE e1
 have stay: ∀ b,b≠p.blk -> b<w.heap.size -> W.heap[b]? =w.heap[b]? :=fun b hb hl=>dE.block b hl hb
 refine ⟨W,?_,dE,?_,.cells e1⟩
 ·rw [←hW]
  have:=Z1 (w:=w) (b:=p.blk) (o:=p.off+r) (v:=u) LF (by rw [hc,Ay];rfl) (fun jj Mo=>by
   have:jj=0:=by rw [hc] at Mo;simpa using Mo
   subst this;rw [zGc,Az];rfl) GV (fun x hx=>by
   have:x=u:=by rw [hc] at hx;simpa using hx
   subst this;rcases hs with ⟨_,rfl⟩ | ⟨q,cap,rfl,_⟩ <;> rfl)
  rw [hc] at this;exact this
 ·have lg: ∀ j,j≠r -> (ls.set r L).getD j default=ls.getD j default:=fun j hj=>by
   rw [u8,u8,zC2 (by omega)]
  refine ⟨rfl,by simpa using h.size,⟨EZ,tt,e1,by simpa [e2] using k2,by rw [e2];exact k3,fun j hj=>?_⟩,h.blk,fun j hj _=>?_,fun i j b hi hj _ _ h1 h2=>?_,fun k L e=>by cases e⟩
  ·rw [zBB] at hj
   show EZ[p.off+j]? =_
   rw [e3]
   by_cases e:j=r
   ·subst e;rw [zAM (by simp),Array.getElem?_setIfInBounds_self_of_lt I4];simp
   ·rw [zAh (by simp;omega),zGq (by omega)];exact k4 j hj
  ·rw [zBB] at hj
   by_cases e:j=r
   ·subst e;rw [Gm,show (ls.set j L).getD j default=L by simp [u8,hj]];exact hs.out (fun b hf _ hl=>stay b hf.2 hl) fun _ h _=>h
   ·rw [hv j e,lg j e];exact (h.has j hj fun L' e'=>by rw [KB] at e';cases e';exact e rfl).out (fun b hf _ hl=>stay b hf.2 hl) fun _ h _=>h
  ·rw [zBB] at hi hj
   by_cases ei:i=r
   ·subst ei;rw [Gm] at h1
    by_cases ej:j=i
    ·exact ej.symm
    ·rw [hv j ej] at h2;exact (hd j b hj h1 h2).symm
   ·rw [hv i ei] at h1
    by_cases ej:j=r
    ·subst ej;rw [Gm] at h2;exact hd i b hi h2 h1
    ·rw [hv j ej] at h2;exact h.apart i j b hi hj (fun L' e'=>by rw [KB] at e';cases e';exact ei rfl) (fun L' e'=>by rw [KB] at e';cases e';exact ej rfl) h1 h2
theorem jQ (R:AR P Γ N S ρ a w){o:Oper}{S':St}{fz KN:List (Nat×Fz)}{vc:List Prop}(h:Vz P S fz o=some (S',vc,KN))(hv:BZ vc):
 BL P (execOp a.eval o) w (fun v w'=>(∃ ρ',AR P Γ N S' ρ' (a.put o.dst v) w'/\ Cv S.h ρ w S'.h ρ' w')/\ ((∀ t x y,o.op≠.store t x y)∨∃ k i p t x y,o.op= .store t x y/\ AW S.fr x= .mp k 1 i 0/\ ρ[k]? =some p/\ AO p.foot w w')):=by
 unfold Vz at h;split at h
 ·rename_i t x y ho;split at h
  case h_2=>cases h
  rename_i d rest;split at h
  case isFalse=>cases h
  split at h
  case h_2=>cases h
  rename_i r hT;obtain ⟨e,i⟩:=r;split at h
  case h_2=>cases h
  rename_i k1 m k2 m' hx hy;cases h;obtain ⟨⟨rfl,F2,F1⟩,_⟩:=hv;obtain ⟨hu,hi,hz,hs,Du⟩:=uz hT;have rx:=Bj R x;have ry:=Bj R y;rw [hx] at rx;rw [hy] at ry;have Dh:(madeCells (Value.slice none 0 0).cells (m'.toNat*i.size)).size=m'.toNat:=by rw [size_madeCells,hs,zCz]
  have DM: ∀ j,j<m'.toNat -> (madeCells (Value.slice none 0 0).cells (m'.toNat*i.size))[j]? =some (Value.slice none 0 0):=fun j hj=>by
   simp [madeCells,hs,hj,Value.cells,Nat.mod_one]
  refine BL.value (s:=Instr.makeSlice t (a.eval x) (a.eval y)) (by unfold execOp;rw [ho]) (v:=.slice (some ⟨w.heap.size,0,none⟩) m'.toNat m'.toNat) (w':=w.alloc (.cells (madeCells (Value.slice none 0 0).cells (m'.toNat*i.size)) e)) ?_ ?_
  ·rw [show a.eval x=_ from rx,show a.eval y=_ from ry];refine run_make w t e i _ hu hi hz k1 k2 m' m' F2 (zCn _) ?_ (by omega);have:(i.bytes:Int)*m'<=128*1000000000000:=Int.mul_le_mul (by omega) F1 F2 (by omega);omega
  ·generalize hC:madeCells (Value.slice none 0 0).cells (m'.toNat*i.size)=cs at Dh DM ⊢
   have hg: ∀ j,j<m'.toNat -> (#[undef]++Array.replicate m'.toNat (Value.slice none 0 0)).getD (j+1) undef= .slice none 0 0:=fun j hj=>by
    simp [zAq,Array.getElem?_append,hj]
   refine ⟨Mx R o.dst (UM (ob:=.cells cs e) (o:=.mo (.rws (List.replicate m'.toNat []) none)) (d:=.msl S.h.length 1 0 m'.toNat) (pl:=⟨w.heap.size,0,cs.size,.tuple (#[undef]++Array.replicate m'.toNat (Value.slice none 0 0)),fun b=>b=w.heap.size⟩) R.hr rfl rfl (fun M ρ'=>?_) (fun M ρ' hp=>⟨_,m'.toNat,hp,by simp,zA5 _,by unfold LB;omega,by simp [Dh]⟩) true) fun _ _ h=>h,.inl fun t x y e=>by rw [ho] at e;cases e⟩;refine ⟨#[undef]++Array.replicate m'.toNat (Value.slice none 0 0),rfl,by simp;omega,⟨cs,e,zGf w _,by simp [Dh],zA5 _,fun j hj=>?_⟩,rfl,fun j hj _=>.inl ⟨?_,?_⟩,fun i j b hi hj _ _ h1 h2=>?_,fun k L e=>by cases e⟩
   ·rw [zAw] at hj
    show cs[0+j]? =_
    rw [zA8,DM j hj];simp [Array.getElem?_append,hj]
   ·rw [zAw] at hj;simp [u8,hj]
   ·rw [zAw] at hj;exact hg j hj
   ·rw [zAw] at hi;rw [hg i hi] at h1;cases h1
 ·rename_i c ho;split at h
  case h_2=>cases h
  rename_i hc;split at h
  case h_2=>cases h
  rename_i x y ha;split at h
  case h_2=>cases h
  rename_i t t' ht;split at h
  case isFalse=>cases h
  rename_i e;subst e;split at h
  case h_2=>cases h
  rename_i e i z hk;obtain ⟨hu,hi,hz,h0,Cq,EW,_⟩:=Ub hk;have C3:i.size=1:=EW.symm;split at h
  case isTrue=>cases h
  rename_i Du;have rx:=Bj R x;have ry:=Bj R y;split at h
  case h_2=>cases h
  rename_i j r ys vy hX hY;split at h
  case h_2=>cases h
  rename_i ls hO;cases h;obtain ⟨v1,v2,v3,v4,_⟩:=hv;rw [hX] at rx;obtain ⟨p,vs,hp,hA,C5⟩:=jP R hO rx;have ex:a.eval x=vs.getD (r+1) undef:=by simp [zAq,C5]
  obtain ⟨w',u',p',g1,g2,g3,g4,g5,g6,g7⟩:=uy (ty:=o.type) hA v3 (fun b hb=>(R.hr.cel j _ p b hO hp hb).2.2) hu hi hz C3 Cq (by omega) (by rw [C3];exact Th R hu ry hY v1) v2 v4;refine BL.value (M4 ho hc ha ht) (by rw [ex];exact g1) ?_
  exact ⟨jO R hO hp g2 g3 g4 g5 g6 g7 o.dst fun M ρ' hq=>⟨p',_,hq,g4.val,by
   have:0<vs.size:=by rw [hA.size];omega
   simp [zCu,this]⟩,.inl fun t x y e=>by rw [ho] at e;cases e⟩
 ·rename_i t x y ho;split at h
  case h_2=>cases h
  rename_i ct;split at h
  case h_2=>cases h
  rename_i j r j' hX hY;split at h
  case h_2=>cases h
  rename_i ls r' L hO;split at h
  case isFalse=>cases h
  rename_i hc;cases h;obtain ⟨rfl,Ay⟩:=hc;obtain ⟨rfl,v2,_⟩:=hv;have rx:=Bj R x;have ry:=Bj R y;rw [hX] at rx;rw [hY] at ry;obtain ⟨p,vs,hp,hA,C5⟩:=jP R hO ry;obtain ⟨p2,Oi,ex⟩:=rx;have:p2=p:=zAe (Oi.symm.trans hp);subst this;cases LF:P.info? t with
  | none=>rw [LF] at Ay;cases Ay
  | some ti=>
  rw [LF] at Ay;have di:a.eval x= .pointer (some ⟨p2.blk,p2.off+r',none⟩):=by rw [ex];simp
  have ey:a.eval y=vs.getD 0 undef:=by simp [zAq,C5]
  obtain ⟨W,g1,g2,g3,g4⟩:=ux hA rfl v2 LF (by simpa using Ay);refine BL.skip (s:=Instr.storeAt t (a.eval x) (a.eval y)) (by unfold execOp;rw [ho]) (w':=W) (by rw [di,ey];exact g1) ?_
  have:=jO (a:=a) (p':={ p2 with val:=.tuple (vs.setIfInBounds (r'+1) (vs.getD 0 undef)) }) R hO hp (g2.mono fun b _ hb=>by rw [show b=p2.blk from hb];exact hA.blk) (fun b hb=>⟨.inl hb,by
   by_cases e:b=p2.blk
   ·rw [e];exact g4
   ·obtain ⟨c,t1,t2,hc⟩:=(R.hr.cel _ _ p2 b hO hp hb).2.2;exact ⟨c,t1,t2,(g2.block b (zAZ.1 hc).1 e).trans hc⟩⟩) g3 rfl rfl rfl none (d:=.any) (v:=undef) fun _ _ _=>trivial
  rw [ct];exact ⟨this,.inr ⟨j',r',p2,t,x,y,ho,hX,hp,g2.mono fun b _ hb=>by rw [show b=p2.blk from hb];exact hA.blk⟩⟩
 ·cases h
end
abbrev zGD:=@Bool.false_or
abbrev zGg:=@Bool.false_ne_true
def ES (P:Program)(Γ:At)(f:Nat)(ds:List DV)(h:DH)(d:DV)(h':DH)(ext:Bool):Prop:=
 (∃ fn,P.funcs[f]? =some fn/\ fn.name≠ "runtime.NumGoroutine" /\ fn.body.isSome=true)/\
 ∀ (N:Nat -> Prop) (ρ:List AH) (w:World) (args:Array Value),A1 P Γ N h ρ w -> A9 (MS N h ρ) w ρ ds args ->
  Calls P f args w fun e w'=>∃ v,e= .returned v/\ Ci P Γ N h ρ w ext d h' v w'
def XA (h h':DH):Bool:=(List.range h.length).all fun k=>!(h.getD k none).isSome||(h'.getD k none).isSome
def PX (P:Program)(Γ:At)(f:Nat)(ds:List DV)(h:DH)(d:DV)(h':DH)(k:Nat):Prop:=
 (∃ fn,P.funcs[f]? =some fn/\ fn.name≠ "runtime.NumGoroutine" /\ fn.body.isSome=true)/\
 ∀ (N:Nat -> Prop) (ρ:List AH) (w:World) (args:Array Value),A1 P Γ N h ρ w -> A9 (MS N h ρ) w ρ ds args ->
  Calls P f args w fun e w'=>∃ v,e= .returned v/\ Ci P Γ N h ρ w false d h' v w'/\ AO (fun b=>∃ i o p,k<=i/\ h[i]? =some (some o)/\ ρ[i]? =some p/\ p.foot b) w w'
structure BE where
 calls:List (DV×DH×Bool)
 co:List (Nat×DV)
 fz:List (Nat×Fz):=[]
 tg:List (List (Nat×Nat)×St):=[]
def JV (ops:Array Oper)(S:St)(o:Oper):Option Bool:=match o.guard with
 | none=>some true
 | some (j,fu)=>match (ops[j]?).bind (·.dst) with
  | some t=>match S.fr.getD t .any with
   | .bool b=>some (b==fu)
   | .tup _ _=>some false
   | _=>none
  | none=>none
def Us (co:List (Nat×DV))(dst:Option Nat)(d:DV):DV×List Prop×List (Nat×DV):=match co with
 | []=>(d,[],[])
 | (t,d')::rest=>match dst with
  | some t'=>if t'=t then (d',[AS d d'],rest) else (d,[],co)
  | none=>(d,[],co)
def Lt (S:St):Op -> Bool
 | .move _=>true
 | .assign _=>true
 | .pick .. =>true
 | .binOp .shl .. =>false
 | .binOp .shr .. =>false
 | .binOp .quo .. =>false
 | .binOp .rem .. =>false
 | .binOp _ _ _ y _=>match AW S.fr y with
  | .nils=>false
  | _=>true
 | .unOp .. =>true
 | .convert .. =>true
 | .nilCheck _=>true
 | .fieldAddr .. =>true
 | .extract .. =>true
 | .makeFunc .. =>true
 | .build .. =>true
 | .field .. =>true
 | .call _=>true
 | .load _ x=>match AW S.fr x with
  | .mp .. =>false
  | _=>true
 | _=>false
def zq:Op -> Bool
 | .box .. =>true
 | .alloc _=>true
 | .buildSlice .. =>true
 | .makeSlice .. =>true
 | .store .. =>true
 | .makeMap .. =>true
 | .mapUpdate .. =>true
 | .insert .. =>true
 | .lookup .. =>true
 | .range .. =>true
 | .entry _=>true
 | .call c=>match c.callee with
  | .builtin .append=>true
  | .value _=>true
  | _=>false
 | _=>false
def P0 (P:Program)(ops:Array Oper)(S:St)(co:List (Nat×DV))(o:Oper):Option (St×List Prop×List (Nat×DV)):=match JV ops S o with
 | none=>none
 | some false=>some (⟨Ck S.fr o.dst NW,S.h⟩,[],co)
 | some true=>match S6 P S o.op with
  | none=>none
  | some (d,vc)=>match Us co o.dst d with
   | (d',vs,C4)=>some (⟨Ck S.fr o.dst d',S.h⟩,(if Lt S o.op then vs else vc::vs),C4)
def Sy (P:Program)(ops:Array Oper):List Oper -> St -> List (Nat×DV) -> Option (St×List Prop×List (Nat×DV))
 | [],S,co=>some (S,[],co)
 | o::rest,S,co=>match P0 P ops S co o with
  | none=>none
  | some (S',vs,C4)=>match Sy P ops rest S' C4 with
   | none=>none
   | some (CU,Bn,pZ)=>some (CU,vs++Bn,pZ)
def NI (P:Program)(Γ:At)(S:St)(calls:List (DV×DH×Bool)):Op -> Option (DV×DH×List Prop×Bool×List (DV×DH×Bool))
 | .box _ x=>match JI (AW S.fr x) with
  | some l=>some (.ref S.h.length 0,S.h++[some (.cells l)],[],true,calls)
  | none=>none
 | .alloc t=>match P.info? t with
  | some i=>match i.zero with
   | some z=>if Y7 z then some (.mp S.h.length 1 0 0,S.h++[some (.bools (List.replicate z.cells.size false))],[],true,calls)
    else some (.ref S.h.length 0,S.h++[some (.cells (z.cells.toList.map Gk))],[],true,calls)
   | none=>none
  | none=>none
 | .buildSlice t len parts=>match KT P t with
  | some (k,_,_,_)=>if YW parts.toList len&&decide (len<=65536/\ k.cells<=64) then match RF k (parts.toList.map fun x=>AW S.fr x.2) with
   | some ob=>some (.msl S.h.length k.cells 0 len,S.h++[some ob],[],true,calls)
   | none=>none
   else none
  | none=>none
 | .makeSlice t x y=>match Wr P t with
  | some (n,_,_)=>match AW S.fr x,AW S.fr y with
   | .int _ m,.int _ m'=>some (.msl S.h.length 1 0 m.toNat,S.h++[some (.mo (.sets n (List.replicate m.toNat none) none))],[m'=m/\ 0<=m/\ m<=1000000000000],true,calls)
   | _,_=>none
  | none=>match KT P t with
   | some (k,_,i,z)=>if decide (i.bytes<=128) then match AW S.fr x,AW S.fr y with
    | .int _ n,.int _ n'=>some (.msl S.h.length k.cells 0 n.toNat,S.h++[some (lV k n.toNat z)],[n'=n/\ 0<=n/\ n<=1000000000000],true,calls)
    | _,_=>none
    else none
   | none=>none
 | .store t x y=>match Nb P S t (AW S.fr x) (AW S.fr y) with
  | some (h',vc)=>some (.any,h',[vc],false,calls)
  | none=>none
 | .call c=>match c.callee with
  | .builtin .append=>match c.args.toList with
   | [x,y]=>match c.argTypes.toList with
    | [t,t']=>if t=t' then match RM P S t (AW S.fr x) (AW S.fr y) with
     | some (d,h',vc)=>some (d,h',[vc],false,calls)
     | none=>none
     else none
    | _=>none
   | _=>none
  | .value f=>match AW S.fr f,calls with
   | .fn g m cap,(d,h',ext)::rest=>some (d,h',[ES P Γ g (c.args.toList.map (AW S.fr)++(List.range m).map cap) S.h d h' ext],ext,rest)
   | _,_=>none
  | _=>none
 | op=>match bI P S op with
  | some (d,h',vs,ext)=>some (d,h',vs,ext,calls)
  | none=>none
def PP (P:Program)(Γ:At)(ops:Array Oper)(S:St)(AZ:BE)(o:Oper):Option (St×List Prop×Bool×BE):=match JV ops S o with
 | none=>none
 | some false=>some (⟨Ck S.fr o.dst NW,S.h⟩,[],true,AZ)
 | some true=>match Vz P S AZ.fz o with
  | some (S',vs,KN)=>some (S',vs,false,⟨AZ.calls,AZ.co,KN,AZ.tg⟩)
  | none=>match Vg P S o with
  | some (S',vs)=>some (S',vs,false,AZ)
  | none=>match NI P Γ S AZ.calls o.op with
   | none=>none
   | some (d,h',vs,ext,calls)=>match Us AZ.co o.dst d with
    | (d',Bn,C4)=>match UQ AZ.fz o.dst ⟨Ck S.fr o.dst d',h'⟩ with
     | none=>none
     | some (S',Pd,KN)=>some (S',vs++(Bn++Pd),ext,⟨calls,C4,KN,AZ.tg⟩)
def Di (P:Program)(Γ:At)(ops:Array Oper):List Oper -> St -> BE -> Option (St×List Prop×BE)
 | [],S,AZ=>some (S,[],AZ)
 | o::rest,S,AZ=>match zq o.op with
  | true=>match PP P Γ ops S AZ o with
   | none=>none
   | some (S',vs,_,B9)=>match Di P Γ ops rest S' B9 with
    | none=>none
    | some (CU,Bn,TF)=>some (CU,vs++Bn,TF)
  | false=>match P0 P ops S AZ.co o with
   | none=>none
   | some (S',vs,C4)=>match Di P Γ ops rest S' ⟨AZ.calls,C4,AZ.fz,AZ.tg⟩ with
    | none=>none
    | some (CU,Bn,TF)=>some (CU,vs++Bn,TF)
def eN (P:Program)(Γ:At)(hb:DH)(ops:Array Oper)(S:St)(AZ:BE)(o:Oper):Option (St×List Prop×BE):=match o.op with
 | .call c=>match c.callee with
  | .value f=>match AW S.fr f,AZ.calls with
   | .fn g m cap,(d,h',false)::rest=>match JV ops S o,XA hb S.h with
    | some true,true=>match Us AZ.co o.dst d with
     | (d',Bn,C4)=>match UQ AZ.fz o.dst ⟨Ck S.fr o.dst d',h'⟩ with
      | some (S',Pd,KN)=>some (S',PX P Γ g (c.args.toList.map (AW S.fr)++(List.range m).map cap) S.h d h' hb.length::(Bn++Pd),⟨rest,C4,KN,AZ.tg⟩)
      | none=>none
    | _,_=>none
   | _,_=>none
  | _=>none
 | _=>none
def bh (Bl:List Nat)(hb h:DH):DH:=match Bl with
 | []=>hb
 | _=>h
def Mf (P:Program)(Γ:At)(ops:Array Oper):DH -> List (List Nat×Nat) -> List Nat -> St -> BE -> Option (St×List Prop×BE)
 | _,[],BI,S,AZ=>match Sy P ops (CP ops BI) S AZ.co with
  | none=>none
  | some (S',vs,C4)=>some (S',vs,⟨AZ.calls,C4,AZ.fz,AZ.tg⟩)
 | hb,(Bl,i)::E9,BI,S,AZ=>match Sy P ops (CP ops Bl) S AZ.co with
  | none=>none
  | some (S',vs,C4)=>match ops[i]? with
   | none=>none
   | some o=>match eN P Γ (bh Bl hb S.h) ops S' ⟨AZ.calls,C4,AZ.fz,AZ.tg⟩ o with
    | some (CU,Bn,B9)=>match Mf P Γ ops (bh Bl hb S.h) E9 BI CU B9 with
     | none=>none
     | some (S3,Ls,K1)=>some (S3,vs++(Bn++Ls),K1)
    | none=>match PP P Γ ops S' ⟨AZ.calls,C4,AZ.fz,AZ.tg⟩ o with
     | none=>none
     | some (CU,Bn,ext,B9)=>match ext with
      | false=>none
      | true=>match Mf P Γ ops (bh Bl hb S.h) E9 BI CU B9 with
       | none=>none
       | some (S3,Ls,K1)=>some (S3,vs++(Bn++Ls),K1)
def hseq (P:Program)(Γ:At)(ops:Array Oper)(hb:DH)(Cf:List (List Nat×Nat))(BI tail:List Nat)(S:St)(AZ:BE):Option (St×List Prop×BE):=match Mf P Γ ops hb Cf BI S AZ with
 | none=>none
 | some (S',vs,B9)=>match Di P Γ ops (CP ops tail) S' B9 with
  | none=>none
  | some (CU,Bn,TF)=>some (CU,vs++Bn,TF)
section
variable {P:Program} {Γ:At} {N:Nat -> Prop} {S:St} {ρ:List AH} {a:Act} {w:World} {F:Fence}
structure C9 (F:Fence)(P:Program):Prop where
 fn: ∀ f,F.fn f
 dep:F.depth=none
 calls: ∀ {f:FuncId} {args:Array Value} {w:World} {R:Ending -> World -> Prop},Calls P f args w R -> CallsIn F 0 P f args w R
theorem C9.wide:C9 Fence.wide P:=⟨fun _=>trivial,rfl,fun h=>zHv.2 h⟩
theorem C9.round (l:Nat):C9 (Fence.wide.inRound l) P:=⟨fun _=>trivial,rfl,fun h=>CallsIn.inRound _ (zHv.2 h)⟩
theorem H8 (R:AR P Γ N S ρ a w){ops:Array Oper}{o:Oper}{r:Bool}(h:JV ops S o=some r):Region.wanted o (yielded ops a.tmps)=r:=by
 unfold JV at h;unfold Region.wanted;split at h
 ·rename_i hg;rw [hg];cases h;rfl
 ·rename_i j fu hg;rw [hg];split at h
  ·rename_i t ht;split at h
   ·rename_i b hb;cases h;have hr:=R.fr.at t;rw [hb] at hr;have hv:a.tmps.getD t undef= .bool b:=hr
    have:a.tmps[t]? =some (.bool b):=by
     rw [zAq] at hv;cases hx:a.tmps[t]? with
     | none=>rw [hx] at hv;cases hv
     | some u=>rw [hx] at hv;exact congrArg some hv
    simp [yielded,ht,this]
   ·rename_i m f hb;cases h;have hr:=R.fr.at t;rw [hb] at hr;obtain ⟨cs,hv,_⟩:=hr
    have:yielded ops a.tmps j=none:=by
     unfold yielded;rw [ht]
     show (match a.tmps[t]? with | some (.bool b)=>some b | _=>none)=none
     rw [zAq] at hv;cases hx:a.tmps[t]? with
     | none=>rfl
     | some u=>rw [hx] at hv;have hv:u= .tuple cs:=hv;rw [hv]
    simp [this]
   ·cases h
  ·cases h
theorem Ur {co:List (Nat×DV)}{dst:Option Nat}{d d':DV}{vs:List Prop}{C4:List (Nat×DV)}(h:Us co dst d=(d',vs,C4))(hv:BZ vs){M:Nat -> Prop}{v:Value}(hr:AK M w d ρ v):AK M w d' ρ v:=by
 unfold Us at h;split at h
 ·cases h;exact hr
 ·split at h
  ·split at h
   ·cases h;exact hv.1 M w ρ v hr
   ·cases h;exact hr
  ·cases h;exact hr
theorem kM {op:Op}{d:DV}{vc:Prop}(h:P5 P S op=some (d,vc))(ht:Lt S op=true):vc:=by
 unfold P5 at h;split at h
 ·cases h;trivial
 ·cases h;trivial
 ·repeat' (split at h)
  all_goals first | (cases h;trivial) | (cases h;done)
 ·rename_i t x;simp only [Lt] at ht;unfold OO at h
  repeat' (split at h)
  all_goals first | (cases h;trivial) | (cases h;done) | (simp_all;done)
 ·rename_i op t x y t';unfold Ys at h;split at h
  ·split at h
   all_goals first | (cases h;trivial) | (cases h;done)
  ·split at h
   all_goals first | (cases h;trivial) | (cases h;done)
  ·rename_i e;simp [Lt,e] at ht
  ·rename_i e;simp [Lt,e] at ht
  ·rename_i e;simp [Lt,e] at ht
  ·cases ht
  ·cases ht
  ·cases ht
  ·cases ht
  ·split at h
   ·unfold Yr at h;split at h
    all_goals first | (cases h;trivial) | (cases h;done)
   ·cases h
  ·cases h
 ·repeat' (split at h)
  all_goals first | (cases h;trivial) | (cases h;done)
 ·repeat' (split at h)
  all_goals first | (cases h;trivial) | (cases h;done)
 ·repeat' (split at h)
  all_goals first | (cases h;trivial) | (cases h;done)
 ·repeat' (split at h)
  all_goals first | (cases h;trivial) | (cases h;done)
 ·cases ht
 ·repeat' (split at h)
  all_goals first | (cases h;trivial) | (cases h;done)
 ·split at h
  ·cases h;trivial
  ·cases h
 ·split at h
  ·unfold Yq at h;split at h
   ·split at h
    ·split at h
     ·unfold Wy at h;split at h
      all_goals first | (cases h;trivial) | (cases h;done)
     ·cases h
    ·cases h
   ·split at h
    ·unfold bE at h;split at h
     all_goals first | (cases h;trivial) | (cases h;done)
    ·cases h
   ·split at h
    ·unfold bD at h;split at h
     all_goals first | (cases h;trivial) | (cases h;done)
    ·cases h
   ·cases h
  ·cases h
 ·cases h
theorem zD1 {op:BinOp}{t:TypeId}{x y d:DV}{vc:Prop}(h:UY P op t x y=some (d,vc)):vc:=by
 unfold UY at h;split at h
 ·split at h
  all_goals first | (cases h;trivial) | (cases h;done)
 ·split at h
  all_goals first | (cases h;trivial) | (cases h;done)
 ·cases h
theorem rS {op:Op}{d:DV}{vc:Prop}(h:S6 P S op=some (d,vc))(ht:Lt S op=true):vc:=by
 unfold S6 at h;split at h
 ·split at h
  all_goals first | (cases h;trivial) | (cases h;done)
 ·unfold Wx at h
  repeat' (split at h)
  all_goals first | (cases h;trivial) | (cases h;done)
 ·cases ht
 ·unfold X8 at h
  repeat' (split at h)
  all_goals first | (cases h;trivial) | (cases h;done)
 ·cases ht
 ·split at h
  ·rename_i r hr;cases h;exact zD1 hr
  ·exact kM h ht
 ·exact kM h ht
theorem Sw (R:AR P Γ N S ρ a w){ops:Array Oper}{co:List (Nat×DV)}{o:Oper}{S':St}{vs:List Prop}{C4:List (Nat×DV)}(h:P0 P ops S co o=some (S',vs,C4))(hv:BZ vs):
 S'.h=S.h/\ ((Region.wanted o (yielded ops a.tmps)=true/\ ∃ v,(∀ W,Keep N w W -> (execOp a.eval o).run P W= .ok (.value v) W)/\ AR P Γ N S' ρ (a.put o.dst v) w)∨(Region.wanted o (yielded ops a.tmps)=false/\ AR P Γ N S' ρ (a.put o.dst undef) w)):=by
 unfold P0 at h;split at h
 ·cases h
 ·rename_i hw;cases h;exact ⟨rfl,.inr ⟨H8 R hw,G6 R _ VT⟩⟩
 ·rename_i hw;split at h
  ·cases h
  ·rename_i d vc hp;split at h;rename_i d' Bn pZ Mq;cases h
   have QU:vc/\ BZ Bn:=by
    by_cases ht:Lt S o.op=true
    ·rw [zAM ht] at hv;exact ⟨rS hp ht,hv⟩
    ·rw [zAh ht] at hv;exact hv
   obtain ⟨v,g1,g2⟩:=wu R o hp QU.1;exact ⟨rfl,.inl ⟨H8 R hw,v,g1,G6 R _ (Ur Mq QU.2 g2)⟩⟩
theorem Sx {ops:Array Oper}{Q:Act -> Prop}: ∀ (l:List Oper) {S:St} {a:Act} {co:List (Nat×DV)} {S':St} {vs:List Prop} {C4:List (Nat×DV)},AR P Γ N S ρ a w -> Sy P ops l S co=some (S',vs,C4) -> BZ vs ->
 (∀ a',S'.h=S.h -> AR P Γ N S' ρ a' w -> a'.defers=a.defers -> Q a') -> wpQuiet P ops (fun w'=>∃ x:VB w,w'=x.W) Q l a
 | [],S,a,co,S',vs,C4,R,h,_,hQ=>by
  cases h;exact hQ a rfl R rfl
 | o::rest,S,a,co,S',vs,C4,R,h,hv,hQ=>by
  simp only [Sy] at h;split at h
  ·cases h
  ·rename_i S1 CQ KX h1;split at h
   ·cases h
   ·rename_i S2 D4 eD h2;cases h;obtain ⟨Bx,CE⟩:=C8.1 hv;obtain ⟨e1,hs⟩:=Sw R h1 Bx;unfold wpQuiet;have CS: ∀ v,(a.put o.dst v).defers=a.defers:=fun v=>by cases ho:o.dst <;> simp [Act.put]
    rcases hs with ⟨hw,v,g1,g2⟩ | ⟨hw,g2⟩
    ·rw [zAM hw];refine ⟨v,?_,Sx rest g2 h2 CE fun a' q1 q2 q3=>hQ a' (q1.trans e1) q2 (q3.trans (CS v))⟩;rintro W ⟨x,rfl⟩;unfold Oper.quietAt;rw [g1 x.W (Keep.ofExt x.le)];exact ⟨rfl,rfl⟩
    ·rw [zAh (by rw [hw];exact zGg)];exact Sx rest g2 h2 CE fun a' q1 q2 q3=>hQ a' (q1.trans e1) q2 (q3.trans (CS undef))
theorem A9.append {M:Nat -> Prop}{l l':List DV}{t t':Array Value}(h:A9 M w ρ l t)(h':A9 M w ρ l' t'):A9 M w ρ (l++l') (t++t'):=by
 refine ⟨by simp [h.1,h'.1],fun i hi=>?_⟩;rcases zCV i l.length with hl | hl
 ·have:=h.2 i hl;have ht:i<t.size:=by rw [←h.1];exact hl
  simp only [u8,zAq] at this ⊢;rw [zAk hl,zD4 ht];exact this
 ·have BT:i-l.length<l'.length:=by simp at hi;omega
  have:=h'.2 _ BT;have ht:t.size<=i:=by rw [←h.1];exact hl
  simp only [u8,zAq] at this ⊢;rw [zAp hl,Array.getElem?_append_right ht,←h.1];exact this
theorem vP {g:Nat}{args:Array Value}{fn:Func}(Ou:P.funcs[g]? =some fn)(Ol:fn.name≠ "runtime.NumGoroutine")(zCt:fn.body.isSome=true):(callFunc g args).run P w= .ok (.enter g args) w:=by
 have hnb:fn.body.isNone=false:=by cases hb:fn.body <;> simp [hb] at zCt ⊢
 have cX:(fn.name== "runtime.NumGoroutine")=false:=by simpa using Ol
 unfold callFunc;rw [zA6,show Sem.run P program w= .ok P w from rfl];simp only [Result.andThen,Ou,cX,hnb,zCe,zGQ];rfl
theorem eM (R:AR P Γ N S ρ a w){c:Call}{f:Operand}{g m:Nat}{cap:Nat -> DV}(o:Oper)(ho:o.op= .call c)(hc:c.callee= .value f)(hf:AW S.fr f= .fn g m cap) 
 (hen: ∀ args W,(callFunc g args).run P W= .ok (.enter g args) W): ∃ args,(execOp a.eval o).run P w= .ok (.enter g args) w/\ A9 (MS N S.h ρ) w ρ (c.args.toList.map (AW S.fr)++(List.range m).map cap) args:=by
 have hr:=Bj R f;rw [hf] at hr;obtain ⟨lb,hv,hs,Mr⟩:=hr;refine ⟨c.args.map a.eval++lb,?_,A9.append ⟨by simp,fun i hi=>?_⟩ ⟨by simp [hs],fun i hi=>?_⟩⟩
 ·unfold execOp;rw [ho]
  show ((resolve a.eval c o.type)>>=fun d=>invoke d.target d.args).run P w=_
  unfold resolve;rw [hc];simp only [Deferred.ofValue,hv];have he:((pure { target:=.fn (.func g) lb,args:=#[]++Array.map a.eval c.args }:Sem Deferred)>>=fun d=>invoke d.target d.args).run P w=(callFunc g (#[]++Array.map a.eval c.args++lb)).run P w:=rfl;rw [he,hen];simp
 ·have BT:i<c.args.size:=by simpa using hi
  have:=Bj R c.args[i];simp [BT,this]
 ·have BT:i<m:=by simpa using hi
  obtain ⟨u,g1,g2⟩:=Mr i BT;simp [BT,g1,g2]
theorem pm (R:AR P Γ N S ρ a w){c:Call}{f:Operand}{g m:Nat}{cap:Nat -> DV}{G:Value -> World -> Prop}(o:Oper)(ho:o.op= .call c)(hc:c.callee= .value f)(hf:AW S.fr f= .fn g m cap) 
 (Ou: ∃ fn,P.funcs[g]? =some fn/\ fn.name≠ "runtime.NumGoroutine" /\ fn.body.isSome=true) (hE: ∀ args,A9 (MS N S.h ρ) w ρ (c.args.toList.map (AW S.fr)++(List.range m).map cap) args -> Calls P g args w fun e w'=>∃ v,e= .returned v/\ G v w'):BL P (execOp a.eval o) w G:=
 let ⟨_,h1,h2,h3⟩:=Ou
 let ⟨args,h4,h5⟩:=eM R o ho hc hf fun _ _=>vP h1 h2 h3
 .inr (.inr ⟨g,args,w,h4,hE _ h5⟩)
theorem zFL (R:AR P Γ N S ρ a w){c:Call}{f:Operand}{g m:Nat}{cap:Nat -> DV}{d:DV}{h':DH}{ext:Bool}(o:Oper)(ho:o.op= .call c)(hc:c.callee= .value f)(hf:AW S.fr f= .fn g m cap) 
 (hE:ES P Γ g (c.args.toList.map (AW S.fr)++(List.range m).map cap) S.h d h' ext):BL P (execOp a.eval o) w (Ci P Γ N S.h ρ w ext d h'):=
 pm R o ho hc hf hE.1 fun args ha=>hE.2 N ρ w args R.hr ha
theorem fM (R:AR P Γ N S ρ a w){calls:List (DV×DH×Bool)}{o:Oper}{d:DV}{h':DH}{vs:List Prop}{ext:Bool}{PI:List (DV×DH×Bool)}(h:NI P Γ S calls o.op=some (d,h',vs,ext,PI))(hv:BZ vs):
 BL P (execOp a.eval o) w (Ci P Γ N S.h ρ w ext d h'):=by
 unfold NI at h;split at h
 ·rename_i t x ho;split at h
  ·rename_i l hl;cases h;exact zFQ R hl o ho true
  ·cases h
 ·rename_i t ho;split at h
  ·rename_i i hi;split at h
   ·rename_i z hz;split at h
    ·rename_i bu;cases h;exact zF3 R hi hz bu o ho true
    ·cases h;exact zF2 R hi hz o ho true
   ·cases h
  ·cases h
 ·rename_i t len parts ho;split at h
  ·rename_i k e i z hk;split at h
   ·rename_i hc;simp only [zAW,zCQ] at hc;split at h
    ·rename_i ob hb;cases h;exact zFO R hk hc.1 hc.2 hb o ho true
    ·cases h
   ·cases h
  ·cases h
 ·rename_i t x y ho;split at h
  ·rename_i n e i hT;split at h
   ·rename_i k1 m k2 m' hx hy;cases h;obtain ⟨⟨rfl,v1,v2⟩,_⟩:=hv;exact yS R hT hx hy ⟨v1,v2⟩ o ho true
   ·cases h
  split at h
  ·rename_i k e i z hk;split at h
   ·rename_i Du;split at h
    ·rename_i k1 n k2 n' hx hy;cases h;obtain ⟨⟨rfl,v1,v2⟩,_⟩:=hv;exact yQ R hk hx hy ⟨v1,v2⟩ (by simpa using Du) o ho true
    ·cases h
   ·cases h
  ·cases h
 ·rename_i t x y ho;split at h
  ·rename_i h1 vc hs;cases h;exact iT R hs hv.1 o ho
  ·cases h
 ·rename_i c ho;split at h
  ·rename_i hc;split at h
   ·rename_i x y ha;split at h
    ·rename_i t t' ht;split at h
     ·rename_i e;subst e;split at h
      ·rename_i d1 h1 vc LR;cases h;exact qS R LR hv.1 o ho hc ha ht
      ·cases h
     ·cases h
    ·cases h
   ·cases h
  ·rename_i f hc;split at h
   ·rename_i g m cap d1 h1 ext1 rest hf;cases h;exact zFL R o ho hc hf hv.1
   ·cases h
  ·cases h
 ·split at h
  ·rename_i hm;cases h;exact yN R o hm hv
  ·cases h
theorem KU (hF:C9 F P){o:Oper}(hd: ∀ c,o.op≠.defer c){G:Value -> World -> Prop}(h:BL P (execOp a.eval o) w G){K:Act -> World -> Prop}{Q:Exit -> Act -> World -> Prop}(hK: ∀ v w',G v w' -> K (a.put o.dst v) w'):o.wpIn F 0 P a w K Q:=by
 refine ⟨fun f _=>hF.fn f,?_⟩;rw [zGM _ _ _ hd];rcases h with ⟨v,w',h1,h2⟩ | ⟨w',h1,h2⟩ | ⟨f,args,w',h1,h2⟩
 ·rw [h1];exact hK v w' h2
 ·rw [h1];exact hK undef w' h2
 ·rw [h1];refine ⟨fun hx=>(by rw [hF.dep] at hx;cases hx),(hF.calls h2).mono ?_⟩;rintro e CV ⟨v,rfl,hG⟩;exact hK v CV hG
theorem eV (hF:C9 F P)(R:AR P Γ N S ρ a w){ops:Array Oper}{AZ:BE}{o:Oper}(hd: ∀ c,o.op≠.defer c){S':St}{vs:List Prop}{ext:Bool}{B9:BE}(h:PP P Γ ops S AZ o=some (S',vs,ext,B9))(hv:BZ vs) 
 {K:Act -> World -> Prop} {Q:Exit -> Act -> World -> Prop} (hK: ∀ ρ' a' w',AR P Γ N S' ρ' a' w' -> Cv S.h ρ w S'.h ρ' w' -> a'.defers=a.defers -> (ext=true -> Aq w w') -> K a' w'):
 if Region.wanted o (yielded ops a.tmps) then o.wpIn F 0 P a w K Q else (∀ f,o.about P w a.eval=some f -> F.fn f)/\ K (a.put o.dst undef) w:=by
 have CS: ∀ v,(a.put o.dst v).defers=a.defers:=fun v=>by cases ho:o.dst <;> simp [Act.put]
 unfold PP at h;split at h
 ·cases h
 ·rename_i hw;cases h;rw [zAh (by rw [H8 R hw];exact zGg)];exact ⟨fun f _=>hF.fn f,hK ρ _ _ (G6 R _ VT) (Cv.refl _ _ _) (CS _) fun _=>Aq.refl w⟩
 ·rename_i hw;rw [zAM (H8 R hw)];split at h
  ·rename_i S1 CQ fz1 hM;cases h;exact KU hF hd (jQ R hM hv) fun v w' ⟨⟨ρ',g1,g2⟩,_⟩=>hK ρ' _ _ g1 g2 (CS v) fun e=>by cases e
  split at h
  ·rename_i S1 CQ hM;cases h;exact KU hF hd (iS R hM hv) fun v w' ⟨⟨ρ',g1,g2⟩,_⟩=>hK ρ' _ _ g1 g2 (CS v) fun e=>by cases e
  split at h
  ·cases h
  ·rename_i d h1 CQ ext1 calls Xp;split at h;rename_i d' Bn C4 Mq;split at h
   ·cases h
   ·rename_i S2 Pd KN GV;cases h;obtain ⟨Bx,Tu⟩:=C8.1 hv;obtain ⟨CE,IS⟩:=C8.1 Tu;refine KU hF hd (fM R Xp Bx) fun v w' G=>?_
    obtain ⟨ρ',g1,g2⟩:=Mx R o.dst G (d':=d') fun M ρ' hr=>Ur Mq CE hr
    obtain ⟨g3,g4⟩:=UP _ GV IS P Γ N ρ' _ _ g1;exact hK ρ' _ _ g3 (g2.trans ⟨g4,fun _ _ h=>h⟩) (CS v) G.ext
theorem KL (hF:C9 F P){ops:Array Oper}(Ar:Cc ops=true){Q:Exit -> Act -> World -> Prop}: ∀ (l:List Oper) (_: ∀ o∈l,o∈ops) {S:St} {ρ:List AH} {a:Act} {w:World} {AZ:BE} {S':St} {vs:List Prop} {B9:BE},
 AR P Γ N S ρ a w -> Di P Γ ops l S AZ=some (S',vs,B9) -> BZ vs ->
 (∀ ρ' a' w',AR P Γ N S' ρ' a' w' -> Cv S.h ρ w S'.h ρ' w' -> a'.defers=a.defers -> Q .normal a' w') -> wpListIn F 0 P ops Q l a w
 | [],_,S,ρ,a,w,AZ,S',vs,B9,R,h,_,hQ=>by
  cases h;exact hQ ρ a w R (Cv.refl _ _ _) rfl
 | o::rest,hl,S,ρ,a,w,AZ,S',vs,B9,R,h,hv,hQ=>by
  have hd: ∀ c,o.op≠.defer c:=by
   obtain ⟨j,hj,e⟩:=Array.getElem_of_mem (hl o (by simp));exact HE Ar (j:=j) (by rw [zCF hj,e])
  have Eg: ∀ o∈rest,o∈ops:=fun o ho=>hl o (by simp [ho])
  have CS: ∀ v,(a.put o.dst v).defers=a.defers:=fun v=>by cases ho:o.dst <;> simp [Act.put]
  simp only [Di] at h;unfold wpListIn;split at h
  ·split at h
   ·cases h
   ·rename_i S1 CQ ext1 Es h1;split at h
    ·cases h
    ·rename_i S2 D4 GP h2;cases h;obtain ⟨Bx,CE⟩:=C8.1 hv;exact eV hF R hd h1 Bx fun ρ' a' w' R' st Cm _=>KL hF Ar rest Eg R' h2 CE fun ρ'' Gw CV El DG I6=>hQ ρ'' Gw CV El (st.trans DG) (I6.trans Cm)
  ·split at h
   ·cases h
   ·rename_i S1 CQ KX h1;split at h
    ·cases h
    ·rename_i S2 D4 GP h2;cases h;obtain ⟨Bx,CE⟩:=C8.1 hv;obtain ⟨e1,hs⟩:=Sw R h1 Bx
     have go: ∀ v,AR P Γ N S1 ρ (a.put o.dst v) w -> wpListIn F 0 P ops Q rest (a.put o.dst v) w:=fun v R'=>
      KL hF Ar rest Eg R' h2 CE fun ρ'' Gw CV El DG I6=>hQ ρ'' Gw CV El (by rw [←e1];exact DG) (I6.trans (CS v))
     rcases hs with ⟨hw,v,g1,g2⟩ | ⟨hw,g2⟩
     ·rw [zAM hw];refine ⟨fun f _=>hF.fn f,?_⟩;rw [zGM _ _ _ hd,g1 w (Keep.ofExt (Aq.refl w))];exact go v g2
     ·rw [zAh (by rw [hw];exact zGg)];exact ⟨fun f _=>hF.fn f,go undef g2⟩
theorem P9 {ops:Array Oper}: ∀ (l:List Nat),∀ o∈CP ops l,o∈ops
 | [],o,h=>by simp [CP] at h
 | i::l,o,h=>by
  simp only [CP] at h;split at h
  ·rename_i o' ho;rcases zCD.1 h with rfl | h
   ·exact zGP ho
   ·exact P9 l o h
  ·exact P9 l o h
theorem pn (hF:C9 F P)(R:AR P Γ N S ρ a w){hb:DH}{ops:Array Oper}{AZ:BE}{o:Oper}{S':St}{vs:List Prop}{B9:BE}(h:eN P Γ hb ops S AZ o=some (S',vs,B9))(hv:BZ vs) 
 {K:Act -> World -> Prop} {Q:Exit -> Act -> World -> Prop} (hK: ∀ ρ' a' w',AR P Γ N S' ρ' a' w' -> Cv S.h ρ w S'.h ρ' w' -> a'.defers=a.defers -> AO (fun b=>∃ i o p,hb.length<=i/\ S.h[i]? =some (some o)/\ ρ[i]? =some p/\ p.foot b) w w' -> K a' w'):
 XA hb S.h=true/\ if Region.wanted o (yielded ops a.tmps) then o.wpIn F 0 P a w K Q else (∀ f,o.about P w a.eval=some f -> F.fn f)/\ K (a.put o.dst undef) w:=by
 have CS: ∀ v,(a.put o.dst v).defers=a.defers:=fun v=>by cases ho:o.dst <;> simp [Act.put]
 unfold eN at h;split at h
 case h_2=>cases h
 rename_i c ho;split at h
 case h_2=>cases h
 rename_i f hc;split at h
 case h_2=>cases h
 rename_i g m cap d h' rest hf hcalls;split at h
 case h_2=>cases h
 rename_i hw hk;split at h;rename_i d' Bn C4 Mq;split at h
 case h_2=>cases h
 rename_i S1 Pd KN GV;cases h;obtain ⟨Bx,Tu⟩:=hv;obtain ⟨CE,IS⟩:=C8.1 Tu;refine ⟨hk,?_⟩;rw [zAM (H8 R hw)];refine KU hF (fun c e=>by rw [ho] at e;cases e) (pm R o ho hc hf Bx.1 fun args ha=>Bx.2 N ρ w args R.hr ha) fun v w' G=>?_
 obtain ⟨ρ',g1,g2⟩:=Mx R o.dst G.1 (d':=d') fun M ρ' hr=>Ur Mq CE hr
 obtain ⟨g3,g4⟩:=UP _ GV IS P Γ N ρ' _ _ g1;exact hK ρ' _ _ g3 (g2.trans ⟨g4,fun _ _ h=>h⟩) (CS v) G.2
theorem xy {hb h:DH}{ρb ρ:List AH}{b w w':World}(HR:A1 P Γ N h ρ w)(hS:Cv hb ρb b h ρ w)(hE:Aq b w)(hk:XA hb h=true)(hu:AO (fun x=>∃ i o p,hb.length<=i/\ h[i]? =some (some o)/\ ρ[i]? =some p/\ p.foot x) w w'):Aq b w':=by
 refine ((AO.ofExt (S:=fun x=>∃ i o p,hb.length<=i/\ h[i]? =some (some o)/\ ρ[i]? =some p/\ p.foot x) hE).comp hu fun _ _ h=>h).toExt ?_;rintro x hx ⟨i,o,p,h1,h2,h3,h4⟩;rcases hS.st.grow x ⟨i,o,p,h2,h3,h4⟩ with ⟨k,o',q,g1,g2,g3⟩ | J1
 ·have CX:=(zAf.1 g1).1;have:=zAg.1 hk k (zAn.2 CX);rw [show (hb.getD k none).isSome=true by rw [u8,g1];rfl,zCs,zGD] at this;obtain ⟨o2,Qb⟩:=zHK.1 this;have Qb:h[k]? =some (some o2):=getD_some Qb;exact HR.dis i k o o2 p q x (by omega) h2 Qb h3 (hS.pl k q g2) h4 g3
 ·omega
theorem XW (hF:C9 F P){ops:Array Oper}(Ar:Cc ops=true){Q:Exit -> Act -> World -> Prop}: ∀ (Cf:List (List Nat×Nat)) (BI tail:List Nat) {S:St} {ρ:List AH} {a:Act} {w:World} {AZ:BE} {S':St} {vs:List Prop} {B9:BE} {hb:DH} {ρb:List AH} {b:World},
 (tail.all fun t=>decide (t<ops.size))=true -> AR P Γ N S ρ a w -> Cv hb ρb b S.h ρ w -> Aq b w -> Mf P Γ ops hb Cf BI S AZ=some (S',vs,B9) -> BZ vs ->
 (∀ ρ' a' w',AR P Γ N S' ρ' a' w' -> Cv S.h ρ w S'.h ρ' w' -> a'.defers=a.defers -> wpListIn F 0 P ops Q (CP ops tail) a' w') -> Ov F 0 P ops Q b Cf BI tail a w
 | [],BI,tail,S,ρ,a,w,AZ,S',vs,B9,hb,ρb,b,ht,R,_,_,h,hv,hQ=>by
  simp only [Mf] at h;split at h
  ·cases h
  ·rename_i S1 CQ KX h1;cases h;exact zCh ht (Sx _ R h1 hv fun a' e1 R' Cm=>hQ ρ a' w R' (by rw [←e1];exact Cv.refl _ _ _) Cm)
 | (Bl,i)::E9,BI,tail,S,ρ,a,w,AZ,S',vs,B9,hb,ρb,b,ht,R,hS,hE,h,hv,hQ=>by
  have DQ: ∃ ρb',Cv (bh Bl hb S.h) ρb' (bw Bl b w) S.h ρ w/\ Aq (bw Bl b w) w:=by
   cases Bl with
   | nil=>exact ⟨ρb,hS,hE⟩
   | cons s0 ss=>exact ⟨ρ,Cv.refl _ _ _,Aq.refl w⟩
  obtain ⟨ρb',Mt,n7⟩:=DQ;simp only [Mf] at h;split at h
  ·cases h
  ·rename_i S1 CQ KX h1;split at h
   ·cases h
   ·rename_i o ho;split at h
    ·rename_i S2 D4 GP h2;split at h
     ·cases h
     ·rename_i S3 Ls K1 h3;cases h;obtain ⟨Bx,Dr⟩:=C8.1 hv;obtain ⟨CE,IS⟩:=C8.1 Dr
      show wpQuiet _ _ _ _ _ _
      refine Sx _ R h1 Bx fun a' e1 R' Cm=>?_
      unfold wpOpIn;simp only [ho];have hk:XA (bh Bl hb S.h) S1.h=true:=(pn (K:=fun _ _=>True) (Q:=fun _ _ _=>True) hF R' h2 CE fun _ _ _ _ _ _ _=>trivial).1;refine (pn hF R' h2 CE fun ρ'' Gw CV El DG I6 hu=>?_).2;rw [e1] at DG hk;have hx:Aq (bw Bl b w) CV:=xy R.hr Mt n7 hk (by rw [e1] at hu;exact hu);exact ⟨hx,XW hF Ar E9 BI tail ht El (Mt.trans DG) hx h3 IS fun ρ3 a3 w3 R3 Fr cu=>hQ ρ3 a3 w3 R3 (DG.trans Fr) (cu.trans (I6.trans Cm))⟩
    ·split at h
     ·cases h
     ·rename_i S2 D4 ext GP h2;split at h
      ·cases h
      ·split at h
       ·cases h
       ·rename_i S3 Ls K1 h3;cases h;obtain ⟨Bx,Dr⟩:=C8.1 hv;obtain ⟨CE,IS⟩:=C8.1 Dr
        show wpQuiet _ _ _ _ _ _
        refine Sx _ R h1 Bx fun a' e1 R' Cm=>?_
        unfold wpOpIn;simp only [ho];refine eV hF R' (HE Ar ho) h2 CE fun ρ'' Gw CV El DG I6 KC=>?_
        rw [e1] at DG;have hx:Aq (bw Bl b w) CV:=n7.trans (KC rfl);exact ⟨hx,XW hF Ar E9 BI tail ht El (Mt.trans DG) hx h3 IS fun ρ3 a3 w3 R3 Fr cu=>hQ ρ3 a3 w3 R3 (DG.trans Fr) (cu.trans (I6.trans Cm))⟩
theorem zAz (hF:C9 F P){ops:Array Oper}(Ar:Cc ops=true){Q:Exit -> Act -> World -> Prop}(Cf:List (List Nat×Nat))(BI tail:List Nat){S:St}{ρ:List AH}{a:Act}{w:World}{AZ:BE}{S':St}{vs:List Prop}{B9:BE}{hb:DH}{ρb:List AH}{b:World} 
 (ht:(tail.all fun t=>decide (t<ops.size))=true) (R:AR P Γ N S ρ a w) (h1:Cv hb ρb b S.h ρ w) (h2:Aq b w) (h:hseq P Γ ops hb Cf BI tail S AZ=some (S',vs,B9)) (hv:BZ vs)
 (hQ: ∀ ρ' a' w',AR P Γ N S' ρ' a' w' -> Cv S.h ρ w S'.h ρ' w' -> a'.defers=a.defers -> Q .normal a' w'):Ov F 0 P ops Q b Cf BI tail a w:=by
 unfold hseq at h;split at h
 ·cases h
 rename_i S1 CQ Es g1;split at h
 ·cases h
 rename_i S2 D4 GP g2;cases h;obtain ⟨Bx,CE⟩:=C8.1 hv;exact XW hF Ar Cf BI tail ht R h1 h2 g1 Bx fun ρ1 a1 w1 R1 DX Hu=>KL hF Ar _ (P9 tail) R1 g2 CE fun ρ2 a2 w2 R2 Ja UD=>hQ ρ2 a2 w2 R2 (DX.trans Ja) (UD.trans Hu)
end
abbrev zDJ:=@Nat.zero_le
abbrev zHM:=@Go.wpIn_seq
def CI (L:Nat)(ρ ρ':List AH):Prop:=∀ (k:Nat) (p:AH),k<L -> ρ[k]? =some p -> ρ'[k]? =some p
theorem CI.refl (L:Nat)(ρ:List AH):CI L ρ ρ:=fun _ _ _ h=>h
theorem CI.trans {L:Nat}{a b c:List AH}(h:CI L a b)(k:CI L b c):CI L a c:=fun i p hi hp=>k i p hi (h i p hi hp)
structure Bd (F:Fence)(B:Option Nat)(w:World):Prop where
 le: ∀ b,B=some b -> b<=w.heap.size
 rd: ∀ l,F.round=some l -> ∃ r,w.heap[l]? =some (.loop r)
theorem Bd.step {P:Program}{Γ:At}{N:Nat -> Prop}{h h':DH}{ρ ρ':List AH}{F:Fence}{B:Option Nat}{w w':World}(b:Bd F B w)(H:A1 P Γ N h ρ w)(st:A5 h ρ w h' ρ' w'):Bd F B w':=
 ⟨fun x e=>zA0 (b.le x e) st.upd.size,fun l hl=>by
  obtain ⟨r,hr⟩:=b.rd l hl;refine ⟨r,(st.upd.block l (zAZ.1 hr).1 ?_).trans hr⟩;rintro ⟨k,o,p,h1,h2,h3⟩;obtain ⟨_,_,c,t,z,h4⟩:=H.cel k o p l h1 h2 h3;rw [hr] at h4;cases h4;cases t⟩
theorem Bd.wide {B:Nat}{w:World}(h:B<=w.heap.size):Bd Fence.wide (some B) w:=⟨fun b e=>by cases e;exact h,fun l hl=>by cases hl⟩
theorem Bd.none {w:World}:Bd Fence.wide none w:=⟨fun b e=>(by cases e),fun l hl=>by cases hl⟩
def Lk:Option Nat -> List Deferred -> World -> Prop
 | none,ds,_=>ds= []
 | some B,ds,w=>En B ds w
structure BQ (P:Program)(Γ:At)(L:Nat) where
 I:(Nat -> Prop) -> DH -> List AH -> World -> Prop
 st: ∀ {N:Nat -> Prop} {h:DH} {ρ:List AH} {w:World} {h':DH} {ρ':List AH} {w':World},I N h ρ w -> A1 P Γ N h ρ w -> A1 P Γ N h' ρ' w' -> A5 h ρ w h' ρ' w' -> CI L ρ ρ' -> I N h' ρ' w'
def Pm (P:Program)(Γ:At)(L:Nat)(N0:Nat -> Prop)(h0:DH)(ρ0:List AH)(w0:World):BQ P Γ L where
 I:=fun N h ρ w=>N=N0/\ A5 h0 ρ0 w0 h ρ w/\ CI L ρ0 ρ
 st:=fun ⟨e,s,k⟩ _ _ st k'=>⟨e,s.trans st,k.trans k'⟩
abbrev QY (P:Program)(Γ:At)(L:Nat):=Exit -> St -> BQ P Γ L -> Prop
def QE {P:Program}{Γ:At}{L:Nat}(Q:QY P Γ L):Exit -> St -> BQ P Γ L -> Prop
 | .outgrown,_,_=>False
 | e,S,Y=>Q e S Y
def Tr (P:Program)(Γ:At)(F:Fence)(B:Option Nat)(L:Nat)(Y:BQ P Γ L)(c:Code)(S:St)(Q:QY P Γ L):Prop:= ∀ N ρ a w,AR P Γ N S ρ a w -> Y.I N S.h ρ w -> Lk B a.defers w -> Bd F B w -> c.wpIn F 0 P (fun e a' w'=>∃ S' ρ' N' Y',QE Q e S' Y'/\ AR P Γ N' S' ρ' a' w'/\ Y'.I N' S'.h ρ' w'/\ Lk B a'.defers w'/\ Bd F B w') a w
def A0 (L:Nat)(S S':St):Prop:=∀ P Γ N ρ a w,AR P Γ N S ρ a w -> ∃ ρ',AR P Γ N S' ρ' a w/\ A5 S.h ρ w S'.h ρ' w/\ CI L ρ ρ'
theorem A0.refl (L:Nat)(S:St):A0 L S S:=fun _ _ _ ρ _ _ R=>⟨ρ,R,A5.refl _ _ _,CI.refl _ _⟩
theorem A0.trans {L:Nat}{A B C:St}(h:A0 L A B)(k:A0 L B C):A0 L A C:=fun P Γ N ρ a w R=>by
 obtain ⟨ρ1,R1,s1,k1⟩:=h P Γ N ρ a w R;obtain ⟨ρ2,R2,s2,k2⟩:=k P Γ N ρ1 a w R1;exact ⟨ρ2,R2,s1.trans s2,k1.trans k2⟩
section
variable {P:Program} {Γ:At} {N:Nat -> Prop} {S:St} {F:Fence} {B:Option Nat} {L:Nat} {Y:BQ P Γ L} {Q Q':QY P Γ L}
theorem QE.mono (h: ∀ e S Y,Q e S Y -> Q' e S Y){e:Exit}{S:St}(hq:QE Q e S Y):QE Q' e S Y:=by
 cases e <;> first | exact hq | exact h _ _ _ hq
theorem Tr.mono {c:Code}(h:Tr P Γ F B L Y c S Q)(hq: ∀ e S Y,Q e S Y -> Q' e S Y):Tr P Γ F B L Y c S Q':=fun N ρ a w R y m b=>
 zGR (h N ρ a w R y m b) fun _ _ _ ⟨S',ρ',N',Y',h1,h2⟩=>⟨S',ρ',N',Y',h1.mono hq,h2⟩
theorem Tr.weaken {c:Code}{S':St}(hS:A0 L S S')(h:Tr P Γ F B L Y c S' Q):Tr P Γ F B L Y c S Q:=fun N ρ a w R y m b=>by
 obtain ⟨ρ1,R1,s1,k1⟩:=hS P Γ N ρ a w R;exact h N ρ1 a w R1 (Y.st y R.hr R1.hr s1 k1) m b
theorem TS {ρ ρ':List AH}{h':DH}{ds:List Deferred}{w w':World}(H:A1 P Γ N S.h ρ w)(st:A5 S.h ρ w h' ρ' w')(m:Lk B ds w):Lk B ds w':=by
 cases B with
 | none=>exact m
 | some B=>
 refine En.upd st.upd m fun k _ hk e=>?_
 obtain ⟨i,o,p,h1,h2,h3⟩:=hk;obtain ⟨_,_,c,t,z,h4⟩:=H.cel i o p k h1 h2 h3;rw [h4] at e;cases e;cases t
theorem Tr.skip (h:Q .normal S Y):Tr P Γ F B L Y .skip S Q:=fun N ρ _ _ R y m b=>wpIn_skip ⟨S,ρ,N,Y,h,R,y,m,b⟩
theorem Tr.ret (h:Q .ret S Y):Tr P Γ F B L Y .ret S Q:=fun N ρ _ _ R y m b=>wpIn_ret ⟨S,ρ,N,Y,h,R,y,m,b⟩
theorem Tr.exit {id:Nat}(h:Q (.exit id) S Y):Tr P Γ F B L Y (.exit id) S Q:=fun N ρ _ _ R y m b=>wpIn_exit ⟨S,ρ,N,Y,h,R,y,m,b⟩
def Rl (K:St -> BQ P Γ L -> Prop)(Q:QY P Γ L):QY P Γ L
 | .normal,S,Y=>K S Y
 | e,S,Y=>Q e S Y
theorem Tr.seq {x y:Code}(h:Tr P Γ F B L Y x S (Rl (fun S' Y'=>Tr P Γ F B L Y' y S' Q) Q)):Tr P Γ F B L Y (.seq x y) S Q:=fun N ρ a w R y m b=>by
 refine zHM (zGR (h N ρ a w R y m b) ?_);rintro e a' w' ⟨S',ρ',N',Y',h1,h2,h3,h4,h5⟩;cases e with
 | normal=>exact h1 N' ρ' a' w' h2 h3 h4 h5
 | ret=>exact ⟨S',ρ',N',Y',h1,h2,h3,h4,h5⟩
 | exit id=>exact ⟨S',ρ',N',Y',h1,h2,h3,h4,h5⟩
 | goto t=>exact ⟨S',ρ',N',Y',h1,h2,h3,h4,h5⟩
 | panic c=>exact ⟨S',ρ',N',Y',h1,h2,h3,h4,h5⟩
 | outgrown=>exact h1.elim
theorem Tr.cond {c:Operand}{x y:Code}{b:Bool}(hc:AW S.fr c= .bool b)(h1:b=true -> Tr P Γ F B L Y x S Q)(h2:b=false -> Tr P Γ F B L Y y S Q):Tr P Γ F B L Y (.cond c x y) S Q:=fun N ρ a w R y m bb=>by
 have hr:=Bj R c;rw [hc] at hr;refine wpIn_cond (t:=b) hr ?_;cases b
 ·exact h2 rfl N ρ a w R y m bb
 ·exact h1 rfl N ρ a w R y m bb
theorem qs {F:Fence}{n:Nat}{P:Program}{Q:Exit -> Act -> World -> Prop}{a:Act}{w:World}{c:Code}(h:c.wpIn F n P (Exit.noGoto Q) a w):(Code.scope c).wpIn F n P Q a w:=by
 intro b k cs hro hb hr;have h0:(lone (b.atR a (.code (.scope c)::k)) cs w).fenced P F:=fenced_calm hb hr rfl;have s0:step P (lone (b.atR a (.code (.scope c)::k)) cs w)= .next (lone (b.atR a (.code c:: .inScope c::k)) cs w):=step_lone_go (by simp [stepG,stepG.exec,Frame.atR]);obtain ⟨e,a₁,w₁,hq,Qo⟩:=h b (.inScope c::k) cs hro hb hr;have s1:step P (lone (b.atR a₁ (.inScope c::k)) cs w₁)= .next (lone (b.atR a₁ k) cs w₁):=step_lone_go (by simp [stepG,stepG.exec,Frame.atR]);cases e with
 | normal=>exact ⟨.normal,a₁,w₁,hq,.head h0 s0 (StepsIn.trans Qo (.one (fenced_calm hb hr rfl) s1))⟩
 | exit id=>exact ⟨.exit id,a₁,w₁,hq,fun k' hk=>.head h0 s0 (Qo.1 k' hk),fun Cr hk=>let ⟨k₁,h1,h2⟩:=Qo.2 Cr hk;⟨k₁,h1,.head h0 s0 h2⟩⟩
 | goto l=>exact hq.elim
 | ret=>exact ⟨_,a₁,w₁,hq,.of_steps (.one h0 s0) Qo⟩
 | panic ch=>exact ⟨_,a₁,w₁,hq,.of_steps (.one h0 s0) Qo⟩
 | outgrown=>exact ⟨_,a₁,w₁,hq,.of_steps (.one h0 s0) Qo⟩
def xu (Q:QY P Γ L):QY P Γ L
 | .goto _,_,_=>False
 | e,S,Y=>Q e S Y
theorem Tr.scope {c:Code}(h:Tr P Γ F B L Y c S (xu Q)):Tr P Γ F B L Y (.scope c) S Q:=fun N ρ a w R y m b=>by
 refine qs (zGR (h N ρ a w R y m b) ?_);rintro e a' w' ⟨S',ρ',N',Y',h1,h2⟩;cases e with
 | goto l=>exact h1.elim
 | _=>exact ⟨S',ρ',N',Y',h1,h2⟩
theorem Tr.label {l:Nat}(h:Q .normal S Y):Tr P Γ F B L Y (.label l) S Q:=fun N ρ a w R y m b=>wpIn_label ⟨S,ρ,N,Y,h,R,y,m,b⟩
def zFS (id:Nat)(Q:QY P Γ L):QY P Γ L
 | .exit i,S,Y=>if i=id then Q .normal S Y else Q (.exit i) S Y
 | e,S,Y=>Q e S Y
theorem Tr.block {id:Nat}{c:Code}(h:Tr P Γ F B L Y c S (zFS id Q)):Tr P Γ F B L Y (.block id c) S Q:=fun N ρ a w R y m b=>by
 refine wpIn_block (zGR (h N ρ a w R y m b) ?_);rintro e a' w' ⟨S',ρ',N',Y',h1,h2⟩;cases e with
 | exit i=>
  show if i=id then _ else _
  by_cases e:i=id
  ·rw [zAM e];have h1:(if i=id then Q .normal S' Y' else Q (.exit i) S' Y'):=h1;rw [zAM e] at h1;exact ⟨S',ρ',N',Y',h1,h2⟩
  ·rw [zAh e];have h1:(if i=id then Q .normal S' Y' else Q (.exit i) S' Y'):=h1;rw [zAh e] at h1;exact ⟨S',ρ',N',Y',h1,h2⟩
 | normal=>exact ⟨S',ρ',N',Y',h1,h2⟩
 | ret=>exact ⟨S',ρ',N',Y',h1,h2⟩
 | goto t=>exact ⟨S',ρ',N',Y',h1,h2⟩
 | panic c=>exact ⟨S',ρ',N',Y',h1,h2⟩
 | outgrown=>exact h1.elim
theorem Tr.loop {c:Code}(I:Nat -> St -> BQ P Γ L -> Prop)(n:Nat)(h0:I n S Y)(h: ∀ n S Y,I n S Y -> Tr P Γ F B L Y c S (Rl (fun S' Y'=>∃ n',n'<n/\ I n' S' Y') Q)):Tr P Γ F B L Y (.loop c) S Q:=fun N ρ a w R y m b=>by
 refine wpIn_loop_ghost (fun k a' w'=>∃ S' ρ' N' Y',I k S' Y'/\ AR P Γ N' S' ρ' a' w'/\ Y'.I N' S'.h ρ' w'/\ Lk B a'.defers w'/\ Bd F B w') n ⟨S,ρ,N,Y,h0,R,y,m,b⟩ ?_;rintro k a' w' ⟨S',ρ',N',Y',h1,h2,h3,h4,h5⟩;refine zGR (h k S' Y' h1 N' ρ' a' w' h2 h3 h4 h5) ?_;rintro e a2 w2 ⟨S2,ρ2,N2,Y2,g1,g2,g3,g4,g5⟩;cases e with
 | normal=>
  obtain ⟨n',AM,hI⟩:=g1;exact ⟨n',AM,S2,ρ2,N2,Y2,hI,g2,g3,g4,g5⟩
 | ret=>exact ⟨S2,ρ2,N2,Y2,g1,g2,g3,g4,g5⟩
 | exit id=>exact ⟨S2,ρ2,N2,Y2,g1,g2,g3,g4,g5⟩
 | goto t=>exact ⟨S2,ρ2,N2,Y2,g1,g2,g3,g4,g5⟩
 | panic c=>exact ⟨S2,ρ2,N2,Y2,g1,g2,g3,g4,g5⟩
 | outgrown=>exact g1.elim
theorem AR.ext {ρ:List AH}{a:Act}{w w':World}(R:AR P Γ N S ρ a w)(hE:Aq w w'):AR P Γ N S ρ a w':=⟨R.hr.ext hE,R.fr.out (BS.ext ρ hE)⟩
theorem Tr.done {S':St}{e:Exit}{ρ ρ':List AH}{a a':Act}{w w':World}(R:AR P Γ N S ρ a w)(y:Y.I N S.h ρ w)(m:Lk B a.defers w)(b:Bd F B w)(hk:QE Q e S' Y)(R':AR P Γ N S' ρ' a' w')(st:A5 S.h ρ w S'.h ρ' w')(T4:CI L ρ ρ')(Cm:a'.defers=a.defers):
 ∃ S' ρ' N' Y',QE Q e S' Y'/\ AR P Γ N' S' ρ' a' w'/\ Y'.I N' S'.h ρ' w'/\ Lk B a'.defers w'/\ Bd F B w':=
 ⟨S',ρ',N,Y,hk,R',Y.st y R.hr R'.hr st T4,by rw [Cm];exact TS R.hr st m,b.step R.hr st⟩
theorem A0.fr {fr HP:List DV}{h:DH}(hl:HP.length=fr.length)(hd: ∀ i,i<fr.length -> AS (fr.getD i .any) (HP.getD i .any)):A0 L ⟨fr,h⟩ ⟨HP,h⟩:=fun P Γ N ρ a w R=>
 ⟨ρ,⟨R.hr,⟨by rw [hl];exact R.fr.1,fun i hi=>hd i (by rw [←hl];exact hi) _ _ _ _ (R.fr.2 i (by rw [←hl];exact hi))⟩⟩,A5.refl _ _ _,CI.refl _ _⟩
theorem AS.refl (d:DV):AS d d:=fun _ _ _ _ h=>h
theorem AS.any (d:DV):AS d .any:=fun _ _ _ _ _=>trivial
theorem AS.int {k:IntKind}{a b:Int}(h:a=b):AS (.int k a) (.int k b):=by rw [h];exact AS.refl _
theorem AS.bool {a b:Bool}(h:a=b):AS (.bool a) (.bool b):=by rw [h];exact AS.refl _
theorem AS.ints_nil:AS .nils (.ints []):=fun M w ρ v h=>⟨none,0,h,zA5 _,zDJ _,fun j hj=>absurd hj (zAv j)⟩
theorem AS.sl_nil (m:Nat)(f:Nat -> Nat -> DV):AS .nils (.sl m 0 f):=fun M w ρ v h=>⟨none,0,h,zA5 _,zDJ _,fun i j hi=>absurd hi (zAv i)⟩
def forget (live:List Nat)(fr:List DV):List DV:=(fr.zipIdx).map fun x=>if live.contains x.2 then x.1 else .any
theorem UU (live:List Nat)(fr:List DV):(forget live fr).length=fr.length:=by simp [forget]
theorem da (live:List Nat)(fr:List DV){i:Nat}(hi:i<fr.length):(forget live fr).getD i .any=if live.contains i then fr.getD i .any else .any:=by
 simp [forget,hi]
theorem A0.forget (live:List Nat)(fr:List DV)(h:DH):A0 L ⟨fr,h⟩ ⟨forget live fr,h⟩:=A0.fr (UU _ _) fun i hi=>by
 rw [da live fr hi];split
 ·exact AS.refl _
 ·exact AS.any _
def EF:List Nat -> Nat -> Option Nat
 | [],_=>none
 | x::σ,k=>if x=k then some 0 else (EF σ k).map (· +1)
def Ed (σ:List Nat):DV -> DV
 | .ref k j=>match EF σ k with
  | some k'=>.ref k' j
  | none=>.any
 | .mse k m off n=>match EF σ k with
  | some k'=>.mse k' m off n
  | none=>.any
 | .mri k i=>match EF σ k with
  | some k'=>.mri k' i
  | none=>.any
 | .msl k m off n=>match EF σ k with
  | some k'=>.msl k' m off n
  | none=>.any
 | .mp k m i j=>match EF σ k with
  | some k'=>.mp k' m i j
  | none=>.any
 | .it k=>match EF σ k with
  | some k'=>.it k'
  | none=>.any
 | .agg m f=>.agg m fun j=>((List.range m).map fun i=>Ed σ (f i)).getD j .any
 | .tup m f=>.tup m fun j=>((List.range m).map fun i=>Ed σ (f i)).getD j .any
 | .fn g m c=>.fn g m fun j=>((List.range m).map fun i=>Ed σ (c i)).getD j .any
 | d=>d
def Ss (σ:List Nat):Option DO -> Option DO
 | some (.cells l)=>some (.cells (l.map (Ed σ)))
 | some (.ro l)=>some (.ro (l.map (Ed σ)))
 | o=>o
def FL (σ:List Nat)(S:St):St:=⟨S.fr.map (Ed σ),σ.map fun k=>Ss σ (S.h.getD k none)⟩
theorem Ku: ∀ {σ:List Nat} {k k':Nat},EF σ k=some k' -> σ[k']? =some k
 | [],_,_,h=>by cases h
 | x::σ,k,k',h=>by
  unfold EF at h;split at h
  ·rename_i e;cases h;subst e;rfl
  ·cases hr:EF σ k with
   | none=>rw [hr] at h;cases h
   | some i=>
    rw [hr] at h;have e:k'=i+1:=(zAe h).symm;subst e;have:=Ku hr;simpa using this
theorem wV {f:Nat -> DV}{m j:Nat}(hj:j<m):((List.range m).map f).getD j .any=f j:=by simp [hj]
theorem aJ {M:Nat -> Prop}{w:World}{ρ:List AH}{f:Nat -> DV}{m j:Nat}{u:Value}(hj:j<m)(h:AK M w (f j) ρ u):AK M w (((List.range m).map f).getD j .any) ρ u:=by rw [wV hj];exact h
theorem wB {M M':Nat -> Prop}{w:World}{σ:List Nat}{ρ ρ':List AH}(hM: ∀ b,M' b -> M b)(hρ: ∀ (k k':Nat) (p:AH),σ[k']? =some k -> ρ[k]? =some p -> ρ'[k']? =some p): ∀ (d:DV) {v:Value},AK M w d ρ v -> AK M' w (Ed σ d) ρ' v:=by
 have low: ∀ (d:DV) {v:Value},AK M w d [] v -> AK M' w d [] v:=fun d v h=>h.out d ⟨fun _ _ _ _=>rfl,fun b hb=>.inl (hM b hb),fun k p hk=>by simp at hk⟩
 intro d
 induction d with
 | any=>intro v _;trivial
 | nils=>intro v h;exact h
 | int k n=>intro v h;exact h
 | bool b=>intro v h;exact h
 | str s=>intro v h;exact h
 | ints l=>intro v h;exact low (.ints l) h
 | bools l=>intro v h;exact low (.bools l) h
 | sl m n f _=>intro v h;exact low (.sl m n f) h
 | fp m f _=>intro v h;exact low (.fp m f) h
 | agg m f ih=>
  rintro v ⟨cs,e,hs,h⟩;exact ⟨cs,e,hs,fun j hj=>let ⟨u,h1,h2⟩:=h j hj;⟨u,h1,aJ hj (ih j h2)⟩⟩
 | tup m f ih=>
  rintro v ⟨cs,e,hs,h⟩;exact ⟨cs,e,hs,fun j hj=>let ⟨u,h1,h2⟩:=h j hj;⟨u,h1,aJ hj (ih j h2)⟩⟩
 | fn g m c ih=>
  rintro v ⟨cs,e,hs,h⟩;exact ⟨cs,e,hs,fun j hj=>let ⟨u,h1,h2⟩:=h j hj;⟨u,h1,aJ hj (ih j h2)⟩⟩
 | ref k j=>
  rintro v ⟨p,hp,e⟩;simp only [Ed];cases hk:EF σ k with
  | none=>trivial
  | some k'=>exact ⟨p,hρ k k' p (Ku hk) hp,e⟩
 | msl k m off n=>
  rintro v ⟨p,cap,hp,r⟩;simp only [Ed];cases hk:EF σ k with
  | none=>trivial
  | some k'=>exact ⟨p,cap,hρ k k' p (Ku hk) hp,r⟩
 | mp k m i j=>
  rintro v ⟨p,hp,e⟩;simp only [Ed];cases hk:EF σ k with
  | none=>trivial
  | some k'=>exact ⟨p,hρ k k' p (Ku hk) hp,e⟩
 | yl l=>intro v h;exact h
 | cst u=>intro v h;exact h
 | mse k m off n=>
  rintro v ⟨p,a,cap,hp,r⟩;simp only [Ed];cases hk:EF σ k with
  | none=>trivial
  | some k'=>exact ⟨p,a,cap,hρ k k' p (Ku hk) hp,r⟩
 | mri k i=>
  rintro v ⟨p,vs,hp,r⟩;simp only [Ed];cases hk:EF σ k with
  | none=>trivial
  | some k'=>exact ⟨p,vs,hρ k k' p (Ku hk) hp,r⟩
 | it k=>
  rintro v ⟨p,hp,e⟩;simp only [Ed];cases hk:EF σ k with
  | none=>trivial
  | some k'=>exact ⟨p,hρ k k' p (Ku hk) hp,e⟩
def lI:AH:=⟨0,0,0,undef,fun _=>False⟩
theorem A0.compact (σ:List Nat)(S:St)(h1:σ.Nodup)(h2: ∀ k∈σ,k<S.h.length)(h3: ∀ k,k<L -> σ[k]? =some k):A0 L S (FL σ S):=fun P Γ N ρ a w R=>by
 obtain ⟨ρ',LD⟩: ∃ ρ',ρ'=σ.map fun k=>ρ.getD k lI:=⟨_,rfl⟩
 have JB: ∀ {k':Nat} {p:AH},ρ'[k']? =some p -> ∃ k,σ[k']? =some k/\ ρ[k]? =some p:=fun {k' p} h=>by
  rw [LD,zCG] at h;cases hk:σ[k']? with
  | none=>rw [hk] at h;cases h
  | some k=>
   rw [hk] at h;have AM:k<ρ.length:=by rw [R.hr.len];exact h2 k (zCi hk)
   refine ⟨k,rfl,?_⟩;simp [AM] at h;simp [AM,h]
 have put: ∀ (k k':Nat) (p:AH),σ[k']? =some k -> ρ[k]? =some p -> ρ'[k']? =some p:=fun k k' p hk hp=>by
  rw [LD,zCG,hk];simp [u8,hp]
 have Gp: ∀ {k':Nat} {o':DO},(FL σ S).h[k']? =some (some o') -> ∃ k o,σ[k']? =some k/\ S.h[k]? =some (some o)/\ Ss σ (some o)=some o':=fun {k' o'} h=>by
  show ∃ k o,_
  have h:(σ.map fun k=>Ss σ (S.h.getD k none))[k']? =some (some o'):=h;rw [zCG] at h;cases hk:σ[k']? with
  | none=>rw [hk] at h;cases h
  | some k=>
   rw [hk] at h;have AM:k<S.h.length:=h2 k (zCi hk);have h:Ss σ (S.h.getD k none)=some o':=zAe h;have e:S.h.getD k none=S.h[k]:=by simp [AM]
   rw [e] at h;cases ho:S.h[k] with
   | none=>rw [ho] at h;cases h
   | some o=>rw [ho] at h;exact ⟨k,o,rfl,by simp [AM,ho],h⟩
 have hM: ∀ b,MO (FL σ S).h ρ' b -> MO S.h ρ b:=by
  rintro b ⟨k',o',p,g1,g2,g3⟩;obtain ⟨k,o,e1,e2,_⟩:=Gp g1;obtain ⟨k2,e3,e4⟩:=JB g2;have:k2=k:=zAe (e3.symm.trans e1);subst this;exact ⟨k2,o,p,e2,e4,g3⟩
 have Xr: ∀ b,MS N (FL σ S).h ρ' b -> MS N S.h ρ b:=fun b hb=>hb.imp id (hM b)
 have O:BS (MS N S.h ρ) w [] (MS N (FL σ S).h ρ') w []:=⟨fun _ _ _ _=>rfl,fun b hb=>.inl (Xr b hb),fun k p hk=>by simp at hk⟩;have low: ∀ (d:DV) {v:Value},AK (MS N S.h ρ) w d ρ v -> AK (MS N (FL σ S).h ρ') w (Ed σ d) ρ' v:=fun d v h=>wB Xr put d h
 refine ⟨ρ',⟨⟨by simp [LD,FL],fun k' o' Ct=>?_,fun k' o' p b g1 g2 g3=>?_,fun i i' o1 o2 p1 p2 b Ad g1 g2 g3 g4 g5 g6=>?_,R.hr.nlt,R.hr.gi⟩,⟨by simp [FL,R.fr.1],fun i hi=>?_⟩⟩,⟨AO.refl _ w,fun b hb=>.inl (hM b hb)⟩,fun k p hk hp=>put k k p (h3 k hk) hp⟩
 ·obtain ⟨k,o,e1,e2,e3⟩:=Gp Ct;obtain ⟨p,hp,hr⟩:=R.hr.obj k o e2;refine ⟨p,put k k' p e1 hp,?_⟩;cases o with
  | cells l=>
   cases e3
   show AY w p (l.map (Ed σ)).length _
   rw [zBC];refine AY.out hr rfl fun j u hj hu=>?_
   have:(l.map (Ed σ)).getD j .any=Ed σ (l.getD j .any):=by simp [hj]
   rw [this];exact low _ hu
  | ints l=>cases e3;exact AY.out hr rfl fun j u _ hu=>hu
  | bools l=>cases e3;exact AY.out hr rfl fun j u _ hu=>hu
  | arr m n f=>cases e3;exact AY.out hr rfl fun j u _ hu=>AK.out _ O hu
  | iter encs=>
   cases e3;obtain ⟨gf,lb,Rd,q1,q2,q3,q4⟩:=hr;exact ⟨gf,lb,Rd,q1,q2,fun b hb=>⟨fun hm=>(q3 b hb).1 (Xr b hm),(q3 b hb).2⟩,q4⟩
  | ro l=>
   cases e3;obtain ⟨r1,r2,r3⟩:=hr;refine ⟨r1,fun hm=>r2 (Xr _ hm),?_⟩
   show AY w _ (l.map (Ed σ)).length _
   rw [zBC];refine AY.out r3 rfl fun j u hj hu=>?_
   have:(l.map (Ed σ)).getD j .any=(Ed σ) (l.getD j .any):=by simp [hj]
   rw [this];exact low _ hu
  | mo x=>cases e3;exact hr
 ·obtain ⟨k,o,e1,e2,_⟩:=Gp g1;obtain ⟨k2,e3,e4⟩:=JB g2;have:k2=k:=zAe (e3.symm.trans e1);subst this;exact R.hr.cel k2 o p b e2 e4 g3
 ·obtain ⟨k,o,e1,e2,_⟩:=Gp g1;obtain ⟨k2,o2,e3,e4,_⟩:=Gp g2;obtain ⟨k3,e5,e6⟩:=JB g3;obtain ⟨k4,e7,e8⟩:=JB g4;have:k3=k:=zAe (e5.symm.trans e1);subst this;have:k4=k2:=zAe (e7.symm.trans e3);subst this;refine R.hr.dis k3 k4 o o2 p1 p2 b (fun e=>Ad ?_) e2 e4 e6 e8 g5 g6;subst e;exact (List.getElem?_inj (zAf.1 e5).1 h1).1 (e5.trans e7.symm)
 ·have BT:i<S.fr.length:=by simpa [FL] using hi
  have:(FL σ S).fr.getD i .any=Ed σ (S.fr.getD i .any):=by simp [FL,BT]
  rw [this];exact low _ (R.fr.2 i BT)
end
def j8 (P:Program)(S:St):ResultVar -> Option DV
 | .tmp t=>some (S.fr.getD t .any)
 | .cell x t=>match S.fr.getD x .any with
  | .ref k j=>match OO P S t (.ref k j) with
   | some (d,_)=>some d
   | none=>none
  | _=>none
def MH (P:Program)(S:St):List ResultVar -> Option (List DV)
 | []=>some []
 | r::rs=>match j8 P S r with
  | some d=>match MH P S rs with
   | some ds=>some (d::ds)
   | none=>none
  | none=>none
def Hg:List DV -> DV
 | [d]=>d
 | ds=>.tup ds.length fun j=>ds.getD j .any
section
variable {P:Program} {Γ:At} {N:Nat -> Prop} {S:St} {ρ:List AH} {a:Act} {w:World}
theorem yh {t:TypeId}{k j:Nat}{d:DV}{vc:Prop}(h:OO P S t (.ref k j)=some (d,vc)):vc:=by
 unfold OO at h
 repeat' (split at h)
 all_goals first | (cases h;trivial) | (cases h;done) | (simp_all;done)
def WE (tmps:Array Value):ResultVar -> Sem Value
 | .tmp t=>pure (tmps.getD t undef)
 | .cell x t=>do loadVar t (←asAddr (tmps.getD x undef))
theorem j9 (R:AR P Γ N S ρ a w): ∀ (rs:List ResultVar) (ds:List DV),MH P S rs=some ds -> ∃ vs:List Value,(rs.mapM (WE a.tmps)).run P w= .ok vs w/\ vs.length=ds.length/\ ∀ i,i<ds.length -> AK (MS N S.h ρ) w (ds.getD i .any) ρ (vs.getD i undef)
 | [],ds,h=>by
  cases h;exact ⟨[],rfl,rfl,fun i hi=>absurd hi (zAv i)⟩
 | r::rs,ds,h=>by
  simp only [MH] at h;split at h
  ·rename_i d hd;split at h
   ·rename_i pH EL;cases h;obtain ⟨vs,h1,h2,h3⟩:=j9 R rs pH EL
    obtain ⟨v,g1,g2⟩: ∃ v,(WE a.tmps r).run P w= .ok v w/\ AK (MS N S.h ρ) w d ρ v:=by
     unfold j8 at hd;split at hd
     ·cases hd;exact ⟨_,rfl,R.fr.at _⟩
     ·rename_i x t;split at hd
      ·rename_i k j e;split at hd
       ·rename_i d' vc hl;cases hd;have hx:=R.fr.at x;rw [e] at hx;obtain ⟨v,q1,q2⟩:=ld R hx hl (yh hl);obtain ⟨p,hp,hv⟩:=hx;have q:=q1 w (Keep.ofExt (Aq.refl w));rw [hv,Z3] at q;refine ⟨v,?_,q2⟩
        show (do loadVar t (←asAddr (a.tmps.getD x undef)):Sem Value).run P w=_
        rw [hv];exact q
       ·cases hd
      ·cases hd
    refine ⟨v::vs,?_,by simp [h2],fun i hi=>?_⟩
    ·rw [List.mapM_cons,zA6,g1];simp only [Result.andThen,zA6,h1,zHB]
    ·cases i with
     | zero=>exact g2
     | succ i=>exact h3 i (by simpa using hi)
   ·cases h
  ·cases h
theorem WC (R:AR P Γ N S ρ a w){fn:Func}{ds:List DV}(h:MH P S fn.results.toList=some ds): ∃ v,(results fn a.tmps).run P w= .ok v w/\ AK (MS N S.h ρ) w (Hg ds) ρ v:=by
 obtain ⟨vs,h1,h2,h3⟩:=j9 R _ _ h
 have hm:(fn.results.mapM (WE a.tmps)).run P w= .ok vs.toArray w:=by
  rw [Array.mapM_eq_mapM_toList,←bind_pure_comp,zA6,h1];rfl
 have XY:(results fn a.tmps).run P w= .ok (if h:vs.toArray.size=1 then vs.toArray[0] else .tuple vs.toArray) w:=by
  show (do let vs←fn.results.mapM (WE a.tmps);pure (if h:vs.size=1 then vs[0] else .tuple vs):Sem Value).run P w=_
  rw [zA6,hm];rfl
 refine ⟨_,XY,?_⟩
 match ds,vs,h2,h3 with
 | [],[],_,_=>exact ⟨#[],rfl,rfl,fun j hj=>absurd hj (zAv j)⟩
 | [d],[v],_,h3=>exact h3 0 (by simp)
 | d::d'::ds,v::v'::vs,h2,h3=>
  have: ¬ ((v::v'::vs).toArray.size=1):=by simp
  rw [dif_neg this];refine ⟨_,rfl,by simpa using h2,fun j hj=>?_⟩;have BJ:j<(v::v'::vs).length:=by rw [h2];exact hj
  exact ⟨(v::v'::vs).getD j undef,by simp only [zHg,u8,zAa BJ];rfl,h3 j hj⟩
def TP (h:DH):Prop:=∀ (k:Nat) (encs:List (List DV)),h[k]? ≠some (some (.iter encs))
theorem AR.shut (R:AR P Γ N S ρ a w)(hi:TP S.h){B:Nat}(hB:Γ.ng<=B){W:World}(hs:PS B w W):AR P Γ N S ρ a W:=by
 have nc: ∀ {b:Nat},Dm w b -> W.heap[b]? =w.heap[b]? :=fun {b} ⟨c,t,z,h⟩=>
  hs.block b (zAZ.1 h).1 fun hx=>by rw [h] at hx;cases hx.2;cases t
 have O:BS (MS N S.h ρ) w ρ (MS N S.h ρ) W ρ:=⟨fun b _ _ ⟨_,_,_,hc⟩=>nc (.cells hc),fun b h=>.inl h,fun _ _ h=>h⟩
 have hr: ∀ {p:AH} {n:Nat} {Rw:Nat -> Value -> Prop},AY w p n Rw -> W.heap[p.blk]? =w.heap[p.blk]? :=fun {p n Rw} h=>by
  obtain ⟨_,cs,t,h2,_⟩:=h;exact nc (.cells h2)
 refine ⟨⟨R.hr.len,fun k o hk=>?_,fun k o p b h1 h2 h3=>?_,R.hr.dis,fun b hb=>⟨zAj (R.hr.nlt b hb).1 hs.size,(R.hr.nlt b hb).2⟩,Γ.st _ _ R.hr.gi (hs.mono fun i _ hx=>zA0 hB hx.1)⟩,R.fr.out O⟩
 ·obtain ⟨p,hp,ho⟩:=R.hr.obj k o hk;refine ⟨p,hp,?_⟩;cases o with
  | cells l=>exact AY.out ho (hr ho) fun j u _ hu=>AK.out _ O hu
  | ints l=>exact AY.out ho (hr ho) fun j u _ hu=>hu
  | bools l=>exact AY.out ho (hr ho) fun j u _ hu=>hu
  | arr m n f=>exact AY.out ho (hr ho) fun j u _ hu=>AK.out _ O.nil hu
  | iter encs=>exact absurd hk (hi k encs)
  | ro l=>obtain ⟨r1,r2,r3⟩:=ho;exact ⟨r1,r2,AY.out r3 (hr r3) fun j u _ hu=>AK.out _ O hu⟩
  | mo x=>exact NM.out ho fun b hb AM=>nc (R.hr.cel k _ p b hk hp hb).2.2
 ·obtain ⟨g1,g2,c,t,z,g3⟩:=R.hr.cel k o p b h1 h2 h3;exact ⟨g1,g2,c,t,z,(nc ⟨c,t,z,g3⟩).trans g3⟩
theorem A5.shut {h0 h:DH}{ρ0 ρ:List AH}{w0 w W:World}(st:A5 h0 ρ0 w0 h ρ w)(hs:PS w0.heap.size w W):A5 h0 ρ0 w0 h ρ W:=
 ⟨st.upd.comp hs fun i hi hx=>absurd hx.1 (by omega),st.grow⟩
theorem A9.anys (M:Nat -> Prop)(w:World)(ρ:List AH)(n:Nat):A9 M w ρ (List.replicate n .any) (Array.replicate n undef):=
 ⟨by simp,fun i hi=>by
  have:(List.replicate n DV.any).getD i .any= .any:=by
   rw [u8,zCx];split <;> rfl
  rw [this];trivial⟩
def If (d:DV):Prop:=∀ (M:Nat -> Prop) (w:World) (ρ:List AH) (v:Value),AK M w d ρ v -> AK M w d [] v
def zGI (L:Nat)(S:St)(rs:List DV)(d:DV)(h':DH):Prop:= (AS (Hg rs) d/\ S.h=h')∨(TP S.h/\ AS (Hg rs) d/\ If d/\ L<=S.h.length/\ (FL (List.range L) S).h=h')
def DS (P:Program)(fn:Func)(L:Nat)(d:DV)(h':DH)(e:Exit)(S':St):Prop:= (e= .normal∨e= .ret)/\ ∃ CU,A0 L S' CU/\ ∃ rs,MH P CU fn.results.toList=some rs/\ zGI L CU rs d h'
theorem ES.of_tr {f:Nat}{fn:Func}{c:Code}{ds:List DV}{h:DH}{d:DV}{h':DH}{ext:Bool}(hf:P.funcs[f]? =some fn)(hb:fn.body=some c)(Ol:fn.name≠ "runtime.NumGoroutine")(Ty:TP h') 
 (H: ∀ (B:Nat) (N:BQ P Γ h.length),Tr P Γ Fence.wide (some B) h.length N c ⟨ds++List.replicate (fn.ntmps-ds.length) .any,h⟩ (fun e S Y=>Y=N/\ DS P fn h.length d h' e S)) (KC:ext=true -> h= []):ES P Γ f ds h d h' ext:=by
 refine ⟨⟨fn,hf,Ol,by rw [hb];rfl⟩,fun N ρ w args HR Cn=>?_⟩;refine zFK w.heap.size hf hb ?_;have Ak:ds.length=args.size:=Cn.1
 have R:AR P Γ N ⟨ds++List.replicate (fn.ntmps-ds.length) .any,h⟩ ρ { tmps:=args++Array.replicate (fn.ntmps-args.size) undef,defers:=[] } w:=
  ⟨HR,A9.append Cn (by rw [Ak];exact A9.anys _ _ _ _)⟩
 have:=H w.heap.size (Pm P Γ h.length N h ρ w) N ρ _ w R ⟨rfl,A5.refl _ _ _,CI.refl _ _⟩ trivial (Bd.wide (zA5 _));refine wpIn_wide.1 (zGR this ?_);rintro e a' w' ⟨S',ρ',N',Y',h1,h2,h3,h4,h5⟩
 have key:Y'=Pm P Γ h.length N h ρ w -> DS P fn h.length d h' e S' -> En w.heap.size a'.defers w'/\ ∀ W,PS w.heap.size w' W -> ∃ v,(results fn a'.tmps).run P W= .ok v W/\ ∃ v',Ending.returned v= .returned v'/\ Ci P Γ N h ρ w ext d h' v' W:=by
  rintro rfl ⟨_,CU,CH,rs,Mg,hd | ⟨hi,hd,hn,hl,hh⟩⟩
  all_goals
   obtain ⟨e0,h3,h5⟩:=h3;have e0:=e0.symm;subst e0
  ·obtain ⟨hd,rfl⟩:=hd;refine ⟨h4,fun W hW=>?_⟩;obtain ⟨ρ'',El,Rr,OU⟩:=CH P Γ N ρ' a' w' h2;have RW:=El.shut Ty (Γ.lo _ HR.gi) hW;obtain ⟨v,g1,g2⟩:=WC RW Mg;have st:A5 h ρ w CU.h ρ'' W:=(h3.trans Rr).shut hW;refine ⟨v,g1,v,rfl,⟨⟨ρ'',RW.hr,hd _ _ _ _ g2,st,fun k p hp=>?_⟩,fun he=>?_⟩⟩
   ·have hk:k<h.length:=by rw [←HR.len];exact (zAf.1 hp).1
    exact OU k p hk (h5 k p hk hp)
   ·have:=KC he;subst this;exact st.upd.toExt fun i _ ⟨k,o,p,q1,_⟩=>by simp at q1
  ·refine ⟨h4,fun W hW=>?_⟩;obtain ⟨ρ'',El,Rr,OU⟩:=CH P Γ N ρ' a' w' h2;have RW:=El.shut hi (Γ.lo _ HR.gi) hW;obtain ⟨v,g1,g2⟩:=WC RW Mg;have st:A5 h ρ w CU.h ρ'' W:=(h3.trans Rr).shut hW;obtain ⟨ρ3,R3,Fr,k3⟩:=A0.compact (L:=h.length) (List.range h.length) CU List.nodup_range (fun k hk=>zAj (zAn.1 hk) hl) (fun k hk=>by simp [hk]) P Γ N ρ'' a' W RW;rw [hh] at Fr;have NL:=R3.hr;rw [hh] at NL;refine ⟨v,g1,v,rfl,⟨⟨ρ3,NL,?_,st.trans Fr,fun k p hp=>?_⟩,fun he=>?_⟩⟩
   ·have r0:=hn _ _ _ _ (hd _ _ _ _ g2);have r1:AK (MS N h' ρ3) W d [] v:=AK.out _ ⟨fun _ _ _ _=>rfl,fun b hb=>hb.elim (fun hx=>.inl (.inl hx)) fun hx=>(Fr.grow b hx).imp .inr id,fun _ _ hx=>by simp at hx⟩ r0;exact AK.out _ ⟨fun _ _ _ _=>rfl,fun b hb=>.inl hb,fun _ _ hx=>by simp at hx⟩ r1
   ·have hk:k<h.length:=by rw [←HR.len];exact (zAf.1 hp).1
    exact k3 k p hk (OU k p hk (h5 k p hk hp))
   ·have:=KC he;subst this;exact (st.trans Fr).upd.toExt fun i _ ⟨k,o,p,q1,_⟩=>by simp at q1
 cases e with
 | normal=>exact key h1.1 h1.2
 | ret=>exact key h1.1 h1.2
 | exit id=>exact absurd h1.2.1 (by simp)
 | goto t=>exact absurd h1.2.1 (by simp)
 | panic ch=>exact absurd h1.2.1 (by simp)
 | outgrown=>exact h1.elim
def Hc (d:DV):Prop:=∀ (M M':Nat -> Prop) (w w':World) (ρ ρ':List AH) (v:Value),AK M w d ρ v -> AK M' w' d ρ' v
theorem If.agg {m:Nat}{f:Nat -> DV}(h: ∀ j,j<m -> If (f j)):If (.agg m f):=fun M w ρ _ ⟨cs,e,hs,hc⟩=>⟨cs,e,hs,fun j hj=>let ⟨u,h1,h2⟩:=hc j hj;⟨u,h1,h j hj M w ρ u h2⟩⟩
theorem If.tup {m:Nat}{f:Nat -> DV}(h: ∀ j,j<m -> If (f j)):If (.tup m f):=fun M w ρ _ ⟨cs,e,hs,hc⟩=>⟨cs,e,hs,fun j hj=>let ⟨u,h1,h2⟩:=hc j hj;⟨u,h1,h j hj M w ρ u h2⟩⟩
theorem Hc.int (k:IntKind)(n:Int):Hc (.int k n):=fun _ _ _ _ _ _ _ h=>h
theorem Hc.bool (b:Bool):Hc (.bool b):=fun _ _ _ _ _ _ _ h=>h
theorem Hc.tup {m:Nat}{f:Nat -> DV}(h: ∀ j,j<m -> Hc (f j)):Hc (.tup m f):=fun M M' w w' ρ ρ' _ ⟨cs,e,hs,hc⟩=>⟨cs,e,hs,fun j hj=>let ⟨u,h1,h2⟩:=hc j hj;⟨u,h1,h j hj M M' w w' ρ ρ' u h2⟩⟩
theorem Qa {M:Nat -> Prop}(hM: ∀ b,M b -> b<w.heap.size/\ Γ.ng<=b)(hg:Γ.gi w):A1 P Γ M [] [] w:=
 ⟨rfl,fun k o hk=>by simp at hk,fun k o p b h1=>by simp at h1,fun k k' o o' p p' b _ h1=>by simp at h1,hM,hg⟩
theorem PU {M:Nat -> Prop}{b:Nat}:MS M [] [] b↔M b:=⟨fun h=>h.elim id fun ⟨k,o,p,h1,_⟩=>by simp at h1,.inl⟩
theorem ES.frame {f:Nat}{ds:List DV}{d:DV}(h0:ES P Γ f ds [] d [] true)(EL: ∀ x∈ds,If x)(h:DH):ES P Γ f ds h d h true:=by
 refine ⟨h0.1,fun N ρ w args HR Cn=>?_⟩;refine (h0.2 (MS N h ρ) [] w args (Qa (fun b hb=>HR.lt2 hb) HR.gi) ⟨Cn.1,fun i hi=>?_⟩).mono ?_
 ·have hx:=EL (ds.getD i .any) (by simp [hi]);exact AK.out _ (DJ (fun b hb=>PU.1 hb) []) (hx _ _ _ _ (Cn.2 i hi))
 ·rintro e w' ⟨v,rfl,⟨⟨ρ',g1,g2,g3,g4⟩,g5⟩⟩;have hE:=g5 rfl;have hρ:ρ'= []:=zDI (by rw [g1.len];rfl);subst hρ;exact ⟨v,rfl,⟨⟨ρ,HR.ext hE,Sr (AK.out _ (DJ (fun b hb=>PU.2 hb) []) g2),A5.ext hE,fun _ _ h=>h⟩,g5⟩⟩
def Ae (h:DH)(d d0:DV):Prop:=∀ (P:Program) (Γ:At) (N:Nat -> Prop) (ρ:List AH) (w:World) (v:Value),A1 P Γ N h ρ w -> AK (MS N h ρ) w d ρ v -> AK (fun _=>False) w d0 [] v
theorem Ae.nref {h:DH}{d:DV}(hn:If d):Ae h d d:=fun _ _ _ _ _ _ _ hr=>AK.out _ (DJ (fun _ hb=>hb.elim) []) (hn _ _ _ _ hr)
theorem Ae.ints {h:DH}{k n:Nat}{l:List Int}(hk:h[k]? =some (some (.ints l)))(hn:n=l.length):Ae h (.msl k 1 0 n) (.ints l):=by
 rintro P Γ N ρ w v H ⟨p,cap,hp,e,g1,g2,_⟩;subst hn;obtain ⟨p',BC,hr⟩:=H.obj k _ hk;have ep:p'=p:=zAe (BC.symm.trans hp);subst ep;refine ⟨_,cap,e,g1,g2,fun j hj=>⟨p'.blk,p'.off,by simp,id,?_⟩⟩;obtain ⟨u,e1,e2⟩:=AY.cell hr hj;rw [e1,e2]
theorem Ae.bools {h:DH}{k n:Nat}{l:List Bool}(hk:h[k]? =some (some (.bools l)))(hn:n=l.length):Ae h (.msl k 1 0 n) (.bools l):=by
 rintro P Γ N ρ w v H ⟨p,cap,hp,e,g1,g2,_⟩;subst hn;obtain ⟨p',BC,hr⟩:=H.obj k _ hk;have ep:p'=p:=zAe (BC.symm.trans hp);subst ep;refine ⟨_,cap,e,g1,g2,fun j hj=>⟨p'.blk,p'.off,by simp,id,?_⟩⟩;obtain ⟨u,e1,e2⟩:=AY.cell hr hj;rw [e1,e2]
theorem Ae.ref {h:DH}{k m:Nat}{l:List DV}{f:Nat -> DV}(hk:h[k]? =some (some (.cells l)))(hm:m<=l.length)(hf: ∀ j,j<m -> Ae h (l.getD j .any) (f j)):Ae h (.ref k 0) (.fp m f):=by
 rintro P Γ N ρ w v H ⟨p,hp,e⟩;obtain ⟨p',BC,hr⟩:=H.obj k _ hk;have ep:p'=p:=zAe (BC.symm.trans hp);subst ep;refine ⟨p'.blk,p'.off,e,fun j hj=>⟨id,?_⟩⟩;obtain ⟨u,e1,e2⟩:=AY.cell hr (j:=j) (by omega);exact ⟨u,e1,hf j hj P Γ N ρ w u H e2⟩
theorem ES.snap {f:Nat}{ds D9:List DV}{d:DV}(h0:ES P Γ f D9 [] d [] true)(h:DH)(hl:D9.length=ds.length)(hs: ∀ i,i<ds.length -> Ae h (ds.getD i .any) (D9.getD i .any))(hd:Hc d):ES P Γ f ds h d h true:=by
 refine ⟨h0.1,fun N ρ w args HR Cn=>?_⟩;refine (h0.2 (fun _=>False) [] w args (Qa (fun b hb=>hb.elim) HR.gi) ⟨by rw [hl];exact Cn.1,fun i hi=>?_⟩).mono ?_
 ·rw [hl] at hi;exact AK.out _ (DJ (fun b hb=>PU.1 hb) []) (hs i hi P Γ N ρ w _ HR (Cn.2 i hi))
 ·rintro e w' ⟨v,rfl,⟨⟨ρ',g1,g2,g3,g4⟩,g5⟩⟩;have hE:=g5 rfl;exact ⟨v,rfl,⟨⟨ρ,HR.ext hE,hd _ _ _ _ _ _ _ g2,A5.ext hE,fun _ _ h=>h⟩,g5⟩⟩
end
section
variable {F:Fence} {n:Nat} {P:Program} {ops:Array Oper} {Q:Exit -> Act -> World -> Prop}
def H7 (F:Fence)(n:Nat)(P:Program)(ops:Array Oper)(Q:Exit -> Act -> World -> Prop)(R:Nat -> World -> World -> Prop)(B5:Nat -> Bool)(g:Nat):Nat -> Array Bool -> Act -> World -> Prop
 | 0,AU,a,w=>(∀ j,j<ops.size -> B5 j=false -> AU.getD j true=true)/\ wpAnyIn F n P .any ops Q g AU a w
 | m+1,AU,a,w=>Region.ready .any ops AU≠[]/\ ∀ i∈Region.ready .any ops AU,wpOpIn F n P ops Q i (fun a' w'=>R i w w'/\ H7 F n P ops Q R B5 g m (AU.setIfInBounds i true) a' w') a w
abbrev VI (F:Fence)(n:Nat)(P:Program)(ops:Array Oper)(Q:Exit -> Act -> World -> Prop)(R:Nat -> World -> World -> Prop):Nat -> Array Bool -> Act -> World -> Prop:=H7 F n P ops Q R (fun _=>false) 0
section
variable {B5:Nat -> Bool} {g:Nat}
theorem fY {R R':Nat -> World -> World -> Prop}(hR: ∀ i w w',R' i w w' -> R i w w'): ∀ (m:Nat) (AU:Array Bool) (a:Act) (w:World),H7 F n P ops Q R' B5 g m AU a w -> H7 F n P ops Q R B5 g m AU a w
 | 0,_,_,_,h=>h
 | m+1,_,_,_,h=>⟨h.1,fun i hi=>zG1 (fun _ _ h'=>⟨hR _ _ _ h'.1,fY hR m _ _ _ h'.2⟩) (h.2 i hi)⟩
theorem wC {AU:Array Bool}(h: ∀ j,j<ops.size -> AU.getD j true=true):Region.ready .any ops AU= []:=by
 cases hr:Region.ready .any ops AU with
 | nil=>rfl
 | cons i l=>
  have hi:i∈Region.ready .any ops AU:=by rw [hr];simp
  obtain ⟨h1,oi,h2,_⟩:=zG7.1 hi;rw [h i (zAZ.1 h2).1] at h1;cases h1
theorem qq {R:Nat -> World -> World -> Prop}{AU:Array Bool}{a:Act}{w:World}(h: ∀ j,j<ops.size -> AU.getD j true=true)(hq:Q .normal a w):VI F n P ops Q R 0 AU a w:=⟨fun j hj _=>h j hj,wC h,hq⟩
theorem fj {R:Nat -> World -> World -> Prop}: ∀ (m:Nat) (AU:Array Bool) (a:Act) (w:World),H7 F n P ops Q R B5 g m AU a w -> wpAnyIn F n P .any ops Q (m+g) AU a w
 | 0,_,_,_,h=>by rw [zA8];exact h.2
 | m+1,_,_,_,h=>by
  rw [show m+1+g=(m+g)+1 by omega];exact ⟨fun h0=>absurd h0 h.1,fun i hi=>zG1 (fun a' w' h'=>fj m _ a' w' h'.2) (h.2 i hi)⟩
theorem qp (hF: ∀ f,F.fn f)(Ar:Cc ops=true){R:Nat -> World -> World -> Prop}{T:World -> Prop}{i:Nat}{oi:Oper}{v:Value}(hQ: ∀ c a d v w,Q (.panic c) (Act.put a d v) w -> Q (.panic c) a w)(hi:ops[i]? =some oi)(Tw: ∀ (j:Nat) (o:Oper) cs b,ops[j]? =some o -> o.op≠.select cs b)(ns: ∀ w,R i w w)(dF: ∀ j,j<ops.size -> B5 j=true -> E3 ops ops.size j i=true):
 ∀ (m:Nat) (AU:Array Bool) (a:Act) (w:World),Fo ops AU ->
  (∀ j oj,ops[j]? =some oj -> j≠i -> AU.getD j true=false -> (∀ e∈oj.after,Region.binds .any e=true -> e.on≠i) -> oi.apart ops oj=true) ->
  (∀ j,j<ops.size -> j≠i -> AU.getD j true=false -> E3 ops ops.size j i=false -> ∀ w w',T w -> R j w w' -> T w') ->
  i∈Region.ready .any ops AU -> YieldsIf P ops T oi v a -> T w ->
  H7 F n P ops Q R B5 g m (AU.setIfInBounds i true) (a.put oi.dst v) w -> H7 F n P ops Q R B5 g (m+1) AU a w:=by
 intro m
 induction m with
 | zero=>
  intro AU a w Az _ _ hr hy hS H;have Mp:=(zG7.1 hr).1;refine ⟨fun h=>(by rw [h] at hr;cases hr),fun j hj=>?_⟩
  by_cases Eu:j=i
  ·subst Eu;exact VF hF (HE Ar hi) hi hy hS ⟨ns w,H⟩
  ·exfalso
   obtain ⟨J8,oj,Fy,Hv⟩:=zG7.1 hj;have Ot:=(zAZ.1 Fy).1;cases ht:B5 j with
   | true=>
    have:=VM Az _ j i oj Fy Hv (dF j Ot ht);rw [UN Mp] at this;cases this
   | false=>
    have:=H.1 j Ot ht;rw [getD_set_ne true (zG9 Eu),J8] at this;cases this
 | succ m ih=>
  intro AU a w Az T9 hT hr hy hS H;have Mp:=(zG7.1 hr).1;refine ⟨fun h=>(by rw [h] at hr;cases hr),fun j hj=>?_⟩
  by_cases Eu:j=i
  ·subst Eu;exact VF hF (HE Ar hi) hi hy hS ⟨ns w,H⟩
  ·have h1:=H.2 j (ready_mono hj Eu);obtain ⟨J8,oj,Fy,Hv⟩:=zG7.1 hj;have Ot:=(zAZ.1 Fy).1
   have cU:E3 ops ops.size j i=false:=by
    cases hx:E3 ops ops.size j i with
    | false=>rfl
    | true=>
     have:=VM Az _ j i oj Fy Hv hx;rw [UN Mp] at this;cases this
   have cV: ∀ e∈oj.after,Region.binds .any e=true -> e.on≠i:=fun e he hb cm=>by
    have h1:=Hv e he hb;rw [cm,UN Mp] at h1;cases h1
   have h2:=fZ hF (HE Ar Fy) Fy (T9 j oj Fy Eu J8 cV) (fun cs b=>Tw i oi cs b hi) (fun cs b=>Tw j oj cs b Fy) (fun c a w h=>hQ c a _ _ w h) hy h1
   have un: ∀ {k:Nat},(AU.setIfInBounds j true).getD k true=false -> AU.getD k true=false:=fun {k} EV=>by
    by_cases T6:j=k
    ·subst T6;exact J8
    ·rw [getD_set_ne true T6] at EV;exact EV
   refine zG1 (fun a' w' h3=>⟨h3.2.1,ih (AU.setIfInBounds j true) a' w' (Az.set hj) (fun k ok hk T5 EV Gn=>T9 k ok hk T5 (un EV) Gn) (fun k EW T5 EV hkw=>hT k EW T5 (un EV) hkw) (ready_mono hr (zG9 Eu)) h3.1 (hT j Ot Eu J8 cU w w' hS h3.2.1) ?_⟩) h2;rw [Array.setIfInBounds_comm _ _ Eu];exact h3.2.2
theorem ZC {id:Nat}{a:Act}{w:World}{R:Nat -> World -> World -> Prop}(hm:P.follows .mixedOrders=true){m:Nat}(hs:m+g=ops.size)(h:H7 F n P ops Q R B5 g m (Array.replicate ops.size false) a w.drew):(Code.region id ops true).wpIn F n P Q a w:=
 wpIn_region_any hm (by
  have:=fj (g:=g) m _ _ _ h;rw [hs] at this;exact this)
theorem ff {c:Code}{a:Act}{w:World}(h:c.wpIn F n P (NP Q) a w):c.wpIn F n P Q a w:=zGR h fun e _ _ hq=>by
 cases e <;> first | exact hq | exact hq.elim
theorem eG:Fo ops (Array.replicate ops.size false):=fun j oj _ hl=>by
 exfalso
 rcases zCV j ops.size with h | h
 ·simp [h] at hl
 ·simp [h] at hl
def P8 (ops:Array Oper)(i:Nat):Bool:=match ops[i]? with
 | some o=>P6 o.op
 | none=>false
def RZ (ops:Array Oper)(early:Nat -> Bool)(Z:Nat -> Nat -> Prop)(j:Nat)(w w':World):Prop:=(P8 ops j=true -> w'=w)/\ (early j=true -> AO (Z j) w w')
def Py (ops:Array Oper)(early:Nat -> Bool)(i:Nat)(AU:Array Bool):Bool:= (Region.ready .any ops AU).contains i&&Region.free .any ops AU i&&P8 ops i&& ((List.range ops.size).all fun j=>AU.getD j true||j==i||P8 ops j||early j||E3 ops ops.size j i)
theorem WJ (hF: ∀ f,F.fn f)(Ar:Cc ops=true)(hs:Region.noSelect ops=true){early:Nat -> Bool}{Z:Nat -> Nat -> Prop}{Zi:Nat -> Prop}{i m:Nat}{AU:Array Bool}{a:Act}{w:World}{oi:Oper}{v:Value}(hQ: ∀ c a d v w,Q (.panic c) (Act.put a d v) w -> Q (.panic c) a w)(hi:ops[i]? =some oi)(Az:Fo ops AU)(Bu:Py ops early i AU=true)(hZ: ∀ j,E3 ops ops.size j i=false -> ∀ b,Z j b -> Zi b)(dF: ∀ j,j<ops.size -> B5 j=true -> E3 ops ops.size j i=true) 
 (hy:YieldsIf P ops (AO Zi w) oi v a) (h:H7 F n P ops Q (RZ ops early Z) B5 g m (AU.setIfInBounds i true) (a.put oi.dst v) w):H7 F n P ops Q (RZ ops early Z) B5 g (m+1) AU a w:=by
 simp only [Py,zAW,zAg,zAn,zA9,zBA] at Bu;obtain ⟨⟨⟨h1,h2⟩,h3⟩,h4⟩:=Bu;refine qp hF Ar hQ hi (Region.noSelect_spec hs) (fun w=>⟨fun _=>rfl,fun _=>AO.refl _ _⟩) dF m AU a w Az (Region.free_spec hi h2) (fun j hj Eu EV hw w1 w2 hT hR=>?_) (by simpa using h1) hy (AO.refl _ _) h;rcases h4 j hj with (((h | h) | h) | h) | h
 ·rw [EV] at h;cases h
 ·exact absurd h Eu
 ·rw [hR.1 h];exact hT
 ·exact hT.trans ((hR.2 h).mono fun b _ hb=>hZ j hw b hb)
 ·rw [hw] at h;cases h
theorem Ut {AU:Array Bool}{i:Nat}(Az:Fo ops AU)(h:(Region.ready .any ops AU).contains i=true):Fo ops (AU.setIfInBounds i true):=Az.set (by simpa using h)
end
end
abbrev zD8:=@Bool.eq_false_iff
abbrev zGj:=@List.mem_filter
abbrev zGu:=@Option.map_eq_some_iff
inductive ST where
 | fin (π live:List Nat)
 | rd (i:Nat) (t:ST)
 | ef (i:Nat) (t H2:ST)
 | no
def U7:ST -> List Nat
 | .ef i _ H2=>i::U7 H2
 | _=>[]
def EP (ops:Array Oper)(early:List Nat):Bool -> Nat -> ST -> Array Bool -> Bool
 | false,0,.fin _ _,L=>(List.range ops.size).all fun j=>L.getD j true
 | false,m+1,.rd i t,L=>Py ops (fun j=>early.contains j) i L&&EP ops early false m t (L.setIfInBounds i true)
 | b,m+1,.ef i t H2,L=>(b||Region.ready .any ops L==U7 (.ef i .no H2))&&!P8 ops i&&EP ops early false m t (L.setIfInBounds i true)&&EP ops early true (m+1) H2 L
 | true,_,.no,_=>true
 | _,_,_,_=>false
def FX (p:Nat -> Bool)(h:DH):DH:=(List.range h.length).map fun i=>if p i then h.getD i none else none
def mF (xs:List Nat)(h:DH):DH:=FX (fun i=>!xs.contains i) h
def Lw (S:St)(o:Oper):Option Nat:=match o.op with
 | .store _ x _=>match AW S.fr x with
  | .ref k _=>some k
  | .mp k _ _ _=>some k
  | _=>none
 | _=>none
def IJ:DV -> List Nat
 | .msl k _ _ _=>[k]
 | _=>[]
def Yy (S:St)(o:Oper):Option (List Nat):=match o.op with
 | .call c=>match c.callee with
  | .builtin .append=>match c.args.toList with
   | [x,y]=>some (IJ (AW S.fr x)++IJ (AW S.fr y))
   | _=>none
  | _=>none
 | _=>none
def RN (P:Program)(S:St)(fz:List (Nat×Fz))(o:Oper):Option (List Nat):=match Vz P S fz o,Vg P S o with
 | none,none=>Yy S o
 | _,_=>none
def zi (nw:List Nat)(h h':DH):Bool:=(List.range h.length).all fun k=>nw.contains k|| !(h.getD k none).isSome||(h'.getD k none).isSome
def i5 (σ:List Nat)(L n:Nat):Bool:=decide σ.Nodup&&σ.all (fun k=>decide (k<n))&&(List.range L).all fun k=>decide (σ[k]? =some k)
def JT (xs:List (Nat×Nat))(nw:List Nat)(j:Nat):List Nat:=(xs.filter fun q=>q.1==j).map (·.2)++nw
def Lo (ops:Array Oper)(xs:List (Nat×Nat))(nw:List Nat)(i:Nat):List Nat:=(xs.filter fun q=>!E3 ops ops.size q.1 i).map (·.2)++nw
def pG (P:Program)(fz:List (Nat×Fz))(early:List Nat)(xs:List (Nat×Nat))(nw:List Nat)(S S1:St)(i:Nat)(o:Oper)(ext:Bool):Bool:=
 zi nw S.h S1.h&&(!(early.contains i)||ext||(match Lw S o with | some k=>(JT xs nw i).contains k&&(S.h.getD k none).isSome | none=>false)||(match RN P S fz o with | some l=>l.all fun k=>(JT xs nw i).contains k | none=>false))
def Vo (π:List Nat)(L0:Nat):List Nat:=List.range L0++π.map (· +L0)
def Lu (P:Program)(Γ:At)(ops:Array Oper)(early:List Nat)(xs:List (Nat×Nat))(nw:List Nat)(L0:Nat)(S':St):ST -> St -> BE -> Option (List Prop×BE)
 | .no,_,AZ=>some ([],AZ)
 | .fin π live,S,AZ=>if i5 (Vo π L0) L0 S.h.length then some ([FL (Vo π L0) ⟨forget live S.fr,S.h⟩=S'],AZ) else none
 | .rd i t,S,AZ=>match ops[i]? with
  | none=>none
  | some o=>match P0 P ops ⟨S.fr,mF (Lo ops xs nw i) S.h⟩ AZ.co o with
   | none=>none
   | some (S1,vs,C4)=>match Lu P Γ ops early xs nw L0 S' t ⟨S1.fr,S.h⟩ ⟨AZ.calls,C4,AZ.fz,AZ.tg⟩ with
    | none=>none
    | some (Bn,B9)=>some (vs++Bn,B9)
 | .ef i t H2,S,AZ=>match ops[i]? with
  | none=>none
  | some o=>match PP P Γ ops S AZ o with
   | none=>none
   | some (S1,vs,ext,Es)=>if pG P AZ.fz early xs nw S S1 i o ext then
    match Lu P Γ ops early xs nw L0 S' t S1 Es with
    | none=>none
    | some (CQ,GP)=>match Lu P Γ ops early xs nw L0 S' H2 S GP with
     | none=>none
     | some (D4,K1)=>some (vs++(CQ++D4),K1)
    else none
def Bv (ops:Array Oper)(early:List Nat)(t:ST):Prop:=(EP ops early false ops.size t (Array.replicate ops.size false)&&Region.noSelect ops&&Cc ops)=true
def Rk (P:Program)(Γ:At)(ops:Array Oper)(early:List Nat)(t:ST)(S:St)(AZ:BE):Option (St×List Prop×BE):=match AZ.tg with
 | []=>none
 | (ks,S')::rest=>match Lu P Γ ops early ks (List.range' S.h.length ops.size) S.h.length S' t S ⟨AZ.calls,AZ.co,AZ.fz,rest⟩ with
  | none=>none
  | some (vs,B9)=>some (S',vs,B9)
theorem My {p:Nat -> Bool}{h:DH}{i:Nat}{o:DO}(hi:(FX p h)[i]? =some (some o)):h[i]? =some (some o)/\ p i=true:=by
 unfold FX at hi;rw [zCG] at hi;cases hr:(List.range h.length)[i]? with
 | none=>rw [hr] at hi;cases hi
 | some j=>
  have hj:i<h.length/\ i=j:=by
   have:=zAf.1 hr;obtain ⟨h1,h2⟩:=this;simp at h1 h2;exact ⟨h1,h2⟩
  rw [hr] at hi;obtain ⟨h1,rfl⟩:=hj;have hi:(if p i then h.getD i none else none)=some o:=zAe hi;split at hi
  ·exact ⟨by rw [u8,zAa h1] at hi;rw [zAa h1];exact congrArg some hi,by assumption⟩
  ·cases hi
theorem jD {p:Nat -> Bool}{h:DH}:(FX p h).length=h.length:=by simp [FX]
theorem dT {p:Nat -> Bool}{h:DH}{k:Nat}(hp:p k=true)(hk:k<h.length):(FX p h)[k]? =h[k]? :=by
 unfold FX;rw [zCG,zHI hk];simp [hp,u8,hk]
section
variable {P:Program} {Γ:At} {N:Nat -> Prop} {S:St} {ρ:List AH} {a:Act} {w:World}
theorem AR.sel (R:AR P Γ N S ρ a w)(p:Nat -> Bool):AR P Γ (fun b=>N b∨∃ k o q,p k=false/\ S.h[k]? =some (some o)/\ ρ[k]? =some q/\ q.foot b) ⟨S.fr,FX p S.h⟩ ρ a w:=by
 have hM: ∀ b,MS (fun b=>N b∨∃ k o q,p k=false/\ S.h[k]? =some (some o)/\ ρ[k]? =some q/\ q.foot b) (FX p S.h) ρ b -> MS N S.h ρ b:=by
  rintro b ((h | ⟨k,o,q,h1,h2,h3,h4⟩) | ⟨k,o,q,h1,h2,h3⟩)
  ·exact .inl h
  ·exact .inr ⟨k,o,q,h2,h3,h4⟩
  ·exact .inr ⟨k,o,q,(My h1).1,h2,h3⟩
 refine ⟨⟨by rw [jD];exact R.hr.len,fun i o hi=>?_,fun i o q b g1 g2 g3=>?_,fun i i' o1 o2 p1 p2 b Ad g1 g2 g3 g4 g5 g6=>R.hr.dis i i' o1 o2 p1 p2 b Ad (My g1).1 (My g2).1 g3 g4 g5 g6,?_,R.hr.gi⟩,R.fr.out (DJ hM ρ)⟩
 ·obtain ⟨q,hq,hr⟩:=R.hr.obj i o (My hi).1;exact ⟨q,hq,hr.out (DJ hM ρ) (S:=fun _=>False) (AO.refl _ _) (fun _ h=>h.elim) fun _ _ _ h=>h⟩
 ·obtain ⟨hi,hpi⟩:=My g1;obtain ⟨c1,c2,c3⟩:=R.hr.cel i o q b hi g2 g3;refine ⟨c1,?_,c3⟩;rintro (h | ⟨k,o',q',h1,h2,h3,h4⟩)
  ·exact c2 h
  ·exact R.hr.dis i k o o' q q' b (fun e=>by subst e;rw [hpi] at h1;cases h1) hi h2 g2 h3 g3 h4
 ·rintro b (h | ⟨k,o',q',h1,h2,h3,h4⟩)
  ·exact R.hr.nlt b h
  ·obtain ⟨c1,_,c,t,z,c3⟩:=R.hr.cel k o' q' b h2 h3 h4;exact ⟨(zAZ.1 c3).1,c1⟩
theorem AR.unsel {p:Nat -> Bool}{fr:List DV}(R0:A1 P Γ N S.h ρ w)(R:A9 (MS (fun b=>N b∨∃ k o q,p k=false/\ S.h[k]? =some (some o)/\ ρ[k]? =some q/\ q.foot b) (FX p S.h) ρ) w ρ fr a.tmps):AR P Γ N ⟨fr,S.h⟩ ρ a w:=by
 refine ⟨R0,R.out (DJ (fun b hb=>?_) ρ)⟩;rcases hb with h | ⟨k,o,q,h1,h2,h3⟩
 ·exact .inl (.inl h)
 ·cases hp:p k with
  | false=>exact .inl (.inr ⟨k,o,q,hp,h1,h2,h3⟩)
  | true=>
   refine .inr ⟨k,o,q,?_,h2,h3⟩;rw [dT hp (zAf.1 h1).1];exact h1
def Zs (xs:List Nat)(h:DH)(ρ:List AH)(w:World)(b:Nat):Prop:=(∃ k o q,k∈xs/\ h[k]? =some (some o)/\ ρ[k]? =some q/\ q.foot b)∨w.heap.size<=b
theorem zj {xs:List Nat}{W:World}(hu:AO (Zs xs S.h ρ w) w W):Keep (fun b=>N b∨∃ k o q,(!xs.contains k)=false/\ S.h[k]? =some (some o)/\ ρ[k]? =some q/\ q.foot b) w W:=by
 intro b o u hb hc;have AM:b<w.heap.size:=zC6 w ⟨b,o,none⟩ hc;refine (eL (hu.block b AM ?_)).trans hc;rintro (⟨k,ob,q,h1,h2,h3,h4⟩ | h)
 ·exact hb (.inr ⟨k,ob,q,by simp [h1],h2,h3,h4⟩)
 ·omega
theorem Q1 {ρ':Operand -> Value}{o:Oper}{t:TypeId}{x y:Operand}(ho:o.op= .store t x y){nx:Next}{w w':World}(h:(execOp ρ' o).run P w= .ok nx w'):nx= .skip:=by
 unfold execOp at h;rw [ho] at h;have h:(Instr.storeAt t (ρ' x) (ρ' y)>>=fun _=>(pure .skip:Sem Next)).run P w= .ok nx w':=h;rw [zA6] at h;cases hs:(Instr.storeAt t (ρ' x) (ρ' y)).run P w with
 | ok v w1=>rw [hs] at h;simp only [Result.andThen] at h;cases h;rfl
 | halt x w1=>rw [hs] at h;simp only [Result.andThen] at h;cases h
theorem BL.store {ρ':Operand -> Value}{o:Oper}{t:TypeId}{x y:Operand}(ho:o.op= .store t x y){w:World}{G G':Value -> World -> Prop}(h:BL P (execOp ρ' o) w G)(h':BL P (execOp ρ' o) w G'):BL P (execOp ρ' o) w (fun v W=>G v W/\ G' v W):=by
 rcases h with ⟨v,w1,h1,_⟩ | ⟨w1,h1,h2⟩ | ⟨f,ag,w1,h1,_⟩
 ·cases Q1 ho h1
 ·rcases h' with ⟨v,w2,g1,_⟩ | ⟨w2,g1,g2⟩ | ⟨f,ag,w2,g1,_⟩
  ·cases Q1 ho g1
  ·rw [h1] at g1;cases g1;exact .inr (.inl ⟨w1,h1,h2,g2⟩)
  ·cases Q1 ho g1
 ·cases Q1 ho h1
theorem sG {t:TypeId}{x d:DV}{k:Nat}{h':DH}{vc:Prop}(hx:(∃ j,x= .ref k j)∨∃ m i j,x= .mp k m i j)(h:Nb P S t x d=some (h',vc)):k<S.h.length/\ ∃ h2,Nb P ⟨S.fr,FX (fun i=>i==k) S.h⟩ t x d=some (h2,vc):=by
 have key: ∀ {o:DO},S.h[k]? =some (some o) -> k<S.h.length/\ (FX (fun i=>i==k) S.h)[k]? =some (some o):=fun {o} ho=>by
  have hk:=(zAf.1 ho).1;exact ⟨hk,by rw [dT (by simp) hk];exact ho⟩
 unfold Nb at h ⊢;rcases hx with ⟨j,rfl⟩ | ⟨m,i,j,rfl⟩
 ·simp only at h ⊢;split at h
  ·rename_i l hl;obtain ⟨h1,h2⟩:=key hl;refine ⟨h1,?_⟩;simp only [h2]
   repeat' (split at h)
   all_goals first | (cases h;done) | skip
   cases h;rename_i q1 q2 q3;simp only [q1,q2,q3,zC9];exact ⟨_,rfl⟩
  ·cases h
 ·simp only at h ⊢;split at h
  ·rename_i Ay;split at h
   ·rename_i l hl;obtain ⟨h1,h2⟩:=key hl;refine ⟨h1,?_⟩;simp only [h2,Ay,zC9]
    repeat' (split at h)
    all_goals first | (cases h;done) | skip
    cases h;rename_i q1;simp only [q1,zC9];exact ⟨_,rfl⟩
   ·rename_i l hl;obtain ⟨h1,h2⟩:=key hl;refine ⟨h1,?_⟩;simp only [h2,Ay,zC9]
    repeat' (split at h)
    all_goals first | (cases h;done) | skip
    cases h;rename_i q1;simp only [q1,zC9];exact ⟨_,rfl⟩
   ·rename_i m' n f hl;obtain ⟨h1,h2⟩:=key hl;refine ⟨h1,?_⟩;simp only [h2,Ay,zC9]
    repeat' (split at h)
    all_goals first | (cases h;done) | skip
    cases h;rename_i q1;simp only [q1,zC9];exact ⟨_,rfl⟩
   ·cases h
  ·cases h
theorem BL.appendB {ρ':Operand -> Value}{o:Oper}{c:Call}{x y:Operand}{t t2:TypeId}(ho:o.op= .call c)(hc:c.callee= .builtin .append)(ha:c.args.toList= [x,y])(ht:c.argTypes.toList= [t,t2]){w:World}{G G':Value -> World -> Prop}(h:BL P (execOp ρ' o) w G)(h':BL P (execOp ρ' o) w G'):BL P (execOp ρ' o) w (fun v W=>G v W/\ G' v W):=by
 have hv: ∀ {nx:Next} {w':World},(execOp ρ' o).run P w= .ok nx w' -> ∃ v,nx= .value v:=fun he=>by
  rw [M4 ho hc ha ht] at he;exact Pe (f:=fun x=>x) he
 rcases h with ⟨v,w1,h1,g⟩ | ⟨w1,h1,_⟩ | ⟨f,ag,w1,h1,_⟩
 ·rcases h' with ⟨v',w2,h2,g'⟩ | ⟨w2,h2,_⟩ | ⟨f,ag,w2,h2,_⟩
  ·rw [h1] at h2;cases h2;exact .inl ⟨v,w1,h1,g,g'⟩
  ·obtain ⟨_,e⟩:=hv h2;cases e
  ·obtain ⟨_,e⟩:=hv h2;cases e
 ·obtain ⟨_,e⟩:=hv h1;cases e
 ·obtain ⟨_,e⟩:=hv h1;cases e
theorem Xz {p:Nat -> Bool}{h:DH}{k:Nat}(hp:p k=true):(FX p h)[k]? =h[k]? :=by
 by_cases hk:k<h.length
 ·exact dT hp hk
 ·rw [zCo (by rw [jD];omega),zCo (by omega)]
theorem zFr {p:Nat -> Bool}{t:TypeId}{x y:DV}(hx: ∀ k∈IJ x,p k=true)(hy: ∀ k∈IJ y,p k=true):(RM P ⟨S.fr,FX p S.h⟩ t x y).map (·.2.2)=(RM P S t x y).map (·.2.2):=by
 have e1:K9 ⟨S.fr,FX p S.h⟩ y=K9 S y:=by
  cases y <;> try rfl
  rename_i k m off n;simp only [K9,Xz (h:=S.h) (hy k (by simp [IJ]))]
 have e2:PJ ⟨S.fr,FX p S.h⟩ y=PJ S y:=by
  cases y <;> try rfl
  rename_i k m off n;simp only [PJ,Xz (h:=S.h) (hy k (by simp [IJ]))]
 have e3: ∀ m,O4 ⟨S.fr,FX p S.h⟩ m y=O4 S m y:=fun m=>by
  cases y <;> try rfl
  rename_i k m off n;simp only [O4,Xz (h:=S.h) (hy k (by simp [IJ]))]
 have ex: ∀ k m off n,x= .msl k m off n -> (FX p S.h)[k]? =S.h[k]? :=fun k m off n e=>Xz (hx k (by subst e;simp [IJ]))
 unfold RM;cases KT P t with
 | none=>rfl
 | some v=>
  obtain ⟨k,e,i,z⟩:=v;simp only
  by_cases hb:128<i.bytes
  ·simp only [hb,zC9]
  simp only [hb,zGQ];cases k with
  | ints=>
   simp only [e1];cases K9 S y with
   | none=>rfl
   | some v=>
    cases x <;> try rfl
    rename_i k m off n;simp only [ex k m off n rfl];cases S.h[k]? with
    | none=>rfl
    | some ob=>
     cases ob with
     | none=>rfl
     | some ob=>cases ob <;> first | rfl | (dsimp only;split <;> rfl)
  | bools=>
   simp only [e2];cases PJ S y with
   | none=>rfl
   | some v=>
    cases x <;> try rfl
    rename_i k m off n;simp only [ex k m off n rfl];cases S.h[k]? with
    | none=>rfl
    | some ob=>
     cases ob with
     | none=>rfl
     | some ob=>cases ob <;> first | rfl | (dsimp only;split <;> rfl)
  | gen mm=>
   simp only [e3];cases O4 S mm y with
   | none=>rfl
   | some v=>
    cases x <;> try rfl
    rename_i k m off n;simp only [ex k m off n rfl];cases S.h[k]? with
    | none=>rfl
    | some ob=>
     cases ob with
     | none=>rfl
     | some ob=>cases ob <;> first | rfl | (dsimp only;split <;> rfl)
theorem zFs (R:AR P Γ N S ρ a w){calls:List (DV×DH×Bool)}{o:Oper}{d:DV}{h':DH}{vs:List Prop}{ext:Bool}{PI:List (DV×DH×Bool)}(h:NI P Γ S calls o.op=some (d,h',vs,ext,PI))(hv:BZ vs){l:List Nat}(hl:Yy S o=some l){G:Value -> World -> Prop}(hG:BL P (execOp a.eval o) w G):
 BL P (execOp a.eval o) w (fun v w'=>G v w'/\ AO (fun b=>∃ k o q,k∈l/\ S.h[k]? =some (some o)/\ ρ[k]? =some q/\ q.foot b) w w'):=by
 unfold Yy at hl;split at hl
 rotate_left
 ·cases hl
 rename_i c ho;split at hl
 rotate_left
 ·cases hl
 rename_i hc;split at hl
 rotate_left
 ·cases hl
 rename_i x y ha;cases hl;rw [ho] at h;simp only [NI,hc,ha] at h;split at h
 rotate_left
 ·cases h
 rename_i t t' ht;split at h
 rotate_left
 ·cases h
 rename_i htt;subst htt;split at h
 rotate_left
 ·cases h
 rename_i d1 h1 vc LR;cases h;have Qb:=zFr (P:=P) (S:=S) (t:=t) (x:=AW S.fr x) (y:=AW S.fr y) (p:=fun k=>(IJ (AW S.fr x)++IJ (AW S.fr y)).contains k) (fun k hk=>by simp [hk]) (fun k hk=>by simp [hk]);rw [LR] at Qb;obtain ⟨⟨d2,h2,vc2⟩,hs,QU⟩:=zGu.1 Qb;have QU:vc2=vc:=QU;subst QU;have D2:=qS (AR.sel R (fun k=>(IJ (AW S.fr x)++IJ (AW S.fr y)).contains k)) hs hv.1 o ho hc ha ht;rcases BL.appendB ho hc ha ht hG D2 with ⟨v,w1,h3,g1,g2⟩ | ⟨w1,h3,g1,g2⟩ | ⟨f,ag,w1,h3,Az⟩
 ·refine .inl ⟨v,w1,h3,g1,?_⟩;obtain ⟨ρ2,_,_,st,_⟩:=g2.ex;refine st.upd.mono fun b _ hb=>?_
  obtain ⟨i,o',q,q1,q2,q3⟩:=hb;exact ⟨i,o',q,by simpa using (My q1).2,(My q1).1,q2,q3⟩
 ·rw [M4 ho hc ha ht] at h3;obtain ⟨_,e⟩:=Pe (f:=fun x=>x) h3;cases e
 ·rw [M4 ho hc ha ht] at h3;obtain ⟨_,e⟩:=Pe (f:=fun x=>x) h3;cases e
theorem ZW {o:Oper}{k:Nat}(h:Lw S o=some k): ∃ t x y,o.op= .store t x y/\ ((∃ j,AW S.fr x= .ref k j)∨∃ m i j,AW S.fr x= .mp k m i j):=by
 unfold Lw at h;split at h
 ·rename_i t x y ho;refine ⟨t,x,y,ho,?_⟩;split at h
  ·rename_i j e;cases h;exact .inl ⟨j,e⟩
  ·rename_i m i j e;cases h;exact .inr ⟨m,i,j,e⟩
  ·cases h
 ·cases h
theorem zGB {calls:List (DV×DH×Bool)}{o:Oper}{t:TypeId}{x y:Operand}(ho:o.op= .store t x y){d:DV}{h':DH}{vs:List Prop}{ext:Bool}{PI:List (DV×DH×Bool)}(h:NI P Γ S calls o.op=some (d,h',vs,ext,PI)): ∃ vc,Nb P S t (AW S.fr x) (AW S.fr y)=some (h',vc)/\ vs= [vc]:=by
 rw [ho] at h;simp only [NI] at h;split at h
 ·rename_i h1 vc hs;cases h;exact ⟨vc,hs,rfl⟩
 ·cases h
theorem zGC (R:AR P Γ N S ρ a w){calls:List (DV×DH×Bool)}{o:Oper}{d:DV}{h':DH}{vs:List Prop}{ext:Bool}{PI:List (DV×DH×Bool)}(h:NI P Γ S calls o.op=some (d,h',vs,ext,PI))(hv:BZ vs):
 BL P (execOp a.eval o) w (fun v w'=>Ci P Γ N S.h ρ w ext d h' v w'/\ ∀ k,Lw S o=some k -> AO (fun b=>∃ q,ρ[k]? =some q/\ q.foot b) w w'):=by
 cases Ds:Lw S o with
 | none=>
  have D:=fM R h hv;rcases D with ⟨v,w1,h1,h2⟩ | ⟨w1,h1,h2⟩ | ⟨f,ag,w1,h1,h2⟩
  ·exact .inl ⟨v,w1,h1,h2,fun k hk=>by cases hk⟩
  ·exact .inr (.inl ⟨w1,h1,h2,fun k hk=>by cases hk⟩)
  ·exact .inr (.inr ⟨f,ag,w1,h1,h2.mono fun e CV ⟨v,e1,e2⟩=>⟨v,e1,e2,fun k hk=>by cases hk⟩⟩)
 | some k=>
  obtain ⟨t,x,y,ho,hx⟩:=ZW Ds;have D:=fM R h hv;obtain ⟨vc,hs,rfl⟩:=zGB ho h;obtain ⟨_,h2,IV⟩:=sG hx hs;have D2:=iT (AR.sel R (fun i=>i==k)) (tx:=x) (x:=y) IV hv.1 o ho;have D3:=BL.store ho D D2;rcases D3 with ⟨v,w1,h1,g1,g2⟩ | ⟨w1,h1,g1,g2⟩ | ⟨f,ag,w1,h1,_⟩
  ·cases Q1 ho h1
  ·refine .inr (.inl ⟨w1,h1,g1,fun k' Ct=>?_⟩);cases Ct;obtain ⟨ρ2,_,_,st,_⟩:=g2.ex;refine st.upd.mono fun b _ hb=>?_
   obtain ⟨i,o',q,q1,q2,q3⟩:=hb;have:=(My q1).2;have e:i=k:=by simpa using this
   subst e;exact ⟨q,q2,q3⟩
  ·cases Q1 ho h1
theorem zFk {F:Fence}(hF:C9 F P)(R:AR P Γ N S ρ a w){ops:Array Oper}{AZ:BE}{o:Oper}(hd: ∀ c,o.op≠.defer c){S':St}{vs:List Prop}{ext:Bool}{B9:BE}(h:PP P Γ ops S AZ o=some (S',vs,ext,B9))(hv:BZ vs) 
 {K:Act -> World -> Prop} {Q:Exit -> Act -> World -> Prop} (hK: ∀ ρ' a' w',AR P Γ N S' ρ' a' w' -> Cv S.h ρ w S'.h ρ' w' -> a'.defers=a.defers -> (ext=true -> Aq w w') -> (∀ k,Lw S o=some k -> AO (fun b=>∃ q,ρ[k]? =some q/\ q.foot b) w w') -> (∀ l,RN P S AZ.fz o=some l -> AO (fun b=>∃ k o q,k∈l/\ S.h[k]? =some (some o)/\ ρ[k]? =some q/\ q.foot b) w w') -> K a' w'):
 if Region.wanted o (yielded ops a.tmps) then o.wpIn F 0 P a w K Q else (∀ f,o.about P w a.eval=some f -> F.fn f)/\ K (a.put o.dst undef) w:=by
 have CS: ∀ v,(a.put o.dst v).defers=a.defers:=fun v=>by cases ho:o.dst <;> simp [Act.put]
 unfold PP at h;split at h
 ·cases h
 ·rename_i hw;cases h;rw [zAh (by rw [H8 R hw];exact zGg)];exact ⟨fun f _=>hF.fn f,hK ρ _ _ (G6 R _ VT) (Cv.refl _ _ _) (CS _) (fun _=>Aq.refl w) (fun _ _=>AO.refl _ _) fun _ _=>AO.refl _ _⟩
 ·rename_i hw;rw [zAM (H8 R hw)];split at h
  ·rename_i S1 CQ fz1 hM;cases h;refine KU hF hd (jQ R hM hv) fun v w' ⟨⟨ρ',g1,g2⟩,Ds⟩=>hK ρ' _ _ g1 g2 (CS v) (fun e=>by cases e) (fun k' Ct=>?_) fun l hl=>?_
   obtain ⟨t0,x0,y0,Og,_⟩:=ZW Ct;rcases Ds with Ds | ⟨k,i,p,t,x,y,q1,q2,q3,q4⟩
   ·exact absurd Og (Ds t0 x0 y0)
   have e:k'=k:=by
    unfold Lw at Ct;rw [q1] at Ct;simp only [q2] at Ct;exact (zAe Ct).symm
   subst e;exact q4.mono fun b _ hb=>⟨p,q3,hb⟩
   unfold RN at hl;rw [hM] at hl;cases hl
  split at h
  ·rename_i S1 CQ hM;cases h;refine KU hF hd (iS R hM hv) fun v w' ⟨⟨ρ',g1,g2⟩,Ds⟩=>hK ρ' _ _ g1 g2 (CS v) (fun e=>by cases e) (fun k' Ct=>?_) fun l hl=>?_
   obtain ⟨t0,x0,y0,Og,_⟩:=ZW Ct;rcases Ds with Ds | ⟨k,i,p,t,x,y,q1,q2,q3,q4⟩
   ·exact absurd Og (Ds t0 x0 y0)
   have e:k'=k:=by
    unfold Lw at Ct;rw [q1] at Ct;simp only [q2] at Ct;exact (zAe Ct).symm
   subst e;exact q4.mono fun b _ hb=>⟨p,q3,hb⟩
   unfold RN at hl;rw [hM] at hl;split at hl
   ·rename_i hx;cases hx
   ·cases hl
  split at h
  ·cases h
  ·rename_i d h1 CQ ext1 calls Xp;split at h;rename_i d' Bn C4 Mq;split at h
   ·cases h
   ·rename_i S2 Pd KN GV;cases h;obtain ⟨Bx,Tu⟩:=C8.1 hv;obtain ⟨CE,IS⟩:=C8.1 Tu;have D:=zGC R Xp Bx;cases LR:Yy S o with
    | none=>
     refine KU hF hd D fun v w' G=>?_
     obtain ⟨ρ',g1,g2⟩:=Mx R o.dst G.1 (d':=d') fun M ρ' hr=>Ur Mq CE hr
     obtain ⟨g3,g4⟩:=UP _ GV IS P Γ N ρ' _ _ g1;refine hK ρ' _ _ g3 (g2.trans ⟨g4,fun _ _ h=>h⟩) (CS v) G.1.ext G.2 fun l hl=>?_
     unfold RN at hl;split at hl
     ·rw [LR] at hl;cases hl
     ·cases hl
    | some l0=>
     refine KU hF hd (zFs R Xp Bx LR D) fun v w' G=>?_
     obtain ⟨ρ',g1,g2⟩:=Mx R o.dst G.1.1 (d':=d') fun M ρ' hr=>Ur Mq CE hr
     obtain ⟨g3,g4⟩:=UP _ GV IS P Γ N ρ' _ _ g1;refine hK ρ' _ _ g3 (g2.trans ⟨g4,fun _ _ h=>h⟩) (CS v) G.1.1.ext G.1.2 fun l hl=>?_
     unfold RN at hl;split at hl
     ·rw [LR] at hl;cases hl;exact G.2
     ·cases hl
theorem gC {F:Fence}(hF:C9 F P){ops:Array Oper}(Ar:Cc ops=true)(hs:Region.noSelect ops=true){early:List Nat}{xs:List (Nat×Nat)}{nw:List Nat}{L0:Nat}{S':St}{Q:Exit -> Act -> World -> Prop}:
 ∀ (t:ST) (m:Nat) (L:Array Bool) {S:St} {ρ:List AH} {a:Act} {w:World} {vs:List Prop} {AZ B9:BE},Fo ops L -> AR P Γ N S ρ a w -> Lu P Γ ops early xs nw L0 S' t S AZ=some (vs,B9) -> BZ vs ->
 (∀ ρ' a' w',AR P Γ N S' ρ' a' w' -> A5 S.h ρ w S'.h ρ' w' -> (∀ k p,k<L0 -> ρ[k]? =some p -> ρ'[k]? =some p) -> a'.defers=a.defers -> Q .normal a' w') ->
 (EP ops early false m t L=true -> VI F 0 P ops (NP Q) (RZ ops (fun j=>early.contains j) (fun j=>Zs (JT xs nw j) S.h ρ w)) m L a w)/\
 (EP ops early true m t L=true -> ∀ i∈U7 t,i∈Region.ready .any ops L -> ∃ m',m=m'+1/\ wpOpIn F 0 P ops (NP Q) i (fun a' w'=>RZ ops (fun j=>early.contains j) (fun j=>Zs (JT xs nw j) S.h ρ w) i w w'/\ VI F 0 P ops (NP Q) (RZ ops (fun j=>early.contains j) (fun j=>Zs (JT xs nw j) S.h ρ w)) m' (L.setIfInBounds i true) a' w') a w):=by
 intro t
 induction t with
 | no=>
  intro m L S ρ a w vs AZ aj Az R hV hv hQ;exact ⟨fun h=>by cases m <;> simp [EP] at h,fun _ i hi=>by cases hi⟩
 | fin π live=>
  intro m L S ρ a w vs AZ aj Az R hV hv hQ;refine ⟨fun h=>?_,fun h=>by cases m <;> simp [EP] at h⟩;cases m with
  | succ m=>simp [EP] at h
  | zero=>
   simp only [EP,zAg,zAn] at h;refine qq h ?_;simp only [Lu] at hV;split at hV
   ·rename_i hσ;cases hV;simp only [i5,zAW,zCQ,zAg,zAn] at hσ;obtain ⟨ρ0,R0,Kn,k0⟩:=A0.forget (L:=L0) live S.fr S.h P Γ N ρ a w R;obtain ⟨ρ',R',DG,k'⟩:=A0.compact (L:=L0) (Vo π L0) ⟨forget live S.fr,S.h⟩ hσ.1.1 (fun k hk=>hσ.1.2 k hk) (fun k hk=>hσ.2 k hk) P Γ N ρ0 a w R0;have st:=Kn.trans DG;have e:FL (Vo π L0) ⟨forget live S.fr,S.h⟩=S':=hv.1;rw [e] at R' st DG;exact hQ ρ' a w R' st (fun k p hk hp=>k' k p hk (k0 k p hk hp)) rfl
   ·cases hV
 | rd i t ih=>
  intro m L S ρ a w vs AZ aj Az R hV hv hQ;refine ⟨fun h=>?_,fun h=>by cases m <;> simp [EP] at h⟩;cases m with
  | zero=>simp [EP] at h
  | succ m=>
   simp only [EP,zAW] at h;simp only [Lu] at hV;split at hV
   ·cases hV
   ·rename_i o ho
    ·split at hV
     ·cases hV
     ·rename_i S1 CQ KX hp;split at hV
      ·cases hV
      ·rename_i D4 GP h2;cases hV;obtain ⟨Bx,CE⟩:=C8.1 hv;have RK:=AR.sel R (fun k=>!(Lo ops xs nw i).contains k);obtain ⟨e1,Ds⟩:=Sw RK hp Bx;have CS: ∀ v,(a.put o.dst v).defers=a.defers:=fun v=>by cases ho:o.dst <;> simp [Act.put]
       have LI:(Region.ready .any ops L).contains i=true:=by
        have:=h.1;simp only [Py,zAW] at this;exact this.1.1.1
       have back: ∀ v,A9 (MS (fun b=>N b∨∃ k o q,(!(Lo ops xs nw i).contains k)=false/\ S.h[k]? =some (some o)/\ ρ[k]? =some q/\ q.foot b) S1.h ρ) w ρ S1.fr (a.put o.dst v).tmps -> AR P Γ N ⟨S1.fr,S.h⟩ ρ (a.put o.dst v) w:=fun v hr=>by
        rw [e1] at hr;exact AR.unsel (p:=fun k=>!(Lo ops xs nw i).contains k) R.hr hr
       have hZ: ∀ j,E3 ops ops.size j i=false -> ∀ b,Zs (JT xs nw j) S.h ρ w b -> Zs (Lo ops xs nw i) S.h ρ w b:=by
        rintro j hj b (⟨k,ob,q,k1,k0,k2,k3⟩ | hb)
        ·refine .inl ⟨k,ob,q,?_,k0,k2,k3⟩;unfold JT at k1;unfold Lo;rcases zC1.1 k1 with k1 | k1
         ·obtain ⟨p,p1,p2⟩:=zDA.1 k1;obtain ⟨p3,p4⟩:=zGj.1 p1;have:p.1=j:=by simpa using p4
          exact zC1.2 (.inl (zDA.2 ⟨p,zGj.2 ⟨p3,by rw [this,hj];rfl⟩,p2⟩))
         ·exact zC1.2 (.inr k1)
        ·exact .inr hb
       rcases Ds with ⟨hw,v,g1,g2⟩ | ⟨hw,g2⟩
       ·refine WJ (Zi:=Zs (Lo ops xs nw i) S.h ρ w) hF.fn Ar hs (fun c a d v w h=>NP.put c a d v w h) ho Az h.1 hZ (fun _ _ h=>by cases h) (.inl ⟨hw,fun W hu=>g1 W (zj hu)⟩) ?_;exact (ih m _ (Ut Az LI) (back v g2.fr) h2 CE fun ρ' a' w' q1 q2 q3 q4=>hQ ρ' a' w' q1 q2 q3 (q4.trans (CS v))).1 h.2
       ·refine WJ (Zi:=Zs (Lo ops xs nw i) S.h ρ w) hF.fn Ar hs (v:=undef) (fun c a d v w h=>NP.put c a d v w h) ho Az h.1 hZ (fun _ _ h=>by cases h) (.inr ⟨hw,rfl⟩) ?_;exact (ih m _ (Ut Az LI) (back undef g2.fr) h2 CE fun ρ' a' w' q1 q2 q3 q4=>hQ ρ' a' w' q1 q2 q3 (q4.trans (CS undef))).1 h.2
 | ef i t H2 ih1 To=>
  intro m L S ρ a w vs AZ aj Az R hV hv hQ;simp only [Lu] at hV;split at hV
  ·cases hV
  ·rename_i o ho;split at hV
   ·cases hV
   ·rename_i S1 CQ ext Es h1;split at hV
    ·rename_i Xo;simp only [pG,zAW,zA9] at Xo;obtain ⟨zCS,zCj⟩:=Xo;split at hV
     ·cases hV
     rename_i D4 GP h2;split at hV
     ·cases hV
     ·rename_i Ls K1 h3;cases hV;obtain ⟨Bx,Dr⟩:=C8.1 hv;obtain ⟨CE,IS⟩:=C8.1 Dr;have A:=To m L Az R h3 IS hQ
      have one: ∀ b,EP ops early b m (.ef i t H2) L=true -> (Region.ready .any ops L).contains i=true -> ∃ m',m=m'+1/\ EP ops early true m H2 L=true/\ wpOpIn F 0 P ops (NP Q) i (fun a' w'=>RZ ops (fun j=>early.contains j) (fun j=>Zs (JT xs nw j) S.h ρ w) i w w'/\ VI F 0 P ops (NP Q) (RZ ops (fun j=>early.contains j) (fun j=>Zs (JT xs nw j) S.h ρ w)) m' (L.setIfInBounds i true) a' w') a w:=by
       intro b hb hr;cases m with
       | zero=>cases b <;> simp [EP] at hb
       | succ m=>
        have DN:(!P8 ops i)=true/\ EP ops early false m t (L.setIfInBounds i true)=true/\ EP ops early true (m+1) H2 L=true:=by
         cases b <;> simp only [EP,zAW] at hb <;> exact ⟨hb.1.1.2,hb.1.2,hb.2⟩
        obtain ⟨b1,b2,b3⟩:=DN;refine ⟨m,rfl,b3,?_⟩;unfold wpOpIn;simp only [ho];refine zFk hF R (HE Ar ho) h1 Bx fun ρ' a' w' R' st Cm KC zAs happ=>?_
        refine ⟨⟨fun hp=>(by rw [hp] at b1;cases b1),fun he=>?_⟩,?_⟩
        ·rcases zCj with ((h | h) | h) | h
         ·have he:early.contains i=true:=he;rw [he] at h;cases h
         ·exact AO.ofExt (KC h)
         ·split at h
          ·rename_i k hk;rw [zAW] at h;refine (zAs k hk).mono fun b _ hb=>?_
           obtain ⟨q,q1,q2⟩:=hb;cases hg:S.h.getD k none with
           | none=>rw [hg] at h;cases h.2
           | some ob=>exact .inl ⟨k,ob,q,by simpa using h.1,getD_some hg,q1,q2⟩
          ·cases h
         ·split at h
          ·rename_i l hl;refine (happ l hl).mono fun b _ hb=>?_
           obtain ⟨k,ob,q,q0,q1,q2,q3⟩:=hb;exact .inl ⟨k,ob,q,by simpa using zAg.1 h k q0,q1,q2,q3⟩
          ·cases h
        ·have T:=(ih1 m _ (Ut Az hr) R' h2 CE fun ρ2 a2 w2 q1 q2 q3 q4=>hQ ρ2 a2 w2 q1 (st.st.trans q2) (fun k p hk hp=>q3 k p hk (st.pl k p hp)) (q4.trans Cm)).1 b2;refine fY (fun j w1 w2 hR=>⟨hR.1,fun he=>(hR.2 he).mono fun b nn hb=>?_⟩) _ _ _ _ T;rcases hb with ⟨k,ob,q,k1,k0,k2,k3⟩ | hb
         ·rcases st.st.grow b ⟨k,ob,q,k0,k2,k3⟩ with ⟨i2,o2,p2,g1,g2,g3⟩ | h
          ·by_cases Ce:i2∈JT xs nw j
           ·exact .inl ⟨i2,o2,p2,Ce,g1,g2,g3⟩
           ·exfalso
            have FE:=(zAf.1 g1).1;have Oa:=zAg.1 zCS i2 (zAn.2 FE);have e2:S.h.getD i2 none=some o2:=by rw [u8,g1];rfl
            have cU:nw.contains i2=false:=zD8.2 fun h=>Ce (zC1.2 (.inr (by simpa using h)))
            rw [e2,cU] at Oa;cases nS:S1.h.getD i2 none with
            | none=>rw [nS] at Oa;cases Oa
            | some xY=>exact R'.hr.dis i2 k xY ob p2 q b (fun e=>Ce (e▸k1)) (getD_some nS) k0 (st.pl i2 p2 g2) k2 g3 k3
          ·exact .inr h
         ·exact .inr (zA0 st.st.upd.size hb)
      refine ⟨fun h=>?_,fun h j hj hr=>?_⟩
      ·have LI:Region.ready .any ops L=i::U7 H2:=by
        cases m <;> simp only [EP,zAW,zA9,zBA,U7,zCe,false_or] at h;exact h.1.1.1
       obtain ⟨m',e,ha,hw⟩:=one false h (by rw [LI];simp);subst e;refine ⟨by rw [LI];simp,fun j hj=>?_⟩;have HN:=hj;rw [LI] at hj;rcases zCD.1 hj with rfl | hj
       ·exact hw
       ·obtain ⟨m2,e2,Ts⟩:=A.2 ha j hj HN;cases e2;exact Ts
      ·rcases zCD.1 hj with rfl | hj
       ·obtain ⟨m',e,ha,hw⟩:=one true h (by simpa using hr);exact ⟨m',e,hw⟩
       ·have ha:EP ops early true m H2 L=true:=by
         cases m <;> simp only [EP,zAW] at h
         ·cases h
         ·exact h.2
        exact A.2 ha j hj hr
    ·cases hV
theorem Tr.tree {F:Fence}{B:Option Nat}{L:Nat}{Y:BQ P Γ L}{Q:QY P Γ L}(hF:C9 F P){id:Nat}{ops:Array Oper}{early:List Nat}{t:ST}{AZ B9:BE}{S':St}{vs:List Prop}(hm:P.follows .mixedOrders=true)(hB:Bv ops early t) 
 (h:Rk P Γ ops early t S AZ=some (S',vs,B9)) (hv:BZ vs) (hk:Q .normal S' Y):Tr P Γ F B L Y (.region id ops true) S Q:=fun N ρ a w R y m b=>by
 simp only [Bv,zAW] at hB;obtain ⟨⟨h1,h2⟩,h3⟩:=hB;unfold Rk at h;split at h
 ·cases h
 split at h
 ·cases h
 ·rename_i hV;cases h;have hE:Aq w w.drew:=Aq.toDrew w;refine ff (ZC hm (zGc _) ((gC hF h3 h2 t ops.size _ eG (R.ext hE) hV hv fun ρ' a' w' R' st T4 Cm=>?_).1 h1));have DG:A5 S.h ρ w S'.h ρ' w':=(A5.ext hE).trans st;exact Tr.done R y m b hk R' DG (fun k p _ hp=>T4 k p (by rw [←R.hr.len];exact (zAf.1 hp).1) hp) Cm
end
abbrev zGs:=@Go.wpIn_region_list
abbrev zHl:=@Go.IntKind.wrap_i64
inductive KI where
 | code (c:Code)
 | blk (id:Nat)
 | scp
 | lend (J:St -> Prop)
 | loopN (m:Nat) (b:Code)
def Kc (P:Program)(Γ:At)(F:Fence)(B:Option Nat)(L:Nat)(b:Code)(Q:QY P Γ L):Nat -> St -> BQ P Γ L -> Prop
 | 0,_,_=>False
 | m+1,S,Y=>Tr P Γ F B L Y b S (Rl (Kc P Γ F B L b Q m) Q)
theorem Kc.loop {P:Program}{Γ:At}{F:Fence}{B:Option Nat}{L:Nat}{Y:BQ P Γ L}{b:Code}{Q:QY P Γ L}{m:Nat}{S:St}(h:Kc P Γ F B L b Q m S Y):Tr P Γ F B L Y (.loop b) S Q:=by
 refine Tr.loop (fun m S Y=>Kc P Γ F B L b Q m S Y) m h fun m S Y hm=>?_
 cases m with
 | zero=>exact hm.elim
 | succ m=>
  refine Tr.mono hm fun e S' Y' hq=>?_
  cases e with
  | normal=>exact ⟨m,Nat.lt_succ_self m,hq⟩
  | _=>exact hq
def Dl (P:Program)(Γ:At)(F:Fence)(B:Option Nat)(L:Nat)(Q:QY P Γ L):List KI -> QY P Γ L
 | [],e,S,Y=>Q e S Y
 | .code c::k,e,S,Y=>match e with
  | .normal=>Tr P Γ F B L Y c S (Dl P Γ F B L Q k)
  | e=>Dl P Γ F B L Q k e S Y
 | .blk id::k,e,S,Y=>match e with
  | .exit i=>if i=id then Dl P Γ F B L Q k .normal S Y else Dl P Γ F B L Q k (.exit i) S Y
  | e=>Dl P Γ F B L Q k e S Y
 | .scp::k,e,S,Y=>match e with
  | .goto _=>False
  | e=>Dl P Γ F B L Q k e S Y
 | .lend J::k,e,S,Y=>match e with
  | .normal=>J S
  | e=>Dl P Γ F B L Q k e S Y
 | .loopN m b::k,e,S,Y=>match e with
  | .normal=>Kc P Γ F B L b (Dl P Γ F B L Q k) m S Y
  | e=>Dl P Γ F B L Q k e S Y
def Ap (P:Program)(Γ:At)(F:Fence)(B:Option Nat)(L:Nat)(Y:BQ P Γ L)(Q:QY P Γ L)(k:List KI)(S:St):Prop:=Dl P Γ F B L Q k .normal S Y
def stay {P:Program}{Γ:At}{L:Nat}(N:BQ P Γ L)(Q:Exit -> St -> Prop):QY P Γ L:=fun e S Y=>Y=N/\ Q e S
abbrev Bg (P:Program)(Γ:At)(F:Fence)(B:Option Nat)(L:Nat)(N:BQ P Γ L)(Q:Exit -> St -> Prop)(k:List KI)(S:St):Prop:=Ap P Γ F B L N (stay N Q) k S
def Iv (id:Nat):List KI -> Option (List KI)
 | []=>none
 | .blk i::k=>if id=i then some k else Iv id k
 | _::k=>Iv id k
inductive fO where
 | no
 | ord (st:List (List Nat×Nat)) (la ta:List Nat)
 | stop
 | tre (early:List Nat) (t:ST)
abbrev Bh:=Nat -> fO
def fO.isStop:fO -> Bool
 | .stop=>true
 | _=>false
def AV (i:Nat)(s:Bh):Bh:=fun j=>if j=i then .stop else s j
def As (ops:Array Oper)(Cf:List (List Nat×Nat))(BI tail:List Nat):Prop:=(Zn ops Cf BI tail&&Cc ops&&tail.all fun t=>decide (t<ops.size))=true
inductive KO where
 | at (k:List KI)
 | ret
def CG (P:Program)(Γ:At)(A6:Bh):Nat -> List KI -> St -> BE -> Option (KO×St×List Prop×BE)
 | 0,_,_,_=>none
 | n+1,k,S,o=>match k with
  | []=>some (.at [],S,[],o)
  | .blk _::k=>CG P Γ A6 n k S o
  | .scp::k=>CG P Γ A6 n k S o
  | .lend J::k=>some (.at (.lend J::k),S,[],o)
  | .loopN m b::k=>some (.at (.loopN m b::k),S,[],o)
  | .code c::k=>match c with
   | .skip=>CG P Γ A6 n k S o
   | .seq a b=>CG P Γ A6 n (.code a:: .code b::k) S o
   | .block id b=>CG P Γ A6 n (.code b:: .blk id::k) S o
   | .scope b=>CG P Γ A6 n (.code b:: .scp::k) S o
   | .label _=>CG P Γ A6 n k S o
   | .exit id=>match Iv id k with
    | some k'=>CG P Γ A6 n k' S o
    | none=>some (.at (.code (.exit id)::k),S,[],o)
   | .ret=>some (.ret,S,[],o)
   | .cond x a b=>match AW S.fr x with
    | .bool true=>CG P Γ A6 n (.code a::k) S o
    | .bool false=>CG P Γ A6 n (.code b::k) S o
    | _=>none
   | .region id ops dr=>if (A6 id).isStop then some (.at (.code (.region id ops dr)::k),S,[],o) else match dr with
    | false=>if Cc ops then match Di P Γ ops ops.toList S o with
     | none=>none
     | some (S',vs,o')=>match CG P Γ A6 n k S' o' with
      | none=>none
      | some (r,CU,Bn,TI)=>some (r,CU,vs++Bn,TI)
     else none
    | true=>match A6 id with
     | .no=>none
     | .stop=>none
     | .tre early t=>match Rk P Γ ops early t S o with
      | none=>none
      | some (S',vs,o')=>match CG P Γ A6 n k S' o' with
       | none=>none
       | some (r,CU,Bn,TI)=>some (r,CU,Bv ops early t::(vs++Bn),TI)
     | .ord st la ta=>match hseq P Γ ops S.h st la ta S o with
      | none=>none
      | some (S',vs,o')=>match CG P Γ A6 n k S' o' with
       | none=>none
       | some (r,CU,Bn,TI)=>some (r,CU,As ops st la ta::(vs++Bn),TI)
   | c=>some (.at (.code c::k),S,[],o)
section
variable {P:Program} {Γ:At} {F:Fence} {B:Option Nat} {L:Nat} {Y:BQ P Γ L} {Q:QY P Γ L}
theorem zDN (hF:C9 F P){S:St}{id:Nat}{ops:Array Oper}{AZ B9:BE}{S':St}{vs:List Prop}{Q:QY P Γ L}(Ar:Cc ops=true)(h:Di P Γ ops ops.toList S AZ=some (S',vs,B9))(hv:BZ vs)(hk:Q .normal S' Y):Tr P Γ F B L Y (.region id ops false) S Q:=fun N ρ a w R y m b=>
 zGs (KL hF Ar _ (fun o ho=>by simpa using ho) R h hv fun ρ' a' w' R' st Cm=>Tr.done R y m b hk R' st.st (fun k p _ hp=>st.pl k p hp) Cm)
theorem zAy (hF:C9 F P){S:St}{id:Nat}{ops:Array Oper}{Cf:List (List Nat×Nat)}{BI tail:List Nat}{AZ B9:BE}{S':St}{vs:List Prop}{Q:QY P Γ L}(hm:P.follows .mixedOrders=true)(hB:As ops Cf BI tail) 
 (h:hseq P Γ ops S.h Cf BI tail S AZ=some (S',vs,B9)) (hv:BZ vs) (hk:Q .normal S' Y):Tr P Γ F B L Y (.region id ops true) S Q:=fun N ρ a w R y m b=>by
 simp only [As,zAW] at hB;obtain ⟨⟨h1,h2⟩,h3⟩:=hB;have hE:Aq w w.drew:=Aq.toDrew w;refine fc hF.fn Cf BI tail hm (by simp only [zAW];exact ⟨h1,h2⟩) (zAz hF h2 Cf BI tail h3 (R.ext hE) (Cv.refl _ _ _) (Aq.refl _) h hv fun ρ' a' w' R' st Cm=>?_);have DG:A5 S.h ρ w S'.h ρ' w':=(A5.ext hE).trans st.st;exact Tr.done R y m b hk R' DG (fun k p _ hp=>st.pl k p hp) Cm
theorem N4 {id:Nat}{S:St}: ∀ {k k':List KI},Iv id k=some k' -> Dl P Γ F B L Q k' .normal S Y -> Dl P Γ F B L Q k (.exit id) S Y
 | [],_,h,_=>by cases h
 | .blk i::k,k',h,hq=>by
  unfold Iv at h;split at h
  ·rename_i e;cases h;subst e
   show (if id=id then _ else _)
   rw [zAM rfl];exact hq
  ·rename_i e
   show (if id=i then _ else _)
   rw [zAh e];exact N4 h hq
 | .code c::k,k',h,hq=>N4 (k:=k) h hq
 | .lend J::k,k',h,hq=>N4 (k:=k) h hq
 | .scp::k,k',h,hq=>N4 (k:=k) h hq
 | .loopN m b::k,k',h,hq=>N4 (k:=k) h hq
theorem MG {S:St}(h:Q .ret S Y): ∀ (k:List KI),Dl P Γ F B L Q k .ret S Y
 | []=>h
 | .blk _::k=>MG h k
 | .code _::k=>MG h k
 | .lend _::k=>MG h k
 | .scp::k=>MG h k
 | .loopN _ _::k=>MG h k
def KOk (P:Program)(Γ:At)(F:Fence)(B:Option Nat)(L:Nat)(Y:BQ P Γ L)(Q:QY P Γ L):KO -> St -> Prop
 | .at k,S=>Ap P Γ F B L Y Q k S
 | .ret,S=>Q .ret S Y
theorem Ff (hF:C9 F P)(hm:P.follows .mixedOrders=true){A6:Bh}: ∀ (n:Nat) (k:List KI) (S:St) (o:BE) (r:KO) (S':St) (vs:List Prop) (o':BE),CG P Γ A6 n k S o=some (r,S',vs,o') -> BZ vs -> KOk P Γ F B L Y Q r S' -> Ap P Γ F B L Y Q k S
 | 0,_,_,_,_,_,_,_,h,_,_=>by cases h
 | n+1,k,S,o,r,S',vs,o',h,hv,hk=>by
  unfold CG at h;cases k with
  | nil=>cases h;exact hk
  | cons i k=>
   cases i with
   | blk id=>exact Ff hF hm n k S o r S' vs o' h hv hk
   | scp=>exact Ff hF hm n k S o r S' vs o' h hv hk
   | lend J=>cases h;exact hk
   | loopN m b=>cases h;exact hk
   | code c=>
    show Tr P Γ F B L Y c S (Dl P Γ F B L Q k)
    cases c with
    | skip=>exact Tr.skip (Ff hF hm n k S o r S' vs o' h hv hk)
    | seq a b=>
     refine Tr.seq (Tr.mono (Ff hF hm n (.code a:: .code b::k) S o r S' vs o' h hv hk) fun e S2 Y2 hq=>?_);cases e <;> exact hq
    | block id b=>
     refine Tr.block (Tr.mono (Ff hF hm n (.code b:: .blk id::k) S o r S' vs o' h hv hk) fun e S2 Y2 hq=>?_);cases e <;> exact hq
    | exit id=>
     simp only at h;split at h
     ·rename_i k' hp;exact Tr.exit (N4 hp (Ff hF hm n k' S o r S' vs o' h hv hk))
     ·cases h;exact hk
    | ret=>cases h;exact Tr.ret (MG hk k)
    | cond x a b=>
     simp only at h;split at h
     ·rename_i hc;exact Tr.cond hc (fun _=>Ff hF hm n (.code a::k) S o r S' vs o' h hv hk) (fun e=>by cases e)
     ·rename_i hc;exact Tr.cond hc (fun e=>by cases e) (fun _=>Ff hF hm n (.code b::k) S o r S' vs o' h hv hk)
     ·cases h
    | region id ops dr=>
     simp only at h;split at h
     ·cases h;exact hk
     ·cases dr with
      | false=>
       simp only at h;split at h
       ·rename_i Ar;split at h
        ·cases h
        ·rename_i S1 CQ o1 h1;split at h
         ·cases h
         ·rename_i r2 S2 D4 o2 h2;cases h;obtain ⟨Bx,CE⟩:=C8.1 hv;exact zDN hF Ar h1 Bx (Ff hF hm n k S1 o1 _ _ _ _ h2 CE hk)
       ·cases h
      | true=>
       simp only at h;split at h
       ·cases h
       ·cases h
       ·rename_i early t hs;split at h
        ·cases h
        ·rename_i S1 CQ o1 h1;split at h
         ·cases h
         ·rename_i r2 S2 D4 o2 h2;cases h;obtain ⟨Me,Dr⟩:=hv;obtain ⟨Bx,CE⟩:=C8.1 Dr;exact Tr.tree hF hm Me h1 Bx (Ff hF hm n k S1 o1 _ _ _ _ h2 CE hk)
       ·rename_i st la ta hs;split at h
        ·cases h
        ·rename_i S1 CQ o1 h1;split at h
         ·cases h
         ·rename_i r2 S2 D4 o2 h2;cases h;obtain ⟨Me,Dr⟩:=hv;obtain ⟨Bx,CE⟩:=C8.1 Dr;exact zAy hF hm Me h1 Bx (Ff hF hm n k S1 o1 _ _ _ _ h2 CE hk)
    | loop b=>cases h;exact hk
    | rangeFunc f ps U1 bd=>cases h;exact hk
    | scope b=>
     refine Tr.scope (Tr.mono (Ff hF hm n (.code b:: .scp::k) S o r S' vs o' h hv hk) fun e S2 Y2 hq=>?_);cases e <;> exact hq
    | label l=>exact Tr.label (Ff hF hm n k S o r S' vs o' h hv hk)
    | goto l=>cases h;exact hk
    | refuse w=>cases h;exact hk
theorem Ap.weaken {k:List KI}{S S':St}(hS:A0 L S S')(h:Ap P Γ F B L Y Q k S')(hk: ∃ c k',k= .code c::k'):Ap P Γ F B L Y Q k S:=by
 obtain ⟨c,k',rfl⟩:=hk;exact Tr.weaken hS h
def OV:List KI -> Bool
 | .code (.loop _)::_=>true
 | _=>false
def DW (k:List KI):List KI:=match k with
 | _::rest=>rest
 | []=>[]
def M2 (id:Nat):List Nat -> Code -> List KI -> Option (List KI)
 | ms,.seq a b,k=>match M2 id ms a (.code b::k) with
  | some r=>some r
  | none=>M2 id ms b k
 | ms,.cond _ a b,k=>match M2 id ms a k with
  | some r=>some r
  | none=>M2 id ms b k
 | ms,.block i c,k=>if i=id then some (.code c:: .blk i::k) else M2 id ms c (.blk i::k)
 | ms,.scope c,k=>M2 id ms c (.scp::k)
 | m::ms,.loop b,k=>M2 id ms b (.loopN m b::k)
 | _,_,_=>none
def M3 (id:Nat):List Nat -> Code -> List KI -> Option (List KI)
 | ms,.seq a b,k=>match M3 id ms a (.code b::k) with
  | some r=>some r
  | none=>M3 id ms b k
 | ms,.cond _ a b,k=>match M3 id ms a k with
  | some r=>some r
  | none=>M3 id ms b k
 | ms,.block i c,k=>M3 id ms c (.blk i::k)
 | ms,.scope c,k=>M3 id ms c (.scp::k)
 | m::ms,.loop b,k=>M3 id ms b (.loopN m b::k)
 | _,.region i ops dr,k=>if i=id then some (.code (.region i ops dr)::k) else none
 | _,_,_=>none
def A4 (m:Nat)(k:List KI):List KI:=match k with
 | .code (.loop b)::rest=>.loopN m b::rest
 | _=>[]
def f9 (m:Nat)(k:List KI):List KI:=match k with
 | .code (.loop b)::rest=>.code b:: .loopN m b::rest
 | _=>[]
def start (f:Func):List KI:=match f.body with
 | some c=>[.code c]
 | none=>[]
def Jg (c:Code)(id:Nat):Array Oper:=match c with
 | .region i ops _=>if i=id then ops else #[]
 | .seq a b=>let x:=Jg a id;if x.size=0 then Jg b id else x
 | .cond _ a b=>let x:=Jg a id;if x.size=0 then Jg b id else x
 | .block _ c=>Jg c id
 | .loop c=>Jg c id
 | .scope c=>Jg c id
 | .rangeFunc _ _ a b=>let x:=Jg a id;if x.size=0 then Jg b id else x
 | _=>#[]
def Aj (f:Func)(id:Nat):Array Oper:=match f.body with
 | some c=>Jg c id
 | none=>#[]
theorem Bg.enter {k:List KI}{S:St}(m:Nat)(hk:OV k=true)(h:Ap P Γ F B L Y Q (A4 m k) S):Ap P Γ F B L Y Q k S:=by
 unfold OV at hk;split at hk
 ·exact Kc.loop h
 ·cases hk
theorem Bg.round {k:List KI}{S:St}{n m:Nat}(hm:n+1<=m)(hk:OV k=true)(h: ∀ m,n<=m -> Ap P Γ F B L Y Q (f9 m k) S):Ap P Γ F B L Y Q (A4 m k) S:=by
 cases m with
 | zero=>omega
 | succ m=>
  have h:=h m (Nat.le_of_succ_le_succ hm);unfold OV at hk;split at hk
  ·refine Tr.mono h fun e S' Y' hq=>?_
   cases e <;> exact hq
  ·cases hk
def AG (n:Nat)(l:List (Nat×DV)):List DV:=(List.range n).map fun i=>match l.find? (fun x=>x.1==i) with
 | some x=>x.2
 | none=>.any
theorem DS.le {fn:Func}{d:DV}{h':DH}{e:Exit}{S S':St}(hS:A0 L S S')(h:DS P fn L d h' e S'):DS P fn L d h' e S:=by
 obtain ⟨he,CU,h1,h2⟩:=h;exact ⟨he,CU,hS.trans h1,h2⟩
theorem ES.of_trk {f:Nat}{fn:Func}{ds:List DV}{h:DH}{d:DV}{h':DH}{ext:Bool}(hf:P.funcs[f]? =some fn)(hb:fn.body.isSome=true)(Ol:(fn.name== "runtime.NumGoroutine")=false)(Ty:TP h')(KC:ext=true -> h= []) 
 (H: ∀ (B:Nat) (N:BQ P Γ h.length),Bg P Γ Fence.wide (some B) h.length N (DS P fn h.length d h') (start fn) ⟨ds++List.replicate (fn.ntmps-ds.length) .any,h⟩):ES P Γ f ds h d h' ext:=by
 cases hc:fn.body with
 | none=>rw [hc] at hb;cases hb
 | some c=>
  refine ES.of_tr hf hc (by simpa using Ol) Ty (fun B N=>?_) KC;have:=H B N;unfold start at this;rw [hc] at this;refine Tr.mono this fun e S Y hq=>?_
  cases e <;> exact hq
def E8:DV -> Bool
 | .mse .. =>false
 | .mri .. =>false
 | .ref .. =>false
 | .msl .. =>false
 | .mp .. =>false
 | .it _=>false
 | .agg m f=>(List.range m).all fun j=>E8 (f j)
 | .tup m f=>(List.range m).all fun j=>E8 (f j)
 | .fn _ m f=>(List.range m).all fun j=>E8 (f j)
 | _=>true
theorem K2: ∀ {d:DV},E8 d=true -> If d:=by
 intro d
 induction d with
 | any=>exact fun _ _ _ _ _ _=>trivial
 | nils=>exact fun _ _ _ _ _ h=>h
 | int k n=>exact fun _ _ _ _ _ h=>h
 | bool b=>exact fun _ _ _ _ _ h=>h
 | str s=>exact fun _ _ _ _ _ h=>h
 | ints l=>exact fun _ _ _ _ _ h=>h
 | bools l=>exact fun _ _ _ _ _ h=>h
 | sl m n f _=>exact fun _ _ _ _ _ h=>h
 | fp m f _=>exact fun _ _ _ _ _ h=>h
 | agg m f ih=>exact fun hb=>If.agg fun j hj=>ih j (zAg.1 hb j (zAn.2 hj))
 | tup m f ih=>exact fun hb=>If.tup fun j hj=>ih j (zAg.1 hb j (zAn.2 hj))
 | ref k j=>exact fun hb=>by cases hb
 | msl k m o n=>exact fun hb=>by cases hb
 | mp k m i j=>exact fun hb=>by cases hb
 | fn g m c ih=>exact fun hb M w ρ v ⟨cs,e,hs,hc⟩=>⟨cs,e,hs,fun j hj=>let ⟨u,h1,h2⟩:=hc j hj;⟨u,h1,ih j (zAg.1 hb j (zAn.2 hj)) M w ρ u h2⟩⟩
 | it k=>exact fun hb=>by cases hb
 | yl l=>exact fun _ _ _ _ _ h=>h
 | cst u=>exact fun _ _ _ _ _ h=>h
 | mse k m o n=>exact fun hb=>by cases hb
 | mri k i=>exact fun hb=>by cases hb
theorem ES.frameB {f:Nat}{ds:List DV}{d:DV}(h0:ES P Γ f ds [] d [] true)(h:DH)(EL:ds.all E8=true):ES P Γ f ds h d h true:=h0.frame (fun x hx=>K2 (zAg.1 EL x hx)) h
def Vu:DV -> Bool
 | .int .. =>true
 | .bool _=>true
 | .tup m f=>(List.range m).all fun j=>match f j with
  | .int .. =>true
  | .bool _=>true
  | _=>false
 | _=>false
theorem tQ {d:DV}(h:Vu d=true):Hc d:=by
 unfold Vu at h;split at h
 ·exact Hc.int _ _
 ·exact Hc.bool _
 ·rename_i m f;refine Hc.tup fun j hj=>?_
  have:=zAg.1 h j (zAn.2 hj);split at this
  ·rename_i e;rw [e];exact Hc.int _ _
  ·rename_i e;rw [e];exact Hc.bool _
  ·cases this
 ·cases h
def NG (h:DH):List DV -> List DV -> Prop
 | [],[]=>True
 | d::ds,d0::D9=>Ae h d d0/\ NG h ds D9
 | _,_=>False
theorem RO {h:DH}: ∀ {ds D9:List DV},NG h ds D9 -> D9.length=ds.length/\ ∀ i,i<ds.length -> Ae h (ds.getD i .any) (D9.getD i .any)
 | [],[],_=>⟨rfl,fun i hi=>absurd hi (zAv i)⟩
 | d::ds,d0::D9,⟨h1,h2⟩=>by
  obtain ⟨e,g⟩:=RO h2;refine ⟨by simp [e],fun i hi=>?_⟩;cases i with
  | zero=>exact h1
  | succ i=>exact g i (by simpa using hi)
 | [],_::_,h=>h.elim
 | _::_,[],h=>h.elim
theorem Ae.plain {h:DH}{d:DV}(hn:E8 d=true):Ae h d d:=Ae.nref (K2 hn)
theorem Ae.nils {h:DH}:Ae h .nils (.ints []):=fun _ _ _ _ _ _ _ hr=>AS.ints_nil _ _ _ _ (AK.out _ (DJ (M:=fun _=>False) (fun _ hb=>hb) []) hr)
theorem ES.snapB {f:Nat}{ds D9:List DV}{d:DV}(h0:ES P Γ f D9 [] d [] true)(h:DH)(hs:NG h ds D9)(hd:Vu d=true):ES P Γ f ds h d h true:=ES.snap h0 h (RO hs).1 (RO hs).2 (tQ hd)
theorem AS.of_eq {d d':DV}(h:d=d'):AS d d':=by rw [h];exact AS.refl _
theorem K8 {M:Nat -> Prop}{w:World}{ρ:List AH}{v:Value}{l:List Int}(h:AK M w (.ints l) ρ v):l.length<=LB:=let ⟨_,_,_,_,h,_⟩:=h;h
theorem qn {x c:Int}(h1:x=c)(h2: -9223372036854775808<=c)(h3:c<=9223372036854775807):IntKind.i64.wrap x=c:=by
 subst h1;rw [zHl];omega
end
def NJ (w:World):Prop:=TabAt 1 Lib.deBruijn64tab w
def GG:At where
 ng:=2
 gi:=fun w=>NJ w/\ 2<=w.heap.size
 st:=fun w w' h hu=>⟨fun j hj=>hu.cell (by show ¬ (2<=1);omega) (h.1 j hj),zA0 h.2 hu.size⟩
 lo:=fun w h=>h.2
abbrev zGp:=@List.all_cons
theorem B0 {α:Type}{c:Prop} [Decidable c] {a:Option α} {r:α} (h:(if c then a else none)=some r):c/\ a=some r:=by
 split at h
 ·exact ⟨by assumption,h⟩
 ·cases h
theorem Fm {α β:Type}{o:Option β}{f:β -> Option α}{r:α}(h:o.bind f=some r): ∃ v,o=some v/\ f v=some r:=by
 cases o with
 | none=>cases h
 | some v=>exact ⟨v,rfl,h⟩
theorem By {α:Type}{b:Bool}{x y:Option α}{r:α}(h:(bif b then x else y)=some r):(b=true/\ x=some r)∨(b=false/\ y=some r):=by
 cases b
 ·exact .inr ⟨rfl,h⟩
 ·exact .inl ⟨rfl,h⟩
def wY:Int -> Bool
 | .ofNat n=>Nat.ble n 9223372036854775807
 | .negSucc n=>Nat.ble n 9223372036854775807
def AJ (x:Int):Prop:=wY x=true
instance (x:Int):Decidable (AJ x):=by unfold AJ;infer_instance
theorem Av {x:Int}:AJ x↔-9223372036854775808<=x/\ x<=9223372036854775807:=by
 unfold AJ;cases x with
 | ofNat n=>
  show Nat.ble n 9223372036854775807=true↔_
  rw [Nat.ble_eq];simp only [Int.ofNat_eq_natCast];omega
 | negSucc n=>
  show Nat.ble n 9223372036854775807=true↔_
  rw [Nat.ble_eq];omega
theorem qo {x:Int}(h:AJ x):AS (.int .i64 (IntKind.i64.wrap x)) (.int .i64 x):=AS.int (qn rfl (Av.1 h).1 (Av.1 h).2)
def comp (live σ:List Nat)(S:St):St:=FL σ ⟨forget live S.fr,S.h⟩
def Jb (σ:List Nat)(L n:Nat):Bool:=decide σ.Nodup&&σ.all (fun k=>decide (k<n))&&(List.range L).all fun k=>decide (σ[k]? =some k)
theorem A0.comp {L:Nat}(live σ:List Nat)(S:St)(h:Jb σ L S.h.length=true):A0 L S (comp live σ S):=by
 simp only [Jb,zAW,zCQ,zAg,zAn] at h;exact (A0.forget live S.fr S.h).trans (A0.compact σ _ h.1.1 (fun k hk=>h.1.2 k hk) (fun k hk=>h.2 k hk))
def TE (live σ:List Nat)(L:Nat)(r:KO×St×List Prop×BE):KO×List DV×DH×List Prop×List (DV×DH×Bool)×List (Nat×DV)×Bool:=(r.1,(Proofs.YtkjbblkieglmlaaGreatDoor.comp live σ r.2.1).fr,(Proofs.YtkjbblkieglmlaaGreatDoor.comp live σ r.2.1).h,r.2.2.1,r.2.2.2.calls,r.2.2.2.co,Jb σ L r.2.1.h.length)
section
variable {P:Program} {Γ:At} {F:Fence} {B:Option Nat} {L:Nat} {Y N:BQ P Γ L} {Q:QY P Γ L}
theorem xR {A6:Bh}{n:Nat}{k:List KI}{S:St}{o:BE}{live σ:List Nat}{r:KO}{fr:List DV}{h':DH}{vs:List Prop}(h:(CG P Γ A6 n k S o).map (TE live σ L)=some (r,fr,h',vs,[],[],true)):
 ∃ S' o',CG P Γ A6 n k S o=some (r,S',vs,o')/\ A0 L S' ⟨fr,h'⟩:=by
 cases hr:CG P Γ A6 n k S o with
 | none=>rw [hr] at h;cases h
 | some r=>
  obtain ⟨r1,S1,CQ,⟨c1,o1,z1,g1⟩⟩:=r;rw [hr] at h;simp only [zCO,TE,zCR,zCp] at h;obtain ⟨rfl,rfl,rfl,rfl,rfl,rfl,hs⟩:=h;exact ⟨S1,_,rfl,A0.comp live σ S1 hs⟩
def IM:List KI -> Bool
 | .code _::_=>true
 | .loopN _ _::_=>true
 | _=>false
theorem Kc.weaken {b:Code}{m:Nat}{S S':St}(hS:A0 L S S')(h:Kc P Γ F B L b Q m S' Y):Kc P Γ F B L b Q m S Y:=by
 cases m with
 | zero=>exact h.elim
 | succ m=>exact Tr.weaken hS h
theorem Bg.le {k:List KI}{S S':St}(hS:A0 L S S')(hc:IM k=true)(h:Ap P Γ F B L Y Q k S'):Ap P Γ F B L Y Q k S:=by
 unfold IM at hc;split at hc
 ·exact Ap.weaken hS h ⟨_,_,rfl⟩
 ·exact Kc.weaken hS h
 ·cases hc
theorem A0.frzE {S:St}(k:Nat)(S':St)(vs:List Prop)(h:US k S=some (S',vs))(hv:BZ vs):A0 L S S':=fun P Γ N ρ a w R=>
 ⟨ρ,(EB.frzE k S' vs h hv P Γ N ρ a w R).1,(EB.frzE k S' vs h hv P Γ N ρ a w R).2,CI.refl _ _⟩
theorem A0.compE {S:St}(σ:List Nat)(h:Jb σ L S.h.length=true):A0 L S (FL σ S):=by
 simp only [Jb,zAW,zCQ,zAg,zAn] at h;exact A0.compact σ _ h.1.1 (fun k hk=>h.1.2 k hk) (fun k hk=>h.2 k hk)
def Wp:Option DO -> Bool
 | some (.iter _)=>false
 | _=>true
theorem OI {h:DH}(hb:h.all Wp=true):TP h:=fun k encs hk=>by
 have:=zAg.1 hb _ (zCi hk);cases this
theorem Ae.refL {h:DH}{k:Nat}{l l0:List DV}(hk:h[k]? =some (some (.cells l)))(hs:NG h l l0):Ae h (.ref k 0) (.fp l.length (fun j=>l0.getD j .any)):=
 Ae.ref hk (zA5 _) fun j hj=>(RO hs).2 j hj
theorem Ae.fnL {h:DH}{g:Nat}{l l0:List DV}(hs:NG h l l0):Ae h (.fn g l.length (fun j=>l.getD j .any)) (.fn g l.length (fun j=>l0.getD j .any)):=by
 rintro P Γ N ρ w v H ⟨lb,e,hl,hc⟩;exact ⟨lb,e,hl,fun j hj=>let ⟨u,h1,h2⟩:=hc j hj;⟨u,h1,(RO hs).2 j hj P Γ N ρ w u H h2⟩⟩
theorem AS.ixI (l:List Int){n:Int}{m:Nat}(hm:m=l.length)(h:(0:Int)<=n/\ n<((m:Nat):Int)):AS ((l.map (DV.int .i64)).getD n.toNat .any) (.int .i64 (l.getD n.toNat 0)):=by
 subst hm;have hl:n.toNat<l.length:=by omega
 have:(l.map (DV.int .i64)).getD n.toNat .any= .int .i64 (l.getD n.toNat 0):=by simp [hl]
 rw [this];exact AS.refl _
theorem AS.mslN {k m o n n':Nat}(h:n=n'):AS (.msl k m o n) (.msl k m o n'):=by rw [h];exact AS.refl _
def vX:DO -> Bool
 | .ints _=>true
 | .bools _=>true
 | _=>false
theorem ES.snapNew {f:Nat}{ds D9:List DV}{m n:Nat}{o:DO}(h0:ES P Γ f D9 [] (.msl 0 m 0 n) [some o] true)(h:DH)(hs:NG h ds D9)(ho:vX o=true):ES P Γ f ds h (.msl h.length m 0 n) (h++[some o]) true:=by
 obtain ⟨hl,hs⟩:=RO hs;refine ⟨h0.1,fun N ρ w args HR Cn=>?_⟩;refine (h0.2 (fun _=>False) [] w args (Qa (fun b hb=>hb.elim) HR.gi) ⟨by rw [hl];exact Cn.1,fun i hi=>?_⟩).mono ?_
 ·rw [hl] at hi;exact AK.out _ (DJ (fun b hb=>PU.1 hb) []) (hs i hi P Γ N ρ w _ HR (Cn.2 i hi))
 ·rintro e w' ⟨v,rfl,⟨⟨ρ',g1,g2,g3,g4⟩,g5⟩⟩;have hE:=g5 rfl;obtain ⟨p,hp,DL⟩:=g1.obj 0 o rfl;have hf: ∀ b,p.foot b -> w.heap.size<=b:=fun b hb=>(g3.grow b ⟨0,o,p,rfl,hp,hb⟩).resolve_left fun ⟨k,o',p',q1,_⟩=>by simp at q1
  obtain ⟨p',cap,BC,e1,e2,e3,e4⟩:=g2;have ep:p'=p:=zAe (BC.symm.trans hp);subst ep;refine ⟨v,rfl,⟨⟨ρ++[p'],HR.snoc hE (fun b hb=>⟨hf b hb,(g1.cel 0 o p' b rfl hp hb).2.2⟩) ?_,⟨p',cap,by rw [←HR.len];simp,e1,e2,e3,e4⟩,A5.snoc HR hE hf,fun _ _ h=>Eh h⟩,g5⟩⟩;cases o with
  | ints l=>exact AY.out DL rfl fun j u _ hu=>hu
  | bools l=>exact AY.out DL rfl fun j u _ hu=>hu
  | cells l=>cases ho
  | arr m n f=>cases ho
  | iter encs=>cases ho
  | mo x=>cases ho
  | ro l=>cases ho
theorem fF {h:DH}: ∀ {ds:List DV},ds.all E8=true -> NG h ds ds
 | [],_=>trivial
 | d::ds,hd=>by
  simp only [zGp,zAW] at hd;exact ⟨Ae.plain hd.1,fF hd.2⟩
theorem AS.aggL {m:Nat}{l l':List DV}(hm:m=l.length)(h:NH l l'):AS (.agg m (fun j=>l.getD j .any)) (.agg m (fun j=>l'.getD j .any)):=by
 subst hm;rintro M w ρ v ⟨cs,e,hs,hc⟩;exact ⟨cs,e,hs,fun j hj=>let ⟨u,h1,h2⟩:=hc j hj;⟨u,h1,(U8 h).2 j hj M w ρ u h2⟩⟩
theorem AS.tupL {m:Nat}{l l':List DV}(hm:m=l.length)(h:NH l l'):AS (.tup m (fun j=>l.getD j .any)) (.tup m (fun j=>l'.getD j .any)):=by
 subst hm;rintro M w ρ v ⟨cs,e,hs,hc⟩;exact ⟨cs,e,hs,fun j hj=>let ⟨u,h1,h2⟩:=hc j hj;⟨u,h1,(U8 h).2 j hj M w ρ u h2⟩⟩
theorem Ae.dle {h:DH}{d d0:DV}(hn:E8 d=true)(hd:AS d d0):Ae h d d0:=fun P Γ N ρ w v H hr=>hd _ _ _ _ ((Ae.nref (K2 hn)) P Γ N ρ w v H hr)
theorem ES.argsLe {f:Nat}{ds D9:List DV}{h h':DH}{d:DV}{ext:Bool}(h0:ES P Γ f D9 h d h' ext)(hd:NH ds D9):ES P Γ f ds h d h' ext:=by
 obtain ⟨hl,hd⟩:=U8 hd;exact ⟨h0.1,fun N ρ w args HR Cn=>h0.2 N ρ w args HR ⟨by rw [←hl];exact Cn.1,fun i hi=>hd i (by omega) _ _ _ _ (Cn.2 i (by omega))⟩⟩
theorem AS.mse_msl {k m o n n':Nat}(h:0<n)(e:n=n'):AS (.mse k m o n) (.msl k m o n'):=by
 subst e;rintro M w ρ v ⟨p,a,cap,hp,rfl,h1,h2,h3⟩;obtain ⟨rfl,h4⟩:=h3 (by omega);exact ⟨p,cap,hp,rfl,h1,h2,h4⟩
theorem AS.mse_nil {k m o n:Nat}(h:n=0):AS (.mse k m o n) (.ints []):=by
 subst h;rintro M w ρ v ⟨p,a,cap,hp,rfl,h1,h2,h3⟩;exact ⟨a,cap,rfl,zDJ _,zDJ _,fun j hj=>absurd hj (zAv j)⟩
theorem wq {n:Nat}(h:(n==0)=false):0<n:=by
 have:n≠0:=by simpa using h
 omega
def MA (k off k':Nat):DV -> DV
 | .msl k1 m o n=>if k1=k/\ m=1/\ o=off then .msl k' 1 0 n else .msl k1 m o n
 | d=>d
def je (k off:Nat)(S:St):Option (St×List Prop):=match S.h.getD k none with
 | some (.ints l)=>some (⟨S.fr.map (MA k off S.h.length),S.h.set k none++[some (.ints (l.drop off))]⟩,[off<=l.length])
 | _=>none
theorem A0.rootE {S:St}(k off:Nat)(S':St)(vs:List Prop)(h:je k off S=some (S',vs))(hv:BZ vs):A0 L S S':=fun P Γ N ρ a w R=>by
 unfold je at h;split at h
 ·rename_i l hl;cases h;have hv:=hv.1;have hk:=getD_some hl;obtain ⟨p,hp,hr⟩:=R.hr.obj k _ hk;have hr:AY w p l.length _:=hr;obtain ⟨hf,cs,t,c1,c2,c3,c4⟩:=hr
  let p':AH:={ p with off:=p.off+off }
  obtain ⟨g1,g2⟩:=R.hr.regrow (o':=.ints (l.drop off)) (p':=p') hk hp (AO.refl _ _) (fun b hb=>⟨.inl hb,(R.hr.cel k _ p b hk hp hb).2.2⟩) (by
   refine ⟨hf,cs,t,c1,?_,c3,fun j hj=>?_⟩
   ·simp only [zHk,p'];omega
   ·rw [zHk] at hj;obtain ⟨u,q1,q2⟩:=c4 (off+j) (by omega);refine ⟨u,by rw [←q1];simp only [p',zCg],?_⟩;rw [q2];simp [u8,zGT])
  have O:BS (MS N S.h ρ) w ρ (MS N (S.h.set k none++[some (.ints (l.drop off))]) (ρ++[p'])) w (ρ++[p']):=⟨fun _ _ _ _=>rfl,fun b hb=>hb.elim (fun h=>.inl (.inl h)) fun h=>(g2.grow b h).imp .inr id,fun _ _ h=>Eh h⟩;refine ⟨ρ++[p'],⟨g1,by simp [R.fr.1],fun i hi=>?_⟩,g2,fun _ _ _ h=>Eh h⟩;have BT:i<S.fr.length:=by simpa using hi
  have e:(S.fr.map (MA k off S.h.length)).getD i .any=MA k off S.h.length (S.fr.getD i .any):=by simp [BT]
  show AK _ w ((S.fr.map (MA k off S.h.length)).getD i .any) _ _
  rw [e];have r0:=R.fr.2 i BT;cases hd:S.fr.getD i .any with
  | msl k1 m o n=>
   rw [hd] at r0
   by_cases hc:k1=k/\ m=1/\ o=off
   ·have e2:MA k off S.h.length (.msl k1 m o n)= .msl S.h.length 1 0 n:=by simp only [MA,zAM hc]
    rw [e2];obtain ⟨h1,h2,h3⟩:=hc;rw [h1,h2,h3] at r0;obtain ⟨q,cap,hq,hu,u1,u2,u3⟩:=r0;have eq:q=p:=zAe (hq.symm.trans hp);subst eq;exact ⟨p',cap,by rw [←R.hr.len];simp,by rw [hu];simp [p'],u1,u2,by simp only [p'];omega⟩
   ·have e2:MA k off S.h.length (.msl k1 m o n)= .msl k1 m o n:=by simp only [MA,zAh hc]
    rw [e2];exact AK.out _ O r0
  | _=>rw [hd] at r0;exact AK.out _ O r0
 ·cases h
end
abbrev zCT:=@Nat.le_of_ble_eq_true
def FT (σ:List Nat)(b k:Nat):Nat:=if k<σ.length then σ.getD k 0 else b+(k-σ.length)
def up (σ:List Nat)(b:Nat):DV -> DV
 | .ref k j=>.ref (FT σ b k) j
 | .msl k m o n=>.msl (FT σ b k) m o n
 | .mse k m o n=>.mse (FT σ b k) m o n
 | .mri k i=>.mri (FT σ b k) i
 | .mp k m i j=>.mp (FT σ b k) m i j
 | .it k=>.it (FT σ b k)
 | .agg m f=>.agg m (Gc m fun j=>up σ b (f j))
 | .tup m f=>.tup m (Gc m fun j=>up σ b (f j))
 | .fn g m c=>.fn g m (Gc m fun j=>up σ b (c j))
 | d=>d
def Ep (σ:List Nat)(b:Nat):Option DO -> Option DO
 | some (.cells l)=>some (.cells (l.map (up σ b)))
 | some (.ro l)=>some (.ro (l.map (up σ b)))
 | o=>o
def FJ (H:DH)(σ:List Nat)(h':DH):DH:=((List.range H.length).map fun k=>match EF σ k with
 | some i=>Ep σ H.length (h'.getD i none)
 | none=>H.getD k none)++(h'.drop σ.length).map (Ep σ H.length)
theorem aA {σ:List Nat}(hn:σ.Nodup){i k:Nat}(h:σ[i]? =some k):EF σ k=some i:=by
 induction σ generalizing i with
 | nil=>simp at h
 | cons x σ ih=>
  unfold EF;cases i with
  | zero=>
   have:x=k:=by simpa using h
   rw [zAM this]
  | succ i=>
   have h':σ[i]? =some k:=by simpa using h
   have Ad:x≠k:=by
    rintro rfl;exact (zHO.1 hn).1 (zCi h')
   rw [zAh Ad,ih (zHO.1 hn).2 h'];rfl
theorem ZK {σ:List Nat}{b:Nat}{x:Option DO}{o:DO}(h:Ep σ b x=some o): ∃ o0,x=some o0:=by
 cases x with
 | none=>cases h
 | some o0=>exact ⟨o0,rfl⟩
section
variable {P:Program} {Γ:At}
theorem ZJ {M M':Nat -> Prop}{w:World}{σ:List Nat}{b:Nat}{ρ ρ':List AH}(hM: ∀ b,M' b -> M b)(hρ: ∀ (k:Nat) (p:AH),ρ[k]? =some p -> ρ'[FT σ b k]? =some p): ∀ (d:DV) {v:Value},AK M w d ρ v -> AK M' w (up σ b d) ρ' v:=by
 have low: ∀ (d:DV) {v:Value},AK M w d [] v -> AK M' w d [] v:=fun d v h=>h.out d (DJ hM [])
 intro d
 induction d with
 | any=>intro v _;trivial
 | nils=>intro v h;exact h
 | int k n=>intro v h;exact h
 | bool b=>intro v h;exact h
 | str s=>intro v h;exact h
 | ints l=>intro v h;exact low (.ints l) h
 | bools l=>intro v h;exact low (.bools l) h
 | sl m n f _=>intro v h;exact low (.sl m n f) h
 | fp m f _=>intro v h;exact low (.fp m f) h
 | agg m f ih=>
  rintro v ⟨cs,e,hs,h⟩;exact ⟨cs,e,hs,fun j hj=>let ⟨u,h1,h2⟩:=h j hj;⟨u,h1,Kj hj (ih j h2)⟩⟩
 | tup m f ih=>
  rintro v ⟨cs,e,hs,h⟩;exact ⟨cs,e,hs,fun j hj=>let ⟨u,h1,h2⟩:=h j hj;⟨u,h1,Kj hj (ih j h2)⟩⟩
 | fn g m c ih=>
  rintro v ⟨cs,e,hs,h⟩;exact ⟨cs,e,hs,fun j hj=>let ⟨u,h1,h2⟩:=h j hj;⟨u,h1,Kj hj (ih j h2)⟩⟩
 | ref k j=>rintro v ⟨p,hp,r⟩;exact ⟨p,hρ k p hp,r⟩
 | msl k m o n=>rintro v ⟨p,cap,hp,r⟩;exact ⟨p,cap,hρ k p hp,r⟩
 | mp k m i j=>rintro v ⟨p,hp,r⟩;exact ⟨p,hρ k p hp,r⟩
 | it k=>rintro v ⟨p,hp,r⟩;exact ⟨p,hρ k p hp,r⟩
 | cst u=>intro v h;exact h
 | yl l=>intro v h;exact h
 | mse k m o n=>rintro v ⟨p,a,cap,hp,r⟩;exact ⟨p,a,cap,hρ k p hp,r⟩
 | mri k i=>rintro v ⟨p,vs,hp,r⟩;exact ⟨p,vs,hρ k p hp,r⟩
theorem dq {M M':Nat -> Prop}{w:World}{σ:List Nat}{b:Nat}{ρ ρ':List AH}(hM: ∀ b,M' b -> M b)(hρ: ∀ (k:Nat) (p:AH),ρ[FT σ b k]? =some p -> ρ'[k]? =some p): ∀ (d:DV) {v:Value},AK M w (up σ b d) ρ v -> AK M' w d ρ' v:=by
 have low: ∀ (d:DV) {v:Value},AK M w d [] v -> AK M' w d [] v:=fun d v h=>h.out d (DJ hM [])
 have ZL: ∀ {m j:Nat} {f:Nat -> DV} {u:Value},j<m -> AK M w (Gc m f j) ρ u -> AK M w (f j) ρ u:=fun hj h=>by rw [VZ hj] at h;exact h
 intro d
 induction d with
 | any=>intro v _;trivial
 | nils=>intro v h;exact h
 | int k n=>intro v h;exact h
 | bool b=>intro v h;exact h
 | str s=>intro v h;exact h
 | ints l=>intro v h;exact low (.ints l) h
 | bools l=>intro v h;exact low (.bools l) h
 | sl m n f _=>intro v h;exact low (.sl m n f) h
 | fp m f _=>intro v h;exact low (.fp m f) h
 | agg m f ih=>
  rintro v ⟨cs,e,hs,h⟩;exact ⟨cs,e,hs,fun j hj=>let ⟨u,h1,h2⟩:=h j hj;⟨u,h1,ih j (ZL hj h2)⟩⟩
 | tup m f ih=>
  rintro v ⟨cs,e,hs,h⟩;exact ⟨cs,e,hs,fun j hj=>let ⟨u,h1,h2⟩:=h j hj;⟨u,h1,ih j (ZL hj h2)⟩⟩
 | fn g m c ih=>
  rintro v ⟨cs,e,hs,h⟩;exact ⟨cs,e,hs,fun j hj=>let ⟨u,h1,h2⟩:=h j hj;⟨u,h1,ih j (ZL hj h2)⟩⟩
 | ref k j=>rintro v ⟨p,hp,r⟩;exact ⟨p,hρ k p hp,r⟩
 | msl k m o n=>rintro v ⟨p,cap,hp,r⟩;exact ⟨p,cap,hρ k p hp,r⟩
 | mp k m i j=>rintro v ⟨p,hp,r⟩;exact ⟨p,hρ k p hp,r⟩
 | it k=>rintro v ⟨p,hp,r⟩;exact ⟨p,hρ k p hp,r⟩
 | cst u=>intro v h;exact h
 | yl l=>intro v h;exact h
 | mse k m o n=>rintro v ⟨p,a,cap,hp,r⟩;exact ⟨p,a,cap,hρ k p hp,r⟩
 | mri k i=>rintro v ⟨p,vs,hp,r⟩;exact ⟨p,vs,hρ k p hp,r⟩
theorem rD {M M':Nat -> Prop}{w:World}{σ:List Nat}{b:Nat}{ρ ρ':List AH}{p:AH}(hM: ∀ b,M' b -> M b)(hρ: ∀ (k:Nat) (p:AH),ρ[k]? =some p -> ρ'[FT σ b k]? =some p){o o':DO}(ho:Ep σ b (some o)=some o')(h:EC P M w ρ p o):EC P M' w ρ' p o':=by
 cases o with
 | cells l=>
  cases ho
  show AY w p (l.map (up σ b)).length _
  rw [zBC];refine AY.out h rfl fun j u hj hu=>?_
  have:(l.map (up σ b)).getD j .any=up σ b (l.getD j .any):=by simp [hj]
  rw [this];exact ZJ hM hρ _ hu
 | ints l=>cases ho;exact AY.out h rfl fun j u _ hu=>hu
 | bools l=>cases ho;exact AY.out h rfl fun j u _ hu=>hu
 | arr m n f=>cases ho;exact AY.out h rfl fun j u _ hu=>AK.out _ (DJ hM []) hu
 | iter encs=>
  cases ho;obtain ⟨gf,lb,Rd,q1,q2,q3,q4⟩:=h;exact ⟨gf,lb,Rd,q1,q2,fun b hb=>⟨fun hm=>(q3 b hb).1 (hM b hm),(q3 b hb).2⟩,q4⟩
 | ro l=>
  cases ho;obtain ⟨r1,r2,r3⟩:=h;refine ⟨r1,fun hm=>r2 (hM _ hm),?_⟩
  show AY w _ (l.map (up σ b)).length _
  rw [zBC];refine AY.out r3 rfl fun j u hj hu=>?_
  have:(l.map (up σ b)).getD j .any=up σ b (l.getD j .any):=by simp [hj]
  rw [this];exact ZJ hM hρ _ hu
 | mo x=>cases ho;exact h
theorem zD9 {M M':Nat -> Prop}{w:World}{σ:List Nat}{b:Nat}{ρ ρ':List AH}{p:AH}(hM: ∀ b,M' b -> M b)(hρ: ∀ (k:Nat) (p:AH),ρ[FT σ b k]? =some p -> ρ'[k]? =some p){o o':DO}(ho:Ep σ b (some o)=some o')(h:EC P M w ρ p o'):EC P M' w ρ' p o:=by
 cases o with
 | cells l=>
  cases ho;have h:AY w p (l.map (up σ b)).length _:=h;rw [zBC] at h;refine AY.out h rfl fun j u hj hu=>?_
  have:(l.map (up σ b)).getD j .any=up σ b (l.getD j .any):=by simp [hj]
  rw [this] at hu;exact dq hM hρ _ hu
 | ints l=>cases ho;exact AY.out h rfl fun j u _ hu=>hu
 | bools l=>cases ho;exact AY.out h rfl fun j u _ hu=>hu
 | arr m n f=>cases ho;exact AY.out h rfl fun j u _ hu=>AK.out _ (DJ hM []) hu
 | iter encs=>
  cases ho;obtain ⟨gf,lb,Rd,q1,q2,q3,q4⟩:=h;exact ⟨gf,lb,Rd,q1,q2,fun b hb=>⟨fun hm=>(q3 b hb).1 (hM b hm),(q3 b hb).2⟩,q4⟩
 | ro l=>
  cases ho;obtain ⟨r1,r2,r3⟩:=h;refine ⟨r1,fun hm=>r2 (hM _ hm),?_⟩;have h:AY w _ (l.map (up σ b)).length _:=r3;rw [zBC] at h;refine AY.out h rfl fun j u hj hu=>?_
  have:(l.map (up σ b)).getD j .any=up σ b (l.getD j .any):=by simp [hj]
  rw [this] at hu;exact dq hM hρ _ hu
 | mo x=>cases ho;exact h
theorem ES.embedX {f:Nat}{ds:List DV}{h:DH}{d:DV}{h':DH}{ext:Bool}(FG:ES P Γ f ds h d h' ext)(σ:List Nat)(H:DH)(hn:σ.Nodup)(AM: ∀ k∈σ,k<H.length)(hl:σ.length=h.length)(Eg:h.length<=h'.length) 
 (hh:(σ.map fun k=>H.getD k none)=h.map (Ep σ H.length)):(∃ fn,P.funcs[f]? =some fn/\ fn.name≠ "runtime.NumGoroutine" /\ fn.body.isSome=true)/\
 ∀ (N:Nat -> Prop) (ρ:List AH) (w:World) (args:Array Value),A1 P Γ N H ρ w -> A9 (MS N H ρ) w ρ (ds.map (up σ H.length)) args ->
  Calls P f args w fun e w'=>∃ v,e= .returned v/\ Ci P Γ N H ρ w ext (up σ H.length d) (FJ H σ h') v w'/\ AO (fun b=>∃ i o p,i∈σ/\ H[i]? =some (some o)/\ ρ[i]? =some p/\ p.foot b) w w':=by
 refine ⟨FG.1,fun N ρ w args HR Cn=>?_⟩;obtain ⟨ρ0,mZ⟩: ∃ ρ0,ρ0=σ.map fun k=>ρ.getD k lI:=⟨_,rfl⟩
 have li:ρ0.length=σ.length:=by rw [mZ];simp
 have Ka: ∀ {i k:Nat},σ[i]? =some k -> ρ0[i]? =ρ[k]? :=fun {i k} hk=>by
  have Ct:k<ρ.length:=by rw [HR.len];exact AM k (zCi hk)
  rw [mZ,zCG,hk];simp [Ct]
 have Vp: ∀ {i:Nat},i<σ.length -> ∃ k,σ[i]? =some k/\ FT σ H.length i=k:=fun {i} hi=>by
  refine ⟨σ[i],by simp [hi],?_⟩;unfold FT;rw [zAM hi];simp [hi]
 have OE: ∀ {i:Nat} {o:DO},h[i]? =some (some o) -> ∃ k o',σ[i]? =some k/\ H[k]? =some (some o')/\ Ep σ H.length (some o)=some o':=fun {i o} hi=>by
  have Ew:i<σ.length:=by rw [hl];exact (zAf.1 hi).1
  obtain ⟨k,hk,_⟩:=Vp Ew;have e:=congrArg (·[i]?) hh;simp only [zCG,hk,hi,zCO] at e;have CX:=AM k (zCi hk);have e:H.getD k none=Ep σ H.length (some o):=zAe e;have e2: ∃ o',Ep σ H.length (some o)=some o':=by cases o <;> exact ⟨_,rfl⟩
  obtain ⟨o',J5⟩:=e2;refine ⟨k,o',hk,?_,J5⟩;rw [J5] at e;rw [zAa CX];rw [u8,zAa CX] at e;exact congrArg some e
 have xX: ∀ {i k:Nat} {o':DO},σ[i]? =some k -> H[k]? =some (some o') -> ∃ o,h[i]? =some (some o)/\ Ep σ H.length (some o)=some o':=fun {i k o'} hk ho=>by
  have Ew:i<h.length:=by rw [←hl];exact (zAf.1 hk).1
  have e:=congrArg (·[i]?) hh;simp only [zCG,hk,zAa Ew,zCO] at e;have e:H.getD k none=Ep σ H.length h[i]:=zAe e;rw [oB ho] at e;obtain ⟨o0,e0⟩:=ZK e.symm;exact ⟨o0,by rw [zAa Ew,e0],by rw [e0] at e;exact e.symm⟩
 obtain ⟨N0,I9⟩: ∃ N0:Nat -> Prop,N0=fun b=>N b∨∃ k o p,EF σ k=none/\ H[k]? =some (some o)/\ ρ[k]? =some p/\ p.foot b:=⟨_,rfl⟩
 have TR: ∀ b,MO h ρ0 b -> MO H ρ b:=by
  rintro b ⟨i,o,p,g1,g2,g3⟩;obtain ⟨k,o',e1,e2,_⟩:=OE g1;exact ⟨k,o',p,e2,(Ka e1).symm.trans g2,g3⟩
 have bA: ∀ b,MS N0 h ρ0 b -> MS N H ρ b:=by
  rintro b (hb | hb)
  ·rw [I9] at hb;rcases hb with hb | ⟨k,o,p,_,g1,g2,g3⟩
   ·exact .inl hb
   ·exact .inr ⟨k,o,p,g1,g2,g3⟩
  ·exact .inr (TR b hb)
 have ms1: ∀ b,MS N H ρ b -> MS N0 h ρ0 b:=by
  rintro b (hb | ⟨k,o,p,g1,g2,g3⟩)
  ·exact .inl (by rw [I9];exact .inl hb)
  ·cases hk:EF σ k with
   | none=>exact .inl (by rw [I9];exact .inr ⟨k,o,p,hk,g1,g2,g3⟩)
   | some i=>
    have hi:=Ku hk;obtain ⟨o0,e1,_⟩:=xX hi g1;exact .inr ⟨i,o0,p,e1,(Ka hi).trans g2,g3⟩
 have dn: ∀ (k:Nat) (p:AH),ρ[FT σ H.length k]? =some p -> ρ0[k]? =some p:=fun k p hp=>by
  by_cases hk:k<σ.length
  ·obtain ⟨k',e1,e2⟩:=Vp hk;rw [e2] at hp;exact (Ka e1).trans hp
  ·unfold FT at hp;rw [zAh hk] at hp;have:=(zAf.1 hp).1;rw [HR.len] at this;omega
 have foreign: ∀ {b:Nat},N0 b -> ¬ MO h ρ0 b:=by
  rintro b hb ⟨i,o,p,g1,g2,g3⟩;obtain ⟨k,o',e1,e2,_⟩:=OE g1;have hp:=(Ka e1).symm.trans g2;rw [I9] at hb;rcases hb with hb | ⟨k',o2,p2,q1,q2,q3,q4⟩
  ·exact (HR.cel k o' p b e2 hp g3).2.1 hb
  ·refine HR.dis k k' o' o2 p p2 b ?_ e2 q2 hp q3 g3 q4;rintro rfl;rw [aA hn e1] at q1;cases q1
 have H0:A1 P Γ N0 h ρ0 w:=by
  refine ⟨by rw [li,hl],fun i o hi=>?_,fun i o p b g1 g2 g3=>?_,fun i i' o1 o2 p1 p2 b Ad g1 g2 g3 g4 g5 g6=>?_,fun b hb=>HR.lt2 (bA b (.inl hb)),HR.gi⟩
  ·obtain ⟨k,o',e1,e2,e3⟩:=OE hi;obtain ⟨p,hp,hr⟩:=HR.obj k o' e2;exact ⟨p,(Ka e1).trans hp,zD9 bA dn e3 hr⟩
  ·obtain ⟨k,o',e1,e2,e3⟩:=OE g1;obtain ⟨q1,q2,q3⟩:=HR.cel k o' p b e2 ((Ka e1).symm.trans g2) g3;exact ⟨q1,fun hb=>foreign hb ⟨i,o,p,g1,g2,g3⟩,q3⟩
  ·obtain ⟨k,o',e1,e2,e3⟩:=OE g1;obtain ⟨k',xa,dl,dk,e3'⟩:=OE g2;refine HR.dis k k' o' xa p1 p2 b ?_ e2 dk ((Ka e1).symm.trans g3) ((Ka dl).symm.trans g4) g5 g6;rintro rfl;have a1:=aA hn e1;have a2:=aA hn dl;exact Ad (zAe (a1.symm.trans a2))
 refine (FG.2 N0 ρ0 w args H0 ⟨by rw [←Cn.1];simp,fun i hi=>?_⟩).mono ?_
 ·have:=Cn.2 i (by simpa using hi);have e:(ds.map (up σ H.length)).getD i .any=up σ H.length (ds.getD i .any):=by simp [hi]
  rw [e] at this;exact dq bA dn _ this
 ·rintro e w' ⟨v,rfl,⟨⟨ρ1,g1,g2,g3,g4⟩,g5⟩⟩;have l1:ρ1.length=h'.length:=g1.len;obtain ⟨ρ',LD⟩: ∃ ρ',ρ'=ρ++ρ1.drop σ.length:=⟨_,rfl⟩
  have qM: ∀ {i k:Nat},σ[i]? =some k -> ρ1[i]? =ρ[k]? :=fun {i k} hk=>by
   have Ew:i<ρ0.length:=by rw [li];exact (zAf.1 hk).1
   have:=g4 i ρ0[i] (by simp [Ew]);rw [this,←Ka hk];simp [Ew]
  have HB: ∀ {k:Nat},k<H.length -> ρ'[k]? =ρ[k]? :=fun {k} hk=>by rw [LD,zAk (by rw [HR.len];exact hk)]
  have fy: ∀ (k:Nat) (p:AH),ρ1[k]? =some p -> ρ'[FT σ H.length k]? =some p:=fun k p hp=>by
   by_cases hk:k<σ.length
   ·obtain ⟨k',e1,e2⟩:=Vp hk;rw [e2,HB (AM k' (zCi e1)),←qM e1];exact hp
   ·unfold FT;rw [zAh hk,LD,zAp (by rw [HR.len];omega),zGT,HR.len];rw [show σ.length+(H.length+(k-σ.length)-H.length)=k by omega];exact hp
  have yo:(FJ H σ h').length=H.length+(h'.length-σ.length):=by simp [FJ]
  have Nf: ∀ {k:Nat} {o':DO},(FJ H σ h')[k]? =some (some o') -> (k<H.length/\ EF σ k=none/\ H[k]? =some (some o')/\ ρ'[k]? =ρ[k]?)∨∃ i o,h'[i]? =some (some o)/\ Ep σ H.length (some o)=some o'/\ ρ'[k]? =ρ1[i]? /\ k=FT σ H.length i:=by
   intro k o' hk
   by_cases CX:k<H.length
   ·unfold FJ at hk;rw [zAk (by simpa using CX),zCG,zHI CX] at hk;simp only [zCO,zCR] at hk;split at hk
    ·rename_i i hi;have Xj:=Ku hi;obtain ⟨o0,e0⟩:=ZK hk;have Ew:i<h'.length:=zAj (by rw [←hl];exact (zAf.1 Xj).1) Eg;rw [e0] at hk;refine .inr ⟨i,o0,?_,hk,?_,?_⟩
     ·rw [zAa Ew];rw [u8,zAa Ew] at e0;exact congrArg some e0
     ·rw [HB CX,qM Xj]
     ·obtain ⟨k2,e1,e2⟩:=Vp (zAf.1 Xj).1;rw [e2];exact zAe (Xj.symm.trans e1)
    ·rename_i hi;refine .inl ⟨CX,hi,?_,HB CX⟩;rw [zAa CX];rw [u8,zAa CX] at hk;exact congrArg some hk
   ·unfold FJ at hk;rw [zAp (by simp;omega),zCG,zGT] at hk;simp only [zBC,zG0] at hk;cases hx:h'[σ.length+(k-H.length)]? with
    | none=>rw [hx] at hk;cases hk
    | some x=>
     rw [hx] at hk;have hk:Ep σ H.length x=some o':=zAe hk;obtain ⟨o0,e0⟩:=ZK hk;subst e0;refine .inr ⟨σ.length+(k-H.length),o0,hx,hk,?_,?_⟩
     ·rw [LD,zAp (by rw [HR.len];omega),zGT,HR.len]
     ·unfold FT;rw [zAh (by omega)];omega
  have back: ∀ {k:Nat} {o:DO},EF σ k=none -> H[k]? =some (some o) -> (FJ H σ h')[k]? =some (some o):=by
   intro k o hk ho;have CX:=(zAf.1 ho).1;unfold FJ;rw [zAk (by simpa using CX),zCG,zHI CX];simp only [zCO,hk,oB ho]
  have lQ: ∀ b,MS N (FJ H σ h') ρ' b -> MS N0 h' ρ1 b:=by
   rintro b (hb | ⟨k,o',p,q1,q2,q3⟩)
   ·exact .inl (by rw [I9];exact .inl hb)
   ·rcases Nf q1 with ⟨a1,a2,a3,a4⟩ | ⟨i,o,a1,a2,a3,a4⟩
    ·exact .inl (by rw [I9];exact .inr ⟨k,o',p,a2,a3,a4.symm.trans q2,q3⟩)
    ·exact .inr ⟨i,o,p,a1,a3.symm.trans q2,q3⟩
  have grow: ∀ b,MO (FJ H σ h') ρ' b -> MO H ρ b∨w.heap.size<=b:=by
   rintro b ⟨k,o',p,q1,q2,q3⟩;rcases Nf q1 with ⟨a1,a2,a3,a4⟩ | ⟨i,o,a1,a2,a3,a4⟩
   ·exact .inl ⟨k,o',p,a3,a4.symm.trans q2,q3⟩
   ·exact (g3.grow b ⟨i,o,p,a1,a3.symm.trans q2,q3⟩).imp (TR b) id
  have pl: ∀ (k:Nat) (p:AH),ρ[k]? =some p -> ρ'[k]? =some p:=fun k p hp=>by
   rw [LD,zAk (zAf.1 hp).1];exact hp
  have O:BS (MS N H ρ) w ρ (MS N (FJ H σ h') ρ') w' ρ':=
   ⟨fun b hb hm _=>g3.upd.block b hb fun hx=>hm (.inr (TR b hx)),fun b hb=>hb.elim (fun hb=>.inl (.inl hb)) (fun hb=>(grow b hb).imp .inr id),pl⟩
  refine ⟨v,rfl,⟨⟨ρ',⟨?_,fun k o' hk=>?_,fun k o' p b q1 q2 q3=>?_,fun k k' o1 o2 p1 p2 b Ad q1 q2 q3 q4 q5 q6=>?_,fun b hb=>⟨zAj (HR.nlt b hb).1 g3.upd.size,(HR.nlt b hb).2⟩,g1.gi⟩,ZJ lQ fy _ g2,⟨g3.upd.mono fun b _ hb=>TR b hb,grow⟩,pl⟩,g5⟩,g3.upd.mono fun b _ ⟨i,o,p,q1,q2,q3⟩=>?_⟩
  ·rw [yo,LD];simp [HR.len,l1]
  ·rcases Nf hk with ⟨a1,a2,a3,a4⟩ | ⟨i,o,a1,a2,a3,a4⟩
   ·obtain ⟨p,hp,hr⟩:=HR.obj k o' a3;refine ⟨p,a4.trans hp,hr.out O g3.upd (fun b hb=>.inr (TR b hb)) fun b _ hf hs=>?_⟩;exact foreign (by rw [I9];exact .inr ⟨k,o',p,a2,a3,hp,hf⟩) hs
   ·obtain ⟨p,hp,hr⟩:=g1.obj i o a1;exact ⟨p,a3.trans hp,rD lQ fy a2 hr⟩
  ·rcases Nf q1 with ⟨a1,a2,a3,a4⟩ | ⟨i,o,a1,a2,a3,a4⟩
   ·have hp:=a4.symm.trans q2;obtain ⟨c1,c2,c,t,z,c3⟩:=HR.cel k o' p b a3 hp q3;refine ⟨c1,c2,c,t,z,(g3.upd.block b (zAZ.1 c3).1 fun hx=>?_).trans c3⟩;exact foreign (by rw [I9];exact .inr ⟨k,o',p,a2,a3,hp,q3⟩) hx
   ·obtain ⟨c1,c2,c3⟩:=g1.cel i o p b a1 (a3.symm.trans q2) q3;exact ⟨c1,fun hb=>c2 (by rw [I9];exact .inl hb),c3⟩
  ·rcases Nf q1 with ⟨a1,a2,a3,a4⟩ | ⟨i,o,a1,a2,a3,a4⟩
   ·rcases Nf q2 with ⟨c1,c2,c3,c4⟩ | ⟨i',o',c1,c2,c3,c4⟩
    ·exact HR.dis k k' o1 o2 p1 p2 b Ad a3 c3 (a4.symm.trans q3) (c4.symm.trans q4) q5 q6
    ·exact (g1.cel i' o' p2 b c1 (c3.symm.trans q4) q6).2.1 (by rw [I9];exact .inr ⟨k,o1,p1,a2,a3,a4.symm.trans q3,q5⟩)
   ·rcases Nf q2 with ⟨c1,c2,c3,c4⟩ | ⟨i',o',c1,c2,c3,c4⟩
    ·exact (g1.cel i o p1 b a1 (a3.symm.trans q3) q5).2.1 (by rw [I9];exact .inr ⟨k',o2,p2,c2,c3,c4.symm.trans q4,q6⟩)
    ·refine g1.dis i i' o o' p1 p2 b ?_ a1 c1 (a3.symm.trans q3) (c3.symm.trans q4) q5 q6;rintro rfl;exact Ad (a4.trans c4.symm)
  ·obtain ⟨k,o',e1,e2,_⟩:=OE q1;exact ⟨k,o',p,zCi e1,e2,(Ka e1).symm.trans q2,q3⟩
theorem ES.embed {f:Nat}{ds:List DV}{h:DH}{d:DV}{h':DH}{ext:Bool}(FG:ES P Γ f ds h d h' ext)(σ:List Nat)(H:DH)(hn:σ.Nodup)(AM: ∀ k∈σ,k<H.length)(hl:σ.length=h.length)(Eg:h.length<=h'.length) 
 (hh:(σ.map fun k=>H.getD k none)=h.map (Ep σ H.length)):ES P Γ f (ds.map (up σ H.length)) H (up σ H.length d) (FJ H σ h') ext:=
 let ⟨h1,h2⟩:=FG.embedX σ H hn AM hl Eg hh
 ⟨h1,fun N ρ w args HR ha=>(h2 N ρ w args HR ha).mono fun _ _ ⟨v,e,g,_⟩=>⟨v,e,g⟩⟩
def M7 (σ:List Nat)(n l l':Nat):Bool:=decide σ.Nodup&&σ.all (fun k=>decide (k<n))&&decide (σ.length=l)&&decide (l<=l')
theorem ES.embedB {f:Nat}{ds:List DV}{h:DH}{d:DV}{h':DH}{ext:Bool}(FG:ES P Γ f ds h d h' ext)(σ:List Nat)(H:DH)(hb:M7 σ H.length h.length h'.length=true)(hh:(σ.map fun k=>H.getD k none)=h.map (Ep σ H.length)) 
 {YO:List DV} {d1:DV} {H1:DH} (e:(ds.map (up σ H.length),up σ H.length d,FJ H σ h')=(YO,d1,H1)):ES P Γ f YO H d1 H1 ext:=by
 simp only [M7,zAW,zCQ,zAg] at hb;cases e;exact FG.embed σ H hb.1.1.1 (fun k hk=>hb.1.1.2 k hk) hb.1.2 hb.2 hh
theorem ES.embedU {f:Nat}{ds:List DV}{h:DH}{d:DV}{h':DH}{ext:Bool}(FG:ES P Γ f ds h d h' ext)(σ:List Nat)(H:DH)(k:Nat)(hb:M7 σ H.length h.length h'.length=true)(hk:σ.all (fun j=>Nat.ble k j)=true)(hh:(σ.map fun k=>H.getD k none)=h.map (Ep σ H.length)):PX P Γ f (ds.map (up σ H.length)) H (up σ H.length d) (FJ H σ h') k:=by
 simp only [M7,zAW,zCQ,zAg] at hb;obtain ⟨h1,h2⟩:=FG.embedX σ H hb.1.1.1 (fun k hk=>hb.1.1.2 k hk) hb.1.2 hb.2 hh;refine ⟨h1,fun N ρ w args HR ha=>(h2 N ρ w args HR ha).mono ?_⟩;rintro e w' ⟨v,e,⟨g1,g2⟩,hu⟩;exact ⟨v,e,⟨g1,fun h=>by cases h⟩,hu.mono fun b _ ⟨i,o,p,q1,q2⟩=>⟨i,o,p,zCT (zAg.1 hk i q1),q2⟩⟩
end
end Go.Proofs.YtkjbblkieglmlaaGreatDoor
