/- Part 2 of 8 of what the proofs of these laws stand on. -/
import Derived.Test.YtnkpdcmbppkkpaaGreatDoorPmA
import Derived.MapKept
import Derived.Test.YtnkpdcmbppkkpaaGreatDoorProg
import Derived.Shelf.Spec.TrailingZeros
set_option linter.all false
open Bool renaming false->D,true->T
open Decidable renaming decide->H
open Go renaming World->κ,Value->μ,Program->ν,TypeId->ψ,execOp->ω
open Go.Fence renaming wide->η
open Inhabited renaming default->ξ
open List renaming length->F,getD->M,replicate->d,range->θ
open Option renaming none->V,some->Z
open _root_ renaming Option->A,ite->C,Int->E,cond->L,List->O,Nat->U,Bool->ζ,absurd->τ,Array->υ
namespace Go.Proofs.YtnkpdcmbppkkpaaGreatDoor
open Go.RowKit
abbrev zMc:=@List.mem_append
abbrev zMv:=@Bool.not_true
abbrev zMx:=@Go.MapKept.run_getObj_map
abbrev zO0:=@Go.heap_alloc_new
abbrev zQF:=@List.not_mem_nil
abbrev zTD:=@Go.MapKept.run_setObj_map
abbrev zTX:=@beq_self_eq_true
abbrev zTe:=@Go.MapKept.run_findKey
abbrev zTy:=@List.Perm.refl
abbrev zTz:=@List.nodup_append
abbrev zT5:=@Array.getElem?_modify
abbrev zUH:=@List.nodup_cons
abbrev zUL:=@List.nodup_nil
section
def Uh(P:ν)(t:ψ):ζ:=match P.underlying t with
 |some (.int .i64)=>T
 |_=>D
theorem zLn{P:ν}{t:ψ}(h:Uh P t=T):P.underlying t=Z (.int .i64):=by
 grind[Uh]
def IT(P:ν)(t:ψ):A U:=match P.underlying t with
 |some (.int .i64)=>Z 1
 |some (.struct z)=>match z.toList with
  |[f,g]=>C (f.name != "_" &&g.name != "_" &&H (f.offset=0)&&H (g.offset=1)&&Uh P f.type&&Uh P g.type&&!P.stoodInHeld t) (Z 2) V
  |_=>V
 |_=>V
section
variable{P:ν}{w:κ}{t:ψ}
variable{n:U}
theorem Ue(h:IT P t=Z n):(n=1/\P.underlying t=Z (.int .i64))∨∃f g z,n=2/\P.underlying t=Z (.struct z)/\z.toList= [f,g]/\f.name≠ "_" /\g.name≠ "_" /\f.offset=0/\g.offset=1/\P.underlying f.type=Z (.int .i64)/\P.underlying g.type=Z (.int .i64)/\P.stoodInHeld t=D:=by
 unfold IT at h;split at h
 ·grind
 ·split at h
  ·grind[Uh]
  ·cases h
 ·cases h
theorem Wx{t:ψ}(h:P.underlying t=Z (.int .i64))(cs:υ μ)(o:U)(v:μ)(hv:cs[o]?=Z v):(part t cs o).run P w=.ok v w:=by
 simp_all[part,Wy,KJ]
variable{x:Ξ}
def fN(h:F x=2):∃a b,x= [a,b]:=by
 match x,h with
 |[a,b],_=>exact⟨a,b,rfl⟩
def Ri(h:F x=1):∃a,x= [a]:=by
 match x,h with
 |[a],_=>exact⟨a,rfl⟩
theorem Ud(hk:IT P t=Z n)(h:F x=n)(e:ζ):(Instr.checkKey e 10000 t<|Bp x).run P w=.ok () w:=by
 rcases Ue hk with⟨rfl,c⟩|⟨f,g,fs,rfl,c,i,n1,n2,o1,o2,G,q,_⟩
 ·obtain⟨a,rfl⟩:=Ri h;exact MapKept.run_checkKey c (by trivial) e 9999
 ·obtain⟨a,b,rfl⟩:=fN h
  show(Instr.checkKey e (9999+1) t<|.agg #[.int .i64 a,.int .i64 b]).run P w=_
  unfold Instr.checkKey;have c1:∀a,(Instr.checkKey e 9999 f.type<|.int .i64 a).run P w=.ok () w:=λa=>MapKept.run_checkKey G (by trivial) e 9998
  have c2:∀a,(Instr.checkKey e 9999 g.type<|.int .i64 a).run P w=.ok () w:=λa=>MapKept.run_checkKey q (by trivial) e 9998
  simp only[zLX,zDN c,Result.andThen];rw[←Array.forIn_toList,i]
  simp_all[Wx]
theorem zLb(hk:IT P t=Z n){y:Ξ}(e:F x=n)(hy:F y=n):(Op.equal t (Bp x)<|Bp y).run P w=.ok (x==y) w:=by
 rcases Ue hk with⟨rfl,h⟩|⟨f,g,z,rfl,h,i,j,r,o1,Q,G,q,l⟩
 ·obtain⟨a,rfl⟩:=Ri e;obtain⟨b,rfl⟩:=Ri hy
  show(Op.equalIn (9999+1) t (.int .i64 a)<|.int .i64 b).run P w=_
  simp_all[zTl]
 ·obtain⟨a,b,rfl⟩:=fN e;obtain⟨c,Ϛ,rfl⟩:=fN hy;have k:P.fieldsOf t=z:=by grind[Program.fieldsOf]
  show(Op.equalIn (9999+1) t (.agg #[.int .i64 a,.int .i64 b])<|.agg #[.int .i64 c,.int .i64 Ϛ]).run P w=_
  rw[run_equalIn_struct w 9999 t _ _ (by rw[k];exact h) l,k,i];have m:∀a c:E,(Op.equalIn 9999 f.type (.int .i64 a)<|.int .i64 c).run P w=.ok (a==c) w:=λa c=>zTl w 9998 f.type .i64 .i64 a c G
  have K:∀a c:E,(Op.equalIn 9999 g.type (.int .i64 a)<|.int .i64 c).run P w=.ok (a==c) w:=λa c=>zTl w 9998 g.type .i64 .i64 a c q
  simp only[Op.eqFields,j,r,ne_eq,not_false_eq_true,zN6,o1,Q,zLX];rw[Wx G _ 0 (.int .i64 a) rfl];simp only[Result.andThen];rw[Wx G _ 0 (.int .i64 c) rfl];simp only[Result.andThen,m,Sem.run_ite]
  by_cases o:a=c
  ·subst o;simp only[zTX,zMv,zMe,zTQ,zLX];rw[Wx q _ 1 (.int .i64 b) rfl];simp only[Result.andThen];rw[Wx q _ 1 (.int .i64 Ϛ) rfl];simp only[Result.andThen,K,Sem.run_ite]
   by_cases p:b=Ϛ
   ·subst p;simp
   simp_all
  simp_all
theorem zLa(hk:IT P t=Z n)(r:F x=n){s:KS}(Y:∀y∈s,F y=n){es:O MapEntry}(c:∀e∈es,∃y∈s,e.key=Bp y):
 ((Instr.findKey t (Bp x) es).run P w=.ok V w/\∀e∈es,e.key≠Bp x)∨∃j e,(Instr.findKey t (Bp x) es).run P w=.ok (Z (j,e.val)) w/\es[j]?=Z e/\e.key=Bp x:=by
 have ask:∀(es:O MapEntry) (i:U),(∀e∈es,∃y∈s,e.key=Bp y)->((Instr.findAsking t (Bp x) es i).run P w=.ok V w/\∀e∈es,e.key≠Bp x)∨∃j e,(Instr.findAsking t (Bp x) es i).run P w=.ok (Z (i+j,e.val)) w/\es[j]?=Z e/\e.key=Bp x:=by
  intro es
  induction es with
  |nil=>intro i _;exact .inl ⟨rfl,λe c=>by cases c⟩
  |cons e es v=>
   intro i c;obtain⟨y,hy,h⟩:=c e Z3;have l:(Op.equal t (Bp x) e.key).run P w=.ok (x==y) w:=by grind[zLb]
   by_cases o:x=y
   ·subst o;exact .inr ⟨0,e,by simp_all[Instr.findAsking],rfl,h⟩
   ·have z:(x==y)=D:=by simp[o]
    rcases v (i+1) (λe Mt=>c e<|by simp[Mt])with⟨p,u⟩|⟨j,m,p,u,G⟩
    ·refine .inl ⟨by simp_all[Instr.findAsking],λm Mt=>?_⟩;rcases zMk.1 Mt with rfl|Mt
     ·grind[yq]
     ·exact u m Mt
    ·exact .inr ⟨j+1,m,by simp[Instr.findAsking,l,z,Result.andThen,p];omega,by simpa using u,G⟩
 rcases Ue hk with⟨rfl,I⟩|⟨f,g,fs,rfl,I,_⟩
 ·obtain⟨a,rfl⟩:=Ri r
  rcases MapKept.findNow_spec (d:=.int .i64) (k:=.int .i64 a) (by trivial) es 0 (λe J=>by
   obtain⟨y,hy,h⟩:=c e J;obtain⟨b,rfl⟩:=Ri<|Y y hy;rw[h];trivial)with⟨l,q⟩|⟨j,e,l,q,K⟩
  ·grind[MapKept.run_findKey,Bp]
  ·exact .inr ⟨j,e,by simp_all[zTe,Bp],q,K⟩
 ·have hn:∀es:O MapEntry,(∀e∈es,∃y∈s,e.key=Bp y)->(Instr.findKey t (Bp x) es).run P w=(match es with|[]=>.ok V w|_=>(Instr.findAsking t (Bp x) es 0).run P w):=λes c=>by
   cases es with
   |nil=>simp_all[Instr.findKey,zDN,Instr.findNow]
   |cons e es=>
    simp_all[Instr.findNow,Instr.sameNow,Instr.findKey,zDN]
  grind
theorem zLZ(hk:IT P t=Z n)(e:F x=n):(Instr.keyThatStays (Bp x)<|Bp x).run P w=.ok (Bp x) w:=by
 rcases Ue hk with⟨rfl,c⟩|⟨f,g,fs,rfl,c,_⟩
 ·obtain⟨a,rfl⟩:=Ri e;exact MapKept.run_keyThatStays (d:=.int .i64) (by trivial)
 ·obtain⟨a,b,rfl⟩:=fN e
  simp_all[Instr.sameBits,Bp,Instr.keyThatStays]
end
/-! ### Sets in order-/
def yQ:Ξ->Ξ->ζ
 |_,[]=>D
 |[],_::_=>T
 |a::r,b::s=>decide (a<b)||(a==b&&yQ r s)
def fT(x:Ξ):KS->KS
 |[]=>[x]
 |y::r=>C (yQ x y) (x::y::r)<|y::fT x r
def DN(x:Ξ)(l:KS):KS:=C (l.contains x) l<|fT x l
theorem zD(x:Ξ):∀l:KS,(fT x l).Perm<|x::l
 |[]=>zTy _
 |y::r=>by
  unfold fT;split
  ·exact zTy _
  ·exact((zD x r).cons y).trans<|List.Perm.swap x y r
variable{l:KS}{x:Ξ}
theorem wZ(h:x∈l):DN x l=l:=by unfold DN;simp[h]
theorem mI(h:x∉l):(DN x l).Perm<|x::l:=by grind[DN,zD]
theorem RT{y:Ξ}:y∈DN x l↔y=x∨y∈l:=by
 grind[wZ,mI]
section
variable{P:ν}{w:κ}{b n:U}{l:KS}{es:υ MapEntry}{Au:U}
def GS.key(h:GS w b n l es Au):∀e∈es.toList,∃y∈l,e.key=Bp y:=λe a=>by
 have:e.key∈es.toList.map (·.key):=zMa.2 ⟨e,a,rfl⟩;obtain⟨y,c,f⟩:=zMa.1<|h.keys.mem_iff.1 this;exact⟨y,c,f.symm⟩
theorem GS.has(h:GS w b n l es Au){x:Ξ}:x∈l↔∃e∈es.toList,e.key=Bp x:=by
 constructor
 ·intro f;have:Bp x∈l.map Bp:=zMa.2 ⟨x,f,rfl⟩;obtain⟨e,a,c⟩:=zMa.1<|h.keys.mem_iff.2 this;exact⟨e,a,c⟩
 ·rintro⟨e,a,c⟩;obtain⟨y,h3,h4⟩:=h.key e a
  grind[yq]
def GS.find(h:GS w b n l es Au){t:ψ}(hk:IT P t=Z n){x:Ξ}(a:F x=n):
 (x∉l/\(Instr.findKey t (Bp x) es.toList).run P w=.ok V w)∨(x∈l/\∃j e,(Instr.findKey t (Bp x) es.toList).run P w=.ok (Z (j,.bool T)) w/\es[j]?=Z e/\e.key=Bp x/\e.val=.bool T):=by
 rcases zLa (w:=w) hk a h.len h.key with⟨f,c⟩|⟨j,e,f,c,k⟩
 ·exact .inl ⟨λa=>by obtain⟨e,p,u⟩:=h.has.1 a;exact c e p u,f⟩
 ·have z:e∈es.toList:=zLW c;have o:=h.tru e z;exact .inr ⟨h.has.2 ⟨e,z,k⟩,j,e,by rw[←o];exact f,by simpa using c,k,o⟩
def WH{w:κ}{b:U}(o:Obj):AR (λk=>k=b) w { w with heap:=w.heap.setIfInBounds b o }:=
 ⟨rfl,rfl,rfl,Z3,λk _ j=>by simp[Ne.symm j]⟩
variable{mt G S:ψ}
def GS.put(h:GS w b n l es Au)(z:P.underlying mt=Z (.map G S))(hk:IT P G=Z n){x:Ξ}(g:F x=n):
 ∃w' s t,(Instr.mapUpdate mt (.map<|Z b) (Bp x)<|.bool T).run P w=.ok () w'/\AR (λk=>k=b) w w'/\GS w' b n (DN x l) s t:=by
 have R:b<w.heap.size:=(zAM.1 h.blk).1;rcases h.find hk g with⟨m,o⟩|⟨m,j,e,o,q,r,X⟩
 ·refine⟨{ w with heap:=w.heap.setIfInBounds b (.map (es.push { key:=Bp x,val:=.bool T,born:=Au })<|Au+1) },es.push { key:=Bp x,val:=.bool T,born:=Au },Au+1,?_,WH _,?_⟩
  ·simp[Instr.mapUpdate,zDN z,zMx h.blk,Ud hk g,o,zTD _ h.blk,Result.andThen]
  ·refine⟨by simp[R],?_,((mI m).nodup_iff).2<|zUH.2 ⟨m,h.nd⟩,λy hy=>?_,λe f=>?_,λe f=>?_,?_⟩
   ·have p:((es.push { key:=Bp x,val:=.bool T,born:=Au }).toList.map (·.key))=es.toList.map (·.key)++[Bp x]:=Z3
    rw[p];refine(List.perm_append_comm).trans ?_;exact(h.keys.cons<|Bp x).trans<|((mI m).map Bp).symm
   ·rcases RT.1 hy with rfl|hy
    ·exact g
    ·exact h.len y hy
   ·simp only[Array.toList_push,zMc,zCr]at f;rcases f with f|rfl
    ·exact h.tru e f
    ·rfl
   ·simp only[Array.toList_push,zMc,zCr]at f;rcases f with f|rfl
    ·exact Nat.lt_succ_of_lt<|h.born e f
    ·exact Nat.lt_succ_self _
   ·have p:((es.push { key:=Bp x,val:=.bool T,born:=Au }).toList.map (·.born))=es.toList.map (·.born)++[Au]:=Z3
    rw[p];refine zTz.2 ⟨h.stamps,Z3,λa v c hc=>?_⟩;obtain⟨e,I,g2⟩:=zMa.1 v;have:=h.born e I;simp at hc;omega
 ·have u:(es.modify j λe=>{ e with key:=Bp x,val:=.bool T })=es:=by
   apply Array.ext_getElem?;intro i;rw[zT5];split
   ·rename_i J;subst J;rw[q]
    show Z ({ e with key:=Bp x,val:=.bool T }:MapEntry)=Z e
    rw[←r,←X]
   ·rfl
  refine⟨{ w with heap:=w.heap.setIfInBounds b (.map es Au) },es,Au,?_,WH _,?_⟩
  ·have Y:((es[j]?).map (·.key)).getD (Bp x)=Bp x:=by rw[q];exact r
   simp[Instr.mapUpdate,zDN z,zMx h.blk,Ud hk g,o,Y,zLZ hk g,zTD _ h.blk,Result.andThen,u]
  ·rw[wZ m];exact{ h with blk:=by simp[R] }
def GS.look(h:GS w b n l es Au)(z:P.underlying mt=Z (.map G S))(hk:IT P G=Z n){x:Ξ}(c:F x=n)(g:(zeroValue S).run P w=.ok (.bool D) w):
 (Instr.lookup mt (.map<|Z b) (Bp x) D).run P w=.ok (.bool<|l.contains x) w:=by
 rcases h.find hk c with⟨a,f⟩|⟨a,j,e,f,h3,h4,h5⟩
 ·have:l.contains x=D:=by simpa using a
  simp[Instr.lookup,zDN z,zMx h.blk,Ud hk c,f,g,Result.andThen,this,a]
 ·have:l.contains x=T:=by simpa using a
  simp[Instr.lookup,zDN z,zMx h.blk,Ud hk c,f,Result.andThen,this,a]
end
/-! ### On sk view-/
def YH(lk:A<|U×U×υ MapEntry×U)(i:U):Prop:=∀y,lk=Z y->y.1≠i
section
variable{P:ν}{w w':κ}{p:AK}{n:U}{ls:O (A KS)}{lk:A (U×U×υ MapEntry×U)}{vs:υ μ}
variable{b:U}
def Gp.lies(h:Gp w p n ls lk vs)(a:p.foot b):EZ w b:=by
 rcases h.foot b a with rfl|⟨j,l,e,c⟩
 ·obtain⟨cs,t,k,_⟩:=h.row;exact .cells k
 ·obtain⟨i,f,_,_,es,Au,u,_⟩:=h.has j l e;have:i=b:=by rw[f]at c;cases c;rfl
  subst this;exact⟨_,rfl,(),u.blk⟩
theorem Gp.put(h:Gp w p n ls lk vs){i:U}{l l':KS}{es:υ MapEntry}{Au:U}(hi:ls[i]?=Z (Z l))(a:vs[i]?=Z (Value.map<|Z b))(c:AR (λk=>k=b) w w')(hm:GS w' b n l' es Au)(zn:YH lk i):Gp w' p n (ls.set i<|Z l') lk vs:=by
 obtain⟨o,q,u,g3,_⟩:=h.has i l hi;have:o=b:=by rw[q]at a;cases a;rfl
 subst this
 have get:∀{j:U} {x:A KS},(ls.set i<|Z l')[j]?=Z x->(j=i/\x=Z l')∨(j≠i/\ls[j]?=Z x):=λ{j x} g=>by
  grind
 refine⟨h.val,by simp[h.size],?_,h.blk,λj f g=>?_,λj g=>?_,λr X=>?_,h.inj⟩
 ·obtain⟨cs,t,I,K⟩:=h.row;exact⟨cs,t,(c.block _ (zAM.1 I).1 λe=>u e.symm).trans I,by simpa using K⟩
 ·rcases get g with⟨rfl,e⟩|⟨m,g⟩
  ·grind[YH]
  ·obtain⟨z,I,K,R,s,v,Q,P⟩:=h.has j f g;refine⟨z,I,K,R,s,v,Q.out<|c.block _ (zAM.1 Q.blk).1 λe=>m ?_,P⟩;subst e;exact h.inj j i z I a
 ·rcases get g with⟨rfl,e⟩|⟨m,g⟩
  ·cases e
  ·exact h.nil j g
 ·rcases h.foot r X with e|⟨j,f,I,K⟩
  ·exact .inl e
  grind
end
def fO(n:U)(Ϛ:DV):A Ξ:=match Ϛ with
 | .int .i64 a=>C (n=1) (Z [a]) V
 | .agg m f=>C (m=n/\n≠1) (C ((θ m).all λj=>KF<|f j) (Z<|(θ m).map λj=>It<|f j) V) V
 |_=>V
def nY(n:U)(x:Ξ):DV:=C (n=1) (.int .i64<|M x 0 0)<|.agg n<|Gv n λj=>.int .i64<|M x j 0
section
variable{P:ν}{w:κ}{ρ:O AK}{ϗ:Ψ}
def yt{x:Ξ}(h:F x≠1):Bp x=.agg (x.map λa=>.int .i64 a).toArray:=by
 unfold Bp;split
 ·simp at h
 ·rfl
variable{n:U}
theorem yu{Ϛ:DV}{x:Ξ}{v:μ}(h:fO n Ϛ=Z x)(i:AJ ϗ w Ϛ ρ v):v=Bp x/\F x=n:=by
 unfold fO at h;split at h
 ·grind[Bp,AJ]
 ·rename_i m f;split at h
  ·rename_i z;split at h
   ·cases h;have a:F ((θ m).map λj=>It<|f j)=m:=Z3
    refine⟨?_,by rw[a];exact z.1⟩;obtain⟨cs,rfl,hs,hc⟩:=i;rw[yt Z2]
    congr 1
    grind[fR]
   ·cases h
  ·cases h
 ·cases h
theorem zLc{x:Ξ}(h:F x=n):AJ ϗ w (nY n x) ρ<|Bp x:=by
 unfold nY;split
 ·rename_i e;subst e;obtain⟨a,rfl⟩:=Ri h;rfl
 ·rename_i e;rw[yt Z2]
  simp_all[AJ,Gv]
end
def ZZ:U->DH->A (U×U×O (A KS)×U×U×υ MapEntry×U)
 |_,[]=>V
 |k,Z (.mo<|.sets n ls<|Z y)::_=>Z (k,n,ls,y)
 |k,_::r=>ZZ (k+1) r
variable{n:U}
theorem zPy{ls:O (A KS)}{y:U×U×υ MapEntry×U}{k:U}:∀(h:DH) (P:U),ZZ P h=Z (k,n,ls,y)->P<=k/\h[k-P]?=Z (Z<|.mo<|.sets n ls<|Z y):=by
 intro h
 induction h with
 |nil=>intro P e;cases e
 |cons x r ih=>
  intro P e
  have step:ZZ (P+1) r=Z (k,n,ls,y)->P<=k/\(x::r)[k-P]?=Z (Z<|.mo<|.sets n ls<|Z y):=λe=>by
   grind
  match x,e with
  |none,e=>exact step e
  |some (.cells _),e=>exact step e
  |some (.ints _),e=>exact step e
  |some (.bools _),e=>exact step e
  |some (.arr _ _ _),e=>exact step e
  |some (.gro _ _ _),e=>exact step e
  |some (.iter _),e=>exact step e
  |some (.ro _),e=>exact step e
  |some (.mo<|.set _ _),e=>exact step e
  |some (.mo<|.mit _ _ _ _ _ _),e=>exact step e
  |some (.mo<|.rows _ _),e=>exact step e
  |some (.mo<|.rws _ _),e=>exact step e
  |some (.mo<|.sets _ _ V),e=>exact step e
  |some (.mo<|.sets _ _<|Z _),e=>simp_all[ZZ]
def RV(P:ν)(t:ψ):A<|U×ψ:=match P.underlying t with
 |some (.map k e)=>match IT P k with
  |some n=>match P.info? e with
   |some i=>match i.zero with
    |some (.bool D)=>Z (n,k)
    |_=>V
   |none=>V
  |none=>V
 |_=>V
theorem nE{P:ν}{t k:ψ}(h:RV P t=Z (n,k)):∃e,P.underlying t=Z (.map k e)/\IT P k=Z n/\∀w,(zeroValue e).run P w=.ok (.bool D) w:=by
 unfold RV at h;split at h
 ·split at h
  ·split at h
   ·split at h
    ·simp_all[zeroValue,typeInfo]
    ·cases h
   ·cases h
  ·cases h
 ·cases h
def dL(P:ν)(S:St)(t:ψ)(m k x:DV):A<|DV×DH×O Prop×ζ:=match RV P t with
 |some (n,_)=>match fO n k,x with
  |some x,.bool T=>match m with
   | .it j=>match S.h[j]? with
    |some (Z<|.mo<|.set a l)=>C (a=n) (Z (.any,S.h.set j<|Z<|.mo<|.set n<|DN x l,[],D)) V
    |_=>V
   | .mri j i=>match S.h[j]? with
    |some (Z<|.mo<|.sets a ls lk)=>C (a=n) (Z (.any,S.h.set j<|Z<|.mo<|.sets n (ls.set i<|Z<|DN x<|(ls.getD i V).getD []) lk,[(ls.getD i V).isSome=T,YH lk i],D)) V
    |_=>V
   |_=>V
  |_,_=>V
 |none=>V
def nF(P:ν)(S:St):Op->A (DV×DH×O Prop×ζ)
 | .makeMap t V=>match RV P t with
  |some (n,_)=>Z (.it<|F S.h,S.h++[Z<|.mo<|.set n []],[],T)
  |none=>V
 | .mapUpdate t m k x=>dL P S t (Ak S.fr m) (Ak S.fr k)<|Ak S.fr x
 | .insert t m k x=>dL P S t (Ak S.fr m) (Ak S.fr k)<|Ak S.fr x
 | .lookup t m k D=>match RV P t with
  |some (n,_)=>match fO n (Ak S.fr k)with
   |some x=>match Ak S.fr m with
    | .it j=>match S.h[j]? with
     |some (Z<|.mo<|.set a l)=>C (a=n) (Z (.bool<|l.contains x,S.h,[],T)) V
     |_=>V
    | .mri j i=>match S.h[j]? with
     |some (Z<|.mo<|.sets a ls _)=>C (a=n) (Z (.bool<|((ls.getD i V).getD []).contains x,S.h,[(ls.getD i V).isSome=T],T)) V
     |_=>V
    |_=>V
   |none=>V
  |none=>V
 | .range t m=>match RV P t with
  |some (n,_)=>match Ak S.fr m with
   | .mri j i=>match S.h[j]? with
    |some (Z<|.mo<|.sets a ls<|Z (R,p,es,Au))=>C (a=n) (Z (.it<|F S.h,S.h++[Z<|.mo<|.mit n p es Au ((ls.getD i V).getD []) V],[(ls.getD i V).isSome=T,R=i],T)) V
    |_=>V
   |_=>V
  |none=>V
 | .entry m=>match Ak S.fr m with
  | .it j=>match S.h[j]? with
   |some (Z<|.mo<|.mit n p es Au _<|Z x)=>match ZZ 0 S.h with
    |some (_,_,ls,i,b,e,f)=>Z (.tup 2<|Gv 2 λc=>C (c=0) (nY n x)<|.bool T,S.h,[(ls.getD i V).isSome=T,b=p,e=es,f=Au],T)
    |none=>V
   |_=>V
  |_=>V
 |_=>V
section
variable{P:ν}{Γ:A2}{N:Ψ}{S:St}{ρ:O AK}{a:Act}{w:κ}
variable{i:U}{ls:O (A KS)}
def ZM(h:(ls.getD i V).isSome=T):ls[i]?=Z (Z<|(ls.getD i V).getD []):=by
 rw[zAL]at h⊢;cases e:ls[i]? with
 |none=>rw[e]at h;cases h
 |some x=>
  rw[e]at h;cases x with
  |none=>cases h
  |some l=>simp
variable{v:μ}{j:U}
theorem lA(R:AS P Γ N S ρ a w){n:U}{l:KS}(hk:S.h[j]?=Z (Z<|.mo<|.set n l))(o:AJ (MS N S.h ρ) w (.it j) ρ v):∃p es Au,ρ[j]?=Z p/\v=.map (Z p.blk)/\p.foot=(λb=>b=p.blk)/\p.val=Value.map (Z p.blk)/\GS w p.blk n l es Au:=by
 obtain⟨p,hp,rfl⟩:=o;obtain⟨p',BO,h1,h2,es,Au,h3⟩:=R.hr.obj j _ hk
 grind
theorem k8(R:AS P Γ N S ρ a w){n:U}{lk:A (U×U×υ MapEntry×U)}(hk:S.h[j]?=Z (Z<|.mo<|.sets n ls lk))(o:AJ (MS N S.h ρ) w (.mri j i) ρ v)(l:(ls.getD i V).isSome=T):
 ∃p vs b es Au,ρ[j]?=Z p/\Gp w p n ls lk vs/\v=.map (Z b)/\vs[i]?=Z (Value.map<|Z b)/\p.foot b/\GS w b n ((ls.getD i V).getD []) es Au/\∀y,lk=Z y->y.1=i->y.2=(b,es,Au):=by
 obtain⟨p,vs,e,f,EB⟩:=o;obtain⟨p',g,Y,c⟩:=R.hr.obj j _ hk;have:p'=p:=zAN<|g.symm.trans e;subst this;have:Y=vs:=by have:=c.val.symm.trans f;cases this;rfl
 obtain⟨b,g1,g2,g3,es,Au,g4,g5⟩:=c.has i _<|ZM l
 grind
variable{Ϛ:DV}
def lL(R:AS P Γ N S ρ a w)(o:AJ (MS N S.h ρ) w Ϛ ρ v):CG P Γ N S.h ρ w T Ϛ S.h v w:=⟨⟨ρ,R.hr,o,A8.refl _ _ _,λ_ _ h=>h⟩,λ_=>A9.refl w⟩
theorem ZJ(Ϙ:Ap P Γ N S.h ρ w){ob:Obj}(X:gQ ob=T){pl:AK}(IZ:pl.foot=λb=>b=w.heap.size){o:DO}(x:∀ϗ ρ',Bi P ϗ (w.alloc ob) ρ' pl o)
 (a:∀ϗ ρ',ρ'[F S.h]?=Z pl->AJ ϗ (w.alloc ob) Ϛ ρ' v) (ext:ζ):CG P Γ N S.h ρ w ext Ϛ (S.h++[Z o]) v (w.alloc ob):=by
 have s:A9 w<|w.alloc ob:=(A9.refl w).allocR _;have g:∀b,pl.foot b->w.heap.size<=b:=λb c=>Z4
 have c:(w.alloc ob).heap[w.heap.size]?=Z ob:=zO0 w _;refine⟨⟨ρ++[pl],Ϙ.snoc s (λb e=>⟨g b e,ob,X,(),Z4⟩)<|x _ _,?_,A8.snoc Ϙ s g,λk p hk=>FL hk⟩,λ_=>s⟩;exact a _ _ (by rw[←Ϙ.len];simp)
variable{ext:ζ}{vs:O Prop}{h':DH}
theorem wa(R:AS P Γ N S ρ a w){t:ψ}{m k x:Operand}(r:dL P S t (Ak S.fr m) (Ak S.fr k) (Ak S.fr x)=Z (Ϛ,h',vs,ext))(hv:BX vs):
 ∃w',(Instr.mapUpdate t (a.eval m) (a.eval k)<|a.eval x).run P w=.ok () w'/\CG P Γ N S.h ρ w ext Ϛ h' undef w':=by
 have I:=Be R m;have rk:=Be R k;have rx:=Be R x;unfold dL at r;split at r
 ·rename_i n kt hT;obtain⟨e,Q,hk,hz⟩:=nE hT;split at r
  ·rename_i xs hK hX;obtain⟨ek,el⟩:=yu hK rk;rw[hX]at rx;have ex:a.eval x=.bool T:=rx;rw[ek,ex];split at r
   ·rename_i j u;split at r
    ·rename_i n' l z;split at r
     ·rename_i v;cases r;subst v;rw[u]at I;obtain⟨p,es,Au,f,y,G,G8,J⟩:=lA R z I;rw[y];obtain⟨w',W,X,K,o,q⟩:=J.put Q hk el;have g:AR p.foot w w':=by rw[G];exact o
      refine⟨w',K,⟨ρ,R.hr.write z f g (λb s=>?_) ⟨G8,G,W,X,q⟩,trivial,A8.write z f g,λ_ _ h=>h⟩,λh=>by cases h⟩;rw[G]at s;exact⟨_,rfl,(),by rw[show b=p.blk from s];exact q.blk⟩
     ·cases r
    ·cases r
   ·rename_i j i u;split at r
    ·rename_i n' ls lk z;split at r
     ·rename_i v;cases r;subst v;obtain⟨Y,zn,_⟩:=hv;rw[u]at I;obtain⟨p,vs,b,es,Au,f,hS,y,EB,I1,J,_⟩:=k8 R z I Y;rw[y];obtain⟨w',W,X,K,o,q⟩:=J.put Q hk el;have g:AR p.foot w w':=o.mono λc _ hc=>Z4
      have P8:=hS.put (ZM Y) EB o q zn;exact⟨w',K,⟨ρ,R.hr.write z f g (λb s=>P8.lies s) ⟨vs,P8⟩,trivial,A8.write z f g,λ_ _ h=>h⟩,λh=>by cases h⟩
     ·cases r
    ·cases r
   ·cases r
  ·cases r
 ·cases r
theorem zK9(es:υ MapEntry):leftOf es #[]=es:=by
 grind[leftOf,Array.filter_eq_self]
theorem zHP{r S W Au:U}{seen:υ U}{es:υ MapEntry}{e:MapEntry}(hr:w.heap[r]?=Z (.mapIter (Z S) W seen Au))(hs:seen.back? =Z e.born)(hb:w.heap[S]?=Z (.map es Au))(he:e∈es.toList)(hn:(es.toList.map (·.born)).Nodup):
 (Instr.entry<|.pointer<|Z ⟨r,0,V⟩).run P w=.ok (.tuple #[e.key,e.val]) w:=by
 have hf:es.find? (·.born==e.born)=Z e:=by rw[←Array.find?_toList];grind[find_born]
 simp_all[Instr.entry,getObj,Sem.run]
theorem zKa(R:AS P Γ N S ρ a w)(o:Oper)(r:nF P S o.op=Z (Ϛ,h',vs,ext))(Y:BX vs):BP P (ω a.eval o) w<|CG P Γ N S.h ρ w ext Ϛ h':=by
 unfold nF at r;split at r
 ·rename_i t f;split at r
  ·rename_i n kt Q;cases r;refine BP.value (s:=Instr.makeMap t V) (by unfold ω;rw[f];rfl) (v:=.map<|Z w.heap.size) (w':=w.alloc<|.map #[] 0) (by rfl) ?_;refine ZJ (ob:=.map #[] 0) (o:=.mo<|.set n []) (Ϛ:=.it<|F S.h) (v:=.map<|Z w.heap.size) (pl:=⟨w.heap.size,0,0,.map<|Z w.heap.size,λb=>b=w.heap.size⟩) R.hr rfl rfl (λϗ ρ'=>⟨rfl,rfl,#[],0,⟨zO0 w _,Z3,zUL,λy hy=>τ hy zQF,λe he=>τ he Z3,λe he=>τ he Z3,Z3⟩⟩) (λϗ ρ' g=>⟨_,g,rfl⟩) T
  ·cases r
 ·grind[wa,BP.skip,ω]
 ·grind[wa,BP.skip,ω]
 ·rename_i t m k f;have I:=Be R m;have rk:=Be R k;split at r
  ·rename_i n kt Q;obtain⟨e,W,hk,hz⟩:=nE Q;split at r
   ·rename_i xs hK;obtain⟨ek,el⟩:=yu hK rk;split at r
    ·rename_i j u;split at r
     ·rename_i X l z;split at r
      ·rename_i K;cases r;subst K;rw[u]at I;obtain⟨p,es,Au,g,G,IZ,G8,J⟩:=lA R z I;exact BP.value (s:=Instr.lookup t (a.eval m) (a.eval k) D) (by unfold ω;rw[f]) (by rw[ek,G];exact J.look W hk el<|hz w)<|lL R rfl
      ·cases r
     ·cases r
    ·rename_i j i u;split at r
     ·rename_i X ls lk z;split at r
      ·rename_i K;cases r;subst K;rw[u]at I;obtain⟨p,vs,b,es,Au,g,hS,G,EB,I1,J,_⟩:=k8 R z I Y.1;exact BP.value (s:=Instr.lookup t (a.eval m) (a.eval k) D) (by unfold ω;rw[f]) (by rw[ek,G];exact J.look W hk el<|hz w)<|lL R rfl
      ·cases r
     ·cases r
    ·cases r
   ·cases r
  ·cases r
 ·rename_i t m f;have I:=Be R m;split at r
  ·rename_i n kt Q;obtain⟨e,W,hk,hz⟩:=nE Q;split at r
   ·rename_i j i u;split at r
    ·rename_i X ls i' mb es Au z;split at r
     ·rename_i K;cases r;subst K;obtain⟨hs,hi,_⟩:=Y;subst hi;rw[u]at I;obtain⟨p,vs,b,M4,qp,g,hS,G,EB,I1,J,hL⟩:=k8 R z I hs;have hL:=hL _ rfl rfl;cases hL;refine BP.value (s:=Instr.range t<|a.eval m) (by unfold ω;rw[f]) (by rw[G];exact run_range_map w t _ _ _ _ _ W J.blk) ?_;refine ZJ (ob:=.mapIter (Z mb) Au #[] Au) (o:=.mo<|.mit X mb es Au ((ls.getD i' V).getD []) V) (Ϛ:=.it<|F S.h) (v:=.pointer<|Z ⟨w.heap.size,0,V⟩) (pl:=⟨w.heap.size,0,0,.pointer<|Z ⟨w.heap.size,0,V⟩,λb=>b=w.heap.size⟩) R.hr rfl rfl (λϗ ρ'=>⟨λx hx=>hx.elim (J.len x) (λe=>by cases e),rfl,rfl,#[],zO0 w _,by rw[zK9];exact J.keys,λx hx=>by cases hx⟩) (λϗ ρ' g=>⟨_,g,rfl⟩) T
     ·cases r
    ·cases r
   ·cases r
  ·cases r
 ·rename_i m f;have I:=Be R m;split at r
  ·rename_i j u;split at r
   ·rename_i n mb es Au rem x z;split at r
    ·rename_i k X ls i yG FZ GR hF;cases r;obtain⟨hs,e1,e2,e3,_⟩:=Y;subst e1 e2 e3;rw[u]at I;obtain⟨p,g,G⟩:=I;obtain⟨p',BO,h0,h1,h2,seen,h3,h4,h5⟩:=R.hr.obj j _ z;have:p'=p:=zAN<|BO.symm.trans g;subst this;obtain⟨e,g1,g2,g3⟩:=h5 x rfl;have hF:=(zPy _ _ hF).2;obtain⟨q,hq,vs,hS⟩:=R.hr.obj _ _ hF;obtain⟨b,k1,k2,k3,M4,qp,k4,k5⟩:=hS.has i _<|ZM hs;have k5:=k5 _ rfl rfl;cases k5;refine BP.value (s:=Instr.entry<|a.eval m) (by unfold ω;rw[f]) (by rw[G,h1];exact zHP h3 g3 k4.blk g1 k4.stamps)<|lL R ?_;refine⟨_,rfl,rfl,λc hc=>?_⟩;rw[kP hc,g2,k4.tru e g1]
     match c,hc with
     |0,_=>exact⟨Bp x,rfl,zLc<|h0 x<|.inr rfl⟩
     |1,_=>simp_all[AJ]
    ·cases r
   ·cases r
  ·cases r
 ·cases r
end
end
def eP(P:ν)(t:ψ):A<|U×ψ×TypeInfo:=match P.underlying t with
 |some (.slice e)=>match RV P e with
  |some (n,_)=>match P.info? e with
   |some i=>match i.zero with
    |some (.map V)=>C (i.size=1/\i.bytes<=128) (Z (n,e,i)) V
    |_=>V
   |none=>V
  |none=>V
 |_=>V
theorem zKP{P:ν}{t e:ψ}{n:U}{i:TypeInfo}(h:eP P t=Z (n,e,i)):P.underlying t=Z (.slice e)/\P.info? e=Z i/\i.zero=Z (.map V)/\i.size=1/\i.bytes<=128:=by
 grind[eP]
section
variable{P:ν}{Γ:A2}{N:Ψ}{S:St}{ρ:O AK}{a:Act}{w:κ}{h:DH}
variable{n:U}
theorem zKf(R:AS P Γ N S ρ a w){t e:ψ}{x y:Operand}{i:TypeInfo}{f k:IntKind}{m:E}(z:eP P t=Z (n,e,i))(G:Ak S.fr x=.int f m)(hy:Ak S.fr y=.int k m)
 (p:0<=m/\m<=1000000000000) (o:Oper) (I:o.op=.makeSlice t x y) (ext:ζ):
 BP P (ω a.eval o) w (CG P Γ N S.h ρ w ext (.msl (F S.h) 1 0 m.toNat) (S.h++[Z<|.mo<|.sets n (d m.toNat V) V])):=by
 obtain⟨J,hi,K,q,FK⟩:=zKP z;have r:=p.1;have Q:=p.2;have rx:=Be R x;have u:=Be R y;rw[G]at rx;rw[hy]at u;have c:(madeCells (Value.map V).cells<|m.toNat*i.size).size=m.toNat:=by rw[size_madeCells,q,zOG]
 have W:∀j,j<m.toNat->(madeCells (Value.map V).cells<|m.toNat*i.size)[j]?=Z (Value.map V):=λj g=>by
  simp[madeCells,q,g,Value.cells,Nat.mod_one]
 refine BP.value (s:=Instr.makeSlice t (a.eval x)<|a.eval y) (by unfold ω;rw[I]) (v:=.slice (Z ⟨w.heap.size,0,V⟩) m.toNat m.toNat) (w':=w.alloc<|.cells (madeCells (Value.map V).cells<|m.toNat*i.size) e) ?_ ?_
 ·rw[show a.eval x=_ from rx,show a.eval y=_ from u];refine run_make w t e i _ J hi K f k m m r (zCs _) ?_ Z2;have:(i.bytes:E)*m<=128*1000000000000:=Int.mul_le_mul Z2 Q r Z2;omega
 ·generalize hC:madeCells (Value.map V).cells (m.toNat*i.size)=cs at c W⊢
  refine ZJ (ob:=.cells cs e) (o:=.mo<|.sets n (d m.toNat V) V) (Ϛ:=.msl (F S.h) 1 0 m.toNat) (pl:=⟨w.heap.size,0,cs.size,.tuple<|Array.replicate m.toNat<|Value.map V,λb=>b=w.heap.size⟩) R.hr rfl rfl (λϗ ρ'=>?_) (λϗ ρ' X=>⟨_,m.toNat,X,Z3,zAf _,by unfold LB;omega,by simp[c]⟩) ext;refine⟨Array.replicate m.toNat<|Value.map V,rfl,Z3,⟨cs,e,zO0 w _,by simp[c],zAf _,λj g=>?_⟩,rfl,λj l g=>?_,λj g=>?_,λb Y=>.inl Y,λi j b h1 h2=>?_⟩
  ·grind
  ·grind
  ·grind
  grind
variable{p:AK}
theorem Ap.merge(Ϙ:Ap P Γ N h ρ w){w':κ}{k j:U}{o Q o':DO}{q p':AK}(o9:k≠j)(hk:h[k]?=Z (Z o))(r:ρ[k]?=Z p)(I:h[j]?=Z (Z Q))(R:ρ[j]?=Z q)(s:AR p.foot w w')(hf:∀b,p'.foot b->(p.foot b∨q.foot b)/\EZ w' b)
 (ho:Bi P (MS N ((h.set k V).set j V++[Z o'])<|ρ++[p']) w' (ρ++[p']) p' o'):
 Ap P Γ N ((h.set k V).set j V++[Z o']) (ρ++[p']) w'/\A8 h ρ w ((h.set k V).set j V++[Z o']) (ρ++[p']) w':=by
 have S:F ((h.set k V).set j V)=F h:=Z3
 have W:∀b,p.foot b->MO h ρ b:=λb e=>⟨k,o,p,hk,r,e⟩
 have hMq:∀b,q.foot b->MO h ρ b:=λb e=>⟨j,Q,q,I,R,e⟩
 have X:∀{i:U} {o1:DO},((h.set k V).set j V)[i]?=Z (Z o1)->i≠k/\i≠j/\h[i]?=Z (Z o1):=λ{i o1} hi=>by
  grind
 have J:∀{i:U} {o1:DO} {a:AK},((h.set k V).set j V++[Z o'])[i]?=Z (Z o1)->(ρ++[p'])[i]?=Z a->(i≠k/\i≠j/\i<F h/\h[i]?=Z (Z o1)/\ρ[i]?=Z a)∨(i=F h/\o1=o'/\a=p'):=by
  intro i o1 a g f;rcases FM g with⟨v,g⟩|⟨v,g⟩
  ·rw[S]at v;rcases FM f with⟨_,f⟩|⟨Y,_⟩
   ·grind
   ·rw[Ϙ.len]at Y;omega
  ·rw[S]at v;rcases FM f with⟨Y,_⟩|⟨_,f⟩
   ·rw[Ϙ.len]at Y;omega
   grind
 have m:∀b,MO ((h.set k V).set j V++[Z o']) (ρ++[p']) b->MO h ρ b:=by
  rintro b ⟨i,o1,a,g,f,n⟩;rcases J g f with⟨_,_,_,l,u⟩|⟨_,_,rfl⟩
  ·exact⟨i,o1,a,l,u,n⟩
  grind
 have ϐ:BQ (MS N h ρ) w ρ (MS N ((h.set k V).set j V++[Z o'])<|ρ++[p']) w'<|ρ++[p']:=
  ⟨λb e hm _=>s.block b e λhx=>hm<|.inr<|W b hx,λb e=>.inl<|e.imp id<|m b,λi q hi=>FL hi⟩
 refine⟨⟨by simp[Ϙ.len],λi o1 hi=>?_,λi o1 a b g f n=>?_,λi i' o1 o2 a p2 b x g f n h4 h5 h6=>?_,λb e=>⟨zAQ (Ϙ.nlt b e).1 s.size,(Ϙ.nlt b e).2⟩,Γ.st _ _ Ϙ.gi<|s.mono λb _ e=>(Ϙ.cel k o p b hk r e).1⟩,⟨s.mono λb _ e=>W b e,λb e=>.inl<|m b e⟩⟩
 ·rcases FM hi with⟨v,hi⟩|⟨v,hi⟩
  ·obtain⟨e1,K,y⟩:=X hi;obtain⟨a,Mo,hr⟩:=Ϙ.obj i o1 y;exact⟨a,FL Mo,hr.out ϐ s (λb e=>.inr<|W b e) λb _ g f=>Ϙ.dis i k o1 o a p b e1 y hk Mo r g f⟩
  ·cases hi;exact⟨p',by rw[v,S,←Ϙ.len];simp,ho⟩
 ·rcases J g f with⟨x,_,_,l,u⟩|⟨_,_,rfl⟩
  ·obtain⟨e1,K,c,t,z,y⟩:=Ϙ.cel i o1 a b l u n;exact⟨e1,K,c,t,z,(s.block b (zAM.1 y).1 λhx=>Ϙ.dis i k o1 o a p b x l hk u r n hx).trans y⟩
  ·obtain⟨e1,K⟩:=hf b n;rcases e1 with e1|e1
   ·obtain⟨q1,q2,_⟩:=Ϙ.cel k o p b hk r e1;exact⟨q1,q2,K⟩
   ·obtain⟨q1,q2,_⟩:=Ϙ.cel j Q q b I R e1;exact⟨q1,q2,K⟩
 ·have key:∀{i o1 a},i≠k->i≠j->h[i]?=Z (Z o1)->ρ[i]?=Z a->a.foot b->p'.foot b->False:=λ{i o1 a} x oq l u G g4=>by
   rcases(hf b g4).1 with e1|e1
   ·exact Ϙ.dis i k o1 o a p b x l hk u r G e1
   ·exact Ϙ.dis i j o1 Q a q b oq l I u R G e1
  rcases J g n with⟨ou,oq,_,l,u⟩|⟨e1,_,rfl⟩
  ·rcases J f h4 with⟨hne3,_,_,G,g4⟩|⟨K,_,rfl⟩
   ·exact Ϙ.dis i i' o1 o2 a p2 b x l G u g4 h5 h6
   ·exact key ou oq l u h5 h6
  grind
def Pb(k W:U):DV->DV
 | .msl I m o n=>C (I=k) (.msl W m o n)<|.msl I m o n
 |Ϛ=>Ϛ
def kT(P:ν)(S:St)(o:Oper):A<|St×O Prop:=match o.op with
 | .store t x y=>match o.dst with
  |none=>match Ak S.fr x with
   | .mp k 1 i 0=>match Ak S.fr y with
    | .it j=>match S.h[k]? with
     |some (Z<|.mo<|.sets n q V)=>match S.h[j]? with
      |some (Z<|.mo<|.set a l)=>C (a=n/\(P.info? t).any (λi=>i.size==1)=T) (Z (⟨S.fr.map<|Pb k<|F S.h,(S.h.set k V).set j V++[Z<|.mo<|.sets n (q.set i<|Z l) V]⟩,[i<F q])) V
      |_=>V
     |_=>V
    |_=>V
   |_=>V
  |some _=>V
 |_=>V
theorem Gp.of_map{q:O (A KS)}{f:A (U×U×υ MapEntry×U)}{vs:υ μ}(a:Gp w p n q f vs){i b:U}(h:vs[i]?=Z (Value.map<|Z b)):∃l,q[i]?=Z (Z l)/\p.foot b/\b≠p.blk/\∃es c,GS w b n l es c:=by
 have hi:i<F q:=by rw[←a.size];grind
 cases m:q[i]with
 |none=>
  have:=a.nil i (by rw[zBx hi,m]);rw[this]at h;cases h
 |some l=>
  have e:q[i]?=Z (Z l):=by rw[zBx hi,m]
  obtain⟨b',g1,g2,g3,es,c,g4,_⟩:=a.has i l e
  grind
theorem zEI(R:AS P Γ N S ρ a w){o:Oper}{S':St}{vs:O Prop}(h:kT P S o=Z (S',vs))(hv:BX vs):
 BP P (ω a.eval o) w (λv w'=>(∃ρ',AS P Γ N S' ρ' (a.put o.dst v) w'/\Di S.h ρ w S'.h ρ' w')/\∃k i p t x y,o.op=.store t x y/\Ak S.fr x=.mp k 1 i 0/\ρ[k]?=Z p/\AR p.foot w w'):=by
 unfold kT at h;split at h
 case h_2=>cases h
 rename_i t x y ho;split at h
 case h_2=>cases h
 rename_i pN;split at h
 case h_2=>cases h
 rename_i k i hX;split at h
 case h_2=>cases h
 rename_i j hY;split at h
 case h_2=>cases h
 rename_i n G hK;split at h
 case h_2=>cases h
 rename_i n' l hJ;split at h
 case isFalse=>cases h
 rename_i hc;cases h;obtain⟨hnn,Bh⟩:=hc;subst hnn;have hi:i<F G:=hv.1;have rx:=Be R x;have ry:=Be R y;rw[hX]at rx;rw[hY]at ry;obtain⟨p,I,ex⟩:=rx;obtain⟨q,es,Au,hq,ey,hqf,hqv,hA⟩:=lA R hJ ry;obtain⟨p',BO,WE,g⟩:=R.hr.obj k _ hK;have:p'=p:=zAN<|BO.symm.trans I;subst this;have o9:k≠j:=λe=>by subst e;rw[hK]at hJ;cases hJ
 obtain⟨cs,ty,f,Hi,C5,Hj⟩:=g.row;cases Nw:P.info? t with
 |none=>rw[Nw]at Bh;cases Bh
 |some ti=>
 rw[Nw]at Bh;have Uo:ti.size=1:=by simpa using Bh
 have hisz:i<WE.size:=by rw[g.size];exact hi
 have oQ:∀b,p'.foot b->b≠q.blk:=λb f e=>R.hr.dis k j _ _ p' q b o9 hK hJ I hq f (by rw[hqf];exact e)
 have qV:a.eval x=.pointer (Z ⟨p'.blk,p'.off+i,V⟩):=by rw[ex];simp
 have BI:w.cell? ⟨p'.blk,p'.off+i,V⟩=Z WE[i]:=by
  grind[World.cell?]
 have IX:∀jj,w.frozen? ⟨p'.blk,jj,V⟩=D:=λjj=>by unfold World.frozen?;simp[f]
 have J:AR p'.foot w<|w.setCells p'.blk (p'.off+i) (a.eval y).cells.toList:=(TT _ _ _ _).mono λb _ e=>by rw[show b=p'.blk from e];exact g.blk
 refine BP.skip (s:=Instr.storeAt t (a.eval x)<|a.eval y) (by unfold ω;rw[ho]) (w':=w.setCells p'.blk (p'.off+i) (a.eval y).cells.toList) ?_ ?_
 ·rw[qV];refine lY Nw (by rw[ey,Uo];rfl) (λjj gK=>?_) IX λu hu=>?_
  ·simp_all[Value.cells]
  ·rw[ey]at hu;have:u=.map (Z q.blk):=by simpa[Value.cells]using hu
   subst this;rfl
 ·rw[pN];rw[ey]at J⊢;have eC:(Value.map<|Z q.blk).cells.toList= [Value.map<|Z q.blk]:=rfl;rw[eC]at J⊢;obtain⟨Gn,e1,K,e3⟩:=U4 p'.blk ty (0,0) [Value.map<|Z q.blk] (p'.off+i) w cs f Z7
  generalize hW:w.setCells p'.blk (p'.off+i) [Value.map<|Z q.blk]=W at J e1⊢
  have AL:∀{b ob},b≠p'.blk->w.heap[b]?=Z ob->W.heap[b]?=Z ob:=λ{b ob} Af EC=>by
   rw[←EC,←hW];exact(TT p'.blk [Value.map<|Z q.blk] (p'.off+i) w).block b (zAM.1 EC).1 Af
  have wX:q.blk≠p'.blk:=λe=>oQ p'.blk g.blk e.symm
  let Y:=WE.setIfInBounds i<|Value.map<|Z q.blk
  have Q:∀m:U,Y[m]?=C (i=m) (Z<|Value.map<|Z q.blk) (WE[m]?) :=λm=>by
   grind
  let p2:AK:=⟨p'.blk,p'.off,p'.room,.tuple Y,λb=>b=p'.blk∨∃m:U,Y[m]?=Z (Value.map<|Z b)⟩
  have yU:∀{m:U} {z:A KS},(G.set i<|Z l)[m]?=Z z->(m=i/\z=Z l)∨(m≠i/\G[m]?=Z z):=λ{m z} c=>by
   grind
  have SA:Gp W p2 n' (G.set i<|Z l) V Y:=by
   refine⟨rfl,by simp[Y,g.size],⟨Gn,ty,e1,by simpa[K]using Hi,by rw[K];exact C5,λm c=>?_⟩,.inl rfl,λm l1 c=>?_,λm c=>?_,λb f=>?_,λm m' b X r=>?_⟩
   ·grind
   ·rcases yU c with⟨rfl,e⟩|⟨Af,c⟩
    ·cases e;refine⟨q.blk,by rw[Q,zAB rfl],wX,.inr ⟨m,by rw[Q,zAB rfl]⟩,es,Au,{ hA with blk:=AL wX hA.blk },λx hx=>by cases hx⟩
    ·obtain⟨b,k1,k2,k3,M4,c1,k4,_⟩:=g.has m l1 c;exact⟨b,Z4,k2,.inr ⟨m,Z4⟩,M4,c1,{ k4 with blk:=AL k2 k4.blk },λx hx=>by cases hx⟩
   ·rcases yU c with⟨rfl,e⟩|⟨Af,c⟩
    ·cases e
    ·rw[Q,zAt<|Ne.symm Af];exact g.nil m c
   ·rcases f with f|⟨m,c⟩
    ·exact .inl f
    ·refine .inr ?_;have AB:=c;rw[Q]at c
     by_cases e:i=m
     ·grind
     ·rw[zAt e]at c;obtain⟨l1,g1,_⟩:=g.of_map c
      grind
   ·rw[Q]at X r
    by_cases c1:i=m
    ·by_cases c2:i=m'
     ·omega
     ·rw[zAB c1]at X;rw[zAt c2]at r;cases X;obtain⟨_,_,g2,_⟩:=g.of_map r;exact τ rfl (oQ _ g2)
    ·rw[zAt c1]at X
     by_cases c2:i=m'
     ·rw[zAB c2]at r;cases r;obtain⟨_,_,g2,_⟩:=g.of_map X;exact τ rfl (oQ _ g2)
     ·rw[zAt c2]at r;exact g.inj m m' b X r
  have IZ:∀b,p2.foot b->(p'.foot b∨q.foot b)/\EZ W b:=λb f=>by
   refine⟨?_,SA.lies f⟩;rcases f with f|⟨m,c⟩
   ·exact .inl (by rw[f];exact g.blk)
   ·rw[Q]at c
    by_cases e:i=m
    ·grind
    ·rw[zAt e]at c;exact .inl (g.of_map c).choose_spec.2.1
  obtain⟨g1,g2⟩:=R.hr.merge (o':=.mo<|.sets n' (G.set i<|Z l) V) (p':=p2) o9 hK I hJ hq J IZ ⟨Y,SA⟩
  have ϐ:BQ (MS N S.h ρ) w ρ (MS N ((S.h.set k V).set j V++[Z<|.mo<|.sets n' (G.set i<|Z l) V])<|ρ++[p2]) W<|ρ++[p2]:=
   ⟨λb f c _=>J.block b f λhx=>c<|.inr ⟨k,_,p',hK,I,hx⟩,λb f=>f.elim (λh=>.inl<|.inl h) λh=>(g2.grow b h).imp .inr id,λk q hk=>FL hk⟩
  refine⟨⟨ρ++[p2],⟨g1,by simp[R.fr.1,Act.put],λm c=>?_⟩,g2,λk q hk=>FL hk⟩,k,i,p',t,x,y,ho,hX,I,J⟩;have E0:m<F S.fr:=by simpa using c
  have e:(S.fr.map<|Pb k<|F S.h).getD m .any=Pb k (F S.h) (S.fr.getD m .any):=by simp[E0]
  show AJ _ W ((S.fr.map<|Pb k<|F S.h).getD m .any) _ _
  rw[e];have r0:=R.fr.2 m E0;cases hd:S.fr.getD m .any with
  |msl k1 m1 o1 n1=>
   rw[hd]at r0
   by_cases hc:k1=k
   ·have K:Pb k (F S.h) (.msl k1 m1 o1 n1)=.msl (F S.h) m1 o1 n1:=by simp only[Pb,zAB hc]
    rw[K];rw[hc]at r0;obtain⟨q0,cap,Py,oE,u1,u2,u3⟩:=r0;have eq0:q0=p':=zAN<|Py.symm.trans I;subst eq0;exact⟨p2,cap,by rw[←R.hr.len];simp,oE,u1,u2,u3⟩
   ·have K:Pb k (F S.h) (.msl k1 m1 o1 n1)=.msl k1 m1 o1 n1:=by simp only[Pb,zAt hc]
    rw[K];exact AJ.out _ ϐ r0
  |_=>rw[hd]at r0;exact AJ.out _ ϐ r0
end
section
def Oh:DV:=.tup 0 λj=>([]:O DV).getD j .any
def bH{ϗ:Ψ}{w:κ}{ρ:O AK}:AJ ϗ w Oh ρ undef:=⟨#[],rfl,rfl,λj g=>τ g<|zAR j⟩
def Cq(fr:O DV)(dst:A U)(Ϛ:DV):O DV:=match dst with
 |some t=>fr.set t Ϛ
 |none=>fr
section
variable{P:ν}{Γ:A2}{N:Ψ}{S:St}{ρ:O AK}{a:Act}{w:κ}
variable{v:μ}{Ϛ:DV}
def Gw(R:AS P Γ N S ρ a w)(dst:A U)(o:AJ (MS N S.h ρ) w Ϛ ρ v):AS P Γ N ⟨Cq S.fr dst Ϛ,S.h⟩ ρ (a.put dst v) w:=by
 refine⟨R.hr,?_⟩;cases dst with
 |none=>exact R.fr
 |some t=>exact R.fr.set t o
def QB(R:AS P Γ N S ρ a w){d':DV}{h':DH}{ext:ζ}{w':κ}(dst:A U)(G:CG P Γ N S.h ρ w ext Ϛ h' v w')(r:∀ϗ ρ',AJ ϗ w' Ϛ ρ' v->AJ ϗ w' d' ρ' v):
 ∃ρ',AS P Γ N ⟨Cq S.fr dst d',h'⟩ ρ' (a.put dst v) w'/\Di S.h ρ w h' ρ' w':=by
 obtain⟨ρ',p,u,i,K⟩:=G.ex;have ϐ:BQ (MS N S.h ρ) w ρ (MS N h' ρ') w' ρ':=⟨λb c z _=>i.upd.block b c λe=>z<|.inr e,λb c=>c.elim (λh=>.inl<|.inl h) λh=>(i.grow b h).imp .inr id,K⟩;have R':AS P Γ N ⟨S.fr,h'⟩ ρ' a w':=⟨p,R.fr.out ϐ⟩;exact⟨ρ',Gw R' dst<|r _ _ u,i,K⟩
end
def XD(P:ν)(t:ψ):A<|ψ×ψ:=match P.underlying t with
 |some (.map k e)=>if Uh P k then match P.info? e with
  |some i=>match i.zero with
   |some (.slice V 0 0)=>Z (k,e)
   |_=>V
  |none=>V
  else V
 |_=>V
variable{t:ψ}{P:ν}
theorem vh{k e:ψ}(h:XD P t=Z (k,e)):P.underlying t=Z (.map k e)/\IT P k=Z 1/\∀w,(zeroValue e).run P w=.ok (.slice V 0 0) w:=by
 unfold XD at h;split at h
 ·split at h
  ·split at h
   ·split at h
    ·simp_all[IT,zLn,zeroValue,typeInfo]
    ·cases h
   ·cases h
  ·cases h
 ·cases h
def UZ(j q:U):DV->DV
 | .mri k i=>C (k=j) (C (i=0) (.mri q 0) .any)<|.mri k i
 |Ϛ=>Ϛ
def JF(f:E->Ξ)(k:E)(Ϝ:Ξ):E->Ξ:=λx=>C (x=k) Ϝ<|f x
def XE(P:ν)(S:St)(o:Oper):A<|St×O Prop:=match o.op with
 | .makeMap t V=>match XD P t with
  |some _=>Z (⟨Cq S.fr o.dst<|.mri (F S.h) 0,S.h++[Z<|.mo<|.rows (λ_=>[]) V]⟩,[])
  |none=>V
 | .lookup t m k D=>match XD P t with
  |some _=>match Ak S.fr m,Ak S.fr k with
   | .mri j 0,.int .i64 x=>match S.h[j]? with
    |some (Z<|.mo<|.rows f CX)=>C (CX.all λy=>!y.2.2) (Z (⟨Cq (S.fr.map<|UZ j<|F S.h) o.dst<|.mri (F S.h) 1,S.h.set j V++[Z<|.mo<|.rows f<|Z (x,f x,D)]⟩,[])) V
    |_=>V
   |_,_=>V
  |none=>V
 | .mapUpdate t m k y=>match XD P t with
  |some _=>match Ak S.fr m,Ak S.fr k,Ak S.fr y with
   | .mri j 0,.int .i64 x,.mri b 1=>match S.h[j]? with
    |some (Z<|.mo<|.rows f<|Z (x',Ϝ,_))=>C (b=j) (Z (⟨Cq S.fr o.dst Oh,S.h.set j<|Z<|.mo<|.rows (JF f x' Ϝ) V⟩,[x'=x])) V
    |_=>V
   |_,_,_=>V
  |none=>V
 | .call c=>match c.callee with
  | .builtin .append=>match c.args.toList with
   |[x,y]=>match c.argTypes.toList with
    |[t,e]=>if t=e then match M6 P t with
     |some (.ints,_,i,_)=>if 128<i.bytes then V else match Ak S.fr x,Nq S (Ak S.fr y)with
      | .mse j 1 off n,Z (ys,a)=>match S.h[j]? with
       |some (Z<|.ints xs)=>Z (⟨Cq S.fr o.dst<|.mse (F S.h) 1 0<|n+F ys,S.h.set j V++[Z<|.ints<|xs.drop off++ys]⟩,[a,0<F ys,off+n=F xs,n+F ys<=Av])
       |_=>V
      | .mri j 1,Z (ys,a)=>match S.h[j]? with
       |some (Z<|.mo<|.rows f<|Z (x',Ϝ,_))=>Z (⟨Cq (S.fr.map<|UZ j<|F S.h) o.dst<|.mri (F S.h) 1,S.h.set j V++[Z<|.mo<|.rows f<|Z (x',Ϝ++ys,T)]⟩,[a,0<F ys,F Ϝ+F ys<=Av])
       |_=>V
      |_,_=>V
     |_=>V
     else V
    |_=>V
   |_=>V
  |_=>V
 |_=>V
theorem zHf{S:St}{o:Oper}{r:St×O Prop}(h:XE P S o=Z r){x y:Operand}:o.op≠.store t x y:=by
 grind[XE]
theorem A3.map{ϗ:Ψ}{w:κ}{ρ:O AK}{fr:O DV}{t:υ μ}(h:A3 ϗ w ρ fr t){g:DV->DV}(hg:∀Ϛ v,AJ ϗ w Ϛ ρ v->AJ ϗ w (g Ϛ) ρ v):A3 ϗ w ρ (fr.map g) t:=
 ⟨by simp[h.1],λi hi=>by
  grind[A3]⟩
section
variable{P:ν}{Γ:A2}{N:Ψ}{S:St}{ρ:O AK}{a:Act}{w w':κ}{p p':AK}{f:E->Ξ}{CX:X5}{u:μ}{es:υ MapEntry}{Au:U}
variable{G:ψ}
theorem xR(h:GI w p f CX u es Au)(hk:P.underlying G=Z (.int .i64))(x:E):
 ((Instr.findKey G (.int .i64 x) es.toList).run P w=.ok V w/\∀e∈es.toList,e.key≠.int .i64 x)∨∃j e,(Instr.findKey G (.int .i64 x) es.toList).run P w=.ok (Z (j,e.val)) w/\es[j]?=Z e/\e.key=.int .i64 x:=by
 rcases MapKept.findNow_spec (d:=.int .i64) (k:=.int .i64 x) (by trivial) es.toList 0 (λe z=>by
  obtain⟨k,hk,_⟩:=h.key e z;rw[hk];trivial)with⟨a,c⟩|⟨j,e,a,c,h3⟩
 ·grind[MapKept.run_findKey]
 grind[MapKept.run_findKey]
variable{v:μ}{j:U}
theorem dp(R:AS P Γ N S ρ a w){i:U}(hk:S.h[j]?=Z (Z<|.mo<|.rows f CX))(o:AJ (MS N S.h ρ) w (.mri j i) ρ v):∃p u es Au,ρ[j]?=Z p/\GI w p f CX u es Au/\(#[Value.map<|Z p.blk,u]:υ μ)[i]?=Z v:=by
 obtain⟨p,vs,b,c,EB⟩:=o;obtain⟨p',e,u,es,Au,g⟩:=R.hr.obj j _ hk;have:p'=p:=zAN<|e.symm.trans b;subst this;have:#[Value.map<|Z p'.blk,u]=vs:=by have:=g.val.symm.trans c;cases this;rfl
 grind
def GI.lies(h:GI w p f CX u es Au):EZ w p.blk:=⟨_,rfl,(),h.blk⟩
def ve(R:AS P Γ N S ρ a w)(n:S.h[j]?=Z (Z<|.mo<|.rows f CX))(c:ρ[j]?=Z p)(I:GI w p f CX u es Au){t:E->Ξ}{Y:X5}{i:μ}{o:υ MapEntry}{s:U}
 (x:AR p.foot w w') (J:∀b,p'.foot b->(p.foot b∨w.heap.size<=b)/\EZ w' b) (l:GI w' p' t Y i o s) (Q:p'.blk=p.blk) (dst:A U):
 ∃ρ',AS P Γ N ⟨Cq (S.fr.map<|UZ j<|F S.h) dst<|.mri (F S.h) 1,S.h.set j V++[Z<|.mo<|.rows t Y]⟩ ρ' (a.put dst i) w'/\Di S.h ρ w (S.h.set j V++[Z<|.mo<|.rows t Y]) ρ' w':=by
 obtain⟨K,z⟩:=R.hr.regrow (o':=.mo<|.rows t Y) n c x J ⟨i,o,s,l⟩;have y:∀(k:U) (q:AK),ρ[k]?=Z q->(ρ++[p'])[k]?=Z q:=λk q hk=>FL hk
 have ϐ:BQ (MS N S.h ρ) w ρ (MS N (S.h.set j V++[Z<|.mo<|.rows t Y])<|ρ++[p']) w'<|ρ++[p']:=
  ⟨λb m W _=>x.block b m λX=>W<|.inr ⟨j,_,p,n,c,X⟩,λb m=>m.elim (λh=>.inl<|.inl h) λh=>(z.grow b h).imp .inr id,y⟩
 have G:(ρ++[p'])[F S.h]?=Z p':=by rw[←R.hr.len];simp
 have CM:=(R.fr.out ϐ).map (g:=UZ j<|F S.h) (λϚ v r=>by
  unfold UZ;split
  ·split
   ·rename_i e;split
    ·rename_i e2;subst e e2;obtain⟨q,vs,h1,h2,h3⟩:=r;have:q=p:=zAN<|h1.symm.trans<|y _ _ c;subst this;have e3:#[Value.map<|Z q.blk,u]=vs:=by have:=I.val.symm.trans h2;cases this;rfl
     subst e3;exact⟨p',_,G,l.val,by rw[Q];simpa using h3⟩
    ·trivial
   ·exact r
  ·exact r)
 exact⟨ρ++[p'],Gw (S:=⟨S.fr.map<|UZ j<|F S.h,_⟩) ⟨K,CM⟩ dst ⟨p',_,G,l.val,rfl⟩,z,y⟩
theorem zJa(h:GI w p f CX u es Au)(o:∀k Ϝ,CX≠Z (k,Ϝ,T)){t S:ψ}(z:P.underlying t=Z (.map G S))(hk:IT P G=Z 1)(r:(zeroValue S).run P w=.ok (.slice V 0 0) w)(x:E):
 ∃a,(Instr.lookup t (.map<|Z p.blk) (.int .i64 x) D).run P w=.ok a w/\GI w { p with val:=.tuple #[Value.map<|Z p.blk,a] } f (Z (x,f x,D)) a es Au:=by
 have s:P.underlying G=Z (.int .i64):=by
  grind[Ue]
 have hc:=λe=>Ud (w:=w) hk (x:=[x]) rfl e
 have Y:∀a,(Ig w (λb=>p.foot b/\b≠p.blk) a (f x)/\∀e∈es.toList,∀b,Dn a=Z b->Dn e.val=Z b->e.key=.int .i64 x)->GI w { p with val:=.tuple #[Value.map<|Z p.blk,a] } f (Z (x,f x,D)) a es Au:=λa v=>
  ⟨rfl,h.blk,h.own,λe y=>let⟨k,c,i⟩:=h.key e y;⟨k,c,λ_=>i λϜ=>o k Ϝ⟩,h.no,h.nd,h.apart,h.born,h.stamps,λk Ϝ g e=>by cases e;exact v⟩
 rcases xR h s x with⟨c,i⟩|⟨j,e,c,i,l⟩
 ·refine⟨.slice V 0 0,?_,Y _ ⟨.inl ⟨h.no x i,rfl⟩,λe _ b n=>by cases n⟩⟩;have m:=hc es.isEmpty;simp only[Bp]at m;simp[Instr.lookup,zDN z,zMx h.blk,m,c,r,Result.andThen]
 ·have q:e∈es.toList:=Array.mem_toList_iff.2<|zT4 i;obtain⟨k,I,J⟩:=h.key e q;have:k=x:=by rw[I]at l;cases l;rfl
  subst this;refine⟨e.val,?_,Y _ ⟨J λϜ=>o k Ϝ,λK W b n X=>(h.apart K W e q b X n).trans l⟩⟩;have m:=hc es.isEmpty;simp only[Bp]at m;simp[Instr.lookup,zDN z,zMx h.blk,m,c,Result.andThen]
variable{ys Ϝ:Ξ}{k z:μ}{i:TypeInfo}{e ty:ψ}
theorem uj{ϖ:Ψ}(y:Ig w ϖ u Ϝ){t:ψ}(f:P.underlying t=Z (.slice e))(hi:P.info? e=Z i)(g:i.zero=Z z)(J:i.size=1)(x:z.cells.size=i.size)(h:i.bytes<=128)
   (hy:Src P i.size t k (F ys) (ys.map<|Value.int .i64) w) (hc:0<F ys) (l:F Ϝ+F ys<=Av):
 ∃w' q a,(Builtin.append_ #[t,t] ty #[u,k]).run P w=.ok (.slice (Z ⟨q.blk,q.off,V⟩) (F<|Ϝ++ys) a) w'/\F (Ϝ++ys)<=a/\q.off+a<=q.room/\AR (λb=>Dn u=Z b) w w'/\(Dn u=Z q.blk∨w.heap.size<=q.blk)/\Ac w' q (F<|Ϝ++ys) λj v=>v=.int .i64 (M (Ϝ++ys) j 0):=by
 have p:F (Ϝ++ys)=F Ϝ+F ys:=zAi;rcases y with⟨rfl,rfl⟩|⟨q,cap,rfl,G,h2,h3,h4,X⟩
 ·obtain⟨w',a,c,r,cs,rfl,o,m⟩:=jP V (ty:=ty) f hi g x h hy hc (by grind[Av]);rw[J,zOG]at o;refine⟨_,Ek w cs.size,a,by simpa[Ek]using c,by simpa using r,by simp[Ek,o],AR.ofExt<|(A9.toDrew w).allocR _,.inr<|zAf _,O4 rfl Z7 λj hj=>?_⟩
  grind
 ·obtain⟨w',n,a,c,r,Q,o,m,s⟩:=jO (ty:=ty) (R:=λj v=>v=.int .i64 (M Ϝ j 0)) (cap:=cap) f hi g Z2 x h (by rw[J,zOG];exact X) G Z4 hy (by unfold Av at l;omega);rw[J,zOG]at Q;have hq:q.foot=(λb=>b=q.blk):=X.1;have hR:=ni (P:=P) (ϗ:=λ_=>False) (ρ':=[]) J s;refine⟨w',n,a,by rw[p];exact c,by rw[p];exact r,Q,o.mono λb _ l=>by grind[Dn],?_,hR⟩;have I:=s.1;rcases m n.blk (by rw[I])with e|e
  ·grind[Dn]
  ·exact .inr e
variable{g:ζ}{x:E}
theorem zJb(h:GI w p f CX u es Au)(W:CX=Z (x,Ϝ,g))(n:∀b,p.foot b->EZ w b){t:ψ}(N:P.underlying t=Z (.slice e))(hi:P.info? e=Z i)(Q:i.zero=Z z)(R:i.size=1)(S:z.cells.size=i.size)(FK:i.bytes<=128)
 {o:μ}  (hy:Src P i.size t o (F ys) (ys.map<|Value.int .i64) w) (hc:0<F ys) (a:F Ϝ+F ys<=Av):
 ∃w' r p',(Builtin.append_ #[t,t] ty #[u,o]).run P w=.ok r w'/\AR p.foot w w'/\(∀b,p'.foot b->(p.foot b∨w.heap.size<=b)/\EZ w' b)/\GI w' p' f (Z (x,Ϝ++ys,T)) r es Au/\p'.blk=p.blk:=by
 obtain⟨v,hd⟩:=h.inHand x Ϝ g W;have Aj:F (Ϝ++ys)=F Ϝ+F ys:=zAi;have nH:=uj (ty:=ty) v N hi Q R S FK hy hc a;obtain⟨w',q,y,r1,r2,r3,G,r5,I⟩:=nH;have X:∀b,Dn u=Z b->(p.foot b/\b≠p.blk)/\b<w.heap.size:=λb a=>v.blk a
 have keep:∀b,b<w.heap.size->Dn u≠Z b->w'.heap[b]?=w.heap[b]? :=λb a s=>G.block b a s
 have Y:Dn u≠Z p.blk:=λe=>(X _ e).1.2 rfl
 have oR:p.blk<w.heap.size:=(zAM.1 h.blk).1;have oP:q.blk≠p.blk:=λe=>r5.elim (λm=>Y<|by rw[←e];exact m) λm=>Z2
 refine⟨w',_,⟨p.blk,p.off,p.room,.tuple #[Value.map<|Z p.blk,.slice (Z ⟨q.blk,q.off,V⟩) (F<|Ϝ++ys) y],λb=>(p.foot b/\Dn u≠Z b)∨b=q.blk⟩,r1,G.mono λb _ a=>(X b a).1.1,λb a=>?_,?_,rfl⟩
 ·rcases a with⟨g1,g2⟩|g1
  ·grind
  ·obtain⟨_,cs,tt,g,_⟩:=I;subst g1;exact⟨r5.imp (λe=>(X _ e).1.1) id,.cells g⟩
 ·have Nj:∀m∈es.toList,∀k,m.key=.int .i64 k->k≠x->Ig w (λb=>p.foot b/\b≠p.blk) m.val (f k):=λm c k hk U1=>by
   obtain⟨k',j,h2⟩:=h.key m c
   grind
  refine⟨rfl,(keep _ oR Y).trans h.blk,.inl ⟨h.own,Y⟩,λm c=>?_,h.no,h.nd,h.apart,h.born,h.stamps,λk L' g' m=>?_⟩
  ·obtain⟨k,j,_⟩:=h.key m c;refine⟨k,j,λs=>?_⟩;have hk:k≠x:=λe=>by subst e;exact s _ rfl
   have J:∀b,Dn m.val=Z b->Dn u≠Z b:=λb a K=>hk Z4
   exact(Nj m c k j hk).out (λb l a n=>keep b n<|J b a) λb l a=>⟨.inl ⟨l.1,J b a⟩,l.2⟩
  ·cases m;refine⟨.inr ⟨q,y,rfl,r2,r3,by grind[LB,Av],⟨.inr rfl,oP⟩,I⟩,λm c b a K=>?_⟩;cases a;rcases r5 with r5|r5
   ·exact hd m c _ r5 K
   ·obtain⟨k',j,_⟩:=h.key m c
    grind[Ig,Dn]
theorem zJZ(h:GI w p f CX u es Au)(R:CX=Z (x,Ϝ,g)){t X:ψ}(z:P.underlying t=Z (.map G X))(hk:IT P G=Z 1):
 ∃w' c n,(Instr.mapUpdate t (.map<|Z p.blk) (.int .i64 x) u).run P w=.ok () w'/\AR (λb=>b=p.blk) w w'/\GI w' p (JF f x Ϝ) V u c n:=by
 have hu:P.underlying G=Z (.int .i64):=by
  grind[Ue]
 have hc:=Ud (w:=w) hk (x:=[x]) rfl D;simp only[Bp]at hc;obtain⟨hs,hd⟩:=h.inHand x Ϝ g R;have AY:p.blk<w.heap.size:=(zAM.1 h.blk).1
 have I:∀(c:υ MapEntry) (n:U),(∀e∈c.toList,(e.key=.int .i64 x/\e.val=u)∨(e∈es.toList/\e.key≠.int .i64 x))->(∃e∈c.toList,e.key=.int .i64 x)->(∀e∈es.toList,e.key≠.int .i64 x->e∈c.toList)->MapKept.Stamped c n->
  GI { w with heap:=w.heap.setIfInBounds p.blk (.map c n) } p (JF f x Ϝ) V u c n:=λc n S m2 m3 st=>by
  have stay:∀b,b≠p.blk->(w.heap.setIfInBounds p.blk<|.map c n)[b]?=w.heap[b]? :=λb v=>by simp[Ne.symm v]
  have Nj:∀a∈es.toList,∀k,a.key=.int .i64 k->k≠x->Ig w (λb=>p.foot b/\b≠p.blk) a.val (f k):=λa i k hk r=>by
   obtain⟨k',l,q⟩:=h.key a i
   grind
  refine⟨h.val,by simp[AY],h.own,λe i=>?_,λk J=>?_,st.2.2,λe i a W b v FX=>?_,st.1,st.2.1,λk L' g' e=>by cases e⟩
  ·rcases S e i with⟨o,s⟩|⟨o,s⟩
   ·refine⟨x,o,λ_=>?_⟩;rw[s];unfold JF;rw[zAB rfl];exact hs.out (λb y _ _=>stay b y.2) λ_ h _=>h
   ·obtain⟨k,l,_⟩:=h.key e o;have r:k≠x:=λa=>s (by rw[l,a])
    refine⟨k,l,λ_=>?_⟩;unfold JF;rw[zAt r];exact(Nj e o k l r).out (λb y _ _=>stay b y.2) λ_ h _=>h
  ·have r:k≠x:=λe=>Z4
   unfold JF;rw[zAt r];refine h.no k λe i pD=>?_
   grind
  ·rcases S e i with⟨o,s⟩|⟨o,s⟩
   ·grind
   ·rcases S a W with⟨K,b2⟩|⟨K,b2⟩
    ·grind
    ·exact h.apart e o a K b v FX
 have st:MapKept.Stamped es Au:=⟨h.born,h.stamps,h.nd⟩;rcases xR h hu x with⟨l,q⟩|⟨j,e,l,q,N⟩
 ·refine⟨_,es.push { key:=.int .i64 x,val:=u,born:=Au },Au+1,?_,WH _,I _ _ (λe i=>?_) ⟨{ key:=.int .i64 x,val:=u,born:=Au },Z3,rfl⟩ (λe i _=>Z4)<|MapKept.stamped_push st q⟩
  ·simp[Instr.mapUpdate,zDN z,zMx h.blk,hc,l,zTD _ h.blk,Result.andThen]
  grind
 ·have HA:((es[j]?).map (·.key)).getD (.int .i64 x)=.int .i64 x:=by rw[q];exact N
  have hst:=MapKept.run_keyThatStays (P:=P) (w:=w) (d:=.int .i64) (k:=.int .i64 x) (by trivial);have hj:j<es.size:=(zAM.1 q).1
  have inj:∀(m:U) (a:MapEntry),es[m]?=Z a->a.key=.int .i64 x->m=j:=λm a Q J=>by
   have DS:m<es.size:=(zAM.1 Q).1;have g1:(es.toList.map (·.key))[m]?=Z (.int .i64 x):=by simp[Q,J]
   have g2:(es.toList.map (·.key))[j]?=Z (.int .i64 x):=by simp[q,N]
   exact(List.getElem?_inj (by simpa using DS) h.nd).1<|g1.trans g2.symm
  have get:∀(m:U),(es.modify j λe=>{ e with key:=.int .i64 x,val:=u })[m]?=C (j=m) ((es[m]?).map λe=>{ e with key:=.int .i64 x,val:=u }) (es[m]?) :=λm=>zT5
  refine⟨_,es.modify j λe=>{ e with key:=.int .i64 x,val:=u },Au,?_,WH _,I _ _ (λe1 Y=>?_) ⟨{ e with key:=.int .i64 x,val:=u },?_,rfl⟩ (λe1 Y Af=>?_)<|MapKept.stamped_modify st _ _ (λ_ _=>rfl) λa _ W=>Z4⟩
  ·simp[Instr.mapUpdate,zDN z,zMx h.blk,hc,l,HA,hst,zTD _ h.blk,Result.andThen]
  ·grind[List.mem_iff_getElem?]
  ·grind
  grind[List.mem_iff_getElem?]
theorem zKQ(R:AS P Γ N S ρ a w){off n:U}{xs:Ξ}(W:S.h[j]?=Z (Z<|.ints xs))(Y:AJ (MS N S.h ρ) w (.mse j 1 off n) ρ v)(hn:off+n=F xs){t:ψ}(m:P.underlying t=Z (.slice e))(hi:P.info? e=Z i)(q:i.zero=Z z)(J:i.size=1)(x:z.cells.size=i.size)(r:i.bytes<=128)
   (hy:Src P i.size t k (F ys) (ys.map<|Value.int .i64) w) (hc:0<F ys) (g:n+F ys<=Av):
 ∃u w' p' f,v=u/\(Builtin.append_ #[t,t] ty #[u,k]).run P w=.ok (.slice (Z ⟨p'.blk,p'.off,V⟩) (n+F ys) f) w'/\n+F ys<=f/\p'.off+f<=p'.room/\(∃p,ρ[j]?=Z p/\AR p.foot w w'/\∀b,p'.foot b->(p.foot b∨w.heap.size<=b)/\EZ w' b)/\
  (∀{ϗ ρ'},Bi P ϗ w' ρ' p'<|.ints<|xs.drop off++ys)/\True:=by
 obtain⟨p,s,cap,y,rfl,h1,h2,h3⟩:=Y;obtain⟨p2,SE,hr⟩:=R.hr.obj j _ W;have:p2=p:=zAN<|SE.symm.trans y;subst this;have gR:F (xs.drop off)=n:=Z7
 have nH:∃w' p' f,(Builtin.append_ #[t,t] ty #[.slice s n cap,k]).run P w=.ok (.slice (Z ⟨p'.blk,p'.off,V⟩) (n+F ys) f) w'/\n+F ys<=f/\p'.off+f*i.size<=p'.room/\AR p2.foot w w'/\(∀b,p'.foot b->p2.foot b∨w.heap.size<=b)/\Ac w' p' ((n+F ys)*i.size) (If (n*i.size) (λj u=>u=.int .i64 (M (xs.drop off) j 0))<|ys.map<|Value.int .i64):=by
  by_cases SM:cap=0
  ·subst SM;have G9:n=0:=Z2
   subst G9;obtain⟨w',f,l,G,cs,rfl,o,I⟩:=jP s (ty:=ty) m hi q x r hy hc (by unfold Av at g;omega);refine⟨_,Ek w cs.size,f,by simpa[Ek]using l,Z2,by simp[Ek,o],AR.ofExt<|(A9.toDrew w).allocR _,λb g=>.inr<|Nat.le_of_eq<|Eq.symm g,O4 rfl ?_ λj hj=>?_⟩
   ·grind
   simp_all[If]
  ·obtain⟨rfl,h4⟩:=h3 Z2;obtain⟨c1,cs,X,c2,c3,c4,c5⟩:=hr
   exact jO (ty:=ty) (p:={ p2 with off:=p2.off+off*1 }) (cap:=cap) m hi q Z2 x r (R:=λj u=>u=.int .i64 (M (xs.drop off) j 0)) (by
    grind[Ac]) h1 (by rw[J];simpa using h4) hy (by unfold Av at g;omega)
 obtain⟨w',p',f,l,G,Q,o,I,K⟩:=nH;rw[J,zOG]at Q;refine⟨_,w',p',f,rfl,l,G,Q,⟨p2,y,o,λb g=>⟨I b g,?_⟩⟩,λ{ϗ ρ'}=>ni (xs:=xs.drop off) (ys:=ys) J (by rw[gR];exact K),trivial⟩;obtain⟨e1,cs,X,e2,_⟩:=K;rw[e1]at g;exact .cells (c:=cs) (t:=X) (z:=(0,0)) Z4
variable{vs:O Prop}{S':St}{o:Oper}
theorem zHe(R:AS P Γ N S ρ a w)(h:XE P S o=Z (S',vs))(hv:BX vs):
 BP P (ω a.eval o) w (λv w'=>∃ρ',AS P Γ N S' ρ' (a.put o.dst v) w'/\Di S.h ρ w S'.h ρ' w'):=by
 unfold XE at h;split at h
 ·rename_i t J;split at h
  ·cases h;refine BP.value (s:=Instr.makeMap t V) (by unfold ω;rw[J];rfl) (v:=.map<|Z w.heap.size) (w':=w.alloc<|.map #[] 0) (by rfl) ?_;have G:=ZJ (ob:=.map #[] 0) (o:=.mo<|.rows (λ_=>[]) V) (Ϛ:=.mri (F S.h) 0) (v:=.map<|Z w.heap.size) (pl:=⟨w.heap.size,0,0,.tuple #[.map<|Z w.heap.size,undef],λb=>b=w.heap.size⟩) R.hr rfl rfl (λϗ ρ'=>⟨undef,#[],0,rfl,zO0 w _,rfl,λe he=>τ he Z3,λ_ _=>rfl,Z3,λe he=>τ he Z3,λe he=>τ he Z3,Z3,λk Ϝ g e=>by cases e⟩) (λϗ ρ' l=>⟨_,_,l,rfl,rfl⟩) T;exact QB R o.dst G λ_ _ h=>h
  ·cases h
 ·rename_i t m k J;split at h
  ·rename_i r hT;obtain⟨K,hk,hz⟩:=vh hT;have rm:=Be R m;have rk:=Be R k;split at h
   ·rename_i j x hM hK;split at h
    ·rename_i f CX q;split at h
     ·rename_i hh;cases h;rw[hM]at rm;rw[hK]at rk;obtain⟨p,u,es,Au,l,I,EB⟩:=dp R q rm;have em:a.eval m=.map (Z p.blk):=by simpa using EB.symm
      have ek:a.eval k=.int .i64 x:=rk;obtain⟨u',X,Q⟩:=zJa I (λk Ϝ e=>by subst e;simp at hh) K hk (hz w) x;refine BP.value (s:=Instr.lookup t (a.eval m) (a.eval k) D) (by unfold ω;rw[J]) (by rw[em,ek];exact X) ?_;exact ve (p':={ p with val:=.tuple #[Value.map<|Z p.blk,u'] }) R q l I (AR.refl _ _) (λb W=>⟨.inl W,(R.hr.cel j _ p b q l W).2.2⟩) Q rfl o.dst
     ·cases h
    ·cases h
   ·cases h
  ·cases h
 ·rename_i t m k y J;split at h
  ·rename_i r hT;obtain⟨K,hk,hz⟩:=vh hT;have rm:=Be R m;have rk:=Be R k;have ry:=Be R y;split at h
   ·rename_i j x j' hM hK hY;split at h
    ·rename_i f x' Ϝ g q;split at h
     ·rename_i hj;cases h;subst hj;have hx:x'=x:=hv.1;subst hx;rw[hM]at rm;rw[hK]at rk;rw[hY]at ry;obtain⟨p,u,es,Au,l,I,EB⟩:=dp R q rm;obtain⟨p2,u2,es2,clock2,SE,hA2,hvi2⟩:=dp R q ry;have:p2=p:=zAN<|SE.symm.trans l;subst this;have eu:u2=u:=by have:=hA2.val.symm.trans I.val;simp at this;exact this
      have em:a.eval m=.map (Z p2.blk):=by simpa using EB.symm
      have ek:a.eval k=.int .i64 x':=rk;have ey:a.eval y=u:=Z4
      obtain⟨w',FZ,GR,X,Q,Y⟩:=zJZ I rfl K hk;refine BP.skip (s:=Instr.mapUpdate t (a.eval m) (a.eval k)<|a.eval y) (by unfold ω;rw[J]) (w':=w') (by rw[em,ek,ey];exact X) ?_;have KT:AR p2.foot w w':=Q.mono λb _ W=>by rw[show b=p2.blk from W];exact I.own
      have hl:∀b,p2.foot b->EZ w' b:=λb W=>by
       by_cases e:b=p2.blk
       ·rw[e];exact Y.lies
       ·obtain⟨c,t1,t2,hc⟩:=(R.hr.cel _ _ p2 b q l W).2.2;exact⟨c,t1,t2,(Q.block b (zAM.1 hc).1 e).trans hc⟩
      have G:CG P Γ N S.h ρ w D Oh (S.h.set j'<|Z<|.mo<|.rows (JF f x' Ϝ) V) undef w':=⟨⟨ρ,R.hr.write q l KT hl ⟨u,FZ,GR,Y⟩,bH,A8.write q l KT,λ_ _ h=>h⟩,λh=>by cases h⟩;exact QB R o.dst G λ_ _ h=>h
     ·cases h
    ·cases h
   ·cases h
  ·cases h
 ·rename_i c J;split at h
  ·rename_i hc;split at h
   ·rename_i x y ha;split at h
    ·rename_i t t' ht;split at h
     ·rename_i e;subst e;split at h
      ·rename_i e i z hk;obtain⟨K,hi,hz,h0,DJ,HA,_⟩:=Zh hk;have F2:i.size=1:=HA.symm;split at h
       ·cases h
       ·have rx:=Be R x;have ry:=Be R y;split at h
        ·rename_i j off n ys vy hX hY;split at h
         ·rename_i xs q;cases h;obtain⟨v1,v2,v3,v4,_⟩:=hv;rw[hX]at rx;obtain⟨ad,w',p',B7,e0,X,Q,Y,g4,g5,_⟩:=zKQ (ty:=o.type) R q rx v3 K hi hz F2 DJ Z2 (by rw[F2];exact YM R K ry hY v1) v2 v4;refine BP.value (OI J hc ha ht) (by rw[e0];exact X) ?_;obtain⟨p,l⟩:=g4;obtain⟨q1,q2⟩:=R.hr.regrow (o':=.ints<|xs.drop off++ys) q l.1 l.2.1 l.2.2 g5
          have G:CG P Γ N S.h ρ w D (.mse (F S.h) 1 0<|n+F ys) (S.h.set j V++[Z<|.ints<|xs.drop off++ys]) (.slice (Z ⟨p'.blk,p'.off,V⟩) (n+F ys) B7) w':=
           ⟨⟨ρ++[p'],q1,⟨p',_,B7,by rw[←R.hr.len];simp,rfl,Q,by grind[LB,Av],λ_=>⟨Z3,by simpa using Y⟩⟩,q2,λ_ _ h=>FL h⟩,λh=>by cases h⟩
          exact QB R o.dst G λ_ _ h=>h
         ·cases h
        ·rename_i j ys vy hX hY;split at h
         ·rename_i f x' Ϝ g q;cases h;obtain⟨v1,v2,v3,_⟩:=hv;rw[hX]at rx;obtain⟨p,u,es,Au,l,I,EB⟩:=dp R q rx;have ex:a.eval x=u:=by simpa using EB.symm
          obtain⟨w',u',p',X,Q,Y,g4,g5⟩:=zJb (ty:=o.type) I rfl (λb W=>(R.hr.cel j _ p b q l W).2.2) K hi hz F2 DJ Z2 (by rw[F2];exact YM R K ry hY v1) v2 v3;refine BP.value (OI J hc ha ht) (by rw[ex];exact X) ?_;exact ve R q l I Q Y g4 g5 o.dst
         ·cases h
        ·cases h
      ·cases h
     ·cases h
    ·cases h
   ·cases h
  ·cases h
 ·cases h
def bZ(P:ν)(S:St)(o:Oper):A<|St×O Prop:=match kT P S o with
 |some r=>Z r
 |none=>XE P S o
theorem uJ(R:AS P Γ N S ρ a w)(h:bZ P S o=Z (S',vs))(hv:BX vs):
 BP P (ω a.eval o) w λv w'=>(∃ρ',AS P Γ N S' ρ' (a.put o.dst v) w'/\Di S.h ρ w S'.h ρ' w')/\((∀t x y,o.op≠.store t x y)∨∃k i p t x y,o.op=.store t x y/\Ak S.fr x=.mp k 1 i 0/\ρ[k]?=Z p/\AR p.foot w w'):=by
 have wk:∀{G g:μ->κ->Prop},(∀v w',G v w'->g v w')->BP P (ω a.eval o) w G->BP P (ω a.eval o) w g:=λs ϑ=>by
  rcases ϑ with⟨v,w',b,c⟩|⟨w',b,c⟩|⟨f,args,w',b,c⟩
  ·grind[BP]
  ·grind[BP]
  ·exact .inr<|.inr ⟨f,args,w',b,c.mono λe C1 ⟨v,j,K⟩=>⟨v,j,s _ _ K⟩⟩
 grind[bZ,zEI,zHf,zHe]
end
end
def lT(P:ν)(t:ψ):A<|ψ×TypeInfo:=match P.underlying t with
 |some (.slice e)=>match P.info? e with
  |some i=>match i.zero with
   |some (.slice V 0 0)=>C (i.size=1/\i.bytes<=128) (Z (e,i)) V
   |_=>V
  |none=>V
 |_=>V
theorem zGt{P:ν}{t e:ψ}{i:TypeInfo}(h:lT P t=Z (e,i)):P.underlying t=Z (.slice e)/\P.info? e=Z i/\i.zero=Z (.slice V 0 0)/\i.size=1/\i.bytes<=128:=by
 grind[lT]
def UY(j q:U):DV->DV
 | .msl k m o n=>C (k=j) (.msl q m o n)<|.msl k m o n
 | .mp k m i c=>C (k=j) (.mp q m i c)<|.mp k m i c
 | .mri k i=>C (k=j) .any<|.mri k i
 |Ϛ=>Ϛ
def cP(P:ν)(S:St)(a:O<|U×Fz)(o:Oper):A<|St×O Prop×O (U×Fz):=match o.op with
 | .makeSlice t x y=>match a with
  |(Ϛ,.rws)::rest=>if o.dst=Z Ϛ then match lT P t with
   |some _=>match Ak S.fr x,Ak S.fr y with
    | .int _ m,.int _ f=>Z (⟨Cq S.fr o.dst<|.msl (F S.h) 1 0 m.toNat,S.h++[Z<|.mo<|.rws (d m.toNat []) V]⟩,[f=m/\0<=m/\m<=1000000000000],rest)
    |_,_=>V
   |none=>V
   else V
  |_=>V
 | .call c=>match c.callee with
  | .builtin .append=>match c.args.toList with
   |[x,y]=>match c.argTypes.toList with
    |[t,b]=>if t=b then match M6 P t with
     |some (.ints,_,i,_)=>if 128<i.bytes then V else match Ak S.fr x,Nq S (Ak S.fr y)with
      | .mri j (r+1),Z (ys,e)=>match S.h[j]? with
       |some (Z<|.mo<|.rws ls V)=>Z (⟨Cq (S.fr.map<|UY j<|F S.h) o.dst<|.mri (F S.h) 0,S.h.set j V++[Z<|.mo<|.rws ls<|Z (r,M ls r ξ++ys)]⟩,[e,0<F ys,r<F ls,F (M ls r ξ)+F ys<=Av],a)
       |_=>V
      |_,_=>V
     |_=>V
     else V
    |_=>V
   |_=>V
  |_=>V
 | .store t x y=>match o.dst with
  |none=>match Ak S.fr x,Ak S.fr y with
   | .mp j 1 r 0,.mri g 0=>match S.h[j]? with
    |some (Z<|.mo<|.rws ls<|Z (R,Ϝ))=>C (g=j/\(P.info? t).any (λi=>i.size==1)=T) (Z (⟨S.fr.map<|UY j<|F S.h,S.h.set j V++[Z<|.mo<|.rws (ls.set r Ϝ) V]⟩,[R=r,r<F ls],a)) V
    |_=>V
   |_,_=>V
  |some _=>V
 |_=>V
section
variable{P:ν}{Γ:A2}{N:Ψ}{S:St}{ρ:O AK}{a:Act}{w w':κ}{p p':AK}{ls YD:O Ξ}{CX Lc:A (U×Ξ)}{vs CI:υ μ}
variable{v:μ}{j:U}
theorem vH(R:AS P Γ N S ρ a w){i:U}(hk:S.h[j]?=Z (Z<|.mo<|.rws ls CX))(o:AJ (MS N S.h ρ) w (.mri j i) ρ v):∃p vs,ρ[j]?=Z p/\NB w p ls CX vs/\vs[i]?=Z v:=by
 obtain⟨p,vs,b,c,EB⟩:=o;obtain⟨p',e,CI,f⟩:=R.hr.obj j _ hk;have:p'=p:=zAN<|e.symm.trans b;subst this;have:CI=vs:=by have:=f.val.symm.trans c;cases this;rfl
 grind
def vG(R:AS P Γ N S ρ a w)(x:S.h[j]?=Z (Z<|.mo<|.rws ls CX))(f:ρ[j]?=Z p)(z:AR p.foot w w')(J:∀b,p'.foot b->(p.foot b∨w.heap.size<=b)/\EZ w' b)(Y:NB w' p' YD Lc CI)
 (G:p'.blk=p.blk) (K:p'.off=p.off) (Q:p'.room=p.room) (dst:A U) {Ϛ:DV}  (r:∀ϗ ρ',ρ'[F S.h]?=Z p'->AJ ϗ w' Ϛ ρ' v):
 ∃ρ',AS P Γ N ⟨Cq (S.fr.map<|UY j<|F S.h) dst Ϛ,S.h.set j V++[Z<|.mo<|.rws YD Lc]⟩ ρ' (a.put dst v) w'/\Di S.h ρ w (S.h.set j V++[Z<|.mo<|.rws YD Lc]) ρ' w':=by
 obtain⟨W,I⟩:=R.hr.regrow (o':=.mo<|.rws YD Lc) x f z J ⟨CI,Y⟩;have y:∀(k:U) (q:AK),ρ[k]?=Z q->(ρ++[p'])[k]?=Z q:=λk q hk=>FL hk
 have ϐ:BQ (MS N S.h ρ) w ρ (MS N (S.h.set j V++[Z<|.mo<|.rws YD Lc])<|ρ++[p']) w'<|ρ++[p']:=
  ⟨λb l X _=>z.block b l λhx=>X<|.inr ⟨j,_,p,x,f,hx⟩,λb l=>l.elim (λh=>.inl<|.inl h) λh=>(I.grow b h).imp .inr id,y⟩
 have s:(ρ++[p'])[F S.h]?=Z p':=by rw[←R.hr.len];simp
 have CM:=(R.fr.out ϐ).map (g:=UY j<|F S.h) (λϚ v r=>by
  unfold UY;split
  ·rename_i k m o n;split
   ·rename_i e;subst e;obtain⟨q,cap,t,u,h3,h4,h5⟩:=r;have:q=p:=zAN<|t.symm.trans<|y _ _ f;subst this;exact⟨p',cap,s,by rw[G,K];exact u,h3,h4,by rw[K,Q];exact h5⟩
   ·exact r
  ·rename_i k m i c;split
   ·rename_i e;subst e;obtain⟨q,t,u⟩:=r;have:q=p:=zAN<|t.symm.trans<|y _ _ f;subst this;exact⟨p',s,by rw[G,K];exact u⟩
   ·exact r
  ·split
   ·trivial
   ·exact r
  ·exact r)
 exact⟨ρ++[p'],Gw (S:=⟨S.fr.map<|UY j<|F S.h,_⟩) ⟨W,CM⟩ dst<|r _ _ s,I,y⟩
variable{t:ψ}{r:U}
theorem zGs(h:NB w p ls V vs)(s:r<F ls)(v:∀b,p.foot b->EZ w b){e ty:ψ}{i:TypeInfo}{z:μ}(hu:P.underlying t=Z (.slice e))(hi:P.info? e=Z i)(hz:i.zero=Z z)(Bh:i.size=1)(DJ:z.cells.size=i.size)(FK:i.bytes<=128)
 {x:μ} {ys:Ξ} (hy:Src P i.size t x (F ys) (ys.map<|Value.int .i64) w) (hc:0<F ys) (a:F (M ls r ξ)+F ys<=Av):
 ∃w' y p',(Builtin.append_ #[t,t] ty #[vs.getD (r+1) undef,x]).run P w=.ok y w'/\AR p.foot w w'/\(∀b,p'.foot b->(p.foot b∨w.heap.size<=b)/\EZ w' b)/\NB w' p' ls (Z (r,M ls r ξ++ys)) (vs.setIfInBounds 0 y)/\p'.blk=p.blk/\p'.off=p.off/\p'.room=p.room:=by
 have G:=h.has r s λϜ e=>by cases e
 obtain⟨w',q,f,r1,r2,r3,I,r5,J⟩:=uj (ty:=ty) G hu hi hz Bh DJ FK hy hc a
 generalize hU:vs.getD (r+1) undef=u at*
 have m:∀b,Dn u=Z b->(p.foot b/\b≠p.blk)/\b<w.heap.size:=λb a=>G.blk a
 have keep:∀b,b<w.heap.size->Dn u≠Z b->w'.heap[b]?=w.heap[b]? :=λb a hn=>I.block b a hn
 have Y:Dn u≠Z p.blk:=λe=>(m _ e).1.2 rfl
 obtain⟨cs,K,N,k2,k3,k4⟩:=h.row;have oR:p.blk<w.heap.size:=(zAM.1 N).1;have oP:q.blk≠p.blk:=λe=>r5.elim (λQ=>Y<|by rw[←e];exact Q) λQ=>Z2
 have o:∀j,(vs.setIfInBounds 0<|.slice (Z ⟨q.blk,q.off,V⟩) (F<|M ls r ξ++ys) f).getD (j+1) undef=vs.getD (j+1) undef:=λj=>by
  simp_all
 have KR:(vs.setIfInBounds 0<|.slice (Z ⟨q.blk,q.off,V⟩) (F<|M ls r ξ++ys) f).getD 0 undef=.slice (Z ⟨q.blk,q.off,V⟩) (F<|M ls r ξ++ys) f:=by
  have:0<vs.size:=by rw[h.size];omega
  simp_all
 have R:∀j b,j<F ls->j≠r->Dn (vs.getD (j+1) undef)=Z b->Dn u≠Z b:=λj b c l a X=>l (h.apart j r b c s (λϜ e=>by cases e) (λϜ e=>by cases e) a<|by rw[hU];exact X)
 refine⟨w',_,⟨p.blk,p.off,p.room,.tuple<|vs.setIfInBounds 0<|.slice (Z ⟨q.blk,q.off,V⟩) (F<|M ls r ξ++ys) f,λb=>(p.foot b/\Dn u≠Z b)∨b=q.blk⟩,r1,I.mono λb _ a=>(m b a).1.1,λb a=>?_,?_,rfl,rfl,rfl⟩
 ·rcases a with⟨g1,g2⟩|g1
  ·grind
  ·obtain⟨_,cs,K,g,_⟩:=J;subst g1;exact⟨r5.imp (λe=>(m _ e).1.1) id,.cells g⟩
 ·refine⟨rfl,by simpa using h.size,⟨cs,K,(keep _ oR Y).trans N,k2,k3,λj c=>?_⟩,.inl ⟨h.blk,Y⟩,λj c hh=>?_,λi j b hi c _ _ S W=>?_,λk Ϝ e=>?_⟩
  ·grind
  ·have l:j≠r:=λe=>hh _ (by rw[e])
   rw[o];exact(h.has j c λϜ e=>by cases e).out (λb n a v=>keep b v<|R j b c l a) λb n a=>⟨.inl ⟨n.1,R j b c l a⟩,n.2⟩
  ·rw[o]at S W;exact h.apart i j b hi c (λϜ e=>by cases e) (λϜ e=>by cases e) S W
  ·cases e;rw[KR];refine⟨.inr ⟨q,f,rfl,r2,r3,by grind[LB,Av],⟨.inr rfl,oP⟩,J⟩,λj b c a X=>?_⟩;cases a;rw[o]at X;rcases r5 with r5|r5
   ·grind
   ·exact τ ((h.has j c λϜ e=>by cases e).blk X).2<|Nat.not_lt.2 r5
theorem zGr(h:NB w p ls CX vs){Ϝ:Ξ}(c:CX=Z (r,Ϝ))(hr:r<F ls){z:TypeInfo}(Y:P.info? t=Z z)(Bh:z.size=1):
 ∃w',(Instr.storeAt t (.pointer<|Z ⟨p.blk,p.off+r,V⟩)<|vs.getD 0 undef).run P w=.ok () w'/\AR (λb=>b=p.blk) w w'/\NB w' { p with val:=.tuple (vs.setIfInBounds (r+1)<|vs.getD 0 undef) } (ls.set r Ϝ) V (vs.setIfInBounds (r+1)<|vs.getD 0 undef)/\EZ w' p.blk:=by
 obtain⟨l,hd⟩:=h.inHand r Ϝ c;obtain⟨cs,G,I,k2,k3,k4⟩:=h.row
 generalize hU:vs.getD 0 undef=u at*
 have hc:u.cells= #[u]:=by rcases l with⟨_,rfl⟩|⟨q,cap,rfl,_⟩ <;> rfl
 have SB:r+1<vs.size:=by rw[h.size];omega
 have BI:w.cell? ⟨p.blk,p.off+r,V⟩=Z vs[r+1]:=by
  grind[World.cell?]
 have IX:∀X,w.frozen? ⟨p.blk,X,V⟩=D:=λX=>by unfold World.frozen?;simp[I]
 have f:∀j,j≠r->(vs.setIfInBounds (r+1) u).getD (j+1) undef=vs.getD (j+1) undef:=λj g=>by
  rw[zMR,zMR,Array.getElem?_setIfInBounds_ne Z2]
 have KN:(vs.setIfInBounds (r+1) u).getD (r+1) undef=u:=by
  simp_all
 obtain⟨Gn,y,K,e3⟩:=U4 p.blk G (0,0) [u] (p.off+r) w cs I Z7;have n:AR (λb=>b=p.blk) w<|w.setCells p.blk (p.off+r) [u]:=TT _ _ _ _
 generalize hW:w.setCells p.blk (p.off+r) [u]=W at n y
 have stay:∀b,b≠p.blk->b<w.heap.size->W.heap[b]?=w.heap[b]? :=λb hb a=>n.block b a hb
 refine⟨W,?_,n,?_,.cells y⟩
 ·rw[←hW]
  have:=lY (w:=w) (b:=p.blk) (o:=p.off+r) (v:=u) Y (by rw[hc,Bh];rfl) (λX gK=>by
   grind) IX (λx J=>by
   have:x=u:=by rw[hc]at J;simpa using J
   subst this;rcases l with⟨_,rfl⟩|⟨q,cap,rfl,_⟩ <;> rfl)
  rw[hc]at this;exact this
 ·have lg:∀j,j≠r->M (ls.set r Ϝ) j ξ=M ls j ξ:=λj g=>by
   grind
  refine⟨rfl,by simpa using h.size,⟨Gn,G,y,by simpa[K]using k2,by rw[K];exact k3,λj g=>?_⟩,h.blk,λj g _=>?_,λi j b hi g _ _ N Q=>?_,λk Ϝ e=>by cases e⟩
  ·grind
  ·rw[zIG]at g
   by_cases e:j=r
   ·subst e;rw[KN,show M (ls.set j Ϝ) j ξ=Ϝ by simp[zAL,g]];exact l.out (λb s _ a=>stay b s.2 a) λ_ h _=>h
   ·rw[f j e,lg j e];exact(h.has j g λL' m=>by rw[c]at m;cases m;exact e rfl).out (λb s _ a=>stay b s.2 a) λ_ h _=>h
  ·rw[zIG]at hi g
   by_cases R:i=r
   ·grind
   ·rw[f i R]at N
    by_cases S:j=r
    ·grind
    ·rw[f j S]at Q;exact h.apart i j b hi g (λL' m=>by rw[c]at m;cases m;exact R rfl) (λL' m=>by rw[c]at m;cases m;exact S rfl) N Q
theorem vI(R:AS P Γ N S ρ a w){o:Oper}{S':St}{fz Mx:O (U×Fz)}{vc:O Prop}(h:cP P S fz o=Z (S',vc,Mx))(hv:BX vc):
 BP P (ω a.eval o) w λv w'=>(∃ρ',AS P Γ N S' ρ' (a.put o.dst v) w'/\Di S.h ρ w S'.h ρ' w')/\((∀t x y,o.op≠.store t x y)∨∃k i p t x y,o.op=.store t x y/\Ak S.fr x=.mp k 1 i 0/\ρ[k]?=Z p/\AR p.foot w w'):=by
 unfold cP at h;split at h
 ·rename_i t x y l;split at h
  case h_2=>cases h
  rename_i Ϛ rest;split at h
  case isFalse=>cases h
  split at h
  case h_2=>cases h
  rename_i r hT;obtain⟨e,i⟩:=r;split at h
  case h_2=>cases h
  rename_i k1 m k2 f hx hy;cases h;obtain⟨⟨rfl,IW,Hh⟩,_⟩:=hv;obtain⟨K,hi,hz,hs,FK⟩:=zGt hT;have rx:=Be R x;have q:=Be R y;rw[hx]at rx;rw[hy]at q;have FJ:(madeCells (Value.slice V 0 0).cells<|f.toNat*i.size).size=f.toNat:=by rw[size_madeCells,hs,zOG]
  have Hj:∀j,j<f.toNat->(madeCells (Value.slice V 0 0).cells<|f.toNat*i.size)[j]?=Z (Value.slice V 0 0):=λj G=>by
   simp[madeCells,hs,G,Value.cells,Nat.mod_one]
  refine BP.value (s:=Instr.makeSlice t (a.eval x)<|a.eval y) (by unfold ω;rw[l]) (v:=.slice (Z ⟨w.heap.size,0,V⟩) f.toNat f.toNat) (w':=w.alloc<|.cells (madeCells (Value.slice V 0 0).cells<|f.toNat*i.size) e) ?_ ?_
  ·rw[show a.eval x=_ from rx,show a.eval y=_ from q];refine run_make w t e i _ K hi hz k1 k2 f f IW (zCs _) ?_ Z2;have:(i.bytes:E)*f<=128*1000000000000:=Int.mul_le_mul Z2 Hh IW Z2;omega
  ·generalize hC:madeCells (Value.slice V 0 0).cells (f.toNat*i.size)=cs at FJ Hj⊢
   have hg:∀j,j<f.toNat->(#[undef]++Array.replicate f.toNat (Value.slice V 0 0)).getD (j+1) undef=.slice V 0 0:=λj G=>by
    simp[zMR,Array.getElem?_append,G]
   refine⟨QB R o.dst (ZJ (ob:=.cells cs e) (o:=.mo<|.rws (d f.toNat []) V) (Ϛ:=.msl (F S.h) 1 0 f.toNat) (pl:=⟨w.heap.size,0,cs.size,.tuple<|#[undef]++Array.replicate f.toNat (Value.slice V 0 0),λb=>b=w.heap.size⟩) R.hr rfl rfl (λϗ ρ'=>?_) (λϗ ρ' g=>⟨_,f.toNat,g,Z3,zAf _,by unfold LB;omega,by simp[FJ]⟩) T) λ_ _ h=>h,.inl λt x y e=>by rw[l]at e;cases e⟩;refine⟨#[undef]++Array.replicate f.toNat (Value.slice V 0 0),rfl,Z7,⟨cs,e,zO0 w _,by simp[FJ],zAf _,λj G=>?_⟩,rfl,λj G _=>.inl ⟨?_,?_⟩,λi j b hi G _ _ h1 h2=>?_,λk Ϝ e=>by cases e⟩
   ·grind
   ·grind
   ·grind
   ·rw[zKR]at hi;rw[hg i hi]at h1;cases h1
 ·rename_i c l;split at h
  case h_2=>cases h
  rename_i hc;split at h
  case h_2=>cases h
  rename_i x y ha;split at h
  case h_2=>cases h
  rename_i t t' ht;split at h
  case isFalse=>cases h
  rename_i e;subst e;split at h
  case h_2=>cases h
  rename_i e i z hk;obtain⟨K,hi,hz,h0,DJ,HA,_⟩:=Zh hk;have F2:i.size=1:=HA.symm;split at h
  case isTrue=>cases h
  rename_i FK;have rx:=Be R x;have q:=Be R y;split at h
  case h_2=>cases h
  rename_i j r ys vy Q hY;split at h
  case h_2=>cases h
  rename_i ls u;cases h;obtain⟨v1,v2,v3,v4,_⟩:=hv;rw[Q]at rx;obtain⟨p,vs,g,I,EB⟩:=vH R u rx;have ex:a.eval x=vs.getD (r+1) undef:=by simp[zMR,EB]
  obtain⟨w',u',p',g1,J,g3,X,g5,g6,g7⟩:=zGs (ty:=o.type) I v3 (λb n=>(R.hr.cel j _ p b u g n).2.2) K hi hz F2 DJ Z2 (by rw[F2];exact YM R K q hY v1) v2 v4;refine BP.value (OI l hc ha ht) (by rw[ex];exact g1) ?_
  exact⟨vG R u g J g3 X g5 g6 g7 o.dst λϗ ρ' hq=>⟨p',_,hq,X.val,by
   grind⟩,.inl λt x y e=>by rw[l]at e;cases e⟩
 ·rename_i t x y l;split at h
  case h_2=>cases h
  rename_i pN;split at h
  case h_2=>cases h
  rename_i j r j' Q hY;split at h
  case h_2=>cases h
  rename_i ls r' Ϝ u;split at h
  case isFalse=>cases h
  rename_i hc;cases h;obtain⟨rfl,Y⟩:=hc;obtain⟨rfl,v2,_⟩:=hv;have rx:=Be R x;have q:=Be R y;rw[Q]at rx;rw[hY]at q;obtain⟨p,vs,g,I,EB⟩:=vH R u q;obtain⟨p2,SE,ex⟩:=rx;have:p2=p:=zAN<|SE.symm.trans g;subst this;cases Nw:P.info? t with
  |none=>rw[Nw]at Y;cases Y
  |some ti=>
  rw[Nw]at Y;have qV:a.eval x=.pointer (Z ⟨p2.blk,p2.off+r',V⟩):=by rw[ex];simp
  have ey:a.eval y=vs.getD 0 undef:=by simp[zMR,EB]
  obtain⟨W,g1,J,g3,X⟩:=zGr I rfl v2 Nw (by simpa using Y);refine BP.skip (s:=Instr.storeAt t (a.eval x)<|a.eval y) (by unfold ω;rw[l]) (w':=W) (by rw[qV,ey];exact g1) ?_
  have:=vG (a:=a) (p':={ p2 with val:=.tuple (vs.setIfInBounds (r'+1)<|vs.getD 0 undef) }) R u g (J.mono λb _ n=>by rw[show b=p2.blk from n];exact I.blk) (λb n=>⟨.inl n,by
   by_cases e:b=p2.blk
   ·rw[e];exact X
   ·obtain⟨c,t1,t2,hc⟩:=(R.hr.cel _ _ p2 b u g n).2.2;exact⟨c,t1,t2,(J.block b (zAM.1 hc).1 e).trans hc⟩⟩) g3 rfl rfl rfl V (Ϛ:=.any) (v:=undef) λ_ _ _=>trivial
  rw[pN];exact⟨this,.inr ⟨j',r',p2,t,x,y,l,Q,g,J.mono λb _ n=>by rw[show b=p2.blk from n];exact I.blk⟩⟩
 ·cases h
end
abbrev zPE:=@Bool.false_or
def ES(P:ν)(Γ:A2)(f:U)(ds:O DV)(h:DH)(Ϛ:DV)(h':DH)(ext:ζ):Prop:=
 (∃fn,P.funcs[f]?=Z fn/\fn.name≠ "runtime.NumGoroutine" /\fn.body.isSome=T)/\
 ∀(N:Ψ) (ρ:O AK) (w:κ) (args:υ μ),Ap P Γ N h ρ w->A3 (MS N h ρ) w ρ ds args->
  Calls P f args w λe w'=>∃v,e=.returned v/\CG P Γ N h ρ w ext Ϛ h' v w'
def fP(h h':DH):ζ:=(θ<|F h).all λk=>!(h.getD k V).isSome||(h'.getD k V).isSome
def TE(P:ν)(Γ:A2)(f:U)(ds:O DV)(h:DH)(Ϛ:DV)(h':DH)(k:U):Prop:=
 (∃fn,P.funcs[f]?=Z fn/\fn.name≠ "runtime.NumGoroutine" /\fn.body.isSome=T)/\
 ∀(N:Ψ) (ρ:O AK) (w:κ) (args:υ μ),Ap P Γ N h ρ w->A3 (MS N h ρ) w ρ ds args->
  Calls P f args w λe w'=>∃v,e=.returned v/\CG P Γ N h ρ w D Ϛ h' v w'/\AR (λb=>∃i o p,k<=i/\h[i]?=Z (Z o)/\ρ[i]?=Z p/\p.foot b) w w'
structure BT where
 calls:O (DV×DH×ζ)
 co:O (U×DV)
 fz:O (U×Fz):=[]
 tg:O (O (U×U)×St):=[]
def Ly(ops:υ Oper)(S:St)(o:Oper):A ζ:=match o.guard with
 |none=>Z T
 |some (j,u)=>match(ops[j]?).bind (·.dst)with
  |some t=>match S.fr.getD t .any with
   | .bool b=>Z<|b==u
   | .tup _ _=>Z D
   |_=>V
  |none=>V
def aF(k:O<|U×DV)(dst:A U)(Ϛ:DV):DV×O Prop×O (U×DV):=match k with
 |[]=>(Ϛ,[],[])
 |(t,d')::rest=>match dst with
  |some m=>C (m=t) (d',[AO Ϛ d'],rest) (Ϛ,[],k)
  |none=>(Ϛ,[],k)
def Oi(S:St):Op->ζ
 | .move _=>T
 | .assign _=>T
 | .pick .. =>T
 | .binOp .shl .. =>D
 | .binOp .shr .. =>D
 | .binOp .quo .. =>D
 | .binOp .rem .. =>D
 | .binOp _ _ _ y _=>match Ak S.fr y with
  | .nils=>D
  |_=>T
 | .unOp .. =>T
 | .convert .. =>T
 | .nilCheck _=>T
 | .fieldAddr .. =>T
 | .extract .. =>T
 | .makeFunc .. =>T
 | .build .. =>T
 | .field .. =>T
 | .call _=>T
 | .load _ x=>match Ak S.fr x with
  | .mp .. =>D
  |_=>T
 |_=>D
def zLl:Op->ζ
 | .box .. =>T
 | .alloc _=>T
 | .buildSlice .. =>T
 | .makeSlice .. =>T
 | .store .. =>T
 | .makeMap .. =>T
 | .mapUpdate .. =>T
 | .insert .. =>T
 | .lookup .. =>T
 | .range .. =>T
 | .entry _=>T
 | .call c=>match c.callee with
  | .builtin .append=>T
  | .value _=>T
  |_=>D
 |_=>D
def UK(P:ν)(ops:υ Oper)(S:St)(k:O<|U×DV)(o:Oper):A<|St×O Prop×O (U×DV):=match Ly ops S o with
 |none=>V
 |some D=>Z (⟨Cq S.fr o.dst Oh,S.h⟩,[],k)
 |some T=>match Xg P S o.op with
  |none=>V
  |some (Ϛ,a)=>match aF k o.dst Ϛ with
   |(d',vs,t)=>Z (⟨Cq S.fr o.dst d',S.h⟩,C (Oi S o.op) vs<|a::vs,t)
def Xa(P:ν)(ops:υ Oper):O Oper->St->O (U×DV)->A (St×O Prop×O (U×DV))
 |[],S,k=>Z (S,[],k)
 |o::rest,S,k=>match UK P ops S k o with
  |none=>V
  |some (S',vs,t)=>match Xa P ops rest S' t with
   |none=>V
   |some (p,Y,m)=>Z (p,vs++Y,m)
def QX(P:ν)(Γ:A2)(S:St)(q:O<|DV×DH×ζ):Op->A (DV×DH×O Prop×ζ×O (DV×DH×ζ))
 | .box _ x=>match KZ (Ak S.fr x)with
  |some l=>Z (.ref (F S.h) 0,S.h++[Z<|.cells l],[],T,q)
  |none=>V
 | .alloc t=>match P.info? t with
  |some i=>match i.zero with
   |some z=>if jm z then Z (.mp (F S.h) 1 0 0,S.h++[Z<|.bools<|d z.cells.size D],[],T,q)
    else Z (.ref (F S.h) 0,S.h++[Z<|.cells<|z.cells.toList.map PW],[],T,q)
   |none=>V
  |none=>V
 | .buildSlice t len parts=>match M6 P t with
  |some (k,_,_,_)=>if iZ parts.toList len&&H (len<=65536/\k.cells<=64)then match Vf k (parts.toList.map λx=>Ak S.fr x.2)with
   |some ob=>Z (.msl (F S.h) k.cells 0 len,S.h++[Z ob],[],T,q)
   |none=>V
   else V
  |none=>V
 | .makeSlice t x y=>match eP P t with
  |some (n,_,_)=>match Ak S.fr x,Ak S.fr y with
   | .int _ m,.int _ a=>Z (.msl (F S.h) 1 0 m.toNat,S.h++[Z<|.mo<|.sets n (d m.toNat V) V],[a=m/\0<=m/\m<=1000000000000],T,q)
   |_,_=>V
  |none=>match M6 P t with
   |some (k,_,i,z)=>if H (i.bytes<=128)then match Ak S.fr x,Ak S.fr y with
    | .int _ n,.int _ b=>Z (.msl (F S.h) k.cells 0 n.toNat,S.h++[Z<|yN k n.toNat z],[b=n/\0<=n/\n<=1000000000000],T,q)
    |_,_=>V
    else V
   |none=>V
 | .store t x y=>match Qu P S t (Ak S.fr x) (Ak S.fr y)with
  |some (h',o)=>Z (.any,h',[o],D,q)
  |none=>V
 | .call c=>match c.callee with
  | .builtin .append=>match c.args.toList with
   |[x,y]=>match c.argTypes.toList with
    |[t,e]=>if t=e then match Vp P S t (Ak S.fr x) (Ak S.fr y)with
     |some (Ϛ,h',o)=>Z (Ϛ,h',[o],D,q)
     |none=>V
     else V
    |_=>V
   |_=>V
  | .value f=>match Ak S.fr f,q with
   | .fn g m cap,(Ϛ,h',ext)::rest=>Z (Ϛ,h',[ES P Γ g (c.args.toList.map (Ak S.fr)++(θ m).map cap) S.h Ϛ h' ext],ext,rest)
   |_,_=>V
  |_=>V
 |op=>match nF P S op with
  |some (Ϛ,h',vs,ext)=>Z (Ϛ,h',vs,ext,q)
  |none=>V
def Sx(P:ν)(Γ:A2)(ops:υ Oper)(S:St)(w:BT)(o:Oper):A<|St×O Prop×ζ×BT:=match Ly ops S o with
 |none=>V
 |some D=>Z (⟨Cq S.fr o.dst Oh,S.h⟩,[],T,w)
 |some T=>match cP P S w.fz o with
  |some (S',vs,a)=>Z (S',vs,D,⟨w.calls,w.co,a,w.tg⟩)
  |none=>match bZ P S o with
  |some (S',vs)=>Z (S',vs,D,w)
  |none=>match QX P Γ S w.calls o.op with
   |none=>V
   |some (Ϛ,h',vs,ext,q)=>match aF w.co o.dst Ϛ with
    |(d',Y,t)=>match ZP w.fz o.dst ⟨Cq S.fr o.dst d',h'⟩with
     |none=>V
     |some (S',b,a)=>Z (S',vs++(Y++b),ext,⟨q,t,a,w.tg⟩)
def EL(P:ν)(Γ:A2)(ops:υ Oper):O Oper->St->BT->A (St×O Prop×BT)
 |[],S,w=>Z (S,[],w)
 |o::rest,S,w=>match zLl o.op with
  |true=>match Sx P Γ ops S w o with
   |none=>V
   |some (S',vs,_,q)=>match EL P Γ ops rest S' q with
    |none=>V
    |some (p,Y,n)=>Z (p,vs++Y,n)
  |false=>match UK P ops S w.co o with
   |none=>V
   |some (S',vs,t)=>match EL P Γ ops rest S' ⟨w.calls,t,w.fz,w.tg⟩with
    |none=>V
    |some (p,Y,n)=>Z (p,vs++Y,n)
def qy(P:ν)(Γ:A2)(b:DH)(ops:υ Oper)(S:St)(w:BT)(o:Oper):A<|St×O Prop×BT:=match o.op with
 | .call c=>match c.callee with
  | .value f=>match Ak S.fr f,w.calls with
   | .fn g m cap,(Ϛ,h',D)::rest=>match Ly ops S o,fP b S.h with
    |some T,T=>match aF w.co o.dst Ϛ with
     |(d',Y,t)=>match ZP w.fz o.dst ⟨Cq S.fr o.dst d',h'⟩with
      |some (S',a,e)=>Z (S',TE P Γ g (c.args.toList.map (Ak S.fr)++(θ m).map cap) S.h Ϛ h' (F b)::(Y++a),⟨rest,t,e,w.tg⟩)
      |none=>V
    |_,_=>V
   |_,_=>V
  |_=>V
 |_=>V
def bh(y:Θ)(b h:DH):DH:=match y with
 |[]=>b
 |_=>h
def Pu(P:ν)(Γ:A2)(ops:υ Oper):DH->O (Θ×U)->Θ->St->BT->A (St×O Prop×BT)
 |_,[],a,S,w=>match Xa P ops (CJ ops a) S w.co with
  |none=>V
  |some (S',vs,t)=>Z (S',vs,⟨w.calls,t,w.fz,w.tg⟩)
 |hb,(y,i)::k,a,S,w=>match Xa P ops (CJ ops y) S w.co with
  |none=>V
  |some (S',vs,t)=>match ops[i]? with
   |none=>V
   |some o=>match qy P Γ (bh y hb S.h) ops S' ⟨w.calls,t,w.fz,w.tg⟩ o with
    |some (p,Y,q)=>match Pu P Γ ops (bh y hb S.h) k a p q with
     |none=>V
     |some (b,c,R)=>Z (b,vs++(Y++c),R)
    |none=>match Sx P Γ ops S' ⟨w.calls,t,w.fz,w.tg⟩ o with
     |none=>V
     |some (p,Y,ext,q)=>match ext with
      |false=>V
      |true=>match Pu P Γ ops (bh y hb S.h) k a p q with
       |none=>V
       |some (b,c,R)=>Z (b,vs++(Y++c),R)
def hseq(P:ν)(Γ:A2)(ops:υ Oper)(a:DH)(J:O<|Θ×U)(w b:Θ)(S:St)(c:BT):A<|St×O Prop×BT:=match Pu P Γ ops a J w S c with
 |none=>V
 |some (S',vs,q)=>match EL P Γ ops (CJ ops b) S' q with
  |none=>V
  |some (p,Y,n)=>Z (p,vs++Y,n)
section
variable{P:ν}{Γ:A2}{N:Ψ}{S:St}{ρ:O AK}{a:Act}{w:κ}{ϖ:Fence}
structure Dk(ϖ:Fence)(P:ν):Prop where
 fn:∀f,ϖ.fn f
 dep:ϖ.depth=V
 calls:∀{f:FuncId} {args:υ μ} {w:κ} {R:Ending->κ->Prop},Calls P f args w R->CallsIn ϖ 0 P f args w R
def Dk.wide:Dk η P:=⟨λ_=>trivial,rfl,λh=>zTC.2 h⟩
def Dk.round(l:U):Dk (Fence.wide.inRound l) P:=⟨λ_=>trivial,rfl,λh=>CallsIn.inRound _<|zTC.2 h⟩
variable{o:Oper}{ops:υ Oper}
theorem H9(R:AS P Γ N S ρ a w){r:ζ}(h:Ly ops S o=Z r):Region.wanted o (yielded ops a.tmps)=r:=by
 unfold Ly at h;unfold Region.wanted;split at h
 ·grind
 ·rename_i j sT s;rw[s];split at h
  ·rename_i t v;split at h
   ·rename_i b e;cases h;have i:=R.fr.at t;rw[e]at i;have c:a.tmps.getD t undef=.bool b:=i
    have:a.tmps[t]?=Z (.bool b):=by
     rw[zMR]at c;cases g:a.tmps[t]? with
     |none=>rw[g]at c;cases c
     |some u=>grind
    simp[yielded,v,this]
   ·rename_i m f e;cases h;have i:=R.fr.at t;rw[e]at i;obtain⟨cs,c,_⟩:=i
    have:yielded ops a.tmps j=V:=by
     unfold yielded;rw[zMR]at c
     grind
    simp[this]
   ·cases h
  ·cases h
variable{ϗ:Ψ}{t k:O (U×DV)}{Ϛ:DV}
theorem aE{dst:A U}{d':DV}{vs:O Prop}(h:aF k dst Ϛ=(d',vs,t))(hv:BX vs){v:μ}(i:AJ ϗ w Ϛ ρ v):AJ ϗ w d' ρ v:=by
 unfold aF at h;split at h
 ·cases h;exact i
 ·split at h
  ·grind[BX,AO]
  ·cases h;exact i
theorem wn{a:Op}{o:Prop}(h:pop P S a=Z (Ϛ,o))(v:Oi S a=T):o:=by
 unfold pop at h;split at h
 ·cases h;trivial
 ·cases h;trivial
 ·grind
 ·simp only[Oi]at v;unfold Re at h
  grind
 ·unfold jM at h;split at h
  ·grind
  ·grind
  ·grind[Oi]
  ·grind[Oi]
  ·grind[Oi]
  ·cases v
  ·cases v
  ·cases v
  ·cases v
  ·split at h
   ·unfold jL at h
    grind
   ·cases h
  ·cases h
 ·grind
 ·grind
 ·grind
 ·grind
 ·cases v
 ·grind
 ·grind
 ·split at h
  ·unfold jJ at h;split at h
   ·split at h
    ·split at h
     ·unfold fD at h;split at h;· grind
      unfold fE at h;grind
     ·cases h
    ·cases h
   ·split at h
    ·unfold nB at h
     grind
    ·cases h
   ·split at h
    ·unfold nA at h
     grind
    ·cases h
   ·cases h
  ·cases h
 ·cases h
theorem zQG{a:BinOp}{t:ψ}{x y:DV}{o:Prop}(h:Ze P a t x y=Z (Ϛ,o)):o:=by
 unfold Ze at h
 grind
theorem zDi{a:Op}{o:Prop}(h:Xg P S a=Z (Ϛ,o))(v:Oi S a=T):o:=by
 unfold Xg at h;split at h
 ·grind
 ·grind[fC]
 ·cases v
 ·unfold iE at h
  repeat' (split at h)
  all_goals grind
 ·cases v
 ·grind[zQG,wn]
 ·exact wn h v
theorem XY(R:AS P Γ N S ρ a w){S':St}{vs:O Prop}(h:UK P ops S k o=Z (S',vs,t))(c:BX vs):
 S'.h=S.h/\((Region.wanted o (yielded ops a.tmps)=T/\∃v,(∀W,Keep N w W->(ω a.eval o).run P W=.ok (.value v) W)/\AS P Γ N S' ρ (a.put o.dst v) w)∨(Region.wanted o (yielded ops a.tmps)=D/\AS P Γ N S' ρ (a.put o.dst undef) w)):=by
 unfold UK at h;split at h
 ·cases h
 ·rename_i b;cases h;exact⟨rfl,.inr ⟨H9 R b,Gw R _ bH⟩⟩
 ·rename_i b;split at h
  ·cases h
  ·rename_i Ϛ e f;split at h;rename_i d' Y zBe X;cases h
   have q:e/\BX Y:=by
    by_cases g:Oi S o.op=T
    ·rw[zAB g]at c;grind[zDi]
    simp_all[BX]
   obtain⟨v,p,u⟩:=zJF R o f q.1;exact⟨rfl,.inl ⟨H9 R b,v,p,Gw R _<|aE X q.2 u⟩⟩
theorem XZ{Q:Act->Prop}:∀(l:O Oper) {S:St} {a:Act} {k:O (U×DV)} {S':St} {vs:O Prop} {t:O (U×DV)},AS P Γ N S ρ a w->Xa P ops l S k=Z (S',vs,t)->BX vs->
 (∀b,S'.h=S.h->AS P Γ N S' ρ b w->b.defers=a.defers->Q b)->wpQuiet P ops (λw'=>∃x:aj w,w'=x.W) Q l a
 |[],S,a,k,S',vs,t,R,h,_,c=>by
  cases h;exact c a rfl R rfl
 |o::rest,S,a,k,S',vs,t,R,h,m,c=>by
  simp only[Xa]at h;split at h
  ·cases h
  ·rename_i S1 DE OQ n;split at h
   ·cases h
   ·rename_i S2 Eg qk g;cases h;obtain⟨r,i⟩:=D5.1 m;obtain⟨y,p⟩:=XY R n r;unfold wpQuiet;have I:∀v,(a.put o.dst v).defers=a.defers:=λv=>by cases ho:o.dst <;> simp[Act.put]
    rcases p with⟨j,v,q,u⟩|⟨j,u⟩
    ·rw[zAB j];refine⟨v,?_,XZ rest u g i λb e z f=>c b (e.trans y) z<|f.trans<|I v⟩;rintro W ⟨x,rfl⟩;unfold Oper.quietAt;rw[q x.W<|Keep.ofExt x.le];exact⟨rfl,rfl⟩
    ·rw[zAt Z4];exact XZ rest u g i λb e z f=>c b (e.trans y) z<|f.trans<|I undef
theorem A3.append{l l':O DV}{t m:υ μ}(h:A3 ϗ w ρ l t)(h':A3 ϗ w ρ l' m):A3 ϗ w ρ (l++l')<|t++m:=by
 refine⟨by simp[h.1,h'.1],λi hi=>?_⟩;rcases zCv i (F l)with hl|hl
 ·have:=h.2 i hl
  simp_all[A3]
 ·have Q:i-F l<F l':=by simp at hi;omega
  have:=h'.2 _ Q
  simp_all[A3]
theorem zHQ{g:U}{args:υ μ}{fn:Func}(N:P.funcs[g]?=Z fn)(a:fn.name≠ "runtime.NumGoroutine")(zAE:fn.body.isSome=T):(callFunc g args).run P w=.ok (.enter g args) w:=by
 have e:fn.body.isNone=D:=by simp_all
 have W:(fn.name== "runtime.NumGoroutine")=D:=by simpa using a
 unfold callFunc;rw[zLX,show Sem.run P program w=.ok P w from rfl];simp only[Result.andThen,N,W,e,zMe,zTQ];rfl
variable{cap:U->DV}{m:U}{f:Operand}{c:Call}
theorem aJ(R:AS P Γ N S ρ a w){g:U}(o:Oper)(x:o.op=.call c)(hc:c.callee=.value f)(j:Ak S.fr f=.fn g m cap)
 (b:∀args W,(callFunc g args).run P W=.ok (.enter g args) W):∃args,(ω a.eval o).run P w=.ok (.enter g args) w/\A3 (MS N S.h ρ) w ρ (c.args.toList.map (Ak S.fr)++(θ m).map cap) args:=by
 have e:=Be R f;rw[j]at e;obtain⟨n,k,l,SM⟩:=e;refine⟨c.args.map a.eval++n,?_,A3.append ⟨Z3,λi hi=>?_⟩ ⟨by simp[l],λi hi=>?_⟩⟩
 ·unfold ω;rw[x]
  show(resolve a.eval c o.type>>=λϚ=>invoke Ϛ.target Ϛ.args).run P w=_
  unfold resolve;rw[hc];simp only[Deferred.ofValue,k];have p:((pure { target:=.fn (.func g) n,args:=#[]++Array.map a.eval c.args }:Sem Deferred)>>=λϚ=>invoke Ϛ.target Ϛ.args).run P w=(callFunc g<|#[]++Array.map a.eval c.args++n).run P w:=rfl;rw[p,b];simp
 ·have Q:i<c.args.size:=by simpa using hi
  have:=Be R c.args[i];simp[Q,this]
 simp_all
variable{G:μ->κ->Prop}
def zBv(R:AS P Γ N S ρ a w){g:U}(o:Oper)(x:o.op=.call c)(hc:c.callee=.value f)(b:Ak S.fr f=.fn g m cap)
 (i:∃fn,P.funcs[g]?=Z fn/\fn.name≠ "runtime.NumGoroutine" /\fn.body.isSome=T) (s:∀args,A3 (MS N S.h ρ) w ρ (c.args.toList.map (Ak S.fr)++(θ m).map cap) args->Calls P g args w λe w'=>∃v,e=.returned v/\G v w'):BP P (ω a.eval o) w G:=
 let⟨_,j,k,l⟩:=i
 let⟨args,n,X⟩:=aJ R o x hc b λ_ _=>zHQ j k l
 .inr (.inr ⟨g,args,w,n,s _ X⟩)
variable{ext:ζ}{h':DH}
theorem zR4(R:AS P Γ N S ρ a w){g:U}(o:Oper)(x:o.op=.call c)(hc:c.callee=.value f)(b:Ak S.fr f=.fn g m cap)
 (s:ES P Γ g (c.args.toList.map (Ak S.fr)++(θ m).map cap) S.h Ϛ h' ext):BP P (ω a.eval o) w<|CG P Γ N S.h ρ w ext Ϛ h':=
 zBv R o x hc b s.1 λargs e=>s.2 N ρ w args R.hr e
theorem rh(R:AS P Γ N S ρ a w){q:O (DV×DH×ζ)}{vs:O Prop}{g:O (DV×DH×ζ)}(h:QX P Γ S q o.op=Z (Ϛ,h',vs,ext,g))(b:BX vs):
 BP P (ω a.eval o) w (CG P Γ N S.h ρ w ext Ϛ h'):=by
 unfold QX at h;split at h
 ·grind[zR9]
 ·grind[zSp,zSo]
 ·split at h
  ·split at h
   ·grind[zR7]
   ·cases h
  ·cases h
 ·split at h
  ·split at h
   ·cases h;obtain⟨⟨rfl,i,n⟩,_⟩:=b
    grind[zKf]
   ·cases h
  split at h
  ·split at h
   ·split at h
    ·cases h;obtain⟨⟨rfl,i,n⟩,_⟩:=b
     grind[zKe]
    ·cases h
   ·cases h
  ·cases h
 ·rename_i t x y j;split at h
  ·grind[uK,BX]
  ·cases h
 ·rename_i c j;split at h
  ·rename_i hc;split at h
   ·rename_i x y ha;split at h
    ·rename_i t t' ht;split at h
     ·rename_i e;subst e;split at h
      ·grind[zCS,BX]
      ·cases h
     ·cases h
    ·cases h
   ·cases h
  ·rename_i f hc;split at h
   ·grind[zR4,BX]
   ·cases h
  ·cases h
 grind[zKa]
variable{Q:Exit->Act->κ->Prop}{K:Act->κ->Prop}
theorem M7(k:Dk ϖ P)(r:∀c,o.op≠.defer c)(h:BP P (ω a.eval o) w G)(S:∀v w',G v w'->K (a.put o.dst v) w'):o.wpIn ϖ 0 P a w K Q:=by
 refine⟨λf _=>k.fn f,?_⟩;rw[zMi _ _ _ r];rcases h with⟨v,w',b,e⟩|⟨w',b,e⟩|⟨f,args,w',b,e⟩
 ·rw[b];exact S v w' e
 ·rw[b];exact S undef w' e
 ·rw[b];refine⟨λg=>(by rw[k.dep]at g;cases g),(k.calls e).mono ?_⟩
  grind
def rH(k:Dk ϖ P)(R:AS P Γ N S ρ a w){m:BT}(r:∀c,o.op≠.defer c){S':St}{vs:O Prop}{q:BT}(h:Sx P Γ ops S m o=Z (S',vs,ext,q))(g:BX vs)
   (b:∀ρ' i w',AS P Γ N S' ρ' i w'->Di S.h ρ w S'.h ρ' w'->i.defers=a.defers->(ext=T->A9 w w')->K i w'):
 C (Region.wanted o<|yielded ops a.tmps) (o.wpIn ϖ 0 P a w K Q) ((∀f,o.about P w a.eval=Z f->ϖ.fn f)/\K (a.put o.dst undef) w):=by
 have I:∀v,(a.put o.dst v).defers=a.defers:=λv=>by cases ho:o.dst <;> simp[Act.put]
 unfold Sx at h;split at h
 ·cases h
 ·rename_i j;cases h;rw[zAt<|by rw[H9 R j];exact Bool.false_ne_true];exact⟨λf _=>k.fn f,b ρ _ _ (Gw R _ bH) (Di.refl _ _ _) (I _) λ_=>A9.refl w⟩
 ·rename_i j;rw[zAB<|H9 R j];split at h
  ·rename_i y z fz1 l;cases h;exact M7 k r (vI R l g) λv w' ⟨⟨ρ',p,u⟩,_⟩=>b ρ' _ _ p u (I v) λe=>by cases e
  split at h
  ·rename_i y z l;cases h;exact M7 k r (uJ R l g) λv w' ⟨⟨ρ',p,u⟩,_⟩=>b ρ' _ _ p u (I v) λe=>by cases e
  split at h
  ·cases h
  ·rename_i Ϛ h1 z ext1 calls n;split at h;rename_i d' CI Dw X;split at h
   ·cases h
   ·rename_i S2 TR Mx s;cases h;obtain⟨t,x⟩:=D5.1 g;obtain⟨J,W⟩:=D5.1 x;refine M7 k r (rh R n t) λv w' G=>?_
    obtain⟨ρ',p,u⟩:=QB R o.dst G (d':=d') λϗ ρ' Y=>aE X J Y
    obtain⟨g3,g4⟩:=ZO _ s W P Γ N ρ' _ _ p;exact b ρ' _ _ g3 (u.trans ⟨g4,λ_ _ h=>h⟩) (I v) G.ext
theorem Mv(k:Dk ϖ P)(Y:Ca ops=T):∀(l:O Oper) (_:∀o∈l,o∈ops) {S:St} {ρ:O AK} {a:Act} {w:κ} {g:BT} {S':St} {vs:O Prop} {q:BT},
 AS P Γ N S ρ a w->EL P Γ ops l S g=Z (S',vs,q)->BX vs->
 (∀ρ' b w',AS P Γ N S' ρ' b w'->Di S.h ρ w S'.h ρ' w'->b.defers=a.defers->Q .normal b w')->wpListIn ϖ 0 P ops Q l a w
 |[],_,S,ρ,a,w,g,S',vs,q,R,h,_,x=>by
  cases h;exact x ρ a w R (Di.refl _ _ _) rfl
 |o::rest,G,S,ρ,a,w,g,S',vs,q,R,h,I,x=>by
  have J:∀c,o.op≠.defer c:=by
   obtain⟨j,hj,e⟩:=Array.getElem_of_mem<|G o Z3
   grind[Ca]
  have K:∀o∈rest,o∈ops:=λo W=>G o (by simp[W])
  have Cu:∀v,(a.put o.dst v).defers=a.defers:=λv=>by cases W:o.dst <;> simp[Act.put]
  simp only[EL]at h;unfold wpListIn;split at h
  ·split at h
   ·cases h
   ·rename_i X DE ext1 FD i;split at h
    ·cases h
    ·rename_i S2 Eg Gc m;cases h;obtain⟨r,t⟩:=D5.1 I;exact rH k R J i r λρ' b w' R' st Du _=>Mv k Y rest K R' m t λρ'' n p s u y=>x ρ'' n p s (st.trans u)<|y.trans Du
  ·split at h
   ·cases h
   ·rename_i X DE OQ i;split at h
    ·cases h
    ·rename_i S2 Eg Gc m;cases h;obtain⟨r,t⟩:=D5.1 I;obtain⟨e1,hs⟩:=XY R i r
     have go:∀v,AS P Γ N X ρ (a.put o.dst v) w->wpListIn ϖ 0 P ops Q rest (a.put o.dst v) w:=λv R'=>
      Mv k Y rest K R' m t λρ'' n p s u y=>x ρ'' n p s (by rw[←e1];exact u)<|y.trans<|Cu v
     rcases hs with⟨hw,v,g1,z⟩|⟨hw,z⟩
     ·rw[zAB hw];refine⟨λf _=>k.fn f,?_⟩;rw[zMi _ _ _ J,g1 w<|Keep.ofExt<|A9.refl w];exact go v z
     ·rw[zAt Z4];exact⟨λf _=>k.fn f,go undef z⟩
theorem NZ :∀(l:Θ),∀o∈CJ ops l,o∈ops
 |[],o,h=>by simp[CJ]at h
 |i::l,o,h=>by
  simp only[CJ]at h;split at h
  ·rename_i o' ho;rcases zMk.1 h with rfl|h
   ·grind
   ·exact NZ l o h
  ·exact NZ l o h
def zBw(l:Dk ϖ P)(R:AS P Γ N S ρ a w){j:DH}{n:BT}{S':St}{vs:O Prop}{q:BT}(h:qy P Γ j ops S n o=Z (S',vs,q))(s:BX vs)
   (t:∀ρ' k w',AS P Γ N S' ρ' k w'->Di S.h ρ w S'.h ρ' w'->k.defers=a.defers->AR (λb=>∃i o p,F j<=i/\S.h[i]?=Z (Z o)/\ρ[i]?=Z p/\p.foot b) w w'->K k w'):
 fP j S.h=T/\C (Region.wanted o<|yielded ops a.tmps) (o.wpIn ϖ 0 P a w K Q) ((∀f,o.about P w a.eval=Z f->ϖ.fn f)/\K (a.put o.dst undef) w):=by
 have I:∀v,(a.put o.dst v).defers=a.defers:=λv=>by cases x:o.dst <;> simp[Act.put]
 unfold qy at h;split at h
 case h_2=>cases h
 rename_i c x;split at h
 case h_2=>cases h
 rename_i f hc;split at h
 case h_2=>cases h
 rename_i g m cap Ϛ h' rest u hcalls;split at h
 case h_2=>cases h
 rename_i y hk;split at h;rename_i d' CI Dw X;split at h
 case h_2=>cases h
 rename_i S1 TR Mx z;cases h;obtain⟨r,J⟩:=s;obtain⟨W,Y⟩:=D5.1 J;refine⟨hk,?_⟩;rw[zAB<|H9 R y];refine M7 l (λc e=>by rw[x]at e;cases e) (zBv R o x hc u r.1 λargs ha=>r.2 N ρ w args R.hr ha) λv w' G=>?_
 obtain⟨ρ',g1,g2⟩:=QB R o.dst G.1 (d':=d') λϗ ρ' hr=>aE X W hr
 obtain⟨g3,g4⟩:=ZO _ z Y P Γ N ρ' _ _ g1;exact t ρ' _ _ g3 (g2.trans ⟨g4,λ_ _ h=>h⟩) (I v) G.2
variable{b:κ}{ρb:O AK}
theorem zKJ{a h:DH}{ρ:O AK}{w w':κ}(HR:Ap P Γ N h ρ w)(c:Di a ρb b h ρ w)(s:A9 b w)(hk:fP a h=T)(t:AR (λx=>∃i o p,F a<=i/\h[i]?=Z (Z o)/\ρ[i]?=Z p/\p.foot x) w w'):A9 b w':=by
 refine((AR.ofExt (S:=λx=>∃i o p,F a<=i/\h[i]?=Z (Z o)/\ρ[i]?=Z p/\p.foot x) s).comp t λ_ _ h=>h).toExt ?_;rintro x hx ⟨i,o,p,h1,e,f,R⟩;rcases c.st.grow x ⟨i,o,p,e,f,R⟩with⟨k,o',q,g,u,j⟩|Iu
 ·have l:=(zDh.1 g).1;have:=zAP.1 hk k<|zAV.2 l;rw[show(a.getD k V).isSome=T by grind,zMv,zPE]at this;obtain⟨Q,r⟩:=zTg.1 this;have r:h[k]?=Z (Z Q):=getD_some r;exact HR.dis i k o Q p q x Z2 e r f (c.pl k q u) R j
 ·omega
theorem fv(k:Dk ϖ P)(Y:Ca ops=T){Q:Exit->Act->κ->Prop}:∀(DM:O<|Θ×U) (e c:Θ) {S:St} {ρ:O AK} {a:Act} {w:κ} {q:BT} {S':St} {vs:O Prop} {r:BT} {f:DH} {ρb:O AK} {b:κ},
 (c.all λt=>decide (t<ops.size))=T->AS P Γ N S ρ a w->Di f ρb b S.h ρ w->A9 b w->Pu P Γ ops f DM e S q=Z (S',vs,r)->BX vs->
 (∀ρ' g w',AS P Γ N S' ρ' g w'->Di S.h ρ w S'.h ρ' w'->g.defers=a.defers->wpListIn ϖ 0 P ops Q (CJ ops c) g w')->SK ϖ 0 P ops Q b DM e c a w
 |[],e,c,S,ρ,a,w,q,S',vs,r,f,ρb,b,v,R,_,_,h,s,x=>by
  grind[Pu,zOd,XZ,Di.refl]
 |(y,i)::Ge,e,c,S,ρ,a,w,q,S',vs,r,f,ρb,b,v,R,hS,hE,h,s,x=>by
  have E3:∃ρb',Di (bh y f S.h) ρb' (bw y b w) S.h ρ w/\A9 (bw y b w) w:=by
   cases y with
   |nil=>exact⟨ρb,hS,hE⟩
   |cons s0 ss=>exact⟨ρ,Di.refl _ _ _,A9.refl w⟩
  obtain⟨ρb',z,p⟩:=E3;simp only[Pu]at h;split at h
  ·cases h
  ·rename_i S1 DE OQ h1;split at h
   ·cases h
   ·rename_i o G;split at h
    ·rename_i S2 Eg Gc l;split at h
     ·cases h
     ·rename_i S3 TQ Nh I;cases h;obtain⟨J,W⟩:=D5.1 s;obtain⟨m,X⟩:=D5.1 W;refine XZ _ R h1 J λg n R' Du=>?_
      unfold wpOpIn;simp only[G];have hk:fP (bh y f S.h) S1.h=T:=(zBw (K:=λ_ _=>True) (Q:=λ_ _ _=>True) k R' l m λ_ _ _ _ _ _ _=>trivial).1;refine(zBw k R' l m λρ'' Hp C1 EY u LS hu=>?_).2;rw[n]at u hk;have j:A9 (bw y b w) C1:=zKJ R.hr z p hk (by rw[n]at hu;exact hu);exact⟨j,fv k Y Ge e c v EY (z.trans u) j I X λρ3 a3 w3 R3 D1 pP=>x ρ3 a3 w3 R3 (u.trans D1)<|pP.trans<|LS.trans Du⟩
    ·split at h
     ·cases h
     ·rename_i S2 Eg ext Gc l;split at h
      ·cases h
      ·split at h
       ·cases h
       ·rename_i S3 TQ Nh I;cases h;obtain⟨J,W⟩:=D5.1 s;obtain⟨m,X⟩:=D5.1 W;refine XZ _ R h1 J λg n R' Du=>?_
        unfold wpOpIn;simp only[G];refine rH k R' (IR Y G) l m λρ'' Hp C1 EY u LS Ms=>?_
        rw[n]at u;have j:A9 (bw y b w) C1:=p.trans<|Ms rfl;exact⟨j,fv k Y Ge e c v EY (z.trans u) j I X λρ3 a3 w3 R3 D1 pP=>x ρ3 a3 w3 R3 (u.trans D1)<|pP.trans<|LS.trans Du⟩
def zMo(k:Dk ϖ P)(Y:Ca ops=T)(J:O<|Θ×U)(e c:Θ){S:St}{ρ:O AK}{a:Act}{w:κ}{g:BT}{S':St}{vs:O Prop}{q:BT}{f:DH}
 (v:(c.all λt=>decide (t<ops.size))=T) (R:AS P Γ N S ρ a w) (i:Di f ρb b S.h ρ w) (j:A9 b w) (h:hseq P Γ ops f J e c S g=Z (S',vs,q)) (l:BX vs)
 (x:∀ρ' o w',AS P Γ N S' ρ' o w'->Di S.h ρ w S'.h ρ' w'->o.defers=a.defers->Q .normal o w'):SK ϖ 0 P ops Q b J e c a w:=by
 unfold hseq at h;split at h
 ·cases h
 rename_i S1 DE FD p;split at h
 ·cases h
 rename_i S2 Eg Gc u;cases h;obtain⟨r,m⟩:=D5.1 l;exact fv k Y J e c v R i j p r λρ1 a1 w1 X n s=>Mv k Y _ (NZ c) X u m λρ2 y z G I K=>x ρ2 y z G (n.trans I)<|K.trans s
end
abbrev zMT:=@Go.wpIn_seq
abbrev zTM:=@Go.wpIn_skip
abbrev zTS:=@Go.wpIn_ret
section
def Bm(Ϝ:U)(ρ ρ':O AK):Prop:=∀(k:U) (p:AK),k<Ϝ->ρ[k]?=Z p->ρ'[k]?=Z p
theorem Bm.refl(Ϝ:U)(ρ:O AK):Bm Ϝ ρ ρ:=λ_ _ _ h=>h
variable{Ϝ:U}
def Bm.trans{a b c:O AK}(h:Bm Ϝ a b)(k:Bm Ϝ b c):Bm Ϝ a c:=λi p hi e=>k i p hi<|h i p hi e
structure Bd(ϖ:Fence)(ϙ:A U)(w:κ):Prop where
 le:∀b,ϙ=Z b->b<=w.heap.size
 rd:∀l,ϖ.round=Z l->∃r,w.heap[l]?=Z (.loop r)
variable{w:κ}
theorem Bd.step{P:ν}{Γ:A2}{N:Ψ}{h h':DH}{ρ ρ':O AK}{ϖ:Fence}{ϙ:A U}{w':κ}(b:Bd ϖ ϙ w)(Ϙ:Ap P Γ N h ρ w)(st:A8 h ρ w h' ρ' w'):Bd ϖ ϙ w':=
 ⟨λx e=>zAO (b.le x e) st.upd.size,λl m=>by
  obtain⟨r,i⟩:=b.rd l m;refine⟨r,(st.upd.block l (zAM.1 i).1 ?_).trans i⟩;rintro⟨k,o,p,a,f,g⟩;obtain⟨_,_,c,t,z,h4⟩:=Ϙ.cel k o p l a f g
  grind[gQ]⟩
def Bd.wide{ϙ:U}(h:ϙ<=w.heap.size):Bd η (Z ϙ) w:=⟨λb e=>by cases e;exact h,λl m=>by cases m⟩
def Bd.none :Bd η V w:=⟨λb e=>(by cases e),λl m=>by cases m⟩
def Ki:A U->O Deferred->κ->Prop
 |none,ds,_=>ds= []
 |some ϙ,ds,w=>E4 ϙ ds w
structure BS(P:ν)(Γ:A2)(Ϝ:U) where
 I:(Ψ)->DH->O AK->κ->Prop
 st:∀{N:Ψ} {h:DH} {ρ:O AK} {w:κ} {h':DH} {ρ':O AK} {w':κ},I N h ρ w->Ap P Γ N h ρ w->Ap P Γ N h' ρ' w'->A8 h ρ w h' ρ' w'->Bm Ϝ ρ ρ'->I N h' ρ' w'
def Tg(P:ν)(Γ:A2)(Ϝ:U)(S:Ψ)(h0:DH)(ρ0:O AK)(w0:κ):BS P Γ Ϝ where
 I:=λN h ρ w=>N=S/\A8 h0 ρ0 w0 h ρ w/\Bm Ϝ ρ0 ρ
 st:=λ⟨e,s,k⟩ _ _ st W=>⟨e,s.trans st,k.trans W⟩
abbrev QY(P:ν)(Γ:A2)(Ϝ:U):=Exit->St->BS P Γ Ϝ->Prop
def QE{P:ν}{Γ:A2}{Ϝ:U}(Q:QY P Γ Ϝ):Exit->St->BS P Γ Ϝ->Prop
 | .outgrown,_,_=>False
 |e,S,Y=>Q e S Y
def Tr(P:ν)(Γ:A2)(ϖ:Fence)(ϙ:A U)(Ϝ:U)(Y:BS P Γ Ϝ)(c:Code)(S:St)(Q:QY P Γ Ϝ):Prop:=∀N ρ a w,AS P Γ N S ρ a w->Y.I N S.h ρ w->Ki ϙ a.defers w->Bd ϖ ϙ w->c.wpIn ϖ 0 P (λe o w'=>∃S' ρ' l R,QE Q e S' R/\AS P Γ l S' ρ' o w'/\R.I l S'.h ρ' w'/\Ki ϙ o.defers w'/\Bd ϖ ϙ w') a w
def BB(Ϝ:U)(S S':St):Prop:=∀P Γ N ρ a w,AS P Γ N S ρ a w->∃ρ',AS P Γ N S' ρ' a w/\A8 S.h ρ w S'.h ρ' w/\Bm Ϝ ρ ρ'
theorem BB.refl(Ϝ:U)(S:St):BB Ϝ S S:=λ_ _ _ ρ _ _ R=>⟨ρ,R,A8.refl _ _ _,Bm.refl _ _⟩
def BB.trans{ϕ ϙ ϛ:St}(h:BB Ϝ ϕ ϙ)(k:BB Ϝ ϙ ϛ):BB Ϝ ϕ ϛ:=λP Γ N ρ a w R=>by
 obtain⟨ρ1,X,z,I⟩:=h P Γ N ρ a w R;obtain⟨ρ2,g,b,K⟩:=k P Γ N ρ1 a w X;exact⟨ρ2,g,z.trans b,I.trans K⟩
section
variable{P:ν}{Γ:A2}{N:Ψ}{S:St}{ϖ:Fence}{ϙ:A U}{Ϝ:U}{Y:BS P Γ Ϝ}{Q Q':QY P Γ Ϝ}
variable{e:Exit}
theorem QE.mono(h:∀e S Y,Q e S Y->Q' e S Y){S:St}(f:QE Q e S Y):QE Q' e S Y:=by
 cases e <;> first|exact f|exact h _ _ _ f
variable{c:Code}
theorem Tr.mono(h:Tr P Γ ϖ ϙ Ϝ Y c S Q)(f:∀e S Y,Q e S Y->Q' e S Y):Tr P Γ ϖ ϙ Ϝ Y c S Q':=λN ρ a w R y m b=>
 zOa (h N ρ a w R y m b) λ_ _ _ ⟨S',ρ',l,g,i,j⟩=>⟨S',ρ',l,g,i.mono f,j⟩
variable{S':St}
def Tr.weaken(q:BB Ϝ S S')(h:Tr P Γ ϖ ϙ Ϝ Y c S' Q):Tr P Γ ϖ ϙ Ϝ Y c S Q:=λN ρ a w R y m b=>by
 obtain⟨ρ1,X,z,I⟩:=q P Γ N ρ a w R;exact h N ρ1 a w X (Y.st y R.hr X.hr z I) m b
variable{w':κ}{ρ ρ':O AK}
theorem Xx{h':DH}{ds:O Deferred}{w:κ}(Ϙ:Ap P Γ N S.h ρ w)(st:A8 S.h ρ w h' ρ' w')(m:Ki ϙ ds w):Ki ϙ ds w':=by
 cases ϙ with
 |none=>exact m
 |some ϙ=>
 refine E4.upd st.upd m λk _ hk e=>?_
 obtain⟨i,o,p,a,b,f⟩:=hk;obtain⟨_,_,c,t,z,h4⟩:=Ϙ.cel i o p k a b f
 grind[gQ]
theorem Tr.skip(h:Q .normal S Y):Tr P Γ ϖ ϙ Ϝ Y .skip S Q:=λN ρ _ _ R y m b=>zTM ⟨S,ρ,N,Y,h,R,y,m,b⟩
def Tr.ret(h:Q .ret S Y):Tr P Γ ϖ ϙ Ϝ Y .ret S Q:=λN ρ _ _ R y m b=>zTS ⟨S,ρ,N,Y,h,R,y,m,b⟩
variable{id:U}
def Tr.exit(h:Q (.exit id) S Y):Tr P Γ ϖ ϙ Ϝ Y (.exit id) S Q:=λN ρ _ _ R y m b=>wpIn_exit ⟨S,ρ,N,Y,h,R,y,m,b⟩
def Qs(K:St->BS P Γ Ϝ->Prop)(Q:QY P Γ Ϝ):QY P Γ Ϝ
 | .normal,S,Y=>K S Y
 |e,S,Y=>Q e S Y
variable{x y:Code}
def Tr.seq(h:Tr P Γ ϖ ϙ Ϝ Y x S<|Qs (λS' f=>Tr P Γ ϖ ϙ Ϝ f y S' Q) Q):Tr P Γ ϖ ϙ Ϝ Y (.seq x y) S Q:=λN ρ a w R y m b=>by
 refine zMT<|zOa (h N ρ a w R y m b) ?_;rintro e o w' ⟨S',ρ',l,f,g,i,k,j,X⟩;cases e with
 |normal=>exact g l ρ' o w' i k j X
 |ret=>exact⟨S',ρ',l,f,g,i,k,j,X⟩
 |exit id=>exact⟨S',ρ',l,f,g,i,k,j,X⟩
 |goto t=>exact⟨S',ρ',l,f,g,i,k,j,X⟩
 |panic c=>exact⟨S',ρ',l,f,g,i,k,j,X⟩
 |outgrown=>exact g.elim
variable{b:ζ}
theorem Tr.cond{c:Operand}(hc:Ak S.fr c=.bool b)(h1:b=T->Tr P Γ ϖ ϙ Ϝ Y x S Q)(h2:b=D->Tr P Γ ϖ ϙ Ϝ Y y S Q):Tr P Γ ϖ ϙ Ϝ Y (.cond c x y) S Q:=λN ρ a w R y m bb=>by
 have i:=Be R c;rw[hc]at i;refine wpIn_cond (t:=b) i ?_
 grind[Tr]
variable{a:Act}
def zC4{ϖ:Fence}{n:U}{P:ν}{Q:Exit->Act->κ->Prop}{w:κ}(h:c.wpIn ϖ n P (Exit.noGoto Q) a w):(Code.scope c).wpIn ϖ n P Q a w:=by
 intro b k cs o j m;have h0:(lone (b.atR a<|.code (.scope c)::k) cs w).fenced P ϖ:=zOe j m rfl;have f:step P (lone (b.atR a<|.code (.scope c)::k) cs w)=.next (lone (b.atR a<|.code c:: .inScope c::k) cs w):=step_lone_go (by simp[stepG,stepG.exec,Frame.atR]);obtain⟨e,u,v,g,i⟩:=h b (.inScope c::k) cs o j m;have z:step P (lone (b.atR u<|.inScope c::k) cs v)=.next (lone (b.atR u k) cs v):=step_lone_go (by simp[stepG,stepG.exec,Frame.atR]);cases e with
 |normal=>exact⟨.normal,u,v,g,.head h0 f<|zMu i<|.one (zOe j m rfl) z⟩
 |exit id=>exact⟨.exit id,u,v,g,λW hk=>.head h0 f<|i.1 W hk,λx hk=>let⟨p,q,r⟩:=i.2 x hk;⟨p,q,.head h0 f r⟩⟩
 |goto l=>exact g.elim
 |ret=>exact⟨_,u,v,g,.of_steps (.one h0 f) i⟩
 |panic ch=>exact⟨_,u,v,g,.of_steps (.one h0 f) i⟩
 |outgrown=>exact⟨_,u,v,g,.of_steps (.one h0 f) i⟩
def zKH(Q:QY P Γ Ϝ):QY P Γ Ϝ
 | .goto _,_,_=>False
 |e,S,Y=>Q e S Y
def Tr.scope(h:Tr P Γ ϖ ϙ Ϝ Y c S<|zKH Q):Tr P Γ ϖ ϙ Ϝ Y (.scope c) S Q:=λN ρ a w R y m b=>by
 refine zC4<|zOa (h N ρ a w R y m b) ?_;rintro e a' w' ⟨S',ρ',g,i,f,j⟩;cases e with
 |goto l=>exact f.elim
 |_=>exact⟨S',ρ',g,i,f,j⟩
def Tr.label{l:U}(h:Q .normal S Y):Tr P Γ ϖ ϙ Ϝ Y (.label l) S Q:=λN ρ a w R y m b=>wpIn_label ⟨S,ρ,N,Y,h,R,y,m,b⟩
def zB4(id:U)(Q:QY P Γ Ϝ):QY P Γ Ϝ
 | .exit i,S,Y=>C (i=id) (Q .normal S Y)<|Q (.exit i) S Y
 |e,S,Y=>Q e S Y
theorem Tr.block(h:Tr P Γ ϖ ϙ Ϝ Y c S<|zB4 id Q):Tr P Γ ϖ ϙ Ϝ Y (.block id c) S Q:=λN ρ a w R y m b=>by
 refine wpIn_block<|zOa (h N ρ a w R y m b) ?_;rintro e a' w' ⟨S',ρ',l,g,f,j⟩;cases e with
 |exit i=>
  show C (i=id) _ _
  grind[QE,zB4]
 |normal=>exact⟨S',ρ',l,g,f,j⟩
 |ret=>exact⟨S',ρ',l,g,f,j⟩
 |goto t=>exact⟨S',ρ',l,g,f,j⟩
 |panic c=>exact⟨S',ρ',l,g,f,j⟩
 |outgrown=>exact f.elim
def Tr.loop(I:U->St->BS P Γ Ϝ->Prop)(n:U)(h0:I n S Y)(h:∀n S Y,I n S Y->Tr P Γ ϖ ϙ Ϝ Y c S (Qs (λS' f=>∃o,o<n/\I o S' f) Q)):Tr P Γ ϖ ϙ Ϝ Y (.loop c) S Q:=λN ρ a w R y m b=>by
 refine wpIn_loop_ghost (λk q w'=>∃S' ρ' r f,I k S' f/\AS P Γ r S' ρ' q w'/\f.I r S'.h ρ' w'/\Ki ϙ q.defers w'/\Bd ϖ ϙ w') n ⟨S,ρ,N,Y,h0,R,y,m,b⟩ ?_;rintro k q w' ⟨S',ρ',r,f,s,v,x,z,X⟩;refine zOa (h k S' f s r ρ' q w' v x z X) ?_;rintro e a2 w2 ⟨g,ρ2,J,i,p,u,j,K,l⟩;cases e with
 |normal=>
  obtain⟨o,G,W⟩:=p;exact⟨o,G,g,ρ2,J,i,W,u,j,K,l⟩
 |ret=>exact⟨g,ρ2,J,i,p,u,j,K,l⟩
 |exit id=>exact⟨g,ρ2,J,i,p,u,j,K,l⟩
 |goto t=>exact⟨g,ρ2,J,i,p,u,j,K,l⟩
 |panic c=>exact⟨g,ρ2,J,i,p,u,j,K,l⟩
 |outgrown=>exact p.elim
def AS.ext{w:κ}(R:AS P Γ N S ρ a w)(s:A9 w w'):AS P Γ N S ρ a w':=⟨R.hr.ext s,R.fr.out<|BQ.ext ρ s⟩
def Tr.done{o:Act}{w:κ}(R:AS P Γ N S ρ a w)(y:Y.I N S.h ρ w)(m:Ki ϙ a.defers w)(b:Bd ϖ ϙ w)(hk:QE Q e S' Y)(R':AS P Γ N S' ρ' o w')(st:A8 S.h ρ w S'.h ρ' w')(q:Bm Ϝ ρ ρ')(u:o.defers=a.defers):
 ∃S' ρ' l c,QE Q e S' c/\AS P Γ l S' ρ' o w'/\c.I l S'.h ρ' w'/\Ki ϙ o.defers w'/\Bd ϖ ϙ w':=
 ⟨S',ρ',N,Y,hk,R',Y.st y R.hr R'.hr st q,by rw[u];exact Xx R.hr st m,b.step R.hr st⟩
def BB.fr{fr fr':O DV}{h:DH}(m:F fr'=F fr)(r:∀i,i<F fr->AO (fr.getD i .any) (fr'.getD i .any)):BB Ϝ ⟨fr,h⟩ ⟨fr',h⟩:=λP Γ N ρ a w R=>
 ⟨ρ,⟨R.hr,⟨by rw[m];exact R.fr.1,λi hi=>r i (by rw[←m];exact hi) _ _ _ _<|R.fr.2 i<|by rw[←m];exact hi⟩⟩,A8.refl _ _ _,Bm.refl _ _⟩
theorem AO.refl(Ϛ:DV):AO Ϛ Ϛ:=λ_ _ _ _ h=>h
theorem AO.any(Ϛ:DV):AO Ϛ .any:=λ_ _ _ _ _=>trivial
theorem AO.int{k:IntKind}{a b:E}(h:a=b):AO (.int k a)<|.int k b:=by rw[h];exact AO.refl _
theorem AO.bool{a:ζ}(h:a=b):AO (.bool a)<|.bool b:=by rw[h];exact AO.refl _
def AO.ints_nil:AO .nils<|.ints []:=λϗ w ρ v h=>⟨V,0,h,zAf _,zMK _,λj g=>τ g<|zAR j⟩
def AO.sl_nil(m:U)(f:U->U->DV):AO .nils<|.sl m 0 f:=λϗ w ρ v h=>⟨V,0,h,zAf _,zMK _,λi j hi=>τ hi<|zAR i⟩
def forget(N:Θ)(fr:O DV):O DV:=(fr.zipIdx).map λx=>C (N.contains x.2) x.1 .any
theorem ZV(N:Θ)(fr:O DV):F (forget N fr)=F fr:=by simp[forget]
theorem qF(N:Θ)(fr:O DV){i:U}(hi:i<F fr):(forget N fr).getD i .any=C (N.contains i) (fr.getD i .any) .any:=by
 simp[forget,hi]
theorem BB.forget(N:Θ)(fr:O DV)(h:DH):BB Ϝ ⟨fr,h⟩ ⟨forget N fr,h⟩:=BB.fr (ZV _ _) λi hi=>by
 grind[qF,AO.refl,AO.any]
def FA:Θ->U->A U
 |[],_=>V
 |x::σ,k=>C (x=k) (Z 0) ((FA σ k).map (· +1))
def FB(σ:Θ):DV->DV
 | .ref k j=>match FA σ k with
  |some W=>.ref W j
  |none=>.any
 | .mse k m off n=>match FA σ k with
  |some W=>.mse W m off n
  |none=>.any
 | .mri k i=>match FA σ k with
  |some W=>.mri W i
  |none=>.any
 | .msl k m off n=>match FA σ k with
  |some W=>.msl W m off n
  |none=>.any
 | .mp k m i j=>match FA σ k with
  |some W=>.mp W m i j
  |none=>.any
 | .it k=>match FA σ k with
  |some W=>.it W
  |none=>.any
 | .gr k=>match FA σ k with
  |some W=>.gr W
  |none=>.any
 | .agg m f=>.agg m λj=>((θ m).map λi=>FB σ<|f i).getD j .any
 | .tup m f=>.tup m λj=>((θ m).map λi=>FB σ<|f i).getD j .any
 | .fn g m c=>.fn g m λj=>((θ m).map λi=>FB σ<|c i).getD j .any
 |Ϛ=>Ϛ
def PF(σ:Θ):A DO->A DO
 |some (.cells l)=>Z<|.cells<|l.map<|FB σ
 |some (.ro l)=>Z<|.ro<|l.map<|FB σ
 |o=>o
def HJ(σ:Θ)(S:St):St:=⟨S.fr.map<|FB σ,σ.map λk=>PF σ<|S.h.getD k V⟩
theorem Kv:∀{σ:Θ} {k W:U},FA σ k=Z W->σ[W]?=Z k
 |[],_,_,h=>by cases h
 |x::σ,k,W,h=>by
  unfold FA at h;split at h
  ·grind
  ·cases a:FA σ k with
   |none=>rw[a]at h;cases h
   |some i=>
    rw[a]at h;have e:W=i+1:=(zAN h).symm;subst e;have:=Kv a;simpa using this
theorem zIQ{ϗ S:Ψ}{w:κ}{σ:Θ}(t:∀b,S b->ϗ b)(o:∀(k W:U) (p:AK),σ[W]?=Z k->ρ[k]?=Z p->ρ'[W]?=Z p):∀(Ϛ:DV) {v:μ},AJ ϗ w Ϛ ρ v->AJ S w (FB σ Ϛ) ρ' v:=by
 have low:∀(Ϛ:DV) {v:μ},AJ ϗ w Ϛ [] v->AJ S w Ϛ [] v:=λϚ v h=>h.out Ϛ ⟨λ_ _ _ _=>rfl,λb x=>.inl<|t b x,λk p hk=>by simp at hk⟩
 intro Ϛ
 induction Ϛ with
 |any=>intro v _;trivial
 |nils=>intro v h;exact h
 |int k n=>intro v h;exact h
 |bool b=>intro v h;exact h
 |str s=>intro v h;exact h
 |ints l=>grind[AJ,FB]
 |bools l=>grind[AJ,FB]
 |sl m n f _=>grind[AJ,FB]
 |fp m f _=>grind[AJ,FB]
 |agg m f q=>
  grind[AJ,FB]
 |tup m f q=>
  grind[AJ,FB]
 |fn g m c q=>
  grind[AJ,FB]
 |ref k j=>
  grind[FB,Kv,AJ]
 |msl k m off n=>
  grind[FB,Kv,AJ]
 |mp k m i j=>
  grind[FB,Kv,AJ]
 |yl l=>intro v h;exact h
 |cst u=>intro v h;exact h
 |mse k m off n=>
  grind[FB,Kv,AJ]
 |mri k i=>
  rintro v ⟨p,vs,e,r⟩;simp only[FB];cases hk:FA σ k with
  |none=>trivial
  |some W=>exact⟨p,vs,o k W p (Kv hk) e,r⟩
 |gr k=>
  rintro v ⟨p,a,n,cap,e,r⟩;simp only[FB];cases hk:FA σ k with
  |none=>trivial
  |some W=>exact⟨p,a,n,cap,o k W p (Kv hk) e,r⟩
 |it k=>
  grind[FB,Kv,AJ]
def m6:AK:=⟨0,0,0,undef,λ_=>False⟩
theorem BB.compact(σ:Θ)(S:St)(h1:σ.Nodup)(h2:∀k∈σ,k<F S.h)(h3:∀k,k<Ϝ->σ[k]?=Z k):BB Ϝ S<|HJ σ S:=λP Γ N ρ a w R=>by
 obtain⟨ρ',KL⟩:∃ρ',ρ'=σ.map λk=>ρ.getD k m6:=⟨_,rfl⟩
 have get:∀{W:U} {p:AK},ρ'[W]?=Z p->∃k,σ[W]?=Z k/\ρ[k]?=Z p:=λ{W p} h=>by
  rw[KL,zMN]at h;cases hk:σ[W]? with
  |none=>rw[hk]at h;cases h
  |some k=>
   have AY:k<F ρ:=by rw[R.hr.len];exact h2 k<|zLW hk
   grind
 have g:∀(k W:U) (p:AK),σ[W]?=Z k->ρ[k]?=Z p->ρ'[W]?=Z p:=λk W p hk s=>by
  grind
 have z:∀{W:U} {o':DO},(HJ σ S).h[W]?=Z (Z o')->∃k o,σ[W]?=Z k/\S.h[k]?=Z (Z o)/\PF σ (Z o)=Z o':=λ{W o'} h=>by
  have h:(σ.map λk=>PF σ<|S.h.getD k V)[W]?=Z (Z o'):=h;rw[zMN]at h;cases hk:σ[W]? with
  |none=>rw[hk]at h;cases h
  |some k=>
   rw[hk]at h;have AY:k<F S.h:=h2 k<|zLW hk;have h:PF σ (S.h.getD k V)=Z o':=zAN h;have e:S.h.getD k V=S.h[k]:=by simp[AY]
   rw[e]at h;cases ho:S.h[k]with
   |none=>rw[ho]at h;cases h
   |some o=>grind
 have hM:∀b,MO (HJ σ S).h ρ' b->MO S.h ρ b:=by
  grind[MO]
 have I:∀b,MS N (HJ σ S).h ρ' b->MS N S.h ρ b:=λb q=>q.imp id<|hM b
 have ϐ:BQ (MS N S.h ρ) w [] (MS N (HJ σ S).h ρ') w []:=⟨λ_ _ _ _=>rfl,λb q=>.inl<|I b q,λk p hk=>by simp at hk⟩;have low:∀(Ϛ:DV) {v:μ},AJ (MS N S.h ρ) w Ϛ ρ v->AJ (MS N (HJ σ S).h ρ') w (FB σ Ϛ) ρ' v:=λϚ v h=>zIQ I g Ϛ h
 refine⟨ρ',⟨⟨by simp[KL,HJ],λW o' Gh=>?_,λW o' p b J Q X=>?_,λi i' o1 o2 p1 p2 b Af J Q X g4 g5 g6=>?_,R.hr.nlt,R.hr.gi⟩,⟨by simp[HJ,R.fr.1],λi hi=>?_⟩⟩,⟨AR.refl _ w,λb q=>.inl<|hM b q⟩,λk p hk s=>g k k p (h3 k hk) s⟩
 ·obtain⟨k,o,y,K,c⟩:=z Gh;obtain⟨p,s,r⟩:=R.hr.obj k o K;refine⟨p,g k W p y s,?_⟩;cases o with
  |cells l=>
   cases c
   show Ac w p (F<|l.map<|FB σ) _
   rw[zAS];refine Ac.out r rfl λj u hj t=>?_
   grind
  |ints l=>grind[Bi,PF]
  |bools l=>grind[Bi,PF]
  |arr m n f=>cases c;exact Ac.out r rfl λj u _ t=>AJ.out _ ϐ t
  |gro m n f=>cases c;exact Bi.gr r (λ_=>rfl) λt=>AJ.out _ ϐ t
  |iter encs=>
   grind[Bi,PF]
  |ro l=>
   cases c;obtain⟨r1,r2,r3⟩:=r;refine⟨r1,λhm=>r2<|I _ hm,?_⟩;rw[zAS];refine Ac.out r3 rfl λj u hj t=>?_
   grind
  |mo x=>cases c;exact r
 ·obtain⟨k,o,y,K,_⟩:=z J;obtain⟨G,c,Y⟩:=get Q;have:G=k:=zAN<|c.symm.trans y;subst this;exact R.hr.cel G o p b K Y X
 ·obtain⟨k,o,y,K,_⟩:=z J;obtain⟨G,o2,c,Y,_⟩:=z Q;obtain⟨k3,e5,e6⟩:=get X;obtain⟨k4,e7,e8⟩:=get g4;have:k3=k:=zAN<|e5.symm.trans y;subst this;have:k4=G:=zAN<|e7.symm.trans c;subst this;refine R.hr.dis k3 k4 o o2 p1 p2 b (λe=>Af ?_) K Y e6 e8 g5 g6
  grind[List.getElem?_inj]
 ·have CF:i<F S.fr:=by simpa[HJ]using hi
  have:(HJ σ S).fr.getD i .any=FB σ (S.fr.getD i .any):=by simp[HJ,CF]
  rw[this];exact low _<|R.fr.2 i CF
end
end
abbrev zOL:=@List.eq_nil_of_length_eq_zero
abbrev zQJ:=@List.nodup_range
def wH(P:ν)(S:St):ResultVar->A DV
 | .tmp t=>Z<|S.fr.getD t .any
 | .cell x t=>match S.fr.getD x .any with
  | .ref k j=>match Re P S t (.ref k j)with
   |some (Ϛ,_)=>Z Ϛ
   |none=>V
  |_=>V
def PE(P:ν)(S:St):O ResultVar->A (O DV)
 |[]=>Z []
 |r::k=>match wH P S r with
  |some Ϛ=>match PE P S k with
   |some ds=>Z<|Ϛ::ds
   |none=>V
  |none=>V
def JG:O DV->DV
 |[Ϛ]=>Ϛ
 |ds=>.tup (F ds) λj=>ds.getD j .any
section
variable{P:ν}{Γ:A2}{N:Ψ}{S:St}{ρ:O AK}{a:Act}{w:κ}
variable{Ϛ:DV}{k:U}
theorem zKy{t:ψ}{j:U}{o:Prop}(h:Re P S t (.ref k j)=Z (Ϛ,o)):o:=by
 grind[Re]
def dB(tmps:υ μ):ResultVar->Sem μ
 | .tmp t=>pure<|tmps.getD t undef
 | .cell x t=>do loadVar t (←asAddr (tmps.getD x undef))
theorem wI(R:AS P Γ N S ρ a w):∀(c:O ResultVar) (ds:O DV),PE P S c=Z ds->∃vs:O μ,(c.mapM<|dB a.tmps).run P w=.ok vs w/\F vs=F ds/\∀i,i<F ds->AJ (MS N S.h ρ) w (ds.getD i .any) ρ (vs.getD i undef)
 |[],ds,h=>by
  cases h
  simp_all
 |r::c,ds,h=>by
  simp only[PE]at h;split at h
  ·rename_i Ϛ b;split at h
   ·rename_i f l;cases h;obtain⟨vs,h1,n,h3⟩:=wI R c f l
    obtain⟨v,g1,g2⟩:∃v,(dB a.tmps r).run P w=.ok v w/\AJ (MS N S.h ρ) w Ϛ ρ v:=by
     unfold wH at b;split at b
     ·cases b;exact⟨_,rfl,R.fr.at _⟩
     ·rename_i x t;split at b
      ·rename_i k j e;split at b
       ·rename_i d' vc m;cases b;have g:=R.fr.at x;rw[e]at g;obtain⟨v,s,z⟩:=yZ R g m<|zKy m;obtain⟨p,hp,o⟩:=g;have q:=s w<|Keep.ofExt<|A9.refl w;rw[o,vR]at q;refine⟨v,?_,z⟩
        show(do loadVar t (←asAddr (a.tmps.getD x undef)):Sem μ).run P w=_
        rw[o];exact q
       ·cases b
      ·cases b
    refine⟨v::vs,?_,by simp[n],λi hi=>?_⟩
    ·simp_all
    grind
   ·cases h
  ·cases h
variable{ds:O DV}{fn:Func}
theorem XR(R:AS P Γ N S ρ a w)(h:PE P S fn.results.toList=Z ds):∃v,(results fn a.tmps).run P w=.ok v w/\AJ (MS N S.h ρ) w (JG ds) ρ v:=by
 obtain⟨vs,b,c,k⟩:=wI R _ _ h
 have z:(fn.results.mapM<|dB a.tmps).run P w=.ok vs.toArray w:=by
  rw[Array.mapM_eq_mapM_toList,←bind_pure_comp,zLX,b];rfl
 have e:(results fn a.tmps).run P w=.ok (if h:vs.toArray.size=1 then vs.toArray[0]else .tuple vs.toArray) w:=by
  show(do let vs←fn.results.mapM (dB a.tmps);pure (if h:vs.size=1 then vs[0]else .tuple vs):Sem μ).run P w=_
  rw[zLX,z];rfl
 refine⟨_,e,?_⟩
 match ds,vs,c,k with
 |[],[],_,_=>exact⟨#[],rfl,rfl,λj g=>τ g<|zAR j⟩
 |[Ϛ],[v],_,k=>exact k 0 Z3
 |Ϛ::d'::ds,v::t::vs,c,k=>
  have:¬((v::t::vs).toArray.size=1):=Z3
  rw[dif_neg this];refine⟨_,rfl,by simpa using c,λj g=>?_⟩
  grind
def RR(h:DH):Prop:=∀(k:U) (encs:O<|O DV),h[k]? ≠Z (Z<|.iter encs)
variable{W:κ}
theorem AS.shut(R:AS P Γ N S ρ a w)(hi:RR S.h){ϙ:U}(J:Γ.ng<=ϙ)(v:Lu ϙ w W):AS P Γ N S ρ a W:=by
 have y:∀{b:U},EZ w b->W.heap[b]?=w.heap[b]? :=λ{b} ⟨c,t,z,h⟩=>
  v.block b (zAM.1 h).1 λr=>by rw[h]at r;cases r.2;cases t
 have ϐ:BQ (MS N S.h ρ) w ρ (MS N S.h ρ) W ρ:=⟨λb _ _ ⟨_,_,_,hc⟩=>y<|.cells hc,λb h=>.inl h,λ_ _ h=>h⟩
 have q:∀{p:AK} {n:U} {Rw:U->μ->Prop},Ac w p n Rw->W.heap[p.blk]?=w.heap[p.blk]? :=λ{p n Rw} h=>by
  obtain⟨_,cs,t,G,_⟩:=h;exact y<|.cells G
 refine⟨⟨R.hr.len,λk o hk=>?_,λk o p b K G X=>?_,R.hr.dis,λb s=>⟨zAQ (R.hr.nlt b s).1 v.size,(R.hr.nlt b s).2⟩,Γ.st _ _ R.hr.gi<|v.mono λi _ r=>zAO J r.1⟩,R.fr.out ϐ⟩
 ·obtain⟨p,I,e⟩:=R.hr.obj k o hk;refine⟨p,I,?_⟩;cases o with
  |cells l=>exact Ac.out e (q e) λj u _ g=>AJ.out _ ϐ g
  |ints l=>exact Ac.out e (q e) λj u _ g=>g
  |bools l=>exact Ac.out e (q e) λj u _ g=>g
  |arr m n f=>exact Ac.out e (q e) λj u _ g=>AJ.out _ ϐ.nil g
  |gro m n f=>exact Bi.gr e q λg=>AJ.out _ ϐ.nil g
  |iter encs=>exact τ hk<|hi k encs
  |ro l=>obtain⟨Y,r2,Q⟩:=e;exact⟨Y,r2,Ac.out Q (q Q) λj u _ g=>AJ.out _ ϐ g⟩
  |mo x=>exact Qc.out e λb s AY=>y (R.hr.cel k _ p b hk I s).2.2
 ·obtain⟨g1,g2,c,t,z,g3⟩:=R.hr.cel k o p b K G X
  grind
variable{h:DH}
def A8.shut{h0:DH}{ρ0 ρ:O AK}{w0 w:κ}(st:A8 h0 ρ0 w0 h ρ w)(l:Lu w0.heap.size w W):A8 h0 ρ0 w0 h ρ W:=
 ⟨st.upd.comp l λi hi e=>τ e.1 Z2,st.grow⟩
theorem A3.anys(ϗ:Ψ)(w:κ)(ρ:O AK)(n:U):A3 ϗ w ρ (d n .any)<|Array.replicate n undef:=
 ⟨Z3,λi hi=>by
  have:(d n DV.any).getD i .any=.any:=by
   grind
  rw[this];trivial⟩
def Kh(Ϛ:DV):Prop:=∀(ϗ:Ψ) (w:κ) (ρ:O AK) (v:μ),AJ ϗ w Ϛ ρ v->AJ ϗ w Ϛ [] v
def zTJ(Ϝ:U)(S:St)(k:O DV)(Ϛ:DV)(h':DH):Prop:=(AO (JG k) Ϛ/\S.h=h')∨(RR S.h/\AO (JG k) Ϛ/\Kh Ϛ/\Ϝ<=F S.h/\(HJ (θ Ϝ) S).h=h')
def DD(P:ν)(fn:Func)(Ϝ:U)(Ϛ:DV)(h':DH)(e:Exit)(S':St):Prop:=(e=.normal∨e=.ret)/\∃p,BB Ϝ S' p/\∃k,PE P p fn.results.toList=Z k/\zTJ Ϝ p k Ϛ h'
theorem ES.of_tr{f:U}{c:Code}{h':DH}{ext:ζ}(hf:P.funcs[f]?=Z fn)(j:fn.body=Z c)(SH:fn.name≠ "runtime.NumGoroutine")(hni:RR h')
 (Ϙ:∀(ϙ:U) (N:BS P Γ<|F h),Tr P Γ η (Z ϙ) (F h) N c ⟨ds++d (fn.ntmps-F ds) .any,h⟩ λe S Y=>Y=N/\DD P fn (F h) Ϛ h' e S) (Ms:ext=T->h= []):ES P Γ f ds h Ϛ h' ext:=by
 refine⟨⟨fn,hf,SH,by rw[j];rfl⟩,λN ρ w args HR Co=>?_⟩;refine zR2 w.heap.size hf j ?_;have Aj:F ds=args.size:=Co.1
 have R:AS P Γ N ⟨ds++d (fn.ntmps-F ds) .any,h⟩ ρ { tmps:=args++Array.replicate (fn.ntmps-args.size) undef,defers:=[] } w:=
  ⟨HR,A3.append Co<|by rw[Aj];exact A3.anys _ _ _ _⟩
 have:=Ϙ w.heap.size (Tg P Γ (F h) N h ρ w) N ρ _ w R ⟨rfl,A8.refl _ _ _,Bm.refl _ _⟩ trivial (Bd.wide<|zAf _);refine wpIn_wide.1<|zOa this ?_;rintro e l w' ⟨S',ρ',N',Y',a,h2,n,h4,X⟩
 have key:Y'=Tg P Γ (F h) N h ρ w->DD P fn (F h) Ϛ h' e S'->E4 w.heap.size l.defers w'/\∀W,Lu w.heap.size w' W->∃v,(results fn l.tmps).run P W=.ok v W/\∃v',Ending.returned v=.returned v'/\CG P Γ N h ρ w ext Ϛ h' v' W:=by
  rintro rfl ⟨_,q,Bq,rs,Ml,r|⟨hi,r,hn,hl,hh⟩⟩
  all_goals
   obtain⟨e0,n,X⟩:=n;have e0:=e0.symm;subst e0
  ·obtain⟨r,rfl⟩:=r;refine⟨h4,λW m=>?_⟩;obtain⟨ρ'',u,x,y⟩:=Bq P Γ N ρ' l w' h2;have s:=u.shut hni (Γ.lo _ HR.gi) m;obtain⟨v,z,I⟩:=XR s Ml;have st:A8 h ρ w q.h ρ'' W:=(n.trans x).shut m;refine⟨v,z,v,rfl,⟨⟨ρ'',s.hr,r _ _ _ _ I,st,λk p J=>?_⟩,λK=>?_⟩⟩
   ·have hk:k<F h:=by rw[←HR.len];grind
    exact y k p hk<|X k p hk J
   ·have:=Ms K;subst this;exact st.upd.toExt λi _ ⟨k,o,p,Q,_⟩=>by simp at Q
  ·refine⟨h4,λW m=>?_⟩;obtain⟨ρ'',u,x,y⟩:=Bq P Γ N ρ' l w' h2;have s:=u.shut hi (Γ.lo _ HR.gi) m;obtain⟨v,z,I⟩:=XR s Ml;have st:A8 h ρ w q.h ρ'' W:=(n.trans x).shut m;obtain⟨ρ3,R3,G,k3⟩:=BB.compact (Ϝ:=F h) (θ<|F h) q zQJ (λk hk=>zAQ (zAV.1 hk) hl) (λk hk=>by simp[hk]) P Γ N ρ'' l W s;rw[hh]at G;have JB:=R3.hr;rw[hh]at JB;refine⟨v,z,v,rfl,⟨⟨ρ3,JB,?_,st.trans G,λk p J=>?_⟩,λK=>?_⟩⟩
   ·have r0:=hn _ _ _ _<|r _ _ _ _ I;have r1:AJ (MS N h' ρ3) W Ϛ [] v:=AJ.out _ ⟨λ_ _ _ _=>rfl,λb j=>j.elim (λg=>.inl<|.inl g) λg=>(G.grow b g).imp .inr id,λ_ _ g=>by simp at g⟩ r0;exact AJ.out _ ⟨λ_ _ _ _=>rfl,λb j=>.inl j,λ_ _ g=>by simp at g⟩ r1
   ·have hk:k<F h:=by rw[←HR.len];grind
    exact k3 k p hk<|y k p hk<|X k p hk J
   ·have:=Ms K;subst this;exact(st.trans G).upd.toExt λi _ ⟨k,o,p,Q,_⟩=>by simp at Q
 cases e with
 |normal=>exact key a.1 a.2
 |ret=>exact key a.1 a.2
 |exit id=>exact τ a.2.1 Z3
 |goto t=>exact τ a.2.1 Z3
 |panic ch=>exact τ a.2.1 Z3
 |outgrown=>exact a.elim
def Kg(Ϛ:DV):Prop:=∀(ϗ S:Ψ) (w w':κ) (ρ ρ':O AK) (v:μ),AJ ϗ w Ϛ ρ v->AJ S w' Ϛ ρ' v
variable{f:U->DV}{m:U}
def Kh.agg(h:∀j,j<m->Kh (f j)):Kh<|.agg m f:=λϗ w ρ _ ⟨cs,e,l,hc⟩=>⟨cs,e,l,λj g=>let⟨u,a,c⟩:=hc j g;⟨u,a,h j g ϗ w ρ u c⟩⟩
theorem Kh.tup(h:∀j,j<m->Kh (f j)):Kh<|.tup m f:=λϗ w ρ _ ⟨cs,e,l,hc⟩=>⟨cs,e,l,λj g=>let⟨u,a,c⟩:=hc j g;⟨u,a,h j g ϗ w ρ u c⟩⟩
theorem Kg.int(k:IntKind)(n:E):Kg<|.int k n:=λ_ _ _ _ _ _ _ h=>h
theorem Kg.bool(b:ζ):Kg<|.bool b:=λ_ _ _ _ _ _ _ h=>h
theorem Kg.tup(h:∀j,j<m->Kg (f j)):Kg<|.tup m f:=λϗ S w w' ρ ρ' _ ⟨cs,e,l,hc⟩=>⟨cs,e,l,λj g=>let⟨u,a,c⟩:=hc j g;⟨u,a,h j g ϗ S w w' ρ ρ' u c⟩⟩
variable{ϗ:Ψ}
def Ut(l:∀b,ϗ b->b<w.heap.size/\Γ.ng<=b)(s:Γ.gi w):Ap P Γ ϗ [] [] w:=
 ⟨rfl,λk o hk=>by simp at hk,λk o p b a=>by simp at a,λk k' o o' p p' b _ a=>by simp at a,l,s⟩
def TD{b:U}:MS ϗ [] [] b↔ϗ b:=⟨λh=>h.elim id λ⟨k,o,p,a,_⟩=>by simp at a,.inl⟩
def ES.frame{f:U}(h0:ES P Γ f ds [] Ϛ [] T)(r:∀x∈ds,Kh x)(h:DH):ES P Γ f ds h Ϛ h T:=by
 refine⟨h0.1,λN ρ w args HR u=>?_⟩;refine(h0.2 (MS N h ρ) [] w args (Ut (λb a=>HR.lt2 a) HR.gi) ⟨u.1,λi hi=>?_⟩).mono ?_
 ·have c:=r (ds.getD i .any) (by simp[hi]);exact AJ.out _ (DU (λb a=>TD.1 a) [])<|c _ _ _ _<|u.2 i hi
 ·rintro e w' ⟨v,rfl,⟨⟨ρ',p,g,g3,g4⟩,t⟩⟩;have s:=t rfl;have S:ρ'= []:=zOL (by rw[p.len];rfl);subst S;exact⟨v,rfl,⟨⟨ρ,HR.ext s,UB<|AJ.out _ (DU (λb a=>TD.2 a) []) g,A8.ext s,λ_ _ h=>h⟩,t⟩⟩
def Ad(h:DH)(Ϛ S:DV):Prop:=∀(P:ν) (Γ:A2) (N:Ψ) (ρ:O AK) (w:κ) (v:μ),Ap P Γ N h ρ w->AJ (MS N h ρ) w Ϛ ρ v->AJ (λ_=>False) w S [] v
def Ad.nref(s:Kh Ϛ):Ad h Ϛ Ϛ:=λ_ _ _ _ _ _ _ i=>AJ.out _ (DU (λ_ b=>b.elim) [])<|s _ _ _ _ i
variable{n:U}
def Ad.ints{l:Ξ}(hk:h[k]?=Z (Z<|.ints l))(s:n=F l):Ad h (.msl k 1 0 n)<|.ints l:=by
 rintro P Γ N ρ w v Ϙ ⟨p,cap,a,e,b,c,_⟩;subst s;obtain⟨p',f,i⟩:=Ϙ.obj k _ hk;have r:p'=p:=zAN<|f.symm.trans a;subst r;refine⟨_,cap,e,b,c,λj g=>⟨p'.blk,p'.off,Z3,id,?_⟩⟩;obtain⟨u,y,K⟩:=Ac.cell i g;rw[y,K]
def Ad.bools{l:Ω}(hk:h[k]?=Z (Z<|.bools l))(s:n=F l):Ad h (.msl k 1 0 n)<|.bools l:=by
 rintro P Γ N ρ w v Ϙ ⟨p,cap,a,e,b,c,_⟩;subst s;obtain⟨p',f,i⟩:=Ϙ.obj k _ hk;have r:p'=p:=zAN<|f.symm.trans a;subst r;refine⟨_,cap,e,b,c,λj g=>⟨p'.blk,p'.off,Z3,id,?_⟩⟩;obtain⟨u,y,K⟩:=Ac.cell i g;rw[y,K]
def Ad.ref{l:O DV}(hk:h[k]?=Z (Z<|.cells l))(hm:m<=F l)(g:∀j,j<m->Ad h (l.getD j .any) (f j)):Ad h (.ref k 0)<|.fp m f:=by
 rintro P Γ N ρ w v Ϙ ⟨p,a,e⟩;obtain⟨p',b,i⟩:=Ϙ.obj k _ hk;have r:p'=p:=zAN<|b.symm.trans a;subst r;refine⟨p'.blk,p'.off,e,λj c=>⟨id,?_⟩⟩;obtain⟨u,y,K⟩:=Ac.cell i (j:=j) Z2;exact⟨u,y,g j c P Γ N ρ w u Ϙ K⟩
def ES.snap{f:U}{g:O DV}(h0:ES P Γ f g [] Ϛ [] T)(h:DH)(m:F g=F ds)(l:∀i,i<F ds->Ad h (ds.getD i .any) (g.getD i .any))(r:Kg Ϛ):ES P Γ f ds h Ϛ h T:=by
 refine⟨h0.1,λN ρ w args HR u=>?_⟩;refine(h0.2 (λ_=>False) [] w args (Ut (λb a=>a.elim) HR.gi) ⟨by rw[m];exact u.1,λi hi=>?_⟩).mono ?_
 ·rw[m]at hi;exact AJ.out _ (DU (λb a=>TD.1 a) [])<|l i hi P Γ N ρ w _ HR<|u.2 i hi
 ·rintro e w' ⟨v,rfl,⟨⟨ρ',g1,c,g3,g4⟩,t⟩⟩;have s:=t rfl;exact⟨v,rfl,⟨⟨ρ,HR.ext s,r _ _ _ _ _ _ _ c,A8.ext s,λ_ _ h=>h⟩,t⟩⟩
end
section
variable{ϖ:Fence}{n:U}{P:ν}{ops:υ Oper}{Q:Exit->Act->κ->Prop}
def Jz(ϖ:Fence)(n:U)(P:ν)(ops:υ Oper)(Q:Exit->Act->κ->Prop)(R:U->κ->κ->Prop)(Cc:U->ζ)(g:U):U->υ ζ->Act->κ->Prop
 |0,o,a,w=>(∀j,j<ops.size->Cc j=D->o.getD j T=T)/\wpAnyIn ϖ n P .any ops Q g o a w
 |m+1,o,a,w=>Region.ready .any ops o≠[]/\∀i∈Region.ready .any ops o,wpOpIn ϖ n P ops Q i (λb w'=>R i w w'/\Jz ϖ n P ops Q R Cc g m (o.setIfInBounds i T) b w') a w
abbrev ar(ϖ:Fence)(n:U)(P:ν)(ops:υ Oper)(Q:Exit->Act->κ->Prop)(R:U->κ->κ->Prop):U->υ ζ->Act->κ->Prop:=Jz ϖ n P ops Q R (λ_=>D) 0
section
variable{Cc:U->ζ}{g:U}
variable{R:U->κ->κ->Prop}
def sD{R':U->κ->κ->Prop}(hR:∀i w w',R' i w w'->R i w w'):∀(m:U) (o:υ ζ) (a:Act) (w:κ),Jz ϖ n P ops Q R' Cc g m o a w->Jz ϖ n P ops Q R Cc g m o a w
 |0,_,_,_,h=>h
 |m+1,_,_,_,h=>⟨h.1,λi hi=>zTP (λ_ _ h'=>⟨hR _ _ _ h'.1,sD hR m _ _ _ h'.2⟩)<|h.2 i hi⟩
variable{o:υ ζ}
theorem zIR(h:∀j,j<ops.size->o.getD j T=T):Region.ready .any ops o= []:=by
 simp_all[Region.ready]
variable{w:κ}{a:Act}
def zC2(h:∀j,j<ops.size->o.getD j T=T)(f:Q .normal a w):ar ϖ n P ops Q R 0 o a w:=⟨λj g _=>h j g,zIR h,f⟩
def sM :∀(m:U) (o:υ ζ) (a:Act) (w:κ),Jz ϖ n P ops Q R Cc g m o a w->wpAnyIn ϖ n P .any ops Q (m+g) o a w
 |0,_,_,_,h=>by rw[zCx];exact h.2
 |m+1,_,_,_,h=>by
  rw[show m+1+g=(m+g)+1 by omega];exact⟨λh0=>τ h0 h.1,λi hi=>zTP (λb w' h'=>sM m _ b w' h'.2)<|h.2 i hi⟩
variable{v:μ}{S:Oper}{i:U}
theorem zC1(hF:∀f,ϖ.fn f)(A1:Ca ops=T){ϒ:κ->Prop}(hQ:∀c a Ϛ v w,Q (.panic c) (Act.put a Ϛ v) w->Q (.panic c) a w)(hi:ops[i]?=Z S)(I:∀(j:U) (o:Oper) cs b,ops[j]?=Z o->o.op≠.select cs b)(hRi:∀w,R i w w)(hTi:∀j,j<ops.size->Cc j=T->Gu ops ops.size j i=T):
 ∀(m:U) (l:υ ζ) (a:Act) (w:κ),HO ops l->
  (∀j p,ops[j]?=Z p->j≠i->l.getD j T=D->(∀e∈p.after,Region.binds .any e=T->e.on≠i)->S.apart ops p=T)->
  (∀j,j<ops.size->j≠i->l.getD j T=D->Gu ops ops.size j i=D->∀w w',ϒ w->R j w w'->ϒ w')->
  i∈Region.ready .any ops l->YieldsIf P ops ϒ S v a->ϒ w->
  Jz ϖ n P ops Q R Cc g m (l.setIfInBounds i T) (a.put S.dst v) w->Jz ϖ n P ops Q R Cc g (m+1) l a w:=by
 intro m
 induction m with
 |zero=>
  intro l a w Y _ _ q hy J Ϙ;have pF:=(zTs.1 q).1;refine⟨λh=>(by rw[h]at q;cases q),λj s=>?_⟩
  by_cases X:j=i
  ·grind[al,IR]
  ·exfalso
   obtain⟨t,p,r,SP⟩:=zTs.1 s;have x:=(zAM.1 r).1;cases ht:Cc j with
   |true=>
    grind[aw]
   |false=>
    have:=Ϙ.1 j x ht
    simp_all[Ne.symm]
 |succ m ih=>
  intro l a w Y K N q hy J Ϙ;have pF:=(zTs.1 q).1;refine⟨λh=>(by rw[h]at q;cases q),λj s=>?_⟩
  by_cases X:j=i
  ·grind[al,IR]
  ·have h1:=Ϙ.2 j<|ready_mono s X;obtain⟨t,p,r,SP⟩:=zTs.1 s;have x:=(zAM.1 r).1
   have og:Gu ops ops.size j i=D:=by
    grind[aw]
   have oh:∀e∈p.after,Region.binds .any e=T->e.on≠i:=λe he hb pL=>by
    grind
   have h2:=sF hF (IR A1 r) r (K j p r X t oh) (λcs b=>I i S cs b hi) (λcs b=>I j p cs b r) (λc a w h=>hQ c a _ _ w h) hy h1
   have W:∀{k:U},(l.setIfInBounds j T).getD k T=D->l.getD k T=D:=λ{k} u=>by
    by_cases pE:j=k
    ·subst pE;exact t
    simp_all
   refine zTP (λa' w' y=>⟨y.2.1,ih (l.setIfInBounds j T) a' w' (Y.set s) (λk ok hk z u SG=>K k ok hk z (W u) SG) (λk HA z u G=>N k HA z (W u) G) (ready_mono q<|Ne.symm X) y.1 (N j x X t og w w' J y.2.1) ?_⟩) h2
   grind[Array.setIfInBounds_comm]
variable{m:U}
def jv{id:U}(z:P.follows .mixedOrders=T)(l:m+g=ops.size)(h:Jz ϖ n P ops Q R Cc g m (Array.replicate ops.size D) a w.drew):(Code.region id ops T).wpIn ϖ n P Q a w:=
 wpIn_region_any z (by
  have:=sM (g:=g) m _ _ _ h;rw[l]at this;exact this)
def sI{c:Code}(h:c.wpIn ϖ n P (NP Q) a w):c.wpIn ϖ n P Q a w:=zOa h λe _ _ f=>by
 cases e <;> first|exact f|exact f.elim
def qn:HO ops<|Array.replicate ops.size D:=λj oj _ m=>by
 exfalso
 rcases zCv j ops.size with h|h
 ·simp[h]at m
 ·simp[h]at m
def UN(ops:υ Oper)(i:U):ζ:=match ops[i]? with
 |some o=>UL o.op
 |none=>D
def RZ(ops:υ Oper)(early:U->ζ)(δ:U->Ψ)(j:U)(w w':κ):Prop:=(UN ops j=T->w'=w)/\(early j=T->AR (δ j) w w')
def UD(ops:υ Oper)(early:U->ζ)(i:U)(o:υ ζ):ζ:=(Region.ready .any ops o).contains i&&Region.free .any ops o i&&UN ops i&& ((θ ops.size).all λj=>o.getD j T||j==i||UN ops j||early j||Gu ops ops.size j i)
def dG(l:∀f,ϖ.fn f)(Y:Ca ops=T)(p:Region.noSelect ops=T){early:U->ζ}{δ:U->Ψ}{Zi:Ψ}(x:∀c a Ϛ v w,Q (.panic c) (Act.put a Ϛ v) w->Q (.panic c) a w)(hi:ops[i]?=Z S)(q:HO ops o)(e:UD ops early i o=T)(r:∀j,Gu ops ops.size j i=D->∀b,δ j b->Zi b)(t:∀j,j<ops.size->Cc j=T->Gu ops ops.size j i=T)
 (hy:YieldsIf P ops (AR Zi w) S v a) (h:Jz ϖ n P ops Q (RZ ops early δ) Cc g m (o.setIfInBounds i T) (a.put S.dst v) w):Jz ϖ n P ops Q (RZ ops early δ) Cc g (m+1) o a w:=by
 simp only[UD,zAK,zAP,zAV,zCz,zB1]at e;obtain⟨⟨⟨s,u⟩,h3⟩,y⟩:=e;refine zC1 l Y x hi (Region.noSelect_spec p) (λw=>⟨λ_=>rfl,λ_=>AR.refl _ _⟩) t m o a w q (Region.free_spec hi u) (λj z X G R w1 w2 k hR=>?_) (by simpa using s) hy (AR.refl _ _) h;rcases y j z with(((h|h)|h)|h)|h
 ·rw[G]at h;cases h
 ·exact τ h X
 ·rw[hR.1 h];exact k
 ·exact k.trans<|(hR.2 h).mono λb _ I=>r j R b I
 ·rw[R]at h;cases h
def aH(Y:HO ops o)(h:(Region.ready .any ops o).contains i=T):HO ops<|o.setIfInBounds i T:=Y.set (by simpa using h)
end
end
abbrev zMb:=@Option.map_eq_some_iff
abbrev zO9:=@Bool.eq_false_iff
section
inductive ST where
 |fin (π live:Θ)
 |rd (i:U) (t:ST)
 |ef (i:U) (t Jr:ST)
 |no
def Vr:ST->Θ
 | .ef i _ k=>i::Vr k
 |_=>[]
def Fg(ops:υ Oper)(early:Θ):ζ->U->ST->υ ζ->ζ
 |false,0,.fin _ _,Ϝ=>(θ ops.size).all λj=>Ϝ.getD j T
 |false,m+1,.rd i t,Ϝ=>UD ops (λj=>early.contains j) i Ϝ&&Fg ops early D m t (Ϝ.setIfInBounds i T)
 |b,m+1,.ef i t k,Ϝ=>(b||Region.ready .any ops Ϝ==Vr (.ef i .no k))&&!UN ops i&&Fg ops early D m t (Ϝ.setIfInBounds i T)&&Fg ops early T (m+1) k Ϝ
 |true,_,.no,_=>T
 |_,_,_,_=>D
def Fr(p:U->ζ)(h:DH):DH:=(θ<|F h).map λi=>C (p i) (h.getD i V) V
def yp(xs:Θ)(h:DH):DH:=Fr (λi=>!xs.contains i) h
def Tf(S:St)(o:Oper):A U:=match o.op with
 | .store _ x _=>match Ak S.fr x with
  | .ref k _=>Z k
  | .mp k _ _ _=>Z k
  |_=>V
 |_=>V
def JY:DV->Θ
 | .gr k=>[k]
 | .msl k _ _ _=>[k]
 |_=>[]
def jU(S:St)(o:Oper):A Θ:=match o.op with
 | .call c=>match c.callee with
  | .builtin .append=>match c.args.toList with
   |[x,y]=>Z<|JY (Ak S.fr x)++JY (Ak S.fr y)
   |_=>V
  |_=>V
 |_=>V
def Vq(P:ν)(S:St)(a:O<|U×Fz)(o:Oper):A Θ:=match cP P S a o,bZ P S o with
 |none,V=>jU S o
 |_,_=>V
def zLe(v:Θ)(h h':DH):ζ:=(θ<|F h).all λk=>v.contains k|| !(h.getD k V).isSome||(h'.getD k V).isSome
def uq(σ:Θ)(Ϝ n:U):ζ:=H σ.Nodup&&σ.all (λk=>decide (k<n))&&(θ Ϝ).all λk=>decide (σ[k]?=Z k)
def Lw(xs:O<|U×U)(v:Θ)(j:U):Θ:=(xs.filter λq=>q.1==j).map (·.2)++v
def Oc(ops:υ Oper)(xs:O<|U×U)(v:Θ)(i:U):Θ:=(xs.filter λq=>!Gu ops ops.size q.1 i).map (·.2)++v
def zBD(P:ν)(a:O<|U×Fz)(early:Θ)(xs:O<|U×U)(v:Θ)(S y:St)(i:U)(o:Oper)(ext:ζ):ζ:=
 zLe v S.h y.h&&(!(early.contains i)||ext||(match Tf S o with|some k=>(Lw xs v i).contains k&&(S.h.getD k V).isSome|none=>D)||(match Vq P S a o with|some l=>l.all λk=>(Lw xs v i).contains k|none=>D))
def k6(π:Θ)(u:U):Θ:=θ u++π.map (· +u)
def Oj(P:ν)(Γ:A2)(ops:υ Oper)(early:Θ)(xs:O<|U×U)(v:Θ)(u:U)(S':St):ST->St->BT->A (O Prop×BT)
 | .no,_,w=>Z ([],w)
 | .fin π N,S,w=>C (uq (k6 π u) u<|F S.h) (Z ([HJ (k6 π u) ⟨forget N S.fr,S.h⟩=S'],w)) V
 | .rd i t,S,w=>match ops[i]? with
  |none=>V
  |some o=>match UK P ops ⟨S.fr,yp (Oc ops xs v i) S.h⟩ w.co o with
   |none=>V
   |some (y,vs,a)=>match Oj P Γ ops early xs v u S' t ⟨y.fr,S.h⟩ ⟨w.calls,a,w.fz,w.tg⟩with
    |none=>V
    |some (Y,q)=>Z (vs++Y,q)
 | .ef i t k,S,w=>match ops[i]? with
  |none=>V
  |some o=>match Sx P Γ ops S w o with
   |none=>V
   |some (y,vs,ext,b)=>if zBD P w.fz early xs v S y i o ext then
    match Oj P Γ ops early xs v u S' t y b with
    |none=>V
    |some (z,c)=>match Oj P Γ ops early xs v u S' k S c with
     |none=>V
     |some (e,R)=>Z (vs++(z++e),R)
    else V
def Bz(ops:υ Oper)(early:Θ)(t:ST):Prop:=(Fg ops early D ops.size t (Array.replicate ops.size D)&&Region.noSelect ops&&Ca ops)=T
def WK(P:ν)(Γ:A2)(ops:υ Oper)(early:Θ)(t:ST)(S:St)(w:BT):A<|St×O Prop×BT:=match w.tg with
 |[]=>V
 |(s,S')::rest=>match Oj P Γ ops early s (List.range' (F S.h) ops.size) (F S.h) S' t S ⟨w.calls,w.co,w.fz,rest⟩with
  |none=>V
  |some (vs,q)=>Z (S',vs,q)
variable{h:DH}{p:U->ζ}
theorem ZK{i:U}{o:DO}(hi:(Fr p h)[i]?=Z (Z o)):h[i]?=Z (Z o)/\p i=T:=by
 unfold Fr at hi
 grind
theorem u0 :F (Fr p h)=F h:=by simp[Fr]
theorem qB{k:U}(hp:p k=T)(hk:k<F h):(Fr p h)[k]?=h[k]? :=by
 grind[Fr]
section
variable{P:ν}{Γ:A2}{N:Ψ}{S:St}{ρ:O AK}{a:Act}{w:κ}
theorem AS.sel(R:AS P Γ N S ρ a w)(p:U->ζ):AS P Γ (λb=>N b∨∃k o q,p k=D/\S.h[k]?=Z (Z o)/\ρ[k]?=Z q/\q.foot b) ⟨S.fr,Fr p S.h⟩ ρ a w:=by
 have s:∀b,MS (λb=>N b∨∃k o q,p k=D/\S.h[k]?=Z (Z o)/\ρ[k]?=Z q/\q.foot b) (Fr p S.h) ρ b->MS N S.h ρ b:=by
  rintro b ((h|⟨k,o,q,l,f,g,j⟩)|⟨k,o,q,l,f,g⟩)
  ·exact .inl h
  ·exact .inr ⟨k,o,q,f,g,j⟩
  ·exact .inr ⟨k,o,q,(ZK l).1,f,g⟩
 refine⟨⟨by rw[u0];exact R.hr.len,λi o hi=>?_,λi o q b n u m=>?_,λi x o1 Q y p2 b G n u m I J W=>R.hr.dis i x o1 Q y p2 b G (ZK n).1 (ZK u).1 m I J W,?_,R.hr.gi⟩,R.fr.out<|DU s ρ⟩
 ·obtain⟨q,X,Y⟩:=R.hr.obj i o (ZK hi).1;exact⟨q,X,Y.out (DU s ρ) (S:=λ_=>False) (AR.refl _ _) (λ_ h=>h.elim) λ_ _ _ h=>h⟩
 ·obtain⟨hi,hpi⟩:=ZK n;obtain⟨v,c2,K⟩:=R.hr.cel i o q b hi u m;refine⟨v,?_,K⟩;rintro(h|⟨k,o',r,l,f,g,j⟩)
  ·exact c2 h
  ·exact R.hr.dis i k o o' q r b (λe=>Z4) hi f u g m j
 ·rintro b (h|⟨k,o',r,l,f,g,j⟩)
  ·exact R.hr.nlt b h
  ·obtain⟨v,_,c,t,z,K⟩:=R.hr.cel k o' r b f g j
   grind
theorem AS.unsel{p:U->ζ}{fr:O DV}(x:Ap P Γ N S.h ρ w)(R:A3 (MS (λb=>N b∨∃k o q,p k=D/\S.h[k]?=Z (Z o)/\ρ[k]?=Z q/\q.foot b) (Fr p S.h) ρ) w ρ fr a.tmps):AS P Γ N ⟨fr,S.h⟩ ρ a w:=by
 refine⟨x,R.out<|DU (λb c=>?_) ρ⟩;rcases c with h|⟨k,o,q,h1,e,f⟩
 ·exact .inl<|.inl h
 ·cases hp:p k with
  |false=>grind[MS]
  |true=>
   refine .inr ⟨k,o,q,?_,e,f⟩
   grind[qB]
def Zs(xs:Θ)(h:DH)(ρ:O AK)(w:κ)(b:U):Prop:=(∃k o q,k∈xs/\h[k]?=Z (Z o)/\ρ[k]?=Z q/\q.foot b)∨w.heap.size<=b
theorem zLf{xs:Θ}{W:κ}(t:AR (Zs xs S.h ρ w) w W):Keep (λb=>N b∨∃k o q,(!xs.contains k)=D/\S.h[k]?=Z (Z o)/\ρ[k]?=Z q/\q.foot b) w W:=by
 intro b o u hb hc;have R:b<w.heap.size:=zMU w ⟨b,o,V⟩ hc;refine(qw<|t.block b R ?_).trans hc
 grind[Zs]
variable{x y:Operand}{t:ψ}{o:Oper}{ρ':Operand->μ}
theorem qU(ho:o.op=.store t x y){nx:Next}{w w':κ}(h:(ω ρ' o).run P w=.ok nx w'):nx=.skip:=by
 unfold ω at h;cases hs:(Instr.storeAt t (ρ' x)<|ρ' y).run P w with
 |ok v w1=>simp_all
 |halt x w1=>simp_all
variable{G:μ->κ->Prop}
theorem BP.store(ho:o.op=.store t x y){w:κ}{a:μ->κ->Prop}(h:BP P (ω ρ' o) w G)(h':BP P (ω ρ' o) w a):BP P (ω ρ' o) w λv W=>G v W/\a v W:=by
 grind[qU,BP]
variable{h':DH}{k:U}{Ϛ:DV}
theorem zEJ{x:DV}{a:Prop}(e:(∃j,x=.ref k j)∨∃m i j,x=.mp k m i j)(h:Qu P S t x Ϛ=Z (h',a)):k<F S.h/\∃c,Qu P ⟨S.fr,Fr (λi=>i==k) S.h⟩ t x Ϛ=Z (c,a):=by
 have key:∀{o:DO},S.h[k]?=Z (Z o)->k<F S.h/\(Fr (λi=>i==k) S.h)[k]?=Z (Z o):=λ{o} ho=>by
  grind[qB]
 unfold Qu at h⊢;rcases e with⟨j,rfl⟩|⟨m,i,j,rfl⟩
 ·simp only at h⊢;split at h
  ·grind
  ·cases h
 grind
theorem BP.appendB{c:Call}{q:ψ}(e:o.op=.call c)(hc:c.callee=.builtin .append)(g:c.args.toList= [x,y])(i:c.argTypes.toList= [t,q]){w:κ}{a:μ->κ->Prop}(h:BP P (ω ρ' o) w G)(h':BP P (ω ρ' o) w a):BP P (ω ρ' o) w λv W=>G v W/\a v W:=by
 have hv:∀{nx:Next} {w':κ},(ω ρ' o).run P w=.ok nx w'->∃v,nx=.value v:=λb=>by
  rw[OI e hc g i]at b;exact TS (f:=λx=>x) b
 grind[BP]
theorem ZL{p:U->ζ}{h:DH}(hp:p k=T):(Fr p h)[k]?=h[k]? :=by
 grind[qB,u0]
theorem zSf{p:U->ζ}{x y:DV}(a:∀k∈JY x,p k=T)(hy:∀k∈JY y,p k=T):(Vp P ⟨S.fr,Fr p S.h⟩ t x y).map (·.2.2)=(Vp P S t x y).map (·.2.2):=by
 have c:Nq ⟨S.fr,Fr p S.h⟩ y=Nq S y:=by
  cases y <;> try rfl
  grind[Nq,ZL,JY]
 have K:So ⟨S.fr,Fr p S.h⟩ y=So S y:=by
  cases y <;> try rfl
  grind[So,ZL,JY]
 have N:∀m,SW ⟨S.fr,Fr p S.h⟩ m y=SW S m y:=λm=>by
  cases y <;> try rfl
  grind[SW,ZL,JY]
 have Q:∀k,x=.gr k->(Fr p S.h)[k]?=S.h[k]? :=λk e=>ZL (a k<|by subst e;simp[JY])
 have ex:∀k m off n,x=.msl k m off n->(Fr p S.h)[k]?=S.h[k]? :=λk m off n e=>ZL (a k<|by subst e;simp[JY])
 unfold Vp;cases M6 P t with
 |none=>rfl
 |some v=>
  obtain⟨k,e,i,z⟩:=v;simp only
  by_cases b:128<i.bytes
  ·simp only[b,zN6]
  simp only[b,zTQ];cases k with
  |ints=>
   simp only[c];cases Nq S y with
   |none=>rfl
   |some v=>
    cases x <;> try rfl
    grind
  |bools=>
   simp only[K];cases So S y with
   |none=>rfl
   |some v=>
    cases x <;> try rfl
    grind
  |gen X=>
   simp only[N];cases SW S X y with
   |none=>rfl
   |some v=>
    cases x <;> try rfl
    ·grind
    ·simp only[Q _ rfl];split <;> try rfl
     split <;> rfl
variable{ext:ζ}{vs:O Prop}
theorem zSg(R:AS P Γ N S ρ a w){g:O (DV×DH×ζ)}{K:O (DV×DH×ζ)}(h:QX P Γ S g o.op=Z (Ϛ,h',vs,ext,K))(Q:BX vs){l:Θ}(m:jU S o=Z l)(W:BP P (ω a.eval o) w G):
 BP P (ω a.eval o) w λv w'=>G v w'/\AR (λb=>∃k o q,k∈l/\S.h[k]?=Z (Z o)/\ρ[k]?=Z q/\q.foot b) w w':=by
 unfold jU at m;split at m
 rotate_left
 ·cases m
 rename_i c j;split at m
 rotate_left
 ·cases m
 rename_i hc;split at m
 rotate_left
 ·cases m
 rename_i x y n;cases m;rw[j]at h;simp only[QX,hc,n]at h;split at h
 rotate_left
 ·cases h
 rename_i t t' r;split at h
 rotate_left
 ·cases h
 rename_i X;subst X;split at h
 rotate_left
 ·cases h
 rename_i d1 h1 Y ZA;cases h;have z:=zSf (P:=P) (S:=S) (t:=t) (x:=Ak S.fr x) (y:=Ak S.fr y) (p:=λk=>(JY (Ak S.fr x)++JY (Ak S.fr y)).contains k) (λk hk=>by simp[hk]) (λk hk=>by simp[hk]);rw[ZA]at z;obtain⟨⟨d2,h2,s⟩,hs,u⟩:=zMb.1 z;have u:s=Y:=u;subst u;have D2:=zCS (AS.sel R λk=>(JY (Ak S.fr x)++JY (Ak S.fr y)).contains k) hs Q.1 o j hc n r;rcases BP.appendB j hc n r W D2 with⟨v,w1,i,I,J⟩|⟨w1,i,I,J⟩|⟨f,ag,w1,i,BI⟩
 ·refine .inl ⟨v,w1,i,I,?_⟩;obtain⟨ρ2,_,_,st,_⟩:=J.ex;refine st.upd.mono λb _ hb=>?_
  grind[Fr,MO]
 ·rw[OI j hc n r]at i;obtain⟨_,e⟩:=TS (f:=λx=>x) i;cases e
 ·rw[OI j hc n r]at i;obtain⟨_,e⟩:=TS (f:=λx=>x) i;cases e
theorem kS(h:Tf S o=Z k):∃t x y,o.op=.store t x y/\((∃j,Ak S.fr x=.ref k j)∨∃m i j,Ak S.fr x=.mp k m i j):=by
 grind[Tf]
theorem zS8{q:O (DV×DH×ζ)}(ho:o.op=.store t x y){f:O (DV×DH×ζ)}(h:QX P Γ S q o.op=Z (Ϛ,h',vs,ext,f)):∃a,Qu P S t (Ak S.fr x) (Ak S.fr y)=Z (h',a)/\vs= [a]:=by
 grind[QX]
theorem zS9(R:AS P Γ N S ρ a w){c:O (DV×DH×ζ)}{l:O (DV×DH×ζ)}(h:QX P Γ S c o.op=Z (Ϛ,h',vs,ext,l))(j:BX vs):
 BP P (ω a.eval o) w (λv w'=>CG P Γ N S.h ρ w ext Ϛ h' v w'/\∀k,Tf S o=Z k->AR (λb=>∃q,ρ[k]?=Z q/\q.foot b) w w'):=by
 cases hst:Tf S o with
 |none=>
  have ϑ:=rh R h j
  simp_all
 |some k=>
  obtain⟨t,x,y,e,m⟩:=kS hst;have ϑ:=rh R h j;obtain⟨vc,n,rfl⟩:=zS8 e h;obtain⟨_,h2,r⟩:=zEJ m n;have s:=uK (AS.sel R λi=>i==k) (tx:=x) (x:=y) r j.1 o e;have Y:=BP.store e ϑ s;rcases Y with⟨v,w1,g,p,u⟩|⟨w1,g,p,u⟩|⟨f,ag,w1,g,_⟩
  ·cases qU e g
  ·refine .inr<|.inl ⟨w1,g,p,λk' z=>?_⟩;cases z;obtain⟨ρ2,_,_,st,_⟩:=u.ex;refine st.upd.mono λb _ G=>?_
   obtain⟨i,o',q,q1,q2,q3⟩:=G
   grind[Fr]
  ·cases qU e g
variable{Q:Exit->Act->κ->Prop}{S':St}{ops:υ Oper}{ϖ:Fence}
theorem zSX(j:Dk ϖ P)(R:AS P Γ N S ρ a w){An:BT}(r:∀c,o.op≠.defer c){Cg:BT}(h:Sx P Γ ops S An o=Z (S',vs,ext,Cg))(n:BX vs)
 {K:Act->κ->Prop}  (m:∀ρ' s w',AS P Γ N S' ρ' s w'->Di S.h ρ w S'.h ρ' w'->s.defers=a.defers->(ext=T->A9 w w')->(∀k,Tf S o=Z k->AR (λb=>∃q,ρ[k]?=Z q/\q.foot b) w w')->(∀l,Vq P S An.fz o=Z l->AR (λb=>∃k o q,k∈l/\S.h[k]?=Z (Z o)/\ρ[k]?=Z q/\q.foot b) w w')->K s w'):
 C (Region.wanted o<|yielded ops a.tmps) (o.wpIn ϖ 0 P a w K Q) ((∀f,o.about P w a.eval=Z f->ϖ.fn f)/\K (a.put o.dst undef) w):=by
 have I:∀v,(a.put o.dst v).defers=a.defers:=λv=>by cases ho:o.dst <;> simp[Act.put]
 unfold Sx at h;split at h
 ·cases h
 ·rename_i z;cases h;rw[zAt<|by rw[H9 R z];exact Bool.false_ne_true];exact⟨λf _=>j.fn f,m ρ _ _ (Gw R _ bH) (Di.refl _ _ _) (I _) (λ_=>A9.refl w) (λ_ _=>AR.refl _ _) λ_ _=>AR.refl _ _⟩
 ·rename_i z;rw[zAB<|H9 R z];split at h
  ·rename_i S1 DE fz1 J;cases h;refine M7 j r (vI R J n) λv w' ⟨⟨ρ',g,u⟩,hst⟩=>m ρ' _ _ g u (I v) (λe=>by cases e) (λW X=>?_) λl Y=>?_
   obtain⟨t0,x0,y0,LG,_⟩:=kS X;rcases hst with hst|⟨k,i,p,t,x,y,q1,q2,q3,q4⟩
   ·grind
   have e:W=k:=by
    grind
   subst e;exact q4.mono λb _ hb=>⟨p,q3,hb⟩
   grind[Vq]
  split at h
  ·rename_i S1 DE J;cases h;refine M7 j r (uJ R J n) λv w' ⟨⟨ρ',g,u⟩,hst⟩=>m ρ' _ _ g u (I v) (λe=>by cases e) (λW X=>?_) λl Y=>?_
   obtain⟨t0,x0,y0,LG,_⟩:=kS X;rcases hst with hst|⟨k,i,p,t,x,y,q1,q2,q3,q4⟩
   ·grind
   have e:W=k:=by
    grind
   subst e;exact q4.mono λb _ hb=>⟨p,q3,hb⟩
   grind[Vq]
  split at h
  ·cases h
  ·rename_i Ϛ h1 DE ext1 calls gX;split at h;rename_i d' CI Dw P7;split at h
   ·cases h
   ·rename_i S2 TR Mx IX;cases h;obtain⟨B2,YU⟩:=D5.1 n;obtain⟨Cn,KQ⟩:=D5.1 YU;have ϑ:=zS9 R gX B2;cases ZA:jU S o with
    |none=>
     refine M7 j r ϑ λv w' G=>?_
     obtain⟨ρ',g,u⟩:=QB R o.dst G.1 (d':=d') λϗ ρ' hr=>aE P7 Cn hr
     obtain⟨g3,g4⟩:=ZO _ IX KQ P Γ N ρ' _ _ g;refine m ρ' _ _ g3 (u.trans ⟨g4,λ_ _ h=>h⟩) (I v) G.1.ext G.2 λl Y=>?_
     grind[Vq]
    |some l0=>
     refine M7 j r (zSg R gX B2 ZA ϑ) λv w' G=>?_
     obtain⟨ρ',g,u⟩:=QB R o.dst G.1.1 (d':=d') λϗ ρ' hr=>aE P7 Cn hr
     obtain⟨g3,g4⟩:=ZO _ IX KQ P Γ N ρ' _ _ g;refine m ρ' _ _ g3 (u.trans ⟨g4,λ_ _ h=>h⟩) (I v) G.1.1.ext G.1.2 λl Y=>?_
     grind[Vq]
variable{early:Θ}
theorem si(hF:Dk ϖ P)(A1:Ca ops=T)(hs:Region.noSelect ops=T){xs:O (U×U)}{g:Θ}{K:U}:
 ∀(t:ST) (m:U) (Ϝ:υ ζ) {S:St} {ρ:O AK} {a:Act} {w:κ} {vs:O Prop} {An Cg:BT},HO ops Ϝ->AS P Γ N S ρ a w->Oj P Γ ops early xs g K S' t S An=Z (vs,Cg)->BX vs->
 (∀ρ' n w',AS P Γ N S' ρ' n w'->A8 S.h ρ w S'.h ρ' w'->(∀k p,k<K->ρ[k]?=Z p->ρ'[k]?=Z p)->n.defers=a.defers->Q .normal n w')->
 (Fg ops early D m t Ϝ=T->ar ϖ 0 P ops (NP Q) (RZ ops (λj=>early.contains j) λj=>Zs (Lw xs g j) S.h ρ w) m Ϝ a w)/\
 (Fg ops early T m t Ϝ=T->∀i∈Vr t,i∈Region.ready .any ops Ϝ->∃r,m=r+1/\wpOpIn ϖ 0 P ops (NP Q) i (λn w'=>RZ ops (λj=>early.contains j) (λj=>Zs (Lw xs g j) S.h ρ w) i w w'/\ar ϖ 0 P ops (NP Q) (RZ ops (λj=>early.contains j) λj=>Zs (Lw xs g j) S.h ρ w) r (Ϝ.setIfInBounds i T) n w') a w):=by
 intro t
 induction t with
 |no=>
  grind[Fg,Vr]
 |fin π s=>
  intro m Ϝ S ρ a w vs An xa Y R f hv y;refine⟨λh=>?_,λh=>by cases m <;> simp[Fg]at h⟩;cases m with
  |succ m=>simp[Fg]at h
  |zero=>
   simp only[Fg,zAP,zAV]at h;refine zC2 h ?_;simp only[Oj]at f;split at f
   ·rename_i hσ;cases f;simp only[uq,zAK,zLV,zAP,zAV]at hσ;obtain⟨ρ0,R0,D7,X⟩:=BB.forget (Ϝ:=K) s S.fr S.h P Γ N ρ a w R;obtain⟨ρ',R',EP,k'⟩:=BB.compact (Ϝ:=K) (k6 π K) ⟨forget s S.fr,S.h⟩ hσ.1.1 (λk hk=>hσ.1.2 k hk) (λk hk=>hσ.2 k hk) P Γ N ρ0 a w R0;have st:=D7.trans EP
    grind[NP,BX,Bm]
   ·cases f
 |rd i t ih=>
  intro m Ϝ S ρ a w vs An xa Y R f hv y;refine⟨λh=>?_,λh=>by cases m <;> simp[Fg]at h⟩;cases m with
  |zero=>simp[Fg]at h
  |succ m=>
   simp only[Fg,zAK]at h;simp only[Oj]at f;split at f
   ·cases f
   ·rename_i o z
    ·split at f
     ·cases f
     ·rename_i S1 DE OQ hp;split at f
      ·cases f
      ·rename_i Eg Gc h2;cases f;obtain⟨B2,Cn⟩:=D5.1 hv;have RK:=AS.sel R λk=>!(Oc ops xs g i).contains k;obtain⟨e1,hst⟩:=XY RK hp B2;have Cu:∀v,(a.put o.dst v).defers=a.defers:=λv=>by cases z:o.dst <;> simp[Act.put]
       have Px:(Region.ready .any ops Ϝ).contains i=T:=by
        simp_all[UD]
       have back:∀v,A3 (MS (λb=>N b∨∃k o q,(!(Oc ops xs g i).contains k)=D/\S.h[k]?=Z (Z o)/\ρ[k]?=Z q/\q.foot b) S1.h ρ) w ρ S1.fr (a.put o.dst v).tmps->AS P Γ N ⟨S1.fr,S.h⟩ ρ (a.put o.dst v) w:=λv u=>by
        rw[e1]at u;exact AS.unsel (p:=λk=>!(Oc ops xs g i).contains k) R.hr u
       have hZ:∀j,Gu ops ops.size j i=D->∀b,Zs (Lw xs g j) S.h ρ w b->Zs (Oc ops xs g i) S.h ρ w b:=by
        rintro j hj b (⟨k,ob,q,k1,X,k2,k3⟩|hb)
        ·refine .inl ⟨k,ob,q,?_,X,k2,k3⟩;unfold Lw at k1;unfold Oc;rcases zMc.1 k1 with k1|k1
         ·obtain⟨p,p1,p2⟩:=zMa.1 k1
          grind
         grind
        ·exact .inr hb
       rcases hst with⟨G,v,g1,g2⟩|⟨G,g2⟩
       ·refine dG (Zi:=Zs (Oc ops xs g i) S.h ρ w) hF.fn A1 hs (λc a Ϛ v w h=>NP.put c a Ϛ v w h) z Y h.1 hZ (λ_ _ h=>by cases h) (.inl ⟨G,λW hu=>g1 W<|zLf hu⟩) ?_;exact(ih m _ (aH Y Px) (back v g2.fr) h2 Cn λρ' n w' I J q3 q4=>y ρ' n w' I J q3<|q4.trans<|Cu v).1 h.2
       ·refine dG (Zi:=Zs (Oc ops xs g i) S.h ρ w) hF.fn A1 hs (v:=undef) (λc a Ϛ v w h=>NP.put c a Ϛ v w h) z Y h.1 hZ (λ_ _ h=>by cases h) (.inr ⟨G,rfl⟩) ?_;exact(ih m _ (aH Y Px) (back undef g2.fr) h2 Cn λρ' n w' I J q3 q4=>y ρ' n w' I J q3<|q4.trans<|Cu undef).1 h.2
 |ef i t Jr Rp Ro=>
  intro m Ϝ S ρ a w vs An xa Y R f hv y;simp only[Oj]at f;split at f
  ·cases f
  ·rename_i o z;split at f
   ·cases f
   ·rename_i S1 DE ext FD h1;split at f
    ·rename_i gU;simp only[zBD,zAK,zCz]at gU;obtain⟨zOP,zOf⟩:=gU;split at f
     ·cases f
     rename_i Eg Gc h2;split at f
     ·cases f
     ·rename_i TQ Nh h3;cases f;obtain⟨B2,FG⟩:=D5.1 hv;obtain⟨Cn,KQ⟩:=D5.1 FG;have ϕ:=Ro m Ϝ Y R h3 KQ y
      have one:∀b,Fg ops early b m (.ef i t Jr) Ϝ=T->(Region.ready .any ops Ϝ).contains i=T->∃r,m=r+1/\Fg ops early T m Jr Ϝ=T/\wpOpIn ϖ 0 P ops (NP Q) i (λn w'=>RZ ops (λj=>early.contains j) (λj=>Zs (Lw xs g j) S.h ρ w) i w w'/\ar ϖ 0 P ops (NP Q) (RZ ops (λj=>early.contains j) λj=>Zs (Lw xs g j) S.h ρ w) r (Ϝ.setIfInBounds i T) n w') a w:=by
       intro b hb u;cases m with
       |zero=>cases b <;> simp[Fg]at hb
       |succ m=>
        have FX:(!UN ops i)=T/\Fg ops early D m t (Ϝ.setIfInBounds i T)=T/\Fg ops early T (m+1) Jr Ϝ=T:=by
         cases b <;> simp only[Fg,zAK]at hb <;> exact⟨hb.1.1.2,hb.1.2,hb.2⟩
        obtain⟨b1,b2,b3⟩:=FX;refine⟨m,rfl,b3,?_⟩;unfold wpOpIn;simp only[z];refine zSX hF R (IR A1 z) h1 B2 λρ' n w' R' st Du Ms zMg zOx=>?_
        refine⟨⟨λhp=>(by rw[hp]at b1;cases b1),λhe=>?_⟩,?_⟩
        ·rcases zOf with((h|h)|h)|h
         ·grind
         ·exact AR.ofExt<|Ms h
         ·split at h
          ·rename_i k hk;rw[zAK]at h;refine(zMg k hk).mono λb _ hb=>?_
           obtain⟨q,I,J⟩:=hb;cases hg:S.h.getD k V with
           |none=>rw[hg]at h;cases h.2
           |some ob=>grind[Zs]
          ·cases h
         ·split at h
          ·rename_i l hl;refine(zOx l hl).mono λb _ hb=>?_
           grind[Zs]
          ·cases h
        ·have ϒ:=(Rp m _ (aH Y u) R' h2 Cn λρ2 a2 w2 I J q3 q4=>y ρ2 a2 w2 I (st.st.trans J) (λk p hk hp=>q3 k p hk<|st.pl k p hp)<|q4.trans Du).1 b2;refine sD (λj w1 w2 hR=>⟨hR.1,λhe=>(hR.2 he).mono λb LV hb=>?_⟩) _ _ _ _ ϒ;rcases hb with⟨k,ob,q,k1,X,k2,k3⟩|hb
         ·rcases st.st.grow b ⟨k,ob,q,X,k2,k3⟩with⟨x,o2,p2,g1,g2,g3⟩|h
          ·by_cases DC:x∈Lw xs g j
           ·grind[Zs]
           ·exfalso
            have FI:=(zDh.1 g1).1;have KM:=zAP.1 zOP x<|zAV.2 FI;have e2:S.h.getD x V=Z o2:=Z4
            have og:g.contains x=D:=zO9.2 λh=>DC (zMc.2<|.inr<|by simpa using h)
            rw[e2,og]at KM;cases zy:S1.h.getD x V with
            |none=>rw[zy]at KM;cases KM
            |some ob2=>exact R'.hr.dis x k ob2 ob p2 q b (λe=>DC<|e▸k1) (getD_some zy) X (st.pl x p2 g2) k2 g3 k3
          ·exact .inr h
         ·exact .inr<|zAO st.st.upd.size hb
      refine⟨λh=>?_,λh j hj u=>?_⟩
      ·have Px:Region.ready .any ops Ϝ=i::Vr Jr:=by
        cases m <;> simp only[Fg,zAK,zCz,zB1,Vr,zMe,false_or]at h;exact h.1.1.1
       obtain⟨r,e,ha,G⟩:=one D h (by rw[Px];simp);subst e;refine⟨by rw[Px];simp,λj hj=>?_⟩
       grind
      ·rcases zMk.1 hj with rfl|hj
       ·obtain⟨r,e,ha,G⟩:=one T h (by simpa using u);exact⟨r,e,G⟩
       ·have ha:Fg ops early T m Jr Ϝ=T:=by
         cases m <;> simp only[Fg,zAK]at h
         ·cases h
         ·exact h.2
        exact ϕ.2 ha j hj u
    ·cases f
theorem Tr.tree{ϙ:A U}{Ϝ:U}{Y:BS P Γ Ϝ}{Q:QY P Γ Ϝ}(e:Dk ϖ P){id:U}{t:ST}{f q:BT}(z:P.follows .mixedOrders=T)(c:Bz ops early t)
 (h:WK P Γ ops early t S f=Z (S',vs,q)) (o:BX vs) (hk:Q .normal S' Y):Tr P Γ ϖ ϙ Ϝ Y (.region id ops T) S Q:=λN ρ a w R y m b=>by
 simp only[Bz,zAK]at c;obtain⟨⟨g,i⟩,j⟩:=c;unfold WK at h;split at h
 ·cases h
 split at h
 ·cases h
 ·rename_i l;cases h;have s:A9 w w.drew:=A9.toDrew w;refine sI<|jv z (Nat.add_zero _)<|(si e j i t ops.size _ qn (R.ext s) l o λρ' a' w' R' st n u=>?_).1 g;have r:A8 S.h ρ w S'.h ρ' w':=(A8.ext s).trans st;exact Tr.done R y m b hk R' r (λk p _ v=>n k p (by rw[←R.hr.len];grind) v) u
end
end
abbrev zON:=@Go.wpIn_region_list
abbrev zUA:=@Go.IntKind.wrap_i64
inductive KI where
 |code (c:Code)
 |blk (id:U)
 |scp
 |lend (J:St->Prop)
 |loopN (m:U) (b:Code)
def Ih(P:ν)(Γ:A2)(ϖ:Fence)(ϙ:A U)(Ϝ:U)(b:Code)(Q:QY P Γ Ϝ):U->St->BS P Γ Ϝ->Prop
 |0,_,_=>False
 |m+1,S,Y=>Tr P Γ ϖ ϙ Ϝ Y b S<|Qs (Ih P Γ ϖ ϙ Ϝ b Q m) Q
def Ih.loop{P:ν}{Γ:A2}{ϖ:Fence}{ϙ:A U}{Ϝ:U}{Y:BS P Γ Ϝ}{b:Code}{Q:QY P Γ Ϝ}{m:U}{S:St}(h:Ih P Γ ϖ ϙ Ϝ b Q m S Y):Tr P Γ ϖ ϙ Ϝ Y (.loop b) S Q:=by
 refine Tr.loop (λm S Y=>Ih P Γ ϖ ϙ Ϝ b Q m S Y) m h λm S Y z=>?_
 cases m with
 |zero=>exact z.elim
 |succ m=>
  refine Tr.mono z λe S' Y' f=>?_
  cases e with
  |normal=>exact⟨m,Nat.lt_succ_self m,f⟩
  |_=>exact f
def BN(P:ν)(Γ:A2)(ϖ:Fence)(ϙ:A U)(Ϝ:U)(Q:QY P Γ Ϝ):O KI->QY P Γ Ϝ
 |[],e,S,Y=>Q e S Y
 | .code c::k,e,S,Y=>match e with
  | .normal=>Tr P Γ ϖ ϙ Ϝ Y c S<|BN P Γ ϖ ϙ Ϝ Q k
  |e=>BN P Γ ϖ ϙ Ϝ Q k e S Y
 | .blk id::k,e,S,Y=>match e with
  | .exit i=>C (i=id) (BN P Γ ϖ ϙ Ϝ Q k .normal S Y)<|BN P Γ ϖ ϙ Ϝ Q k (.exit i) S Y
  |e=>BN P Γ ϖ ϙ Ϝ Q k e S Y
 | .scp::k,e,S,Y=>match e with
  | .goto _=>False
  |e=>BN P Γ ϖ ϙ Ϝ Q k e S Y
 | .lend J::k,e,S,Y=>match e with
  | .normal=>J S
  |e=>BN P Γ ϖ ϙ Ϝ Q k e S Y
 | .loopN m b::k,e,S,Y=>match e with
  | .normal=>Ih P Γ ϖ ϙ Ϝ b (BN P Γ ϖ ϙ Ϝ Q k) m S Y
  |e=>BN P Γ ϖ ϙ Ϝ Q k e S Y
def A6(P:ν)(Γ:A2)(ϖ:Fence)(ϙ:A U)(Ϝ:U)(Y:BS P Γ Ϝ)(Q:QY P Γ Ϝ)(k:O KI)(S:St):Prop:=BN P Γ ϖ ϙ Ϝ Q k .normal S Y
def stay{P:ν}{Γ:A2}{Ϝ:U}(N:BS P Γ Ϝ)(Q:Exit->St->Prop):QY P Γ Ϝ:=λe S Y=>Y=N/\Q e S
abbrev BY(P:ν)(Γ:A2)(ϖ:Fence)(ϙ:A U)(Ϝ:U)(N:BS P Γ Ϝ)(Q:Exit->St->Prop)(k:O KI)(S:St):Prop:=A6 P Γ ϖ ϙ Ϝ N (stay N Q) k S
def K4(id:U):O KI->A (O KI)
 |[]=>V
 | .blk i::k=>C (id=i) (Z k)<|K4 id k
 |_::k=>K4 id k
inductive ri where
 |no
 |ord (st:O (Θ×U)) (la ta:Θ)
 |stop
 |tre (early:Θ) (t:ST)
abbrev BZ:=U->ri
def ri.isStop:ri->ζ
 | .stop=>T
 |_=>D
def AQ(i:U)(s:BZ):BZ:=λj=>C (j=i) .stop<|s j
def Ar(ops:υ Oper)(J:O<|Θ×U)(w b:Θ):Prop:=(lH ops J w b&&Ca ops&&b.all λt=>decide (t<ops.size))=T
inductive KO where
 |at(k:O KI)
 |ret
def Cr(P:ν)(Γ:A2)(e:BZ):U->O KI->St->BT->A (KO×St×O Prop×BT)
 |0,_,_,_=>V
 |n+1,k,S,o=>match k with
  |[]=>Z (.at [],S,[],o)
  | .blk _::k=>Cr P Γ e n k S o
  | .scp::k=>Cr P Γ e n k S o
  | .lend J::k=>Z (.at<|.lend J::k,S,[],o)
  | .loopN m b::k=>Z (.at<|.loopN m b::k,S,[],o)
  | .code c::k=>match c with
   | .skip=>Cr P Γ e n k S o
   | .seq a b=>Cr P Γ e n (.code a:: .code b::k) S o
   | .block id b=>Cr P Γ e n (.code b:: .blk id::k) S o
   | .scope b=>Cr P Γ e n (.code b:: .scp::k) S o
   | .label _=>Cr P Γ e n k S o
   | .exit id=>match K4 id k with
    |some W=>Cr P Γ e n W S o
    |none=>Z (.at<|.code (.exit id)::k,S,[],o)
   | .ret=>Z (.ret,S,[],o)
   | .cond x a b=>match Ak S.fr x with
    | .bool T=>Cr P Γ e n (.code a::k) S o
    | .bool D=>Cr P Γ e n (.code b::k) S o
    |_=>V
   | .region id ops f=>if(e id).isStop then Z (.at<|.code (.region id ops f)::k,S,[],o)else match f with
    |false=>if Ca ops then match EL P Γ ops ops.toList S o with
     |none=>V
     |some (S',vs,o')=>match Cr P Γ e n k S' o' with
      |none=>V
      |some (r,p,Y,u)=>Z (r,p,vs++Y,u)
     else V
    |true=>match e id with
     | .no=>V
     | .stop=>V
     | .tre early t=>match WK P Γ ops early t S o with
      |none=>V
      |some (S',vs,o')=>match Cr P Γ e n k S' o' with
       |none=>V
       |some (r,p,Y,u)=>Z (r,p,Bz ops early t::(vs++Y),u)
     | .ord st l g=>match hseq P Γ ops S.h st l g S o with
      |none=>V
      |some (S',vs,o')=>match Cr P Γ e n k S' o' with
       |none=>V
       |some (r,p,Y,u)=>Z (r,p,Ar ops st l g::(vs++Y),u)
   |c=>Z (.at<|.code c::k,S,[],o)
section
variable{P:ν}{Γ:A2}{ϖ:Fence}{ϙ:A U}{Ϝ:U}{Y:BS P Γ Ϝ}{Q:QY P Γ Ϝ}
variable{vs:O Prop}{S' S:St}{q:BT}{ops:υ Oper}{id:U}
def zPH(c:Dk ϖ P){e:BT}{Q:QY P Γ Ϝ}(f:Ca ops=T)(h:EL P Γ ops ops.toList S e=Z (S',vs,q))(g:BX vs)(hk:Q .normal S' Y):Tr P Γ ϖ ϙ Ϝ Y (.region id ops D) S Q:=λN ρ a w R y m b=>
 zON (Mv c f _ (λo x=>by simpa using x) R h g λρ' a' w' R' st u=>Tr.done R y m b hk R' st.st (λk p _ i=>st.pl k p i) u)
theorem zMn(f:Dk ϖ P){J:O (Θ×U)}{e c:Θ}{i:BT}{Q:QY P Γ Ϝ}(z:P.follows .mixedOrders=T)(g:Ar ops J e c)
 (h:hseq P Γ ops S.h J e c S i=Z (S',vs,q)) (o:BX vs) (hk:Q .normal S' Y):Tr P Γ ϖ ϙ Ϝ Y (.region id ops T) S Q:=λN ρ a w R y m b=>by
 simp only[Ar,zAK]at g;obtain⟨⟨h1,j⟩,l⟩:=g;have s:A9 w w.drew:=A9.toDrew w;refine sG f.fn J e c z Z4<|zMo f j J e c l (R.ext s) (Di.refl _ _ _) (A9.refl _) h o λρ' a' w' R' st u=>?_;have n:A8 S.h ρ w S'.h ρ' w':=(A8.ext s).trans st.st;exact Tr.done R y m b hk R' n (λk p _ r=>st.pl k p r) u
theorem RG :∀{k W:O KI},K4 id k=Z W->BN P Γ ϖ ϙ Ϝ Q W .normal S Y->BN P Γ ϖ ϙ Ϝ Q k (.exit id) S Y
 |[],_,h,_=>by cases h
 | .blk i::k,W,h,f=>by
  unfold K4 at h;split at h
  ·rename_i e;cases h;subst e
   show C (id=id) _ _
   rw[zAB rfl];exact f
  ·rename_i e
   show C (id=i) _ _
   rw[zAt e];exact RG h f
 | .code c::k,W,h,f=>RG (k:=k) h f
 | .lend J::k,W,h,f=>RG (k:=k) h f
 | .scp::k,W,h,f=>RG (k:=k) h f
 | .loopN m b::k,W,h,f=>RG (k:=k) h f
def PC(h:Q .ret S Y):∀(k:O KI),BN P Γ ϖ ϙ Ϝ Q k .ret S Y
 |[]=>h
 | .blk _::k=>PC h k
 | .code _::k=>PC h k
 | .lend _::k=>PC h k
 | .scp::k=>PC h k
 | .loopN _ _::k=>PC h k
def KOk(P:ν)(Γ:A2)(ϖ:Fence)(ϙ:A U)(Ϝ:U)(Y:BS P Γ Ϝ)(Q:QY P Γ Ϝ):KO->St->Prop
 | .at k,S=>A6 P Γ ϖ ϙ Ϝ Y Q k S
 | .ret,S=>Q .ret S Y
def G6(g:Dk ϖ P)(z:P.follows .mixedOrders=T){BK:BZ}:∀(n:U) (k:O KI) (S:St) (o:BT) (r:KO) (S':St) (vs:O Prop) (o':BT),Cr P Γ BK n k S o=Z (r,S',vs,o')->BX vs->KOk P Γ ϖ ϙ Ϝ Y Q r S'->A6 P Γ ϖ ϙ Ϝ Y Q k S
 |0,_,_,_,_,_,_,_,h,_,_=>by cases h
 |n+1,k,S,o,r,S',vs,o',h,j,hk=>by
  unfold Cr at h;cases k with
  |nil=>cases h;exact hk
  |cons i k=>
   cases i with
   |blk id=>exact G6 g z n k S o r S' vs o' h j hk
   |scp=>exact G6 g z n k S o r S' vs o' h j hk
   |lend J=>cases h;exact hk
   |loopN m b=>cases h;exact hk
   |code c=>
    show Tr P Γ ϖ ϙ Ϝ Y c S<|BN P Γ ϖ ϙ Ϝ Q k
    cases c with
    |skip=>exact Tr.skip<|G6 g z n k S o r S' vs o' h j hk
    |seq a b=>
     refine Tr.seq<|Tr.mono (G6 g z n (.code a:: .code b::k) S o r S' vs o' h j hk) λe p N q=>?_;cases e <;> exact q
    |block id b=>
     refine Tr.block<|Tr.mono (G6 g z n (.code b:: .blk id::k) S o r S' vs o' h j hk) λe p N q=>?_;cases e <;> exact q
    |exit id=>
     simp only at h;split at h
     ·rename_i k' hp;exact Tr.exit<|RG hp<|G6 g z n k' S o r S' vs o' h j hk
     ·cases h;exact hk
    |ret=>cases h;exact Tr.ret<|PC hk k
    |cond x a b=>
     simp only at h;split at h
     ·rename_i hc;exact Tr.cond hc (λ_=>G6 g z n (.code a::k) S o r S' vs o' h j hk) (λe=>by cases e)
     ·rename_i hc;exact Tr.cond hc (λe=>by cases e) λ_=>G6 g z n (.code b::k) S o r S' vs o' h j hk
     ·cases h
    |region id ops dr=>
     simp only at h;split at h
     ·cases h;exact hk
     ·cases dr with
      |false=>
       simp only at h;split at h
       ·rename_i A1;split at h
        ·cases h
        ·rename_i y R o1 s;split at h
         ·cases h
         ·rename_i W p X o2 u;cases h;obtain⟨v,G⟩:=D5.1 j;exact zPH g A1 s v<|G6 g z n k y o1 _ _ _ _ u G hk
       ·cases h
      |true=>
       simp only at h;split at h
       ·cases h
       ·cases h
       ·rename_i early t hs;split at h
        ·cases h
        ·rename_i y R o1 s;split at h
         ·cases h
         ·rename_i W p X o2 u;cases h;obtain⟨I,K⟩:=j;obtain⟨v,G⟩:=D5.1 K;exact Tr.tree g z I s v<|G6 g z n k y o1 _ _ _ _ u G hk
       ·rename_i st la ta hs;split at h
        ·cases h
        ·rename_i y R o1 s;split at h
         ·cases h
         ·rename_i W p X o2 u;cases h;obtain⟨I,K⟩:=j;obtain⟨v,G⟩:=D5.1 K;exact zMn g z I s v<|G6 g z n k y o1 _ _ _ _ u G hk
    |loop b=>cases h;exact hk
    |rangeFunc f ps NA bd=>cases h;exact hk
    |scope b=>
     refine Tr.scope<|Tr.mono (G6 g z n (.code b:: .scp::k) S o r S' vs o' h j hk) λe p N q=>?_;cases e <;> exact q
    |label l=>exact Tr.label<|G6 g z n k S o r S' vs o' h j hk
    |goto l=>cases h;exact hk
    |refuse w=>cases h;exact hk
variable{k:O KI}
def A6.weaken(q:BB Ϝ S S')(h:A6 P Γ ϖ ϙ Ϝ Y Q k S')(hk:∃c W,k=.code c::W):A6 P Γ ϖ ϙ Ϝ Y Q k S:=by
 obtain⟨c,W,rfl⟩:=hk;exact Tr.weaken q h
def Rl:O KI->ζ
 | .code (.loop _)::_=>T
 |_=>D
def D6(k:O KI):O KI:=match k with
 |_::rest=>rest
 |[]=>[]
def QG(id:U):Θ->Code->O KI->A (O KI)
 |ms,.seq a b,k=>match QG id ms a (.code b::k)with
  |some r=>Z r
  |none=>QG id ms b k
 |ms,.cond _ a b,k=>match QG id ms a k with
  |some r=>Z r
  |none=>QG id ms b k
 |ms,.block i c,k=>C (i=id) (Z<|.code c:: .blk i::k)<|QG id ms c<|.blk i::k
 |ms,.scope c,k=>QG id ms c<|.scp::k
 |m::ms,.loop b,k=>QG id ms b<|.loopN m b::k
 |_,_,_=>V
def QH(id:U):Θ->Code->O KI->A (O KI)
 |ms,.seq a b,k=>match QH id ms a (.code b::k)with
  |some r=>Z r
  |none=>QH id ms b k
 |ms,.cond _ a b,k=>match QH id ms a k with
  |some r=>Z r
  |none=>QH id ms b k
 |ms,.block i c,k=>QH id ms c<|.blk i::k
 |ms,.scope c,k=>QH id ms c<|.scp::k
 |m::ms,.loop b,k=>QH id ms b<|.loopN m b::k
 |_,.region i ops t,k=>C (i=id) (Z<|.code (.region i ops t)::k) V
 |_,_,_=>V
def EH(m:U)(k:O KI):O KI:=match k with
 | .code (.loop b)::rest=>.loopN m b::rest
 |_=>[]
def se(m:U)(k:O KI):O KI:=match k with
 | .code (.loop b)::rest=>.code b:: .loopN m b::rest
 |_=>[]
def start(f:Func):O KI:=match f.body with
 |some c=>[.code c]
 |none=>[]
def MC(c:Code)(id:U):υ Oper:=match c with
 | .region i ops _=>C (i=id) ops<|#[]
 | .seq a b=>let x:=MC a id;C (x.size=0) (MC b id) x
 | .cond _ a b=>let x:=MC a id;C (x.size=0) (MC b id) x
 | .block _ c=>MC c id
 | .loop c=>MC c id
 | .scope c=>MC c id
 | .rangeFunc _ _ a b=>let x:=MC a id;C (x.size=0) (MC b id) x
 |_=>#[]
def Am(f:Func)(id:U):υ Oper:=match f.body with
 |some c=>MC c id
 |none=>#[]
theorem BY.enter(m:U)(hk:Rl k=T)(h:A6 P Γ ϖ ϙ Ϝ Y Q (EH m k) S):A6 P Γ ϖ ϙ Ϝ Y Q k S:=by
 unfold Rl at hk;split at hk
 ·exact Ih.loop h
 ·cases hk
def BY.round{n m:U}(z:n+1<=m)(hk:Rl k=T)(h:∀m,n<=m->A6 P Γ ϖ ϙ Ϝ Y Q (se m k) S):A6 P Γ ϖ ϙ Ϝ Y Q (EH m k) S:=by
 cases m with
 |zero=>omega
 |succ m=>
  have h:=h m<|Nat.le_of_succ_le_succ z;unfold Rl at hk;split at hk
  ·refine Tr.mono h λe S' Y' f=>?_
   cases e <;> exact f
  ·cases hk
def AF(n:U)(l:O<|U×DV):O DV:=(θ n).map λi=>match l.find? (λx=>x.1==i)with
 |some x=>x.2
 |none=>.any
variable{h':DH}{Ϛ:DV}{fn:Func}
def DD.le{e:Exit}(q:BB Ϝ S S')(h:DD P fn Ϝ Ϛ h' e S'):DD P fn Ϝ Ϛ h' e S:=by
 obtain⟨a,p,b,c⟩:=h;exact⟨a,p,q.trans b,c⟩
variable{h:DH}{ds:O DV}{f:U}
def ES.of_trk{ext:ζ}(g:P.funcs[f]?=Z fn)(b:fn.body.isSome=T)(a:(fn.name== "runtime.NumGoroutine")=D)(hni:RR h')(i:ext=T->h= [])
 (Ϙ:∀(ϙ:U) (N:BS P Γ<|F h),BY P Γ η (Z ϙ) (F h) N (DD P fn (F h) Ϛ h') (start fn) ⟨ds++d (fn.ntmps-F ds) .any,h⟩):ES P Γ f ds h Ϛ h' ext:=by
 cases hc:fn.body with
 |none=>rw[hc]at b;cases b
 |some c=>
  refine ES.of_tr g hc (by simpa using a) hni (λϙ N=>?_) i;have:=Ϙ ϙ N;unfold start at this;rw[hc]at this;refine Tr.mono this λe S Y j=>?_
  cases e <;> exact j
def G5:DV->ζ
 | .mse .. =>D
 | .gr .. =>D
 | .mri .. =>D
 | .ref .. =>D
 | .msl .. =>D
 | .mp .. =>D
 | .it _=>D
 | .agg m f=>(θ m).all λj=>G5<|f j
 | .tup m f=>(θ m).all λj=>G5<|f j
 | .fn _ m f=>(θ m).all λj=>G5<|f j
 |_=>T
def PX:∀{Ϛ:DV},G5 Ϛ=T->Kh Ϛ:=by
 intro Ϛ
 induction Ϛ with
 |any=>exact λ_ _ _ _ _ _=>trivial
 |nils=>exact λ_ _ _ _ _ h=>h
 |int k n=>exact λ_ _ _ _ _ h=>h
 |bool b=>exact λ_ _ _ _ _ h=>h
 |str s=>exact λ_ _ _ _ _ h=>h
 |ints l=>exact λ_ _ _ _ _ h=>h
 |bools l=>exact λ_ _ _ _ _ h=>h
 |sl m n f _=>exact λ_ _ _ _ _ h=>h
 |fp m f _=>exact λ_ _ _ _ _ h=>h
 |agg m f q=>exact λa=>Kh.agg λj p=>q j<|zAP.1 a j<|zAV.2 p
 |tup m f q=>exact λa=>Kh.tup λj p=>q j<|zAP.1 a j<|zAV.2 p
 |ref k j=>exact λa=>by cases a
 |msl k m o n=>exact λa=>by cases a
 |mp k m i j=>exact λa=>by cases a
 |fn g m c q=>exact λa ϗ w ρ v ⟨cs,e,r,hc⟩=>⟨cs,e,r,λj p=>let⟨u,t,x⟩:=hc j p;⟨u,t,q j (zAP.1 a j<|zAV.2 p) ϗ w ρ u x⟩⟩
 |it k=>exact λa=>by cases a
 |yl l=>exact λ_ _ _ _ _ h=>h
 |cst u=>exact λ_ _ _ _ _ h=>h
 |mse k m o n=>exact λa=>by cases a
 |gr k=>exact λa=>by cases a
 |mri k i=>exact λa=>by cases a
def ES.frameB(h0:ES P Γ f ds [] Ϛ [] T)(h:DH)(r:ds.all G5=T):ES P Γ f ds h Ϛ h T:=h0.frame (λx e=>PX<|zAP.1 r x e) h
def cI:DV->ζ
 | .int .. =>T
 | .bool _=>T
 | .tup m f=>(θ m).all λj=>match f j with
  | .int .. =>T
  | .bool _=>T
  |_=>D
 |_=>D
theorem zFQ(h:cI Ϛ=T):Kg Ϛ:=by
 unfold cI at h
 grind[Kg.int,Kg.bool,Kg.tup]
def QV(h:DH):O DV->O DV->Prop
 |[],[]=>True
 |Ϛ::ds,S::g=>Ad h Ϛ S/\QV h ds g
 |_,_=>False
theorem Vs :∀{ds a:O DV},QV h ds a->F a=F ds/\∀i,i<F ds->Ad h (ds.getD i .any) (a.getD i .any)
 |[],[],_=>⟨rfl,λi hi=>τ hi<|zAR i⟩
 |Ϛ::ds,d0::a,⟨h1,c⟩=>by
  obtain⟨e,g⟩:=Vs c
  grind
 |[],_::_,h=>h.elim
 |_::_,[],h=>h.elim
def Ad.plain(s:G5 Ϛ=T):Ad h Ϛ Ϛ:=Ad.nref<|PX s
def Ad.nils :Ad h .nils<|.ints []:=λ_ _ _ _ _ _ _ i=>AO.ints_nil _ _ _ _<|AJ.out _ (DU (ϗ:=λ_=>False) (λ_ b=>b) []) i
def ES.snapB{g:O DV}(h0:ES P Γ f g [] Ϛ [] T)(h:DH)(l:QV h ds g)(r:cI Ϛ=T):ES P Γ f ds h Ϛ h T:=ES.snap h0 h (Vs l).1 (Vs l).2<|zFQ r
theorem AO.of_eq{d':DV}(h:Ϛ=d'):AO Ϛ d':=by rw[h];exact AO.refl _
def YL{ϗ:Ψ}{w:κ}{ρ:O AK}{v:μ}{l:Ξ}(h:AJ ϗ w (.ints l) ρ v):F l<=LB:=let⟨_,_,_,_,h,_⟩:=h;h
def wrC{x c:E}(a:x=c)(h2:-9223372036854775808<=c)(h3:c<=9223372036854775807):IntKind.i64.wrap x=c:=by
 subst a;rw[zUA];omega
end
def QZ(w:κ):Prop:=TabAt 1 Lib.deBruijn64tab w
def GG:A2 where
 ng:=2
 gi:=λw=>QZ w/\2<=w.heap.size
 st:=λw w' h t=>⟨λj g=>t.cell (by show¬(2<=1);omega)<|h.1 j g,zAO h.2 t.size⟩
 lo:=λw h=>h.2
section
variable{α:Type}
theorem B6{c:Prop}[Decidable c]{a:A α}{r:α}(h:C c a V=Z r):c/\a=Z r:=by
 grind
def D4{β:Type}{o:A β}{f:β->A α}{r:α}(h:o.bind f=Z r):∃v,o=Z v/\f v=Z r:=by
 cases o with
 |none=>cases h
 |some v=>exact⟨v,rfl,h⟩
theorem Bv{b:ζ}{x y:A α}{r:α}(h:L b x y=Z r):(b=T/\x=Z r)∨(b=D/\y=Z r):=by
 grind
def zIw:E->ζ
 | .ofNat n=>Nat.ble n 9223372036854775807
 | .negSucc n=>Nat.ble n 9223372036854775807
def AI(x:E):Prop:=zIw x=T
instance (x:E):Decidable<|AI x:=by unfold AI;infer_instance
variable{x:E}
theorem Ae :AI x↔-9223372036854775808<=x/\x<=9223372036854775807:=by
 unfold AI;cases x with
 |ofNat n=>
  show Nat.ble n 9223372036854775807=T↔_
  grind[Nat.ble_eq]
 |negSucc n=>
  show Nat.ble n 9223372036854775807=T↔_
  rw[Nat.ble_eq];omega
def zC0(h:AI x):AO (.int .i64<|IntKind.i64.wrap x)<|.int .i64 x:=AO.int<|wrC rfl (Ae.1 h).1 (Ae.1 h).2
def comp(N σ:Θ)(S:St):St:=HJ σ ⟨forget N S.fr,S.h⟩
def L7(σ:Θ)(Ϝ n:U):ζ:=H σ.Nodup&&σ.all (λk=>decide (k<n))&&(θ Ϝ).all λk=>decide (σ[k]?=Z k)
def BB.comp{Ϝ:U}(N σ:Θ)(S:St)(h:L7 σ Ϝ (F S.h)=T):BB Ϝ S<|comp N σ S:=by
 simp only[L7,zAK,zLV,zAP,zAV]at h;exact(BB.forget N S.fr S.h).trans<|BB.compact σ _ h.1.1 (λk hk=>h.1.2 k hk) λk hk=>h.2 k hk
def Xl(N σ:Θ)(Ϝ:U)(r:KO×St×O Prop×BT):KO×O DV×DH×O Prop×O (DV×DH×ζ)×O (U×DV)×ζ:=(r.1,(Proofs.YtnkpdcmbppkkpaaGreatDoor.comp N σ r.2.1).fr,(Proofs.YtnkpdcmbppkkpaaGreatDoor.comp N σ r.2.1).h,r.2.2.1,r.2.2.2.calls,r.2.2.2.co,L7 σ Ϝ<|F r.2.1.h)
section
variable{P:ν}{Γ:A2}{ϖ:Fence}{ϙ:A U}{Ϝ:U}{Y N:BS P Γ Ϝ}{Q:QY P Γ Ϝ}
variable{h':DH}{S:St}{n:U}
def zJf{a:BZ}{k:O KI}{o:BT}{N σ:Θ}{r:KO}{fr:O DV}{vs:O Prop}(h:(Cr P Γ a n k S o).map (Xl N σ Ϝ)=Z (r,fr,h',vs,[],[],T)):
 ∃S' o',Cr P Γ a n k S o=Z (r,S',vs,o')/\BB Ϝ S' ⟨fr,h'⟩:=by
 cases i:Cr P Γ a n k S o with
 |none=>rw[i]at h;cases h
 |some r=>
  obtain⟨r1,y,DE,⟨c1,o1,z1,g1⟩⟩:=r;rw[i]at h;simp only[zMp,Xl,zB2,zLJ]at h;obtain⟨rfl,rfl,rfl,rfl,rfl,rfl,l⟩:=h;exact⟨y,_,rfl,BB.comp N σ y l⟩
def KH:O KI->ζ
 | .code _::_=>T
 | .loopN _ _::_=>T
 |_=>D
variable{S':St}{m:U}
def Ih.weaken{b:Code}(q:BB Ϝ S S')(h:Ih P Γ ϖ ϙ Ϝ b Q m S' Y):Ih P Γ ϖ ϙ Ϝ b Q m S Y:=by
 cases m with
 |zero=>exact h.elim
 |succ m=>exact Tr.weaken q h
def BY.le{k:O KI}(q:BB Ϝ S S')(hc:KH k=T)(h:A6 P Γ ϖ ϙ Ϝ Y Q k S'):A6 P Γ ϖ ϙ Ϝ Y Q k S:=by
 unfold KH at hc;split at hc
 ·exact A6.weaken q h ⟨_,_,rfl⟩
 ·exact Ih.weaken q h
 ·cases hc
def BB.frzE(k:U)(S':St)(vs:O Prop)(h:ZR k S=Z (S',vs))(o:BX vs):BB Ϝ S S':=λP Γ N ρ a w R=>
 ⟨ρ,(EM.frzE k S' vs h o P Γ N ρ a w R).1,(EM.frzE k S' vs h o P Γ N ρ a w R).2,Bm.refl _ _⟩
theorem BB.compE(σ:Θ)(h:L7 σ Ϝ (F S.h)=T):BB Ϝ S<|HJ σ S:=by
 simp_all[L7,BB.compact]
def Xu:A DO->ζ
 |some (.iter _)=>D
 |_=>T
variable{h:DH}
def K7(b:h.all Xu=T):RR h:=λk encs hk=>by
 have:=zAP.1 b _<|zLW hk;cases this
variable{l l0:O DV}{k:U}
def Ad.refL(hk:h[k]?=Z (Z<|.cells l))(a:QV h l l0):Ad h (.ref k 0)<|.fp (F l) λj=>l0.getD j .any:=
 Ad.ref hk (zAf _) λj g=>(Vs a).2 j g
def Ad.fnL{g:U}(b:QV h l l0):Ad h (.fn g (F l) λj=>l.getD j .any)<|.fn g (F l) λj=>l0.getD j .any:=by
 rintro P Γ N ρ w v Ϙ ⟨n,e,m,hc⟩;exact⟨n,e,m,λj a=>let⟨u,c,f⟩:=hc j a;⟨u,c,(Vs b).2 j a P Γ N ρ w u Ϙ f⟩⟩
theorem AO.ixI(l:Ξ){n:E}(hm:m=F l)(h:(0:E)<=n/\n<((m:U):E)):AO ((l.map<|DV.int .i64).getD n.toNat .any)<|.int .i64<|M l n.toNat 0:=by
 grind[AO.refl]
variable{o:U}
def AO.mslN{a:U}(h:n=a):AO (.msl k m o n)<|.msl k m o a:=by rw[h];exact AO.refl _
def zHg:DO->ζ
 | .ints _=>T
 | .bools _=>T
 |_=>D
variable{ds:O DV}{f:U}
def ES.snapNew{r:O DV}{o:DO}(h0:ES P Γ f r [] (.msl 0 m 0 n) [Z o] T)(h:DH)(g:QV h ds r)(c:zHg o=T):ES P Γ f ds h (.msl (F h) m 0 n) (h++[Z o]) T:=by
 obtain⟨s,g⟩:=Vs g;refine⟨h0.1,λN ρ w args HR y=>?_⟩;refine(h0.2 (λ_=>False) [] w args (Ut (λb a=>a.elim) HR.gi) ⟨by rw[s];exact y.1,λi hi=>?_⟩).mono ?_
 ·rw[s]at hi;exact AJ.out _ (DU (λb a=>TD.1 a) [])<|g i hi P Γ N ρ w _ HR<|y.2 i hi
 ·rintro e w' ⟨v,rfl,⟨⟨ρ',z,K,Q,g4⟩,G⟩⟩;have I:=G rfl;obtain⟨p,q,X⟩:=z.obj 0 o rfl;have J:∀b,p.foot b->w.heap.size<=b:=λb a=>(Q.grow b ⟨0,o,p,rfl,q,a⟩).resolve_left λ⟨k,o',p',R,_⟩=>by simp at R
  obtain⟨p',cap,S,W,Y,e3,e4⟩:=K;have ep:p'=p:=zAN<|S.symm.trans q;subst ep;refine⟨v,rfl,⟨⟨ρ++[p'],HR.snoc I (λb a=>⟨J b a,(z.cel 0 o p' b rfl q a).2.2⟩) ?_,⟨p',cap,by rw[←HR.len];simp,W,Y,e3,e4⟩,A8.snoc HR I J,λ_ _ h=>FL h⟩,G⟩⟩;cases o with
  |ints l=>exact Ac.out X rfl λj u _ t=>t
  |bools l=>exact Ac.out X rfl λj u _ t=>t
  |cells l=>cases c
  |arr m n f=>cases c
  |gro m n f=>cases c
  |iter encs=>cases c
  |mo x=>cases c
  |ro l=>cases c
def rV :∀{ds:O DV},ds.all G5=T->QV h ds ds
 |[],_=>trivial
 |Ϛ::ds,r=>by
  simp only[zPD,zAK]at r;exact⟨Ad.plain r.1,rV r.2⟩
variable{l':O DV}
def AO.aggL(z:m=F l)(h:Ke l l'):AO (.agg m λj=>l.getD j .any)<|.agg m λj=>l'.getD j .any:=by
 subst z;rintro ϗ w ρ v ⟨cs,e,a,hc⟩;exact⟨cs,e,a,λj g=>let⟨u,b,c⟩:=hc j g;⟨u,b,(Vu h).2 j g ϗ w ρ u c⟩⟩
def AO.tupL(z:m=F l)(h:Ke l l'):AO (.tup m λj=>l.getD j .any)<|.tup m λj=>l'.getD j .any:=by
 subst z;rintro ϗ w ρ v ⟨cs,e,a,hc⟩;exact⟨cs,e,a,λj g=>let⟨u,b,c⟩:=hc j g;⟨u,b,(Vu h).2 j g ϗ w ρ u c⟩⟩
def ES.argsLe{g:O DV}{Ϛ:DV}{ext:ζ}(h0:ES P Γ f g h Ϛ h' ext)(r:Ke ds g):ES P Γ f ds h Ϛ h' ext:=by
 obtain⟨m,r⟩:=Vu r;exact⟨h0.1,λN ρ w args HR u=>h0.2 N ρ w args HR ⟨by rw[←m];exact u.1,λi hi=>r i Z2 _ _ _ _<|u.2 i Z2⟩⟩
variable{b:U}
def AO.mse_msl(h:0<n)(e:n=b):AO (.mse k m o n)<|.msl k m o b:=by
 subst e;rintro ϗ w ρ v ⟨p,a,cap,c,rfl,f,g,i⟩;obtain⟨rfl,R⟩:=i Z2;exact⟨p,cap,c,rfl,f,g,R⟩
def AO.mse_nil(h:n=0):AO (.mse k m o n)<|.ints []:=by
 subst h;rintro ϗ w ρ v ⟨p,a,cap,hp,rfl,h1,h2,h3⟩;exact⟨a,cap,rfl,zMK _,zMK _,λj g=>τ g<|zAR j⟩
theorem dU(h:(n==0)=D):0<n:=by
 grind
def O5(k off W:U):DV->DV
 | .msl I m o n=>C (I=k/\m=1/\o=off) (.msl W 1 0 n)<|.msl I m o n
 |Ϛ=>Ϛ
def vk(k off:U)(S:St):A<|St×O Prop:=match S.h.getD k V with
 |some (.ints l)=>Z (⟨S.fr.map<|O5 k off<|F S.h,S.h.set k V++[Z<|.ints<|l.drop off]⟩,[off<=F l])
 |_=>V
theorem BB.rootE(k off:U)(S':St)(vs:O Prop)(h:vk k off S=Z (S',vs))(r:BX vs):BB Ϝ S S':=λP Γ N ρ a w R=>by
 unfold vk at h;split at h
 ·rename_i l v;cases h;have r:=r.1;have hk:=getD_some v;obtain⟨p,f,g⟩:=R.hr.obj k _ hk;have g:Ac w p (F l) _:=g;obtain⟨x,cs,t,y,c2,z,c4⟩:=g
  let p':AK:={ p with off:=p.off+off }
  obtain⟨G,u⟩:=R.hr.regrow (o':=.ints<|l.drop off) (p':=p') hk f (AR.refl _ _) (λb c=>⟨.inl c,(R.hr.cel k _ p b hk f c).2.2⟩) (by
   refine⟨x,cs,t,y,?_,z,λj hj=>?_⟩
   ·simp only[List.length_drop,p'];omega
   grind)
  have ϐ:BQ (MS N S.h ρ) w ρ (MS N (S.h.set k V++[Z<|.ints<|l.drop off])<|ρ++[p']) w<|ρ++[p']:=⟨λ_ _ _ _=>rfl,λb c=>c.elim (λh=>.inl<|.inl h) λh=>(u.grow b h).imp .inr id,λ_ _ h=>FL h⟩;refine⟨ρ++[p'],⟨G,by simp[R.fr.1],λi hi=>?_⟩,u,λ_ _ _ h=>FL h⟩;have Q:i<F S.fr:=by simpa using hi
  have e:(S.fr.map<|O5 k off<|F S.h).getD i .any=O5 k off (F S.h) (S.fr.getD i .any):=by simp[Q]
  show AJ _ w ((S.fr.map<|O5 k off<|F S.h).getD i .any) _ _
  rw[e];have r0:=R.fr.2 i Q;cases s:S.fr.getD i .any with
  |msl I m o n=>
   rw[s]at r0
   by_cases hc:I=k/\m=1/\o=off
   ·have K:O5 k off (F S.h) (.msl I m o n)=.msl (F S.h) 1 0 n:=by simp only[O5,zAB hc]
    rw[K];obtain⟨J,W,X⟩:=hc;rw[J,W,X]at r0;obtain⟨q,cap,Y,hu,u1,u2,u3⟩:=r0;have eq:q=p:=zAN<|Y.symm.trans f;subst eq;exact⟨p',cap,by rw[←R.hr.len];simp,by rw[hu];simp[p'],u1,u2,by simp only[p'];omega⟩
   ·have K:O5 k off (F S.h) (.msl I m o n)=.msl I m o n:=by simp only[O5,zAt hc]
    rw[K];exact AJ.out _ ϐ r0
  |_=>rw[s]at r0;exact AJ.out _ ϐ r0
 ·cases h
def AO.msl_mse :AO (.msl k m o n)<|.mse k m o n:=λ_ _ _ _ ⟨p,cap,h,a,b,c,e⟩=>⟨p,_,cap,h,a,b,c,λ_=>⟨rfl,e⟩⟩
def RS(k q:U):DV->DV
 | .msl I m o n=>C (I=k) (.msl q m o n)<|.msl I m o n
 | .mse I m o n=>C (I=k) (.mse q m o n)<|.mse I m o n
 | .gr I=>C (I=k) (.gr q)<|.gr I
 |Ϛ=>Ϛ
def mapOb(g:DV->DV):A DO->A DO
 |some (.cells l)=>Z<|.cells<|l.map g
 |some (.ro l)=>Z<|.ro<|l.map g
 |o=>o
def xz(k:U)(S:St):A St:=match S.h.getD k V with
 |some o=>Z ⟨S.fr.map<|RS k<|F S.h,(S.h.set k V++[Z o]).map<|mapOb<|RS k<|F S.h⟩
 |none=>V
variable{g:DV->DV}
def Xz{o':DO}(hk:(h.map<|mapOb g)[k]?=Z (Z o')):∃o,h[k]?=Z (Z o)/\mapOb g (Z o)=Z o':=by
 rw[zMN]at hk;cases e:h[k]? with
 |none=>rw[e]at hk;cases hk
 |some x=>
  rw[e]at hk;have hk:mapOb g x=Z o':=zAN hk;cases x with
  |none=>cases hk
  |some o=>exact⟨o,rfl,hk⟩
variable{ρ:O AK}
def MO.mapOb :MO (h.map<|mapOb g) ρ b↔MO h ρ b:=by
 constructor
 ·rintro⟨k,o',p,a,c,e⟩;obtain⟨o,f,_⟩:=Xz a;exact⟨k,o,p,f,c,e⟩
 ·rintro⟨k,o,p,a,c,e⟩;cases o with
  |cells l=>exact⟨k,.cells<|l.map g,p,by rw[zMN,a];rfl,c,e⟩
  |_=>exact⟨k,_,p,by rw[zMN,a];rfl,c,e⟩
theorem Ap.mapCells{N:Ψ}{w:κ}(Ϙ:Ap P Γ N h ρ w)(hg:∀Ϛ u,AJ (MS N h ρ) w Ϛ ρ u->AJ (MS N h ρ) w (g Ϛ) ρ u):Ap P Γ N (h.map<|mapOb g) ρ w:=by
 have q:∀b,MS N (h.map<|mapOb g) ρ b->MS N h ρ b:=λb a=>a.imp id MO.mapOb.1
 refine⟨by rw[Ϙ.len];simp,λk o' hk=>?_,λk o' p b e c r=>?_,λk W o1 o2 y p2 b G e c r R X I=>?_,Ϙ.nlt,Ϙ.gi⟩
 ·obtain⟨o,e,c⟩:=Xz hk;obtain⟨p,J,i⟩:=Ϙ.obj k o e;refine⟨p,J,?_⟩;have ϐ:BQ (MS N h ρ) w ρ (MS N (h.map<|mapOb g) ρ) w ρ:=⟨λ_ _ _ _=>rfl,λb a=>.inl<|q b a,λ_ _ h=>h⟩;cases o with
  |cells l=>
   cases c
   show Ac w p (F<|l.map g) _
   rw[zAS];refine Ac.out i rfl λj u K t=>?_
   grind[AJ.out]
  |ints l=>cases c;exact Ac.out i rfl λj u _ t=>t
  |bools l=>cases c;exact Ac.out i rfl λj u _ t=>t
  |arr m n f=>cases c;exact Ac.out i rfl λj u _ t=>AJ.out _ ϐ.nil t
  |gro m n f=>cases c;exact Bi.gr i (λ_=>rfl) λt=>AJ.out _ ϐ.nil t
  |iter encs=>
   cases c;obtain⟨Q,S,Rd,Y,q2,v,q4⟩:=i;exact⟨Q,S,Rd,Y,q2,λb a=>⟨λz=>(v b a).1<|q b z,(v b a).2⟩,q4⟩
  |ro l=>
   cases c;obtain⟨r1,r2,r3⟩:=i;refine⟨r1,λz=>r2<|q _ z,?_⟩
   show Ac w _ (F<|l.map g) _
   rw[zAS];refine Ac.out r3 rfl λj u K t=>?_
   grind[AJ.out]
  |mo x=>cases c;exact i
 ·obtain⟨o,s,_⟩:=Xz e;exact Ϙ.cel k o p b s c r
 ·obtain⟨o,s,_⟩:=Xz e;obtain⟨o',g2,_⟩:=Xz c;exact Ϙ.dis k W o o' y p2 b G s g2 r R X I
def BB.moveE(k:U)(S':St)(h:xz k S=Z S'):BB Ϝ S S':=λP Γ N ρ a w R=>by
 unfold xz at h;split at h
 ·rename_i o x;cases h;have hk:=getD_some x;obtain⟨p,j,z⟩:=R.hr.obj k _ hk;have y:∀(i:U) (q:AK),ρ[i]?=Z q->(ρ++[p])[i]?=Z q:=λ_ _ h=>FL h
  have ϐ:=R.hr.regrowO (o':=o) (p':=p) hk j (AR.refl _ _) λb c=>.inl c
  obtain⟨G,s⟩:=R.hr.regrow (o':=o) (p':=p) hk j (AR.refl _ _) (λb c=>⟨.inl c,(R.hr.cel k _ p b hk j c).2.2⟩)<|z.out ϐ (S:=λ_=>False) (AR.refl _ _) (λ_ h=>h.elim) λ_ _ _ h=>h;have l:(ρ++[p])[F S.h]?=Z p:=by rw[←R.hr.len];simp
  have t:∀{ϗ:Ψ} (Ϛ:DV) (u:μ),AJ ϗ w Ϛ (ρ++[p]) u->AJ ϗ w (RS k (F S.h) Ϛ) (ρ++[p]) u:=λ{ϗ} Ϛ u f=>by
   unfold RS;split
   ·rename_i v m o n;split
    ·rename_i e;obtain⟨q,cap,I,r⟩:=f;subst e;have:q=p:=zAN<|I.symm.trans<|y _ _ j;subst this;exact⟨q,cap,l,r⟩
    ·exact f
   ·rename_i v m o n;split
    ·rename_i e;obtain⟨q,a0,cap,I,r⟩:=f;subst e;have:q=p:=zAN<|I.symm.trans<|y _ _ j;subst this;exact⟨q,a0,cap,l,r⟩
    ·exact f
   ·rename_i v;split
    ·rename_i e;obtain⟨q,a0,n,cap,I,r⟩:=f;subst e;have:q=p:=zAN<|I.symm.trans<|y _ _ j;subst this;exact⟨q,a0,n,cap,l,r⟩
    ·exact f
   ·exact f
  have X:=G.mapCells (g:=RS k<|F S.h) λϚ u=>t Ϛ u
  have J:∀b,MS N ((S.h.set k V++[Z o]).map<|mapOb<|RS k<|F S.h) (ρ++[p]) b->MS N (S.h.set k V++[Z o]) (ρ++[p]) b:=λb c=>c.imp id MO.mapOb.1
  have K:BQ (MS N (S.h.set k V++[Z o])<|ρ++[p]) w (ρ++[p]) (MS N ((S.h.set k V++[Z o]).map<|mapOb<|RS k<|F S.h)<|ρ++[p]) w<|ρ++[p]:=⟨λ_ _ _ _=>rfl,λb c=>.inl<|J b c,λ_ _ h=>h⟩;exact⟨ρ++[p],⟨X,((R.fr.out ϐ).map λϚ u=>t Ϛ u).out K⟩,⟨s.upd,λb c=>s.grow b<|MO.mapOb.1 c⟩,λ_ _ _ h=>FL h⟩
 ·cases h
end
end
abbrev zOb:=@List.getElem?_drop
section
def Dz(σ:Θ)(b k:U):U:=C (k<F σ) (M σ k 0)<|b+(k-F σ)
def up(σ:Θ)(b:U):DV->DV
 | .ref k j=>.ref (Dz σ b k) j
 | .msl k m o n=>.msl (Dz σ b k) m o n
 | .mse k m o n=>.mse (Dz σ b k) m o n
 | .gr k=>.gr<|Dz σ b k
 | .mri k i=>.mri (Dz σ b k) i
 | .mp k m i j=>.mp (Dz σ b k) m i j
 | .it k=>.it<|Dz σ b k
 | .agg m f=>.agg m<|Gv m λj=>up σ b<|f j
 | .tup m f=>.tup m<|Gv m λj=>up σ b<|f j
 | .fn g m c=>.fn g m<|Gv m λj=>up σ b<|c j
 |Ϛ=>Ϛ
def DL(σ:Θ)(b:U):A DO->A DO
 |some (.cells l)=>Z<|.cells<|l.map<|up σ b
 |some (.ro l)=>Z<|.ro<|l.map<|up σ b
 |o=>o
def Dv(Ϙ:DH)(σ:Θ)(h':DH):DH:=((θ<|F Ϙ).map λk=>match FA σ k with
 |some i=>DL σ (F Ϙ)<|h'.getD i V
 |none=>Ϙ.getD k V)++(h'.drop<|F σ).map (DL σ<|F Ϙ)
variable{σ:Θ}
theorem UC(hn:σ.Nodup){i k:U}(h:σ[i]?=Z k):FA σ k=Z i:=by
 induction σ generalizing i with
 |nil=>simp at h
 |cons x σ ih=>
  unfold FA
  grind
theorem TV{b:U}{x:A DO}{o:DO}(h:DL σ b x=Z o):∃o0,x=Z o0:=by
 cases x with
 |none=>cases h
 |some o0=>exact⟨o0,rfl⟩
section
variable{P:ν}{Γ:A2}
variable{ρ ρ':O AK}{b:U}{w:κ}{ϗ S:Ψ}
theorem kD{σ:Θ}(x:∀b,S b->ϗ b)(q:∀(k:U) (p:AK),ρ[k]?=Z p->ρ'[Dz σ b k]?=Z p):∀(Ϛ:DV) {v:μ},AJ ϗ w Ϛ ρ v->AJ S w (up σ b Ϛ) ρ' v:=by
 have low:∀(Ϛ:DV) {v:μ},AJ ϗ w Ϛ [] v->AJ S w Ϛ [] v:=λϚ v h=>h.out Ϛ<|DU x []
 intro Ϛ
 induction Ϛ with
 |any=>intro v _;trivial
 |nils=>intro v h;exact h
 |int k n=>intro v h;exact h
 |bool b=>intro v h;exact h
 |str s=>intro v h;exact h
 |ints l=>grind[AJ,up]
 |bools l=>grind[AJ,up]
 |sl m n f _=>grind[AJ,up]
 |fp m f _=>grind[AJ,up]
 |agg m f t=>
  grind[L4,AJ,up]
 |tup m f t=>
  grind[L4,AJ,up]
 |fn g m c t=>
  grind[L4,AJ,up]
 |ref k j=>grind[AJ,up]
 |msl k m o n=>grind[AJ,up]
 |mp k m i j=>grind[AJ,up]
 |it k=>grind[AJ,up]
 |cst u=>intro v h;exact h
 |yl l=>intro v h;exact h
 |mse k m o n=>rintro v ⟨p,a,cap,e,r⟩;exact⟨p,a,cap,q k p e,r⟩
 |gr k=>rintro v ⟨p,a,n,cap,e,r⟩;exact⟨p,a,n,cap,q k p e,r⟩
 |mri k i=>rintro v ⟨p,vs,e,r⟩;exact⟨p,vs,q k p e,r⟩
theorem iO{σ:Θ}(x:∀b,S b->ϗ b)(q:∀(k:U) (p:AK),ρ[Dz σ b k]?=Z p->ρ'[k]?=Z p):∀(Ϛ:DV) {v:μ},AJ ϗ w (up σ b Ϛ) ρ v->AJ S w Ϛ ρ' v:=by
 have low:∀(Ϛ:DV) {v:μ},AJ ϗ w Ϛ [] v->AJ S w Ϛ [] v:=λϚ v h=>h.out Ϛ<|DU x []
 have unt:∀{m j:U} {f:U->DV} {u:μ},j<m->AJ ϗ w (Gv m f j) ρ u->AJ ϗ w (f j) ρ u:=λy h=>by rw[kP y]at h;exact h
 intro Ϛ
 induction Ϛ with
 |any=>intro v _;trivial
 |nils=>intro v h;exact h
 |int k n=>intro v h;exact h
 |bool b=>intro v h;exact h
 |str s=>intro v h;exact h
 |ints l=>grind[AJ,up]
 |bools l=>grind[AJ,up]
 |sl m n f _=>grind[AJ,up]
 |fp m f _=>grind[AJ,up]
 |agg m f t=>
  grind[AJ,up]
 |tup m f t=>
  grind[AJ,up]
 |fn g m c t=>
  grind[AJ,up]
 |ref k j=>grind[AJ,up]
 |msl k m o n=>grind[AJ,up]
 |mp k m i j=>grind[AJ,up]
 |it k=>grind[AJ,up]
 |cst u=>intro v h;exact h
 |yl l=>intro v h;exact h
 |mse k m o n=>rintro v ⟨p,a,cap,e,r⟩;exact⟨p,a,cap,q k p e,r⟩
 |gr k=>rintro v ⟨p,a,n,cap,e,r⟩;exact⟨p,a,n,cap,q k p e,r⟩
 |mri k i=>rintro v ⟨p,vs,e,r⟩;exact⟨p,vs,q k p e,r⟩
variable{o o':DO}{p:AK}
theorem zDX{σ:Θ}(c:∀b,S b->ϗ b)(hρ:∀(k:U) (p:AK),ρ[k]?=Z p->ρ'[Dz σ b k]?=Z p)(a:DL σ b (Z o)=Z o')(h:Bi P ϗ w ρ p o):Bi P S w ρ' p o':=by
 cases o with
 |cells l=>
  cases a
  show Ac w p (F<|l.map<|up σ b) _
  rw[zAS];refine Ac.out h rfl λj u g t=>?_
  grind[kD]
 |ints l=>grind[Bi,DL]
 |bools l=>grind[Bi,DL]
 |arr m n f=>cases a;exact Ac.out h rfl λj u _ t=>AJ.out _ (DU c []) t
 |gro m n f=>cases a;exact Bi.gr h (λ_=>rfl) λt=>AJ.out _ (DU c []) t
 |iter encs=>
  grind[Bi,DL]
 |ro l=>
  cases a;obtain⟨e,r,Q⟩:=h;refine⟨e,λz=>r<|c _ z,?_⟩;rw[zAS];refine Ac.out Q rfl λj u g t=>?_
  grind[kD]
 |mo x=>cases a;exact h
theorem zBI{σ:Θ}(c:∀b,S b->ϗ b)(hρ:∀(k:U) (p:AK),ρ[Dz σ b k]?=Z p->ρ'[k]?=Z p)(a:DL σ b (Z o)=Z o')(h:Bi P ϗ w ρ p o'):Bi P S w ρ' p o:=by
 cases o with
 |cells l=>
  cases a;have h:Ac w p (F<|l.map<|up σ b) _:=h;rw[zAS]at h;refine Ac.out h rfl λj u g t=>?_
  grind[iO]
 |ints l=>grind[Bi,DL]
 |bools l=>grind[Bi,DL]
 |arr m n f=>cases a;exact Ac.out h rfl λj u _ t=>AJ.out _ (DU c []) t
 |gro m n f=>cases a;exact Bi.gr h (λ_=>rfl) λt=>AJ.out _ (DU c []) t
 |iter encs=>
  grind[Bi,DL]
 |ro l=>
  cases a;obtain⟨e,r,Q⟩:=h;refine⟨e,λz=>r<|c _ z,?_⟩;have h:Ac w _ (F<|l.map<|up σ b) _:=Q;rw[zAS]at h;refine Ac.out h rfl λj u g t=>?_
  grind[iO]
 |mo x=>cases a;exact h
variable{ext:ζ}{h' h:DH}{Ϛ:DV}{ds:O DV}{f:U}
theorem ES.embedX(En:ES P Γ f ds h Ϛ h' ext)(σ:Θ)(Ϙ:DH)(hn:σ.Nodup)(AY:∀k∈σ,k<F Ϙ)(hl:F σ=F h)(GP:F h<=F h')
 (hh:(σ.map λk=>Ϙ.getD k V)=h.map (DL σ<|F Ϙ)):(∃fn,P.funcs[f]?=Z fn/\fn.name≠ "runtime.NumGoroutine" /\fn.body.isSome=T)/\
 ∀(N:Ψ) (ρ:O AK) (w:κ) (args:υ μ),Ap P Γ N Ϙ ρ w->A3 (MS N Ϙ ρ) w ρ (ds.map<|up σ<|F Ϙ) args->
  Calls P f args w λe w'=>∃v,e=.returned v/\CG P Γ N Ϙ ρ w ext (up σ (F Ϙ) Ϛ) (Dv Ϙ σ h') v w'/\AR (λb=>∃i o p,i∈σ/\Ϙ[i]?=Z (Z o)/\ρ[i]?=Z p/\p.foot b) w w':=by
 refine⟨En.1,λN ρ w args HR Co=>?_⟩;obtain⟨ρ0,ns⟩:∃ρ0,ρ0=σ.map λk=>ρ.getD k m6:=⟨_,rfl⟩
 have nR:F ρ0=F σ:=by rw[ns];simp
 have Lo:∀{i k:U},σ[i]?=Z k->ρ0[i]?=ρ[k]? :=λ{i k} hk=>by
  have Gh:k<F ρ:=by rw[HR.len];exact AY k<|zLW hk
  grind
 have ur:∀{i:U},i<F σ->∃k,σ[i]?=Z k/\Dz σ (F Ϙ) i=k:=λ{i} hi=>by
  simp_all[Dz]
 have X:∀{i:U} {o:DO},h[i]?=Z (Z o)->∃k o',σ[i]?=Z k/\Ϙ[k]?=Z (Z o')/\DL σ (F Ϙ) (Z o)=Z o':=λ{i o} hi=>by
  have e:=congrArg (·[i]?) hh;have s:∃o',DL σ (F Ϙ) (Z o)=Z o':=by cases o <;> exact⟨_,rfl⟩
  grind
 have zJv:∀{i k:U} {o':DO},σ[i]?=Z k->Ϙ[k]?=Z (Z o')->∃o,h[i]?=Z (Z o)/\DL σ (F Ϙ) (Z o)=Z o':=λ{i k o'} hk ho=>by
  have e:=congrArg (·[i]?) hh
  grind[TV]
 obtain⟨S,gY⟩:∃S:Ψ,S=λb=>N b∨∃k o p,FA σ k=V/\Ϙ[k]?=Z (Z o)/\ρ[k]?=Z p/\p.foot b:=⟨_,rfl⟩
 have K8:∀b,MO h ρ0 b->MO Ϙ ρ b:=by
  grind[MO]
 have m8:∀b,MS S h ρ0 b->MS N Ϙ ρ b:=by
  grind[MS,MO]
 have ms1:∀b,MS N Ϙ ρ b->MS S h ρ0 b:=by
  rintro b (a|⟨k,o,p,j,u,g⟩)
  ·grind[MS]
  ·cases hk:FA σ k with
   |none=>exact .inl Z4
   |some i=>
    have hi:=Kv hk
    grind[MS,MO]
 have dn:∀(k:U) (p:AK),ρ[Dz σ (F Ϙ) k]?=Z p->ρ0[k]?=Z p:=λk p l=>by
  by_cases hk:k<F σ
  ·grind
  ·unfold Dz at l;rw[zAt hk]at l;have:=(zDh.1 l).1;rw[HR.len]at this;omega
 have foreign:∀{b:U},S b->¬MO h ρ0 b:=by
  rintro b a ⟨i,o,p,j,u,g⟩;obtain⟨k,o',y,s,_⟩:=X j;have l:=(Lo y).symm.trans u;rw[gY]at a;rcases a with a|⟨Y,o2,p2,r,n,m,q4⟩
  ·exact(HR.cel k o' p b s l g).2.1 a
  ·refine HR.dis k Y o' o2 p p2 b ?_ s n l m g q4;rintro rfl;rw[UC hn y]at r;cases r
 have H0:Ap P Γ S h ρ0 w:=by
  refine⟨by rw[nR,hl],λi o hi=>?_,λi o p b j u g=>?_,λi i' o1 o2 p1 p2 b Af j u g g4 g5 g6=>?_,λb a=>HR.lt2<|m8 b<|.inl a,HR.gi⟩
  ·obtain⟨k,o',y,s,e3⟩:=X hi;obtain⟨p,l,hr⟩:=HR.obj k o' s
   grind[zBI]
  ·obtain⟨k,o',y,s,e3⟩:=X j;obtain⟨r,n,m⟩:=HR.cel k o' p b s ((Lo y).symm.trans u) g
   grind[MO]
  ·obtain⟨k,o',y,s,e3⟩:=X j;obtain⟨Y,ml,VT,Zj,e3'⟩:=X u;refine HR.dis k Y o' ml p1 p2 b ?_ s Zj ((Lo y).symm.trans g) ((Lo VT).symm.trans g4) g5 g6;have q:=UC hn y;have G:=UC hn VT
   grind
 refine(En.2 S ρ0 w args H0 ⟨by rw[←Co.1];simp,λi hi=>?_⟩).mono ?_
 ·grind[iO,ES,A3]
 ·rintro e w' ⟨v,rfl,⟨⟨ρ1,j,u,g,g4⟩,g5⟩⟩;have l1:F ρ1=F h':=j.len;obtain⟨ρ',KL⟩:∃ρ',ρ'=ρ++ρ1.drop (F σ):=⟨_,rfl⟩
  have at1:∀{i k:U},σ[i]?=Z k->ρ1[i]?=ρ[k]? :=λ{i k} hk=>by
   grind
  have Nj:∀{k:U},k<F Ϙ->ρ'[k]?=ρ[k]? :=λ{k} hk=>by rw[KL,zMZ<|by rw[HR.len];exact hk]
  have kB:∀(k:U) (p:AK),ρ1[k]?=Z p->ρ'[Dz σ (F Ϙ) k]?=Z p:=λk p l=>by
   by_cases hk:k<F σ
   ·grind
   ·unfold Dz;rw[zAt hk,KL,zML (by rw[HR.len];omega),zOb,HR.len]
    simp_all
  have nQ:F (Dv Ϙ σ h')=F Ϙ+(F h'-F σ):=by simp[Dv]
  have Q:∀{k:U} {o':DO},(Dv Ϙ σ h')[k]?=Z (Z o')->(k<F Ϙ/\FA σ k=V/\Ϙ[k]?=Z (Z o')/\ρ'[k]?=ρ[k]?)∨∃i o,h'[i]?=Z (Z o)/\DL σ (F Ϙ) (Z o)=Z o'/\ρ'[k]?=ρ1[i]?/\k=Dz σ (F Ϙ) i:=by
   intro k o' hk
   by_cases GA:k<F Ϙ
   ·unfold Dv at hk;rw[zMZ (by simpa using GA),zMN,List.getElem?_range GA]at hk;simp only[zMp,zB2]at hk;split at hk
    ·grind[Kv,TV,Dz]
    grind
   ·unfold Dv at hk;rw[zML Z7,zMN,zOb]at hk;simp only[zAS,zO8]at hk;cases R:h'[F σ+(k-F Ϙ)]? with
    |none=>rw[R]at hk;cases hk
    |some x=>
     rw[R]at hk;have hk:DL σ (F Ϙ) x=Z o':=zAN hk;obtain⟨o0,e0⟩:=TV hk;subst e0;refine .inr ⟨F σ+(k-F Ϙ),o0,R,hk,?_,?_⟩
     ·rw[KL,zML (by rw[HR.len];omega),zOb,HR.len]
     simp_all[Dz,zAt]
  have back:∀{k:U} {o:DO},FA σ k=V->Ϙ[k]?=Z (Z o)->(Dv Ϙ σ h')[k]?=Z (Z o):=by
   grind[Dv]
  have msE:∀b,MS N (Dv Ϙ σ h') ρ' b->MS S h' ρ1 b:=by
   rintro b (a|⟨k,o',p,r,n,m⟩)
   ·grind[MS]
   grind[MS,MO]
  have I:∀b,MO (Dv Ϙ σ h') ρ' b->MO Ϙ ρ b∨w.heap.size<=b:=by
   rintro b ⟨k,o',p,r,n,m⟩;rcases Q r with⟨q,G,a3,a4⟩|⟨i,o,q,G,a3,a4⟩
   ·exact .inl ⟨k,o',p,a3,a4.symm.trans n,m⟩
   ·exact(g.grow b ⟨i,o,p,q,a3.symm.trans n,m⟩).imp (K8 b) id
  have pl:∀(k:U) (p:AK),ρ[k]?=Z p->ρ'[k]?=Z p:=λk p l=>by
   grind
  have ϐ:BQ (MS N Ϙ ρ) w ρ (MS N (Dv Ϙ σ h') ρ') w' ρ':=
   ⟨λb a hm _=>g.upd.block b a λR=>hm<|.inr<|K8 b R,λb a=>a.elim (λa=>.inl<|.inl a) λa=>(I b a).imp .inr id,pl⟩
  refine⟨v,rfl,⟨⟨ρ',⟨?_,λk o' hk=>?_,λk o' p b r n m=>?_,λk Y o1 o2 p1 p2 b Af r n m q4 q5 q6=>?_,λb a=>⟨zAQ (HR.nlt b a).1 g.upd.size,(HR.nlt b a).2⟩,j.gi⟩,kD msE kB _ u,⟨g.upd.mono λb _ a=>K8 b a,I⟩,pl⟩,g5⟩,g.upd.mono λb _ ⟨i,o,p,r,n,m⟩=>?_⟩
  ·rw[nQ,KL];simp[HR.len,l1]
  ·rcases Q hk with⟨q,G,a3,a4⟩|⟨i,o,q,G,a3,a4⟩
   ·obtain⟨p,l,hr⟩:=HR.obj k o' a3;refine⟨p,a4.trans l,hr.out ϐ g.upd (λb a=>.inr<|K8 b a) λb _ hf hs=>?_⟩
    grind
   ·obtain⟨p,l,hr⟩:=j.obj i o q
    grind[zDX]
  ·rcases Q r with⟨q,G,a3,a4⟩|⟨i,o,q,G,a3,a4⟩
   ·have l:=a4.symm.trans n;obtain⟨J,W,c,t,z,K⟩:=HR.cel k o' p b a3 l m;refine⟨J,W,c,t,z,(g.upd.block b (zAM.1 K).1 λR=>?_).trans K⟩
    grind
   ·obtain⟨J,W,K⟩:=j.cel i o p b q (a3.symm.trans n) m
    grind
  ·rcases Q r with⟨q,G,a3,a4⟩|⟨i,o,q,G,a3,a4⟩
   ·rcases Q n with⟨J,W,K,c4⟩|⟨i',o',J,W,K,c4⟩
    ·exact HR.dis k Y o1 o2 p1 p2 b Af a3 K (a4.symm.trans m) (c4.symm.trans q4) q5 q6
    ·exact(j.cel i' o' p2 b J (K.symm.trans q4) q6).2.1 Z4
   ·rcases Q n with⟨J,W,K,c4⟩|⟨i',o',J,W,K,c4⟩
    ·exact(j.cel i o p1 b q (a3.symm.trans m) q5).2.1 Z4
    ·refine j.dis i i' o o' p1 p2 b ?_ q J (a3.symm.trans m) (K.symm.trans q4) q5 q6
     grind
  grind
def ES.embed(W:ES P Γ f ds h Ϛ h' ext)(σ:Θ)(Ϙ:DH)(s:σ.Nodup)(R:∀k∈σ,k<F Ϙ)(m:F σ=F h)(b:F h<=F h')
 (a:(σ.map λk=>Ϙ.getD k V)=h.map (DL σ<|F Ϙ)):ES P Γ f (ds.map<|up σ<|F Ϙ) Ϙ (up σ (F Ϙ) Ϛ) (Dv Ϙ σ h') ext:=
 let⟨c,i⟩:=W.embedX σ Ϙ s R m b a
 ⟨c,λN ρ w args HR j=>(i N ρ w args HR j).mono λ_ _ ⟨v,e,g,_⟩=>⟨v,e,g⟩⟩
def Lh(σ:Θ)(n l l':U):ζ:=H σ.Nodup&&σ.all (λk=>decide (k<n))&&H (F σ=l)&&H (l<=l')
def ES.embedB(a:ES P Γ f ds h Ϛ h' ext)(σ:Θ)(Ϙ:DH)(b:Lh σ (F Ϙ) (F h) (F h')=T)(g:(σ.map λk=>Ϙ.getD k V)=h.map (DL σ<|F Ϙ))
 {Fn:O DV} {W:DV} {x:DH} (e:(ds.map<|up σ<|F Ϙ,up σ (F Ϙ) Ϛ,Dv Ϙ σ h')=(Fn,W,x)):ES P Γ f Fn Ϙ W x ext:=by
 simp only[Lh,zAK,zLV,zAP]at b;cases e;exact a.embed σ Ϙ b.1.1.1 (λk hk=>b.1.1.2 k hk) b.1.2 b.2 g
def ES.embedU(W:ES P Γ f ds h Ϛ h' ext)(σ:Θ)(Ϙ:DH)(k:U)(a:Lh σ (F Ϙ) (F h) (F h')=T)(hk:σ.all (λj=>Nat.ble k j)=T)(g:(σ.map λk=>Ϙ.getD k V)=h.map (DL σ<|F Ϙ)):TE P Γ f (ds.map<|up σ<|F Ϙ) Ϙ (up σ (F Ϙ) Ϛ) (Dv Ϙ σ h') k:=by
 simp only[Lh,zAK,zLV,zAP]at a;obtain⟨c,l⟩:=W.embedX σ Ϙ a.1.1.1 (λk hk=>a.1.1.2 k hk) a.1.2 a.2 g;refine⟨c,λN ρ w args HR m=>(l N ρ w args HR m).mono ?_⟩;rintro e w' ⟨v,e,⟨n,g2⟩,t⟩;exact⟨v,e,⟨n,λh=>by cases h⟩,t.mono λb _ ⟨i,o,p,q,z⟩=>⟨i,o,p,zMQ<|zAP.1 hk i q,z⟩⟩
end
end
abbrev zM0:=@of_decide_eq_true
abbrev zO2:=@List.getElem?_take
section
section
variable{P:ν}{Γ:A2}
variable{ϕ ϙ:κ}{ρ:O AK}{h:DH}{J G:Ψ}
def Ap.foreign{f:Ψ}(Ϙ:Ap P Γ f h ρ ϕ)(g:AR G ϕ ϙ)(j:∀b,G b->f b/\Γ.ng<=b)(I:∀b,J b->f b∨ϕ.heap.size<=b)(a:∀b,J b->b<ϙ.heap.size/\Γ.ng<=b):Ap P Γ J h ρ ϙ:=by
 have ϐ:BQ (MS f h ρ) ϕ ρ (MS J h ρ) ϙ ρ:=⟨λb R n _=>g.block b R λe=>n<|.inl (j b e).1,λb a=>a.elim (λh=>(I b h).imp .inl id) λh=>.inl<|.inr h,λ_ _ h=>h⟩;refine⟨Ϙ.len,λk o hk=>?_,λk o p b q r s=>?_,Ϙ.dis,a,Γ.st _ _ Ϙ.gi<|g.mono λi _ e=>(j i e).2⟩
 ·obtain⟨p,l,u⟩:=Ϙ.obj k o hk;exact⟨p,l,u.out ϐ g (λb a=>.inl (j b a).1) λb _ v w=>(Ϙ.cel k o p b hk l v).2.1 (j b w).1⟩
 ·obtain⟨x,m,c,t,z,K⟩:=Ϙ.cel k o p b q r s;have R:=(zAM.1 K).1;exact⟨x,λy=>(I b y).elim m Z2,c,t,z,(g.block b R λe=>m (j b e).1).trans K⟩
def BQ.foreign{a:Ψ}(t:AR G ϕ ϙ)(j:∀b,G b->a b/\Γ.ng<=b)(I:∀b,J b->a b∨ϕ.heap.size<=b):BQ (MS a h ρ) ϕ ρ (MS J h ρ) ϙ ρ:=
 ⟨λb R z _=>t.block b R λe=>z<|.inl (j b e).1,λb c=>c.elim (λh=>(I b h).imp .inl id) λh=>.inl<|.inr h,λ_ _ h=>h⟩
def JL(fr:O DV)(W:O Tmp)(x:O DV):O DV:=(W.zip x).foldl (λt q=>t.set q.1 q.2) fr
variable{w:κ}{ϗ:Ψ}
def uw :∀(W:O Tmp) (x:O DV) (v:O μ) {fr:O DV} {t:υ μ},F x=F v->(∀j,j<F x->AJ ϗ w (x.getD j .any) ρ (v.getD j undef))->A3 ϗ w ρ fr t->
 A3 ϗ w ρ (JL fr W x) ((W.zip v).foldl (λt (q:Tmp×μ)=>t.setIfInBounds q.1 q.2) t)
 |[],_,_,_,_,_,_,h=>h
 |_::_,[],[],_,_,_,_,h=>h
 |p::W,Ϛ::x,u::v,_,_,m,e,h=>uw W x v (Nat.succ.inj m) (λj g=>e (j+1)<|Nat.succ_lt_succ g)<|h.set p<|e 0<|Nat.succ_pos _
variable{W:κ}{R:Ψ}
theorem YV.rep{ds:O DV}{args:υ μ}(h:YV ds R W args)(l:∀b,ϗ b->b<W.heap.size/\¬R b)(ρ:O AK):∀j,j<F ds->AJ ϗ W (ds.getD j .any) ρ (args.toList.getD j undef):=λj g=>by
 have e:args.toList.getD j undef=args.getD j undef:=by simp_all
 rw[e];exact(h.2 j g).out _ ⟨λ_ _ _ _=>rfl,λb a=>.inl<|l b a,λk p hk=>by simp at hk⟩
def CS(K:U):DV->ζ
 | .ref k _=>decide (k<K)
 | .msl k _ _ _=>decide (k<K)
 | .mse k _ _ _=>decide (k<K)
 | .gr k=>decide (k<K)
 | .mri k _=>decide (k<K)
 | .mp k _ _ _=>decide (k<K)
 | .it k=>decide (k<K)
 | .agg m f=>(θ m).all λj=>CS K<|f j
 | .tup m f=>(θ m).all λj=>CS K<|f j
 | .fn _ m f=>(θ m).all λj=>CS K<|f j
 |_=>T
variable{K:U}
theorem p8{α:Type}{l:O α}{k:U}{x:α}(hk:k<K)(h:l[k]?=Z x):(l.take K)[k]?=Z x:=Z4
theorem AJ.take :∀(Ϛ:DV) {ρ:O AK} {v:μ},CS K Ϛ=T->AJ ϗ w Ϛ ρ v->AJ ϗ w Ϛ (ρ.take K) v:=by
 intro Ϛ
 induction Ϛ with
 |ref k j=>simp_all[CS,AJ]
 |msl k m off n=>grind[CS,AJ]
 |mp k m i j=>simp_all[CS,AJ]
 |it k=>simp_all[CS,AJ]
 |agg m f o=>
  grind[CS,AJ]
 |tup m f o=>
  grind[CS,AJ]
 |fn g m f o=>
  grind[CS,AJ]
 |yl l=>rintro ρ v _ h;exact h
 |cst u=>rintro ρ v _ h;exact h
 |mse k m off n=>rintro ρ v c ⟨p,a,cap,h,e⟩;exact⟨p,a,cap,p8 (zM0 c) h,e⟩
 |gr k=>rintro ρ v c ⟨p,a,n,cap,h,e⟩;exact⟨p,a,n,cap,p8 (zM0 c) h,e⟩
 |mri k i=>rintro ρ v c ⟨p,vs,h,e⟩;exact⟨p,vs,p8 (zM0 c) h,e⟩
 |any=>rintro ρ v _ h;trivial
 |nils=>rintro ρ v _ h;exact h
 |int k n=>rintro ρ v _ h;exact h
 |bool b=>rintro ρ v _ h;exact h
 |str s=>rintro ρ v _ h;exact h
 |ints l=>rintro ρ v _ h;exact h
 |bools l=>rintro ρ v _ h;exact h
 |sl m n f=>rintro ρ v _ h;exact h
 |fp m f=>rintro ρ v _ h;exact h
variable{fr:O DV}
theorem A3.take{t:υ μ}(h:A3 ϗ w ρ fr t)(hb:fr.all (CS K)=T):A3 ϗ w (ρ.take K) fr t:=by
 grind[AJ.take,A3]
def BQ.weak{I:Ψ}{S:Ψ}{w':κ}{ρ':O AK}(h:BQ I w ρ S w' ρ')(l:∀b,I b->ϗ b):BQ ϗ w ρ S w' ρ':=
 ⟨λb a s=>h.blk b a λe=>s<|l b e,λb c=>(h.m b c).imp (l b) id,h.pl⟩
structure RI(K:U)(P:ν)(Γ:A2)(N:Ψ)(h0:DH)(ρ0:O AK)(w0:κ)(G R:Ψ)(W:κ)(h:DH)(ρ:O AK):Prop where
 hr:Ap P Γ (λb=>N b∨G b) h ρ W
 upd:AR (MO h0 ρ0) w0 W
 grow:∀b,MO h ρ b->MO h0 ρ0 b∨w0.heap.size<=b
 g:∀b,G b->Γ.ng<=b/\(MO h0 ρ0 b∨w0.heap.size<=b)
 r:∀b,R b->¬N b/\¬MO h ρ b
 kept:Bm K ρ0 ρ
variable{w0:κ}{ρ0:O AK}{h0:DH}{N:Ψ}
def RI.off(hR:RI K P Γ N h0 ρ0 w0 G R W h ρ):∀b,MO h ρ b->b<W.heap.size/\¬N b/\¬(G b∨R b):=λb z=>by
 obtain⟨k,o,p,e,f,g⟩:=id z;obtain⟨_,a,c,_,_,i⟩:=hR.hr.cel k o p b e f g;exact⟨(zAM.1 i).1,λh=>a<|.inl h,λh=>h.elim (λh=>a<|.inr h) λh=>(hR.r b h).2 z⟩
theorem RI.stable(CB:Γ.ng<=w0.heap.size)(I:∀b,N b->b<w0.heap.size/\¬MO h0 ρ0 b):DK λG R W=>RI K P Γ N h0 ρ0 w0 G R W h ρ:=λG R G' R' ϕ ϙ hR t a c _ _ e=>by
 have hs:w0.heap.size<=ϕ.heap.size:=hR.upd.size;refine⟨hR.hr.foreign t (λb hx=>⟨.inr hx,(hR.g b hx).1⟩) (λb hx=>?_) λb hx=>?_,hR.upd.comp t λi hi hx=>(hR.g i hx).2.resolve_right Z2,hR.grow,λb hx=>?_,λb hx=>?_,hR.kept⟩
 ·grind
 ·rcases hx with hx|hx
  ·exact⟨zAQ (hR.hr.nlt b<|.inl hx).1 t.size,(hR.hr.nlt b<|.inl hx).2⟩
  ·exact⟨e b<|.inl hx,(a b hx).elim (λh=>(hR.g b h).1) λh=>Z2⟩
 ·rcases a b hx with hx|hx
  ·exact hR.g b hx
  grind
 ·rcases c b hx with hx|hx|hx
  ·exact hR.r b hx
  ·exact⟨λs=>(hR.g b hx).2.elim (I b s).2 (by have:=(I b s).1;omega),λz=>(hR.off b z).2.2<|.inl hx⟩
  ·exact⟨λs=>by have:=(I b s).1;omega,λz=>by have:=(hR.off b z).1;omega⟩
theorem RI.outl{x:Ψ}(R:RI K P Γ N h0 ρ0 w0 G x W h ρ):BQ (MS N h0 ρ0) w0 (ρ0.take K) (MS (λb=>N b∨G b) h ρ) W ρ:=
 ⟨λb a z _=>R.upd.block b a λc=>z<|.inr c,λb hb=>by
  rcases hb with(hb|hb)|hb
  ·exact .inl<|.inl hb
  ·exact(R.g b hb).2.imp .inr id
  ·exact(R.grow b hb).imp .inr id,λk p hk=>by
  rw[zO2]at hk
  by_cases e:k<K
  ·rw[zAB e]at hk;exact R.kept k p e hk
  grind⟩
def Lg:Exit->A Code
 | .ret=>Z .ret
 | .exit id=>Z<|.exit id
 |_=>V
def Qb(Ϝ:U)(J:DH->Prop)(Jx:Exit->DH->Prop)(e:Exit)(S:St):Prop:=∃o,BB Ϝ S o/\((e=.normal/\J o.h)∨((Lg e).isSome=T/\Jx e o.h))
def af(P:ν)(Γ:A2)(fr:O DV)(a:O Tmp)(W j:Code)(Ϝ:U)(J:U->DH->Prop)(Jx:Exit->DH->Prop)(encs:O<|O DV):Prop:=∀(l ϙ:U) (Y:BS P Γ Ϝ) (i:U) (x:O DV) (h:DH),encs[i]?=Z x->J i h->Tr P Γ (Fence.wide.inRound l) (Z ϙ) Ϝ Y W ⟨JL fr a x,h⟩ (Qs (λS' R=>R=Y/\∀p:BS P Γ Ϝ,Tr P Γ (Fence.wide.inRound l) (Z ϙ) Ϝ p j S'<|stay p<|Qb Ϝ (J<|i+1) Jx) λ_ _ _=>False)
def zCt(Ϝ:U)(J:DH->Prop)(Jx:Exit->DH->Prop)(u:O PanicEntry->DH->Prop)(e:Exit)(S:St):Prop:=Qb Ϝ J Jx e S∨∃c o,e=.panic c/\BB Ϝ S o/\RR o.h/\u c o.h
def jd(P:ν)(Γ:A2)(fr:O DV)(a:O Tmp)(W j:Code)(Ϝ:U)(J:U->DH->Prop)(Jx:Exit->DH->Prop)(u:O PanicEntry->DH->Prop)(encs:O<|O DV):Prop:=∀(l ϙ:U) (Y:BS P Γ Ϝ) (i:U) (x:O DV) (h:DH),encs[i]?=Z x->J i h->Tr P Γ (Fence.wide.inRound l) (Z ϙ) Ϝ Y W ⟨JL fr a x,h⟩ (Qs (λS' R=>R=Y/\∀p:BS P Γ Ϝ,Tr P Γ (Fence.wide.inRound l) (Z ϙ) Ϝ p j S'<|stay p<|zCt Ϝ (J<|i+1) Jx u) λ_ _ _=>False)
variable{encs:O (O DV)}{Jx:Exit->DH->Prop}
def af.p{b:O Tmp}{W j:Code}{Ϝ:U}{J:U->DH->Prop}(g:af P Γ fr b W j Ϝ J Jx encs)(u:O PanicEntry->DH->Prop):jd P Γ fr b W j Ϝ J Jx u encs:=λl ϙ Y i x h m n=>by
 refine Tr.mono (g l ϙ Y i x h m n) λe o Y2 f=>?_
 cases e with
 |normal=>exact⟨f.1,λa=>Tr.mono (show Tr P Γ (Fence.wide.inRound l) (Z ϙ) Ϝ a j o (stay a<|Qb Ϝ (J<|i+1) Jx)from f.2 a) λe S3 Y3 k=>⟨k.1,.inl k.2⟩⟩
 |ret=>exact f.elim
 |exit id=>exact f.elim
 |goto t=>exact f.elim
 |panic c=>exact f.elim
 |outgrown=>exact f.elim
abbrev RJ(P:ν)(Γ:A2)(N:Ψ)(h0:DH)(ρ:O AK)(w:κ)(KK:U)(J:U->DH->Prop)(i:U)(G R:Ψ)(W:κ):Prop:=∃h ρ',J i h/\RI KK P Γ N h0 ρ w G R W h ρ'
abbrev RX(P:ν)(Γ:A2)(N:Ψ)(h0:DH)(ρ:O AK)(w:κ)(KK:U)(Jx:Exit->DH->Prop)(c:Code)(G R:Ψ)(W:κ):Prop:=∃e,Lg e=Z c/\∃h ρ',Jx e h/\RI KK P Γ N h0 ρ w G R W h ρ'
abbrev RPn(P:ν)(Γ:A2)(N:Ψ)(h0:DH)(ρ:O AK)(w:κ)(KK:U)(Jp:O PanicEntry->DH->Prop)(c:O PanicEntry)(G R:Ψ)(W:κ):Prop:=∃h ρ',Jp c h/\RI KK P Γ N h0 ρ w G R W h ρ'
variable{KK:U}
def RI.shut{y:κ}(hR:RI KK P Γ N h0 ρ0 w0 G R W h ρ)(hi:RR h){ϙ:U}(J:Γ.ng<=w0.heap.size)(b:w0.heap.size<=ϙ)(l:Lu ϙ W y):RI KK P Γ N h0 ρ0 w0 G R y h ρ:=
 ⟨(AS.shut (S:=⟨[],h⟩) (a:={ tmps:=#[],defers:=[] }) ⟨hR.hr,rfl,λi hi=>τ hi<|zAR i⟩ hi (zAO J b) l).hr,hR.upd.comp l λi hi e=>τ e.1 Z2,hR.grow,hR.g,hR.r,hR.kept⟩
theorem dI{S:St}{a:Act}(Q:AS P Γ N S ρ a w)(hN:∀b,N b->b<w.heap.size/\¬MO h0 ρ b)(hh:∀b,MO h0 ρ b->MO S.h ρ b){ps:υ Tmp}{n u:Code}{J:U->DH->Prop}{Jp:O PanicEntry->DH->Prop}(CM:S.fr.all (CS KK)=T)
 (DY:jd P Γ S.fr ps.toList n u KK J Jx Jp encs) (l:U):ae P YV encs ps n u a l (RJ P Γ N h0 ρ w KK J) (RX P Γ N h0 ρ w KK Jx)<|RPn P Γ N h0 ρ w KK Jp:=by
 rintro G R i x args W o hE ⟨h,ρ1,hJ,hR⟩ hS hl Gi;have CB:Γ.ng<=w.heap.size:=Γ.lo _ Q.hr.gi
 have hM:∀{h:DH} {ρ1:O AK} {W:κ},RI KK P Γ N h0 ρ w G R W h ρ1->∀b,MS (λb=>N b∨G b) h ρ1 b->b<W.heap.size/\¬R b:=λhR b hb=>by
  rcases hb with(hb|hb)|hb
  ·exact⟨(hR.hr.nlt b<|.inl hb).1,λh=>(hR.r b h).1 hb⟩
  ·exact⟨(hR.hr.nlt b<|.inr hb).1,hS.dis b hb⟩
  ·exact⟨(hR.off b hb).1,λh=>(hR.off b hb).2.2<|.inr h⟩
 have LJ:BQ (MS N S.h ρ) w (ρ.take KK) (MS (λb=>N b∨G b) h ρ1) W ρ1:=hR.outl.weak λb hb=>hb.imp id<|hh b
 have My:A3 (MS (λb=>N b∨G b) h ρ1) W ρ1 (JL S.fr ps.toList x)<|(ps.zip args).foldl (λt (p,v)=>t.setIfInBounds p v) a.tmps:=by
  have:=uw ps.toList x args.toList (by simpa using hE.1) (hE.rep (hM hR) ρ1)<|(Q.fr.take CM).out LJ
  grind[Array.toList_zip]
 have step:∀{G R:Ψ} {W K:κ} {h h':DH} {ρ1 ρ2:O AK},RI KK P Γ N h0 ρ w G R W h ρ1->(∀b,R b->b<W.heap.size)->Ap P Γ (λb=>N b∨G b) h' ρ2 K->A8 h ρ1 W h' ρ2 K->Bm KK ρ1 ρ2->RI KK P Γ N h0 ρ w G R K h' ρ2:=by
  intro G R W K h h' ρ1 ρ2 hR AY Ct st hk;have hs:=hR.upd.size;exact⟨Ct,hR.upd.comp st.upd λb hb z=>(hR.grow b z).resolve_right Z2,λb hb=>(st.grow b hb).elim (hR.grow b) λh=>.inr Z2,hR.g,λb hb=>⟨(hR.r b hb).1,λz=>(st.grow b z).elim (hR.r b hb).2 (by have:=AY b hb;omega)⟩,hR.kept.trans hk⟩
 have hRl:∀b,R b->b<W.heap.size:=λb h=>hS.lt b<|.inr h
 have bd:Bd (Fence.wide.inRound l) (Z W.heap.size) W:=⟨λb e=>by cases e;exact zAf _,λl' e=>by cases e;exact hl⟩;refine zOa (DY l W.heap.size (Tg P Γ KK (λb=>N b∨G b) h ρ1 W) i x h o hJ _ ρ1 _ W ⟨hR.hr,My⟩ ⟨rfl,A8.refl _ _ _,Bm.refl _ _⟩ trivial bd) ?_;rintro e a1 W1 ⟨S',ρ2,N2,Y2,X,h2,h3,h4,_⟩;cases e with
 |normal=>
  obtain⟨rfl,X⟩:=X;obtain⟨rfl,h3,h5⟩:=h3;refine⟨λG' R' K=>RI KK P Γ N h0 ρ w G' R' K S'.h ρ2/\A3 (MS (λb=>N b∨G' b) S'.h ρ2) K ρ2 S'.fr a1.tmps/\E4 W.heap.size a1.defers K/\W1.heap.size<=K.heap.size/\(∀b,G' b->b<W.heap.size∨W1.heap.size<=b)/\(∀Ϛ∈a1.defers,∀ϑ,Ϛ.target=.collected ϑ->ϑ<W1.heap.size)/\(∀b,R' b->b<K.heap.size),?_,h3.upd.mono λb _ z=>(hR.off b z).2.2,⟨step hR hRl h2.hr h3 h5,h2.fr,h4,zAf _,λb hg=>.inl (hR.hr.nlt b<|.inr hg).1,λϚ hd ϑ ht=>E4.lt h4 hd ht,λb hb=>zAQ (hRl b hb) h3.upd.size⟩,?_⟩
  ·rintro G1 R1 G2 R2 ϕ ϛ ⟨Y,q2,q3,q4,q5,q6,q7⟩ hu hg hr Iw hd hb;have hR2:=RI.stable CB hN _ _ _ _ _ _ Y hu hg hr Iw hd hb;refine⟨hR2,q2.out<|BQ.foreign (Γ:=Γ) hu (λb o=>⟨.inr o,(Y.g b o).1⟩) λb o=>?_,?_,zAO q4 hu.size,λb o=>(hg b o).elim (q5 b) λh=>.inr Z2,q6,λb h=>hb b<|.inr h⟩
   ·grind
   ·have go:∀{ds:O Deferred},E4 W.heap.size ds ϕ->(∀Ϛ∈ds,∀ϑ,Ϛ.target=.collected ϑ->ϑ<W1.heap.size)->E4 W.heap.size ds ϛ:=by
     intro ds
     induction ds with
     |nil=>intros;trivial
     |cons Ϛ ds ih=>
      rintro⟨ϑ,f,r2,m,r4,r5⟩ AY;have hD:ϑ<W1.heap.size:=AY Ϛ Z3 ϑ (by rw[f]);refine⟨ϑ,f,r2,(hu.block ϑ (zAM.1 m).1 λo=>?_).trans m,r4,ih r5 λd' E2=>AY d'<|by simp[E2]⟩
      grind
    exact go q3 q6
  ·rintro W2 ⟨Y,q2,q3,q4,q5,q6,q7⟩ C5;have bd2:Bd (Fence.wide.inRound l) (Z W.heap.size) W2:=⟨λb e=>by cases e;exact zAO h3.upd.size q4,λl' e=>by cases e;exact C5⟩;refine zOa (X (Tg P Γ KK (λb=>N b∨G b) S'.h ρ2 W2) _ ρ2 a1 W2 ⟨Y.hr,q2⟩ ⟨rfl,A8.refl _ _ _,Bm.refl _ _⟩ q3 bd2) ?_;rintro e a3 q ⟨S3,ρ3,N3,Y3,f,r2,m,r4,_⟩
   have s:∀e,(Tg P Γ KK (λb=>N b∨G b) S'.h ρ2 W2).I N3 S3.h ρ3 q->Qb KK (J<|i+1) Jx e S3->AR (λk=>¬(G k∨R k)) W2 q/\((e=.normal/\RJ P Γ N h0 ρ w KK J (i+1) G R q)∨((Lg e).isSome=T/\∃h ρ',Jx e h/\RI KK P Γ N h0 ρ w G R q h ρ')):=by
    rintro e r0 ⟨S4,Bq,hJ4⟩;obtain⟨rfl,m,r5⟩:=r0;obtain⟨ρ4,R4,s4,k4⟩:=Bq P Γ _ ρ3 a3 q r2;have f6:=step Y q7 R4.hr (m.trans s4)<|r5.trans k4;exact⟨m.upd.mono λb _ z=>(Y.off b z).2.2,hJ4.imp (λ⟨x,y⟩=>⟨x,S4.h,ρ4,y,f6⟩) λ⟨x,y⟩=>⟨x,S4.h,ρ4,y,f6⟩⟩
   have Fk:∀{e c},Lg e=Z c->(Tg P Γ KK (λb=>N b∨G b) S'.h ρ2 W2).I N3 S3.h ρ3 q->Qb KK (J<|i+1) Jx e S3->AR (λk=>¬(G k∨R k)) W2 q/\RX P Γ N h0 ρ w KK Jx c G R q:=λhe m f=>by
    obtain⟨o1,j⟩:=s _ m f;rcases j with⟨rfl,_⟩|⟨_,j⟩
    ·cases he
    ·exact⟨o1,_,he,j⟩
   cases e with
   |normal=>
    obtain⟨rfl,f⟩:=f;obtain⟨o1,j⟩:=s _ m<|f.resolve_right Z4;rcases j with⟨_,j⟩|⟨j,_⟩
    ·exact⟨o1,j⟩
    ·cases j
   |ret=>obtain⟨rfl,f⟩:=f;exact Fk rfl m (f.resolve_right Z4)
   |exit id=>obtain⟨rfl,f⟩:=f;exact Fk rfl m (f.resolve_right Z4)
   |goto t=>
    obtain⟨rfl,f⟩:=f;obtain⟨o1,j⟩:=s _ m<|f.resolve_right Z4;rcases j with⟨j,_⟩|⟨j,_⟩ <;> cases j
   |panic c=>
    obtain⟨rfl,f⟩:=f;rcases f with f|⟨c',S4,he,Bq,hni,hjp⟩
    ·obtain⟨o1,j⟩:=s _ m f;rcases j with⟨j,_⟩|⟨j,_⟩ <;> cases j
    ·cases he;obtain⟨rfl,m,r5⟩:=m;obtain⟨ρ4,R4,s4,k4⟩:=Bq P Γ _ ρ3 a3 q r2;have f6:=step Y q7 R4.hr (m.trans s4)<|r5.trans k4;refine⟨W.heap.size,r4,λW4 IV=>⟨(m.upd.mono λb _ z=>(Y.off b z).2.2).comp IV λk _ o hgr=>?_,S4.h,ρ4,hjp,f6.shut hni CB hR.upd.size IV⟩⟩;have:=hS.lt k hgr;omega
   |outgrown=>exact f.elim
 |ret=>exact X.elim
 |exit id=>exact X.elim
 |goto t=>exact X.elim
 |panic c=>exact X.elim
 |outgrown=>exact X.elim
section
variable{N:Ψ}{S:St}{ρ:O AK}{a:Act}{w:κ}{G R:Ψ}{W:κ}{h h0:DH}{ρ':O AK}{KK:U}
def RI.hrel(hR:RI KK P Γ N h0 ρ w G R W h ρ'):Ap P Γ N h ρ' W:=
 hR.hr.foreign (G:=λ_=>False) (AR.refl _ _) (λ_ h=>h.elim) (λb a=>.inl<|.inl a) λb a=>hR.hr.nlt b<|.inl a
def RI.frame(hR:RI KK P Γ N h0 ρ w G R W h ρ')(Q:AS P Γ N S ρ a w)(g:∀b,MO h0 ρ b->MO S.h ρ b)(e:S.fr.all (CS KK)=T):A3 (MS N h ρ') W ρ' S.fr a.tmps:=
 ((Q.fr.take e).out<|hR.outl.weak λb c=>c.imp id<|g b).out (DU (λb c=>c.imp .inl id) ρ')
end
variable{g:Operand}{S:St}{Ϝ:U}{ϖ:Fence}
theorem Tr.range(LX:ϖ=η∨∃l,ϖ=Fence.wide.inRound l){ϙ:U}{Y:BS P Γ Ϝ}{ps:υ Tmp}{q s:Code}{Q:QY P Γ Ϝ}{k:U}{encs:O (O DV)}(J:U->DH->Prop)(Jx:Exit->DH->Prop)
 (hg:Ak S.fr g=.it k) (hk:S.h[k]?=Z (Z<|.iter encs)) (Ez:∀x∈encs,F x=ps.size) {KK:U} (hL:Ϝ<=KK) (CM:S.fr.all (CS KK)=T) (h0:J 0<|S.h.set k V)
 (DY:af P Γ S.fr ps.toList q s KK J Jx encs) (E1:∀h,J (F encs) h->Q .normal ⟨S.fr,h⟩ Y) (Pq:∀e h,(Lg e).isSome=T->Jx e h->Q e ⟨S.fr,h⟩ Y):Tr P Γ ϖ (Z ϙ) Ϝ Y (.rangeFunc g ps q s) S Q:=λN ρ a w R y m b=>by
 have hx:=Be R g;rw[hg]at hx;obtain⟨p,u,hv⟩:=hx;obtain⟨p',BO,gf,lb,Rd,⟨e1,e2⟩,z,r,K⟩:=R.hr.obj k _ hk;have ep:p'=p:=zAN<|BO.symm.trans u;subst ep;have zx:a.eval g=.func (.func gf) #[] lb:=hv.trans e1;have CB:Γ.ng<=w.heap.size:=Γ.lo _ R.hr.gi;have hMk:∀b,p'.foot b->MO S.h ρ b:=λb f=>⟨k,_,p',hk,u,f⟩
 have hN:∀b,N b->b<w.heap.size/\¬MO S.h ρ b:=λb f=>⟨(R.hr.nlt b f).1,λ⟨k,o,p,q1,z,r⟩=>(R.hr.cel k o p b q1 z r).2.1 f⟩
 have IV:EX p'.foot Rd w:=⟨λb f hr=>(r b hr).1<|.inr<|hMk b f,λb f=>f.elim (K b) λh=>(r b h).2⟩
 have VC:RJ P Γ N S.h ρ w KK J 0 p'.foot Rd w:=by
  refine⟨S.h.set k V,ρ,h0,?_,AR.refl _ _,λb f=>.inl<|MO.kill f,λb f=>⟨(R.hr.cel k _ p' b hk u f).1,.inl<|hMk b f⟩,λb f=>⟨λhn=>(r b f).1<|.inl hn,λhm=>(r b f).1<|.inr<|MO.kill hm⟩,Bm.refl _ _⟩;have H1:Ap P Γ N (S.h.set k V) ρ w:=R.hr.kill k
  have Pp:∀b,MS (λb=>N b∨p'.foot b) (S.h.set k V) ρ b->MS N S.h ρ b:=λb f=>by
   grind[MS,MO]
  refine⟨H1.len,λi o hi=>?_,λi o p2 b g1 g2 g3=>?_,H1.dis,λb f=>f.elim (R.hr.nlt b) λh=>⟨K b h,(R.hr.cel k _ p' b hk u h).1⟩,R.hr.gi⟩
  ·obtain⟨Af,CF⟩:=Mw hi;obtain⟨p2,SE,hr⟩:=R.hr.obj i o CF;exact⟨p2,SE,hr.out (DU Pp ρ) (S:=λ_=>False) (AR.refl _ _) (λ_ h=>h.elim) λ_ _ _ h=>h⟩
  ·obtain⟨Af,CF⟩:=Mw g1;obtain⟨c1,c2,c3⟩:=R.hr.cel i o p2 b CF g2 g3;exact⟨c1,λf=>f.elim c2 λf=>R.hr.dis i k o _ p2 p' b Af CF hk g2 u g3 f,c3⟩
 have hst:∀i,DK<|RJ P Γ N S.h ρ w KK J i:=λi G R' G' R2 ϕ ϛ ⟨h,ρ',j,I⟩ q1 z r K q5 q6=>⟨h,ρ',j,RI.stable CB hN _ _ _ _ _ _ I q1 z r K q5 q6⟩
 have Uq:∀c,DK<|RX P Γ N S.h ρ w KK Jx c:=λc G R' G' R2 ϕ ϛ ⟨e,n,h,ρ',j,I⟩ q1 z r K q5 q6=>⟨e,n,h,ρ',j,RI.stable CB hN _ _ _ _ _ _ I q1 z r K q5 q6⟩
 have stp:∀{G R':Ψ} {W:κ} {h:DH} {ρ':O AK},RI KK P Γ N S.h ρ w G R' W h ρ'->A8 S.h ρ w h ρ' W:=λhR=>⟨hR.upd,hR.grow⟩
 have X:∀{G R':Ψ} {W:κ} {h:DH} {ρ':O AK},RI KK P Γ N S.h ρ w G R' W h ρ'->Bm Ϝ ρ ρ':=λhR k p hk u=>hR.kept k p (zAQ hk hL) u
 have zY:∀x∈encs,∀R W args,YV x R W args->args.size=ps.size:=λx hx R W args h=>h.1.symm.trans<|Ez x hx
 have Kw:∀{G R':Ψ} {W:κ} {h:DH} {ρ':O AK} {a':Act},RI KK P Γ N S.h ρ w G R' W h ρ'->a'.tmps=a.tmps->AS P Γ N ⟨S.fr,h⟩ ρ' a' W:=λhR e=>⟨hR.hrel,by rw[e];exact hR.frame (S:=S) R (λ_ h=>h) CM⟩
 rcases LX with rfl|⟨l0,rfl⟩
 ·have mk:∀{ϑ:U} {G R':Ψ} {W:κ} {h:DH} {ρ':O AK},RI KK P Γ N S.h ρ w G R' W h ρ'->W.heap[ϑ]?=Z (.deferred<|Z [])->w.heap.size<=ϑ->E4 ϙ ({ target:=.collected ϑ,args:=#[] }::a.defers) W:=λ{ϑ G R' W h ρ'} hR hD Fy=>
   ⟨ϑ,rfl,zAO (b.le _ rfl) Fy,hD,λd' E2 ht=>by have:=E4.lt m E2 ht;omega,Xx R.hr (stp hR) m⟩
  refine sH zx e2 z.gen IV zY _ _ _ hst Uq (λc G R' G' R2 ϕ ϛ ⟨h,ρ',j,I⟩ _ _ _ _ _ _=>j.elim) (λh=>h.elim) (λc G R W ⟨h,ρ',j,I⟩=>j.elim) VC (dI R hN (λ_ h=>h) CM<|DY.p λ_ _=>False) ?_ ?_
  ·rintro ϑ e G R' own W W' ⟨v,rfl⟩ ⟨h,ρ',j,hR⟩ _ _ _ hD Fy;exact⟨⟨S.fr,h⟩,ρ',N,Y,E1 h j,Kw hR rfl,Y.st y R.hr hR.hrel (stp hR)<|X hR,mk hR hD Fy,b.step R.hr<|stp hR⟩
  ·rintro ϑ c G R' W ⟨e,n,h,ρ',j,hR⟩ hD Fy;have hq:=Pq e h (by rw[n];rfl) j;cases e with
   |ret=>cases n;exact zTS ⟨⟨S.fr,h⟩,ρ',N,Y,hq,Kw hR rfl,Y.st y R.hr hR.hrel (stp hR)<|X hR,mk hR hD Fy,b.step R.hr<|stp hR⟩
   |exit id=>cases n;exact wpIn_exit ⟨⟨S.fr,h⟩,ρ',N,Y,hq,Kw hR rfl,Y.st y R.hr hR.hrel (stp hR)<|X hR,mk hR hD Fy,b.step R.hr<|stp hR⟩
   |normal=>cases n
   |goto t=>cases n
   |panic c=>cases n
   |outgrown=>cases n
 ·refine zC5 zx e2 (b.rd l0 rfl) z.gen IV zY _ _ _ hst Uq (λc G R' G' R2 ϕ ϛ ⟨h,ρ',j,I⟩ _ _ _ _ _ _=>j.elim) (λh=>h.elim) (λc G R W ⟨h,ρ',j,I⟩=>j.elim) VC (dI R hN (λ_ h=>h) CM<|DY.p λ_ _=>False) ?_ ?_
  ·rintro e G R' own W W' ⟨v,rfl⟩ ⟨h,ρ',j,hR⟩ _ _ _;exact⟨⟨S.fr,h⟩,ρ',N,Y,E1 h j,Kw hR rfl,Y.st y R.hr hR.hrel (stp hR)<|X hR,Xx R.hr (stp hR) m,b.step R.hr<|stp hR⟩
  ·rintro c G R' W ⟨e,n,h,ρ',j,hR⟩;have hq:=Pq e h (by rw[n];rfl) j;cases e with
   |ret=>cases n;exact zTS ⟨⟨S.fr,h⟩,ρ',N,Y,hq,Kw hR rfl,Y.st y R.hr hR.hrel (stp hR)<|X hR,Xx R.hr (stp hR) m,b.step R.hr<|stp hR⟩
   |exit id=>cases n;exact wpIn_exit ⟨⟨S.fr,h⟩,ρ',N,Y,hq,Kw hR rfl,Y.st y R.hr hR.hrel (stp hR)<|X hR,Xx R.hr (stp hR) m,b.step R.hr<|stp hR⟩
   |normal=>cases n
   |goto t=>cases n
   |panic c=>cases n
   |outgrown=>cases n
def C7{α σ:Type}(f:α->σ->A (σ×U)):O α->σ->A (σ×U)
 |[],s=>Z (s,0)
 |x::l,s=>(f x s).bind λr=>L (r.2==0) (C7 f l r.1)<|Z r
def CC{α σ:Type}(f:α->σ->A σ):O α->σ->A σ
 |[],s=>Z s
 |x::l,s=>(f x s).bind<|CC f l
variable{α σ:Type}
def zAj(f:α->σ->A σ):∀(l:O α) (s:σ),C7 (λx s=>(f x s).map λY=>(Y,0)) l s=(CC f l s).map λY=>(Y,0)
 |[],s=>rfl
 |x::l,s=>by
  simp only[C7,CC];cases f x s with
  |none=>rfl
  |some Y=>exact zAj f l Y
def C3(Ϝ:U)(q:O Exit)(c:U)(h':DH)(e:Exit)(S:St):Prop:=(Exit.normal::q)[c]?=Z e/\∃o,BB Ϝ S o/\o.h=h'
def Hq(P:ν)(Γ:A2)(ϖ:Fence)(ϙ:A U)(Ϝ:U)(N:BS P Γ Ϝ)(Q:Exit->St->Prop)(W j:Code)(S:St):Prop:=Tr P Γ ϖ ϙ Ϝ N W S<|Qs (λS' R=>R=N/\∀J:BS P Γ Ϝ,BY P Γ ϖ ϙ Ϝ J Q [.code j] S') λ_ _ _=>False
variable{j:Code}
theorem Hq.go{ϙ:A U}{N:BS P Γ Ϝ}{Q:Exit->St->Prop}(k:Dk ϖ P)(z:P.follows .mixedOrders=T){W:Code}(b:BZ)(n:U)(o:BT)(a σ:Θ)(fr:O DV)(h':DH)(vs:O Prop)
 (h:(Cr P Γ b n [.code W] S o).map (Xl a σ Ϝ)=Z (.at [],fr,h',vs,[],[],T)) (f:BX vs) (hk:∀J:BS P Γ Ϝ,BY P Γ ϖ ϙ Ϝ J Q [.code j] ⟨fr,h'⟩):Hq P Γ ϖ ϙ Ϝ N Q W j S:=by
 obtain⟨S',_,g,l⟩:=zJf h;have ϒ:=G6 (ϖ:=ϖ) (ϙ:=ϙ) (Ϝ:=Ϝ) (Y:=N) (Q:=λe c p=>e=.normal/\p=N/\∀J:BS P Γ Ϝ,BY P Γ ϖ ϙ Ϝ J Q [.code j] c) k z n [.code W] S o _ _ _ _ g f ⟨rfl,rfl,λJ=>BY.le l rfl (hk J)⟩;refine Tr.mono (show Tr P Γ ϖ ϙ Ϝ N W S _ from ϒ) λe c p hq=>?_
 grind[Qs,BN]
theorem BY.rangeFold(G:ϖ=η∨∃l,ϖ=Fence.wide.inRound l){ϙ:U}{Y:BS P Γ Ϝ}{Q:QY P Γ Ϝ}{n:υ Tmp}{W:Code}{k:O KI}{z:U}(q:O Exit)(LR:(q.all λe=>(Lg e).isSome)=T)(enc:α->O DV)(l:O α)(Ϙ:σ->DH)(f:α->σ->A (σ×U)){o:σ}{rE:σ×U}(I:C7 f l o=Z rE)
 (R:Ak S.fr g=.it z) (hk:S.h[z]?=Z (Z<|.iter<|l.map enc)) (Ez:∀x,F (enc x)=n.size) {K:U} (X:Ϝ<=K) (CM:S.fr.all (CS K)=T) (h0:S.h.set z V=Ϙ o)
 (DY:∀(l ϙ:U) (N:BS P Γ K) (x:α) (s:σ) (r:σ×U),f x s=Z r->Hq P Γ (Fence.wide.inRound l) (Z ϙ) K N (C3 K q r.2<|Ϙ r.1) W j ⟨JL S.fr n.toList<|enc x,Ϙ s⟩)
 (E1:∀e,(Exit.normal::q)[rE.2]?=Z e->BN P Γ ϖ (Z ϙ) Ϝ Q k e ⟨S.fr,Ϙ rE.1⟩ Y):A6 P Γ ϖ (Z ϙ) Ϝ Y Q (.code (.rangeFunc g n W j)::k) S:=by
 refine Tr.range (Q:=BN P Γ ϖ (Z ϙ) Ϝ Q k) (KK:=K) G (λi h=>∃s,C7 f (l.drop i) s=Z rE/\h=Ϙ s) (λe h=>(Exit.normal::q)[rE.2]?=Z e/\h=Ϙ rE.1) R hk (λx b=>?_) X CM ⟨o,I,h0⟩ ?_ ?_ ?_
 ·grind
 ·rintro l' u N' i x h b ⟨s,v,rfl⟩;rw[zMN]at b;cases hy:l[i]? with
  |none=>rw[hy]at b;cases b
  |some y=>
   rw[hy]at b;cases b
   have hd:l.drop i=y::l.drop (i+1):=by
    grind[List.drop_eq_getElem_cons]
   rw[hd]at v;obtain⟨r,h1,h2⟩:=D4 v;have ϒ:=DY l' u N' y s r h1
   have p:∀{e:Exit} {m:St},C3 K q r.2 (Ϙ r.1) e m->Qb K (λh=>∃s,C7 f (l.drop<|i+1) s=Z rE/\h=Ϙ s) (λe h=>(Exit.normal::q)[rE.2]?=Z e/\h=Ϙ rE.1) e m:=by
    rintro e m ⟨r1,S3,r2,r3⟩
    grind[Qb]
   refine Tr.mono ϒ λe m Y2 a=>?_
   cases e with
   |normal=>exact⟨a.1,λJ=>Tr.mono (show Tr P Γ (Fence.wide.inRound l') (Z u) K J j m (stay J<|C3 K q r.2<|Ϙ r.1)from a.2 J) λe S3 Y3 w=>⟨w.1,p w.2⟩⟩
   |ret=>exact a.elim
   |exit id=>exact a.elim
   |goto t=>exact a.elim
   |panic c=>exact a.elim
   |outgrown=>exact a.elim
 ·grind[C7]
 grind
def VO{ϙ:A U}{Y:BS P Γ Ϝ}{Q:QY P Γ Ϝ}{id:U}(h:Q (.exit id) S Y):∀(k:O KI),K4 id k=V->BN P Γ ϖ ϙ Ϝ Q k (.exit id) S Y
 |[],_=>h
 | .blk i::k,a=>by
  unfold K4 at a;split at a
  ·cases a
  ·rename_i e
   show C (id=i) _ _
   rw[zAt e];exact VO h k a
 | .code c::k,a=>VO (k:=k) h a
 | .lend J::k,a=>VO (k:=k) h a
 | .scp::k,a=>VO (k:=k) h a
 | .loopN m b::k,a=>VO (k:=k) h a
end
def NW(t:U):Code->A (υ Tmp×Code×Code)
 | .rangeFunc (.tmp m) W a b=>C (m=t) (Z (W,a,b))<|NW t b
 | .seq a b=>match NW t a with
  |some r=>Z r
  |none=>NW t b
 | .cond _ a b=>match NW t a with
  |some r=>Z r
  |none=>NW t b
 | .block _ c=>NW t c
 | .loop c=>NW t c
 | .scope c=>NW t c
 |_=>V
def wD(f:Func)(t:U):υ Tmp×Code×Code:=match f.body with
 |some c=>(NW t c).getD (#[],.skip,.skip)
 |none=>(#[],.skip,.skip)
def RD(f:Func)(t:U):Code:=(wD f t).2.2
def rgA(f:Func)(t:U):Code:=(wD f t).2.1
def AZ(f:Func):Code:=f.body.getD .skip
def wq(id:U)(k:O KI):O KI:=(K4 id k).getD []
variable{Ϝ:U}{ϖ:Fence}{Γ:A2}{P:ν}
theorem BN.exitTo{ϙ:A U}{Y:BS P Γ Ϝ}{Q:QY P Γ Ϝ}{id:U}{k:O KI}{S:St}(h:(K4 id k).isSome=T)(hk:A6 P Γ ϖ ϙ Ϝ Y Q (wq id k) S):BN P Γ ϖ ϙ Ϝ Q k (.exit id) S Y:=by
 unfold wq at hk;cases a:K4 id k with
 |none=>rw[a]at h;cases h
 |some k'=>grind[RG,A6]
def RC:O KI->A (Operand×υ Tmp×Code×Code×O KI)
 | .code (.rangeFunc g W a b)::k=>Z (g,W,a,b,k)
 |_=>V
variable{α σ:Type}{z ϙ:U}{K:O KI}{h:DH}{fr:O DV}
def BY.rangeAt(k:ϖ=η∨∃l,ϖ=Fence.wide.inRound l){Y:BS P Γ Ϝ}{Q:QY P Γ Ϝ}(q:O Exit)(m:(q.all λe=>(Lg e).isSome)=T)(g:Operand)(W:υ Tmp)(a b:Code)(c:O KI)(enc:α->O DV)(l:O α)(Ϙ:σ->DH)(i:α->O DV)(f:α->σ->A (σ×U)){j:σ}{rE:σ×U}(n:C7 f l j=Z rE)
 (S:RC K=Z (g,W,a,b,c)) (o:Ak fr g=.it z) (hk:h[z]?=Z (Z<|.iter<|l.map enc)) (p:∀x,F (enc x)=W.size) (L':U) (J:Nat.ble Ϝ L'=T) (t:fr.all (CS L')=T) (h0:h.set z V=Ϙ j) (u:(λx=>JL fr W.toList<|enc x)=i)
 (v:∀(l ϙ:U) (N:BS P Γ L') (x:α) (s:σ) (r:σ×U),f x s=Z r->Hq P Γ (Fence.wide.inRound l) (Z ϙ) L' N (C3 L' q r.2<|Ϙ r.1) a b ⟨i x,Ϙ s⟩)
 (w:∀e,(Exit.normal::q)[rE.2]?=Z e->BN P Γ ϖ (Z ϙ) Ϝ Q c e ⟨fr,Ϙ rE.1⟩ Y):A6 P Γ ϖ (Z ϙ) Ϝ Y Q K ⟨fr,h⟩:=by
 unfold RC at S;split at S
 ·cases S;subst u;exact BY.rangeFold k q m enc l Ϙ f n o hk p (zMQ J) t h0 v w
 ·cases S
theorem BY.rangeAt0(n:ϖ=η∨∃l,ϖ=Fence.wide.inRound l){Y:BS P Γ Ϝ}{Q:QY P Γ Ϝ}(g:Operand)(W:υ Tmp)(a b:Code)(c:O KI)(enc:α->O DV)(l:O α)(Ϙ:σ->DH)(q:α->O DV)(f:α->σ->A σ){i m:σ}(o:CC f l i=Z m)
 (S:RC K=Z (g,W,a,b,c)) (p:Ak fr g=.it z) (hk:h[z]?=Z (Z<|.iter<|l.map enc)) (t:∀x,F (enc x)=W.size) (L':U) (J:Nat.ble Ϝ L'=T) (u:fr.all (CS L')=T) (h0:h.set z V=Ϙ i) (v:(λx=>JL fr W.toList<|enc x)=q)
 (DY:∀(l ϙ:U) (N:BS P Γ L') (x:α) (s r:σ),f x s=Z r->Hq P Γ (Fence.wide.inRound l) (Z ϙ) L' N (C3 L' [] 0<|Ϙ r) a b ⟨q x,Ϙ s⟩)
 (w:A6 P Γ ϖ (Z ϙ) Ϝ Y Q c ⟨fr,Ϙ m⟩):A6 P Γ ϖ (Z ϙ) Ϝ Y Q K ⟨fr,h⟩:=by
 refine BY.rangeAt n [] rfl g W a b c enc l Ϙ q (λx s=>(f x s).map λj=>(j,0)) (rE:=(m,0)) (by rw[zAj,o];rfl) S p hk t L' J u h0 v (λl' B' N' x s r k=>?_) λe y=>?_
 ·cases G:f x s with
  |none=>rw[G]at k;cases k
  |some j=>
   grind
 ·cases y;exact w
def QF(t:U):Θ->Code->O KI->A (O KI)
 |ms,.seq a b,k=>match QF t ms a (.code b::k)with
  |some r=>Z r
  |none=>QF t ms b k
 |ms,.cond _ a b,k=>match QF t ms a k with
  |some r=>Z r
  |none=>QF t ms b k
 |ms,.block i c,k=>QF t ms c<|.blk i::k
 |ms,.scope c,k=>QF t ms c<|.scp::k
 |m::ms,.loop b,k=>QF t ms b<|.loopN m b::k
 |_,.rangeFunc (.tmp e) W a b,k=>C (e=t) (Z<|.code (.rangeFunc (.tmp e) W a b)::k) V
 |_,_,_=>V
def Ho(c:Code)(t:U)(J:Θ):O KI:=(QF t J c []).getD []
def Fo(c:Code)(id:U)(J:Θ):O KI:=(QG id J c []).getD []
def CY(c:Code)(id:U)(J:Θ):O KI:=(QH id J c []).getD []
end
abbrev L1(l:O DV):U->DV:=λj=>l.getD j .any
abbrev AM{α:Type}[Inhabited α](c:α->O DV)(l:O α):U->U->DV:=λi j=>(c<|M l i ξ).getD j .any
abbrev Sb{α:Type}(c:α->O DV):α->U->DV:=λx j=>(c x).getD j .any
def BD(c:AE):O DV:=[.int .i64 c.kind,.ints c.ce,.int .i64 c.set,.int .i64 c.other,.int .i64 c.lo,.int .i64 c.hi,.ints c.ru,.int .i64 c.rule,.int .i64 c.spot]
def AW(x:Ξ):O DV:=[.ints x]
def Vg(x:Ω):O DV:=[.bools x]
def Az(x:Δ):O DV:=[.int .i64 x.1,.int .i64 x.2]
def AG(q:AA):O DV:=[.int .i64 q.ce,.int .i64 q.sy,.ints q.va,.sl 1 (F q.nb)<|AM AW q.nb,.sl 9 (F q.cons)<|AM BD q.cons]
abbrev oC(l:O DV):A DO:=Z<|.cells l
abbrev oI(l:Ξ):A DO:=Z<|.ints l
abbrev oW(c:AE)(q:AA)(pos:Ξ)(k ln:U):A DO:=Z<|.cells<|BD c++AG q++[.ints pos,.msl k 1 0 ln]
end Go.Proofs.YtnkpdcmbppkkpaaGreatDoor
