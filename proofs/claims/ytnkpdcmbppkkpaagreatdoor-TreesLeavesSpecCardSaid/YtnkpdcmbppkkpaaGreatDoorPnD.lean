/- Part 4 of 8 of what the proofs of these laws stand on. -/
import Derived.Test.YtnkpdcmbppkkpaaGreatDoorPnC
import Derived.Shelf.Sort.Plain
set_option linter.all false
open Bool renaming true->D,false->T
open Decidable renaming decide->C
open Eq renaming refl->φ
open Go renaming World->κ,Value->μ,TypeId->ψ
open Go.Fence renaming wide->η
open Go.Proofs.Tryz renaming prog->L
open List renaming length->F,getD->H,replicate->d,range->θ
open Nat.le renaming refl->χ
open Option renaming none->A,some->Z
open _root_ renaming cond->B,Nat->E,Option->M,List->O,Int->U,ite->u,Bool->ζ,absurd->τ,Array->υ
namespace Go.Proofs.YtnkpdcmbppkkpaaGreatDoor
open Go.RowKit
section
variable{S R:Type}
theorem dB(m:E->S->U->M R)(len b:E)(Inv:E->S->Prop)
 (h:∀(n i:E) (s:S),b<=n->i<len->Inv i s->∃a,m (n+1) s (i:U)=m n a ((i:U)+1)/\Inv (i+1) a):
 ∀(k i n:E) (s:S),i+k=len->b<=n->Inv i s->∃a,m (n+k) s (i:U)=m n a (len:U)/\Inv len a
 |0,i,n,s,e,_,c=>by
  grind
 |k+1,i,n,s,e,f,c=>by
  obtain⟨a,h1,g⟩:=h (n+k) i s Z2 Z2 c;obtain⟨s2,h3,h4⟩:=dB m len b Inv h k (i+1) n a Z2 f g
  grind
theorem Ih(m:E->S->U->M R)(len k:E)(Inv:E->S->Prop)
 (h:∀(n i:E) (s:S),k<=n->i<len->Inv i s->∃a,m (n+1) s (i:U)=m n a ((i:U)+1)/\Inv (i+1) a)
 {n:E} {s:S} (hn:k+len<=n) (b:Inv 0 s):∃P a,k<=P/\P+len=n/\m n s 0=m P a (len:U)/\Inv len a:=by
 obtain⟨a,h1,h2⟩:=dB m len k Inv h len 0 (n-len) s Z2 Z2 b
 grind
structure Ca(c:AD)(k:E)(pos:Ξ):Prop where
 ce:∀a,a<F c.ce->0<=H c.ce a 0/\H c.ce a 0<(F pos:U)
 len:F c.ce<=256
 sm:∀i,i<F pos->Sm k (H pos i 0)
 k:k<=16
def AY(c:AD)(pos:Ξ)(a:E):U:=H pos (H c.ce a 0).toNat 0
def NT(x:U):ζ:=bits .and .i64 x (x-1)==0
section
variable{c:AD}{k:E}{pos lost:Ξ}{q:AA}
variable{a:E}
def Ca.at(W:Ca c k pos)(b:a<F c.ce):Sm k<|AY c pos a:=by
 have:=W.ce a b;exact W.sm _ Z2
theorem Ca.r64(W:Ca c k pos)(b:a<F c.ce):AG (AY c pos a-1)/\AG ((a:U)+1):=by
 have h:=W.at b;have h2:=K6 (k:=k)<|zIX W.k Z6;have h3:=W.len
 grind[AZ,Sm]
variable{cell:U}{n:E}
theorem MU{ss:U}(h0:0<=cell)(h1:cell<(F pos:U))(hl:F lost=F pos):
 ∃l',D0 n cell ss c q pos (F pos) lost=Z l'/\F l'=F pos/\∀j s,tb (H l' j 0) s=(tb (H lost j 0) s||(C (j=cell.toNat)&&(tb (H pos j 0) s&&tb ss s))):=by
 refine⟨lost.set cell.toNat<|bits .or .i64 (H lost cell.toNat 0)<|bits .and .i64 (H pos cell.toNat 0) ss,?_,Z4,λj s=>?_⟩
 ·simp_all[D0,lM]
 grind[Ke,FG]
theorem km(h0:0<=cell)(h1:cell<(F pos:U))(hl:F lost=F pos):
 ∃l',Hb n cell c q pos (F pos) lost=Z l'/\F l'=F pos/\∀j s,tb (H l' j 0) s=(tb (H lost j 0) s||(C (j=cell.toNat)&&(tb (H pos j 0) s&&!tb c.set s))):=by
 refine⟨lost.set cell.toNat<|bits .or .i64 (H lost cell.toNat 0)<|bits .andNot .i64 (H pos cell.toNat 0) c.set,?_,Z4,λj s=>?_⟩
 ·simp_all[Hb,ko]
 grind[Ke,IT]
def Sg(c:AD)(pos:Ξ)(a s:E):Prop:=NT (AY c pos a)=D/\tb (AY c pos a) s=D
def B4(c:AD)(pos lost:Ξ)(i:E)(ϒ:E->Ψ)(l:Ξ):Prop:=F l=F pos/\∀j s,tb (H l j 0) s=D↔tb (H lost j 0) s=D∨∃a,a<i/\(H c.ce a 0).toNat=j/\tb (AY c pos a) s=D/\ϒ a s
variable{ϒ:E->Ψ}
theorem B4.step{i:E}{l l':Ξ}(h:B4 c pos lost i ϒ l)(hl:F l'=F pos)
 (h1:∀j s,tb (H l' j 0) s=D↔tb (H l j 0) s=D∨((H c.ce i 0).toNat=j/\tb (AY c pos i) s=D/\ϒ i s)):B4 c pos lost (i+1) ϒ l':=by
 grind[B4]
theorem B4.zero(q:F lost=F pos):B4 c pos lost 0 ϒ lost:=
 ⟨q,λj s=>⟨.inl,λh=>h.elim id λ⟨a,b,_⟩=>τ b<|zBT a⟩⟩
def O1(c:AD)(pos:Ξ)(a s:E):Prop:=∃b,b<F c.ce/\b≠a/\Sg c pos b s
theorem zO1(W:Ca c k pos)(N:F lost=F pos)(hn:2*F c.ce+2<=n):
 ∃l,UP n c q pos (F pos) lost=Z (D,l)/\B4 c pos lost (F c.ce) (O1 c pos) l:=by
 have P:∀i,i<F c.ce->((i:E):U)<((F c.ce:E):U):=λi hi=>Z2
 have S:=Ih (λn (s:Δ) i=>Mv c q pos (F pos) lost n<|.l1 s.1 s.2 i) (F c.ce) (F c.ce+2)
  (λi s=>(∀j,tb s.1 j=D↔∃a,a<i/\Sg c pos a j)/\(∀j,tb s.2 j=D↔∃a b,a<b/\b<i/\Sg c pos a j/\Sg c pos b j))
  (λn i s _ hi r=>?_) (n:=n) (s:=(0,0)) Z2 ?_
 ·obtain⟨G,⟨o,t⟩,Hg,_,e1,ho,Q⟩:=S;obtain⟨y,rfl⟩:∃y,G=y+1:=⟨G-1,Z2⟩
  have ϑ:=Ih (λn (s:Ξ) i=>Mv c q pos (F pos) lost n<|.l2 o t i s) (F c.ce) 1
   (λi s=>B4 c pos lost i (O1 c pos) s) (λn i s G9 hi r=>?_) (n:=y) (s:=lost) Z2 (B4.zero N)
  ·obtain⟨I,l,Of,_,e2,hL⟩:=ϑ;obtain⟨J,rfl⟩:∃J,I=J+1:=⟨I-1,Z2⟩
   simp_all[UP,zY,fe,Mv,fc]
  ·have hc:=W.ce i hi;have f:=W.r64 hi
   show∃R,fc n (Mv c q pos (F pos) lost n) c q pos (F pos) lost o t (i:U) s=_/\_
   unfold fc;rw[zAB<|P i hi,zAG];simp only[u8];rw[zAF ⟨⟨Z2,P i hi⟩,hc,f.1⟩];have X:(bits .and .i64 (H pos (H c.ce i 0).toNat 0) (H pos (H c.ce i 0).toNat 0-1)==0)=NT (AY c pos i):=rfl;rw[X];cases v:NT<|AY c pos i
   ·rw[zAD];obtain⟨l',g,m,w⟩:=MU (n:=n) (ss:=o) (c:=c) (q:=q) hc.1 hc.2 r.1;rw[g,zAC,zAF f.2];refine⟨l',rfl,r.step m λj x=>?_⟩
    grind[AY,O1,Sg]
   ·obtain⟨l',g,m,w⟩:=MU (n:=n) (ss:=bits .or .i64 (bits .andNot .i64 o<|H pos (H c.ce i 0).toNat 0) t) (c:=c) (q:=q) hc.1 hc.2 r.1;rw[g,zAC,zAF f.2];refine⟨l',rfl,r.step m λj x=>?_⟩;rw[w,zKu,zAx,zAx,zKv,Ke,IT,zKu,zAx,Q];constructor
    ·grind[AY,O1]
    ·rintro(h|⟨rfl,z,b,e,h5,K⟩)
     ·exact .inl h
     ·refine .inr ⟨rfl,z,.inr ?_⟩;rcases Nat.lt_or_gt_of_ne h5 with h5|h5
      ·exact⟨b,i,h5,hi,K,v,z⟩
      ·exact⟨i,b,h5,e,⟨v,z⟩,K⟩
 ·obtain⟨o,t⟩:=s;obtain⟨g,m⟩:=r;simp only at g m;have hc:=W.ce i hi;have f:=W.r64 hi
  show∃R,fe n (Mv c q pos (F pos) lost n) c q pos (F pos) lost o t (i:U)=_/\_
  unfold fe;rw[zAB<|P i hi,zAG];simp only[u8];rw[zAF ⟨⟨Z2,P i hi⟩,hc,f.1⟩];have X:(bits .and .i64 (H pos (H c.ce i 0).toNat 0) (H pos (H c.ce i 0).toNat 0-1)==0)=NT (AY c pos i):=rfl;rw[X];cases v:NT<|AY c pos i
  ·rw[zAD,zAF f.2];refine⟨(o,t),rfl,λj=>?_,λj=>?_⟩
   ·grind[Sg]
   ·rw[m];constructor
    ·rintro⟨a,b,p,e,h⟩;exact⟨a,b,p,Z2,h⟩
    ·rintro⟨a,b,p,e,h⟩;rcases zIY.1 e with e|rfl
     ·exact⟨a,b,p,e,h⟩
     ·rw[h.2.1]at v;cases v
  ·rw[zAG,zAF f.2];refine⟨(bits .or .i64 o<|AY c pos i,bits .or .i64 t<|bits .and .i64 o<|AY c pos i),rfl,λj=>?_,λj=>?_⟩
   ·rw[Ke,zKu,g];constructor
    ·rintro(⟨a,V,h⟩|h)
     ·exact⟨a,Z2,h⟩
     ·exact⟨i,Z2,v,h⟩
    grind[Sg]
   ·rw[Ke,FG,zKu,zAx,g,m];constructor
    ·rintro(⟨a,b,p,e,h⟩|⟨⟨a,V,h⟩,w⟩)
     ·exact⟨a,b,p,Z2,h⟩
     grind[Sg]
    ·rintro⟨a,b,p,e,h,w⟩;rcases zIY.1 e with e|rfl
     ·exact .inl ⟨a,b,p,e,h,w⟩
     grind[Sg]
 simp_all[NK]
end
end
end Go.Proofs.YtnkpdcmbppkkpaaGreatDoor
namespace Go.Proofs
open Go.Shelf
def Tryz.lays189_ren:Go.Shelf.Ren:=⟨λ|189=>203|125=>205|257=>204|128=>215|129=>216|294=>206|295=>207|296=>208|297=>209|298=>210|299=>211|216=>212|300=>213|301=>214|328=>217|329=>218|330=>219|331=>220|332=>221|215=>222|343=>223|n=>n,λ|28=>22|3=>3|46=>70|0=>0|51=>209|53=>88|4=>4|183=>217|182=>216|131=>85|5=>5|9=>9|218=>221|222=>225|228=>227|229=>60|n=>n,λ|n=>n⟩
def Tryz.lays189:Go.Proofs.Lays.n189 Tryz.prog Tryz.lays189_ren:={
 mixed:=by kernel_rfl
 f125:=Tryz.func205.trans (congrArg some<|by kernel_rfl)
 f128:=Tryz.func215.trans (congrArg some<|by kernel_rfl)
 f129:=Tryz.func216.trans (congrArg some<|by kernel_rfl)
 f189:=Tryz.func203.trans (congrArg some<|by kernel_rfl)
 f215:=Tryz.func222.trans (congrArg some<|by kernel_rfl)
 f216:=Tryz.func212.trans (congrArg some<|by kernel_rfl)
 f257:=Tryz.func204.trans (congrArg some<|by kernel_rfl)
 f294:=Tryz.func206.trans (congrArg some<|by kernel_rfl)
 f295:=Tryz.func207.trans (congrArg some<|by kernel_rfl)
 f296:=Tryz.func208.trans (congrArg some<|by kernel_rfl)
 f297:=Tryz.func209.trans (congrArg some<|by kernel_rfl)
 f298:=Tryz.func210.trans (congrArg some<|by kernel_rfl)
 f299:=Tryz.func211.trans (congrArg some<|by kernel_rfl)
 f300:=Tryz.func213.trans (congrArg some<|by kernel_rfl)
 f301:=Tryz.func214.trans (congrArg some<|by kernel_rfl)
 f328:=Tryz.func217.trans (congrArg some<|by kernel_rfl)
 f329:=Tryz.func218.trans (congrArg some<|by kernel_rfl)
 f330:=Tryz.func219.trans (congrArg some<|by kernel_rfl)
 f331:=Tryz.func220.trans (congrArg some<|by kernel_rfl)
 f332:=Tryz.func221.trans (congrArg some<|by kernel_rfl)
 f343:=Tryz.func223.trans (congrArg some<|by kernel_rfl)
 t0:=Tryz.underlying0
 a0:=Tryz.isAgg0
 z0:=Tryz.sizeOf0
 v0:=Tryz.zeroValue0
 t3:=Tryz.underlying3
 a3:=Tryz.isAgg3
 z3:=Tryz.sizeOf3
 v3:=Tryz.zeroValue3
 t4:=Tryz.underlying4
 a4:=Tryz.isAgg4
 z4:=Tryz.sizeOf4
 v4:=Tryz.zeroValue4
 t5:=Tryz.underlying5
 a5:=Tryz.isAgg5
 z5:=Tryz.sizeOf5
 v5:=Tryz.zeroValue5
 t9:=Tryz.underlying9
 a9:=Tryz.isAgg9
 z9:=Tryz.sizeOf9
 v9:=Tryz.zeroValue9
 t28:=Tryz.underlying22
 a28:=Tryz.isAgg22
 z28:=Tryz.sizeOf22
 v28:=Tryz.zeroValue22
 t46:=Tryz.underlying70
 a46:=Tryz.isAgg70
 z46:=Tryz.sizeOf70
 v46:=Tryz.zeroValue70
 t51:=Tryz.underlying209
 a51:=Tryz.isAgg209
 z51:=Tryz.sizeOf209
 v51:=Tryz.zeroValue209
 t53:=Tryz.underlying88
 a53:=Tryz.isAgg88
 z53:=Tryz.sizeOf88
 v53:=Tryz.zeroValue88
 t131:=Tryz.underlying85
 a131:=Tryz.isAgg85
 z131:=Tryz.sizeOf85
 v131:=Tryz.zeroValue85
 t182:=Tryz.underlying216
 a182:=Tryz.isAgg216
 z182:=Tryz.sizeOf216
 v182:=Tryz.zeroValue216
 t183:=Tryz.underlying217
 a183:=Tryz.isAgg217
 z183:=Tryz.sizeOf217
 v183:=Tryz.zeroValue217
 t218:=Tryz.underlying221
 a218:=Tryz.isAgg221
 z218:=Tryz.sizeOf221
 v218:=Tryz.zeroValue221
 t222:=Tryz.underlying225
 a222:=Tryz.isAgg225
 z222:=Tryz.sizeOf225
 v222:=Tryz.zeroValue225
 t228:=Tryz.underlying227
 a228:=Tryz.isAgg227
 z228:=Tryz.sizeOf227
 v228:=Tryz.zeroValue227
 t229:=Tryz.underlying60
 a229:=Tryz.isAgg60
 z229:=Tryz.sizeOf60
 v229:=Tryz.zeroValue60 }
open Go.Sort Go.RowKit in
def Tryz.slices_Sort_int(blk off cap:Nat)(N:List Int)(w:World)(Y:Holds (Value.int .i64) w blk off N.toArray)(b:blk<w.heap.size)(m:N.length<4611686018427387904):
 Calls Tryz.prog 203 #[.slice (some ⟨blk,off,none⟩) N.length cap] w λe w'=>
  e=.returned (.tuple #[])/\∃n a,w'=grow (putRow (Value.int .i64) (Sort.ahead w n) blk off (N.mergeSort λx y=>decide (x<=y)).toArray) a:=Any.slices_Sort_int Tryz.lays189 blk off cap N w Y b m
end Go.Proofs
namespace Go.Proofs.YtnkpdcmbppkkpaaGreatDoor
open Go.RowKit
abbrev zRp:=@List.pairwise_cons
section
def Tk(a:U):Ξ->Ξ
 |[]=>[a]
 |b::l=>u (a<=b) (a::b::l)<|b::Tk a l
def I1:Ξ->Ξ
 |[]=>[]
 |a::l=>Tk a<|I1 l
def lj(a:U):∀l:Ξ,(Tk a l).Perm<|a::l
 |[]=>zRw _
 |b::l=>by
  unfold Tk;split
  ·exact zRw _
  ·exact((lj a l).cons b).trans<|List.Perm.swap a b l
theorem Zf:∀l:Ξ,(I1 l).Perm l
 |[]=>zRw _
 |a::l=>(lj a _).trans<|(Zf l).cons a
theorem wi(a:U):∀l:Ξ,l.Pairwise (· <= ·)->(Tk a l).Pairwise (· <= ·)
 |[],_=>List.pairwise_singleton _ _
 |b::l,h=>by
  have h':=zRp.1 h;unfold Tk;split
  ·rename_i p;refine zRp.2 ⟨λx hx=>?_,h⟩
   grind
  ·rename_i p;refine zRp.2 ⟨λx hx=>?_,wi a l h'.2⟩;rcases zLa.1 ((lj a l).mem_iff.1 hx)with rfl|hx
   ·omega
   ·exact h'.1 x hx
theorem rK:∀l:Ξ,(I1 l).Pairwise (· <= ·)
 |[]=>List.Pairwise.nil
 |a::l=>wi a _<|rK l
theorem zCK(l:Ξ):(l.mergeSort λx y=>decide (x<=y))=I1 l:=by
 grind[List.Perm.eq_of_pairwise,rK,List.mergeSort_perm,Zf,List.pairwise_mergeSort]
def U8(l:Ξ):F (I1 l)=F l:=(Zf l).length_eq
variable{b o:E}{w:κ}
theorem zNF{l l':Ξ}{cs:υ μ}{t:ψ}{z:E×E}(h:w.heap[b]?=Z (.cells cs t z))(hl:F l=F l')(n:E)(e:υ Obj):
 ∃V,(Sort.grow (Sort.putRow (Value.int .i64) (Sort.ahead w n) b o l'.toArray) e).heap[b]?=Z (.cells V t z)/\V.size=cs.size/\∀j,j<F l->o+j<cs.size->V[o+j]?=Z (.int .i64<|H l' j 0):=by
 have a:b<w.heap.size:=(zAy.1 h).1;refine⟨Sort.putCells (Value.int .i64) o l'.toArray cs,?_,by simp[Sort.putCells],λj hj hs=>?_⟩
 ·simp only[Sort.grow,Sort.putRow,Sort.mapBlock,Sort.ahead];rw[Array.getElem?_append_left (by simpa using a),zR2,zAF rfl,h];rfl
 simp_all[Sort.putCells]
theorem zBI(hb:b<w.heap.size)(Ϛ:υ U)(n:E)(e:υ Obj):AV (λk=>k=b) w<|Sort.grow (Sort.putRow (Value.int .i64) (Sort.ahead w n) b o Ϛ) e:=by
 refine⟨rfl,rfl,rfl,by simp[Sort.ahead],λk hk Ay=>?_⟩;simp only[Sort.grow,Sort.putRow,Sort.mapBlock,Sort.ahead]
 grind
theorem zCJ(l:Ξ){n:E}(I:n=F l)(i:F l<=Aw):ES L GG 203 [.msl 0 1 0 n] [Z<|.ints l] (.tup 0 λj=>([]:O DV).getD j .any) [Z<|.ints<|I1 l] T:=by
 subst I;refine⟨⟨_,Tryz.func203,Z6,rfl⟩,λN ρ w args R r=>?_⟩;obtain⟨p,k,f⟩:=R.obj 0 _ rfl;have f:Ai w p (F l) λj ϛ=>ϛ=.int .i64 (H l j 0):=f
 have h0:=r.2 0 Z3;obtain⟨p',cap,J,hv,Qs,Ty,Ob⟩:=h0;have X:p'=p:=zBH<|J.symm.trans k;subst X;have K:args.size=1:=by have:=r.1;simpa using this.symm
 have Q:args= #[.slice (Z ⟨p'.blk,p'.off,A⟩) (F l) cap]:=by
  apply Array.ext
  ·simp[K]
  simp_all
 have Y:Sort.Holds (Value.int .i64) w p'.blk p'.off l.toArray:=λj a=>by
  have a:j<F l:=by simpa using a
  obtain⟨ϛ,c1,c2⟩:=f.cell a;refine⟨Z4,f.frozen _⟩
 obtain⟨P,cs,t,s,S,W,_⟩:=f;have g:p'.blk<w.heap.size:=(zAy.1 s).1;subst Q;refine(Tryz.slices_Sort_int p'.blk p'.off cap l w Y g<|by unfold Aw at i;omega).mono ?_;rintro e w' ⟨rfl,m,q,rfl⟩;rw[zCK];obtain⟨V,x,y,k3⟩:=zNF (o:=p'.off) s (U8 l).symm m q;have G:AV p'.foot w<|Sort.grow (Sort.putRow (Value.int .i64) (Sort.ahead w m) p'.blk p'.off (I1 l).toArray) q:=by grind[zBI]
 show∃v,Ending.returned (.tuple #[])=Ending.returned v/\Cj L GG N _ ρ w T _ _ v (Sort.grow (Sort.putRow (Value.int .i64) (Sort.ahead w m) p'.blk p'.off (I1 l).toArray) q)
 refine⟨_,rfl,⟨⟨ρ,R.write (o':=.ints<|I1 l) rfl k G (λb g=>?_) ?_,⟨#[],rfl,rfl,λj a=>τ a<|zBT j⟩,BD.write rfl k G,λ_ _ h=>h⟩,λh=>by cases h⟩⟩
 ·rw[P]at g;exact .cells (c:=V) (t:=t) (z:=(0,0)) (by rw[show b=p'.blk from g];exact x)
 ·refine⟨P,V,t,x,by rw[y,U8];exact S,by rw[y];exact W,λj a=>?_⟩;rw[U8]at a;exact⟨_,k3 j a Z2,rfl⟩
end
section
set_option maxRecDepth 100000
set_option maxHeartbeats 40000000
inductive M5 where
 |s0
 |s1 (Fh:E) (EC:Ξ)
def zAe:M5->DH
 | .s0=>[A,oC [.nils]]
 | .s1 h K=>[A,oC [.msl 2 1 0 h],oI K]
def g8(n:E)(o:U):M M5:=u ((0=0/\1=F ([o]:Ξ))/\0<F ([o]:Ξ)/\F ([o]:Ξ)<=Aw) (Z<|.s1 (F ([o]:Ξ)) ([o]:Ξ)) A
def gy(n:E)(o:U)(h:E)(K:Ξ):M M5:=u ((0=0/\1=F ([o]:Ξ))/\(0=0/\h=F K)/\F K+F ([o]:Ξ)<=Aw) (Z<|.s1 (F K+F ([o]:Ξ))<|K++([o]:Ξ)) A
def pE(n:E)(o:U):M5->M M5
 | .s0=>g8 n o
 | .s1 h K=>gy n o h K
def M6(n:E)(o:U)(s:M5):M M5:=pE n o s
def zQr(n:E)(l Ϝ:E)(N:Yd 2)(o:U)(s:M5)(r:M5)(h:M6 n o s=Z r):TA l Ϝ N (Cw 2 [] 0<|zAe r) Tryz.f182 6 ⟨AI 13 [(2,.ref 1 0),(6,.it 0),(7,.i o)],zAe s⟩:=by
 cases s with
 |s0=>
  replace h:g8 n o=Z r:=h;unfold g8 at h;refine ag AC [0,1] H0 (AI 13 [(2,.ref 1 0),(5,.i o)]) [A,oC [.nils]] λN=>?_
  revert r;apply gO;exact gi<|jt<|lF λp=>rr AC [0,1,3] rfl p
 |s1 a K=>
  replace h:gy n o a K=Z r:=h;unfold gy at h;refine ag AC [0,1,2] H0 (AI 13 [(2,.ref 1 0),(5,.i o)]) [A,oC [.msl 2 1 0 a],oI K] λN=>?_
  revert r;apply gO;exact gi<|jt<|lF λp=>rr AC [0,1,4] rfl p
def pD(n:E)(l:Ξ):W6:=
 (Bs (M6 n) l<|.s0).bind λe=>
  match e with
  | .s0=>
   A
  | .s1 I v=>
   if I=F v then
    Z v
   else A
def Yn(n:E)(l:Ξ):W6:=pD n l
variable{r l:Ξ}{n:E}
def zQq(h:Yn n l=Z r):EQ 182 [.nils,.it 0] [Z<|.iter<|(l).map BY] (.msl 1 1 0<|F r) [A,oI r] T:=by
 unfold Yn pD at h;refine ot Tryz.func182 λϜ N=>?_
 revert r;apply gO
 exact cn λe f=>λp r h=>by
  refine gs AC [0,1] p (Gn (Af Tryz.f182) 6 []) (AI 13 [(2,.ref 1 0),(6,.it 0)]) [Z<|.iter<|(l).map BY,oC [.nils]] ?_;refine r0 0 6 #[7] BY 2 f (zQr n) ?_;cases e with
  |s0=>
   dsimp only at h
   revert r;apply gO;exact nO
  |s1 I PN=>
   dsimp only at h
   revert r;apply gO;exact gn λj=>lF λp=>el AC [4] [0,2] p [] H0 [.msl 1 1 0 I]<|AO.mslN j
def oL(n:E)(l:Ξ):W6:=(Yn n l).bind λe=>Z e
def gI(n:E)(l:Ξ):W6:=oL n l
def zP1(h:gI n l=Z r):EQ 152 [.it 0] [Z<|.iter<|(l).map BY] (.msl 1 1 0<|F r) [A,oI r] T:=by
 unfold gI oL at h;refine ot Tryz.func152 λϜ N=>?_
 revert r;apply gO;exact ce zQq [0] [Z<|.iter<|(l).map BY] λe=>lF λp=>el AC [2] [0,1] p [] H0 [.msl 1 1 0<|F e]<|AO.mslN rfl
def i7(n:E)(l:Ξ):W6:=(gI n l).bind λe=>u (F e<=Aw) (u (F e=F (I1 e)) (Z<|I1 e) A) A
def SP(n:E)(l:Ξ):W6:=i7 n l
def zCH(h:SP n l=Z r):EQ 201 [.it 0] [Z<|.iter<|(l).map BY] (.msl 1 1 0<|F r) [A,oI r] T:=by
 unfold SP i7 at h;refine ot Tryz.func201 λϜ N=>?_
 revert r;apply gO;exact ce zP1 [0] [Z<|.iter<|(l).map BY] λe=>gn λj=>jc (em (zCJ e (n:=F e) (φ<|F e) j) [1] [A,oI e])<|gn λs=>lF λp=>el AC [2] [0,1] p [] H0 [.msl 1 1 0<|F e]<|AO.mslN s
def zp(n:E)(I:O Ξ)(N:Ω)(start:U):X8:=(LV n I ([N]:O Ω)).bind λe=>B (e != 0) (Z (([]:Ξ),e))<|B (C<|start<0) (Z (([]:Ξ),1))<|B (C<|start>=(F I:U)) (Z (([]:Ξ),1))<|u (0<=start/\start<(F N:U)) (B (!(H N start.toNat T)) (Z (([]:Ξ),1))<|(Ib n I start N).bind λr=>(SP n r).bind λy3=>Z (y3,0)) A
def UZ(n:E)(I:O Ξ)(N:Ω)(start:U):X8:=zp n I N start
variable{a:Ω}{I:O Ξ}
def zPz{start:U}{r:Ξ×U}(h:UZ n I a start=Z r):EQ 194 [.sl 1 (F I)<|AM AS I,.bools a,.i start] [] (.tup 2<|L1 [.ints r.1,.i r.2]) [] D:=by
 refine ot Tryz.func194 λϜ N=>?_
 revert r;apply gO;exact ja 10 0 1 (E4 (c:=Uc) (ϙ:=([a]:O Ω)) (vals:=[.bools a]) rfl ⟨⟨_,rfl,⟨Ab,trivial⟩⟩,trivial⟩)<|jz 10 0<|jg (φ 1)<|cf eV [A] λe=>bi 13 (lF λp=>el AC [6,7] [] p [] H0 [.nils,.i e]<|AO.tupL (l:=[.nils,.i e]) (l':=[.ints ([]:Ξ),.i e]) rfl ⟨AO.ints_nil,Ab,trivial⟩)<|bi 16 (lF λp=>el AC [6,7] [] p [] H0 [.nils,.i 1]<|AO.tupL (l:=[.nils,.i 1]) (l':=[.ints ([]:Ξ),.i 1]) rfl ⟨AO.ints_nil,Ab,trivial⟩)<|bi 21 (lF λp=>el AC [6,7] [] p [] H0 [.nils,.i 1]<|AO.tupL (l:=[.nils,.i 1]) (l':=[.ints ([]:Ξ),.i 1]) rfl ⟨AO.ints_nil,Ab,trivial⟩)<|gi<|bi 28 (lF λp=>el AC [6,7] [] p [] H0 [.nils,.i 1]<|AO.tupL (l:=[.nils,.i 1]) (l':=[.ints ([]:Ξ),.i 1]) rfl ⟨AO.ints_nil,Ab,trivial⟩)<|cn λb K=>jc (jr K [A])<|ce zCH [1] [A,Z<|.iter<|(b).map BY] λy3=>lF λp=>ez AC [6,7] [2] p [0]<|H0.g<|φ<|F y3
def qd:ST:=.rd 0<|.rd 1<|.ef 2 (.ef 3 (.fin [] [4,5])<|.no)<|.no
def zDy:B3 (Ah Tryz.f197 11) [2] qd:=Z1
def NU:BG:=λi=>match i with
 |11=>.tre [2] qd
 |_=>.no
def zML(I:O Ξ)(P:U)(e o1:Ξ):DH:=[oC [.msl 3 1 0<|F I],oC [.i<|P+1],Z<|.iter<|(e).map BY,oI o1]
def qG(I:O Ξ)(o1:Ξ)(P:U):St:=⟨AI 42 [(4,.ref 0 0),(5,.ref 2 0)],([oC [.msl 1 1 0<|F I],oI o1,oC [.i P]]:DH)⟩
inductive N9 where
 |s0 (K3:Ξ)
def uv(I:O Ξ)(AH:Ω)(x13 P:U):N9->DH
 | .s0 Y=>[oC [.msl 3 1 0<|F I],oC [.i<|P+1],A,oI Y]
def bs(n:E)(I:O Ξ)(AH:Ω)(x13 P X:U)(Y:Ξ):M N9:=u ((0<=X/\X<(F I:U))/\0+X.toNat<F Y) (Z<|.s0<|Y.set (0+X.toNat)<|P+1) A
def uu(n:E)(I:O Ξ)(N:Ω)(x13 P X:U):N9->M N9
 | .s0 Y=>bs n I N x13 P X Y
def WP(n:E)(I:O Ξ)(N:Ω)(x13 P X:U)(s:N9):M N9:=uu n I N x13 P X s
def zH8(n:E)(I:O Ξ)(a:Ω)(x13 P:U)(l Ϝ:E)(N:Yd 3)(X:U)(s:N9)(r:N9)(h:WP n I a x13 P X s=Z r):TA l Ϝ N (Cw 3 [] 0<|uv I a x13 P r) Tryz.f197 33 ⟨AI 42 [(0,.sl 1 (F I)<|AM AS I),(1,.bools a),(4,.ref 0 0),(5,.ref 1 0),(12,.i (F I:U)),(13,.i x13),(33,.it 2),(34,.i X)],uv I a x13 P s⟩:=by
 cases s with
 |s0 Y=>
  replace h:bs n I a x13 P X Y=Z r:=h;unfold bs at h;refine ag NU [0,1,2,3] H0 (AI 42 [(4,.ref 0 0),(5,.ref 1 0),(7,.i X)]) [oC [.msl 3 1 0<|F I],oC [.i<|P+1],A,oI Y] λN=>?_
  revert r;apply gO;exact gc<|gi<|gi<|lF λp=>rr NU [0,1,2,3] rfl p
inductive bu where
 |l1 (x13:U) (o1:Ξ) (B0:U)
def WO(n:E)(self:bu->X8)(I:O Ξ)(N:Ω)(x13:U)(o1:Ξ)(P:U):X8:=
 bif(C<|x13<(F I:U))then
  if 0<=x13/\x13<(F N:U)then
   bif(!(H N x13.toNat T))then
    if AG (x13+1)then
     self (.l1 (x13+1) o1 P)
    else A
   else
    if(0<=x13/\x13<(F I:U))/\0+x13.toNat<F o1 then
     bif(C<|H o1 (0+x13.toNat) 0>0)then
      if AG (x13+1)then
       self (.l1 (x13+1) o1 P)
      else A
     else
      if AG (P+1)then
       (Ib n I x13 N).bind λe=>
        (Bs (WP n I N x13 P) e<|.s0 o1).bind λr=>
         match r with
         | .s0 b=>
          if AG (x13+1)then
           self (.l1 (x13+1) b<|P+1)
          else A
      else A
    else A
  else A
 else
  if F I=F o1 then
   Z (o1,P)
  else A
def ut(n:E)(self:bu->X8)(I:O Ξ)(AH:Ω):X8:=u (((F I:U):U)=(F I:U)/\0<=(F I:U)/\((F I:U):U)<=1000000000000) (self<|.l1 0 (d (F I) (0:U)) 0) A
def TM(I:O Ξ)(N:Ω):E->bu->X8
 |0,_=>A
 |n+1,.l1 x13 o1 P=>WO n (TM I N n) I N x13 o1 P
def parts(n:E)(I:O Ξ)(N:Ω):X8:=ut n (TM I N n) I N
def zH9(n Ϝ:E)(N:Yd 0)(I:O Ξ)(a:Ω)(r:Ξ×U):bu->Prop:=px n Ϝ η N (FQ Tryz.f197 0 (.tup 2<|L1 [.ints r.1,.i r.2]) []) (Af Tryz.f197) λ
 | .l1 x13 o1 P=>(0,0,AI 42 [(0,.sl 1 (F I)<|AM AS I),(1,.bools a),(4,.ref 0 0),(5,.ref 2 0),(12,.i (F I:U)),(13,.i x13)],[oC [.msl 1 1 0<|F I],oI o1,oC [.i P]])
def zIA(Ϝ:E)(N:Yd 0)(I:O Ξ)(a:Ω):Al (TM I a) (zH9 · Ϝ N I a):=ia (λ_=>rfl) λn G s r h=>by
 cases s
 case l1 x13 o1 B0=>
  intro o j;refine rd j λo j=>?_
  revert r;apply gO
  exact bi 14 (gi (bi 20 (gw 39 (lG NU [0,1,2] (G _ _ · o j))) (gc (gi (gi (bi 26 (gw 39 (lG NU [0,1,2] (G _ _ · o j))) (gw 29 (jt (cn λe f=>jc (jr f [oC [.msl 1 1 0<|F I],oI o1,oC [.i<|B0+1]]) (cn λb K=>λp r h=>by
   refine gs NU [0,2,3,1] p (Gn (Af Tryz.f197) 33 [o]) (AI 42 [(0,.sl 1 (F I)<|AM AS I),(1,.bools a),(4,.ref 0 0),(5,.ref 1 0),(12,.i (F I:U)),(13,.i x13),(33,.it 2)]) (zML I B0 e o1) ?_;refine r0 2 33 #[34] BY 3 K (zH8 n I a x13 B0) ?_;cases b with
   |s0 Ew=>
    dsimp only at h
    revert r;apply gO;exact gw 39 (lG NU [0,3,1] (G _ _ · o j))))))))))))<|jg zDy<|jt<|jt<|jg (φ<|qG I o1 B0)<|gn λc=>lF λp=>ez (tg:=[([(2,0)],qG I o1 B0)]) NU [4,5] [0,1,2] p [1]<|H0.g c
def kY{r:Ξ×U}(h:parts n I a=Z r):EQ 197 [.sl 1 (F I)<|AM AS I,.bools a] [] (.tup 2<|L1 [.ints r.1,.i r.2]) [] D:=by
 refine ot Tryz.func197 λϜ N=>?_
 revert r;apply gO;exact gi (jt (lN NU [0,2,1] ((zIA Ϝ N I a n) _ _ · n χ)))
end
section
set_option maxRecDepth 100000
set_option maxHeartbeats 40000000
def iS(n:E)(i:U)(inn:Ω):W8:=(RG n inn).bind λe=>u ((0<=i/\i<(F e:U))/\0+i.toNat<F e) (u (F e=F (e.set (0+i.toNat) T)) (Z<|e.set (0+i.toNat) T) A) A
def Ut(n:E)(i:U)(inn:Ω):W8:=iS n i inn
variable{n:E}
def zA8{a:U}{inn:Ω}{r:Ω}(h:Ut n a inn=Z r):EQ 196 [.i a,.fp 1<|L1 [.bools inn]] [] (.msl 0 1 0<|F r) [Z<|.bools r] D:=by
 unfold Ut iS at h;refine ot Tryz.func196 λϜ N=>?_
 revert r;apply gO;exact cn λe f=>jc (ES.snapNew (ds:=[.bools inn]) (zt f) [] (pJ Z5) rfl)<|gc<|gi<|gi<|gn λy=>lF λp=>el AC [3] [0] p [] H0 [.msl 0 1 0<|F e]<|AO.mslN y
def zDL:Ac (Ah Tryz.f180 16) [] (θ 7) []:=Z0
def IV:BG:=λi=>match i with
 |16=>.ord [] (θ 7) []
 |_=>.no
def xD(N n:Ω)(at_:U):DH:=[oC [.bools N],oC [.bools n],oC [.i at_],oC [.bool T],A]
def zLk(N n:Ω)(at_:U):DH:=[oC [.bools N],oC [.bools n],oC [.i at_],oC [.bool T],A,A]
def zLj(N n:Ω)(at_:U)(y3:Ξ×U):DH:=[oC [.bools N],oC [.bools n],oC [.i at_],oC [.bool T],A,A,oC [.ints y3.1],oC [.i 0]]
def zLi(n:Ω)(at_:U)(y3:Ξ×U)(Q:Ξ):DH:=[oC [.bools n],oC [.i at_],oC [.bool T],oC [.ints y3.1],oC [.i 0],Z<|.iter<|(Q).map BY]
def zLh(n:Ω)(at_:U)(x:ζ)(y3:Ξ×U)(t:U):DH:=[oC [.bools n],oC [.i at_],oC [.bool x],oC [.ints y3.1],oC [.i t],A]
inductive NM where
 |s0 (Ic:ζ) (HU:U)
def rB(n:Ω)(at_:U)(y3:Ξ×U):NM->DH
 | .s0 x t=>[oC [.bools n],oC [.i at_],oC [.bool x],oC [.ints y3.1],oC [.i t],A]
def U6(n:E)(a:Ω)(at_:U)(y3:Ξ×U)(p:U)(x:ζ)(t:U):M<|NM×E:=B (p==at_) (Z (.s0 x t,0))<|u (0<=p/\p<(F a:U)) (B (!(H a p.toNat T)) (Z (.s0 x t,0))<|B (t==0) (u (0<=p/\p<(F y3.1:U)) (Z (.s0 x<|H y3.1 p.toNat 0,0)) A)<|u (0<=p/\p<(F y3.1:U)) (B (H y3.1 p.toNat 0 != t) (Z (.s0 D t,1))<|Z (.s0 x t,0)) A) A
def zB7(n:E)(a:Ω)(at_:U)(y3:Ξ×U)(p:U):NM->M (NM×E)
 | .s0 x t=>U6 n a at_ y3 p x t
def I0(n:E)(a:Ω)(at_:U)(y3:Ξ×U)(p:U)(s:NM):M<|NM×E:=zB7 n a at_ y3 p s
def zB6(n:E)(a:Ω)(at_:U)(y3:Ξ×U)(l Ϝ:E)(N:Yd 6)(b:U)(s:NM)(r:NM×E)(h:I0 n a at_ y3 b s=Z r):TA l Ϝ N (Cw 6 [.exit 0] r.2<|rB a at_ y3 r.1) Tryz.f180 48 ⟨AI 76 [(6,.ref 0 0),(7,.ref 1 0),(8,.ref 2 0),(11,.ref 3 0),(13,.ref 4 0),(48,.it 5),(49,.i b)],rB a at_ y3 s⟩:=by
 cases s with
 |s0 x t=>
  refine ag IV [0,1,2,3,4,5] H0 (AI 76 [(6,.ref 0 0),(7,.ref 1 0),(8,.ref 2 0),(11,.ref 3 0),(13,.ref 4 0),(14,.i b)]) (zLh a at_ x y3 t) λN=>?_
  revert r;apply gO;exact bi 53 (lF λp=>rr IV [0,1,2,3,4,5] rfl p)<|gi<|bi 59 (lF λp=>rr IV [0,1,2,3,4,5] rfl p)<|bi 63 (gi<|jt<|lF λp=>rr IV [0,1,2,3,4,5] rfl p)<|jg zDL<|gi<|bi 74 (jt<|lF λp=>rr IV [0,1,2,3,4,5] rfl p)<|lF λp=>rr IV [0,1,2,3,4,5] rfl p
def rA(n:E)(I:O Ξ)(N a:Ω)(at_:U):X4:=
 (LV n I ([N,a]:O Ω)).bind λe=>
  bif(e != 0)then
   Z (T,e)
  else
   bif(C<|at_<0)then
    Z (T,1)
   else
    bif(C<|at_>=(F I:U))then
     Z (T,1)
    else
     if 0<=at_/\at_<(F N:U)then
      bif(!(H N at_.toNat T))then
       Z (T,0)
      else
       (Ut n at_ N).bind λr=>
        (parts n I r).bind λy3=>
         (Ib n I at_ N).bind λQ=>
          (DY (I0 n a at_ y3) Q<|.s0 T 0).bind λJ=>
           bif J.2==0 then
            match J.1 with
            | .s0 z c=>
             Z (z,0)
           else
            bif J.2==1 then
             match J.1 with
             | .s0 z c=>
              Z (z,0)
            else
             A
     else A
def SN(n:E)(I:O Ξ)(N a:Ω)(at_:U):X4:=rA n I N a at_
def zB4{g:O Ξ}{a b:Ω}{at_:U}{r:ζ×U}(h:SN n g a b at_=Z r):EQ 180 [.sl 1 (F g)<|AM AS g,.bools a,.bools b,.i at_] [] (.tup 2<|L1 [.bool r.1,.i r.2]) [] D:=by
 refine ot Tryz.func180 λϜ N=>?_
 revert r;apply gO
 exact ja 18 4 1 (E4 (c:=Uc) (ϙ:=([a,b]:O Ω)) (vals:=[.bools a,.bools b]) rfl ⟨⟨_,rfl,⟨Ab,trivial⟩⟩,⟨_,rfl,⟨Ab,trivial⟩⟩,trivial⟩) (jz 18 4 (jg (φ 2) (cf eV (xD a b at_) λ_=>bi 21 (jt<|lE IV [8,9] [3]) (bi 24 (jt<|lE IV [8,9] [3]) (bi 29 (jt<|lE IV [8,9] [3]) (gi (bi 35 (jt<|lE IV [8,9] [3]) (cn λj K=>jc (ES.snapNew (ds:=[.i at_,.ref 0 0]) (zA8 K) (xD a b at_) ⟨Am.plain Z5,Am.refL (l:=[.bools a]) (l0:=[.bools a]) rfl ⟨Am.plain Z5,trivial⟩,trivial⟩ rfl) (jz 41 5 (jg (φ<|F j) (cf kY (zLk a b at_) λy3=>jt (jt (cn λQ k=>jc (jr k<|zLj a b at_ y3) (cn λJ G=>λp r h=>by
  refine gs IV [1,2,3,6,7,8] p (Gn (Af Tryz.f180) 48 []) (AI 76 [(6,.ref 0 0),(7,.ref 1 0),(8,.ref 2 0),(11,.ref 3 0),(13,.ref 4 0),(48,.it 5)]) (zLi b at_ y3 Q) ?_;refine rx [.exit 0] 5 48 #[49] BY 6 G (zB6 n b at_ y3) λe f=>?_
  replace h:=B7 h;rcases h with⟨I,h⟩|⟨I,h⟩
  ·rw[zMo I]at f;cases f;revert h;cases J.1 with
   |s0 z m=>
    intro h
    dsimp only at h
    revert r;apply gO;exact jt<|lE IV [8,9] [2]
  ·replace h:=B7 h;rcases h with⟨I,h⟩|⟨I,h⟩
   ·rw[zMo I]at f;cases f;refine Dp.exitTo Z5 ?_;revert h;cases J.1 with
    |s0 z m=>
     intro h
     dsimp only at h
     revert r;apply gO;exact jt<|lE IV [8,9] [2]
   ·cases h))))))))))))))
end
abbrev zNL:=@List.append_nil
abbrev zRX:=@List.getElem?_set_ne
theorem Ag.bindU{R ϑ:Type}{a:E->M ϑ}{b:E->ϑ->M R}{ο:ϑ->Prop}{Q:R->Prop}(c:Ag a ο)(e:∃ϕ,∀n,ϕ<=n->∀x,ο x->∃r,b n x=Z r/\Q r):Ag (λn=>(a n).bind<|b n) Q:=by
 obtain⟨N,c⟩:=c;obtain⟨ϕ,e⟩:=e;refine⟨max N ϕ,λn hn=>?_⟩;obtain⟨x,h1,f⟩:=c n Z2;obtain⟨r,h3,h4⟩:=e n Z2 x f
 grind
structure Fw(g:O Ξ):Prop where
 ok:KD g=D
 row:∀r∈g,F r<=LB
def Fw.gr{g:O Ξ}(h:Fw g):Gr g:=Gr.of h.ok h.row
section
variable{g:O Ξ}{inn some':Ω}{s:U}
variable{sets:O Ω}
theorem yS(p:∀x∈sets,F x=F g)(q:F sets<=256):∀(k i n:E),i+k=F sets->k+1<=n->UA g sets n (.l1 (i:U))=Z 0
 |0,i,n,e,a=>by
  obtain⟨n,rfl⟩:∃k,n=k+1:=⟨n-1,Z2⟩
  simp_all[eW,UA]
 |k+1,i,n,e,a=>by
  obtain⟨n,rfl⟩:∃k,n=k+1:=⟨n-1,Z2⟩;have P:H sets i []∈sets:=Z4
  have X:((F<|H sets i []:U) != (F g:U))=T:=by rw[p _ P];simp
  have:=yS p q k (i+1) n Z2 Z2
  show eW n (UA g sets n) g sets i=_
  unfold eW;rw[zAB Z2,zAG,zAF ⟨Z2,Z2⟩,u8,X,zAD,zAF<|AZ.2 ⟨Z2,Z2⟩];exact this
def eX(G:Fw g)(p:∀x∈sets,F x=F g)(q:F sets<=256):Ev (λn=>LV n g sets) 0:=by
 refine⟨2*FX g+1+F sets+1,λn hn=>?_⟩
 show LV n g sets=Z 0
 unfold LV yU;rw[ya G.row Z2,G.ok];exact yS p q (F sets) 0 n Z2 Z2
variable{n:E}
theorem zAh :∀(l x:Ξ),F (x++l)<=Aw->Bs (M6 n) l (.s1 (F x) x)=Z (.s1 (F<|x++l)<|x++l)
 |[],x,h=>by rw[zNL];rfl
 |a::l,x,h=>by
  have e:x++a::l=x++[a]++l:=Z3
  rw[e]at h⊢
  have R:M6 n a (.s1 (F x) x)=Z (.s1 (F<|x++[a])<|x++[a]):=by
   grind[M6,pE,gy]
  show(M6 n a<|.s1 (F x) x).bind (Bs (M6 n) l)=_
  rw[R,zAC];exact zAh l (x++[a]) h
variable{l:Ξ}
theorem zCI(h0:l≠[])(hl:F l<=256):SP n l=Z (I1 l):=by
 have ϙ:(1000000000000:E)=Aw:=rfl;cases l with
 |nil=>exact τ rfl h0
 |cons a l=>
  have e1:M6 n a .s0=Z (.s1 [a].length [a]):=by
   grind[M6,pE,g8]
  have e2:=zAh (n:=n) l [a] Z4
  have e:Yn n (a::l)=Z (a::l):=by
   simp_all[Yn,pD,Bs]
  unfold SP i7 gI oL;rw[e,zAC,zAC,zAF Z2,zAF (U8 _).symm]
def zGE(h:∀v,v∈l↔Rc g inn s v):l≠[]:=λe=>by
 have:=(h s).2 .start;rw[e]at this;cases this
def zGF(G:Gr g)(h0:0<=s)(a:s<(F g:U))(n:l.Nodup)(h:∀v,v∈l↔Rc g inn s v):F l<=256:=
 zIX (cV (F g) l n λx i=>((h x).1 i).rng G h0 a) G.len
theorem zP0(G:Fw g)(m:F inn=F g)(h0:0<=s)(a:s<(F g:U))(hs:H inn s.toNat T=D):
 Ag (λn=>UZ n g inn s) (λr=>r.2=0/\F r.1<=256/\∀v,v∈r.1↔Rc g inn s v):=by
 have e:∀n,UZ n g inn s=(LV n g [inn]).bind λb=>B (b != 0) (Z (([]:Ξ),b))<|(Ib n g s inn).bind λf=>(SP n f).bind λy3=>Z (y3,0):=λn=>by
  grind[UZ,zp]
 refine Ag.eq ?_ e;refine Ag.bind (eX G (λx hx=>Z4) Z3) ?_;refine Ag.bindU (jp G.gr m h0 a) ⟨0,λn _ l q=>?_⟩;have c:=zGF G.gr h0 a q.1 q.2;rw[zCI (zGE q.2) c,zAC];exact⟨_,rfl,rfl,by rw[U8];exact c,λv=>by grind[Zf]⟩
structure Pt(g:O Ξ)(inn:Ω)(i:E)(part:Ξ)(CG:U):Prop where
 len:F part=F g
 m0:0<=CG
 m1:CG<=(i:U)
 lo:∀v,v<F g->0<=H part v 0/\H part v 0<=CG
 isIn:∀v,v<F g->0<H part v 0->H inn v T=D
 same:∀ϛ v:E,ϛ<F g->v<F g->0<H part ϛ 0->Rc g inn ϛ v->H part v 0=H part ϛ 0
 con:∀ϛ v:E,ϛ<F g->v<F g->0<H part ϛ 0->H part v 0=H part ϛ 0->Rc g inn ϛ v
 all:∀v,v<i->v<F g->H inn v T=D->0<H part v 0
 sur:∀m,0<m->m<=CG->∃v,v<F g/\H part v 0=m
theorem uw{n:E}{x13 m:U}:∀(l:Ξ) (part:Ξ),F part=F g->(∀v∈l,0<=v/\v<(F g:U))->
 ∃Id,Bs (WP n g inn x13 m) l (.s0 part)=Z (.s0 Id)/\F Id=F g/\∀v:E,H Id v 0=u ((v:U)∈l/\v<F g) (m+1) (H part v 0)
 |[],part,w,_=>⟨part,rfl,w,λv=>Z3⟩
 |a::l,part,w,q=>by
  have ha:=q a zMw
  have e1:WP n g inn x13 m a (.s0 part)=Z (.s0<|part.set a.toNat<|m+1):=by
   simp_all[WP,uu,bs]
  obtain⟨Id,h1,c,b⟩:=uw (n:=n) (x13:=x13) (m:=m) l (part.set a.toNat<|m+1) Z4 λv t=>q v<|zLL _ t
  refine⟨Id,?_,c,λv=>?_⟩
  ·grind[Bs]
  ·rw[b]
   grind
theorem Pt.go(G:Gr g){i:E}{part Id:Ξ}{j:U}(h:Pt g inn i part j)(hi:i<F g)(n:H inn i T=D)(h0:¬H part i 0>0)(hl:∀v,v∈l↔Rc g inn i v)(r:F Id=F g)
 (hp:∀v:E,H Id v 0=u ((v:U)∈l/\v<F g) (j+1) (H part v 0)):Pt g inn (i+1) Id<|j+1:=by
 have m0:=h.m0;have m1:=h.m1;have J:∀v:E,v<F g->Rc g inn i v->H Id v 0=j+1:=λv t k=>Z4
 have no:∀v:E,¬Rc g inn i v->H Id v 0=H part v 0:=λv k=>Z4
 have sym:∀ϛ v:E,ϛ<F g->H inn ϛ T=D->Rc g inn ϛ v->Rc g inn v ϛ:=λϛ v x hui k=>k.symm G Z2 Z2 (by simp_all)
 refine⟨r,Z2,Z2,λv t=>?_,λv t b=>?_,λϛ v x t b k=>?_,λϛ v x t b f=>?_,λv t Fn o=>?_,λm a c=>?_⟩
 ·have:=h.lo v t
  grind
 ·by_cases k:Rc g inn i v
  ·have:=k.isIn (by simp_all)
   simp_all
  ·rw[no v k]at b;exact h.isIn v t b
 ·by_cases a:Rc g inn i ϛ
  ·rw[J ϛ x a,J v t<|a.trans k]
  ·rw[no ϛ a]at b⊢;have c:¬Rc g inn i v:=λc=>a<|c.trans<|sym ϛ v x (h.isIn ϛ x b) k
   rw[no v c];exact h.same ϛ v x t b k
 ·have p:=(h.lo v t).2
  by_cases a:Rc g inn i ϛ
  ·rw[J ϛ x a]at f
   by_cases c:Rc g inn i v
   ·exact(sym i ϛ hi n a).trans c
   ·rw[no v c]at f;omega
  ·rw[no ϛ a]at b f;have p:=(h.lo ϛ x).2
   by_cases c:Rc g inn i v
   ·rw[J v t c]at f;omega
   ·rw[no v c]at f;exact h.con ϛ v x t b f
 ·rcases zIY.1 t with t|rfl
  ·have:=h.all v t Fn o
   grind
  ·rw[J v Fn .start];omega
 ·by_cases e:m=j+1
  ·exact⟨i,hi,by rw[J i hi .start,e]⟩
  ·obtain⟨v,t,q⟩:=h.sur m a Z2;refine⟨v,t,?_⟩;rw[no v λk=>h0 ?_,q];have:=h.same v i t hi Z2<|sym i v hi n k;omega
def PtP(g:O Ξ)(inn:Ω)(r:Ξ×U):Prop:=F r.1=F g/\(∀v,v<F g->H inn v T=D->0<H r.1 v 0)/\∀ϛ v:E,ϛ<F g->v<F g->H inn ϛ T=D->(H r.1 v 0=H r.1 ϛ 0↔Rc g inn ϛ v)
theorem kX(G:Gr g)(j:F inn=F g):Ag (λn=>parts n g inn) λr=>Pt g inn (F g) r.1 r.2:=by
 have hG:=G.len;obtain⟨N,k⟩:=Ag.range (ϖ:=λ(i:E) n=>Ib n g i inn) (ο:=λi l=>l.Nodup/\∀v,v∈l↔Rc g inn i v) (F g) λi hi=>jp G j Z2 Z2
 refine⟨N+F g+1,λn hn=>?_⟩;have S:=Ih (λn (s:Ξ×U) i=>TM g inn n<|.l1 i s.1 s.2) (F g) (N+1) (λi s=>Pt g inn i s.1 s.2) (λn i s G9 hi t=>?_) (n:=n) (s:=(d (F g) 0,0)) Z2 ?_
 ·obtain⟨e,⟨part,x⟩,Hg,_,R,t⟩:=S;obtain⟨b,rfl⟩:∃b,e=b+1:=⟨e-1,Z2⟩;refine⟨(part,x),?_,t⟩
  show parts n g inn=Z (part,x)
  unfold parts ut;rw[zAF ⟨rfl,Z2,Z2⟩];refine Eq.trans R ?_
  show WO b (TM g inn b) g inn (F g:U) part x=_
  unfold WO;rw[zAE Z2,zAD,zAF t.len.symm]
 ·obtain⟨part,x⟩:=s;have t:Pt g inn i part x:=t;have c:AG<|(i:U)+1:=AZ.2 ⟨Z2,Z2⟩
  show∃s',WO n (TM g inn n) g inn (i:U) part x=_/\_
  unfold WO;simp only[u8,zKx];rw[zAB Z2,zAG,zAF ⟨Z2,Z2⟩];cases f:H inn i T
  ·rw[zMj,zAG,zAF c];have w:=t.m1;refine⟨(part,x),rfl,t.len,t.m0,Z4,t.lo,t.isIn,t.same,t.con,λv a Fn o=>?_,t.sur⟩;rcases zIY.1 a with a|rfl
   ·exact t.all v a Fn o
   ·rw[f]at o;cases o
  ·have Ap:=t.len;rw[zLW,zAD,zAF ⟨⟨Z2,Z2⟩,Z2⟩]
   by_cases h0:H part i 0>0
   ·rw[zAB h0,zAG,zAF c];have w:=t.m1;refine⟨(part,x),rfl,t.len,t.m0,Z4,t.lo,t.isIn,t.same,t.con,λv a Fn o=>?_,t.sur⟩;rcases zIY.1 a with a|rfl
    ·exact t.all v a Fn o
    ·exact h0
   ·obtain⟨l,X,A5,q⟩:=k n Z2 i hi;obtain⟨Id,p,y,W⟩:=uw (n:=n) (inn:=inn) (x13:=(i:U)) (m:=x) l part t.len λv a=>((q v).1 a).rng G Z2 Z2
    have m0:=t.m0;have w:=t.m1;rw[zAE h0,zAD,zAF<|AZ.2 ⟨Z2,Z2⟩,X,zAC,p,zAC];rw[zAF c];exact⟨(Id,x+1),rfl,t.go G hi f h0 q y W⟩
 ·have z:∀v:E,H (d (F g) (0:U)) v 0=0:=λv=>by
   grind
  exact⟨Z3,zKw _,zKw _,λv _=>Z4,λv _ h=>by rw[z]at h;omega,λϛ v _ _ h=>by rw[z]at h;omega,λϛ v _ _ h=>by rw[z]at h;omega,λv a=>τ a<|zBT v,λm h1 h2=>Z4⟩
def zH7(G:Gr g)(m:F inn=F g):Ag (λn=>parts n g inn)<|PtP g inn:=(kX G m).mono λr t=>⟨t.len,λv a hi=>t.all v a a hi,λϛ v x a hi=>by
 have z:=t.all ϛ x x hi;exact⟨t.con ϛ v x a z,t.same ϛ v x a z⟩⟩
def Sp(g:O Ξ)(inn some':Ω)(a:U):Prop:=∃ϛ v:U,ϛ≠a/\v≠a/\H some' ϛ.toNat T=D/\H some' v.toNat T=D/\Rc g inn a ϛ/\Rc g inn a v/\¬Rc g (inn.set a.toNat T) ϛ v
variable{y3:Ξ×U}
theorem rH{n:E}{a f:U}(h:F some'=F g)(hy:F y3.1=F g)(q:f≠0):∀(l:Ξ),(∀v∈l,0<=v/\v<(F g:U))->
 ∃b t c,DY (I0 n some' a y3) l (.s0 T f)=Z (.s0 b t,c)/\(c=0∨c=1)/\(b=D↔∃v∈l,v≠a/\H some' v.toNat T=D/\H y3.1 v.toNat 0≠f)
 |[],_=>⟨T,f,0,rfl,.inl rfl,Z3⟩
 |x::l,e=>by
  have hx:=e x zMw;obtain⟨b,t,c,h1,h2,h3⟩:=rH (n:=n) (a:=a) h hy q l λv i=>e v<|zLL _ i
  have skip:I0 n some' a y3 x (.s0 T f)=Z (.s0 T f,0)->¬(x≠a/\H some' x.toNat T=D/\H y3.1 x.toNat 0≠f)->∃b t c,DY (I0 n some' a y3) (x::l) (.s0 T f)=Z (.s0 b t,c)/\(c=0∨c=1)/\(b=D↔∃v∈x::l,v≠a/\H some' v.toNat T=D/\H y3.1 v.toNat 0≠f):=by
   grind[DY]
  have f0:(f==0)=T:=zBE.2 q;have ε:I0 n some' a y3 x (.s0 T f)=U6 n some' a y3 x T f:=rfl;unfold U6 at ε
  by_cases R:x=a
  ·grind
  ·have:(x==a)=T:=zBE.2 R;rw[this,zAD,zAF ⟨Z2,Z2⟩]at ε;cases e2:H some' x.toNat T
   ·grind
   ·by_cases e3:H y3.1 x.toNat 0=f
    ·grind
    ·refine⟨D,f,1,?_,.inr rfl,?_⟩
     ·grind[DY]
     grind
theorem rI{n:E}{a:U}(i:F some'=F g)(hy:F y3.1=F g):∀(l:Ξ),(∀v∈l,0<=v/\v<(F g:U))->(∀v∈l,v≠a->H y3.1 v.toNat 0≠0)->
 ∃b t c,DY (I0 n some' a y3) l (.s0 T 0)=Z (.s0 b t,c)/\(c=0∨c=1)/\(b=D↔∃ϛ∈l,∃v∈l,ϛ≠a/\v≠a/\H some' ϛ.toNat T=D/\H some' v.toNat T=D/\H y3.1 v.toNat 0≠H y3.1 ϛ.toNat 0)
 |[],_,_=>⟨T,0,0,rfl,.inl rfl,Z3⟩
 |x::l,q,z=>by
  have hx:=q x zMw;have X:∀v∈l,0<=v/\v<(F g:U):=λv f=>q v<|zLL _ f
  have skip:I0 n some' a y3 x (.s0 T 0)=Z (.s0 T 0,0)->¬(x≠a/\H some' x.toNat T=D)->∃b t c,DY (I0 n some' a y3) (x::l) (.s0 T 0)=Z (.s0 b t,c)/\(c=0∨c=1)/\(b=D↔∃ϛ∈x::l,∃v∈x::l,ϛ≠a/\v≠a/\H some' ϛ.toNat T=D/\H some' v.toNat T=D/\H y3.1 v.toNat 0≠H y3.1 ϛ.toNat 0):=by
   intro e hn;obtain⟨b,t,c,j,h,m⟩:=rI (n:=n) (a:=a) i hy l X λv f=>z v<|zLL _ f
   refine⟨b,t,c,?_,h,?_⟩
   ·grind[DY]
   grind
  have ε:I0 n some' a y3 x (.s0 T 0)=U6 n some' a y3 x T 0:=rfl;unfold U6 at ε
  by_cases R:x=a
  ·grind
  ·cases e2:H some' x.toNat T
   ·grind
   ·obtain⟨b,t,c,j,h,m⟩:=rH (n:=n) (a:=a) i hy (z x zMw R) l X;refine⟨b,t,c,?_,h,?_⟩
    ·grind[DY]
    grind
theorem zB5(G:Fw g)(P:F inn=F g)(S:F some'=F g){a:E}(ha:a<F g)(XS:H inn a T=D):
 Ag (λn=>SN n g inn some' (a:U)) λr=>r.2=0/\(r.1=D↔Sp g inn some' (a:U)):=by
 have hG:=G.gr.len;have ϙ:(1000000000000:E)=Aw:=rfl
 have hw:∀n,Ut n (a:U) inn=Z (inn.set a T):=λn=>by
  unfold Ut iS RG oQ;rw[zAF ⟨Z2,trivial,⟨rfl,rfl⟩,Z4⟩,zAF Z3,zAC,zLP,zAF ⟨⟨Z2,Z2⟩,Z2⟩,zAF Z3,zKx,u8]
 have j:F (inn.set a T)=F g:=Z4
 have e:∀n,SN n g inn some' (a:U)=(LV n g [inn,some']).bind λo=>B (o != 0) (Z (T,o))<|(parts n g<|inn.set a T).bind λy3=>(Ib n g a inn).bind λm=>(DY (I0 n some' a y3) m<|.s0 T 0).bind λJ=>B (J.2==0) (match J.1 with| .s0 b _=>Z (b,0))<|B (J.2==1) (match J.1 with| .s0 b _=>Z (b,0)) A:=λn=>by
  grind[SN,rA]
 refine Ag.eq ?_ e
 refine Ag.bind (eX G (λx hx=>by
  grind) Z3) ?_
 show Ag (R:=ζ×U) (λn=>(parts n g<|inn.set a T).bind λy3=>(Ib n g a inn).bind λm=>(DY (I0 n some' a y3) m<|.s0 T 0).bind λJ=>B (J.2==0) (match J.1 with| .s0 b _=>Z (b,0))<|B (J.2==1) (match J.1 with| .s0 b _=>Z (b,0)) A) _
 obtain⟨N,V⟩:=jp G.gr P (s:=(a:U)) Z2 Z2;refine Ag.bindU (zH7 G.gr j) ⟨N,λn X y3 hy=>?_⟩;obtain⟨l,q,A5,z⟩:=V n X;have q:Ib n g (a:U) inn=Z l:=q;have k:∀v∈l,0<=v/\v<(F g:U):=λv t=>((z v).1 t).rng G.gr Z2 Z2
 have p:∀v∈l,v≠(a:U)->H (inn.set a T) v.toNat T=D:=λv t Q=>by
  have i:=k v t;rw[zBD,zRX Z2,←zBD];exact((z v).1 t).isIn Z4
 obtain⟨b,f',c,i,Y,h3⟩:=rI (n:=n) (some':=some') (a:=(a:U)) (y3:=y3) S hy.1 l k λv t Q=>by
  have i:=k v t;have:=hy.2.1 v.toNat Z2<|p v t Q;omega
 rw[q,zAC,i,zAC];refine⟨(b,0),?_,rfl,?_⟩
 ·grind
 ·show b=D↔_
  rw[h3]
  have key:∀ϛ v:U,ϛ∈l->v∈l->ϛ≠a->(H y3.1 v.toNat 0=H y3.1 ϛ.toNat 0↔Rc g (inn.set a T) ϛ v):=λϛ v f t Q=>by
   have i:=k ϛ f;have Y:=k v t;have:=hy.2.2 ϛ.toNat v.toNat Z2 Z2<|p ϛ f Q
   grind
  constructor
  ·rintro⟨ϛ,f,v,t,W,K,w,y,I⟩;exact⟨ϛ,v,W,K,w,y,(z ϛ).1 f,(z v).1 t,λh=>I<|(key ϛ v f t W).2 h⟩
  ·rintro⟨ϛ,v,W,K,w,y,I,h9,Ol⟩
   grind
end
section
def Cn(c:AD)(pos:Ξ)(a:E):ζ:=bits .andNot .i64 (AY c pos a) c.set==0
def EZ(c:AD)(pos:Ξ)(a:E):ζ:=Cn c pos a||(bits .and .i64 (AY c pos a) c.set != 0)
def cnt(p:E->ζ)(i:E):U:=(((θ i).countP p:E):U)
variable{i:E}{p:E->ζ}
theorem O5 :cnt p (i+1)=cnt p i+u (p i) 1 0:=by
 grind[cnt,List.range_succ]
theorem RF :0<=cnt p i/\cnt p i<=i:=by
 grind[cnt,List.length_range]
def O2(c:AD)(pos:Ξ):ζ:=!C (cnt (Cn c pos) (F c.ce)>c.hi)&&!C (cnt (EZ c pos) (F c.ce)<c.lo)
def KL(c:AD)(pos:Ξ)(a s:E):ζ:=((cnt (Cn c pos) (F c.ce)==c.hi)&&(bits .andNot .i64 (AY c pos a) c.set != 0)&&tb c.set s)||((cnt (EZ c pos) (F c.ce)==c.lo)&&(bits .and .i64 (AY c pos a) c.set != 0)&&!tb c.set s)
section
variable{c:AD}{k:E}{pos lost:Ξ}{q:AA}
variable{n:E}
theorem zPP{S f:U}(W:Ca c k pos)(h:F lost=F pos)(o:S=cnt (Cn c pos) (F c.ce))(p:f=cnt (EZ c pos) (F c.ce))(hn:F c.ce+1<=n):
 ∃l,KM c q pos (F pos) lost n (.l2 S f 0 lost)=Z (D,l)/\B4 c pos lost (F c.ce) (λa s=>KL c pos a s=D) l:=by
 have P:∀i,i<F c.ce->((i:E):U)<((F c.ce:E):U):=λi hi=>Z2
 have ϑ:=Ih (λn (s:Ξ) i=>KM c q pos (F pos) lost n<|.l2 S f i s) (F c.ce) 1
  (λi s=>B4 c pos lost i (λa s=>KL c pos a s=D) s) (λn i s G9 hi m=>?_) (n:=n) (s:=lost) Z2 (B4.zero h)
 ·obtain⟨b,l,Of,_,e,hL⟩:=ϑ;obtain⟨g,rfl⟩:∃g,b=g+1:=⟨b-1,Z2⟩
  simp_all[fl,KM]
 ·have hc:=W.ce i hi;have r:=W.r64 hi
  have key:∀l':Ξ,F l'=F pos->(∀j x,tb (H l' j 0) x=(tb (H s j 0) x||(C (j=(H c.ce i 0).toNat)&&(tb (H pos j 0) x&&KL c pos i x))))->B4 c pos lost (i+1) (λa s=>KL c pos a s=D) l':=by
   intro l' t h2;refine m.step t λj x=>?_
   grind[AY]
  obtain⟨R,v,w,f1⟩:=MU (lost:=s) (n:=n) (ss:=c.set) (c:=c) (q:=q) hc.1 hc.2 m.1;obtain⟨l2,e,n2,f2⟩:=km (lost:=R) (n:=n) (c:=c) (q:=q) hc.1 hc.2 w;obtain⟨l3,y,b,f3⟩:=km (lost:=s) (n:=n) (c:=c) (q:=q) hc.1 hc.2 m.1;have z:C ((i:U)<((F c.ce:E):U))=D:=zAB<|P i hi;have G:(0:U)<=(i:U)/\(i:U)<((F c.ce:E):U):=⟨Z2,P i hi⟩
  show∃s',fl n (KM c q pos (F pos) lost n) c q pos (F pos) lost S f (i:U) s=_/\_
  unfold fl;rw[z,zAG,zAF G];simp only[u8];have X:∀x,KL c pos i x=(((S==c.hi)&&(bits .andNot .i64 (H pos (H c.ce i 0).toNat 0) c.set != 0)&&tb c.set x)||((f==c.lo)&&(bits .and .i64 (H pos (H c.ce i 0).toNat 0) c.set != 0)&&!tb c.set x)):=λx=>by rw[o,p];rfl
  cases I:(S==c.hi) <;> cases J:(f==c.lo) <;> cases K:(bits .andNot .i64 (H pos (H c.ce i 0).toNat 0) c.set != 0) <;> cases N:(bits .and .i64 (H pos (H c.ce i 0).toNat 0) c.set != 0) <;>
   simp only[I,K,J,N,zM4,zSR,Bool.and_false,Bool.and_true,Bool.or_false,zRN]at X <;>
   simp only[zAG,zAD,zAF hc,v,e,y,zAC,zAF r.2]
  all_goals grind[B4]
theorem zPQ(W:Ca c k pos)(j:F lost=F pos)(hn:2*F c.ce+3<=n):
 ∃l,UV n c q pos (F pos) lost=Z (O2 c pos,l)/\(O2 c pos=D->B4 c pos lost (F c.ce) (λa s=>KL c pos a s=D) l):=by
 have P:∀i,i<F c.ce->((i:E):U)<((F c.ce:E):U):=λi hi=>Z2
 have S:=Ih (λn (s:Δ) i=>KM c q pos (F pos) lost n<|.l1 s.1 s.2 i) (F c.ce) (F c.ce+3)
  (λi s=>s.1=cnt (Cn c pos) i/\s.2=cnt (EZ c pos) i) (λn i s _ hi o=>?_) (n:=n) (s:=(0,0)) Z2 ⟨rfl,rfl⟩
 ·obtain⟨h,⟨b,f⟩,Hg,_,R,m,g⟩:=S;obtain⟨e,rfl⟩:∃e,h=e+1:=⟨h-1,Z2⟩;have X:UV n c q pos (F pos) lost=YS e (KM c q pos (F pos) lost e) c q pos (F pos) lost b f (F c.ce:U):=R;unfold YS at X;unfold O2;cases h5:C<|b>c.hi
  ·cases h6:C<|f<c.lo
   ·obtain⟨l,e3,hL⟩:=zPP (q:=q) (n:=e) W j m g Z2
    grind
   grind
  grind
 ·obtain⟨b,f⟩:=s;obtain⟨m,g⟩:=o;simp only at m g;have hc:=W.ce i hi;have hr:=W.r64 hi;have b3:=RF (p:=Cn c pos) (i:=i);have b4:=RF (p:=EZ c pos) (i:=i);have Ap:=W.len;have r3:AG<|b+1:=AZ.2 ⟨Z2,Z2⟩;have r4:AG<|f+1:=AZ.2 ⟨Z2,Z2⟩
  show∃s',YS n (KM c q pos (F pos) lost n) c q pos (F pos) lost b f (i:U)=_/\_
  unfold YS;rw[zAB<|P i hi,zAG];simp only[u8];rw[zAF ⟨⟨Z2,P i hi⟩,hc⟩];have w:(bits .andNot .i64 (H pos (H c.ce i 0).toNat 0) c.set==0)=Cn c pos i:=rfl;have y:(Cn c pos i||(bits .and .i64 (H pos (H c.ce i 0).toNat 0) c.set != 0))=EZ c pos i:=rfl;rw[w];cases r:Cn c pos i
  ·rw[r,zRN]at y;rw[zAD,y];cases hy:EZ c pos i
   ·simp_all[O5]
   simp_all[O5]
  simp_all[O5]
end
end
abbrev zK4:=@Nat.lt_of_not_le
abbrev zM0:=@List.mem_filter
theorem ij(x:U)(i:E):tb (IntKind.i64.wrap x) i=tb x i:=by unfold tb;rw[WV]
theorem Hu{s:E}(hs:s<64)(i:E):tb (IntKind.i64.wrap<|1*2^s) i=C (s=i):=by
 rw[ij,Int.one_mul]
 grind[PX,Uw]
theorem Fk{k:E}{x:U}(h:Sm k x)(hk:k<=62){e:U}:e∈By x↔∃s:E,e=(s:U)/\s<k/\tb x s=D:=by
 obtain⟨m,rfl⟩:=zNA h.1;unfold By FY;simp only[zMf,zM0,zJ9,u8];constructor
 ·rintro⟨s,⟨b,c⟩,rfl⟩;have a:tb (m:U) s=D:=by rw[Je m s b];exact c
  refine⟨s,rfl,?_,a⟩;refine zK4 λK=>?_
  rw[h.hi K]at a;cases a
 ·rintro⟨s,rfl,b,c⟩;exact⟨s,⟨Z2,by grind[Je]⟩,rfl⟩
theorem fF{α σ:Type}{f:α->σ->M σ}(Inv:O α->σ->Prop):∀(l pre:O α) (s:σ),Inv pre s->(∀pre x s,x∈l->Inv pre s->∃S,f x s=Z S/\Inv (pre++[x]) S)->∃S,Bs f l s=Z S/\Inv (pre++l) S
 |[],pre,s,h,_=>⟨s,rfl,by rw[zNL];exact h⟩
 |x::l,pre,s,h,p=>by
  obtain⟨S,h1,c⟩:=p pre x s (.head _) h;obtain⟨s2,h3,h4⟩:=fF Inv l (pre++[x]) S c λpre y s hy=>p pre y s<|.tail _ hy
  grind[Bs]
structure D6(q:AA)(k:E):Prop where
 len:k<=F q.va
 val:∀s,s<k->0<=H q.va s 0/\H q.va s 0<=99
def H6(q:AA)(a e:U):U:=u (H q.va e.toNat 0<a) (H q.va e.toNat 0) a
def ID(q:AA)(a e:U):U:=u (H q.va e.toNat 0>a) (H q.va e.toNat 0) a
def Cp(q:AA)(x:U):U:=(By x).foldl (H6 q) 100
def Cq(q:AA)(x:U):U:=(By x).foldl (ID q)<|-1
section
variable{c:AD}{k:E}{pos lost:Ξ}{q:AA}
def wF:∀(l:Ξ) (a:U),(∀e∈l,0<=H q.va e.toNat 0/\H q.va e.toNat 0<=99)->0<=a/\a<=100->0<=l.foldl (H6 q) a/\l.foldl (H6 q) a<=100
 |[],_,_,h=>h
 |e::l,a,t,h=>by
  have:=t e<|.head _;refine wF l (H6 q a e) (λe b=>t e<|.tail _ b) ?_;unfold H6;split <;> omega
def xY:∀(l:Ξ) (a:U),(∀e∈l,0<=H q.va e.toNat 0/\H q.va e.toNat 0<=99)->-1<=a/\a<=99->-1<=l.foldl (ID q) a/\l.foldl (ID q) a<=99
 |[],_,_,h=>h
 |e::l,a,t,h=>by
  have:=t e<|.head _;refine xY l (ID q a e) (λe b=>t e<|.tail _ b) ?_;unfold ID;split <;> omega
variable{x:U}
def D6.sym(V:D6 q k)(f:k<=16)(h:Sm k x):∀e∈By x,(0<=e/\e<((F q.va:E):U))/\0<=H q.va e.toNat 0/\H q.va e.toNat 0<=99:=by
 intro e a;obtain⟨s,rfl,b,_⟩:=(Fk h<|zIX f Z6).1 a;have:=V.len;exact⟨Z2,V.val s b⟩
def D6.lo(V:D6 q k)(f:k<=16)(h:Sm k x):0<=Cp q x/\Cp q x<=100:=wF _ _ (λe a=>(V.sym f h e a).2) Z6
def D6.hi(V:D6 q k)(f:k<=16)(h:Sm k x):-1<=Cq q x/\Cq q x<=99:=xY _ _ (λe a=>(V.sym f h e a).2) Z6
variable{n ln:E}
theorem zI :∀(l:Ξ) (a b:U),(∀e∈l,0<=e/\e<((F q.va:E):U))->Bs (YA n c q pos ln lost) l (.s0 a b)=Z (.s0 (l.foldl (H6 q) a)<|l.foldl (ID q) b)
 |[],_,_,_=>rfl
 |e::l,a,b,h=>by
  have R:YA n c q pos ln lost e (.s0 a b)=Z (.s0 (H6 q a e)<|ID q b e):=by
   simp_all[YA,zK,zL,H6,ID]
  simp only[Bs];rw[R,zAC,zI l _ _ λe f=>h e<|.tail _ f];rfl
def zH(V:D6 q k)(f:k<=16)(h:Sm k x):YB n x c q pos ln lost=Z (Cp q x,Cq q x,lost):=by
 have Xg:=K6 (k:=k)<|zIX f Z6;have h2:=h.2;unfold YB zJ;rw[zAF ⟨h.1,Z2⟩,zI (By x) 100 (-1) λe a=>(V.sym f h e a).1];rfl
def B5(f:E->U):E->U
 |0=>0
 |i+1=>B5 f i+f i
theorem PU{f:E->U}:∀(i:E),(∀a,a<i->-1<=f a/\f a<=100)->-(i:U)<=B5 f i/\B5 f i<=100*(i:U)
 |0,_=>by simp[B5]
 |i+1,h=>by
  have h1:=PU i λa ha=>h a Z2
  grind[B5]
def MR(q:AA)(c:AD)(pos:Ξ):U:=B5 (λa=>Cp q<|AY c pos a)<|F c.ce
def Mi(q:AA)(c:AD)(pos:Ξ):U:=B5 (λa=>Cq q<|AY c pos a)<|F c.ce
def NL(q:AA)(c:AD)(pos:Ξ):ζ:=!C (MR q c pos>c.hi)&&!C (Mi q c pos<c.lo)
def Hv(q:AA)(c:AD)(pos:Ξ)(a s:E):ζ:=C (MR q c pos-Cp q (AY c pos a)+H q.va s 0>c.hi)||C (Mi q c pos-Cq q (AY c pos a)+H q.va s 0<c.lo)
variable{i:E}
theorem v8{ϑ:Type}(W:Ca c k pos)(hi:i<F c.ce)(p:F lost=F pos)(b:Ξ->ϑ)(f:U->ϑ->M ϑ)(X:E->ζ)
 (r:∀(s:E) (l:Ξ),s<k->F l=F pos->f (s:U) (b l)=B (X s) ((D0 n (H c.ce i 0) (IntKind.i64.wrap<|1*2^s) c q pos (F pos) l).map b) (Z<|b l)):
 ∃l',Bs f (By<|AY c pos i) (b lost)=Z (b l')/\F l'=F pos/\
  ∀j s,tb (H l' j 0) s=D↔tb (H lost j 0) s=D∨((H c.ce i 0).toNat=j/\tb (AY c pos i) s=D/\X s=D):=by
 have hc:=W.ce i hi;have m:=W.at hi;have o:=W.k
 have key:=fF (f:=f)
  (λpre s=>∃l',s=b l'/\F l'=F pos/\∀j s,tb (H l' j 0) s=D↔tb (H lost j 0) s=D∨((H c.ce i 0).toNat=j/\tb (AY c pos i) s=D/\(s:U)∈pre/\X s=D))
  (By<|AY c pos i) [] (b lost) ⟨lost,rfl,p,λj s=>⟨.inl,λh=>h.elim id λh=>by cases h.2.2.1⟩⟩ ?_
 ·obtain⟨_,t,l',rfl,a,g⟩:=key;refine⟨l',t,a,λj s=>?_⟩;rw[g,zLP];constructor
  ·grind
  ·rintro(h|⟨y,N,a3⟩)
   ·exact .inl h
   ·refine .inr ⟨y,N,(Fk m<|zIX o Z6).2 ⟨s,rfl,zK4 λK=>?_,N⟩,a3⟩;rw[m.hi K]at N;cases N
 ·rintro pre e _ v ⟨l',rfl,a,g⟩;obtain⟨s,rfl,w,hbit⟩:=(Fk m<|zIX o Z6).1 v;rw[r s l' w a];cases hx:X s
  ·grind
  ·obtain⟨z,G,I,V⟩:=MU (lost:=l') (n:=n) (ss:=IntKind.i64.wrap<|1*2^s) (c:=c) (q:=q) hc.1 hc.2 a;rw[zAG,G,zMz];refine⟨_,rfl,z,rfl,I,λj x=>?_⟩;rw[V,zKu,zAx,zAx,zKv,g,Hu Z2,zKv];constructor
   ·grind
   grind[AY]
theorem zBm(W:Ca c k pos)(V:D6 q k)(hi:i<F c.ce){low high:U}(h:low=MR q c pos)(z:high=Mi q c pos)(e:F lost=F pos):
 ∃l',Bs (ZW n c (i:U) q pos (F pos) low high (Cp q<|AY c pos i,Cq q<|AY c pos i,lost)) (By<|AY c pos i) (.s0 lost)=Z (.s0 l')/\F l'=F pos/\
  ∀j s,tb (H l' j 0) s=D↔tb (H lost j 0) s=D∨((H c.ce i 0).toNat=j/\tb (AY c pos i) s=D/\Hv q c pos i s=D):=by
 have hc:=W.ce i hi;have m:=W.at hi;have b:=W.k;have Ap:=W.len;have bl:=V.lo b m;have bh:=V.hi b m;have G:=PU (f:=λa=>Cp q<|AY c pos a) (F c.ce) λa g=>by have:=V.lo b<|W.at g;omega
 have I:=PU (f:=λa=>Cq q<|AY c pos a) (F c.ce) λa g=>by have:=V.hi b<|W.at g;omega
 have G:-(F c.ce:U)<=low/\low<=100*(F c.ce:U):=by rw[h];exact G
 have I:-(F c.ce:U)<=high/\high<=100*(F c.ce:U):=by rw[z];exact I
 refine v8 (n:=n) (q:=q) W hi e Ly.s0 _ (Hv q c pos i) λs l p e=>?_
 have hv:=V.val s p;have Fn:=V.len;have r1:AG<|low-Cp q (AY c pos i):=AZ.2 ⟨Z2,Z2⟩;have r2:AG<|low-Cp q (AY c pos i)+H q.va s 0:=AZ.2 ⟨Z2,Z2⟩;have r3:AG<|high-Cq q (AY c pos i):=AZ.2 ⟨Z2,Z2⟩;have r4:AG<|high-Cq q (AY c pos i)+H q.va s 0:=AZ.2 ⟨Z2,Z2⟩;have g1:(0:U)<=(s:U)/\(s:U)<((F q.va:E):U):=Z2
 have g2:(0:U)<=(s:U)/\(s:U)<=((IntKind.i64.bits:E):U):=⟨Z2,by show(s:U)<=64;omega⟩;obtain⟨l2,e2,_,_⟩:=MU (lost:=l) (n:=n) (ss:=IntKind.i64.wrap<|1*2^s) (c:=c) (q:=q) hc.1 hc.2 e;have X:Hv q c pos i s=(C (low-Cp q (AY c pos i)+H q.va s 0>c.hi)||C (high-Cq q (AY c pos i)+H q.va s 0<c.lo)):=by rw[h,z];rfl
 rw[X];unfold ZW qs ZV
 grind
theorem zBj(W:Ca c k pos)(V:D6 q k)(e:F lost=F pos)(hn:F c.ce+1<=n):
 ∃l,Jf c q pos (F pos) lost n (.l2 0 lost (MR q c pos)<|Mi q c pos)=Z (D,l)/\B4 c pos lost (F c.ce) (λa s=>Hv q c pos a s=D) l:=by
 have P:∀i,i<F c.ce->((i:E):U)<((F c.ce:E):U):=λi hi=>Z2
 have ϑ:=Ih (λn (s:Ξ) i=>Jf c q pos (F pos) lost n<|.l2 i s (MR q c pos)<|Mi q c pos) (F c.ce) 1
  (λi s=>B4 c pos lost i (λa s=>Hv q c pos a s=D) s) (λn i s G9 hi b=>?_) (n:=n) (s:=lost) Z2 (B4.zero e)
 ·obtain⟨f,l,Of,_,e2,hL⟩:=ϑ;obtain⟨g,rfl⟩:∃g,f=g+1:=⟨f-1,Z2⟩
  simp_all[ZU,Jf]
 ·have hc:=W.ce i hi;have hr:=W.r64 hi;have m:=W.at hi;have Xg:=K6 (k:=k)<|zIX W.k Z6;have JN:=m.2;obtain⟨l',e1,h,I⟩:=zBm (n:=n) W V hi rfl rfl b.1
  show∃s',ZU n (Jf c q pos (F pos) lost n) c q pos (F pos) lost (i:U) s _ _=_/\_
  unfold ZU;simp only[u8];have j:H pos (H c.ce i 0).toNat 0=AY c pos i:=rfl;rw[zAF ⟨⟨Z2,P i hi⟩,hc⟩,j,zH V W.k m,zAC,zAF ⟨m.1,Z2⟩];refine⟨l',?_,b.step h I⟩
  grind
theorem zBk(W:Ca c k pos)(V:D6 q k)(r:F lost=F pos)(hn:2*F c.ce+3<=n):
 ∃l,SH n c q pos (F pos) lost=Z (NL q c pos,l)/\(NL q c pos=D->B4 c pos lost (F c.ce) (λa s=>Hv q c pos a s=D) l):=by
 have P:∀i,i<F c.ce->((i:E):U)<((F c.ce:E):U):=λi hi=>Z2
 have S:=Ih (λn (s:Ξ×Δ) i=>Jf c q pos (F pos) lost n<|.l1 i s.1 s.2.1 s.2.2) (F c.ce) (F c.ce+3)
  (λi s=>s.1=lost/\s.2.1=B5 (λa=>Cp q<|AY c pos a) i/\s.2.2=B5 (λa=>Cq q<|AY c pos a) i) (λn i s _ hi t=>?_) (n:=n) (s:=(lost,0,0)) Z2 ⟨rfl,rfl,rfl⟩
 ·obtain⟨p,⟨l0,b,e⟩,Hg,_,R,h0,m,g⟩:=S;obtain⟨h,rfl⟩:∃h,p=h+1:=⟨p-1,Z2⟩;obtain rfl:l0=lost:=h0;obtain rfl:b=MR q c pos:=m;obtain rfl:e=Mi q c pos:=g;have X:SH n c q pos (F pos) l0=Ux h (Jf c q pos (F pos) l0 h) c q pos (F pos) l0 (F c.ce:U) l0 (MR q c pos) (Mi q c pos):=R;unfold Ux at X;unfold NL;cases h5:C<|MR q c pos>c.hi
  ·cases h6:C<|Mi q c pos<c.lo
   ·obtain⟨l,e3,hL⟩:=zBj (n:=h) W V r Z2
    grind
   grind
  grind
 ·obtain⟨l0,b,e⟩:=s;obtain⟨h0,m,g⟩:=t;simp only at h0 m g;have hc:=W.ce i hi;have v:=W.r64 hi;have j:=W.at hi;have Q:=PU (f:=λa=>Cp q<|AY c pos a) i λa o=>by have:=V.lo W.k<|W.at<|Nat.lt_trans o hi;omega
  have w:=PU (f:=λa=>Cq q<|AY c pos a) i λa o=>by have:=V.hi W.k<|W.at<|Nat.lt_trans o hi;omega
  have bl:=V.lo W.k j;have bh:=V.hi W.k j;have Ap:=W.len;rw[←m]at Q;rw[←g]at w;have x:AG<|b+Cp q (AY c pos i):=AZ.2 ⟨Z2,Z2⟩;have y:AG<|e+Cq q (AY c pos i):=AZ.2 ⟨Z2,Z2⟩
  show∃s',Ux n (Jf c q pos (F pos) lost n) c q pos (F pos) lost (i:U) l0 b e=_/\_
  unfold Ux;rw[zAB<|P i hi,zAG];simp only[u8];have z:H pos (H c.ce i 0).toNat 0=AY c pos i:=rfl;rw[zAF ⟨⟨Z2,P i hi⟩,hc⟩,z,zH V W.k j,zAC,zAF ⟨x,y,v.2⟩];exact⟨(l0,b+Cp q (AY c pos i),e+Cq q (AY c pos i)),rfl,h0,by simp only[B5];rw[m],by simp only[B5];rw[g]⟩
end
section
set_option maxRecDepth 100000
set_option maxHeartbeats 40000000
def qc:ST:=.rd 0<|.rd 1<|.rd 3<|.rd 4<|.ef 2 (.ef 5 (.ef 6 (.ef 7 (.ef 8 (.ef 9 (.fin [0,1,2,3] [1,3,4,5,58,91,92,104,148])<|.no)<|.no)<|.no)<|.ef 7 (.ef 6 (.ef 8 (.ef 9 (.fin [0,1,3,2] [1,3,4,5,58,91,92,104,148])<|.no)<|.no)<|.no)<|.no)<|.ef 6 (.ef 5 (.ef 7 (.ef 8 (.ef 9 (.fin [0,2,1,3] [1,3,4,5,58,91,92,104,148])<|.no)<|.no)<|.no)<|.ef 7 (.ef 5 (.ef 8 (.ef 9 (.fin [0,3,1,2] [1,3,4,5,58,91,92,104,148])<|.no)<|.no)<|.ef 8 (.ef 5 (.ef 9 (.fin [0,3,1,2] [1,3,4,5,58,91,92,104,148])<|.no)<|.no)<|.no)<|.no)<|.ef 7 (.ef 5 (.ef 6 (.ef 8 (.ef 9 (.fin [0,2,3,1] [1,3,4,5,58,91,92,104,148])<|.no)<|.no)<|.no)<|.ef 6 (.ef 5 (.ef 8 (.ef 9 (.fin [0,3,2,1] [1,3,4,5,58,91,92,104,148])<|.no)<|.no)<|.ef 8 (.ef 5 (.ef 9 (.fin [0,3,2,1] [1,3,4,5,58,91,92,104,148])<|.no)<|.no)<|.no)<|.no)<|.no)<|.ef 5 (.ef 2 (.ef 6 (.ef 7 (.ef 8 (.ef 9 (.fin [1,0,2,3] [1,3,4,5,58,91,92,104,148])<|.no)<|.no)<|.no)<|.ef 7 (.ef 6 (.ef 8 (.ef 9 (.fin [1,0,3,2] [1,3,4,5,58,91,92,104,148])<|.no)<|.no)<|.no)<|.no)<|.ef 6 (.ef 2 (.ef 7 (.ef 8 (.ef 9 (.fin [2,0,1,3] [1,3,4,5,58,91,92,104,148])<|.no)<|.no)<|.no)<|.ef 7 (.ef 2 (.ef 8 (.ef 9 (.fin [3,0,1,2] [1,3,4,5,58,91,92,104,148])<|.no)<|.no)<|.no)<|.no)<|.ef 7 (.ef 2 (.ef 6 (.ef 8 (.ef 9 (.fin [2,0,3,1] [1,3,4,5,58,91,92,104,148])<|.no)<|.no)<|.no)<|.ef 6 (.ef 2 (.ef 8 (.ef 9 (.fin [3,0,2,1] [1,3,4,5,58,91,92,104,148])<|.no)<|.no)<|.no)<|.no)<|.no)<|.ef 6 (.ef 2 (.ef 5 (.ef 7 (.ef 8 (.ef 9 (.fin [1,2,0,3] [1,3,4,5,58,91,92,104,148])<|.no)<|.no)<|.no)<|.ef 7 (.ef 5 (.ef 8 (.ef 9 (.fin [1,3,0,2] [1,3,4,5,58,91,92,104,148])<|.no)<|.no)<|.ef 8 (.ef 5 (.ef 9 (.fin [1,3,0,2] [1,3,4,5,58,91,92,104,148])<|.no)<|.no)<|.no)<|.no)<|.ef 5 (.ef 2 (.ef 7 (.ef 8 (.ef 9 (.fin [2,1,0,3] [1,3,4,5,58,91,92,104,148])<|.no)<|.no)<|.no)<|.ef 7 (.ef 2 (.ef 8 (.ef 9 (.fin [3,1,0,2] [1,3,4,5,58,91,92,104,148])<|.no)<|.no)<|.no)<|.no)<|.ef 7 (.ef 2 (.ef 5 (.ef 8 (.ef 9 (.fin [2,3,0,1] [1,3,4,5,58,91,92,104,148])<|.no)<|.no)<|.ef 8 (.ef 5 (.ef 9 (.fin [2,3,0,1] [1,3,4,5,58,91,92,104,148])<|.no)<|.no)<|.no)<|.ef 5 (.ef 2 (.ef 8 (.ef 9 (.fin [3,2,0,1] [1,3,4,5,58,91,92,104,148])<|.no)<|.no)<|.no)<|.no)<|.no)<|.ef 7 (.ef 2 (.ef 5 (.ef 6 (.ef 8 (.ef 9 (.fin [1,2,3,0] [1,3,4,5,58,91,92,104,148])<|.no)<|.no)<|.no)<|.ef 6 (.ef 5 (.ef 8 (.ef 9 (.fin [1,3,2,0] [1,3,4,5,58,91,92,104,148])<|.no)<|.no)<|.ef 8 (.ef 5 (.ef 9 (.fin [1,3,2,0] [1,3,4,5,58,91,92,104,148])<|.no)<|.no)<|.no)<|.no)<|.ef 5 (.ef 2 (.ef 6 (.ef 8 (.ef 9 (.fin [2,1,3,0] [1,3,4,5,58,91,92,104,148])<|.no)<|.no)<|.no)<|.ef 6 (.ef 2 (.ef 8 (.ef 9 (.fin [3,1,2,0] [1,3,4,5,58,91,92,104,148])<|.no)<|.no)<|.no)<|.no)<|.ef 6 (.ef 2 (.ef 5 (.ef 8 (.ef 9 (.fin [2,3,1,0] [1,3,4,5,58,91,92,104,148])<|.no)<|.no)<|.ef 8 (.ef 5 (.ef 9 (.fin [2,3,1,0] [1,3,4,5,58,91,92,104,148])<|.no)<|.no)<|.no)<|.ef 5 (.ef 2 (.ef 8 (.ef 9 (.fin [3,2,1,0] [1,3,4,5,58,91,92,104,148])<|.no)<|.no)<|.no)<|.no)<|.no)<|.no
def zDZ:B3 (Ah Tryz.f139 2) [2,5,6,7,8] qc:=Z1
def qb:ST:=.rd 0<|.rd 1<|.rd 2<|.rd 3<|.ef 4 (.rd 5<|.ef 6 (.fin [] [1,4,5,58,91,92,104,148])<|.no)<|.no
def zDW:B3 (Ah Tryz.f139 3) [4] qb:=Z1
def zDa:Ac (Ah Tryz.f139 12) [] (θ 11) [11]:=Z0
def zDY:Ac (Ah Tryz.f139 22) [] (θ 9) [9]:=Z0
def zDX:Ac (Ah Tryz.f139 26) [([0,1,2,3,4,5,6],7)] [] []:=Z0
def qa:ST:=.rd 0<|.rd 1<|.rd 2<|.rd 3<|.ef 4 (.fin [] [2])<|.no
def sJ:B3 (Ah Tryz.f139 30) [] qa:=Z1
def E2:BG:=λi=>match i with
 |2=>.tre [2,5,6,7,8] qc
 |3=>.tre [4] qb
 |12=>.ord [] (θ 11) [11]
 |22=>.ord [] (θ 9) [9]
 |26=>.ord [([0,1,2,3,4,5,6],7)] [] []
 |30=>.tre [] qa
 |_=>.no
def C8(c:AD)(q:AA)(pos:Ξ)(ln:E)(lost:Ξ):St:=⟨AI 178 [(1,.ref 2 0),(3,.i (F c.ce:U)),(4,.ref 5 0),(5,.ref 6 0)],([oW c q pos 1 ln,oI lost,oC [.ref 0 0],oI<|d ((F c.ce:U)+1).toNat (0:U),oI<|d ((F c.ce:U)+1).toNat (0:U),oC [.msl 3 1 0<|((F c.ce:U)+1).toNat],oC [.msl 4 1 0<|((F c.ce:U)+1).toNat]]:DH)⟩
def qF(c:AD)(q:AA)(pos:Ξ)(ln:E)(lost:Ξ):St:=⟨AI 178 [(1,.ref 2 0),(4,.ref 5 0),(5,.ref 6 0)],([oW c q pos 1 ln,oI lost,oC [.ref 0 0],oI<|(d ((F c.ce:U)+1).toNat (0:U)).set (0+0)<|-1,oI<|(d ((F c.ce:U)+1).toNat (0:U)).set (0+F c.ce) 100,oC [.msl 3 1 0<|((F c.ce:U)+1).toNat],oC [.msl 4 1 0<|((F c.ce:U)+1).toNat]]:DH)⟩
def zME(c:AD)(q:AA)(pos:Ξ)(ln:E)(lost o4:Ξ)(N:U):DH:=[oW c q pos 1 ln,oI lost,oC [.ref 0 0],oC [.msl 4 1 0<|((F c.ce:U)+1).toNat],oI<|o4.set (0+(N+1).toNat) 100,oC [.msl 6 1 0<|((F c.ce:U)+1).toNat],oI<|(d ((F c.ce:U)+1).toNat (0:U)).set (0+F c.ce) 100,oC [.i N]]
def zMD(c:AD)(q:AA)(pos:Ξ)(ln:E)(lost:Ξ)(N:U)(o4:Ξ):DH:=[oW c q pos 1 ln,oI lost,oC [.ref 0 0],oC [.msl 7 1 0<|((F c.ce:U)+1).toNat],oC [.msl 8 1 0<|((F c.ce:U)+1).toNat],oC [.i N],Z<|.iter<|(By<|H pos (H c.ce N.toNat 0).toNat 0).map BY,oI<|o4.set (0+(N+1).toNat) 100,oI<|(d ((F c.ce:U)+1).toNat (0:U)).set (0+F c.ce) 100]
def zMC(c:AD)(q:AA)(pos:Ξ)(ln:E)(lost o4:Ξ):DH:=[oW c q pos 1 ln,oI lost,oC [.ref 0 0],oC [.msl 4 1 0<|((F c.ce:U)+1).toNat],oI o4,oC [.msl 6 1 0<|((F c.ce:U)+1).toNat],oI<|(d ((F c.ce:U)+1).toNat (0:U)).set (0+F c.ce) 100]
def zMB(c:AD)(q:AA)(pos:Ξ)(ln:E)(lost:Ξ)(e:O<|Δ)(o4:Ξ):DH:=[oW c q pos 1 ln,oI lost,oC [.ref 0 0],oC [.msl 6 1 0<|((F c.ce:U)+1).toNat],oC [.msl 7 1 0<|((F c.ce:U)+1).toNat],Z<|.iter<|(e).map Q5,oI o4,oI<|(d ((F c.ce:U)+1).toNat (0:U)).set (0+F c.ce) 100]
def zMA(c:AD)(q:AA)(pos:Ξ)(ln:E)(o1 o4 R:Ξ)(o:U):DH:=[oW c q pos 1 ln,oI o1,oC [.ref 0 0],oC [.msl 4 1 0<|((F c.ce:U)+1).toNat],oI o4,oC [.msl 6 1 0<|((F c.ce:U)+1).toNat],oI R,oC [.i o],oC [.i<|H c.ce o.toNat 0]]
def zL9(c:AD)(q:AA)(pos:Ξ)(ln:E)(o1:Ξ)(o:U)(o4 R:Ξ):DH:=[oW c q pos 1 ln,oI o1,oC [.ref 0 0],oC [.msl 8 1 0<|((F c.ce:U)+1).toNat],oC [.msl 9 1 0<|((F c.ce:U)+1).toNat],oC [.i o],oC [.i<|H c.ce o.toNat 0],Z<|.iter<|(By<|H pos (H c.ce o.toNat 0).toNat 0).map BY,oI o4,oI R]
def zL8(c:AD)(q:AA)(pos:Ξ)(ln:E)(lost:Ξ)(N:U)(x:Ξ):DH:=[oW c q pos 1 ln,oI lost,oC [.ref 0 0],oC [.msl 7 1 0<|((F c.ce:U)+1).toNat],oC [.msl 8 1 0<|((F c.ce:U)+1).toNat],oC [.i N],A,oI x,oI<|(d ((F c.ce:U)+1).toNat (0:U)).set (0+F c.ce) 100]
def zL7(c:AD)(q:AA)(pos:Ξ)(ln:E)(lost o4 a:Ξ)(P:Δ):DH:=[oW c q pos 1 ln,oI lost,oC [.ref 0 0],oC [.msl 6 1 0<|((F c.ce:U)+1).toNat],oC [.msl 7 1 0<|((F c.ce:U)+1).toNat],A,oI o4,oI a,oC [.i P.1]]
def zMH(c:AD)(q:AA)(pos:Ξ)(ln:E)(lost o4 a:Ξ)(P:Δ):DH:=[oW c q pos 1 ln,oI lost,oC [.ref 0 0],oC [.msl 6 1 0<|((F c.ce:U)+1).toNat],oC [.msl 7 1 0<|((F c.ce:U)+1).toNat],A,oI o4,oI<|a.set (0+(P.1).toNat)<|-1,oC [.i P.1]]
def zMG(c:AD)(q:AA)(pos:Ξ)(ln:E)(lost:Ξ)(P:Δ)(o4 a:Ξ):DH:=[oW c q pos 1 ln,oI lost,oC [.ref 0 0],oC [.msl 8 1 0<|((F c.ce:U)+1).toNat],oC [.msl 9 1 0<|((F c.ce:U)+1).toNat],A,oC [.i P.1],Z<|.iter<|(By<|H pos (P.2).toNat 0).map BY,oI o4,oI<|a.set (0+(P.1).toNat)<|-1]
def mU(c:AD)(q:AA)(pos:Ξ)(ln:E)(w:Ξ)(o:U)(o4 R:Ξ):DH:=[oW c q pos 1 ln,oI w,oC [.ref 0 0],oC [.msl 8 1 0<|((F c.ce:U)+1).toNat],oC [.msl 9 1 0<|((F c.ce:U)+1).toNat],oC [.i o],oC [.i<|H c.ce o.toNat 0],A,oI o4,oI R]
def ZP(c:AD)(q:AA)(pos:Ξ)(ln:E)(r:Ξ)(o:U)(o4 R:Ξ):St:=⟨AI 178 [],([oW c q pos 1 ln,oI r,oC [.ref 0 0],oC [.msl 8 1 0<|((F c.ce:U)+1).toNat],oC [.msl 9 1 0<|((F c.ce:U)+1).toNat],oC [.i o],oC [.i<|H c.ce o.toNat 0],A,oI o4,oI R]:DH)⟩
def zMF(c:AD)(q:AA)(pos:Ξ)(ln:E)(lost:Ξ)(P:Δ)(o4 y:Ξ):DH:=[oW c q pos 1 ln,oI lost,oC [.ref 0 0],oC [.msl 8 1 0<|((F c.ce:U)+1).toNat],oC [.msl 9 1 0<|((F c.ce:U)+1).toNat],A,oC [.i P.1],A,oI o4,oI y]
inductive Nf where
 |s0 (Ga:Ξ)
def s6(c:AD)(q:AA)(pos:Ξ)(ln:E)(lost:Ξ)(P:Δ)(o4:Ξ):Nf->DH
 | .s0 y=>[oW c q pos 1 ln,oI lost,oC [.ref 0 0],oC [.msl 8 1 0<|((F c.ce:U)+1).toNat],oC [.msl 9 1 0<|((F c.ce:U)+1).toNat],A,oC [.i P.1],A,oI o4,oI y]
def aV(n:E)(c:AD)(q:AA)(pos:Ξ)(ln:E)(lost:Ξ)(P:Δ)(o4:Ξ)(x:U)(y:Ξ):M Nf:=u ((0<=x/\x<(F q.va:U))/\AG (P.1+1)/\(0<=(P.1+1)/\(P.1+1)<((((F c.ce:U)+1).toNat:E):U))/\0+(P.1+1).toNat<F y) (B (C<|H q.va x.toNat 0<H y (0+(P.1+1).toNat) 0) (u ((0<=P.1/\P.1<((((F c.ce:U)+1).toNat:E):U))/\0+(P.1).toNat<F y) (Z<|.s0<|y.set (0+(P.1).toNat)<|u (H q.va x.toNat 0>H y (0+(P.1).toNat) 0) (H q.va x.toNat 0)<|H y (0+(P.1).toNat) 0) A)<|Z<|.s0 y) A
def s5(n:E)(c:AD)(q:AA)(pos:Ξ)(ln:E)(lost:Ξ)(P:Δ)(o4:Ξ)(x:U):Nf->M Nf
 | .s0 y=>aV n c q pos ln lost P o4 x y
def Vl(n:E)(c:AD)(q:AA)(pos:Ξ)(ln:E)(lost:Ξ)(P:Δ)(o4:Ξ)(x:U)(s:Nf):M Nf:=s5 n c q pos ln lost P o4 x s
def zFa(n:E)(c:AD)(q:AA)(pos:Ξ)(ln:E)(lost:Ξ)(P:Δ)(o4:Ξ)(l Ϝ:E)(N:Yd 8)(x:U)(s:Nf)(r:Nf)(h:Vl n c q pos ln lost P o4 x s=Z r):TA l Ϝ N (Cw 8 [] 0<|s6 c q pos ln lost P o4 r) Tryz.f139 103 ⟨AI 178 [(1,.ref 2 0),(5,.ref 4 0),(10,.ref 6 0),(103,.it 7),(104,.i x)],s6 c q pos ln lost P o4 s⟩:=by
 cases s with
 |s0 y=>
  replace h:aV n c q pos ln lost P o4 x y=Z r:=h;unfold aV at h;refine ag E2 [0,1,2,3,4,5,6,7,8,9] H0 (AI 178 [(1,.ref 2 0),(5,.ref 4 0),(10,.ref 6 0),(12,.i x)]) (zMF c q pos ln lost P o4 y) λN=>?_
  revert r;apply gO;exact gc<|gi<|gc<|gw 116<|gc<|gi<|gi<|bi 119 (jg zDY<|gc<|gn λK=>jg K<|gn λa=>jg a<|jg K<|jg a<|lF λp=>rr E2 [0,1,2,3,4,5,6,7,8,9] rfl p)<|lF λp=>rr E2 [0,1,2,3,4,5,6,7,8,9] rfl p
inductive MA where
 |s0 (HV:Ξ)
def tC(c:AD)(o:U)(q:AA)(pos:Ξ)(ln:E)(o4 R:Ξ):MA->DH
 | .s0 w=>[oW c q pos 1 ln,oI w,oC [.ref 0 0],oC [.msl 8 1 0<|((F c.ce:U)+1).toNat],oC [.msl 9 1 0<|((F c.ce:U)+1).toNat],oC [.i o],oC [.i<|H c.ce o.toNat 0],A,oI o4,oI R]
def aX(n:E)(c:AD)(o:U)(q:AA)(pos:Ξ)(ln:E)(o4 R:Ξ)(g:U)(w:Ξ):M MA:=u ((0<=g/\g<(F q.va:U))/\(0<=o/\o<((((F c.ce:U)+1).toNat:E):U))/\0+o.toNat<F o4) (B (C<|H q.va g.toNat 0<=H o4 (0+o.toNat) 0) (u (0<=g/\g<=(IntKind.i64.bits:U)) ((D0 n (H c.ce o.toNat 0) (IntKind.i64.wrap<|1*2^(g).toNat) c q pos ln w).bind λr=>Z<|.s0 r) A)<|u (AG (o+1)/\(0<=(o+1)/\(o+1)<((((F c.ce:U)+1).toNat:E):U))/\0+(o+1).toNat<F R) (B (C<|H q.va g.toNat 0>=H R (0+(o+1).toNat) 0) (u (0<=g/\g<=(IntKind.i64.bits:U)) ((D0 n (H c.ce o.toNat 0) (IntKind.i64.wrap<|1*2^(g).toNat) c q pos ln w).bind λr=>Z<|.s0 r) A)<|Z<|.s0 w) A) A
def tB(n:E)(c:AD)(o:U)(q:AA)(pos:Ξ)(ln:E)(o4 R:Ξ)(g:U):MA->M MA
 | .s0 w=>aX n c o q pos ln o4 R g w
def aY(n:E)(c:AD)(o:U)(q:AA)(pos:Ξ)(ln:E)(o4 R:Ξ)(g:U)(s:MA):M MA:=tB n c o q pos ln o4 R g s
def zFc(n:E)(c:AD)(o:U)(q:AA)(pos:Ξ)(ln:E)(o4 R:Ξ)(l Ϝ:E)(N:Yd 8)(g:U)(s:MA)(r:MA)(h:aY n c o q pos ln o4 R g s=Z r):TA l Ϝ N (Cw 8 [] 0<|tC c o q pos ln o4 R r) Tryz.f139 147 ⟨AI 178 [(1,.ref 2 0),(4,.ref 3 0),(5,.ref 4 0),(14,.ref 5 0),(15,.ref 6 0),(133,.ints c.ce),(134,.i (F c.ce:U)),(135,.i o),(147,.it 7),(148,.i g)],tC c o q pos ln o4 R s⟩:=by
 cases s with
 |s0 w=>
  replace h:aX n c o q pos ln o4 R g w=Z r:=h;unfold aX at h;refine ag E2 [0,1,2,3,4,5,6,7,8,9] H0 (AI 178 [(1,.ref 2 0),(4,.ref 3 0),(5,.ref 4 0),(14,.ref 5 0),(15,.ref 6 0),(16,.i g)]) (mU c q pos ln w o o4 R) λN=>?_
  revert r;apply gO;exact gc<|gi<|gc<|gi<|gi<|bi 162 (jg sJ<|gi<|ce G7 [0,1] (mU c q pos ln w o o4 R) λa=>jg (φ<|ZP c q pos ln a o o4 R)<|lF λp=>rr (tg:=[([],ZP c q pos ln a o o4 R)]) E2 [0,1,2,3,4,5,6,7,8,9] rfl p)<|gc<|gw 167<|gc<|gi<|gi<|bi 170 (jg sJ<|gi<|ce G7 [0,1] (mU c q pos ln w o o4 R) λa=>jg (φ<|ZP c q pos ln a o o4 R)<|lF λp=>rr (tg:=[([],ZP c q pos ln a o o4 R)]) E2 [0,1,2,3,4,5,6,7,8,9] rfl p)<|lF λp=>rr E2 [0,1,2,3,4,5,6,7,8,9] rfl p
inductive Ng where
 |s0 (GB:Ξ)
def s8(c:AD)(q:AA)(pos:Ξ)(ln:E)(lost o4:Ξ):Ng->DH
 | .s0 i=>[oW c q pos 1 ln,oI lost,oC [.ref 0 0],oC [.msl 6 1 0<|((F c.ce:U)+1).toNat],oC [.msl 7 1 0<|((F c.ce:U)+1).toNat],A,oI o4,oI i]
def aU(n:E)(c:AD)(q:AA)(pos:Ξ)(ln:E)(lost o4:Ξ)(P:Δ)(i:Ξ):M Ng:=
 if(0<=P.1/\P.1<((((F c.ce:U)+1).toNat:E):U))/\0+(P.1).toNat<F i/\(0<=P.2/\P.2<(F pos:U))/\(0<=H pos (P.2).toNat 0/\H pos (P.2).toNat 0<9223372036854775808)then
  (Bs (Vl n c q pos ln lost P o4) (By<|H pos (P.2).toNat 0)<|.s0<|i.set (0+(P.1).toNat)<|-1).bind λb=>
   match b with
   | .s0 a=>
    Z (.s0 a)
 else A
def sw(n:E)(c:AD)(q:AA)(pos:Ξ)(ln:E)(lost o4:Ξ)(P:Δ):Ng->M Ng
 | .s0 i=>aU n c q pos ln lost o4 P i
def Vm(n:E)(c:AD)(q:AA)(pos:Ξ)(ln:E)(lost o4:Ξ)(P:Δ)(s:Ng):M Ng:=sw n c q pos ln lost o4 P s
def zFZ(n:E)(c:AD)(q:AA)(pos:Ξ)(ln:E)(lost o4:Ξ)(l Ϝ:E)(N:Yd 6)(P:Δ)(s:Ng)(r:Ng)(h:Vm n c q pos ln lost o4 P s=Z r):TA l Ϝ N (Cw 6 [] 0<|s8 c q pos ln lost o4 r) Tryz.f139 90 ⟨AI 178 [(1,.ref 2 0),(4,.ref 3 0),(5,.ref 4 0),(90,.it 5),(91,.i P.1),(92,.i P.2)],s8 c q pos ln lost o4 s⟩:=by
 cases s with
 |s0 a=>
  replace h:aU n c q pos ln lost o4 P a=Z r:=h;unfold aU at h;refine ag E2 [0,1,2,3,4,5,6,7,8] H0.t (AI 178 [(1,.ref 2 0),(5,.ref 4 0),(10,.ref 8 0),(11,.i P.2)]) (zL7 c q pos ln lost o4 a P) λN=>?_
  revert r;apply gO
  exact gc<|gi<|gc<|gi<|gc<|gi<|gn λj=>jc (Lx j<|zMH c q pos ln lost o4 a P) (cn λb k=>λp r h=>by
   refine gs E2 [0,1,2,3,4,5,8,9,6,7] p (Gn (af Tryz.f139 90) 103 []) (AI 178 [(1,.ref 2 0),(5,.ref 4 0),(10,.ref 6 0),(103,.it 7)]) (zMG c q pos ln lost P o4 a) ?_;refine r0 7 103 #[104] BY 8 k (zFa n c q pos ln lost P o4) ?_;cases b with
   |s0 zAT=>
    dsimp only at h
    revert r;apply gO;exact lF λp=>rr E2 [0,1,2,3,4,5,8,9] rfl p)
inductive Nh where
 |s0 (GZ:Ξ)
def tA(c:AD)(N:U)(q:AA)(pos:Ξ)(ln:E)(lost:Ξ):Nh->DH
 | .s0 x=>[oW c q pos 1 ln,oI lost,oC [.ref 0 0],oC [.msl 7 1 0<|((F c.ce:U)+1).toNat],oC [.msl 8 1 0<|((F c.ce:U)+1).toNat],oC [.i N],A,oI x,oI<|(d ((F c.ce:U)+1).toNat (0:U)).set (0+F c.ce) 100]
def aW(n:E)(c:AD)(N:U)(q:AA)(pos:Ξ)(ln:E)(lost:Ξ)(y:U)(x:Ξ):M Nh:=u ((0<=y/\y<(F q.va:U))/\(0<=N/\N<((((F c.ce:U)+1).toNat:E):U))/\0+N.toNat<F x) (B (C<|H q.va y.toNat 0>H x (0+N.toNat) 0) (u (AG (N+1)/\(0<=(N+1)/\(N+1)<((((F c.ce:U)+1).toNat:E):U))/\0+(N+1).toNat<F x) (Z<|.s0<|x.set (0+(N+1).toNat)<|u (H q.va y.toNat 0<H x (0+(N+1).toNat) 0) (H q.va y.toNat 0)<|H x (0+(N+1).toNat) 0) A)<|Z<|.s0 x) A
def s9(n:E)(c:AD)(N:U)(q:AA)(pos:Ξ)(ln:E)(lost:Ξ)(y:U):Nh->M Nh
 | .s0 x=>aW n c N q pos ln lost y x
def Vn(n:E)(c:AD)(N:U)(q:AA)(pos:Ξ)(ln:E)(lost:Ξ)(y:U)(s:Nh):M Nh:=s9 n c N q pos ln lost y s
def zFb(n:E)(c:AD)(a:U)(q:AA)(pos:Ξ)(ln:E)(lost:Ξ)(l Ϝ:E)(N:Yd 7)(y:U)(s:Nh)(r:Nh)(h:Vn n c a q pos ln lost y s=Z r):TA l Ϝ N (Cw 7 [] 0<|tA c a q pos ln lost r) Tryz.f139 57 ⟨AI 178 [(1,.ref 2 0),(4,.ref 3 0),(5,.ref 4 0),(6,.ref 5 0),(39,.ints c.ce),(40,.i (F c.ce:U)),(41,.i a),(57,.it 6),(58,.i y)],tA c a q pos ln lost s⟩:=by
 cases s with
 |s0 x=>
  replace h:aW n c a q pos ln lost y x=Z r:=h;unfold aW at h;refine ag E2 [0,1,2,3,4,5,6,7,8] H0 (AI 178 [(1,.ref 2 0),(4,.ref 3 0),(6,.ref 5 0),(8,.i y)]) (zL8 c q pos ln lost a x) λN=>?_
  revert r;apply gO;exact gc<|gi<|gc<|gi<|gi<|bi 72 (jg zDa<|gc<|gn λQ=>jw 75 Q<|jw 78 Q<|gc<|gn λR=>jg R<|gn λS=>jg S<|jg R<|jg S<|lF λp=>rr E2 [0,1,2,3,4,5,6,7,8] rfl p)<|lF λp=>rr E2 [0,1,2,3,4,5,6,7,8] rfl p
inductive Vo where
 |l1 (Bg:U) (o4:Ξ)
 |l2 (BP:U) (o1 o4 o6:Ξ)
def Vk(n:E)(self:Vo->X6)(c:AD)(q:AA)(pos:Ξ)(ln:E)(lost:Ξ)(N:U)(o4:Ξ):X6:=
 bif(C<|N<(F c.ce:U))then
  if(0<=N/\N<(F c.ce:U))/\AG (N+1)/\(0<=(N+1)/\(N+1)<((((F c.ce:U)+1).toNat:E):U))/\0+(N+1).toNat<F o4/\(0<=H c.ce N.toNat 0/\H c.ce N.toNat 0<(F pos:U))/\(0<=H pos (H c.ce N.toNat 0).toNat 0/\H pos (H c.ce N.toNat 0).toNat 0<9223372036854775808)then
   (Bs (Vn n c N q pos ln lost) (By<|H pos (H c.ce N.toNat 0).toNat 0)<|.s0<|o4.set (0+(N+1).toNat) 100).bind λe=>
    match e with
    | .s0 a=>
     if AG (N+1)then
      self (.l1 (N+1) a)
     else A
  else A
 else
  (back n c.ce).bind λe=>
   (Bs (Vm n c q pos ln lost o4) e<|.s0<|(d ((F c.ce:U)+1).toNat (0:U)).set (0+F c.ce) 100).bind λr=>
    match r with
    | .s0 b=>
     self (.l2 0 lost o4 b)
def aT(n:E)(self:Vo->X6)(c:AD)(q:AA)(pos:Ξ)(ln:E)(lost:Ξ)(o:U)(o1 o4 R:Ξ):X6:=
 bif(C<|o<(F c.ce:U))then
  if(0<=o/\o<(F c.ce:U))/\(0<=H c.ce o.toNat 0/\H c.ce o.toNat 0<(F pos:U))/\(0<=H pos (H c.ce o.toNat 0).toNat 0/\H pos (H c.ce o.toNat 0).toNat 0<9223372036854775808)then
   (Bs (aY n c o q pos ln o4 R) (By<|H pos (H c.ce o.toNat 0).toNat 0)<|.s0 o1).bind λe=>
    match e with
    | .s0 a=>
     if AG (o+1)then
      self (.l2 (o+1) a o4 R)
     else A
  else A
 else
  Z (D,o1)
def su(n:E)(self:Vo->X6)(c:AD)(q:AA)(pos:Ξ)(ln:E)(lost:Ξ):X6:=u (AG ((F c.ce:U)+1)/\(((F c.ce:U)+1:U)=((F c.ce:U)+1)/\(0:U)<=((F c.ce:U)+1)/\((F c.ce:U)+1:U)<=1000000000000)/\((0:U)<=0/\0<((((F c.ce:U)+1).toNat:E):U))/\0+0<F (d ((F c.ce:U)+1).toNat (0:U))/\(0<=(F c.ce:U)/\(F c.ce:U)<((((F c.ce:U)+1).toNat:E):U))/\0+F c.ce<F (d ((F c.ce:U)+1).toNat (0:U))) (self<|.l1 0<|(d ((F c.ce:U)+1).toNat (0:U)).set (0+0)<|-1) A
def I6(c:AD)(q:AA)(pos:Ξ)(ln:E)(lost:Ξ):E->Vo->X6
 |0,_=>A
 |n+1,.l1 N o4=>Vk n (I6 c q pos ln lost n) c q pos ln lost N o4
 |n+1,.l2 o o1 o4 R=>aT n (I6 c q pos ln lost n) c q pos ln lost o o1 o4 R
def Ni(n:E)(c:AD)(q:AA)(pos:Ξ)(ln:E)(lost:Ξ):X6:=su n (I6 c q pos ln lost n) c q pos ln lost
def zFd(n Ϝ:E)(N:Yd 2)(c:AD)(q:AA)(pos:Ξ)(ln:E)(lost:Ξ)(r:ζ×Ξ):Vo->Prop:=px n Ϝ η N (FQ Tryz.f139 2 (.bool r.1) [oW c q pos 1 ln,oI r.2]) (Af Tryz.f139) λ
 | .l1 a o4=>(0,0,AI 178 [(1,.ref 2 0),(4,.ref 3 0),(5,.ref 5 0),(39,.ints c.ce),(40,.i (F c.ce:U)),(41,.i a)],[oW c q pos 1 ln,oI lost,oC [.ref 0 0],oC [.msl 4 1 0<|((F c.ce:U)+1).toNat],oI o4,oC [.msl 6 1 0<|((F c.ce:U)+1).toNat],oI<|(d ((F c.ce:U)+1).toNat (0:U)).set (0+F c.ce) 100])
 | .l2 o o1 o4 R=>(0,8,AI 178 [(1,.ref 2 0),(4,.ref 3 0),(5,.ref 5 0),(133,.ints c.ce),(134,.i (F c.ce:U)),(135,.i o)],[oW c q pos 1 ln,oI o1,oC [.ref 0 0],oC [.msl 4 1 0<|((F c.ce:U)+1).toNat],oI o4,oC [.msl 6 1 0<|((F c.ce:U)+1).toNat],oI R])
def zFe(Ϝ:E)(N:Yd 2)(c:AD)(q:AA)(pos:Ξ)(ln:E)(lost:Ξ):Al (I6 c q pos ln lost) (zFd · Ϝ N c q pos ln lost):=ia (λ_=>rfl) λn G s r h=>by
 cases s
 case l1 Bg o4=>
  intro o j;refine rd j λo j=>?_
  revert r;apply gO
  exact bi 42 (gc (gi (jt (gc (gw 48 (gc (gi (gc (gi (gc (gi (gn λV=>jc (Lx V<|zME c q pos ln lost o4 Bg) (cn λe f=>λp r h=>by
   refine gs E2 [0,1,2,3,5,7,8,4,6] p (Gn (Af Tryz.f139) 57 [o]) (AI 178 [(1,.ref 2 0),(4,.ref 3 0),(5,.ref 4 0),(6,.ref 5 0),(39,.ints c.ce),(40,.i (F c.ce:U)),(41,.i Bg),(57,.it 6)]) (zMD c q pos ln lost Bg o4) ?_;refine r0 6 57 #[58] BY 7 f (zFb n c Bg q pos ln lost) ?_;cases e with
   |s0 a=>
    dsimp only at h
    revert r;apply gO;exact gw 84 (lG E2 [0,1,2,3,7,4,8] (G _ _ · o j))))))))))))))) (cn λe f=>jc (zQg f<|zMC c q pos ln lost o4) (cn λb K=>λp r h=>by
   refine gs E2 [0,1,2,3,5,7,4,6] p (Gn (Af Tryz.f139) 90 []) (AI 178 [(1,.ref 2 0),(4,.ref 3 0),(5,.ref 4 0),(90,.it 5)]) (zMB c q pos ln lost e o4) ?_;refine r0 5 90 #[91,92] Q5 6 K (zFZ n c q pos ln lost o4) ?_;cases b with
   |s0 Ew=>
    dsimp only at h
    revert r;apply gO;exact lN E2 [0,1,2,3,6,4,7] (G _ _ · n χ)))
 case l2 BP o1 o4 o6=>
  intro o j;refine rd j λo j=>?_
  revert r;apply gO
  exact bi 136 (gc (gi (jt (jt (jg zDX (gc (gi (gn λy=>jc (Lx y<|zMA c q pos ln o1 o4 o6 BP) (cn λe f=>λp r h=>by
   refine gs E2 [0,1,2,3,5,7,8,9,4,6] p (Gn (Af Tryz.f139) 147 [o]) (AI 178 [(1,.ref 2 0),(4,.ref 3 0),(5,.ref 4 0),(14,.ref 5 0),(15,.ref 6 0),(133,.ints c.ce),(134,.i (F c.ce:U)),(135,.i BP),(147,.it 7)]) (zL9 c q pos ln o1 BP o4 o6) ?_;refine r0 7 147 #[148] BY 8 f (zFc n c BP q pos ln o4 o6) ?_;cases e with
   |s0 a=>
    dsimp only at h
    revert r;apply gO;exact gw 177 (lG E2 [0,1,2,3,8,4,9] (G _ _ · o j)))))))))))<|lE E2 [2] [0,1]
def zFY{n:E}{c:AD}{q:AA}{pos:Ξ}{ln:E}{lost:Ξ}{r:ζ×Ξ}(h:Ni n c q pos ln lost=Z r):EQ 139 [.ref 0 0] [oW c q pos 1 ln,oI lost] (.bool r.1) [oW c q pos 1 ln,oI r.2] T:=by
 refine ot Tryz.func139 λϜ N=>?_
 revert r;apply gO;exact jg zDZ (gc (gn λj=>jw 25 j (jw 28 j (gc (gn λs=>jg s (jg s (jt (jt (jg (φ<|C8 c q pos ln lost) (jt (jt (jg (φ<|C8 c q pos ln lost) (jg s (jt (jt (jg (φ<|C8 c q pos ln lost) (jg s (jt (jt (jg (φ<|C8 c q pos ln lost) (jt (jg s (jt (jg (φ<|C8 c q pos ln lost) (jg s (jt (jt (jg (φ<|C8 c q pos ln lost) (jg s (jt (jt (jg (φ<|C8 c q pos ln lost) (jt (jg s (jt (jg (φ<|C8 c q pos ln lost) (jg s (jg s (jt (jt (jg (φ<|C8 c q pos ln lost) (jt (jt (jg (φ<|C8 c q pos ln lost) (jg s (jt (jt (jg (φ<|C8 c q pos ln lost) (jg s (jt (jt (jg (φ<|C8 c q pos ln lost) (jg s (jt (jt (jg (φ<|C8 c q pos ln lost) (jg s (jt (jt (jg (φ<|C8 c q pos ln lost) (jg s (jg s (jt (jt (jg (φ<|C8 c q pos ln lost) (jg s (jt (jt (jg (φ<|C8 c q pos ln lost) (jt (jg s (jt (jg (φ<|C8 c q pos ln lost) (jg s (jg s (jt (jt (jg (φ<|C8 c q pos ln lost) (jg s (jt (jt (jg (φ<|C8 c q pos ln lost) (jg s (jg s (jt (jt (jg (φ<|C8 c q pos ln lost) (jt (jg s (jt (jg (φ<|C8 c q pos ln lost) (jg s (jg s (jt (jt (jg (φ<|C8 c q pos ln lost) (jg s (jg s (jt (jt (jg (φ<|C8 c q pos ln lost) (jg s (jt (jt (jg (φ<|C8 c q pos ln lost) (jt (jg s (jt (jg (φ<|C8 c q pos ln lost) (jg s (jg s (jt (jt (jg (φ<|C8 c q pos ln lost) (jg s (jt (jt (jg (φ<|C8 c q pos ln lost) (jg s (jg s (jt (jt (jg (φ<|C8 c q pos ln lost) (jt (jg s (jt (jg (φ<|C8 c q pos ln lost) (jg s (jg s (jt (jt (jg (φ<|C8 c q pos ln lost) (jg zDW (gc (gi (gc (gi (gc (gi (gi (jg (φ<|qF c q pos ln lost) (lN (tg:=[([],C8 c q pos ln lost),([(4,3)],qF c q pos ln lost)]) E2 [0,1,2,5,3,6,4] ((zFe Ϝ N c q pos ln lost n) _ _ · n χ)))))))))))))))))))))))))))))))))))))))))))))))))))))))))))))))))))))))))))))))))))))))))))))))))))))))))))))))))))))))))))))))))))))))))))))))
end
section
variable{a:U}{i:E}{l:Ξ}
theorem Mr(h:i<F l):H (l.set i a) i 0=a:=by
 grind
theorem getD_set_ne{j:E}(h:i≠j):H (l.set i a) j 0=H l j 0:=by
 grind
def Kd(q:AA)(b a e:U):U:=u (H q.va e.toNat 0>b) (u (H q.va e.toNat 0<a) (H q.va e.toNat 0) a) a
def KH(q:AA)(b a e:U):U:=u (H q.va e.toNat 0<b) (u (H q.va e.toNat 0>a) (H q.va e.toNat 0) a) a
def IM(q:AA)(c:AD)(pos:Ξ):E->U
 |0=>-1
 |i+1=>(By<|AY c pos i).foldl (Kd q<|IM q c pos i) 100
def KV(q:AA)(c:AD)(pos:Ξ):E->U
 |0=>100
 |m+1=>(By<|AY c pos<|F c.ce-1-m).foldl (KH q<|KV q c pos m)<|-1
def Lk(q:AA)(c:AD)(pos:Ξ)(i:E):U:=KV q c pos<|F c.ce-i
def Jr(q:AA)(c:AD)(pos:Ξ)(a s:E):ζ:=C (H q.va s 0<=IM q c pos a)||C (H q.va s 0>=Lk q c pos (a+1))
def Ui(l:Ξ):E->O Δ
 |0=>[]
 |m+1=>((m:U),H l m 0)::Ui l m
theorem zAQ :∀(m n:E),m<=F l->F l<=LB->m+1<=n->O9 l n (.l1<|(m:U)-1)=Z (Ui l m)
 |0,n,_,_,a=>by
  obtain⟨n,rfl⟩:∃k,n=k+1:=⟨n-1,Z2⟩
  simp_all[Ug,O9,Ui]
 |m+1,n,hm,q,a=>by
  obtain⟨n,rfl⟩:∃k,n=k+1:=⟨n-1,Z2⟩;have e:((m+1:E):U)-1=(m:U):=Z2
  have hb:LB<=9223372036854775807:=Z6
  rw[e]
  show Ug n (O9 l n) l _=_
  unfold Ug;rw[zAB Z2,zAG,zAF ⟨Z2,Z2⟩,zAF<|AZ.2 ⟨Z2,Z2⟩,zAQ m n Z2 q Z2,u8];rfl
def zQd{n:E}(q:F l<=LB)(a:F l+1<=n):back n l=Z (Ui l<|F l):=by
 have hb:LB<=9223372036854775807:=Z6
 unfold back oh;rw[zAF<|AZ.2 ⟨Z2,Z2⟩,zAQ (F l) n (zI1 _) q a]
section
variable{c:AD}{k:E}{pos lost:Ξ}{q:AA}
variable{o:Ξ}{n ln:E}
theorem sn{i:E}(r:F c.ce<=256)(hi:i<F c.ce)(K:F o=F c.ce+1):∀(l:Ξ) (a:U),(∀e∈l,0<=e/\e<((F q.va:E):U))->
 Bs (Vn n c (i:U) q pos ln lost) l (.s0<|o.set (i+1) a)=Z (.s0<|o.set (i+1)<|l.foldl (Kd q<|H o i 0) a)
 |[],_,_=>rfl
 |e::l,a,h=>by
  have p:((((F c.ce:E):U)+1).toNat:E)=F c.ce+1:=Z2
  have N:(((i:U)+1).toNat:E)=i+1:=Z2
  have R:Vn n c (i:U) q pos ln lost e (.s0<|o.set (i+1) a)=Z (.s0<|o.set (i+1)<|Kd q (H o i 0) a e):=by
   unfold Vn s9 aW
   dsimp only
   simp only[u8,p,N,zKx,zKy,K];rw[zAF ⟨h e<|.head _,Z2,Z2⟩,getD_set_ne Z2,Mr Z2,List.set_set];unfold Kd
   by_cases P:H q.va e.toNat 0>H o i 0
   ·rw[zAB P,zAG,zAF ⟨AZ.2 ⟨Z2,Z2⟩,Z2,Z2⟩,zAF P]
   grind
  simp only[Bs];rw[R,zAC,sn r hi K l _ λe b=>h e<|.tail _ b];rfl
variable{o4:Ξ}{x:U}
theorem sq{i:E}(r:F c.ce<=256)(hi:i<F c.ce)(K:F o=F c.ce+1):∀(l:Ξ) (a:U),(∀e∈l,0<=e/\e<((F q.va:E):U))->
 Bs (Vl n c q pos ln lost ((i:U),x) o4) l (.s0<|o.set i a)=Z (.s0<|o.set i<|l.foldl (KH q<|H o (i+1) 0) a)
 |[],_,_=>rfl
 |e::l,a,h=>by
  have p:((((F c.ce:E):U)+1).toNat:E)=F c.ce+1:=Z2
  have N:(((i:U)+1).toNat:E)=i+1:=Z2
  have R:Vl n c q pos ln lost ((i:U),x) o4 e (.s0<|o.set i a)=Z (.s0<|o.set i<|KH q (H o (i+1) 0) a e):=by
   unfold Vl s5 aV
   dsimp only
   simp only[u8,p,N,zKx,zKy,K];rw[zAF ⟨h e<|.head _,AZ.2 ⟨Z2,Z2⟩,Z2,Z2⟩,getD_set_ne Z2,Mr Z2,List.set_set];unfold KH
   grind
  simp only[Bs];rw[R,zAC,sq r hi K l _ λe b=>h e<|.tail _ b];rfl
theorem Sm.i63(f:k<=16)(h:Sm k x):0<=x/\x<9223372036854775808:=by
 have h1:=K6 (k:=k)<|zIX f Z6
 grind[Sm]
theorem sr(W:Ca c k pos)(V:D6 q k):∀(m:E) (o:Ξ),m<=F c.ce->F o=F c.ce+1->(∀j,m<=j->j<=F c.ce->H o j 0=Lk q c pos j)->
 ∃o',Bs (Vm n c q pos (F pos) lost o4) (Ui c.ce m) (.s0 o)=Z (.s0 o')/\F o'=F c.ce+1/\∀j,j<=F c.ce->H o' j 0=Lk q c pos j
 |0,o,_,K,h=>⟨o,rfl,K,λj l=>h j (zK5 _) l⟩
 |m+1,o,P,K,h=>by
  have hc:=W.ce m Z2;have b:=W.at (a:=m) Z2;have r:=W.len;have p:((((F c.ce:E):U)+1).toNat:E)=F c.ce+1:=Z2
  have R:Vm n c q pos (F pos) lost o4 ((m:U),H c.ce m 0) (.s0 o)=Z (.s0<|o.set m<|Lk q c pos m):=by
   unfold Vm sw aU
   dsimp only
   simp only[u8,p,zKx];rw[zAF ⟨Z2,Z2,hc,b.i63 W.k⟩];refine(congrArg (λz=>Option.bind z _)<|sq r Z2 K (By<|AY c pos m) (-1) λe f=>(V.sym W.k b e f).1).trans ?_;rw[zAC]
   have X:Lk q c pos m=(By<|AY c pos m).foldl (KH q<|H o (m+1) 0) (-1):=by
    rw[h (m+1) (zI1 _) P];unfold Lk;rw[show F c.ce-m=F c.ce-(m+1)+1 by omega]
    grind[KV]
   rw[X]
  obtain⟨o',g,i,s⟩:=sr W V m (o.set m<|Lk q c pos m) Z2 (by rw[zKy];exact K) λj l XP=>by
   grind
  refine⟨o',?_,i,s⟩;simp only[Ui,Bs];rw[R,zAC,g]
theorem zFU{R:Ξ}(W:Ca c k pos)(V:D6 q k)(e:F o4=F c.ce+1)(p:F R=F c.ce+1)(hb:∀j,j<=F c.ce->H o4 j 0=IM q c pos j)(ha:∀j,j<=F c.ce->H R j 0=Lk q c pos j)(b:F lost=F pos)(hn:F c.ce+1<=n):
 ∃l,I6 c q pos (F pos) lost n (.l2 0 lost o4 R)=Z (D,l)/\B4 c pos lost (F c.ce) (λa s=>Jr q c pos a s=D) l:=by
 have P:∀i,i<F c.ce->((i:E):U)<((F c.ce:E):U):=λi hi=>Z2
 have h:((((F c.ce:E):U)+1).toNat:E)=F c.ce+1:=Z2
 have Ap:=W.len
 have ϑ:=Ih (λn (s:Ξ) i=>I6 c q pos (F pos) lost n<|.l2 i s o4 R) (F c.ce) 1
  (λi s=>B4 c pos lost i (λa s=>Jr q c pos a s=D) s) (λn i s G9 hi m=>?_) (n:=n) (s:=lost) Z2 (B4.zero b)
 ·obtain⟨f,l,Of,_,X,hL⟩:=ϑ;obtain⟨g,rfl⟩:∃g,f=g+1:=⟨f-1,Z2⟩
  simp_all[aT,I6]
 ·have hc:=W.ce i hi;have hr:=W.r64 hi;have o:=W.at hi;have N:(((i:U)+1).toNat:E)=i+1:=Z2
  obtain⟨l',r,t,I⟩:=v8 (n:=n) (q:=q) W hi m.1 MA.s0 (aY n c (i:U) q pos (F pos) o4 R) (Jr q c pos i) λs l hs b=>by
   have Fn:=V.len;have g1:(0:U)<=(s:U)/\(s:U)<((F q.va:E):U):=Z2
   have hk:=W.k;have g2:(0:U)<=(s:U)/\(s:U)<=((IntKind.i64.bits:E):U):=⟨Z2,by show(s:U)<=64;omega⟩;obtain⟨l2,X,_,_⟩:=MU (lost:=l) (n:=n) (ss:=IntKind.i64.wrap<|1*2^s) (c:=c) (q:=q) hc.1 hc.2 b;unfold Jr aY tB aX
   dsimp only
   simp only[u8,h,N,zKx,e,p]
   grind
  show∃s',aT n (I6 c q pos (F pos) lost n) c q pos (F pos) lost (i:U) s o4 R=_/\_
  unfold aT;rw[zAB<|P i hi,zAG];simp only[u8];rw[zAF ⟨⟨Z2,P i hi⟩,hc,o.i63 W.k⟩];refine⟨l',?_,m.step t I⟩;refine(congrArg (λz=>Option.bind z _) r).trans ?_
  grind
theorem zFV(W:Ca c k pos)(V:D6 q k)(v:F lost=F pos)(hn:2*F c.ce+3<=n):
 ∃l,Ni n c q pos (F pos) lost=Z (D,l)/\B4 c pos lost (F c.ce) (λa s=>Jr q c pos a s=D) l:=by
 have P:∀i,i<F c.ce->((i:E):U)<((F c.ce:E):U):=λi hi=>Z2
 have p:((((F c.ce:E):U)+1).toNat:E)=F c.ce+1:=Z2
 have r:=W.len
 have S:=Ih (λn (s:Ξ) i=>I6 c q pos (F pos) lost n<|.l1 i s) (F c.ce) (F c.ce+3)
  (λi s=>F s=F c.ce+1/\∀j,j<=i->H s j 0=IM q c pos j) (λn i s _ hi w=>?_) (n:=n) (s:=(d (F c.ce+1) (0:U)).set 0<|-1) Z2 ⟨Z3,λj f=>?_⟩
 ·obtain⟨m,o4,Hg,_,R,g,h⟩:=S;obtain⟨b,rfl⟩:∃b,m=b+1:=⟨m-1,Z2⟩
  have J:Ni n c q pos (F pos) lost=I6 c q pos (F pos) lost n (.l1 0<|(d (F c.ce+1) (0:U)).set 0<|-1):=by
   unfold Ni su;simp only[p,zKx,zK7];rw[zAF ⟨AZ.2 ⟨Z2,Z2⟩,⟨trivial,Z2,Z2⟩,⟨Z2,Z2⟩,Z2,⟨Z2,Z2⟩,Z2⟩]
  have X:Ni n c q pos (F pos) lost=Vk b (I6 c q pos (F pos) lost b) c q pos (F pos) lost (F c.ce:U) o4:=J.trans R;unfold Vk at X;rw[zAE Z2,zAD,zQd (zIX r Z6) Z2,zAC]at X;simp only[p,zKx]at X
  obtain⟨o6,x,y,G⟩:=sr (lost:=lost) (n:=b) (o4:=o4) W V (F c.ce) ((d (F c.ce+1) (0:U)).set (F c.ce) 100) (zI1 _) Z3 λj f XP=>by
   obtain rfl:j=F c.ce:=Z2
   rw[Mr Z3];unfold Lk;rw[Nat.sub_self];rfl
  rw[x,zAC]at X;obtain⟨l,I,N⟩:=zFU (n:=b) W V g y (λj f=>h j f) G v Z2;exact⟨l,X.trans I,N⟩
 ·obtain⟨g,h⟩:=w;have hc:=W.ce i hi;have o:=W.r64 hi;have t:=W.at hi;have K:(((i:U)+1).toNat:E)=i+1:=Z2
  show∃s',Vk n (I6 c q pos (F pos) lost n) c q pos (F pos) lost (i:U) s=_/\_
  unfold Vk;rw[zAB<|P i hi,zAG];simp only[u8,p,K,zKx];rw[zAF ⟨⟨Z2,P i hi⟩,o.2,Z2,Z2,hc,t.i63 W.k⟩];refine⟨s.set (i+1)<|IM q c pos<|i+1,?_,by rw[zKy];exact g,λj f=>?_⟩
  ·refine(congrArg (λz=>Option.bind z _)<|sn r hi g (By<|AY c pos i) 100 λe Q=>(V.sym W.k t e Q).1).trans ?_;rw[zAC];simp only;rw[zAF o.2,h i<|zI1 _];rfl
  grind
 ·obtain rfl:j=0:=Z2
  rw[Mr Z3];rfl
end
end
section
variable{k:E}
theorem uy{r v:Type}(i:Ξ->U->U->r)(N:Ξ->U->U->v)(I:U->U->r->M r)(V:U->v->M v)(ok:E->E->ζ){a b:U}(j:Sm k a)(n:Sm k b)(G:k<=16)
 (J:∀(s t:E) (l:Ξ) (x y:U),s<k->t<k->I s t (i l x y)=Z (B (ok s t) (i l (bits .or .i64 x<|IntKind.i64.wrap<|1*2^s)<|bits .or .i64 y<|IntKind.i64.wrap<|1*2^t)<|i l x y))
 (h2:∀(s:E) (l:Ξ) (x y x' c:U),s<k->Bs (I s) (By b) (i l x y)=Z (i l x' c)->V s (N l x y)=Z (N l x' c)) (l:Ξ):
 ∃x y,Bs V (By a) (N l 0 0)=Z (N l x y)/\(∀ϛ,tb x ϛ=D↔tb a ϛ=D/\∃t,tb b t=D/\ok ϛ t=D)/\(∀ϛ,tb y ϛ=D↔tb b ϛ=D/\∃s,tb a s=D/\ok s ϛ=D):=by
 have g:k<=62:=zIX G Z6
 have w:∀(s:E) (x y:U),s<k->∃x' c,Bs (I s) (By b) (i l x y)=Z (i l x' c)/\(∀ϛ,tb x' ϛ=D↔tb x ϛ=D∨(ϛ=s/\∃t,tb b t=D/\ok s t=D))/\(∀ϛ,tb c ϛ=D↔tb y ϛ=D∨(tb b ϛ=D/\ok s ϛ=D)):=by
  intro s x y q
  have key:=fF (f:=I s) (λpre st=>∃x' c,st=i l x' c/\(∀ϛ,tb x' ϛ=D↔tb x ϛ=D∨(ϛ=s/\∃t:E,(t:U)∈pre/\ok s t=D))/\(∀ϛ:E,tb c ϛ=D↔tb y ϛ=D∨((ϛ:U)∈pre/\ok s ϛ=D)))
   (By b) [] (i l x y) ⟨x,y,rfl,λϛ=>⟨.inl,λh=>h.elim id λ⟨_,t,h,_⟩=>by cases h⟩,λϛ=>⟨.inl,λh=>h.elim id λ⟨h,_⟩=>by cases h⟩⟩ ?_
  ·obtain⟨st,e,x',c,rfl,o,hy⟩:=key;refine⟨x',c,e,λϛ=>?_,λϛ=>?_⟩
   ·rw[o,zLP];constructor
    ·rintro(h|⟨R,t,h,m⟩)
     ·exact .inl h
     ·obtain⟨K,X,_,W⟩:=(Fk n g).1 h;have:t=K:=Z2
      grind
    ·rintro(h|⟨R,t,h,m⟩)
     ·exact .inl h
     ·exact .inr ⟨R,t,(Fk n g).2 ⟨t,rfl,zK4 λp=>(by rw[n.hi p]at h;cases h),h⟩,m⟩
   ·rw[hy,zLP];constructor
    ·rintro(h|⟨h,m⟩)
     ·exact .inl h
     ·obtain⟨K,X,_,W⟩:=(Fk n g).1 h;have:ϛ=K:=Z2
      grind
    ·rintro(h|⟨h,m⟩)
     ·exact .inl h
     ·exact .inr ⟨(Fk n g).2 ⟨ϛ,rfl,zK4 λp=>(by rw[n.hi p]at h;cases h),h⟩,m⟩
  ·rintro pre e _ z ⟨x',c,rfl,o,hy⟩;obtain⟨t,rfl,P,_⟩:=(Fk n g).1 z;rw[J s t l x' c q P];cases ho:ok s t
   ·grind
   ·refine⟨_,rfl,_,_,rfl,λϛ=>?_,λϛ=>?_⟩
    ·rw[Ke,zKu,o,Hu Z2,zKv]
     grind
    ·rw[Ke,zKu,hy,Hu Z2,zKv]
     grind
 have key:=fF (f:=V) (λpre st=>∃x y,st=N l x y/\(∀ϛ:E,tb x ϛ=D↔(ϛ:U)∈pre/\∃t,tb b t=D/\ok ϛ t=D)/\(∀ϛ,tb y ϛ=D↔tb b ϛ=D/\∃s:E,(s:U)∈pre/\ok s ϛ=D))
  (By a) [] (N l 0 0) ⟨0,0,rfl,λϛ=>⟨λh=>τ h NK,λ⟨h,_⟩=>by cases h⟩,λϛ=>⟨λh=>τ h NK,λ⟨_,s,h,_⟩=>by cases h⟩⟩ ?_
 ·obtain⟨st,e,x,y,rfl,o,hy⟩:=key;refine⟨x,y,e,λϛ=>?_,λϛ=>?_⟩
  ·rw[o,zLP];constructor
   ·rintro⟨h,h2⟩;obtain⟨K,X,_,W⟩:=(Fk j g).1 h;have:ϛ=K:=Z2
    grind
   ·rintro⟨h,h2⟩;exact⟨(Fk j g).2 ⟨ϛ,rfl,zK4 λp=>(by rw[j.hi p]at h;cases h),h⟩,h2⟩
  ·rw[hy,zLP];constructor
   ·rintro⟨h0,s,h,m⟩;obtain⟨K,X,_,W⟩:=(Fk j g).1 h;have:s=K:=Z2
    grind
   ·rintro⟨h0,s,h,m⟩;exact⟨h0,s,(Fk j g).2 ⟨s,rfl,zK4 λp=>(by rw[j.hi p]at h;cases h),h⟩,m⟩
 ·rintro pre e _ z ⟨x,y,rfl,o,hy⟩;obtain⟨s,rfl,q,_⟩:=(Fk j g).1 z;obtain⟨x',c,R,S,Q⟩:=w s x y q;refine⟨_,h2 s l x y x' c q R,x',c,rfl,λϛ=>?_,λϛ=>?_⟩
  ·rw[S,o];constructor
   ·grind
   ·rintro⟨h,h2⟩;rcases zNa.1 h with h|h
    ·exact .inl ⟨h,h2⟩
    ·have:ϛ=s:=Z4
     grind
  ·rw[Q,hy];constructor
   ·grind
   ·rintro⟨h,Y,h2,m⟩;rcases zNa.1 h2 with h2|h2
    ·grind
    ·have:Y=s:=Z4
     grind
end
theorem Ue{s:E}(p:s<64)(x:U):(bits .and .i64 (IntKind.i64.wrap<|1*2^s) x==0)= !tb x s:=by
 rw[zLX,zKq,NJ<|D5 _ _ _];constructor
 ·intro h;have:=h s p;rw[FG,Hu p,zAB rfl,zM4]at this;rw[this];rfl
 grind[FG,Hu]
def Ge(q:AA)(c:AD)(s t:E):ζ:=C<|(u (0-(H q.va s 0-H q.va t 0)>H q.va s 0-H q.va t 0) (0-(H q.va s 0-H q.va t 0))<|H q.va s 0-H q.va t 0)>=c.lo
def GC(c:AD)(s t:E):ζ:=(!tb c.set s|| !tb c.other t)&&(!tb c.set t|| !tb c.other s)
def HZ(ok:E->E->ζ)(c:AD)(pos:Ξ)(a s:E):Prop:=u (a=0) (¬∃t,tb (AY c pos 1) t=D/\ok s t=D)<|¬∃t,tb (AY c pos 0) t=D/\ok t s=D
section
variable{c:AD}{k:E}{pos lost:Ξ}{q:AA}
variable{s t n ln:E}
theorem zQx(V:D6 q k)(p:s<k)(o:t<k):iC n s t c q pos ln lost=Z (Ge q c s t,lost):=by
 have h1:=V.val s p;have h2:=V.val t o;have h3:=V.len;unfold iC zAk;simp only[u8];rw[zAF ⟨Z2,Z2,AZ.2 ⟨Z2,Z2⟩,AZ.2 ⟨Z2,Z2⟩⟩];rfl
theorem zIa(p:s<64)(o:t<64):cS n s t c q pos ln lost=Z (GC c s t,lost):=by
 have g:∀s:E,s<64->(0:U)<=(s:U)/\(s:U)<=((IntKind.i64.bits:E):U):=λs p=>⟨Z2,by show(s:U)<=64;omega⟩
 unfold cS vS;simp only[u8];rw[zAF ⟨g s p,g t o⟩,Ue p,Ue p,Ue o,Ue o]
 grind[GC]
theorem uz(W:Ca c k pos)(f:F c.ce=2)(e:F lost=F pos)(ok:E->E->ζ){x y:U}
 (hx:∀ϛ,tb x ϛ=D↔tb (AY c pos 0) ϛ=D/\∃t,tb (AY c pos 1) t=D/\ok ϛ t=D) (hy:∀ϛ,tb y ϛ=D↔tb (AY c pos 1) ϛ=D/\∃s,tb (AY c pos 0) s=D/\ok s ϛ=D):
 ∃R l,D0 n (H c.ce 0 0) (bits .xor .i64 (-1) x) c q pos (F pos) lost=Z R/\D0 n (H c.ce 1 0) (bits .xor .i64 (-1) y) c q pos (F pos) R=Z l/\B4 c pos lost (F c.ce) (HZ ok c pos) l:=by
 have Y:=W.ce 0 Z2;have Q:=W.ce 1 Z2;obtain⟨R,o,g,I⟩:=MU (lost:=lost) (n:=n) (ss:=bits .xor .i64 (-1) x) (c:=c) (q:=q) Y.1 Y.2 e;obtain⟨l,X,p,V⟩:=MU (lost:=R) (n:=n) (ss:=bits .xor .i64 (-1) y) (c:=c) (q:=q) Q.1 Q.2 g;refine⟨R,l,o,X,?_⟩;have P:∀{a:E} {s:E},a<F c.ce->tb (AY c pos a) s=D->s<64:=λ{a s} ha h=>zK4 λK=>by rw[Uw K]at h;cases h
 rw[f];refine B4.step (i:=1) (l:=R) (B4.step (i:=0) (l:=lost) (B4.zero e) g λj s=>?_) p λj s=>?_
 ·rw[I,zKu,zAx,zAx,zKv];constructor
  ·rintro(h|⟨rfl,m,b⟩)
   ·exact .inl h
   ·refine .inr ⟨rfl,m,?_⟩;rw[ZR _<|P (a:=0) Z2 m]at b;unfold HZ
    grind[AY]
  ·rintro(h|⟨rfl,m,b⟩)
   ·exact .inl h
   ·refine .inr ⟨rfl,m,?_⟩
    grind[ZR,HZ]
 ·rw[V,zKu,zAx,zAx,zKv];constructor
  ·rintro(h|⟨rfl,m,b⟩)
   ·exact .inl h
   ·refine .inr ⟨rfl,m,?_⟩;rw[ZR _<|P (a:=1) Z2 m]at b;unfold HZ
    grind[AY]
  ·rintro(h|⟨rfl,m,b⟩)
   ·exact .inl h
   ·refine .inr ⟨rfl,m,?_⟩
    grind[ZR,HZ]
theorem zQy(W:Ca c k pos)(V:D6 q k)(h:F c.ce=2)(i:F lost=F pos):
 ∃l,Rf n c q pos (F pos) lost=Z (D,l)/\B4 c pos lost (F c.ce) (HZ (Ge q c) c pos) l:=by
 have Y:=W.ce 0 Z2;have Q:=W.ce 1 Z2;have N:=W.at (a:=0) Z2;have b:=W.at (a:=1) Z2;have f:=W.k;have g:∀s:E,s<k->(0:U)<=(s:U)/\(s:U)<=((IntKind.i64.bits:E):U):=λs p=>⟨Z2,by show(s:U)<=64;omega⟩
 obtain⟨x,y,e,j,hy⟩:=uy MI.s0 MJ.s0 (cE n c q pos<|F pos) (cF n c q pos<|F pos) (Ge q c) N b f
  (λs t l x y p ht=>by
   grind[cE,vB,cD,zQx])
  (λs l x y x' y' p he=>by
   unfold cF vA cC
   dsimp only
   rw[zAF<|show 0<=H pos (H c.ce 1 0).toNat 0/\H pos (H c.ce 1 0).toNat 0<9223372036854775808 from b.i63 f]
   grind[AY]) lost
 obtain⟨l1,l,e1,e2,m⟩:=uz (n:=n) (q:=q) W h i (Ge q c) j hy;refine⟨l,?_,m⟩;unfold Rf pG ke u9;rw[zAF ⟨Z2,Z2,Y,Q,N.i63 f⟩];refine(congrArg (λz=>Option.bind (Option.bind z _) _) e).trans ?_
 grind
theorem zIb(W:Ca c k pos)(h:F c.ce=2)(i:F lost=F pos):
 ∃l,QI n c q pos (F pos) lost=Z (D,l)/\B4 c pos lost (F c.ce) (HZ (GC c) c pos) l:=by
 have Y:=W.ce 0 Z2;have Q:=W.ce 1 Z2;have N:=W.at (a:=0) Z2;have b:=W.at (a:=1) Z2;have f:=W.k;have g:∀s:E,s<k->(0:U)<=(s:U)/\(s:U)<=((IntKind.i64.bits:E):U):=λs p=>⟨Z2,by show(s:U)<=64;omega⟩
 obtain⟨x,y,e,j,hy⟩:=uy MG.s0 MH.s0 (b9 n c q pos<|F pos) (cA n c q pos<|F pos) (GC c) N b f
  (λs t l x y p ht=>by
   grind[b9,u5,bz,zIa])
  (λs l x y x' y' p he=>by
   unfold cA u4 bx
   dsimp only
   rw[zAF<|show 0<=H pos (H c.ce 1 0).toNat 0/\H pos (H c.ce 1 0).toNat 0<9223372036854775808 from b.i63 f]
   grind[AY]) lost
 obtain⟨l1,l,e1,e2,m⟩:=uz (n:=n) (q:=q) W h i (GC c) j hy;refine⟨l,?_,m⟩;unfold QI kw kZ u0;rw[zAF ⟨Z2,Z2,Y,Q,N.i63 f⟩];refine(congrArg (λz=>Option.bind (Option.bind z _) _) e).trans ?_
 grind
end
section
set_option maxRecDepth 100000
set_option maxHeartbeats 40000000
def qf:ST:=.rd 0<|.rd 1<|.rd 2<|.rd 3<|.rd 4<|.rd 6<|.rd 7<|.rd 8<|.rd 9<|.rd 10<|.ef 5 (.rd 12<|.ef 11 (.rd 13<|.fin [0,1] [0,2,3])<|.no)<|.ef 11 (.ef 5 (.rd 12<|.rd 13<|.fin [1,0] [0,2,3])<|.no)<|.no
def zEA:B3 (Ah Tryz.f179 1) [5,11] qf:=Z1
def qe:ST:=.rd 0<|.rd 1<|.rd 2<|.rd 3<|.rd 4<|.rd 5<|.rd 6<|.rd 7<|.rd 8<|.rd 9<|.rd 10<|.rd 11<|.rd 12<|.rd 13<|.rd 14<|.rd 15<|.rd 16<|.rd 17<|.rd 18<|.rd 19<|.rd 20<|.rd 21<|.rd 22<|.rd 23<|.rd 24<|.rd 25<|.rd 26<|.rd 27<|.rd 28<|.rd 29<|.rd 30<|.rd 31<|.rd 32<|.ef 33 (.rd 34<|.ef 35 (.fin [] [0,2,3,30,31,32])<|.no)<|.no
def zD9:B3 (Ah Tryz.f179 5) [33] qe:=Z1
def Kh:BG:=λi=>match i with
 |1=>.tre [5,11] qf
 |5=>.tre [33] qe
 |_=>.no
def ii(pos:Ξ)(c:AD)(q:AA)(ln:E)(lost:Ξ):St:=⟨AI 120 [(0,.ref 0 0),(2,.msl 2 1 0<|F pos),(3,.msl 3 1 0<|F pos)],([oW c q pos 1 ln,oI lost,Z<|.bools<|d (F pos) T,Z<|.bools<|d (F pos) T]:DH)⟩
def qH(pos:Ξ)(c:AD)(Q:U)(q:AA)(ln:E)(lost:Ξ)(g o3:Ω):St:=⟨AI 120 [(0,.ref 0 0),(2,.msl 2 1 0<|F pos),(3,.msl 3 1 0<|F pos),(30,.ints c.ce),(31,.i (F c.ce:U)),(32,.i Q)],([oW c q pos 1 ln,oI lost,Z<|.bools<|g.set (0+(H c.ce Q.toNat 0).toNat)<|bits .and .i64 (H pos (H c.ce Q.toNat 0).toNat 0) c.set != 0,Z<|.bools<|o3.set (0+(H c.ce Q.toNat 0).toNat)<|bits .andNot .i64 (H pos (H c.ce Q.toNat 0).toNat 0) c.set==0]:DH)⟩
def xM(c:AD)(q:AA)(pos:Ξ)(ln:E)(lost:Ξ)(g o3:Ω):DH:=[oW c q pos 1 ln,oI lost,Z<|.bools g,Z<|.bools o3]
def xL(c:AD)(q:AA)(pos:Ξ)(ln:E)(lost:Ξ)(o3:Ω)(r:Ω):DH:=[oW c q pos 1 ln,oI lost,A,Z<|.bools o3,Z<|.bools r]
inductive TS where
 |l1 (De:U) (o2 o3:Ω)
 |l2 (F2:Ω) (x8:E) (Iv:Ξ) (NC HJ:U) (o2 o3:Ω)
 |l3 (F2:Ω) (x8:E) (Lu Gq:U) (o1:Ξ) (o2 o3:Ω)
def cX(n:E)(self:TS->X2)(c:AD)(q:AA)(pos:Ξ)(ln:E)(lost:Ξ)(Q:U)(g o3:Ω):X2:=B (C<|Q<(F c.ce:U)) (u ((0<=Q/\Q<(F c.ce:U))/\(0<=H c.ce Q.toNat 0/\H c.ce Q.toNat 0<(F pos:U))/\0+(H c.ce Q.toNat 0).toNat<F g/\0+(H c.ce Q.toNat 0).toNat<F o3/\AG (Q+1)) (self<|.l1 (Q+1) (g.set (0+(H c.ce Q.toNat 0).toNat)<|bits .and .i64 (H pos (H c.ce Q.toNat 0).toNat 0) c.set != 0)<|o3.set (0+(H c.ce Q.toNat 0).toNat)<|bits .andNot .i64 (H pos (H c.ce Q.toNat 0).toNat 0) c.set==0) A)<|u (F pos=F o3) ((dj n o3 D).bind λe=>B (C<|e<0) (u (F pos=F g) (Z (g,o3,T,lost)) A)<|u (F pos=F g) ((RG n g).bind λr=>(UZ n q.nb g e).bind λy3=>self<|.l2 g (F r) y3.1 (F y3.1:U) 0 o3 r) A) A
def WY(n:E)(self:TS->X2)(c:AD)(q:AA)(pos:Ξ)(ln:E)(lost:Ξ)(a:Ω)(x8:E)(s:Ξ)(w z:U)(g o3:Ω):X2:=B (C<|z<w) (u ((0<=z/\z<(F s:U))/\(0<=H s z.toNat 0/\H s z.toNat 0<(x8:U))/\0+(H s z.toNat 0).toNat<F o3/\AG (z+1)) (self<|.l2 a x8 s w (z+1) g<|o3.set (0+(H s z.toNat 0).toNat) T) A)<|self<|.l3 a x8 (x8:U) 0 lost g o3
def cW(n:E)(self:TS->X2)(c:AD)(q:AA)(pos:Ξ)(ln:E)(lost:Ξ)(z:Ω)(x8:E)(a b:U)(o1:Ξ)(g o3:Ω):X2:=B (C<|b<a) (u ((0<=b/\b<(x8:U))/\0+b.toNat<F o3) (B (H o3 (0+b.toNat) T) ((D0 n b c.set c q pos ln o1).bind λe=>u (AG<|b+1) (self<|.l3 z x8 a (b+1) e g o3) A)<|u (AG<|b+1) (self<|.l3 z x8 a (b+1) o1 g o3) A) A)<|u (F pos=F g) (Z (z,g,D,o1)) A
def vY(n:E)(self:TS->X2)(c:AD)(q:AA)(pos:Ξ)(ln:E)(lost:Ξ):X2:=u (((F pos:U):U)=(F pos:U)/\0<=(F pos:U)/\((F pos:U):U)<=1000000000000) (self<|.l1 0 (d (F pos) T)<|d (F pos) T) A
def FK(c:AD)(q:AA)(pos:Ξ)(ln:E)(lost:Ξ):E->TS->X2
 |0,_=>A
 |n+1,.l1 Q g o3=>cX n (FK c q pos ln lost n) c q pos ln lost Q g o3
 |n+1,.l2 z x8 s w a g o3=>WY n (FK c q pos ln lost n) c q pos ln lost z x8 s w a g o3
 |n+1,.l3 z x8 b e o1 g o3=>cW n (FK c q pos ln lost n) c q pos ln lost z x8 b e o1 g o3
def QJ(n:E)(c:AD)(q:AA)(pos:Ξ)(ln:E)(lost:Ξ):X2:=vY n (FK c q pos ln lost n) c q pos ln lost
def zIg(n Ϝ:E)(N:Yd 2)(c:AD)(q:AA)(pos:Ξ)(ln:E)(lost:Ξ)(r:Ω×Ω×ζ×Ξ):TS->Prop:=px n Ϝ η N (FQ Tryz.f179 2 (.tup 3<|L1 [.bools r.1,.bools r.2.1,.bool r.2.2.1]) [oW c q pos 1 ln,oI r.2.2.2]) (Af Tryz.f179) λ
 | .l1 Q g o3=>(0,0,AI 120 [(0,.ref 0 0),(2,.msl 2 1 0<|F pos),(3,.msl 3 1 0<|F pos),(30,.ints c.ce),(31,.i (F c.ce:U)),(32,.i Q)],[oW c q pos 1 ln,oI lost,Z<|.bools g,Z<|.bools o3])
 | .l2 z x8 s w a g o3=>(0,2,AI 120 [(0,.ref 0 0),(2,.bools z),(3,.msl 2 1 0<|F pos),(8,.msl 3 1 0 x8),(90,.ints s),(91,.i w),(92,.i a)],[oW c q pos 1 ln,oI lost,Z<|.bools g,Z<|.bools o3])
 | .l3 z x8 b e o1 g o3=>(0,4,AI 120 [(0,.ref 0 0),(2,.bools z),(3,.msl 2 1 0<|F pos),(8,.msl 3 1 0 x8),(101,.i b),(102,.i e)],[oW c q pos 1 ln,oI o1,Z<|.bools g,Z<|.bools o3])
def zIh(Ϝ:E)(N:Yd 2)(c:AD)(q:AA)(pos:Ξ)(ln:E)(lost:Ξ):Al (FK c q pos ln lost) (zIg · Ϝ N c q pos ln lost):=ia (λ_=>rfl) λn G e r h=>by
 cases e
 case l1 De o2 o3=>
  intro o j;refine rd j λo j=>?_
  revert r;apply gO
  exact bi 33 (gc (gi (jg zD9 (gc (gn λs=>jg s (jg s (jg s (gc (gi (jg s (gc (gi (jg (φ<|qH pos c De q ln lost o2 o3) (gw 70 (lG (tg:=[([(33,2)],qH pos c De q ln lost o2 o3)]) Kh [0,1,2,3] (G _ _ · o j)))))))))))))))) (gn λa=>cn λf k=>jc (sb [.msl 3 1 0<|F pos,.bool D] (zKl k) (xM c q pos ln lost o2 o3) ⟨Am.bools rfl a,Am.plain Z5,trivial⟩) (bi 74 (gn λs=>lF λp=>ez Kh [2,3,4] [0,1,2,3] p [2,3] (H0.g s|>.g a)) (gn λs=>cn λb K=>jc (ES.snapNew (ds:=[.msl 2 1 0<|F pos]) (zt K) (xM c q pos ln lost o2 o3) ⟨Am.bools rfl s,trivial⟩ rfl) (λp r h=>by
   refine gz (AK 11 Kh) [0,1,2,3,4] p [2] (H0.g s) (CW (Af Tryz.f179) 11 []) (AI 120 [(0,.ref 0 0),(2,.bools o2),(3,.msl 3 1 0<|F pos),(7,.i f),(8,.msl 4 1 0<|F b)]) (xL c q pos ln lost o3 b) ?_;revert r;apply gO;exact cf zPz (xL c q pos ln lost o3 b) λ_=>lN Kh [0,1,3,4] (G _ _ · n χ)))))
 case l2 F2 x8 Iv NC HJ o2 o3=>
  intro o j;refine rd j λo j=>?_
  revert r;apply gO;exact bi 93 (gc (gi (gc (gi (gc (gi (gw 99 (lG Kh [0,1,2,3] (G _ _ · o j))))))))) (lN Kh [0,1,2,3] (G _ _ · n χ))
 case l3 F2 x8 Lu Gq o1 o2 o3=>
  intro o j;refine rd j λo j=>?_
  revert r;apply gO;exact bi 103 (gc (gi (gi (bi 108 (ce G7 [0,1] [oW c q pos 1 ln,oI o1,Z<|.bools o2,Z<|.bools o3] λ_=>gw 117 (lG Kh [0,1,2,3] (G _ _ · o j))) (gw 117 (lG Kh [0,1,2,3] (G _ _ · o j)))))))<|gn λa=>lF λp=>ez Kh [2,3,4] [0,1,2] p [2]<|H0.g a
variable{lost pos:Ξ}{ln n:E}{q:AA}{c:AD}
def vX{r:Ω×Ω×ζ×Ξ}(h:QJ n c q pos ln lost=Z r):EQ 179 [.ref 0 0] [oW c q pos 1 ln,oI lost] (.tup 3<|L1 [.bools r.1,.bools r.2.1,.bool r.2.2.1]) [oW c q pos 1 ln,oI r.2.2.2] T:=by
 refine ot Tryz.func179 λϜ N=>?_
 revert r;apply gO;exact jg zEA (gn λj=>jg j (jg j (jg (φ<|ii pos c q ln lost) (jg j (jg j (jg (φ<|ii pos c q ln lost) (lN (tg:=[([],ii pos c q ln lost)]) Kh [0,1,2,3] ((zIh Ϝ N c q pos ln lost n) _ _ · n χ))))))))
inductive gA where
 |l1 (x3 x4:Ω) (x5:ζ) (Aq BC:U) (o1:Ξ)
def f9(n:E)(self:gA->X6)(c:AD)(q:AA)(pos:Ξ)(ln:E)(lost:Ξ)(S f:Ω)(P:ζ)(y J:U)(o1:Ξ):X6:=B (C<|J<y) (B (!P) (u (AG<|J+1) (self<|.l1 S f P y (J+1) o1) A)<|u (0<=J/\J<(F S:U)) (B (!(H S J.toNat T)) (u (AG<|J+1) (self<|.l1 S f P y (J+1) o1) A)<|u (0<=J/\J<(F f:U)) (B (H f J.toNat T) (u (AG<|J+1) (self<|.l1 S f P y (J+1) o1) A)<|(SN n q.nb S f J).bind λe=>B e.1 ((Hb n J c q pos ln o1).bind λr=>u (AG<|J+1) (self<|.l1 S f P y (J+1) r) A)<|u (AG<|J+1) (self<|.l1 S f P y (J+1) o1) A) A) A)<|Z (D,o1)
def zPm(n:E)(self:gA->X6)(c:AD)(q:AA)(pos:Ξ)(ln:E)(lost:Ξ):X6:=(QJ n c q pos ln lost).bind λe=>self<|.l1 e.1 e.2.1 e.2.2.1 (F e.1:U) 0 e.2.2.2
def O4(c:AD)(q:AA)(pos:Ξ)(ln:E)(lost:Ξ):E->gA->X6
 |0,_=>A
 |n+1,.l1 S f P y J o1=>f9 n (O4 c q pos ln lost n) c q pos ln lost S f P y J o1
def gC(n:E)(c:AD)(q:AA)(pos:Ξ)(ln:E)(lost:Ξ):X6:=zPm n (O4 c q pos ln lost n) c q pos ln lost
def zPn(n Ϝ:E)(N:Yd 2)(c:AD)(q:AA)(pos:Ξ)(ln:E)(lost:Ξ)(r:ζ×Ξ):gA->Prop:=px n Ϝ η N (FQ Tryz.f143 2 (.bool r.1) [oW c q pos 1 ln,oI r.2]) (Af Tryz.f143) λ
 | .l1 S f P y J o1=>(0,0,AI 52 [(0,.ref 0 0),(3,.bools S),(4,.bools f),(5,.bool P),(16,.i y),(17,.i J)],[oW c q pos 1 ln,oI o1])
def zPo(Ϝ:E)(N:Yd 2)(c:AD)(q:AA)(pos:Ξ)(ln:E)(lost:Ξ):Al (O4 c q pos ln lost) (zPn · Ϝ N c q pos ln lost):=ia (λ_=>rfl) λn G s r h=>by
 cases s
 case l1 x3 x4 x5 Aq BC o1=>
  intro o j;refine rd j λo j=>?_
  revert r;apply gO;exact bi 18 (bi 21 (gw 51 (lG AC [0,1] (G _ _ · o j))) (gi (bi 27 (gw 51 (lG AC [0,1] (G _ _ · o j))) (gi (bi 33 (gw 51 (lG AC [0,1] (G _ _ · o j))) (cf zB4 [oW c q pos 1 ln,oI o1] λ_=>bi 45 (ce OC [0,1] [oW c q pos 1 ln,oI o1] λ_=>gw 51 (lG AC [0,1] (G _ _ · o j))) (gw 51 (lG AC [0,1] (G _ _ · o j)))))))))<|lE AC [2] [0,1]
variable{r:ζ×Ξ}
def zPl(h:gC n c q pos ln lost=Z r):EQ 143 [.ref 0 0] [oW c q pos 1 ln,oI lost] (.bool r.1) [oW c q pos 1 ln,oI r.2] T:=by
 refine ot Tryz.func143 λϜ N=>?_
 revert r;apply gO;exact ce vX [0,1] [oW c q pos 1 ln,oI lost] λ_=>lN AC [0,1] ((zPo Ϝ N c q pos ln lost n) _ _ · n χ)
inductive OM where
 |l1 (x3 x4:Ω) (x20 x21:U) (o1:Ξ)
 |l2 (x3 x4:Ω) (x8 x20 x21:U) (BX:Ξ) (CS BO:U) (o1:Ξ)
 |l3 (x3 x4:Ω) (x7:E) (x8 x20 x21:U) (BX:Ξ) (CS BO:U) (o1 o2:Ξ)
 |l4 (x3 x4:Ω) (x7:E) (x8 x20 x21:U) (IR:E) (IQ Ax:U) (o1 o2:Ξ)
def cy(n:E)(self:OM->X6)(c:AD)(q:AA)(pos:Ξ)(ln:E)(lost:Ξ)(S f:Ω)(x20 x21:U)(o1:Ξ):X6:=B (C<|x21<x20) (u (0<=x21/\x21<(F f:U)) (B (!(H f x21.toNat T)) (u (AG<|x21+1) (self<|.l1 S f x20 (x21+1) o1) A)<|u (0<=x21/\x21<(F q.nb:U)) (self<|.l2 S f 0 x20 x21 (H q.nb x21.toNat []) ((F<|H q.nb x21.toNat []:E):U) 0 o1) A) A)<|Z (D,o1)
def cx(n:E)(self:OM->X6)(c:AD)(q:AA)(pos:Ξ)(ln:E)(lost:Ξ)(S f:Ω)(x8 x20 x21:U)(G:Ξ)(Q r:U)(o1:Ξ):X6:=B (C<|r<Q) (u ((0<=r/\r<(F G:U))/\(0<=H G r.toNat 0/\H G r.toNat 0<(F S:U))) (B (H S (H G r.toNat 0).toNat T) (u (((0=0/\1=F ([H G r.toNat 0]:Ξ))/\0<F ([H G r.toNat 0]:Ξ)/\F ([H G r.toNat 0]:Ξ)<=Aw)/\(0<=H G r.toNat 0/\H G r.toNat 0<(F f:U))) (B (H f (H G r.toNat 0).toNat T) (u (AG (x8+1)/\AG (r+1)) (self<|.l3 S f (F ([H G r.toNat 0]:Ξ)) (x8+1) x20 x21 G Q (r+1) o1 ([H G r.toNat 0]:Ξ)) A)<|u (AG<|r+1) (self<|.l3 S f (F ([H G r.toNat 0]:Ξ)) x8 x20 x21 G Q (r+1) o1 ([H G r.toNat 0]:Ξ)) A) A)<|u (0<=H G r.toNat 0/\H G r.toNat 0<(F f:U)) (B (H f (H G r.toNat 0).toNat T) (u (AG (x8+1)/\AG (r+1)) (self<|.l2 S f (x8+1) x20 x21 G Q (r+1) o1) A)<|u (AG<|r+1) (self<|.l2 S f x8 x20 x21 G Q (r+1) o1) A) A) A)<|Z (T,o1)
def cw(n:E)(self:OM->X6)(c:AD)(q:AA)(pos:Ξ)(ln:E)(lost:Ξ)(S f:Ω)(J:E)(x8 x20 x21:U)(G:Ξ)(Q r:U)(o1 g:Ξ):X6:=B (C<|r<Q) (u ((0<=r/\r<(F G:U))/\(0<=H G r.toNat 0/\H G r.toNat 0<(F S:U))) (B (H S (H G r.toNat 0).toNat T) (u (((0=0/\1=F ([H G r.toNat 0]:Ξ))/\(0=0/\J=F g)/\F g+F ([H G r.toNat 0]:Ξ)<=Aw)/\(0<=H G r.toNat 0/\H G r.toNat 0<(F f:U))) (B (H f (H G r.toNat 0).toNat T) (u (AG (x8+1)/\AG (r+1)) (self<|.l3 S f (F g+F ([H G r.toNat 0]:Ξ)) (x8+1) x20 x21 G Q (r+1) o1<|g++([H G r.toNat 0]:Ξ)) A)<|u (AG<|r+1) (self<|.l3 S f (F g+F ([H G r.toNat 0]:Ξ)) x8 x20 x21 G Q (r+1) o1<|g++([H G r.toNat 0]:Ξ)) A) A)<|u (0<=H G r.toNat 0/\H G r.toNat 0<(F f:U)) (B (H f (H G r.toNat 0).toNat T) (u (AG (x8+1)/\AG (r+1)) (self<|.l3 S f J (x8+1) x20 x21 G Q (r+1) o1 g) A)<|u (AG<|r+1) (self<|.l3 S f J x8 x20 x21 G Q (r+1) o1 g) A) A) A)<|B (C<|(J:U)<2) (Z (T,o1))<|B (C<|x8>2) (Z (T,o1))<|self<|.l4 S f J x8 x20 x21 J (J:U) 0 o1 g
def Wj(n:E)(self:OM->X6)(c:AD)(q:AA)(pos:Ξ)(ln:E)(lost:Ξ)(a f:Ω)(J:E)(x8 x20 x21:U)(y:E)(z S:U)(o1 g:Ξ):X6:=B (C<|S<z) (u ((0<=S/\S<(y:U))/\0+S.toNat<F g) (B ((J:U)==2) ((Hb n (H g (0+S.toNat) 0) c q pos ln o1).bind λe=>B (x8==2) (u (0<=H g (0+S.toNat) 0/\H g (0+S.toNat) 0<(F f:U)) (B (!(H f (H g (0+S.toNat) 0).toNat T)) ((D0 n (H g (0+S.toNat) 0) c.set c q pos ln e).bind λr=>u (AG<|S+1) (self<|.l4 a f J x8 x20 x21 y z (S+1) r g) A)<|u (AG<|S+1) (self<|.l4 a f J x8 x20 x21 y z (S+1) e g) A) A)<|u (AG<|S+1) (self<|.l4 a f J x8 x20 x21 y z (S+1) e g) A)<|B (x8==2) (u (0<=H g (0+S.toNat) 0/\H g (0+S.toNat) 0<(F f:U)) (B (!(H f (H g (0+S.toNat) 0).toNat T)) ((D0 n (H g (0+S.toNat) 0) c.set c q pos ln o1).bind λe=>u (AG<|S+1) (self<|.l4 a f J x8 x20 x21 y z (S+1) e g) A)<|u (AG<|S+1) (self<|.l4 a f J x8 x20 x21 y z (S+1) o1 g) A) A)<|u (AG<|S+1) (self<|.l4 a f J x8 x20 x21 y z (S+1) o1 g) A) A)<|u (AG<|x21+1) (self<|.l1 a f x20 (x21+1) o1) A
def zJQ(n:E)(self:OM->X6)(c:AD)(q:AA)(pos:Ξ)(ln:E)(lost:Ξ):X6:=(QJ n c q pos ln lost).bind λe=>self<|.l1 e.1 e.2.1 (F e.2.1:U) 0 e.2.2.2
def C0(c:AD)(q:AA)(pos:Ξ)(ln:E)(lost:Ξ):E->OM->X6
 |0,_=>A
 |n+1,.l1 S f x20 x21 o1=>cy n (C0 c q pos ln lost n) c q pos ln lost S f x20 x21 o1
 |n+1,.l2 S f x8 x20 x21 G Q r o1=>cx n (C0 c q pos ln lost n) c q pos ln lost S f x8 x20 x21 G Q r o1
 |n+1,.l3 S f J x8 x20 x21 G Q r o1 g=>cw n (C0 c q pos ln lost n) c q pos ln lost S f J x8 x20 x21 G Q r o1 g
 |n+1,.l4 S f J x8 x20 x21 y z a o1 g=>Wj n (C0 c q pos ln lost n) c q pos ln lost S f J x8 x20 x21 y z a o1 g
def cz(n:E)(c:AD)(q:AA)(pos:Ξ)(ln:E)(lost:Ξ):X6:=zJQ n (C0 c q pos ln lost n) c q pos ln lost
def zJR(n Ϝ:E)(N:Yd 2)(c:AD)(q:AA)(pos:Ξ)(ln:E)(lost:Ξ)(r:ζ×Ξ):OM->Prop:=px n Ϝ η N (FQ Tryz.f144 2 (.bool r.1) [oW c q pos 1 ln,oI r.2]) (Af Tryz.f144) λ
 | .l1 S f x20 x21 o1=>(0,0,AI 95 [(0,.ref 0 0),(3,.bools S),(4,.bools f),(20,.i x20),(21,.i x21)],[oW c q pos 1 ln,oI o1])
 | .l2 S f x8 x20 x21 G Q a o1=>(1,2,AI 95 [(0,.ref 0 0),(3,.bools S),(4,.bools f),(7,.nils),(8,.i x8),(20,.i x20),(21,.i x21),(36,.ints G),(37,.i Q),(38,.i a)],[oW c q pos 1 ln,oI o1])
 | .l3 S f J x8 x20 x21 G Q a o1 g=>(1,2,AI 95 [(0,.ref 0 0),(3,.bools S),(4,.bools f),(7,.msl 2 1 0 J),(8,.i x8),(20,.i x20),(21,.i x21),(36,.ints G),(37,.i Q),(38,.i a)],[oW c q pos 1 ln,oI o1,oI g])
 | .l4 S f J x8 x20 x21 y z b o1 g=>(1,4,AI 95 [(0,.ref 0 0),(3,.bools S),(4,.bools f),(7,.msl 2 1 0 J),(8,.i x8),(20,.i x20),(21,.i x21),(64,.msl 2 1 0 y),(65,.i z),(66,.i b)],[oW c q pos 1 ln,oI o1,oI g])
def zJS(Ϝ:E)(N:Yd 2)(c:AD)(q:AA)(pos:Ξ)(ln:E)(lost:Ξ):Al (C0 c q pos ln lost) (zJR · Ϝ N c q pos ln lost):=ia (λ_=>rfl) λn G s r h=>by
 cases s
 case l1 x3 x4 x20 x21 o1=>
  intro o j;refine rd j λo j=>?_
  revert r;apply gO;exact bi 22 (gi (bi 28 (gw 94 (lG AC [0,1] (G _ _ · o j))) (gi (lN AC [0,1] (G _ _ · o n j χ)))))<|lE AC [2] [0,1]
 case l2 x3 x4 x8 x20 x21 BX CS BO o1=>
  intro o w j z;have j:=zCG j;refine rd z λw z=>?_
  revert r;apply gO;exact bi 39 (gc (gi (gi (bi 45 (gc (gi (gi (bi 53 (gc (gw 55 (gw 56 (lG AC [0,1,3] (G _ _ · o w j z))))) (gw 56 (lG AC [0,1,3] (G _ _ · o w j z))))))) (gi (bi 53 (gc (gw 55 (gw 56 (lG AC [0,1] (G _ _ · o w j z))))) (gw 56 (lG AC [0,1] (G _ _ · o w j z)))))))))<|lE AC [2] [0,1]
 case l3 x3 x4 x7 x8 x20 x21 BX CS BO o1 o2=>
  intro o w j z;have j:=zCG j;refine rd z λw z=>?_
  revert r;apply gO;exact bi 39 (gc (gi (gi (bi 45 (gc (gi (gi (bi 53 (gc (gw 55 (gw 56 (lG AC [0,1,4] (G _ _ · o w j z))))) (gw 56 (lG AC [0,1,4] (G _ _ · o w j z))))))) (gi (bi 53 (gc (gw 55 (gw 56 (lG AC [0,1,2] (G _ _ · o w j z))))) (gw 56 (lG AC [0,1,2] (G _ _ · o w j z))))))))) (bi 59 (lE AC [2] [0,1]) (bi 62 (lE AC [2] [0,1]) (lN AC [0,1,2] (G _ _ · o n j χ))))
 case l4 x3 x4 x7 x8 x20 x21 IR IQ Ax o1 o2=>
  intro o w j z;have j:=zCG j;refine rd z λw z=>?_
  revert r;apply gO;exact bi 67 (gc (gi (gi (bi 72 (ce OC [0,1] [oW c q pos 1 ln,oI o1,oI o2] λe=>bi 77 (gi (bi 83 (ce G7 [0,1] [oW c q pos 1 ln,oI e,oI o2] λ_=>gw 93 (lG AC [0,1,2] (G _ _ · o w j z))) (gw 93 (lG AC [0,1,2] (G _ _ · o w j z))))) (gw 93 (lG AC [0,1,2] (G _ _ · o w j z)))) (bi 77 (gi (bi 83 (ce G7 [0,1] [oW c q pos 1 ln,oI o1,oI o2] λ_=>gw 93 (lG AC [0,1,2] (G _ _ · o w j z))) (gw 93 (lG AC [0,1,2] (G _ _ · o w j z))))) (gw 93 (lG AC [0,1,2] (G _ _ · o w j z)))))))) (gw 94 (lG AC [0,1] (G _ _ · o j)))
def zJP(h:cz n c q pos ln lost=Z r):EQ 144 [.ref 0 0] [oW c q pos 1 ln,oI lost] (.bool r.1) [oW c q pos 1 ln,oI r.2] T:=by
 refine ot Tryz.func144 λϜ N=>?_
 revert r;apply gO;exact ce vX [0,1] [oW c q pos 1 ln,oI lost] λ_=>lN AC [0,1] ((zJS Ϝ N c q pos ln lost n) _ _ · n χ)
end
section
set_option maxRecDepth 100000
set_option maxHeartbeats 40000000
def qh:ST:=.rd 0<|.rd 1<|.rd 2<|.rd 3<|.rd 4<|.rd 5<|.rd 6<|.rd 7<|.rd 8<|.rd 9<|.rd 10<|.rd 11<|.rd 12<|.rd 13<|.rd 14<|.rd 15<|.rd 16<|.rd 17<|.rd 18<|.rd 19<|.rd 20<|.rd 21<|.rd 22<|.rd 23<|.rd 24<|.rd 25<|.rd 26<|.rd 27<|.rd 28<|.ef 29 (.rd 30<|.fin [] [5,6])<|.no
def zEE:B3 (Ah Tryz.f174 2) [29] qh:=Z1
def qg:ST:=.rd 0<|.rd 1<|.rd 2<|.rd 3<|.rd 4<|.rd 5<|.rd 6<|.rd 7<|.rd 8<|.rd 9<|.rd 10<|.rd 11<|.rd 12<|.rd 13<|.rd 14<|.rd 15<|.ef 16 (.rd 17<|.fin [] [5,6])<|.no
def zED:B3 (Ah Tryz.f174 5) [16] qg:=Z1
def Zx:BG:=λi=>match i with
 |2=>.tre [29] qh
 |5=>.tre [16] qg
 |_=>.no
def qK(V:Δ)(c:AD)(q:AA)(pos:Ξ)(ln:E)(lost:Ξ):St:=⟨AI 59 [(5,.ref 4 0),(6,.bool<|C<|V.2<H c.ru (V.1).toNat 0)],([oC [.ref 1 0],oW c q pos 2 ln,oI lost,oC [.i V.1,.i V.2],oC [.i V.1,.i<|V.2+1]]:DH)⟩
def qJ(c:AD)(q:AA)(pos:Ξ)(ln:E)(lost:Ξ)(V:Δ):St:=⟨AI 59 [(5,.ref 4 0),(6,.bool T)],([oC [.ref 1 0],oW c q pos 2 ln,oI lost,oC [.i V.1,.i V.2],oC [.i V.1,.i<|V.2+1]]:DH)⟩
def qI(V:Δ)(c:AD)(q:AA)(pos:Ξ)(ln:E)(lost:Ξ):St:=⟨AI 59 [(5,.ref 4 0),(6,.bool<|V.2==H c.ru (V.1).toNat 0)],([oC [.ref 1 0],oW c q pos 2 ln,oI lost,oC [.i V.1,.i V.2],oC [.i<|V.1+1,.i 0]]:DH)⟩
def vh(n:E)(V:Δ)(N:ζ)(c:AD)(q:AA)(pos:Ξ)(ln:E)(lost:Ξ):M<|(Δ)×ζ×Ξ:=B N (u (AG<|V.2+1) (B (C<|V.1<(F c.ru:U)) (u (0<=V.1/\V.1<(F c.ru:U)) (Z ((V.1,V.2+1),C<|V.2<H c.ru (V.1).toNat 0,lost)) A)<|Z ((V.1,V.2+1),T,lost)) A)<|B (V.2==0) (Z ((V.1,V.2),D,lost))<|u (AG (V.1+1)/\(0<=V.1/\V.1<(F c.ru:U))) (Z ((V.1+1,0),V.2==H c.ru (V.1).toNat 0,lost)) A
def Wb(n:E)(V:Δ)(N:ζ)(c:AD)(q:AA)(pos:Ξ)(ln:E)(lost:Ξ):M<|(Δ)×ζ×Ξ:=vh n V N c q pos ln lost
variable{lost pos:Ξ}{ln n:E}{q:AA}{c:AD}
def OI{V:Δ}{a:ζ}{r:(Δ)×ζ×Ξ}(h:Wb n V a c q pos ln lost=Z r):EQ 174 [.agg 2<|L1 [.i V.1,.i V.2],.bool a,.ref 0 0] [oC [.ref 1 0],oW c q pos 2 ln,oI lost] (.tup 2<|L1 [.agg 2<|L1 [.i r.1.1,.i r.1.2],.bool r.2.1]) [oC [.ref 1 0],oW c q pos 2 ln,oI r.2.2] T:=by
 refine ot Tryz.func174 λϜ N=>?_
 revert r;apply gO;exact bi 8 (jg zEE<|gw 13<|bi 23 (gi<|jt<|jg (φ<|qK V c q pos ln lost)<|lE (tg:=[([(29,4)],qK V c q pos ln lost)]) Zx [5,6] [0,1,2,4])<|jt<|jg (φ<|qJ c q pos ln lost V)<|lE (tg:=[([(29,4)],qJ c q pos ln lost V)]) Zx [5,6] [0,1,2,4])<|bi 41 (jt<|lE Zx [5,6] [0,1,2,4])<|jg zED<|gc<|gw 45<|gi<|jt<|jg (φ<|qI V c q pos ln lost)<|lE (tg:=[([(16,4)],qI V c q pos ln lost)]) Zx [5,6] [0,1,2,4]
def zER:Ac (Ah Tryz.f175 2) [] (θ 22) []:=Z0
def zEQ:Ac (Ah Tryz.f175 3) [] (θ 22) []:=Z0
def rq:BG:=λi=>match i with
 |2=>.ord [] (θ 22) []
 |3=>.ord [] (θ 22) []
 |_=>.no
def wV(n:E)(a:U)(N:ζ)(c:AD)(q:AA)(pos:Ξ)(ln:E)(lost:Ξ):X6:=B N (u ((0<=a/\a<(F c.ce:U))/\(0<=H c.ce a.toNat 0/\H c.ce a.toNat 0<(F pos:U))) (Z (bits .and .i64 (H pos (H c.ce a.toNat 0).toNat 0) c.set != 0,lost)) A)<|u ((0<=a/\a<(F c.ce:U))/\(0<=H c.ce a.toNat 0/\H c.ce a.toNat 0<(F pos:U))) (Z (bits .andNot .i64 (H pos (H c.ce a.toNat 0).toNat 0) c.set != 0,lost)) A
def Wr(n:E)(a:U)(N:ζ)(c:AD)(q:AA)(pos:Ξ)(ln:E)(lost:Ξ):X6:=wV n a N c q pos ln lost
variable{r:ζ×Ξ}
def dN{a:U}{b:ζ}(h:Wr n a b c q pos ln lost=Z r):EQ 175 [.i a,.bool b,.ref 0 0] [oC [.ref 1 0],oW c q pos 2 ln,oI lost] (.bool r.1) [oC [.ref 1 0],oW c q pos 2 ln,oI r.2] T:=by
 refine ot Tryz.func175 λϜ N=>?_
 revert r;apply gO;exact bi 6 (jg zER<|gc<|gi<|gi<|lE rq [5] [0,1,2])<|jg zEQ<|gc<|gi<|gi<|lE rq [5] [0,1,2]
def zDT:Ac (Ah Tryz.f140 24) [] (θ 6) [6]:=Z0
def qZ:ST:=.rd 0<|.rd 1<|.rd 2<|.rd 3<|.rd 4<|.rd 5<|.rd 6<|.rd 7<|.rd 8<|.rd 9<|.rd 10<|.rd 11<|.rd 12<|.rd 13<|.ef 14 (.fin [] [1,3,5,7,14,16,18])<|.no
def sI:B3 (Ah Tryz.f140 49) [] qZ:=Z1
def qY:ST:=.rd 0<|.rd 1<|.rd 2<|.rd 3<|.rd 4<|.rd 5<|.rd 6<|.rd 7<|.rd 8<|.ef 9 (.fin [] [1,3,5,7,14,16])<|.no
def jL:B3 (Ah Tryz.f140 51) [] qY:=Z1
def Cd:BG:=λi=>match i with
 |24=>.ord [] (θ 6) [6]
 |49=>.tre [] qZ
 |51=>.tre [] qY
 |_=>.no
def mT(c:AD)(q:AA)(pos:Ξ)(ln:E)(o1:Ξ)(o3:O<|M KS):DH:=[oW c q pos 1 ln,oI o1,oC [.ref 0 0],Z<|.mo<|.sets 2 o3 A]
def zL6(c:AD)(q:AA)(pos:Ξ)(ln:E)(o1:Ξ)(o3:O<|M KS)(t:U)(V:LK):DH:=[oW c q pos 1 ln,oI o1,oC [.ref 0 0],Z<|.mo<|.sets 2 o3<|Z (0+t.toNat,V)]
def zL0(c:AD)(q:AA)(pos:Ξ)(ln:E)(o1:Ξ)(o3:O<|M KS)(a:E)(V:LK)(o4:KS):DH:=[oW c q pos 1 ln,oI o1,oC [.ref 0 0],Z<|.mo<|.sets 2 o3<|Z (a,V),Z<|.mo<|.mit 2 V.1 V.2.1 V.2.2 o4 A]
def xF(c:AD)(q:AA)(pos:Ξ)(ln:E)(o1:Ξ)(o3:O<|M KS)(a:E)(V:LK)(o4:KS)(e:Ξ):DH:=[oW c q pos 1 ln,oI o1,oC [.ref 0 0],Z<|.mo<|.sets 2 o3<|Z (a,V),Z<|.mo<|.mit 2 V.1 V.2.1 V.2.2 (o4.erase e)<|Z e]
def mQ(c:AD)(q:AA)(pos:Ξ)(ln:E)(o1:Ξ)(o3:O<|M KS)(o4:KS):DH:=[oW c q pos 1 ln,oI o1,oC [.ref 0 0],Z<|.mo<|.sets 2 o3 A,Z<|.mo<|.set 2 o4,Z<|.mo<|.set 2 ([]:KS),oC [.bool T,.bool T]]
def zLy(c:AD)(q:AA)(pos:Ξ)(ln:E)(o1:Ξ)(o3:O<|M KS)(y:U)(V:LK)(o4:KS):DH:=[oW c q pos 1 ln,oI o1,oC [.ref 0 0],Z<|.mo<|.sets 2 o3<|Z (0+y.toNat,V),Z<|.mo<|.set 2 o4,Z<|.mo<|.set 2 ([]:KS),oC [.bool T,.bool T]]
def mP(c:AD)(q:AA)(pos:Ξ)(ln:E)(o1:Ξ)(o3:O<|M KS)(a:E)(V:LK)(b j:U)(e:KS)(k:Ξ):DH:=[oW c q pos 1 ln,oI o1,oC [.ref 0 0],Z<|.mo<|.sets 2 o3<|Z (a,V),oC [.i b,.i j],Z<|.mo<|.mit 2 V.1 V.2.1 V.2.2 e<|Z k,Z<|.bools ([T,D]:Ω)]
def zLx(c:AD)(q:AA)(pos:Ξ)(ln:E)(e:(Δ)×ζ×Ξ)(o3:O<|M KS)(a:E)(V:LK)(b j:U)(f:KS)(k:Ξ):DH:=[oW c q pos 1 ln,oI e.2.2,oC [.ref 0 0],Z<|.mo<|.sets 2 o3<|Z (a,V),oC [.i b,.i j],Z<|.mo<|.mit 2 V.1 V.2.1 V.2.2 f<|Z k,Z<|.bools ([T,D]:Ω),oC [.i e.1.1,.i e.1.2]]
def zLw(c:AD)(q:AA)(pos:Ξ)(ln:E)(o1:Ξ)(o3:O<|M KS)(a:E)(V:LK)(o4 w:KS):DH:=[oW c q pos 1 ln,oI o1,oC [.ref 0 0],Z<|.mo<|.sets 2 o3<|Z (a,V),Z<|.mo<|.set 2 o4,Z<|.mo<|.set 2 ([]:KS),oC [.bool T,.bool T],Z<|.mo<|.mit 2 V.1 V.2.1 V.2.2 w A]
def qB(c:AD)(y:U)(q:AA)(pos:Ξ)(ln:E)(r:Ξ)(o3:O<|M KS)(o4:KS):St:=⟨AI 208 [(1,.ref 2 0),(3,.fn 174 1<|L1 [.ref 2 0]),(5,.msl 3 1 0<|((F c.ce:U)+1).toNat),(7,.fn 175 1<|L1 [.ref 2 0]),(14,.it 5),(16,.i y),(18,.ref 6 0)],([oW c q pos 1 ln,oI r,oC [.ref 0 0],Z<|.mo<|.sets 2 o3 A,Z<|.mo<|.set 2 o4,Z<|.mo<|.set 2 ([]:KS),oC [.bool T,.bool T]]:DH)⟩
def zL5(c:AD)(q:AA)(pos:Ξ)(ln:E)(r:Ξ)(o3:O<|M KS)(o4:KS):DH:=[oW c q pos 1 ln,oI r,oC [.ref 0 0],Z<|.mo<|.sets 2 o3 A,Z<|.mo<|.set 2 o4,Z<|.mo<|.set 2 ([]:KS),oC [.bool T,.bool T]]
def qE(c:AD)(y:U)(q:AA)(pos:Ξ)(ln:E)(y3:Ξ)(o3:O<|M KS)(o4:KS):St:=⟨AI 208 [(1,.ref 2 0),(3,.fn 174 1<|L1 [.ref 2 0]),(5,.msl 3 1 0<|((F c.ce:U)+1).toNat),(7,.fn 175 1<|L1 [.ref 2 0]),(14,.it 5),(16,.i y)],([oW c q pos 1 ln,oI y3,oC [.ref 0 0],Z<|.mo<|.sets 2 o3 A,Z<|.mo<|.set 2 o4,Z<|.mo<|.set 2 ([]:KS),oC [.bool T,.bool T]]:DH)⟩
def zL4(c:AD)(q:AA)(pos:Ξ)(ln:E)(o1:Ξ)(o3:O<|M KS)(a:E)(V:LK)(o4 w:KS)(e:Ξ):DH:=[oW c q pos 1 ln,oI o1,oC [.ref 0 0],Z<|.mo<|.sets 2 o3<|Z (a,V),Z<|.mo<|.set 2 o4,Z<|.mo<|.set 2 ([]:KS),oC [.bool T,.bool T],Z<|.mo<|.mit 2 V.1 V.2.1 V.2.2 (w.erase e)<|Z e]
def XG(c:AD)(q:AA)(pos:Ξ)(ln:E)(o1:Ξ)(o3:O<|M KS)(a:E)(V:LK)(o4 j:KS)(Q b:ζ)(g h:U)(e:KS)(N:Ξ):DH:=[oW c q pos 1 ln,oI o1,oC [.ref 0 0],Z<|.mo<|.sets 2 o3<|Z (a,V),Z<|.mo<|.set 2 o4,Z<|.mo<|.set 2 j,oC [.bool Q,.bool b],oC [.i g,.i h],Z<|.mo<|.mit 2 V.1 V.2.1 V.2.2 e<|Z N,Z<|.bools ([T,D]:Ω)]
def mS(c:AD)(q:AA)(pos:Ξ)(ln:E)(e:(Δ)×ζ×Ξ)(o3:O<|M KS)(a:E)(V:LK)(o4 j:KS)(Q b:ζ)(g h:U)(f:KS)(N:Ξ):DH:=[oW c q pos 1 ln,oI e.2.2,oC [.ref 0 0],Z<|.mo<|.sets 2 o3<|Z (a,V),Z<|.mo<|.set 2 o4,Z<|.mo<|.set 2 j,oC [.bool Q,.bool b],oC [.i g,.i h],Z<|.mo<|.mit 2 V.1 V.2.1 V.2.2 f<|Z N,Z<|.bools ([T,D]:Ω),oC [.i e.1.1,.i e.1.2]]
def zL3(c:AD)(q:AA)(pos:Ξ)(ln:E)(o1:Ξ)(o3:O<|M KS)(a:E)(V:LK)(o4:KS)(b:Ξ):DH:=[oW c q pos 1 ln,oI o1,oC [.ref 0 0],Z<|.mo<|.sets 2 o3<|Z (a,V),Z<|.mo<|.mit 2 V.1 V.2.1 V.2.2 o4<|Z b]
def zL2(c:AD)(q:AA)(pos:Ξ)(ln:E)(o1:Ξ)(o3:O<|M KS)(a:E)(V:LK)(o4 j:KS)(Q b:ζ)(w:KS)(e:Ξ):DH:=[oW c q pos 1 ln,oI o1,oC [.ref 0 0],Z<|.mo<|.sets 2 o3<|Z (a,V),Z<|.mo<|.set 2 o4,Z<|.mo<|.set 2 j,oC [.bool Q,.bool b],Z<|.mo<|.mit 2 V.1 V.2.1 V.2.2 w<|Z e]
def mR(c:AD)(q:AA)(pos:Ξ)(ln:E)(o1:Ξ)(o3:O<|M KS)(o4 j:KS)(Q V:ζ):DH:=[oW c q pos 1 ln,oI o1,oC [.ref 0 0],Z<|.mo<|.sets 2 o3 A,Z<|.mo<|.set 2 o4,Z<|.mo<|.set 2 j,oC [.bool Q,.bool V]]
def ig(c:AD)(y:U)(q:AA)(pos:Ξ)(ln:E)(r:Ξ)(o3:O<|M KS)(o4 j:KS)(Q V:ζ):St:=⟨AI 208 [(1,.ref 2 0),(3,.fn 174 1<|L1 [.ref 2 0]),(5,.msl 3 1 0<|((F c.ce:U)+1).toNat),(7,.fn 175 1<|L1 [.ref 2 0]),(14,.it 5),(16,.i y),(18,.ref 6 0)],([oW c q pos 1 ln,oI r,oC [.ref 0 0],Z<|.mo<|.sets 2 o3 A,Z<|.mo<|.set 2 o4,Z<|.mo<|.set 2 j,oC [.bool Q,.bool V]]:DH)⟩
def zL1(c:AD)(q:AA)(pos:Ξ)(ln:E)(r:Ξ)(o3:O<|M KS)(o4 j:KS)(Q V:ζ):DH:=[oW c q pos 1 ln,oI r,oC [.ref 0 0],Z<|.mo<|.sets 2 o3 A,Z<|.mo<|.set 2 o4,Z<|.mo<|.set 2 j,oC [.bool Q,.bool V]]
def qD(c:AD)(y:U)(q:AA)(pos:Ξ)(ln:E)(y3:Ξ)(o3:O<|M KS)(o4 j:KS)(Q V:ζ):St:=⟨AI 208 [(1,.ref 2 0),(3,.fn 174 1<|L1 [.ref 2 0]),(5,.msl 3 1 0<|((F c.ce:U)+1).toNat),(7,.fn 175 1<|L1 [.ref 2 0]),(14,.it 5),(16,.i y)],([oW c q pos 1 ln,oI y3,oC [.ref 0 0],Z<|.mo<|.sets 2 o3 A,Z<|.mo<|.set 2 o4,Z<|.mo<|.set 2 j,oC [.bool Q,.bool V]]:DH)⟩
def qC(c:AD)(y:U)(q:AA)(pos:Ξ)(ln:E)(r:Ξ)(o3:O<|M KS)(o4 j:KS)(Q V:ζ):St:=⟨AI 208 [(1,.ref 2 0),(3,.fn 174 1<|L1 [.ref 2 0]),(5,.msl 3 1 0<|((F c.ce:U)+1).toNat),(7,.fn 175 1<|L1 [.ref 2 0]),(14,.it 5),(16,.i y)],([oW c q pos 1 ln,oI r,oC [.ref 0 0],Z<|.mo<|.sets 2 o3 A,Z<|.mo<|.set 2 o4,Z<|.mo<|.set 2 j,oC [.bool Q,.bool V]]:DH)⟩
def zLz(c:AD)(q:AA)(pos:Ξ)(ln:E)(o1:Ξ)(o3:O<|M KS)(a:E)(V:LK)(o4 j:KS)(Q b:ζ)(w:KS)(e:Ξ):DH:=[oW c q pos 1 ln,oI o1,oC [.ref 0 0],Z<|.mo<|.sets 2 o3<|Z (a,V),Z<|.mo<|.set 2 o4,Z<|.mo<|.set 2 j,oC [.bool Q,.bool b],Z<|.mo<|.mit 2 V.1 V.2.1 V.2.2 (w.erase e)<|Z e]
inductive I4 where
 |l1 (F1:U) (o3:O (M KS))
 |l2 (A7:U) (o1:Ξ) (o3:O (M KS))
 |l3 (x8 A7:U) (o1:Ξ) (o3:O (M KS)) (At:E) (o4:KS)
 |l4 (Aq:U) (o1:Ξ) (o3:O (M KS)) (o4:KS)
 |l5 (x8 A7 Fy:U) (o1:Ξ) (o3:O (M KS)) (At:E) (Az GE:U) (o5:KS) (GD:Ξ)
 |l6 (Aq:U) (o1:Ξ) (o3:O (M KS)) (At:E) (o4 o7:KS)
 |l7 (Aq EO:U) (o1:Ξ) (o3:O (M KS)) (At:E) (o4 o5:KS) (Bh Bj:ζ) (Dw Dv:U) (o8:KS) (EY:Ξ)
 |l8 (x8 A7:U) (o1:Ξ) (o3:O (M KS)) (At:E) (o4:KS) (LD:Ξ)
 |l9 (Aq:U) (o1:Ξ) (o3:O (M KS)) (At:E) (o4 o5:KS) (Bh Bj:ζ) (o7:KS) (LA:Ξ)
def aL(n:E)(self:I4->X6)(c:AD)(q:AA)(pos:Ξ)(ln:E)(lost:Ξ)(l:U)(o3:O<|M KS):X6:=B (C<|l<((((F c.ce:U)+1).toNat:E):U)) (u ((0<=l/\l<((((F c.ce:U)+1).toNat:E):U))/\0+l.toNat<F o3/\AG (l+1)) (self<|.l1 (l+1)<|o3.set (0+l.toNat)<|Z ([]:KS)) A)<|u (((0:U)<=0/\0<((((F c.ce:U)+1).toNat:E):U))/\0+0<F o3/\(o3.getD (0+0) A).isSome=D) (self<|.l2 0 lost<|o3.set (0+0)<|Z<|Cm [0,0]<|(o3.getD (0+0) A).getD []) A
def Se(n:E)(self:I4->X6)(c:AD)(q:AA)(pos:Ξ)(ln:E)(lost:Ξ)(t:U)(o1:Ξ)(o3:O<|M KS):X6:=B (C<|t<(F c.ce:U)) (u ((o3.getD (0+t.toNat) A).isSome=D) (u ((0<=t/\t<((((F c.ce:U)+1).toNat:E):U))/\0+t.toNat<F o3/\(o3.getD (0+t.toNat) A).isSome=D) (self<|.l3 t t o1 o3 (0+t.toNat)<|(o3.getD (0+t.toNat) A).getD []) A) A)<|B (C<|(F c.ru:U)>0) (u (AG ((F c.ru:U)-1)/\((0:U)<=((F c.ru:U)-1)/\((F c.ru:U)-1)<(F c.ru:U))/\AG ((F c.ce:U)-1)) (self<|.l4 ((F c.ce:U)-1) o1 o3<|Cm [(F c.ru:U)-1,H c.ru ((F c.ru:U)-1).toNat 0]<|Cm [(F c.ru:U),0] ([]:KS)) A)<|u (AG<|(F c.ce:U)-1) (self<|.l4 ((F c.ce:U)-1) o1 o3<|Cm [(F c.ru:U),0] ([]:KS)) A
def zEw(n:E)(self:I4->X6)(c:AD)(q:AA)(pos:Ξ)(ln:E)(lost:Ξ)(x8 t:U)(o1:Ξ)(o3:O<|M KS)(V:E)(o4:KS):X6:=u ((o3.getD V A).isSome=D) (If o4 (u (AG<|t+1) (self<|.l2 (t+1) o1 o3) A) λe=>u ((o3.getD V A).isSome=D) (self<|.l5 x8 t 0 o1 o3 V (H e 0 0) (H e 1 0) (o4.erase e) e) A) A
def aK(n:E)(self:I4->X6)(c:AD)(q:AA)(pos:Ξ)(ln:E)(lost:Ξ)(y:U)(o1:Ξ)(o3:O<|M KS)(o4:KS):X6:=B (C<|y>=0) (u ((o3.getD (0+y.toNat) A).isSome=D) (u ((0<=y/\y<((((F c.ce:U)+1).toNat:E):U))/\0+y.toNat<F o3/\(o3.getD (0+y.toNat) A).isSome=D) (self<|.l6 y o1 o3 (0+y.toNat) o4<|(o3.getD (0+y.toNat) A).getD []) A) A)<|Z (D,o1)
def Sd(n:E)(self:I4->X6)(c:AD)(q:AA)(pos:Ξ)(ln:E)(lost:Ξ)(x8 t m:U)(o1:Ξ)(o3:O<|M KS)(V:E)(a j:U)(b:KS)(k:Ξ):X6:=B (C<|m<2) (u ((0<=m/\m<((2:E):U))/\0+m.toNat<F ([T,D]:Ω)) ((Wb n (a,j) (H ([T,D]:Ω) (0+m.toNat) T) c q pos ln o1).bind λe=>B e.2.1 ((Wr n x8 (H ([T,D]:Ω) (0+m.toNat) T) c q pos ln e.2.2).bind λr=>B r.1 (u (AG (x8+1)/\(0<=(x8+1)/\(x8+1)<((((F c.ce:U)+1).toNat:E):U))/\0+(x8+1).toNat<F o3/\V≠0+(x8+1).toNat/\(o3.getD (0+(x8+1).toNat) A).isSome=D/\AG (m+1)) (self<|.l5 x8 t (m+1) r.2 (o3.set (0+(x8+1).toNat)<|Z<|Cm [e.1.1,e.1.2]<|(o3.getD (0+(x8+1).toNat) A).getD []) V a j b k) A)<|u (AG<|m+1) (self<|.l5 x8 t (m+1) r.2 o3 V a j b k) A)<|u (AG<|m+1) (self<|.l5 x8 t (m+1) e.2.2 o3 V a j b k) A) A)<|self<|.l8 x8 t o1 o3 V b k
def zEv(n:E)(self:I4->X6)(c:AD)(q:AA)(pos:Ξ)(ln:E)(lost:Ξ)(y:U)(o1:Ξ)(o3:O<|M KS)(V:E)(o4 w:KS):X6:=u ((o3.getD V A).isSome=D) (If w (u (0<=y/\y<(F c.ce:U)) ((D0 n (H c.ce y.toNat 0) c.set c q pos ln o1).bind λr=>(Hb n (H c.ce y.toNat 0) c q pos ln r).bind λy3=>u (AG<|y-1) (self<|.l4 (y-1) y3 o3 ([]:KS)) A) A) λe=>u ((o3.getD V A).isSome=D) (self<|.l7 y 0 o1 o3 V o4 ([]:KS) T T (H e 0 0) (H e 1 0) (w.erase e) e) A) A
def Sc(n:E)(self:I4->X6)(c:AD)(q:AA)(pos:Ξ)(ln:E)(lost:Ξ)(y P:U)(o1:Ξ)(o3:O<|M KS)(V:E)(o4 j:KS)(Q a:ζ)(g h:U)(i:KS)(N:Ξ):X6:=B (C<|P<2) (u ((0<=P/\P<((2:E):U))/\0+P.toNat<F ([T,D]:Ω)) ((Wb n (g,h) (H ([T,D]:Ω) (0+P.toNat) T) c q pos ln o1).bind λe=>B e.2.1 ((Wr n y (H ([T,D]:Ω) (0+P.toNat) T) c q pos ln e.2.2).bind λr=>B r.1 (B (o4.contains [e.1.1,e.1.2]) (B (P==0) (u (AG<|P+1) (self<|.l7 y (P+1) r.2 o3 V o4 (Cm [g,h] j) D a g h i N) A)<|B (P==1) (u (AG<|P+1) (self<|.l7 y (P+1) r.2 o3 V o4 (Cm [g,h] j) Q D g h i N) A) A)<|u (AG<|P+1) (self<|.l7 y (P+1) r.2 o3 V o4 j Q a g h i N) A)<|u (AG<|P+1) (self<|.l7 y (P+1) r.2 o3 V o4 j Q a g h i N) A)<|u (AG<|P+1) (self<|.l7 y (P+1) e.2.2 o3 V o4 j Q a g h i N) A) A)<|self<|.l9 y o1 o3 V o4 j Q a i N
def jR(n:E)(self:I4->X6)(c:AD)(q:AA)(pos:Ξ)(ln:E)(lost:Ξ)(x8 t:U)(o1:Ξ)(o3:O<|M KS)(V:E)(o4:KS)(LD:Ξ):X6:=u ((o3.getD V A).isSome=D) (If o4 (u (AG<|t+1) (self<|.l2 (t+1) o1 o3) A) λe=>u ((o3.getD V A).isSome=D) (self<|.l5 x8 t 0 o1 o3 V (H e 0 0) (H e 1 0) (o4.erase e) e) A) A
def VX(n:E)(self:I4->X6)(c:AD)(q:AA)(pos:Ξ)(ln:E)(lost:Ξ)(y:U)(o1:Ξ)(o3:O<|M KS)(V:E)(o4 j:KS)(Q a:ζ)(w:KS)(LA:Ξ):X6:=u ((o3.getD V A).isSome=D) (If w (B (!a) (u (0<=y/\y<(F c.ce:U)) ((D0 n (H c.ce y.toNat 0) c.set c q pos ln o1).bind λr=>B (!Q) ((Hb n (H c.ce y.toNat 0) c q pos ln r).bind λy3=>u (AG<|y-1) (self<|.l4 (y-1) y3 o3 j) A)<|u (AG<|y-1) (self<|.l4 (y-1) r o3 j) A) A)<|B (!Q) (u (0<=y/\y<(F c.ce:U)) ((Hb n (H c.ce y.toNat 0) c q pos ln o1).bind λr=>u (AG<|y-1) (self<|.l4 (y-1) r o3 j) A) A)<|u (AG<|y-1) (self<|.l4 (y-1) o1 o3 j) A) λe=>u ((o3.getD V A).isSome=D) (self<|.l7 y 0 o1 o3 V o4 j Q a (H e 0 0) (H e 1 0) (w.erase e) e) A) A
def jS(n:E)(self:I4->X6)(c:AD)(q:AA)(pos:Ξ)(ln:E)(lost:Ξ):X6:=B ((F c.ce:U)==0) (Z ((F c.ru:U)==0,lost))<|u (AG ((F c.ce:U)+1)/\(((F c.ce:U)+1:U)=((F c.ce:U)+1)/\(0:U)<=((F c.ce:U)+1)/\((F c.ce:U)+1:U)<=1000000000000)) (self<|.l1 0<|d ((F c.ce:U)+1).toNat (A:M KS)) A
def Ba(c:AD)(q:AA)(pos:Ξ)(ln:E)(lost:Ξ):E->I4->X6
 |0,_=>A
 |n+1,.l1 l o3=>aL n (Ba c q pos ln lost n) c q pos ln lost l o3
 |n+1,.l2 t o1 o3=>Se n (Ba c q pos ln lost n) c q pos ln lost t o1 o3
 |n+1,.l3 x8 t o1 o3 V o4=>zEw n (Ba c q pos ln lost n) c q pos ln lost x8 t o1 o3 V o4
 |n+1,.l4 y o1 o3 o4=>aK n (Ba c q pos ln lost n) c q pos ln lost y o1 o3 o4
 |n+1,.l5 x8 t m o1 o3 V b e j k=>Sd n (Ba c q pos ln lost n) c q pos ln lost x8 t m o1 o3 V b e j k
 |n+1,.l6 y o1 o3 V o4 w=>zEv n (Ba c q pos ln lost n) c q pos ln lost y o1 o3 V o4 w
 |n+1,.l7 y P o1 o3 V o4 j Q a g h i N=>Sc n (Ba c q pos ln lost n) c q pos ln lost y P o1 o3 V o4 j Q a g h i N
 |n+1,.l8 x8 t o1 o3 V o4 f=>jR n (Ba c q pos ln lost n) c q pos ln lost x8 t o1 o3 V o4 f
 |n+1,.l9 y o1 o3 V o4 j Q a w o=>VX n (Ba c q pos ln lost n) c q pos ln lost y o1 o3 V o4 j Q a w o
def Sf(n:E)(c:AD)(q:AA)(pos:Ξ)(ln:E)(lost:Ξ):X6:=jS n (Ba c q pos ln lost n) c q pos ln lost
def zEx(n Ϝ:E)(N:Yd 2)(c:AD)(q:AA)(pos:Ξ)(ln:E)(lost:Ξ)(r:ζ×Ξ):I4->Prop
 | .l1 l o3=>∀o:E,n<=o->TW Ϝ N (FQ Tryz.f140 2 (.bool r.1) [oW c q pos 1 ln,oI r.2]) (Du o<|FU (Af Tryz.f140) 0 []) ⟨AI 208 [(1,.ref 2 0),(3,.fn 174 1<|L1 [.ref 2 0]),(4,.i (F c.ce:U)),(5,.msl 3 1 0<|((F c.ce:U)+1).toNat),(44,.i ((((F c.ce:U)+1).toNat:E):U)),(45,.i l)],[oW c q pos 1 ln,oI lost,oC [.ref 0 0],Z<|.mo<|.sets 2 o3 A]⟩
 | .l2 t o1 o3=>∀o:E,n<=o->TW Ϝ N (FQ Tryz.f140 2 (.bool r.1) [oW c q pos 1 ln,oI r.2]) (Du o<|FU (Af Tryz.f140) 2 []) ⟨AI 208 [(1,.ref 2 0),(3,.fn 174 1<|L1 [.ref 2 0]),(4,.i (F c.ce:U)),(5,.msl 3 1 0<|((F c.ce:U)+1).toNat),(7,.fn 175 1<|L1 [.ref 2 0]),(58,.i (F c.ce:U)),(59,.i t)],[oW c q pos 1 ln,oI o1,oC [.ref 0 0],Z<|.mo<|.sets 2 o3 A]⟩
 | .l3 x8 t o1 o3 a o4=>∀o w:E,n<=o->n<=w->∀V:LK,TW Ϝ N (FQ Tryz.f140 2 (.bool r.1) [oW c q pos 1 ln,oI r.2]) (Du w<|FU (Af Tryz.f140) 4 [o]) ⟨AI 208 [(1,.ref 2 0),(3,.fn 174 1<|L1 [.ref 2 0]),(4,.i (F c.ce:U)),(5,.msl 3 1 0<|((F c.ce:U)+1).toNat),(7,.fn 175 1<|L1 [.ref 2 0]),(8,.i x8),(58,.i (F c.ce:U)),(59,.i t),(66,.it 4)],[oW c q pos 1 ln,oI o1,oC [.ref 0 0],Z<|.mo<|.sets 2 o3<|Z (a,V),Z<|.mo<|.mit 2 V.1 V.2.1 V.2.2 o4 A]⟩
 | .l4 y o1 o3 o4=>∀o:E,n<=o->TW Ϝ N (FQ Tryz.f140 2 (.bool r.1) [oW c q pos 1 ln,oI r.2]) (Du o<|FU (Af Tryz.f140) 8 []) ⟨AI 208 [(1,.ref 2 0),(3,.fn 174 1<|L1 [.ref 2 0]),(5,.msl 3 1 0<|((F c.ce:U)+1).toNat),(7,.fn 175 1<|L1 [.ref 2 0]),(14,.it 4),(16,.i y)],[oW c q pos 1 ln,oI o1,oC [.ref 0 0],Z<|.mo<|.sets 2 o3 A,Z<|.mo<|.set 2 o4]⟩
 | .l5 x8 t m o1 o3 a g h j k=>∀o w b:E,n<=o->n<=w->n<=b->∀V:LK,TW Ϝ N (FQ Tryz.f140 2 (.bool r.1) [oW c q pos 1 ln,oI r.2]) (Du b<|FU (Af Tryz.f140) 6 [o,w]) ⟨AI 208 [(1,.ref 2 0),(3,.fn 174 1<|L1 [.ref 2 0]),(4,.i (F c.ce:U)),(5,.msl 3 1 0<|((F c.ce:U)+1).toNat),(7,.fn 175 1<|L1 [.ref 2 0]),(8,.i x8),(9,.ref 4 0),(58,.i (F c.ce:U)),(59,.i t),(66,.it 5),(71,.msl 6 1 0 2),(72,.i 2),(73,.i m)],[oW c q pos 1 ln,oI o1,oC [.ref 0 0],Z<|.mo<|.sets 2 o3<|Z (a,V),oC [.i g,.i h],Z<|.mo<|.mit 2 V.1 V.2.1 V.2.2 j<|Z k,Z<|.bools ([T,D]:Ω)]⟩
 | .l6 y o1 o3 a o4 e=>∀o w:E,n<=o->n<=w->∀V:LK,TW Ϝ N (FQ Tryz.f140 2 (.bool r.1) [oW c q pos 1 ln,oI r.2]) (Du w<|FU (Af Tryz.f140) 10 [o]) ⟨AI 208 [(1,.ref 2 0),(3,.fn 174 1<|L1 [.ref 2 0]),(5,.msl 3 1 0<|((F c.ce:U)+1).toNat),(7,.fn 175 1<|L1 [.ref 2 0]),(14,.it 4),(16,.i y),(17,.it 5),(18,.ref 6 0),(140,.it 7)],[oW c q pos 1 ln,oI o1,oC [.ref 0 0],Z<|.mo<|.sets 2 o3<|Z (a,V),Z<|.mo<|.set 2 o4,Z<|.mo<|.set 2 ([]:KS),oC [.bool T,.bool T],Z<|.mo<|.mit 2 V.1 V.2.1 V.2.2 e A]⟩
 | .l7 y P o1 o3 a o4 j Q f p s v x=>∀o w b:E,n<=o->n<=w->n<=b->∀V:LK,TW Ϝ N (FQ Tryz.f140 2 (.bool r.1) [oW c q pos 1 ln,oI r.2]) (Du b<|FU (Af Tryz.f140) 12 [o,w]) ⟨AI 208 [(1,.ref 2 0),(3,.fn 174 1<|L1 [.ref 2 0]),(5,.msl 3 1 0<|((F c.ce:U)+1).toNat),(7,.fn 175 1<|L1 [.ref 2 0]),(14,.it 4),(16,.i y),(17,.it 5),(18,.ref 6 0),(19,.ref 7 0),(140,.it 8),(145,.msl 9 1 0 2),(146,.i 2),(147,.i P)],[oW c q pos 1 ln,oI o1,oC [.ref 0 0],Z<|.mo<|.sets 2 o3<|Z (a,V),Z<|.mo<|.set 2 o4,Z<|.mo<|.set 2 j,oC [.bool Q,.bool f],oC [.i p,.i s],Z<|.mo<|.mit 2 V.1 V.2.1 V.2.2 v<|Z x,Z<|.bools ([T,D]:Ω)]⟩
 | .l8 x8 t o1 o3 a o4 z=>∀o w:E,n<=o->n<=w->∀V:LK,TW Ϝ N (FQ Tryz.f140 2 (.bool r.1) [oW c q pos 1 ln,oI r.2]) (Du w<|FU (Af Tryz.f140) 4 [o]) ⟨AI 208 [(1,.ref 2 0),(3,.fn 174 1<|L1 [.ref 2 0]),(4,.i (F c.ce:U)),(5,.msl 3 1 0<|((F c.ce:U)+1).toNat),(7,.fn 175 1<|L1 [.ref 2 0]),(8,.i x8),(58,.i (F c.ce:U)),(59,.i t),(66,.it 4)],[oW c q pos 1 ln,oI o1,oC [.ref 0 0],Z<|.mo<|.sets 2 o3<|Z (a,V),Z<|.mo<|.mit 2 V.1 V.2.1 V.2.2 o4<|Z z]⟩
 | .l9 y o1 o3 a o4 j Q f e G=>∀o w:E,n<=o->n<=w->∀V:LK,TW Ϝ N (FQ Tryz.f140 2 (.bool r.1) [oW c q pos 1 ln,oI r.2]) (Du w<|FU (Af Tryz.f140) 10 [o]) ⟨AI 208 [(1,.ref 2 0),(3,.fn 174 1<|L1 [.ref 2 0]),(5,.msl 3 1 0<|((F c.ce:U)+1).toNat),(7,.fn 175 1<|L1 [.ref 2 0]),(14,.it 4),(16,.i y),(17,.it 5),(18,.ref 6 0),(140,.it 7)],[oW c q pos 1 ln,oI o1,oC [.ref 0 0],Z<|.mo<|.sets 2 o3<|Z (a,V),Z<|.mo<|.set 2 o4,Z<|.mo<|.set 2 j,oC [.bool Q,.bool f],Z<|.mo<|.mit 2 V.1 V.2.1 V.2.2 e<|Z G]⟩
def zEy(Ϝ:E)(N:Yd 2)(c:AD)(q:AA)(pos:Ξ)(ln:E)(lost:Ξ):Al (Ba c q pos ln lost) (zEx · Ϝ N c q pos ln lost):=ia (λ_=>rfl) λn G v r h=>by
 cases v
 case l1 F1 o3=>
  intro o j;refine rd j λo j=>?_
  revert r;apply gO;exact bi 46 (gc (gi (gc (gi (gw 52 (lG Cd [0,1,2,5] (G _ _ · o j))))))) (gc (gi (gc (gi (gi (jg (zJY (i:=0+0)) (lN Cd [0,1,2,3] (G _ _ · n χ))))))))
 case l2 A7 o1 o3=>
  intro o j;refine rd j λo j=>?_
  revert r;apply gO
  exact bi 60 (gn λa=>λp r h=>by
   refine gs (AK 16 Cd) [0,1,2,3] p (CW (Af Tryz.f140) 16 [o]) (AI 208 [(1,.ref 2 0),(3,.fn 174 1<|L1 [.ref 2 0]),(4,.i (F c.ce:U)),(5,.msl 3 1 0<|((F c.ce:U)+1).toNat),(7,.fn 175 1<|L1 [.ref 2 0]),(8,.i A7),(58,.i (F c.ce:U)),(59,.i A7)]) (mT c q pos ln o1 o3) ?_;refine BV.lock 3 (0+A7.toNat) 2 Z5 a Z5 (λV=>zL6 c q pos ln o1 o3 A7 V) Z5 λV=>?_
   revert r;apply gO;exact gc (gi (gc (gi (gi (jg (φ<|0+A7.toNat) (lN Cd [0,1,2,3,4] (G _ _ · o n j χ V)))))))) (bi 115 (gc (gn λa=>jw 118 a (jw 125 a (gc (gi (gw 130 (lN Cd [0,1,2,3,4] (G _ _ · n χ)))))))) (gw 130 (lN Cd [0,1,2,3,4] (G _ _ · n χ))))
 case l3 x8 A7 o1 o3 At o4=>
  intro o w j z V;have j:=zCG j;refine rd z λw z=>?_
  have p:=H0;refine gs (AK 17 Cd) [0,1,2,3,4] p (CW (Af Tryz.f140) 17 [o,w]) (AI 208 [(1,.ref 2 0),(3,.fn 174 1<|L1 [.ref 2 0]),(4,.i (F c.ce:U)),(5,.msl 3 1 0<|((F c.ce:U)+1).toNat),(7,.fn 175 1<|L1 [.ref 2 0]),(8,.i x8),(58,.i (F c.ce:U)),(59,.i A7),(66,.it 4)]) (zL0 c q pos ln o1 o3 At V o4) ?_;revert r;apply gO
  exact gn λa=>λp r h=>by
   replace h:=cP h;refine A2.nx (ops:=Ah Tryz.f140 17) HC.x Z5 Z5 4 3 At 2 o3 V o4 A [1,3,4,5,7,8,58,59,66,68] [0,1,2,3] (AI 208 [(1,.ref 2 0),(3,.fn 174 1<|L1 [.ref 2 0]),(4,.i (F c.ce:U)),(5,.msl 3 1 0<|((F c.ce:U)+1).toNat),(7,.fn 175 1<|L1 [.ref 2 0]),(8,.i x8),(58,.i (F c.ce:U)),(59,.i A7),(68,.bool T)]) (mT c q pos ln o1 o3) [0,1,2,3,4] (λe=>AI 208 [(1,.ref 2 0),(3,.fn 174 1<|L1 [.ref 2 0]),(4,.i (F c.ce:U)),(5,.msl 3 1 0<|((F c.ce:U)+1).toNat),(7,.fn 175 1<|L1 [.ref 2 0]),(8,.i x8),(58,.i (F c.ce:U)),(59,.i A7),(66,.it 4),(68,.bool D)]) (λe=>xF c q pos ln o1 o3 At V o4 e) Z5 Z5 Z5 Z6 a Z5 Z5 (λ_=>Z5) (λb=>?_) λe b=>?_
   ·replace h:=h.1 b;revert r;apply gO;exact gw 98 (lG Cd [0,1,2,3] (G _ _ · o j))
   ·replace h:=h.2 e b;revert r;apply gO;exact gi (jg (φ V.1) (jg (φ V.2.1) (jg (φ V.2.2) (jt (lN Cd [0,1,2,3,5,4,6] (G _ _ · o w n j z χ V))))))
 case l4 Aq o1 o3 o4=>
  intro o j;refine rd j λo j=>?_
  revert r;apply gO
  exact bi 132 (gn λa=>λp r h=>by
   refine gs (AK 36 Cd) [0,1,2,3,4,5,6] p (CW (Af Tryz.f140) 36 [o]) (AI 208 [(1,.ref 2 0),(3,.fn 174 1<|L1 [.ref 2 0]),(5,.msl 3 1 0<|((F c.ce:U)+1).toNat),(7,.fn 175 1<|L1 [.ref 2 0]),(14,.it 4),(16,.i Aq),(17,.it 5),(18,.ref 6 0)]) (mQ c q pos ln o1 o3 o4) ?_;refine BV.lock 3 (0+Aq.toNat) 2 Z5 a Z5 (λV=>zLy c q pos ln o1 o3 Aq V o4) Z5 λV=>?_
   revert r;apply gO;exact gc (gi (gc (gi (gi (jg (φ<|0+Aq.toNat) (lN Cd [0,1,2,3,4,5,6,7] (G _ _ · o n j χ V))))))))<|lE Cd [2] [0,1]
 case l5 x8 A7 Fy o1 o3 At Az GE o5 GD=>
  intro o w y j z S V;have j:=zCG j;have z:=zCG z;refine rd S λy S=>?_
  revert r;apply gO;exact bj 74 (λY=>gc (gn λa=>jg a (gn λs=>jg s (cn λe l=>jc (em (OI l) [2,0,1]<|mP c q pos ln o1 o3 At V Az GE o5 GD) (jt (bn (λQ=>rO (jb 74 Y (jg a (jg s (jc (em (OI l) [2,0,1]<|mP c q pos ln o1 o3 At V Az GE o5 GD) (jb 83 Q (jt (ce dN [2,0,1] (zLx c q pos ln e o3 At V Az GE o5 GD) λ_=>bi 89 (jg zDT (gc (gw 93 (gc (gi (gc (gi (gc (gn λI=>gc (gi (jg (zJX (g:=V) I) (gw 97 (lG Cd [0,1,2,3,4,5,6] (G _ _ · o w y j z S V)))))))))))))) (gw 97 (lG Cd [0,1,2,3,4,5,6] (G _ _ · o w y j z S V))))))))))) (λQ=>rO (jb 74 Y (jg a (jg s (jc (em (OI l) [2,0,1]<|mP c q pos ln o1 o3 At V Az GE o5 GD) (jb 83 Q (jt (gw 97 (lG Cd [0,1,2,3,4,5,6] (G _ _ · o w y j z S V)))))))))))))))) (λ_=>lG Cd [0,1,2,3,5] (G _ _ · o w j z V))
 case l6 Aq o1 o3 At o4 o7=>
  intro o w j z V;have j:=zCG j;refine rd z λw z=>?_
  have p:=H0;refine gs (AK 37 Cd) [0,1,2,3,4,5,6,7] p (CW (Af Tryz.f140) 37 [o,w]) (AI 208 [(1,.ref 2 0),(3,.fn 174 1<|L1 [.ref 2 0]),(5,.msl 3 1 0<|((F c.ce:U)+1).toNat),(7,.fn 175 1<|L1 [.ref 2 0]),(14,.it 4),(16,.i Aq),(17,.it 5),(18,.ref 6 0),(140,.it 7)]) (zLw c q pos ln o1 o3 At V o4 o7) ?_;revert r;apply gO
  exact gn λa=>λp r h=>by
   replace h:=cP h;refine A2.nx (ops:=Ah Tryz.f140 37) HC.x Z5 Z5 7 3 At 2 o3 V o7 A [1,3,5,7,14,16,17,18,140,142] [0,1,2,3,4,5,6] (AI 208 [(1,.ref 2 0),(3,.fn 174 1<|L1 [.ref 2 0]),(5,.msl 3 1 0<|((F c.ce:U)+1).toNat),(7,.fn 175 1<|L1 [.ref 2 0]),(14,.it 4),(16,.i Aq),(17,.it 5),(18,.ref 6 0),(142,.bool T)]) (mQ c q pos ln o1 o3 o4) [0,1,2,3,4,5,6,7] (λe=>AI 208 [(1,.ref 2 0),(3,.fn 174 1<|L1 [.ref 2 0]),(5,.msl 3 1 0<|((F c.ce:U)+1).toNat),(7,.fn 175 1<|L1 [.ref 2 0]),(14,.it 4),(16,.i Aq),(17,.it 5),(18,.ref 6 0),(140,.it 7),(142,.bool D)]) (λe=>zL4 c q pos ln o1 o3 At V o4 o7 e) Z5 Z5 Z5 Z6 a Z5 Z5 (λ_=>Z5) (λb=>?_) λe b=>?_
   ·replace h:=h.1 b;revert r;apply gO;exact jg (by decide:(0:U)<=1/\1<((2:E):U)) (jg sI (gn λs=>jg s (ce G7 [0,1] (mQ c q pos ln o1 o3 o4) λf=>jg (φ<|qB c Aq q pos ln f o3 o4) (jg (by decide:(0:U)<=0/\0<((2:E):U)) (jg jL (jg s (ce OC [0,1] (zL5 c q pos ln f o3 o4) λy3=>jg (φ<|qE c Aq q pos ln y3 o3 o4) (gw 134 (lG (tg:=[([],qB c Aq q pos ln f o3 o4),([],qE c Aq q pos ln y3 o3 o4)]) Cd [0,1,2,3,5] (G _ _ · o j))))))))))
   ·replace h:=h.2 e b;revert r;apply gO;exact gi (jg (φ V.1) (jg (φ V.2.1) (jg (φ V.2.2) (jt (lN Cd [0,1,2,3,4,5,6,8,7,9] (G _ _ · o w n j z χ V))))))
 case l7 Aq EO o1 o3 At o4 o5 Bh Bj Dw Dv o8 EY=>
  intro o w y j z S V;have j:=zCG j;have z:=zCG z;refine rd S λy S=>?_
  revert r;apply gO;exact bj 148 (λY=>gc (gn λa=>jg a (gn λs=>jg s (cn λe l=>jc (em (OI l) [2,0,1]<|XG c q pos ln o1 o3 At V o4 o5 Bh Bj Dw Dv o8 EY) (jt (bn (λQ=>rO (jb 148 Y (jg a (jg s (jc (em (OI l) [2,0,1]<|XG c q pos ln o1 o3 At V o4 o5 Bh Bj Dw Dv o8 EY) (jb 158 Q (jt (cn λf K=>jc (em (dN K) [2,0,1]<|mS c q pos ln e o3 At V o4 o5 Bh Bj Dw Dv o8 EY) (bj 164 (λm=>bj 169 (λJ=>bn (λt=>rO (jb 148 Y (jo 149 (AO.int (k:=.i64)<|zMo t) (jg a (jg s (jc (em (OI l) [2,0,1]<|XG c q pos ln o1 o3 At V o4 o5 Bh Bj Dw Dv o8 EY) (jb 158 Q (jt (jc (em (dN K) [2,0,1]<|mS c q pos ln e o3 At V o4 o5 Bh Bj Dw Dv o8 EY) (jb 164 m (jb 169 J (jg (by decide:(0:U)<=0/\0<((2:E):U)) (jt (gw 175 (lG Cd [0,1,2,3,4,5,6,7,8,9] (G _ _ · o w y j z S V)))))))))))))))) (λt=>bn (λW=>rO (jb 148 Y (jo 149 (AO.int (k:=.i64)<|zMo W) (jg a (jg s (jc (em (OI l) [2,0,1]<|XG c q pos ln o1 o3 At V o4 o5 Bh Bj Dw Dv o8 EY) (jb 158 Q (jt (jc (em (dN K) [2,0,1]<|mS c q pos ln e o3 At V o4 o5 Bh Bj Dw Dv o8 EY) (jb 164 m (jb 169 J (jg (by decide:(0:U)<=1/\1<((2:E):U)) (jt (gw 175 (lG Cd [0,1,2,3,4,5,6,7,8,9] (G _ _ · o w y j z S V)))))))))))))))) λW=>nO)) (λ_=>gw 175 (lG Cd [0,1,2,3,4,5,6,7,8,9] (G _ _ · o w y j z S V)))) (λ_=>gw 175 (lG Cd [0,1,2,3,4,5,6,7,8,9] (G _ _ · o w y j z S V)))))))))))) (λQ=>rO (jb 148 Y (jg a (jg s (jc (em (OI l) [2,0,1]<|XG c q pos ln o1 o3 At V o4 o5 Bh Bj Dw Dv o8 EY) (jb 158 Q (jt (gw 175 (lG Cd [0,1,2,3,4,5,6,7,8,9] (G _ _ · o w y j z S V)))))))))))))))) (λ_=>lG Cd [0,1,2,3,4,5,6,8] (G _ _ · o w j z V))
 case l8 x8 A7 o1 o3 At o4 LD=>
  intro o w j z V;have j:=zCG j;refine rd z λw z=>?_
  have p:=H0;refine gs (AK 17 Cd) [0,1,2,3,4] p (CW (Af Tryz.f140) 17 [o,w]) (AI 208 [(1,.ref 2 0),(3,.fn 174 1<|L1 [.ref 2 0]),(4,.i (F c.ce:U)),(5,.msl 3 1 0<|((F c.ce:U)+1).toNat),(7,.fn 175 1<|L1 [.ref 2 0]),(8,.i x8),(58,.i (F c.ce:U)),(59,.i A7),(66,.it 4)]) (zL3 c q pos ln o1 o3 At V o4 LD) ?_;revert r;apply gO
  exact gn λa=>λp r h=>by
   replace h:=cP h;refine A2.nx (ops:=Ah Tryz.f140 17) HC.x Z5 Z5 4 3 At 2 o3 V o4 (Z LD) [1,3,4,5,7,8,58,59,66,68] [0,1,2,3] (AI 208 [(1,.ref 2 0),(3,.fn 174 1<|L1 [.ref 2 0]),(4,.i (F c.ce:U)),(5,.msl 3 1 0<|((F c.ce:U)+1).toNat),(7,.fn 175 1<|L1 [.ref 2 0]),(8,.i x8),(58,.i (F c.ce:U)),(59,.i A7),(68,.bool T)]) (mT c q pos ln o1 o3) [0,1,2,3,4] (λe=>AI 208 [(1,.ref 2 0),(3,.fn 174 1<|L1 [.ref 2 0]),(4,.i (F c.ce:U)),(5,.msl 3 1 0<|((F c.ce:U)+1).toNat),(7,.fn 175 1<|L1 [.ref 2 0]),(8,.i x8),(58,.i (F c.ce:U)),(59,.i A7),(66,.it 4),(68,.bool D)]) (λe=>xF c q pos ln o1 o3 At V o4 e) Z5 Z5 Z5 Z6 a Z5 Z5 (λ_=>Z5) (λb=>?_) λe b=>?_
   ·replace h:=h.1 b;revert r;apply gO;exact gw 98 (lG Cd [0,1,2,3] (G _ _ · o j))
   ·replace h:=h.2 e b;revert r;apply gO;exact gi (jg (φ V.1) (jg (φ V.2.1) (jg (φ V.2.2) (jt (lN Cd [0,1,2,3,5,4,6] (G _ _ · o w n j z χ V))))))
 case l9 Aq o1 o3 At o4 o5 Bh Bj o7 LA=>
  intro o w j z V;have j:=zCG j;refine rd z λw z=>?_
  have p:=H0;refine gs (AK 37 Cd) [0,1,2,3,4,5,6,7] p (CW (Af Tryz.f140) 37 [o,w]) (AI 208 [(1,.ref 2 0),(3,.fn 174 1<|L1 [.ref 2 0]),(5,.msl 3 1 0<|((F c.ce:U)+1).toNat),(7,.fn 175 1<|L1 [.ref 2 0]),(14,.it 4),(16,.i Aq),(17,.it 5),(18,.ref 6 0),(140,.it 7)]) (zL2 c q pos ln o1 o3 At V o4 o5 Bh Bj o7 LA) ?_;revert r;apply gO
  exact gn λa=>λp r h=>by
   replace h:=cP h;refine A2.nx (ops:=Ah Tryz.f140 37) HC.x Z5 Z5 7 3 At 2 o3 V o7 (Z LA) [1,3,5,7,14,16,17,18,140,142] [0,1,2,3,4,5,6] (AI 208 [(1,.ref 2 0),(3,.fn 174 1<|L1 [.ref 2 0]),(5,.msl 3 1 0<|((F c.ce:U)+1).toNat),(7,.fn 175 1<|L1 [.ref 2 0]),(14,.it 4),(16,.i Aq),(17,.it 5),(18,.ref 6 0),(142,.bool T)]) (mR c q pos ln o1 o3 o4 o5 Bh Bj) [0,1,2,3,4,5,6,7] (λe=>AI 208 [(1,.ref 2 0),(3,.fn 174 1<|L1 [.ref 2 0]),(5,.msl 3 1 0<|((F c.ce:U)+1).toNat),(7,.fn 175 1<|L1 [.ref 2 0]),(14,.it 4),(16,.i Aq),(17,.it 5),(18,.ref 6 0),(140,.it 7),(142,.bool D)]) (λe=>zLz c q pos ln o1 o3 At V o4 o5 Bh Bj o7 e) Z5 Z5 Z5 Z6 a Z5 Z5 (λ_=>Z5) (λb=>?_) λe b=>?_
   ·replace h:=h.1 b;revert r;apply gO;exact jg (by decide:(0:U)<=1/\1<((2:E):U)) (bi 179 (jg sI (gn λs=>jg s (ce G7 [0,1] (mR c q pos ln o1 o3 o4 o5 Bh Bj) λf=>jg (φ<|ig c Aq q pos ln f o3 o4 o5 Bh Bj) (jg (by decide:(0:U)<=0/\0<((2:E):U)) (bi 197 (jg jL (jg s (ce OC [0,1] (zL1 c q pos ln f o3 o4 o5 Bh Bj) λy3=>jg (φ<|qD c Aq q pos ln y3 o3 o4 o5 Bh Bj) (gw 134 (lG (tg:=[([],ig c Aq q pos ln f o3 o4 o5 Bh Bj),([],qD c Aq q pos ln y3 o3 o4 o5 Bh Bj)]) Cd [0,1,2,3,5] (G _ _ · o j)))))) (gw 134 (lG (tg:=[([],ig c Aq q pos ln f o3 o4 o5 Bh Bj)]) Cd [0,1,2,3,5] (G _ _ · o j)))))))) (jg (by decide:(0:U)<=0/\0<((2:E):U)) (bi 197 (jg jL (gi (ce OC [0,1] (mR c q pos ln o1 o3 o4 o5 Bh Bj) λf=>jg (φ<|qC c Aq q pos ln f o3 o4 o5 Bh Bj) (gw 134 (lG (tg:=[([],qC c Aq q pos ln f o3 o4 o5 Bh Bj)]) Cd [0,1,2,3,5] (G _ _ · o j)))))) (gw 134 (lG Cd [0,1,2,3,5] (G _ _ · o j))))))
   ·replace h:=h.2 e b;revert r;apply gO;exact gi (jg (φ V.1) (jg (φ V.2.1) (jg (φ V.2.2) (jt (lN Cd [0,1,2,3,4,5,6,8,7,9] (G _ _ · o w n j z χ V))))))
def zEu(h:Sf n c q pos ln lost=Z r):EQ 140 [.ref 0 0] [oW c q pos 1 ln,oI lost] (.bool r.1) [oW c q pos 1 ln,oI r.2] T:=by
 refine ot Tryz.func140 λϜ N=>?_
 revert r;apply gO;exact bi 32 (lE Cd [2] [0,1]) (gc (gw 41 (gi (lN Cd [0,1,2,3] ((zEy Ϝ N c q pos ln lost n) _ _ · n χ)))))
end
abbrev zOj:=@List.ext_getElem
abbrev zRq:=@Option.isSome_some
abbrev zSD:=@Int.lt_irrefl
section
variable{c:AD}{k:E}{pos lost:Ξ}{q:AA}
variable{l':Ξ}{i:E}
theorem B4.unique{ϒ:E->Ψ}{l:Ξ}(h:B4 c pos lost i ϒ l)(h':B4 c pos lost i ϒ l')(hi:∀j,CB<|H l j 0)(S:∀j,CB<|H l' j 0):l=l':=by
 have e:F l=F l':=h.1.trans h'.1.symm;refine zOj e λj a b=>?_
 have R:H l j 0=l[j]:=by simp[a]
 have X:H l' j 0=l'[j]:=by simp[b]
 rw[←R,←X];refine Iz (hi j) (S j) λs _=>?_
 grind[B4]
theorem jF{l:Ξ}{x:U}(h:∀j,CB<|H l j 0)(hx:CB x):∀j,CB<|H (l.set i x) j 0:=by
 grind[getD_set_ne]
variable{cell ss:U}{n ln:E}
theorem zJM(h:D0 n cell ss c q pos ln lost=Z l')(hi:∀j,CB<|H lost j 0):∀j,CB<|H l' j 0:=by
 grind[D0,lM,jF,D5]
theorem zIR(h:Hb n cell c q pos ln lost=Z l')(hi:∀j,CB<|H lost j 0):∀j,CB<|H l' j 0:=by
 grind[Hb,ko,jF,D5]
def Hq(c:AD):Prop:=F c.ru<=256/\∀j,j<F c.ru->H c.ru j 0<=256
structure FV(c:AD)(Ϛ l:U):Prop where
 d0:0<=Ϛ
 d1:Ϛ<=(F c.ru:U)
 l0:0<=l
 open' :0 < l->Ϛ < (F c.ru :U)/\l <= H c.ru Ϛ.toNat 0
def nx(c:AD)(Ϛ l:U)(inn:ζ):W7:=B inn (u (Ϛ<(F c.ru:U)/\l<H c.ru Ϛ.toNat 0) (Z (Ϛ,l+1)) A)<|u (l=0) (Z (Ϛ,0))<|u (l=H c.ru Ϛ.toNat 0) (Z (Ϛ+1,0)) A
variable{t:Δ}{inn:ζ}{Ϛ l:U}
theorem vQ(h:FV c Ϛ l)(e:nx c Ϛ l inn=Z t):FV c t.1 t.2:=by
 obtain⟨a,b,h3,h4⟩:=h;unfold nx at e;cases inn
 ·rw[zAD]at e;split at e
  ·cases e;exact⟨a,b,zKw _,λh=>τ h<|zSD _⟩
  ·split at e
   ·cases e;exact⟨Z2,Z2,zKw _,λh=>τ h<|zSD _⟩
   ·cases e
 ·split at e
  ·rename_i K;cases e;exact⟨a,b,Z2,λ_=>⟨K.1,Z4⟩⟩
  ·cases e
theorem cc(R:Hq c)(h:FV c Ϛ l):∃t,Wb n (Ϛ,l) inn c q pos ln lost=Z (t,(nx c Ϛ l inn).isSome,lost)/\∀ϛ,nx c Ϛ l inn=Z ϛ->t=ϛ:=by
 obtain⟨a,h2,h3,W⟩:=h;obtain⟨hr,hv⟩:=R
 have hl:l<=256:=by
  grind
 unfold Wb vh nx;cases inn
 ·rw[zAD,zAD]
  by_cases h0:l=0
  ·simp_all
  ·obtain⟨y,a2⟩:=W Z2;have J:(l==0)=T:=by simpa using h0
   simp only[J,zAD,zJz h0];rw[zAF ⟨AZ.2 ⟨Z2,Z2⟩,a,y⟩];refine⟨(Ϛ+1,0),?_,λϛ x=>?_⟩
   ·grind
   grind
 ·rw[zAG,zAG,zAF<|AZ.2 ⟨by show _<=l+1;omega,by show l+1<=_;omega⟩]
  by_cases K:Ϛ<(F c.ru:U)
  ·simp only[zAB K,zAG];rw[zAF ⟨a,K⟩];refine⟨(Ϛ,l+1),?_,λϛ x=>?_⟩
   ·grind
   grind
  simp_all[zAE]
def kd(c:AD)(pos:Ξ)(i:E)(inn:ζ):ζ:=B inn (bits .and .i64 (AY c pos i) c.set != 0)<|bits .andNot .i64 (AY c pos i) c.set != 0
theorem dM(W:Ca c k pos)(hi:i<F c.ce):Wr n (i:U) inn c q pos (F pos) lost=Z (kd c pos i inn,lost):=by
 have hc:=W.ce i hi;unfold Wr wV kd
 grind[AY]
def Fu(c:AD)(pos:Ξ):E->Δ->Prop
 |0,t=>t=(0,0)
 |i+1,t=>∃s inn,Fu c pos i s/\nx c s.1 s.2 inn=Z t/\kd c pos i inn=D
def Fu.ok(i:E):∀{t:Δ},Fu c pos i t->FV c t.1 t.2:=by
 induction i with
 |zero=>
  intro t h;obtain rfl:t=(0,0):=h;exact⟨zKw _,Z2,zKw _,λh=>τ h<|zSD _⟩
 |succ i n=>
  rintro t ⟨s,inn,a,b,_⟩;exact vQ (n a) b
def iI(c:AD)(t:Δ):Prop:=t=((F c.ru:U),0)∨(0<F c.ru/\t=((F c.ru:U)-1,H c.ru (F c.ru-1) 0))
def Lp(c:AD)(pos:Ξ):E->Δ->Prop
 |0,t=>iI c t
 |m+1,s=>Fu c pos (F c.ce-1-m) s/\∃t inn,nx c s.1 s.2 inn=Z t/\kd c pos (F c.ce-1-m) inn=D/\Lp c pos m t
def Is(c:AD)(pos:Ξ)(i:E)(inn:ζ):Prop:=∃s t,Fu c pos i s/\nx c s.1 s.2 inn=Z t/\kd c pos i inn=D/\Lp c pos (F c.ce-1-i) t
def Jq(c:AD)(pos:Ξ)(a s:E):Prop:=(¬Is c pos a D/\tb c.set s=D)∨(¬Is c pos a T/\tb c.set s=T)
def Ei(c:AD)(pos:Ξ)(i:E)(o4:KS)(Ϛ l:U)(inn:ζ):ζ:=match nx c Ϛ l inn with
 |some t=>kd c pos i inn&&o4.contains [t.1,t.2]
 |none=>T
variable{f g:ζ}{o4 j e:KS}{o3:O (M KS)}{o1:Ξ}{a:E}
theorem zJ2{m:Ξ}(W:Ca c k pos)(R:Hq c)(hi:i<F c.ce)(h:FV c Ϛ l):
 Ba c q pos (F pos) lost (n+1) (.l7 i 0 o1 o3 a o4 j f g Ϛ l e m)=Ba c q pos (F pos) lost n (.l7 i 1 o1 o3 a o4 (B (Ei c pos i o4 Ϛ l T) (Cm [Ϛ,l] j) j) (f||Ei c pos i o4 Ϛ l T) g Ϛ l e m):=by
 obtain⟨t,o,X⟩:=cc (n:=n) (ln:=F pos) (pos:=pos) (lost:=o1) (q:=q) (inn:=T) R h;have b:H ([T,D]:Ω) (0+((0:U)).toNat) T=T:=rfl;have r:AG<|(0:U)+1:=AZ.2 ⟨Z6,Z6⟩
 show Sc n (Ba c q pos (F pos) lost n) c q pos (F pos) lost i 0 o1 o3 a o4 j f g Ϛ l e m=_
 unfold Sc Ei;rw[zAB Z6,zAG,zAF ⟨⟨Z6,Z6⟩,Z6⟩,b,o,zAC];cases p:nx c Ϛ l T with
 |none=>grind
 |some ϛ=>
  obtain rfl:=X ϛ p;simp only[zRq,zAG]
  grind[dM]
theorem zJ1{m:Ξ}(W:Ca c k pos)(R:Hq c)(hi:i<F c.ce)(h:FV c Ϛ l):
 Ba c q pos (F pos) lost (n+1) (.l7 i 1 o1 o3 a o4 j f g Ϛ l e m)=Ba c q pos (F pos) lost n (.l7 i 2 o1 o3 a o4 (B (Ei c pos i o4 Ϛ l D) (Cm [Ϛ,l] j) j) f (g||Ei c pos i o4 Ϛ l D) Ϛ l e m):=by
 obtain⟨t,o,X⟩:=cc (n:=n) (ln:=F pos) (pos:=pos) (lost:=o1) (q:=q) (inn:=D) R h;have b:H ([T,D]:Ω) (0+((1:U)).toNat) T=D:=rfl;have r:AG<|(1:U)+1:=AZ.2 ⟨Z6,Z6⟩
 show Sc n (Ba c q pos (F pos) lost n) c q pos (F pos) lost i 1 o1 o3 a o4 j f g Ϛ l e m=_
 unfold Sc Ei;rw[zAB Z6,zAG,zAF ⟨⟨Z6,Z6⟩,Z6⟩,b,o,zAC];cases p:nx c Ϛ l D with
 |none=>grind
 |some ϛ=>
  obtain rfl:=X ϛ p;simp only[zRq,zAG]
  grind[dM]
variable{b:KS}
theorem zJ0{e:ζ}{g:Ξ}:
 Ba c q pos (F pos) lost (n+1) (.l7 i 2 o1 o3 a o4 j e f Ϛ l b g)=Ba c q pos (F pos) lost n (.l9 i o1 o3 a o4 j e f b g):=by
 simp_all[Sc,Ba]
def Gb(c:AD)(pos:Ξ)(i:E)(o3:O<|M KS)(Ϛ l:U)(inn:ζ):O<|M KS:=match nx c Ϛ l inn with
 |some t=>B (kd c pos i inn) (o3.set (i+1)<|Z<|Cm [t.1,t.2]<|(o3.getD (i+1) A).getD []) o3
 |none=>o3
variable{G:Ξ}
theorem zJ6{a:U}(W:Ca c k pos)(R:Hq c)(hi:i<F c.ce)(h:FV c Ϛ l)(m:i+1<F o3)(p:(o3.getD (i+1) A).isSome=D):
 Ba c q pos (F pos) lost (n+1) (.l5 i a 0 o1 o3 i Ϛ l j G)=Ba c q pos (F pos) lost n (.l5 i a 1 o1 (Gb c pos i o3 Ϛ l T) i Ϛ l j G):=by
 obtain⟨t,e,X⟩:=cc (n:=n) (ln:=F pos) (pos:=pos) (lost:=o1) (q:=q) (inn:=T) R h;have b:H ([T,D]:Ω) (0+((0:U)).toNat) T=T:=rfl;have r:AG<|(0:U)+1:=AZ.2 ⟨Z6,Z6⟩;have Ap:=W.len;have f:((((F c.ce:E):U)+1).toNat:E)=F c.ce+1:=Z2
 have N:0+(((i:U)+1).toNat:E)=i+1:=Z2
 show Sd n (Ba c q pos (F pos) lost n) c q pos (F pos) lost i a 0 o1 o3 i Ϛ l j G=_
 unfold Sd Gb;rw[zAB Z6,zAG,zAF ⟨⟨Z6,Z6⟩,Z6⟩,b,e,zAC];cases g:nx c Ϛ l T with
 |none=>grind
 |some ϛ=>
  obtain rfl:=X ϛ g;simp only[zRq,zAG];rw[dM W hi,zAC];cases hk:kd c pos i T
  ·simp only[zAD,zAF r];rfl
  ·simp only[zAG,f,N];rw[zAF ⟨AZ.2 ⟨Z2,Z2⟩,⟨Z2,Z2⟩,m,Z2,p,r⟩];rfl
theorem zJ5{a:U}(W:Ca c k pos)(R:Hq c)(hi:i<F c.ce)(h:FV c Ϛ l)(m:i+1<F o3)(p:(o3.getD (i+1) A).isSome=D):
 Ba c q pos (F pos) lost (n+1) (.l5 i a 1 o1 o3 i Ϛ l j G)=Ba c q pos (F pos) lost n (.l5 i a 2 o1 (Gb c pos i o3 Ϛ l D) i Ϛ l j G):=by
 obtain⟨t,e,X⟩:=cc (n:=n) (ln:=F pos) (pos:=pos) (lost:=o1) (q:=q) (inn:=D) R h;have b:H ([T,D]:Ω) (0+((1:U)).toNat) T=D:=rfl;have r:AG<|(1:U)+1:=AZ.2 ⟨Z6,Z6⟩;have Ap:=W.len;have f:((((F c.ce:E):U)+1).toNat:E)=F c.ce+1:=Z2
 have N:0+(((i:U)+1).toNat:E)=i+1:=Z2
 show Sd n (Ba c q pos (F pos) lost n) c q pos (F pos) lost i a 1 o1 o3 i Ϛ l j G=_
 unfold Sd Gb;rw[zAB Z6,zAG,zAF ⟨⟨Z6,Z6⟩,Z6⟩,b,e,zAC];cases g:nx c Ϛ l D with
 |none=>grind
 |some ϛ=>
  obtain rfl:=X ϛ g;simp only[zRq,zAG];rw[dM W hi,zAC];cases hk:kd c pos i D
  ·simp only[zAD,zAF r];rfl
  ·simp only[zAG,f,N];rw[zAF ⟨AZ.2 ⟨Z2,Z2⟩,⟨Z2,Z2⟩,m,Z2,p,r⟩];rfl
theorem zJ4{t:U}:
 Ba c q pos (F pos) lost (n+1) (.l5 i t 2 o1 o3 i Ϛ l j G)=Ba c q pos (F pos) lost n (.l8 i t o1 o3 i j G):=by
 simp_all[Sd,Ba]
def Gu(o3:O<|M KS)(j:E):KS:=(o3.getD j A).getD []
theorem ud :F (Gb c pos i o3 Ϛ l inn)=F o3:=by
 unfold Gb
 grind
variable{α:Type}
theorem zNu{l:O α}{x y:α}(h:i<F l):(l.set i x).getD i y=x:=by
 grind
theorem yW{l:O α}{j:E}{x y:α}(h:i≠j):(l.set i x).getD j y=l.getD j y:=by
 grind
theorem zHl{j:E}(h:j≠i+1):(Gb c pos i o3 Ϛ l inn).getD j A=o3.getD j A:=by
 unfold Gb
 grind
theorem kP(hl:i+1<F o3){j:E}(h:(o3.getD j A).isSome=D):((Gb c pos i o3 Ϛ l inn).getD j A).isSome=D:=by
 grind[Gb]
theorem cr(hl:i+1<F o3){x:Ξ}:x∈Gu (Gb c pos i o3 Ϛ l inn) (i+1)↔x∈Gu o3 (i+1)∨∃t,nx c Ϛ l inn=Z t/\kd c pos i inn=D/\x= [t.1,t.2]:=by
 unfold Gb;split
 ·cases hk:kd c pos i inn
  ·grind
  ·rw[zAG]
   grind[Gu,QM]
 grind
structure Rows(c:AD)(pos:Ξ)(i:E)(o3:O (M KS)):Prop where
 len:F o3=F c.ce+1
 isSome:∀j,j<=F c.ce->(o3.getD j A).isSome=D
 row:∀j,j<=i->∀x,x∈Gu o3 j↔∃t:Δ,x= [t.1,t.2]/\Fu c pos j t
 rest:∀j,i<j->j<=F c.ce->Gu o3 j= []
structure Rk(c:AD)(pos:Ξ)(i:E)(rem:KS)(o3:O (M KS)):Prop where
 hi:i<F c.ce
 len:F o3=F c.ce+1
 isSome:∀j,j<=F c.ce->(o3.getD j A).isSome=D
 row:∀j,j<=i->∀x,x∈Gu o3 j↔∃t:Δ,x= [t.1,t.2]/\Fu c pos j t
 rest:∀j,i+1<j->j<=F c.ce->Gu o3 j= []
 sub:∀x∈rem,∃t:Δ,x= [t.1,t.2]/\Fu c pos i t
 next:∀x∈Gu o3 (i+1),∃t:Δ,x= [t.1,t.2]/\Fu c pos (i+1) t
 cov:∀t,Fu c pos i t->[t.1,t.2]∈rem∨∀inn ϛ,nx c t.1 t.2 inn=Z ϛ->kd c pos i inn=D->[ϛ.1,ϛ.2]∈Gu o3 (i+1)
def Rows.mid(h:Rows c pos i o3)(hi:i<F c.ce):Rk c pos i (Gu o3 i) o3 where
 hi:=hi
 len:=h.len
 isSome:=h.isSome
 row:=h.row
 rest:=λj hj q=>h.rest j Z2 q
 sub:=λx a=>(h.row i (zI1 _) x).1 a
 next:=λx a=>by rw[h.rest (i+1) Z2 Z2]at a;cases a
 cov:=λt o=>.inl<|(h.row i (zI1 _) _).2 ⟨t,rfl,o⟩
def Rk.rows(h:Rk c pos i [] o3):Rows c pos (i+1) o3 where
 len:=h.len
 isSome:=h.isSome
 row:=λj l x=>by
  rcases zIY.1 (Nat.lt_succ_of_le l)with l|rfl
  ·exact h.row j Z2 x
  ·refine⟨h.next x,?_⟩;rintro⟨t,rfl,s,inn,a,b,m⟩;rcases h.cov s a with h4|h4
   ·cases h4
   ·exact h4 inn t b m
 rest:=h.rest
theorem ux{ϛ:Δ}(h:([t.1,t.2]:Ξ)= [ϛ.1,ϛ.2]):t=ϛ:=by
 grind
theorem Rk.go(h:Rk c pos i b o3)(o:[t.1,t.2]∈b):Rk c pos i (b.erase [t.1,t.2])<|Gb c pos i (Gb c pos i o3 t.1 t.2 T) t.1 t.2 D:=by
 have hl:=h.len;have hi:=h.hi;have f:i+1<F o3:=Z2
 have g:i+1<F (Gb c pos i o3 t.1 t.2 T):=by rw[ud];exact f
 have Q:∀j,j≠i+1->Gu (Gb c pos i (Gb c pos i o3 t.1 t.2 T) t.1 t.2 D) j=Gu o3 j:=λj l=>by
  grind[Gu,zHl]
 have hR:Fu c pos i t:=by
  obtain⟨ϛ,e,k⟩:=h.sub _ o;rw[ux e];exact k
 refine⟨hi,by grind[ud],λj l=>kP g<|kP f<|h.isSome j l,λj l x=>?_,λj l p=>?_,λx a=>h.sub x<|List.mem_of_mem_erase a,λx a=>?_,λs m=>?_⟩
 ·rw[Q j Z2];exact h.row j l x
 ·rw[Q j Z2];exact h.rest j l p
 ·rw[cr g,cr f]at a;rcases a with(a|⟨ϛ,R,X,rfl⟩)|⟨ϛ,R,X,rfl⟩
  ·exact h.next x a
  ·grind[Fu]
  grind[Fu]
 ·by_cases e:s=t
  ·simp_all[cr]
  ·rcases h.cov s m with h3|h3
   ·grind
   grind[cr]
def IN(c:AD)(pos lost:Ξ)(r:ζ×Ξ):Prop:=r.1=D/\B4 c pos lost (F c.ce) (Jq c pos) r.2/\∀j,CB<|H r.2 j 0
theorem IN.uniq(r N:ζ×Ξ)(h:IN c pos lost r)(h':IN c pos lost N):r=N:=by
 grind[B4.unique,IN]
theorem zI2{e:U}(W:Ca c k pos)(R:Hq c)(h:e=(i:U))(ϗ:∀o3,Rows c pos (i+1) o3->Ag (λn=>Ba c q pos (F pos) lost n<|.l2 (e+1) o1 o3) (IN c pos lost)):
 ∀(m:E) (b:KS) (o3:O<|M KS) (G:Ξ),F b=m->Rk c pos i b o3->Ag (λn=>Ba c q pos (F pos) lost n<|.l8 i e o1 o3 i b G) (IN c pos lost):=by
 intro m
 induction m with
 |zero=>
  intro b o3 G P a;have:b= []:=zOm P;subst this;have p:=a.isSome i (by have:=a.hi;omega);have r1:AG<|e+1:=by rw[h];exact(W.r64 a.hi).2
  refine Ag.step 1 (λn=>?_)<|ϗ o3 a.rows
  simp_all[jR,Ba,zIV]
 |succ m j=>
  intro b o3 G P a;have p:=a.isSome i (by have:=a.hi;omega);have Q:b≠[]:=Z4
  refine Ag.step 1 (g:=λn=>If b (u (AG<|e+1) (Ba c q pos (F pos) lost n<|.l2 (e+1) o1 o3) A) λf=>Ba c q pos (F pos) lost n<|.l5 i e 0 o1 o3 i (H f 0 0) (H f 1 0) (b.erase f) f) (λn=>?_)<|Ag.next Q (λy hy=>?_) IN.uniq
  ·simp_all[jR,Ba]
  ·obtain⟨t,rfl,o⟩:=a.sub y hy;have hS:=o.ok;have hl:=a.len;have hi:=a.hi;have r:i+1<F o3:=Z2
   have s:=a.isSome (i+1) Z2;have s2:=kP (c:=c) (pos:=pos) (Ϛ:=t.1) (l:=t.2) (inn:=T) r s;refine Ag.step 3 (λn=>?_)<|j _ _ [t.1,t.2] Z4<|a.go hy
   grind[zJ6,zJ5,zJ4]
def PK(c:AD)(pos:Ξ)(m:E)(o4:KS):Prop:=∀x,x∈o4↔∃t:Δ,x= [t.1,t.2]/\Lp c pos m t
def PI(c:AD)(pos lost:Ξ)(m:E)(o1:Ξ):Prop:=B4 c pos lost (F c.ce) (λa s=>F c.ce<=a+m/\Jq c pos a s) o1/\∀j,CB<|H o1 j 0
structure Bk(c:AD)(pos:Ξ)(i m:E)(o5:KS)(b0 b1:ζ)(rem:KS):Prop where
 hi:i+m+1=F c.ce
 sub:∀x∈rem,∃t:Δ,x= [t.1,t.2]/\Fu c pos i t
 o5s:∀x∈o5,∃t:Δ,x= [t.1,t.2]/\Lp c pos (m+1) t
 b0s:b0=D->Is c pos i T
 b1s:b1=D->Is c pos i D
 cov:∀t,Fu c pos i t->[t.1,t.2]∈rem∨∀inn ϛ,nx c t.1 t.2 inn=Z ϛ->kd c pos i inn=D->Lp c pos m ϛ->[t.1,t.2]∈o5/\(B inn b1 b0)=D
variable{m:E}
theorem vP(h:PK c pos m o4):Ei c pos i o4 Ϛ l inn=D↔∃ϛ,nx c Ϛ l inn=Z ϛ/\kd c pos i inn=D/\Lp c pos m ϛ:=by
 unfold Ei;split
 ·grind[PK]
 grind
theorem Bk.go(hE:PK c pos m o4)(h:Bk c pos i m j f g b)(o:[t.1,t.2]∈b):
 Bk c pos i m (B (Ei c pos i o4 t.1 t.2 D) (Cm [t.1,t.2]<|B (Ei c pos i o4 t.1 t.2 T) (Cm [t.1,t.2] j) j)<|B (Ei c pos i o4 t.1 t.2 T) (Cm [t.1,t.2] j) j) (f||Ei c pos i o4 t.1 t.2 T) (g||Ei c pos i o4 t.1 t.2 D) (b.erase [t.1,t.2]):=by
 have hR:Fu c pos i t:=by
  obtain⟨ϛ,e,k⟩:=h.sub _ o;rw[ux e];exact k
 have ei:F c.ce-1-i=m:=by have:=h.hi;omega
 have em:F c.ce-1-m=i:=by have:=h.hi;omega
 have G:∀inn,Ei c pos i o4 t.1 t.2 inn=D->Is c pos i inn:=λinn K=>by
  grind[Is,PK,Ei]
 have q:∀inn,Ei c pos i o4 t.1 t.2 inn=D->Lp c pos (m+1) t:=λinn K=>by
  grind[vP,Lp]
 have n:∀x,x∈(B (Ei c pos i o4 t.1 t.2 D) (Cm [t.1,t.2]<|B (Ei c pos i o4 t.1 t.2 T) (Cm [t.1,t.2] j) j)<|B (Ei c pos i o4 t.1 t.2 T) (Cm [t.1,t.2] j) j)↔x∈j∨(x= [t.1,t.2]/\(Ei c pos i o4 t.1 t.2 D=D∨Ei c pos i o4 t.1 t.2 T=D)):=λx=>by
  cases Ei c pos i o4 t.1 t.2 D <;> cases Ei c pos i o4 t.1 t.2 T <;> simp only[zAG,zAD,QM,zLV,or_false,and_false,or_true,true_or,and_true]
  ·exact Or.comm
  ·exact Or.comm
  grind
 refine⟨h.hi,λx a=>h.sub x<|List.mem_of_mem_erase a,λx a=>?_,λhb=>?_,λhb=>?_,λs p=>?_⟩
 ·rcases(n x).1 a with a|⟨rfl,h1|h1⟩
  ·exact h.o5s x a
  ·exact⟨t,rfl,q _ h1⟩
  grind
 ·rcases Bool.or_eq_true_iff.1 hb with hb|hb
  ·exact h.b0s hb
  ·exact G _ hb
 ·rcases Bool.or_eq_true_iff.1 hb with hb|hb
  ·exact h.b1s hb
  ·exact G _ hb
 ·by_cases e:s=t
  ·grind[vP,kd]
  ·rcases h.cov s p with h3|h3
   ·grind
   grind
theorem Bk.end'{b e:ζ}(h:Bk c pos i m j b e []):PK c pos (m+1) j/\(b=D↔Is c pos i T)/\(e=D↔Is c pos i D):=by
 have X:F c.ce-1-i=m:=by have:=h.hi;omega
 have em:F c.ce-1-m=i:=by have:=h.hi;omega
 refine⟨λx=>⟨h.o5s x,?_⟩,⟨h.b0s,?_⟩,⟨h.b1s,?_⟩⟩
 ·rintro⟨t,rfl,a⟩;have a:Fu c pos (F c.ce-1-m) t/\∃ϛ inn,nx c t.1 t.2 inn=Z ϛ/\kd c pos (F c.ce-1-m) inn=D/\Lp c pos m ϛ:=a;rw[em]at a;obtain⟨a,ϛ,inn,f,g,W⟩:=a;rcases h.cov t a with h5|h5
  ·cases h5
  grind
 ·rintro⟨s,t,a,f,g,W⟩;rw[X]at W;rcases h.cov s a with h5|h5
  ·cases h5
  grind
 ·rintro⟨s,t,a,f,g,W⟩;rw[X]at W;rcases h.cov s a with h5|h5
  ·cases h5
  grind
def wA(h0:0<=cell)(a:cell<(F pos:U))(b:F lost=F pos)(hi:∀j,CB<|H lost j 0):
 ∃l',(∀n,D0 n cell ss c q pos (F pos) lost=Z l')/\F l'=F pos/\(∀j,CB<|H l' j 0)/\∀j s,tb (H l' j 0) s=(tb (H lost j 0) s||(C (j=cell.toNat)&&(tb (H pos j 0) s&&tb ss s))):=by
 obtain⟨l',e,f,m⟩:=MU (n:=0) (ss:=ss) (c:=c) (q:=q) h0 a b;exact⟨l',λ_=>e,f,zJM e hi,m⟩
def kn(h0:0<=cell)(a:cell<(F pos:U))(b:F lost=F pos)(hi:∀j,CB<|H lost j 0):
 ∃l',(∀n,Hb n cell c q pos (F pos) lost=Z l')/\F l'=F pos/\(∀j,CB<|H l' j 0)/\∀j s,tb (H l' j 0) s=(tb (H lost j 0) s||(C (j=cell.toNat)&&(tb (H pos j 0) s&&!tb c.set s))):=by
 obtain⟨l',e,f,m⟩:=km (n:=0) (c:=c) (q:=q) h0 a b;exact⟨l',λ_=>e,f,zIR e hi,m⟩
theorem PI.go(h:PI c pos lost m o1)(hi:i+m+1=F c.ce)(q:F l'=F pos)(v:∀j,CB<|H l' j 0)
 (a:∀j s,tb (H l' j 0) s=D↔tb (H o1 j 0) s=D∨((H c.ce i 0).toNat=j/\tb (AY c pos i) s=D/\Jq c pos i s)):PI c pos lost (m+1) l':=by
 refine⟨⟨q,λj s=>?_⟩,v⟩;rw[a,h.1.2]
 grind
theorem zQQ{o:U}(W:Ca c k pos)(R:Hq c)(w:o=(i:U))(hR:Rows c pos (F c.ce) o3)(G:PK c pos m o4)(N:PI c pos lost m o1)
 (ϗ:∀o1 a,PI c pos lost (m+1) o1->PK c pos (m+1) a->Ag (λn=>Ba c q pos (F pos) lost n<|.l4 (o-1) o1 o3 a) (IN c pos lost)):
 ∀(z:E) (b a:KS) (e f:ζ) (P:Ξ),F b=z->Bk c pos i m a e f b->Ag (λn=>Ba c q pos (F pos) lost n<|.l9 i o1 o3 i o4 a e f b P) (IN c pos lost):=by
 intro z
 induction z with
 |zero=>
  intro b a e f P p h;have:b= []:=zOm p;subst this;obtain⟨X,e0,e1⟩:=h.end';have hi:i<F c.ce:=by have:=h.hi;omega
  have v:=hR.isSome i Z2;have Ap:=W.len;have r1:AG<|(i:U)-1:=AZ.2 ⟨Z2,Z2⟩;have hc:=W.ce i hi;have g0:(0:U)<=(i:U)/\(i:U)<((F c.ce:E):U):=⟨Z2,Z2⟩;obtain⟨I,f1,J,K,t1⟩:=wA (ss:=c.set) (c:=c) (q:=q) hc.1 hc.2 N.1.1 N.2;obtain⟨S,f2,n2,i2,t2⟩:=kn (c:=c) (q:=q) hc.1 hc.2 J K;obtain⟨V,f3,n3,i3,t3⟩:=kn (c:=c) (q:=q) hc.1 hc.2 N.1.1 N.2
  have Y:∀n,Ba c q pos (F pos) lost (n+1) (.l9 i o1 o3 i o4 a e f [] P)=Ba c q pos (F pos) lost n (.l4 (i-1) (B (!f) (B (!e) S I)<|B (!e) V o1) o3 a):=λn=>by
   show VX n (Ba c q pos (F pos) lost n) c q pos (F pos) lost i o1 o3 i o4 a e f [] P=_
   unfold VX
   grind[If]
  refine Ag.step 1 Y ?_
  have key:∀l':Ξ,F l'=F pos->(∀j,CB<|H l' j 0)->(∀j s,tb (H l' j 0) s=(tb (H o1 j 0) s||(C (j=(H c.ce i 0).toNat)&&(tb (H pos j 0) s&&((!f&&tb c.set s)||(!e&&!tb c.set s))))))->PI c pos lost (m+1) l':=by
   intro l' h1 h2 h3;refine N.go h.hi h1 h2 λj s=>?_
   rw[h3,zKu,zAx,zAx,zKv,zKu,zAx,zAx,zKr,zKr,zKr];unfold Jq
   grind[AY]
  subst w;cases f <;> cases e <;> simp only[zMj,zLW,zAG,zAD]
  ·grind
  ·grind
  ·grind
  ·exact ϗ o1 a (key o1 N.1.1 N.2 λj s=>by
    grind) X
 |succ z ih=>
  intro b a e f P p h;have hi:i<F c.ce:=by have:=h.hi;omega
  have v:=hR.isSome i Z2;have Q:b≠[]:=Z4
  refine Ag.step 1 (g:=λn=>If b A λl=>Ba c q pos (F pos) lost n<|.l7 i 0 o1 o3 i o4 a e f (H l 0 0) (H l 1 0) (b.erase l) l) (λn=>?_)<|Ag.next Q (λy hy=>?_) IN.uniq
  ·show VX n (Ba c q pos (F pos) lost n) c q pos (F pos) lost i o1 o3 i o4 a e f b P=_
   unfold VX;simp only[zAF v];cases b with
   |nil=>exact τ rfl Q
   |cons x r=>rfl
  ·obtain⟨t,rfl,ht⟩:=h.sub y hy;have hS:=ht.ok;refine Ag.step 3 (λn=>?_)<|ih _ _ _ _ [t.1,t.2] Z4<|h.go G hy
   grind[zJ2,zJ1,zJ0]
def zJ3{y:U}{w:KS}:Ba c q pos ln lost n (.l6 y o1 o3 a o4 w)=Ba c q pos ln lost n (.l9 y o1 o3 a o4 [] T T w []):=by cases n <;> rfl
def zJ7{x8 t:U}:Ba c q pos ln lost n (.l3 x8 t o1 o3 a o4)=Ba c q pos ln lost n (.l8 x8 t o1 o3 a o4 []):=by cases n <;> rfl
theorem zAR(W:Ca c k pos)(R:Hq c)(hR:Rows c pos (F c.ce) o3):
 ∀(i m:E) (y:U) (o1:Ξ) (o4:KS),i+m=F c.ce->y=(i:U)-1->PI c pos lost m o1->PK c pos m o4->Ag (λn=>Ba c q pos (F pos) lost n<|.l4 y o1 o3 o4) (IN c pos lost):=by
 intro i
 induction i with
 |zero=>
  intro m y o1 o4 P a N l;refine Ev.p (r:=(D,o1)) ⟨1,λn hn=>?_⟩ ⟨rfl,⟨N.1.1,λj s=>?_⟩,N.2⟩
  ·obtain⟨n,rfl⟩:∃e,n=e+1:=⟨n-1,Z2⟩
   simp_all[aK,Ba]
  ·rw[N.1.2]
   grind
 |succ i f=>
  intro m y o1 o4 P a N l;have a:y=(i:U):=Z2
  subst a;have b:=hR.isSome i Z2;have Ap:=hR.len;have o:((((F c.ce:E):U)+1).toNat:E)=F c.ce+1:=Z2
  have v:0+((i:U).toNat:E)=i:=Z2
  refine Ag.step 1 (g:=λn=>Ba c q pos (F pos) lost n<|.l9 i o1 o3 i o4 [] T T (Gu o3 i) []) (λn=>?_)<|zQQ W R rfl hR l N (λo1 w z G=>f (m+1) ((i:U)-1) o1 w Z2 rfl z G) _ (Gu o3 i) [] T T [] rfl ⟨Z2,λx a=>(hR.row i Z2 x).1 a,λx a=>(by cases a),λh=>(by cases h),λh=>(by cases h),λt I=>.inl<|(hR.row i Z2 _).2 ⟨t,rfl,I⟩⟩
  show aK n (Ba c q pos (F pos) lost n) c q pos (F pos) lost (i:U) o1 o3 o4=_
  unfold aK;simp only[o,v];rw[zAB Z2,zAG,zAF b,zAF ⟨⟨Z2,Z2⟩,Z2,b⟩];exact zJ3
theorem zN4(W:Ca c k pos)(R:Hq c)(l:F lost=F pos)(v:∀j,CB<|H lost j 0):
 ∀(m i:E) (b:U) (o3:O<|M KS),i+m=F c.ce->b=(i:U)->Rows c pos i o3->Ag (λn=>Ba c q pos (F pos) lost n<|.l2 b lost o3) (IN c pos lost):=by
 intro m
 induction m with
 |zero=>
  intro i b o3 P e hR;have P:i=F c.ce:=Z2
  subst P e;have r:=W.len;have hr:=R.1;have r1:AG<|(F c.ce:U)-1:=AZ.2 ⟨Z2,Z2⟩;have r2:AG<|(F c.ru:U)-1:=AZ.2 ⟨Z2,Z2⟩;have N:PI c pos lost 0 lost:=⟨⟨l,λj s=>⟨.inl,λh=>h.elim id λ⟨a,h1,_,_,o,_⟩=>τ o Z2⟩⟩,v⟩
  by_cases h0:0<F c.ru
  ·have p:(((F c.ru:E):U)-1).toNat=F c.ru-1:=Z2
   refine Ag.step 1 (g:=λn=>Ba c q pos (F pos) lost n<|.l4 ((F c.ce:U)-1) lost o3<|Cm [(F c.ru:U)-1,H c.ru (F c.ru-1) 0]<|Cm [(F c.ru:U),0] ([]:KS)) (λn=>?_)<|zAR W R hR (F c.ce) 0 _ _ _ Z2 rfl N λx=>?_
   ·show Se n (Ba c q pos (F pos) lost n) c q pos (F pos) lost (F c.ce:U) lost o3=_
    unfold Se
    grind
   ·rw[QM,QM];constructor
    ·rintro(rfl|rfl|h)
     ·exact⟨((F c.ru:U)-1,H c.ru (F c.ru-1) 0),rfl,.inr ⟨h0,rfl⟩⟩
     ·exact⟨((F c.ru:U),0),rfl,.inl rfl⟩
     ·cases h
    ·rintro⟨t,rfl,rfl|⟨_,rfl⟩⟩
     ·exact .inr<|.inl rfl
     ·exact .inl rfl
  ·have h0':F c.ru=0:=Z2
   refine Ag.step 1 (g:=λn=>Ba c q pos (F pos) lost n<|.l4 ((F c.ce:U)-1) lost o3<|Cm [(F c.ru:U),0] ([]:KS)) (λn=>?_)<|zAR W R hR (F c.ce) 0 _ _ _ Z2 rfl N λx=>?_
   ·simp_all[Se,Ba]
   ·rw[QM];constructor
    ·rintro(rfl|h)
     ·exact⟨((F c.ru:U),0),rfl,.inl rfl⟩
     ·cases h
    ·rintro⟨t,rfl,rfl|⟨h,rfl⟩⟩
     ·exact .inl rfl
     ·exact τ h h0
 |succ m w=>
  intro i b o3 P e hR;subst e;have hi:i<F c.ce:=Z2
  have f:=hR.isSome i Z2;have r:=hR.len;have p:((((F c.ce:E):U)+1).toNat:E)=F c.ce+1:=Z2
  have y:0+((i:U).toNat:E)=i:=Z2
  refine Ag.step 1 (g:=λn=>Ba c q pos (F pos) lost n<|.l8 i i lost o3 i (Gu o3 i) []) (λn=>?_)<|zI2 W R rfl (λo3 h=>w (i+1) _ o3 Z2 Z2 h) _ _ _ _ rfl (hR.mid hi)
  show Se n (Ba c q pos (F pos) lost n) c q pos (F pos) lost (i:U) lost o3=_
  unfold Se;simp only[p,y];rw[zAB Z2,zAG,zAF f,zAF ⟨⟨Z2,Z2⟩,Z2,f⟩];exact zJ7
theorem zOT(W:Ca c k pos)(R:Hq c)(b:F lost=F pos)(v:∀j,CB<|H lost j 0):
 ∀(m j:E) (l:U) (o3:O<|M KS),j+m=F c.ce+1->l=(j:U)->F o3=F c.ce+1->(∀i,i<j->o3.getD i A=Z [])->Ag (λn=>Ba c q pos (F pos) lost n<|.l1 l o3) (IN c pos lost):=by
 intro m
 induction m with
 |zero=>
  intro j l o3 P a r K;subst a;have p:((((F c.ce:E):U)+1).toNat:E)=F c.ce+1:=Z2
  have hs:(o3.getD 0 A).isSome=D:=by rw[K 0 Z2];rfl
  have e0:(o3.getD 0 A).getD []= []:=by rw[K 0 Z2];rfl
  have hg:∀i,i≠0->(o3.set 0<|Z<|Cm [0,0] ([]:KS)).getD i A=o3.getD i A:=λi hi=>yW λe=>hi e.symm
  have f:(o3.set 0<|Z<|Cm [0,0] ([]:KS)).getD 0 A=Z (Cm [0,0] []):=zNu Z2;refine Ag.step 1 (g:=λn=>Ba c q pos (F pos) lost n<|.l2 0 lost<|o3.set 0<|Z<|Cm [0,0] ([]:KS)) (λn=>?_)<|zN4 W R b v (F c.ce) 0 0 _ Z2 rfl ⟨by rw[zKy];exact r,λi hi=>?_,λi hi x=>?_,λi hi T0=>?_⟩
  ·simp_all[aL,Ba]
  ·grind
  ·obtain rfl:i=0:=Z2
   show x∈((o3.set 0<|Z<|Cm [0,0] ([]:KS)).getD 0 A).getD []↔_
   rw[f]
   show x∈Cm [0,0] []↔_
   rw[QM];constructor
   ·rintro(rfl|h)
    ·exact⟨(0,0),rfl,rfl⟩
    ·cases h
   ·rintro⟨t,rfl,h⟩;have h:t=(0,0):=h;subst h;exact .inl rfl
  ·show((o3.set 0<|Z<|Cm [0,0] ([]:KS)).getD i A).getD []= []
   grind
 |succ m o=>
  intro j l o3 P a r K;subst a;have zMr:=W.len;have p:((((F c.ce:E):U)+1).toNat:E)=F c.ce+1:=Z2
  have N:0+((j:U).toNat:E)=j:=Z2
  refine Ag.step 1 (g:=λn=>Ba c q pos (F pos) lost n<|.l1 ((j:U)+1)<|o3.set j<|Z ([]:KS)) (λn=>?_)<|o (j+1) _ _ Z2 Z2 (by rw[zKy];exact r) λi hi=>?_
  ·show aL n (Ba c q pos (F pos) lost n) c q pos (F pos) lost (j:U) o3=_
   unfold aL;simp only[p,N];rw[zAB Z2,zAG,zAF ⟨⟨Z2,Z2⟩,Z2,AZ.2 ⟨Z2,Z2⟩⟩]
  grind[yW]
def Kk(c:AD):ζ:=(F c.ce != 0)||(F c.ru==0)
theorem zEt(W:Ca c k pos)(R:Hq c)(a:F lost=F pos)(v:∀j,CB<|H lost j 0):
 ∃l,Ev (λn=>Sf n c q pos (F pos) lost) (Kk c,l)/\(Kk c=D->B4 c pos lost (F c.ce) (Jq c pos) l):=by
 by_cases h0:F c.ce=0
 ·have e:Kk c=((F c.ru:U)==0):=by
   grind[Kk]
  refine⟨lost,Ev.now λn=>?_,λ_=>by rw[h0];exact B4.zero a⟩
  grind[Sf,jS]
 ·have e:Kk c=D:=by
   grind[Kk]
  have Ap:=W.len;have p:((((F c.ce:E):U)+1).toNat:E)=F c.ce+1:=Z2
  obtain⟨r,f,g⟩:=(zOT (q:=q) W R a v (F c.ce+1) 0 0 (d (F c.ce+1) A) Z2 rfl Z3 λi hi=>τ hi<|zBT i).ev IN.uniq;obtain⟨b,l⟩:=r;obtain⟨m,h,h5⟩:=f;have m:b=D:=m;subst m;refine⟨l,?_,λ_=>h⟩;rw[e];refine g.eq λn=>?_
  unfold Sf jS;rw[p]
  have X:(((F c.ce:E):U)==0)=T:=by
   grind
  rw[X,zAD,zAF ⟨AZ.2 ⟨Z2,Z2⟩,rfl,Z2,Z2⟩]
end
end Go.Proofs.YtnkpdcmbppkkpaaGreatDoor
