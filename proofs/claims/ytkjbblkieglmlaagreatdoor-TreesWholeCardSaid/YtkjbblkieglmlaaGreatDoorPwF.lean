/- Part 6 of 7 of what the proofs of these laws stand on. -/
import Derived.Test.YtkjbblkieglmlaaGreatDoorPwE
import Derived.RangeFuncLeaves
import Derived.RecoverIn
set_option linter.all false
namespace Go.Proofs.YtkjbblkieglmlaaGreatDoor
open Go.RowKit
section
variable {q:AA} {i:Int} {g:List Int} {c:AB}
theorem B7.sets (C:B7 q i (F1 g)):Sm q.symbols.toNat (con q i).set/\ Sm q.symbols.toNat (con q i).other:=by
 have h:=C.fine;unfold FI at h;simp only [zAL] at h;have h2:=X5.1 h.1.1.1.2;have a:=h2 (con q i).set (by simp);have b:=h2 (con q i).other (by simp);exact ⟨⟨a.1,by omega⟩,b.1,by omega⟩
theorem jl (S:Sv q c g) (W:HO c q (F1 g)) {k:Nat} (hs:Sm k c.set) (hk:k<=16) {loop:Bool} {M:Prop} (hM:M↔if loop=true then (∀ v,v<g.length -> (DK c g).getD v false=false)∨((∀ v,v<g.length -> (DK c g).getD v false=true -> DN q.nbrs (DK c g) v=2)/\ Jm q.nbrs (DK c g)) else Jm q.nbrs (DK c g)):
 ∃ r,Ev (fun n=>PV n q.nbrs g c.cells c.set loop) r/\ (r=true↔M):=by
 have L:(1000000000000:Nat)=BB:=rfl;have hl:=W.len;have Fb:=W.l1;have Gh:=W.gl;rw [My] at hl Fb Gh;have hI:(DK c g).length=q.nbrs.length:=by rw [jE];omega
 have fin: ∃ r,Ev (fun n=>(XY n q.nbrs (DK c g)).bind fun y1=>bif (!loop) then some (decide ((y1.1.length:Int)<=1)) else bif ((y1.1.length:Int)==0) then some (decide ((y1.1.length:Int)<=1)) else (O2 n q.nbrs (DK c g)).bind fun y2=>some y2.1) r/\ (r=true↔M):=by
  obtain ⟨N2,hR⟩:=sj W.g hI;have:=Ae.bindU (zCX W.g hI) (b:=fun n y1=>bif (!loop) then some (decide ((y1.1.length:Int)<=1)) else bif ((y1.1.length:Int)==0) then some (decide ((y1.1.length:Int)<=1)) else (O2 n q.nbrs (DK c g)).bind fun y2=>some y2.1) (Q:=fun r=>r=true↔M) ⟨N2,fun n hn x hx=>?_⟩
  ·obtain ⟨r,h1,h2⟩:=this.ev fun r r' h h'=>by
    rw [zEe,h,h']
   exact ⟨r,h2,h1⟩
  ·obtain ⟨x1,x2,x3⟩:=hx;have e1:decide ((x.1.length:Int)<=1)=true↔Jm q.nbrs (DK c g):=by rw [zAi,←x3];omega
   cases loop with
   | false=>
    refine ⟨_,rfl,?_⟩;rw [e1,hM];simp
   | true=>
    rw [zAB rfl] at hM
    by_cases h0:x.1.length=0
    ·have hz:=x2.1 h0;rw [Gh] at hz;refine ⟨true,?_,zGB rfl (hM.2 (.inl hz))⟩
     show (bif ((x.1.length:Int)==0) then some (decide ((x.1.length:Int)<=1)) else _)=_
     rw [h0];rfl
    ·obtain ⟨y,y1,y2,y3⟩:=hR n hn;refine ⟨y.1,?_,?_⟩
     ·show (bif ((x.1.length:Int)==0) then some (decide ((x.1.length:Int)<=1)) else _)=_
      rw [zDr.2 (by omega),zAC,show O2 n q.nbrs (DK c g)=some y from y1];rfl
     ·rw [y3,hM,Gh];have hz: ¬ ∀ v,v<g.length -> (DK c g).getD v false=false:=fun h=>h0 (x2.2 (by rw [Gh];exact h))
      constructor
      ·rintro ⟨h1,_,h3⟩;exact .inr ⟨h1,h3⟩
      ·rintro (h | ⟨h1,h3⟩)
       ·exact absurd h hz
       ·refine ⟨h1,Classical.byContradiction fun hn=>hz fun v hv=>?_,h3⟩;cases hb:(DK c g).getD v false with
        | false=>rfl
        | true=>exact absurd ⟨v,hv,hb⟩ hn
 obtain ⟨r,hr,xo⟩:=fin;refine ⟨r,?_,xo⟩
 have key: ∀ (k j:Nat) (o:List Bool),j+k=g.length -> o.length=g.length -> (∀ v,v<j -> o.getD v false=(DK c g).getD v false) -> Ev (fun n=>PU q.nbrs g c.cells c.set loop n (.l1 (j:Int) o)) r:=by
  intro k
  induction k with
  | zero=>
   intro j o e ho hm
   have:o=DK c g:=by
    refine zFT (by rw [ho,jE]) fun v h1 h2=>?_
    have:=hm v (by omega);simpa [u8,h1,h2] using this
   subst this;obtain ⟨N,hr⟩:=hr;refine Ev.oneN N fun n hn=>?_
   show SV n (PU q.nbrs g c.cells c.set loop n) q.nbrs g c.cells c.set loop (j:Int) (DK c g)=_
   unfold SV;rw [zAE (by omega),zAC,zAB ho.symm];exact hr n hn
  | succ k ih=>
   intro j o e ho hm;have hj:j<g.length:=by omega
   have hid:=W.id j (by rw [My];exact hj);have Nl:=S.G.lt S.v hj;have Nn:=S.G.sym j hj;have eg:g.getD j 0=(((g.getD j 0).toNat:Nat):Int):=by omega
   refine Bj.ev (Bj.one fun n=>?_) (ih (j+1) (o.set j (tb c.set (g.getD j 0).toNat)) (by omega) (by rw [zAl];exact ho) fun v hv=>?_)
   ·show SV n (PU q.nbrs g c.cells c.set loop n) q.nbrs g c.cells c.set loop (j:Int) o=_
    unfold SV;rw [zAT (by omega),zAK,zAB ⟨by omega,by omega⟩,zAO,hid];unfold Zr jG;rw [zAB ⟨by omega,by omega⟩,zAO,eg,Lk hs (by omega) (by omega),zAA,zAB ⟨⟨by omega,by omega⟩,by omega⟩,zAA,zAB (A0.2 ⟨by omega,by omega⟩),zAj,zAO,show ((j+1:Nat):Int)=(j:Int)+1 by omega]
   ·by_cases e1:v=j
    ·subst e1;rw [u8,zEH (by omega),zEY,u0 hj]
    ·rw [u8,zEB (fun h=>e1 h.symm),←u8];exact hm v (by omega)
 have:=key g.length 0 (List.replicate g.length false) (by omega) zAe fun v hv=>absurd hv (zAf v)
 refine Ev.eq this fun n=>?_
 unfold PV jm;rw [zAB ⟨rfl,by omega,by omega⟩];rfl
theorem u7 (C:B7 q i (F1 g)) (G:Gd q g): ∃ b,Ev (fun n=>FY n q (con q i) g) b/\ (b=true↔Gv q (con q i) g):=by
 have S:=C.sv G;have hd:EX (F1 g)=false:=QG.2 S.nz;have W:=C.work;have V:=C.vals;have hl:=W.len;have Wb:=W.k;obtain ⟨hs,ho⟩:=C.sets;have two:(con q i).cells.length=2 -> ∀ a,a<2 -> ((con q i).cells.getD a 0).toNat=((con q i).cells.getD a 0).toNat:=fun _ _ _=>rfl
 have D: ∀ {k:Int} {f:Nat -> Option Bool} {b:Bool} {M:Prop},(con q i).kind=k -> (∀ n,FY n q (con q i) g=f n) -> Ev f b -> (b=true↔M) -> (Gv q (con q i) g↔M) -> ∃ b,Ev (fun n=>FY n q (con q i) g) b/\ (b=true↔Gv q (con q i) g):=
  fun _ he hf hb hM=>⟨_,hf.eq he,hb.trans hM.symm⟩
 have kc:=SS (SR C.kind)
 generalize hc:con q i=c at*
 rcases kc with hk | hk | hk | hk | hk | hk | hk | hk | hk
 ·obtain ⟨r,h1,h2⟩:=zBs S hl;exact D (f:=fun n=>(XK n g c.cells).bind some) hk (fun n=>by unfold FY JB;rw [hk];rfl) (Ev.bind h1 (Ev.now fun n=>rfl)) h2 (by unfold Gv;rw [hk];simp)
 ·refine D (f:=fun n=>(XR n g c.cells c.set).bind fun y1=>(OQ n y1 c).bind some) (M:=c.lo<=cnt (fun a=>tb c.set (Ax c g a)) c.cells.length/\ cnt (fun a=>tb c.set (Ax c g a)) c.cells.length<=c.hi) (b:=decide (c.lo<=cnt (fun a=>tb c.set (Ax c g a)) c.cells.length)&&decide (cnt (fun a=>tb c.set (Ax c g a)) c.cells.length<=c.hi)) hk (fun n=>by unfold FY JB;rw [hk];rfl) (Ev.bind (zCB S hl hs Wb) (Ev.now fun n=>?_)) (by simp) (by unfold Gv;rw [hk];simp);unfold OQ ca;cases decide (c.lo<=cnt (fun a=>tb c.set (Ax c g a)) c.cells.length) <;> rfl
 ·refine D (f:=fun n=>(Ui n q.values g c.cells).bind fun y1=>(OQ n y1 c).bind some) (M:=c.lo<=EN (fun a=>q.values.getD (Ax c g a) 0) c.cells.length/\ EN (fun a=>q.values.getD (Ax c g a) 0) c.cells.length<=c.hi) (b:=decide (c.lo<=EN (fun a=>q.values.getD (Ax c g a) 0) c.cells.length)&&decide (EN (fun a=>q.values.getD (Ax c g a) 0) c.cells.length<=c.hi)) hk (fun n=>by unfold FY JB;rw [hk];rfl) (Ev.bind (oz S V hl) (Ev.now fun n=>?_)) (by simp) (by unfold Gv;rw [hk];simp);unfold OQ ca;cases decide (c.lo<=EN (fun a=>q.values.getD (Ax c g a) 0) c.cells.length) <;> rfl
 ·obtain ⟨r,h1,h2⟩:=sR S V hl;exact D (f:=fun n=>(VA n q.values g c.cells).bind some) hk (fun n=>by unfold FY JB;rw [hk];rfl) (Ev.bind h1 (Ev.now fun n=>rfl)) h2 (by unfold Gv;rw [hk];simp)
 ·have hr:=Yy (b:=fun a=>tb c.set (Ax c g a)) (N:=c.cells.length) c.cells.length 0;refine D (f:=fun n=>(Oz n c.cells c.set g).bind fun y1=>(OJ n y1).bind fun y2=>(P8 n y2 c.runs).bind some) (M:=rl (fun a=>tb c.set (Ax c g a)) c.cells.length c.cells.length 0=c.runs) (b:=decide (rl (fun a=>tb c.set (Ax c g a)) c.cells.length c.cells.length 0=c.runs)) hk (fun n=>by unfold FY JB;rw [hk];rfl) (Ev.bind (rb S hl hs Wb) ⟨300,fun n hn=>?_⟩) (by simp) (by unfold Gv;rw [hk];simp)
  show (OJ n _).bind _=_
  rw [zCe (by omega),zAA,zBa (zAk hr (zAk (by omega:c.cells.length+1<=300) (by decide))) (by omega)];rfl
 ·have h2:c.cells.length=2:=by rw [←hc];exact C.two (.inl (by rw [hc];exact hk))
  have c0:=S.cell 0 (by omega);have c1:=S.cell 1 (by omega);have g0:=S.gi (a:=0) (by omega);have g1:=S.gi (a:=1) (by omega);have l0:=(S.lt (a:=0) (by omega)).1;have l1:=(S.lt (a:=1) (by omega)).1;have vl:=V.len;have v0:=V.val _ l0;have v1:=V.val _ l1;refine D (f:=fun n=>FY n q c g) (M:=IP q c (Ax c g 0) (Ax c g 1)=true) (b:=IP q c (Ax c g 0) (Ax c g 1)) hk (fun n=>rfl) (Ev.now fun n=>?_) Iff.rfl (by unfold Gv;rw [hk];simp);unfold FY JB;rw [hk]
  show (if _ then _ else none)=_
  rw [g0,g1,zAO,zAO,zAB ⟨⟨by omega,by omega⟩,c0,⟨by omega,by omega⟩,⟨by omega,by omega⟩,c1,by omega,by omega⟩];unfold cy nf IP;rw [zAB ⟨A0.2 ⟨by omega,by omega⟩,A0.2 ⟨by omega,by omega⟩⟩,zAA,show q.values.getD (Ax c g 1) 0-q.values.getD (Ax c g 0) 0=0-(q.values.getD (Ax c g 0) 0-q.values.getD (Ax c g 1) 0) by omega]
 ·have h2:c.cells.length=2:=by rw [←hc];exact C.two (.inr (by rw [hc];exact hk))
  have c0:=S.cell 0 (by omega);have c1:=S.cell 1 (by omega);have g0:=S.gi (a:=0) (by omega);have g1:=S.gi (a:=1) (by omega);have l0:=(S.lt (a:=0) (by omega)).2;have l1:=(S.lt (a:=1) (by omega)).2;refine D (f:=fun n=>FY n q c g) (M:=Hi c (Ax c g 0) (Ax c g 1)=true) (b:=Hi c (Ax c g 0) (Ax c g 1)) hk (fun n=>rfl) (Ev.now fun n=>?_) Iff.rfl (by unfold Gv;rw [hk];simp);unfold FY JB;rw [hk]
  show (if _ then _ else none)=_
  rw [g0,g1,zAB ⟨⟨by omega,by omega⟩,c0,⟨by omega,by omega⟩,c1⟩,Lk hs (by omega) (by omega),Lk hs (by omega) (by omega),Lk ho (by omega) (by omega),Lk ho (by omega) (by omega)];unfold Hi;cases tb c.set (Ax c g 0) <;> cases tb c.set (Ax c g 1) <;> cases tb c.other (Ax c g 0) <;> cases tb c.other (Ax c g 1) <;> rfl
 ·have WA:HO c q (F1 g):=by rw [←hc];exact C.all (.inl (by rw [hc];exact hk)) hd
  obtain ⟨r,h1,h2⟩:=jl (loop:=false) (M:=Jm q.nbrs (DK c g)) S WA hs Wb (by simp);exact D (f:=fun n=>(PV n q.nbrs g c.cells c.set false).bind some) hk (fun n=>by unfold FY JB;rw [hk];rfl) (Ev.bind h1 (Ev.now fun n=>rfl)) h2 (by unfold Gv;rw [hk];simp)
 ·have WA:HO c q (F1 g):=by rw [←hc];exact C.all (.inr (by rw [hc];exact hk)) hd
  obtain ⟨r,h1,h2⟩:=jl (loop:=true) (M:=Jm q.nbrs (DK c g)/\ ∀ v,v<g.length -> (DK c g).getD v false=true -> DN q.nbrs (DK c g) v=2) S WA hs Wb (by
   rw [zAB rfl];have gl:=WA.gl;rw [My] at gl;constructor
   ·rintro ⟨h1,h2⟩;exact .inr ⟨h2,h1⟩
   ·rintro (h | ⟨h1,h2⟩)
    ·exact ⟨fun u v hu _ mu _=>(by rw [h u (by omega)] at mu;cases mu),fun v hv mv=>(by rw [h v hv] at mv;cases mv)⟩
    ·exact ⟨h2,h1⟩)
  exact D (f:=fun n=>(PV n q.nbrs g c.cells c.set true).bind some) hk (fun n=>by unfold FY JB;rw [hk];rfl) (Ev.bind h1 (Ev.now fun n=>rfl)) h2 (by unfold Gv;rw [hk];simp)
/-! ### Finished grids-/
theorem oL {s:Int} {l:List Int} (hl:l.length<=LB): ∀ (k j:Nat),j+k=l.length -> (∀ j',j'<j -> 0<=l.getD j' 0/\ l.getD j' 0<s) -> ∃ r:Int,Ev (fun n=>Lj l s n (.l1 (j:Int))) r/\ (decide (r>=0)=false↔∀ j,j<l.length -> 0<=l.getD j 0/\ l.getD j 0<s):=by
 have hb:LB<=9223372036854775806:=by decide
 intro k
 induction k with
 | zero=>
  intro j e h;refine ⟨-1,Ev.one fun n=>?_,zGB (by decide) fun j' BT=>h j' (by omega)⟩
  show Sb n (Lj l s n) l s (j:Int)=_
  unfold Sb;rw [zAE (by omega),zAC]
 | succ k ih=>
  intro j e h;have hj:j<l.length:=by omega
  have u: ∀ n,UR n (l.getD j 0) s=some (decide (¬ (0<=l.getD j 0/\ l.getD j 0<s))):=fun n=>by
   unfold UR dj
   by_cases h0:l.getD j 0<0
   ·rw [zAT h0,zAK,zAT (by omega)]
   ·rw [zAE h0,zAC];exact congrArg some (decide_eq_decide.2 (by omega))
  have step: ∀ n,Lj l s (n+1) (.l1 (j:Int))=bif decide (¬ (0<=l.getD j 0/\ l.getD j 0<s)) then some (j:Int) else Lj l s n (.l1 ((j+1:Nat):Int)):=fun n=>by
   show Sb n (Lj l s n) l s (j:Int)=_
   unfold Sb;rw [zAT (by omega),zAK,zAB ⟨by omega,by omega⟩,zAO,u,zAA,zAB (A0.2 ⟨by omega,by omega⟩),show ((j+1:Nat):Int)=(j:Int)+1 by omega]
  by_cases hh:0<=l.getD j 0/\ l.getD j 0<s
  ·obtain ⟨r,h1,h2⟩:=ih (j+1) (by omega) fun j' BT=>by
    rcases zAa.1 BT with BT | rfl
    ·exact h j' BT
    ·exact hh
   exact ⟨r,Bj.ev (Bj.one fun n=>by rw [step n,zAE (fun h=>h hh),zAC]) h1,h2⟩
  ·refine ⟨(j:Int),Ev.one fun n=>by rw [step n,zAT hh,zAK],zFV (by rw [zAT (by omega)];decide) fun h=>hh (h j hj)⟩
theorem s6 (hF:EM q) (hl:g.length<=LB): ∃ e,Ev (fun n=>VG n q g) e/\ (e=0↔CM q=true/\ Gd q g):=by
 have hV:Ev (fun n=>valid n q) (FJ (CM q) 191):=⟨E8 q,fun n hn=>UN hF hn⟩;cases hv:CM q with
 | false=>
  rw [hv] at hV;exact ⟨191,Ev.bind hV (Ev.now fun n=>rfl),by simp⟩
 | true=>
  rw [hv] at hV
  by_cases Ap:(g.length:Int)=q.cells
  ·obtain ⟨r,h1,h2⟩:=oL (s:=q.symbols) hl g.length 0 (by omega) fun j hj=>absurd hj (zAf j)
   refine ⟨if decide (r>=0)=true then 200 else 0,Ev.bind hV (Ev.eq (Ev.bind (Ev.eq (Ev.bind (Ev.bind h1 (b:=fun n y=>some (decide (y>=0))) (Ev.now fun n=>rfl)) (b:=fun n y=>some (!y)) (Ev.now fun n=>rfl)) fun n=>?_) (b:=fun n y2=>bif (!y2) then some 200 else some 0) (Ev.now fun n=>?_)) fun n=>rfl),?_⟩
   ·unfold TR bs;rw [zDw.2 Ap,zAK];rfl
   ·cases decide (r>=0) <;> rfl
   ·have:(if decide (r>=0)=true then (200:Int) else 0)=0↔decide (r>=0)=false:=by cases decide (r>=0) <;> simp
    rw [this,h2];exact ⟨fun h=>⟨rfl,Ap,h⟩,fun h=>h.2.sym⟩
  ·refine ⟨200,Ev.bind hV (Ev.now fun n=>?_),zFV (by decide) fun h=>Ap h.2.len⟩
   show (bif ((0:Int) != 0) then _ else (TR n q.cells q.symbols g).bind _)=_
   unfold TR bs;rw [zDr.2 Ap];rfl
theorem Gd.ctx (G:Gd q g) (hF:EM q) (hv:CM q=true) (h0:0<=i) (h1:i<(q.cons.length:Int)):B7 q i (F1 g):=⟨hF,hv,h0,h1,G.pos hv⟩
def dJ (q:AA) (g:List Int):Prop:=∀ i,0<=i -> i<(q.cons.length:Int) -> Gv q (con q i) g
def SvP (q:AA) (g:List Int) (r:Bool×Int):Prop:=(r.2=0↔CM q=true/\ Gd q g)/\ (r.2=0 -> (r.1=true↔dJ q g))
theorem oI (hF:EM q) (hv:CM q=true) (G:Gd q g): ∀ (k j:Nat),j+k=q.cons.length -> (∀ i,0<=i -> i<(j:Int) -> Gv q (con q i) g) -> ∃ r:Int,Ev (fun n=>Lh q.cons q g n (.l1 (j:Int))) r/\ (decide (r>=0)=false↔dJ q g):=by
 have A4:q.cons.length<=4096:=by have:=(Fg hv);omega
 intro k
 induction k with
 | zero=>
  intro j e h;refine ⟨-1,Ev.one fun n=>?_,zGB (by decide) fun i h0 h1=>h i h0 (by omega)⟩
  show Sa n (Lh q.cons q g n) q.cons q g (j:Int)=_
  unfold Sa;rw [zAE (by omega),zAC]
 | succ k ih=>
  intro j e h;have hj:j<q.cons.length:=by omega
  obtain ⟨b,⟨N,b1⟩,b2⟩:=u7 (G.ctx hF hv (i:=(j:Int)) (by omega) (by omega)) G
  have step: ∀ n,N<=n -> Lh q.cons q g (n+1) (.l1 (j:Int))=bif !b then some (j:Int) else Lh q.cons q g n (.l1 ((j+1:Nat):Int)):=fun n hn=>by
   have e1:FY n q (q.cons.getD (j:Int).toNat default) g=some b:=b1 n hn
   show Sa n (Lh q.cons q g n) q.cons q g (j:Int)=_
   unfold Sa UP YD;rw [zAT (by omega),zAK,zAB ⟨by omega,by omega⟩,e1,zAA,zAA,zAB (A0.2 ⟨by omega,by omega⟩),show ((j+1:Nat):Int)=(j:Int)+1 by omega]
  cases b with
  | true=>
   obtain ⟨r,h1,h2⟩:=ih (j+1) (by omega) fun i h0 h1=>by
    by_cases e:i=(j:Int)
    ·rw [e];exact b2.1 rfl
    ·exact h i h0 (by omega)
   exact ⟨r,Bj.ev (Bj.oneN N fun n hn=>by rw [step n hn];rfl) h1,h2⟩
  | false=>
   refine ⟨(j:Int),Ev.oneN N fun n hn=>by rw [step n hn];rfl,zFV (by rw [zAT (by omega)];decide) fun h=>?_⟩;have:=b2.2 (h (j:Int) (by omega) (by omega));cases this
theorem pa (hF:EM q) (hl:g.length<=LB): ∃ r,Ev (fun n=>LD n q g) r/\ SvP q g r:=by
 obtain ⟨e,h1,h2⟩:=s6 hF hl
 by_cases h0:e=0
 ·subst h0;obtain ⟨hv,G⟩:=h2.1 rfl;obtain ⟨r,r1,r2⟩:=oI hF hv G q.cons.length 0 (by omega) fun i h0 h1=>by omega
  refine ⟨(!decide (r>=0),0),Ev.bind h1 (Ev.eq (Ev.bind (Ev.bind r1 (b:=fun n y1=>some (decide (y1>=0))) (Ev.now fun n=>rfl)) (b:=fun n y2=>some ((!y2),(0:Int))) (Ev.now fun n=>rfl)) fun n=>rfl),⟨fun _=>⟨hv,G⟩,fun _=>rfl⟩,fun _=>?_⟩;rw [←r2]
  show (!decide (r>=0))=true↔_
  cases decide (r>=0) <;> simp
 ·refine ⟨(false,e),Ev.bind h1 (Ev.now fun n=>by rw [zE3.2 h0];rfl),⟨fun h=>absurd h h0,fun h=>absurd (h2.2 h) h0⟩,fun h=>absurd h h0⟩
end
end Go.Proofs.YtkjbblkieglmlaaGreatDoor
namespace Go.Proofs.YtkjbblkieglmlaaGreatDoor
abbrev zFd:=@List.take_left'
end Go.Proofs.YtkjbblkieglmlaaGreatDoor
namespace Go.Proofs.YtkjbblkieglmlaaGreatDoor
open Go.RowKit
def Bb.nv {P:Program} (C:Bb P):Prop:=∀ G R W,¬ C.Jx G R W
def pan (v:Value):List PanicEntry:=[{ v:=v,recovered:=false }]
def QW (pv:Value) (M:Nat -> Prop) (w:World) (ρ:List AI):Option DV -> Ending -> Prop
 | some d,e=>∃ v,e= .returned v/\ AM M w d ρ v
 | none,e=>e= .panicked (pan pv)
def YC (P:Program) (Γ:Aq) (pv:Value) (f:Nat) (ds:Nat -> List DV) (h:Nat -> DH) (ys:List (List DV)) (out:Option DV) (h':Nat -> DH):Prop:=
 (∀ args W,(callFunc f args).run P W= .ok (.enter f args) W)/\ ∀ (C:Bb P),C.nv -> ∀ i,(∃ rest,C.encs.drop i=ys++rest) -> ∀ N ρ args w G R,A1 P Γ N (h C.l) ρ w -> BC (MS N (h C.l) ρ) w ρ (ds C.l) args -> C.J i G R w -> IY Γ N G R (h C.l) ρ w ->
  CallsIn Fence.wide 0 P f args w fun e w'=>∃ N' ρ' G' R',A1 P Γ N' (h' C.l) ρ' w'/\ C.J (i+ys.length) G' R' w'/\ IY Γ N' G' R' (h' C.l) ρ' w'/\ CA (h C.l).length ρ ρ'/\ QW pv (MS N' (h' C.l) ρ') w' ρ' out e
section
variable {P:Program} {Γ:Aq}
def Bb.part (C:Bb P) (hn:C.nv) (O R1 G1:Nat -> Prop) (w:World) (hO: ∀ b,O b -> b<w.heap.size) (hR1: ∀ b,R1 b -> b<w.heap.size):Bb P where
 l:=C.l
 encs:=C.encs
 J:=fun j G R W=>C.J j (fun b=>G b∨O b) R W/\ AP (fun b=>¬ (O b∨R1 b)) w W/\ (∀ b,O b -> ¬ G b/\ ¬ R b)/\ (∀ b,R1 b -> R b)/\ (∀ b,G b -> G1 b∨w.heap.size<=b)/\ (∀ b,G b -> ¬ R b)
 Jx:=fun _ _ _=>False
 hJ:=by
  rintro j G R G' R' A B ⟨h1,h2,h3,h4,h5,h6⟩ hu hg hr EF hd AN;have hs:=h2.size;have L4: ∀ b,O b -> b<A.heap.size:=fun b hb=>zAY (hO b hb) hs
  have Ls: ∀ b,O b -> ¬ G' b/\ ¬ R' b:=fun b hb=>by
   have:=L4 b hb;exact ⟨fun hx=>(hg b hx).elim (h3 b hb).1 (by omega),fun hx=>(hr b hx).elim (h3 b hb).2 fun hx=>hx.elim (h3 b hb).1 (by omega)⟩
  refine ⟨C.hJ j _ R _ R' A B h1 (hu.mono fun _ _ h=>.inl h) (fun k hk=>hk.elim (fun h=>(hg k h).imp .inl id) fun h=>.inl (.inr h)) (fun k hk=>(hr k hk).imp id fun h=>h.imp .inl id) (fun k hk=>?_) (fun k hk=>hk.elim (hd k) fun h=>(Ls k h).2) (fun k hk=>?_),h2.comp hu fun i hi hx=>?_,Ls,fun b hb=>?_,fun b hb=>?_,hd⟩
  ·rcases hk with (hk | hk) | hk
   ·exact (EF k (.inl hk)).imp .inl id
   ·exact .inl (.inr hk)
   ·exact (EF k (.inr hk)).imp .inl id
  ·rcases hk with (hk | hk) | hk
   ·exact AN k (.inl hk)
   ·exact zAY (L4 k hk) hu.size
   ·exact AN k (.inr hk)
  ·exact fun Ll=>Ll.elim (fun h=>(h3 i h).1 hx) fun h=>h6 i hx (h4 i h)
  ·refine (EF b (.inr (h4 b hb))).resolve_left fun hx=>?_
   rcases hg b hx with h | h
   ·exact h6 b h (h4 b hb)
   ·have:=hR1 b hb;omega
  ·rcases hg b hb with h | h
   ·exact h5 b h
   ·exact .inr (zAk hs h)
 hJx:=fun _ _ _ _ _ _ h _ _ _ _ _ _=>h.elim
 hy:=by
  rintro i x args G R W1 hx hE ⟨h1,h2,h3,h4,h5,h6⟩ hs
  obtain ⟨fn,tmps,T3,body,hy,hR⟩:=C.hy i x args _ R W1 hx hE h1 ⟨fun k hk=>hk.elim (hs.dis k) fun h=>(h3 k h).2,fun k hk=>by
   rcases hk with (hk | hk) | hk
   ·exact hs.lt k (.inl hk)
   ·exact zAY (hO k hk) h2.size
   ·exact hs.lt k (.inr hk)⟩
  refine ⟨fn,tmps,T3,body,hy,hR.mono ?_⟩;rintro e W' ⟨hu,hj⟩;refine ⟨hu.mono fun k _ h hx=>h (hx.imp .inl id),.inl ?_⟩;rcases hj with ⟨rfl,hj⟩ | ⟨_,hj⟩
  ·exact ⟨rfl,hj,h2.comp hu fun i _ hx Ll=>hx (Ll.imp .inr (h4 i)),h3,h4,h5,h6⟩
  ·exact (hn _ _ _ hj).elim
def MT (K:Nat) (h:DH) (ρ:List AI) (b:Nat):Prop:=∃ k o p,K<=k/\ h[k]? =some (some o)/\ ρ[k]? =some p/\ p.foot b
theorem MO.split {h:DH} {ρ:List AI} (K:Nat) (b:Nat):MO h ρ b↔MO (h.take K) (ρ.take K) b∨MT K h ρ b:=by
 constructor
 ·rintro ⟨k,o,p,h1,h2,h3⟩;rcases zDj k K with hk | hk
  ·exact .inl ⟨k,o,p,by rw [zD6,zAB hk];exact h1,by rw [zD6,zAB hk];exact h2,h3⟩
  ·exact .inr ⟨k,o,p,hk,h1,h2,h3⟩
 ·rintro (⟨k,o,p,h1,h2,h3⟩ | ⟨k,o,p,_,h1,h2,h3⟩)
  ·rw [zD6] at h1 h2;split at h1
   ·rename_i hk;rw [zAB hk] at h2;exact ⟨k,o,p,h1,h2,h3⟩
   ·cases h1
  ·exact ⟨k,o,p,h1,h2,h3⟩
def MP (K:Nat):Option DO -> Bool
 | some (.cells l)=>l.all (C5 K)
 | some (.ro l)=>l.all (C5 K)
 | _=>true
theorem A1.take {N:Nat -> Prop} {h:DH} {ρ:List AI} {w:World} (H:A1 P Γ N h ρ w) {K:Nat} (hK:K<=h.length) (hc:(h.take K).all (MP K)=true):A1 P Γ (fun b=>N b∨MT K h ρ b) (h.take K) (ρ.take K) w/\ ∀ b,MS (fun b=>N b∨MT K h ρ b) (h.take K) (ρ.take K) b↔MS N h ρ b:=by
 have hM: ∀ b,MS (fun b=>N b∨MT K h ρ b) (h.take K) (ρ.take K) b↔MS N h ρ b:=fun b=>by
  constructor
  ·rintro ((x | x) | x)
   ·exact .inl x
   ·exact .inr ((MO.split K b).2 (.inr x))
   ·exact .inr ((MO.split K b).2 (.inl x))
  ·rintro (x | x)
   ·exact .inl (.inl x)
   ·exact ((MO.split K b).1 x).elim .inr fun y=>.inl (.inr y)
 have gt: ∀ {α:Type} {l:List α} {k:Nat} {x:α},(l.take K)[k]? =some x -> k<K/\ l[k]? =some x:=fun {α l k x} hx=>by
  rw [zD6] at hx;split at hx
  ·rename_i hk;exact ⟨hk,hx⟩
  ·cases hx
 refine ⟨⟨by simp [H.len],fun k o hk=>?_,fun k o p b h1 h2 h3=>?_,fun i i' o o' p p' b Ak g1 g2 g3 g4 g5 g6=>H.dis i i' o o' p p' b Ak (gt g1).2 (gt g2).2 (gt g3).2 (gt g4).2 g5 g6,fun b hb=>?_,H.gi⟩,hM⟩
 ·obtain ⟨C0,BX⟩:=gt hk;obtain ⟨p,hp,ho⟩:=H.obj k o BX;refine ⟨p,by rw [zD6,zAB C0];exact hp,?_⟩;have e:MS (fun b=>N b∨MT K h ρ b) (h.take K) (ρ.take K)=MS N h ρ:=funext fun b=>propext (hM b)
  rw [e];cases o with
  | cells l=>
   have A4:l.all (C5 K)=true:=zAW.1 hc _ (zDz hk);exact AZ.out ho rfl fun j u hj hu=>AM.take _ (zAW.1 A4 _ (by simp [u8,hj])) hu
  | ints l=>exact ho
  | bools l=>exact ho
  | arr m n f=>exact ho
  | iter encs=>exact ho
  | ro l=>
   obtain ⟨r1,r2,r3⟩:=ho;have A4:l.all (C5 K)=true:=zAW.1 hc _ (zDz hk);exact ⟨r1,r2,AZ.out r3 rfl fun j u hj hu=>AM.take _ (zAW.1 A4 _ (by simp [u8,hj])) hu⟩
  | mo x=>exact ho
 ·obtain ⟨C0,Ki⟩:=gt h1;obtain ⟨c1,c2,c3⟩:=H.cel k o p b Ki (gt h2).2 h3;refine ⟨c1,?_,c3⟩;rintro (hn | ⟨k',o',p',q1,q2,q3,q4⟩)
  ·exact c2 hn
  ·exact H.dis k k' o o' p p' b (by omega) Ki q2 (gt h2).2 q3 h3 q4
 ·rcases hb with hb | ⟨k',o',p',q1,q2,q3,q4⟩
  ·exact H.nlt b hb
  ·obtain ⟨c1,_,c,t,z,c3⟩:=H.cel k' o' p' b q2 q3 q4;exact ⟨(zAJ.1 c3).1,c1⟩
theorem QW.out {pv:Value} {M M':Nat -> Prop} {w:World} {ρ ρ':List AI} {out:Option DV} {e:Ending} (H:BU M w ρ M' w ρ') (h:QW pv M w ρ out e):QW pv M' w ρ' out e:=by
 cases out with
 | none=>exact h
 | some d=>obtain ⟨v,h1,h2⟩:=h;exact ⟨v,h1,h2.out _ H⟩
theorem YC.call {pv:Value} {f:Nat} {ds:Nat -> List DV} {h:Nat -> DH} {ys:List (List DV)} {out:Option DV} {h':Nat -> DH} (H:YC P Γ pv f ds h ys out h') {C:Bb P} (hn:C.nv) {i:Nat} (hi: ∃ rest,C.encs.drop i=ys++rest) {N G R:Nat -> Prop} {hh T:DH} {ρ:List AI} {w:World} {args:Array Value}
 (e:hh=h C.l++T) (HR:A1 P Γ N hh ρ w) (hl:(h' C.l).length=(h C.l).length) (hc:(h C.l).all (MP (h C.l).length)=true) (hd:(ds C.l).all (C5 (h C.l).length)=true) (fa:BC (MS N hh ρ) w ρ (ds C.l) args) (hj:C.J i G R w) (y:IY Γ N G R hh ρ w):
 CallsIn Fence.wide 0 P f args w fun e w'=>∃ N2 ρ2 G2 R2,A1 P Γ N2 (h' C.l++T) ρ2 w'/\ C.J (i+ys.length) G2 R2 w'/\ IY Γ N2 G2 R2 (h' C.l++T) ρ2 w'/\ CA hh.length ρ ρ2/\ QW pv (MS N2 (h' C.l++T) ρ2) w' ρ2 out e/\
  BU (MS N hh ρ) w ρ (MS N2 (h' C.l++T) ρ2) w' ρ2/\ AP (fun b=>N b∨MO (h C.l) (ρ.take (h C.l).length) b∨w.heap.size<=b) w w':=by
 subst e;obtain ⟨K,Kh⟩: ∃ K,K=(h C.l).length:=⟨_,rfl⟩;have hK:(h C.l++T).take K=h C.l:=by rw [Kh,zFd];rfl
 have hKl:K<=(h C.l++T).length:=by rw [Kh,zAh];omega
 obtain ⟨Ob,hM⟩:=HR.take hKl (by rw [hK,Kh];exact hc);rw [hK] at Ob hM;obtain ⟨R1,z1,z2,z3,z4⟩:=IY.part (C.hJ i) hj y;have sp:=fun b=>MO.split (h:=h C.l++T) (ρ:=ρ) K b
 rw [hK] at sp;obtain ⟨O,Kf⟩: ∃ O,O=MT K (h C.l++T) ρ:=⟨_,rfl⟩;obtain ⟨G1,Wo⟩: ∃ G1,G1=MO (h C.l) (ρ.take K):=⟨_,rfl⟩;rw [←Kf] at Ob hM;rw [←Kh,←Wo];have fU:(fun b=>G1 b∨O b)=MO (h C.l++T) ρ:=by rw [Wo,Kf];exact funext fun b=>propext (sp b).symm
 have HL: ∀ b,G1 b∨O b↔MO (h C.l++T) ρ b:=fun b=>iff_of_eq (congrFun fU b)
 have AN: ∀ b,MO (h C.l++T) ρ b -> b<w.heap.size:=fun b hb=>z2.sh.lt b (.inl hb)
 have Pk: ∀ b,G1 b -> ¬ O b:=fun b h1 h2=>by
  rw [Wo] at h1;rw [Kf] at h2;obtain ⟨k,o,p,q1,q2,q3⟩:=h1;obtain ⟨k',o',p',g1,g2,g3,g4⟩:=h2;rw [zD6] at q2;split at q2
  ·rename_i hk;exact HR.dis k k' o o' p p' b (by omega) (by rw [zAX (by omega)];exact q1) g2 q2 g3 q3 g4
  ·cases q2
 have hNG: ∀ b,N b -> ¬ MO (h C.l++T) ρ b:=fun b hN=>((z2.n b).1 hN).2.1
 let C':Bb P:=C.part hn O R1 G1 w (fun b hb=>AN b ((HL b).1 (.inr hb))) fun b hb=>z2.sh.lt b (.inr hb)
 have fa':BC (MS (fun b=>N b∨O b) (h C.l) (ρ.take K)) w (ρ.take K) (ds C.l) args:=by
  have e:MS (fun b=>N b∨O b) (h C.l) (ρ.take K)=MS N (h C.l++T) ρ:=funext fun b=>propext (hM b)
  rw [e];exact fa.take (by rw [Kh];exact hd)
 refine (H.2 C' (fun _ _ _ h=>h) i hi (fun b=>N b∨O b) (ρ.take K) args w G1 R1 Ob fa' ⟨by show C.J i (fun b=>G1 b∨O b) R1 w;rw [fU];exact z1,AP.refl _ _,fun b hb=>⟨fun hg=>Pk b hg hb,z2.sh.dis b ((HL b).1 (.inr hb))⟩,fun _ h=>h,fun _ h=>.inl h,fun b hb=>z2.sh.dis b ((HL b).1 (.inl hb))⟩
  ⟨⟨fun b hb=>z2.sh.dis b ((HL b).1 (.inl hb)),fun b hb=>hb.elim (fun h=>AN b ((HL b).1 (.inl h))) fun h=>z2.sh.lt b (.inr h)⟩,z2.lo,fun b hb=>by rw [Wo];exact hb,fun b=>?_⟩).mono ?_
 ·constructor
  ·rintro (hb | hb)
   ·exact ⟨((z2.n b).1 hb).1,fun hg=>hNG b hb ((HL b).1 (.inl hg)),((z2.n b).1 hb).2.2⟩
   ·exact ⟨AN b ((HL b).1 (.inr hb)),fun hg=>Pk b hg hb,z2.sh.dis b ((HL b).1 (.inr hb))⟩
  ·rintro ⟨q1,q2,q3⟩
   by_cases ho:O b
   ·exact .inr ho
   ·exact .inl ((z2.n b).2 ⟨q1,fun hm=>((HL b).2 hm).elim q2 ho,q3⟩)
 ·rintro e w' ⟨N',ρs,G',R',E3,⟨j1,j2,j3,j4,j5,j6⟩,y',kp,ho⟩;have A3:=j2.size;have ax:ρs.length=K:=by rw [E3.len,Kh];exact hl
  have Ap:ρ.length=K+T.length:=by rw [HR.len,zAh,Kh]
  have hN2: ∀ b,(b<w'.heap.size/\ ¬ (G' b∨O b)/\ ¬ R' b) -> N' b:=fun b ⟨q1,q2,q3⟩=>(y'.n b).2 ⟨q1,fun h=>q2 (.inl h),q3⟩
  have hON: ∀ b,O b -> N' b:=fun b hb=>(y'.n b).2 ⟨zAY (AN b ((HL b).1 (.inr hb))) A3,(j3 b hb).1,(j3 b hb).2⟩
  have pl: ∀ (k:Nat) (p:AI),ρ[k]? =some p -> (ρs++ρ.drop K)[k]? =some p:=fun k p hp=>by
   rcases zDj k K with hk | hk
   ·rw [zAX (by omega)];exact kp k p (by show k<(h C.l).length;rw [←Kh];exact hk) (by rw [zD6,zAB hk];exact hp)
   ·rw [zAb (by omega),ax,zEi,show K+(k-K)=k by omega];exact hp
  have gl: ∀ {k:Nat} {p:AI},k<K -> (ρs++ρ.drop K)[k]? =some p -> ρs[k]? =some p:=fun {k p} hk hp=>by rw [zAX (by omega)] at hp;exact hp
  have gr: ∀ {k:Nat} {p:AI},K<=k -> (ρs++ρ.drop K)[k]? =some p -> ρ[k]? =some p:=fun {k p} hk hp=>by
   rw [zAb (by omega),ax,zEi,show K+(k-K)=k by omega] at hp;exact hp
  have ol: ∀ {k:Nat} {o:DO},k<K -> (h' C.l++T)[k]? =some (some o) -> (h' C.l)[k]? =some (some o):=fun {k o} hk ho=>by rw [zAX (by omega)] at ho;exact ho
  have I5: ∀ {k:Nat} {o:DO},K<=k -> (h' C.l++T)[k]? =some (some o) -> (h C.l++T)[k]? =some (some o):=fun {k o} hk ho=>by
   rw [zAb (by omega)] at ho ⊢;rw [hl] at ho;exact ho
  have JS: ∀ b,MO (h' C.l++T) (ρs++ρ.drop K) b -> G' b∨O b:=by
   rintro b ⟨k,o,p,q1,q2,q3⟩;rcases zDj k K with hk | hk
   ·exact .inl (y'.own b ⟨k,o,p,ol hk q1,gl hk q2,q3⟩)
   ·exact .inr (by rw [Kf];exact ⟨k,o,p,hk,I5 hk q1,gr hk q2,q3⟩)
  obtain ⟨N2,Wk⟩: ∃ N2:Nat -> Prop,N2=fun b=>b<w'.heap.size/\ ¬ (G' b∨O b)/\ ¬ R' b:=⟨_,rfl⟩
  have GJ: ∀ b,N2 b -> N' b:=fun b hb=>by rw [Wk] at hb;exact hN2 b hb
  have hM2: ∀ b,MS N2 (h' C.l++T) (ρs++ρ.drop K) b -> b<w'.heap.size/\ ¬ R' b:=fun b hb=>by
   rcases hb with hb | hb
   ·rw [Wk] at hb;exact ⟨hb.1,hb.2.2⟩
   ·rcases JS b hb with hb | hb
    ·exact ⟨y'.sh.lt b (.inl hb),j6 b hb⟩
    ·exact ⟨zAY (AN b ((HL b).1 (.inr hb))) A3,(j3 b hb).2⟩
  have out:BU (MS N (h C.l++T) ρ) w ρ (MS N2 (h' C.l++T) (ρs++ρ.drop K)) w' (ρs++ρ.drop K):=by
   refine ⟨fun b hb hm _=>j2.block b hb fun hx=>hx (.inr ?_),fun b hb=>?_,pl⟩
   ·exact Classical.byContradiction fun hr=>hm (z3 b ⟨hb,hr⟩)
   ·rcases zDj b w.heap.size with hl | hl
    ·exact .inl (z3 b ⟨hl,fun hr=>(hM2 b hb).2 (j4 b hr)⟩)
    ·exact .inr hl
  have IM:BU (MS N' (h' C.l) ρs) w' ρs (MS N2 (h' C.l++T) (ρs++ρ.drop K)) w' (ρs++ρ.drop K):=by
   refine ⟨fun _ _ _ _=>rfl,fun b hb=>.inl ?_,fun k p hp=>?_⟩
   ·rcases hb with hb | hb
    ·exact .inl (GJ b hb)
    ·obtain ⟨k,o,p,q1,q2,q3⟩:=hb;rcases zDj k K with hk | hk
     ·exact .inr ⟨k,o,p,ol hk q1,gl hk q2,q3⟩
     ·exact .inl (hON b (by rw [Kf];exact ⟨k,o,p,hk,I5 hk q1,gr hk q2,q3⟩))
   ·rw [zAX (zAV.1 hp).1];exact hp
  refine ⟨N2,ρs++ρ.drop K,fun b=>G' b∨O b,R',⟨by simp [ax,Ap,hl,Kh],fun k o hk=>?_,fun k o p b h1 h2 h3=>?_,fun i i' o o' p p' b Ak g1 g2 g3 g4 g5 g6=>?_,fun b hb=>?_,E3.gi⟩,j1,⟨⟨fun b hb=>hb.elim (j6 b) fun h=>(j3 b h).2,fun b hb=>?_⟩,y'.lo,JS,fun b=>by rw [Wk]⟩,fun k p _ hp=>pl k p hp,ho.out IM,out,?_⟩
  ·rcases zDj k K with C0 | C0
   ·obtain ⟨p,hp,hr⟩:=E3.obj k o (ol C0 hk);exact ⟨p,IM.pl k p hp,hr.out IM (S:=fun _=>False) (AP.refl _ _) (fun _ h=>h.elim) fun _ _ _ h=>h⟩
   ·obtain ⟨p,hp,hr⟩:=HR.obj k o (I5 C0 hk);refine ⟨p,pl k p hp,hr.out out (S:=fun b=>b<w.heap.size/\ ¬ (O b∨R1 b)) (j2.mono fun b hb hx=>⟨hb,hx⟩) (fun b hb=>z3 b ⟨hb.1,fun hr=>hb.2 (.inr hr)⟩) fun b _ hf hx=>hx.2 (.inl ?_)⟩;rw [Kf];exact ⟨k,o,p,C0,I5 C0 hk,hp,hf⟩
  ·rcases zDj k K with C0 | C0
   ·obtain ⟨c1,c2,c3⟩:=E3.cel k o p b (ol C0 h1) (gl C0 h2) h3;exact ⟨c1,fun hx=>c2 (GJ b hx),c3⟩
   ·have C8:O b:=by rw [Kf];exact ⟨k,o,p,C0,I5 C0 h1,gr C0 h2,h3⟩
    obtain ⟨c1,_,c,t,z,c3⟩:=HR.cel k o p b (I5 C0 h1) (gr C0 h2) h3;refine ⟨c1,fun hx=>?_,c,t,z,(j2.block b (zAJ.1 c3).1 fun hx=>hx (.inl C8)).trans c3⟩;rw [Wk] at hx;exact hx.2.1 (.inr C8)
  ·rcases zDj i K with FH | FH <;> rcases zDj i' K with EH | EH
   ·exact E3.dis i i' o o' p p' b Ak (ol FH g1) (ol EH g2) (gl FH g3) (gl EH g4) g5 g6
   ·exact (j3 b (by rw [Kf];exact ⟨i',o',p',EH,I5 EH g2,gr EH g4,g6⟩)).1 (y'.own b ⟨i,o,p,ol FH g1,gl FH g3,g5⟩)
   ·exact (j3 b (by rw [Kf];exact ⟨i,o,p,FH,I5 FH g1,gr FH g3,g5⟩)).1 (y'.own b ⟨i',o',p',ol EH g2,gl EH g4,g6⟩)
   ·exact HR.dis i i' o o' p p' b Ak (I5 FH g1) (I5 EH g2) (gr FH g3) (gr EH g4) g5 g6
  ·exact E3.nlt b (GJ b hb)
  ·rcases hb with (hb | hb) | hb
   ·exact y'.sh.lt b (.inl hb)
   ·exact zAY (AN b ((HL b).1 (.inr hb))) A3
   ·exact y'.sh.lt b (.inr hb)
  ·refine j2.mono fun b hb hx=>?_
   rcases z3 b ⟨hb,fun hr=>hx (.inr hr)⟩ with h | h
   ·exact .inl h
   ·exact .inr (.inl (((HL b).2 h).resolve_right fun h=>hx (.inl h)))
def Bb.K (C:Bb P) (Γ:Aq) (L j:Nat) (ρ0:List AI):BR P Γ L where
 I:=fun N h ρ w=>(C.Y Γ L j).I N h ρ w/\ CA L ρ0 ρ
 st:=fun ⟨a,b⟩ H H' st k=>⟨(C.Y Γ L j).st a H H' st k,b.trans k⟩
def YQ (C:Bb P) (Γ:Aq) (pv:Value) (fn:Func) (L j:Nat) (ρ0:List AI) (out:Option DV) (h':DH):QY P Γ L:=fun e S Y=>Y=C.K Γ L j ρ0/\ match out with
 | some d=>DC P fn L d h' e S
 | none=>e= .panic (pan pv)/\ ∃ CJ,Ay L S CJ/\ CJ.h=h'
theorem YC.of {pv:Value} {f L:Nat} {fn:Func} {ds:Nat -> List DV} {h:Nat -> DH} {ys:List (List DV)} {out:Option DV} {h':Nat -> DH} (hf:P.funcs[f]? =some fn) (hb:fn.body.isSome=true) (hn:(fn.name== "runtime.NumGoroutine")=false) (hL: ∀ l,(h l).length=L)
 (T: ∀ (C:Bb P) (i:Nat) (ρ0:List AI),C.nv -> (∃ rest,C.encs.drop i=ys++rest) -> An P Γ Fence.wide none L (C.K Γ L i ρ0) (YQ C Γ pv fn L (i+ys.length) ρ0 out (h' C.l)) [.code (AY fn)] ⟨ds C.l++List.replicate (fn.ntmps-(ds C.l).length) .any,h C.l⟩):YC P Γ pv f ds h ys out h':=by
 refine ⟨fun args W=>ME hf hb hn args W,fun C Ka i hi N ρ args w G R HR fa hj y=>?_⟩;refine mx hf hb (T C i ρ Ka hi) HR fa ⟨⟨G,R,hj,y⟩,CA.refl _ _⟩ ?_;rintro e S' ρ' N' Y' a' W' ⟨rfl,q⟩ q2 ⟨q3,q4⟩;cases out with
 | none=>
  obtain ⟨rfl,CJ,DL,hh⟩:=q;obtain ⟨ρ3,R3,FT,k3⟩:=DL P Γ N' ρ' a' W' q2;obtain ⟨G3,dL,j3,y3⟩:=(C.Y Γ L (i+ys.length)).st q3 q2.hr R3.hr FT k3;have Ma:=R3.hr;rw [hh] at Ma y3;exact ⟨N',ρ3,G3,dL,Ma,j3,y3,by rw [hL];exact q4.trans k3,rfl⟩
 | some d=>
  obtain ⟨he,CJ,DL,rs,Ln,hd⟩:=q;obtain ⟨ρ'',EZ,Qp,NZ⟩:=DL P Γ N' ρ' a' W' q2;have y2:=(C.Y Γ L (i+ys.length)).st q3 q2.hr EZ.hr Qp NZ;obtain ⟨v,g1,g2⟩:=VC EZ Ln
  have key: ∃ v,(results fn a'.tmps).run P W'= .ok v W'/\ ∃ N' ρ' G' R',A1 P Γ N' (h' C.l) ρ' W'/\ C.J (i+ys.length) G' R' W'/\ IY Γ N' G' R' (h' C.l) ρ' W'/\ CA (h C.l).length ρ ρ'/\ QW pv (MS N' (h' C.l) ρ') W' ρ' (some d) (.returned v):=by
   rcases hd with ⟨hd,hh⟩ | ⟨_,hd,hn,hl,hh⟩
   ·obtain ⟨G3,R3,j3,y3⟩:=y2;have g3:=hd _ _ _ _ g2;have Rh:=EZ.hr;rw [hh] at y3 g3 Rh;exact ⟨v,g1,N',ρ'',G3,R3,Rh,j3,y3,by rw [hL];exact q4.trans NZ,v,rfl,g3⟩
   ·obtain ⟨ρ3,R3,FT,k3⟩:=Ay.compact (L:=L) (List.range L) CJ List.nodup_range (fun k hk=>zAY (zAd.1 hk) hl) (fun k hk=>by simp [hk]) P Γ N' ρ'' a' W' EZ;obtain ⟨G3,dL,j3,y3⟩:=(C.Y Γ L (i+ys.length)).st y2 EZ.hr R3.hr FT k3;have Ma:=R3.hr;rw [hh] at Ma FT y3;refine ⟨v,g1,N',ρ3,G3,dL,Ma,j3,y3,by rw [hL];exact (q4.trans NZ).trans k3,v,rfl,?_⟩;have r0:=hn _ _ _ _ (hd _ _ _ _ g2);have r1:AM (MS N' (h' C.l) ρ3) W' d [] v:=AM.out _ ⟨fun _ _ _ _=>rfl,fun b hb=>hb.elim (fun hx=>.inl (.inl hx)) fun hx=>(FT.grow b hx).imp .inr id,fun _ _ hx=>by simp at hx⟩ r0;exact AM.out _ ⟨fun _ _ _ _=>rfl,fun b hb=>.inl hb,fun _ _ hx=>by simp at hx⟩ r1
  rcases he with rfl | rfl
  ·exact key
  ·exact key
def MR (fr:List DV):List DV:=fr.map fun _=>.any
theorem zDU {M:Nat -> Prop} {w:World} {ρ:List AI} {fr:List DV} {t:Array Value} (h:fr.length=t.size):BC M w ρ (MR fr) t:=⟨by simp [MR,h],fun j hj=>by
 have:(MR fr).getD j .any= .any:=by
  unfold MR;rw [u8,zA1];cases fr[j]? <;> rfl
 rw [this];trivial⟩
def PO {L:Nat} (Q:QY P Γ L):Exit -> Act -> World -> Prop
 | .panic c,a,w=>∃ fr h ρ N Y,Q (.panic c) ⟨MR fr,h⟩ Y/\ fr.length=a.tmps.size/\ A1 P Γ N h ρ w/\ Y.I N h ρ w/\ a.defers= []
 | e,a,w=>∃ S ρ N Y,QE Q e S Y/\ AT P Γ N S ρ a w/\ Y.I N S.h ρ w/\ Ku none a.defers w/\ Bd Fence.wide none w
theorem PO.le {L:Nat} {Q:QY P Γ L} {e:Exit} {a:Act} {w:World} (h:PO Q e a w): ∃ S ρ N Y,QE Q e S Y/\ AT P Γ N S ρ a w/\ Y.I N S.h ρ w/\ Ku none a.defers w/\ Bd Fence.wide none w:=by
 cases e with
 | panic c=>
  obtain ⟨fr,h,ρ,N,Y,h1,h2,h3,h4,h5⟩:=h;exact ⟨⟨MR fr,h⟩,ρ,N,Y,h1,⟨h3,zDU h2⟩,h4,h5,Bd.none⟩
 | _=>exact h
theorem PO.put {L:Nat} {Q:QY P Γ L} (c:List PanicEntry) (a:Act) (d:Option Tmp) (v:Value) (w:World) (h:PO Q (.panic c) (Act.put a d v) w):PO Q (.panic c) a w:=by
 obtain ⟨fr,h,ρ,N,Y,h1,h2,h3,h4,h5⟩:=h;refine ⟨fr,h,ρ,N,Y,h1,h2.trans ?_,h3,h4,?_⟩
 ·cases d <;> simp [Act.put]
 ·cases d <;> simpa [Act.put] using h5
def DY (P:Program) (Γ:Aq) {L:Nat} (Y:BR P Γ L) (ops:Array Oper) (l:List Nat) (S:St) (Q:QY P Γ L):Prop:=
 ∀ N ρ a w,AT P Γ N S ρ a w -> Y.I N S.h ρ w -> a.defers= [] -> wpListIn Fence.wide 0 P ops (PO Q) (CG ops l) a w
theorem Rl {ops:Array Oper}: ∀ (l l':List Nat),CG ops (l++l')=CG ops l++CG ops l'
 | [],_=>rfl
 | i::l,l'=>by
  simp only [zFS,CG];split
  ·rw [Rl l l'];rfl
  ·exact Rl l l'
theorem tz {ops:Array Oper}:CG ops (List.range ops.size)=ops.toList:=by
 have go: ∀ (k:Nat),k<=ops.size -> CG ops (List.range k)=ops.toList.take k:=by
  intro k
  induction k with
  | zero=>intro _;rfl
  | succ k ih=>
   intro hk;rw [List.range_succ,Rl,ih (by omega),List.take_add_one]
   congr 1
   simp [CG,zAq (show k<ops.size by omega)]
 rw [go _ (zAm _),List.take_of_length_le (by simp)]
section
variable {L:Nat} {C:Bb P} {i:Nat} {ρ0:List AI} {Q:QY P Γ L} {ops:Array Oper} {S:St} {Aa:BF} {vs:List Prop}
theorem DY.done {Y:BR P Γ L} {l:List Nat} {S':St} {B2:BF} (hF:Cv Fence.wide P) (Av:CR ops=true) (h:DW P Γ ops (CG ops l) S Aa=some (S',vs,B2)) (hv:Ba vs) (hk:Q .normal S' Y):DY P Γ Y ops l S Q:=fun N ρ a w R y m=>
 JV hF Av _ (PC l) R h hv fun ρ' a' w' R' st Ca=>Tr.done R y m Bd.none hk R' st.st (fun k p _ hp=>st.pl k p hp) Ca
theorem Tr.ofO {Y:BR P Γ L} {id:Nat} (h:DY P Γ Y ops (List.range ops.size) S Q):Tr P Γ Fence.wide none L Y (.region id ops false) S Q:=fun N ρ a w R y m _=>zEh (zE6 (by
 have:=h N ρ a w R y m;rw [tz] at this;exact this)) fun _ _ _=>PO.le
def Je (P:Program) (Γ:Aq) (ops:Array Oper) (l:List Nat) (p:Nat) (S:St) (Aa:BF):Option (FuncId×List DV×Option Tmp×St×List Prop×BF):=match DW P Γ ops (CG ops l) S Aa with
 | none=>none
 | some (S1,vs,Ee)=>match ops[p]? with
  | none=>none
  | some o=>match Ip ops S1 o with
   | some true=>match o.op with
    | .call c=>match c.callee with
     | .value f=>match AX S1.fr f with
      | .fn g m cap=>some (g,c.args.toList.map (AX S1.fr)++(List.range m).map cap,o.dst,S1,vs,Ee)
      | _=>none
     | _=>none
    | _=>none
   | _=>none
theorem DY.call {l1 l2:List Nat} {p:Nat} {pv:Value} {g:FuncId} {dst:Option Tmp} {S1:St} {Ee:BF} {ds:Nat -> List DV} {h:Nat -> DH} {ys:List (List DV)} {out:Option DV} {h':Nat -> DH} {T:DH} (hF:Cv Fence.wide P) (Av:CR ops=true) (hC:C.nv)
 (hr:Je P Γ ops l1 p S Aa=some (g,ds C.l,dst,S1,vs,Ee)) (hv:Ba vs) (H:YC P Γ pv g ds h ys out h') (hS:S1.h=h C.l++T) (hl:(h' C.l).length=(h C.l).length) (hc:(h C.l).all (MP (h C.l).length)=true) (hd:(ds C.l).all (C5 (h C.l).length)=true) (hi: ∃ rest,C.encs.drop i=ys++rest)
 (hk:match out with
  | some d=>DY P Γ (C.K Γ L (i+ys.length) ρ0) ops l2 ⟨CY S1.fr dst d,h' C.l++T⟩ Q
  | none=>Q (.panic (pan pv)) ⟨MR S1.fr,h' C.l++T⟩ (C.K Γ L (i+ys.length) ρ0)):DY P Γ (C.K Γ L i ρ0) ops (l1++p::l2) S Q:=fun N ρ a w R y m=>by
 unfold Je at hr;split at hr
 ·cases hr
 rename_i S2 Dy Fm h1;split at hr
 ·cases hr
 rename_i o ho;split at hr
 ·rename_i hw;split at hr
  ·rename_i c Lq;split at hr
   ·rename_i f Pn;split at hr
    ·rename_i g' m' cap hf;simp only [zC5,zD1] at hr;obtain ⟨rfl,e2,rfl,rfl,rfl,rfl⟩:=hr;rw [Rl];have e3:CG ops (p::l2)=o::CG ops l2:=by simp only [CG,ho]
     rw [e3];refine TG hF Av _ (PC l1) R h1 hv fun ρ1 a1 w1 R1 DF Ny=>?_
     obtain ⟨⟨G,R0,j1,y1⟩,Hm⟩:=(C.K Γ L i ρ0).st y R.hr R1.hr DF.st (fun k p _ hp=>DF.pl k p hp);obtain ⟨args,JH,S0⟩:=cX R1 o Lq Pn hf H.1;rw [e2] at S0;unfold wpListIn;rw [zAB (HZ R1 hw)];refine ⟨fun f _=>hF.fn f,?_⟩;rw [zEa _ _ _ (Ga Av ho),JH];refine ⟨fun hx=>(by cases hx),(YC.call H hC hi hS R1.hr hl hc hd S0 j1 y1).mono ?_⟩;have Az:a1.defers= []:=Ny.trans m;have CI: ∀ v,(a1.put o.dst v).defers=a1.defers:=fun v=>by cases ho:o.dst <;> simp [Act.put]
     rintro e w2 ⟨N2,ρ2,G2,R2,UE,j2,y2,jX,Nq,hO,_⟩;have OB:=R1.fr.out hO;have PQ:CA L ρ0 ρ2:=fun k p hk hp=>hO.pl k p (Hm k p hk hp)
     cases out with
     | none=>
      have he:e= .panicked (pan pv):=Nq;subst he;exact ⟨_,_,ρ2,N2,_,hk,OB.1,UE,⟨⟨G2,R2,j2,y2⟩,PQ⟩,Az⟩
     | some d=>
      obtain ⟨v,rfl,Nz⟩:=Nq;exact hk N2 ρ2 _ w2 (GU (S:=⟨S2.fr,h' C.l++T⟩) ⟨UE,OB⟩ o.dst Nz) ⟨⟨G2,R2,j2,y2⟩,PQ⟩ ((CI v).trans Az)
    ·cases hr
   ·cases hr
  ·cases hr
 ·cases hr
theorem Tr.ordO {Y:BR P Γ L} {id:Nat} {CT:List (List Nat×Nat)} {BJ tail:List Nat} {S':St} {B2:BF} (hF:Cv Fence.wide P) (hm:P.follows .mixedOrders=true) (hB:Ar ops CT BJ tail)
 (h:Lm P Γ ops S.h CT BJ S Aa=some (S',vs,B2)) (hv:Ba vs) (hk:DY P Γ Y ops tail S' Q):Tr P Γ Fence.wide none L Y (.region id ops true) S Q:=fun N ρ a w R y m _=>by
 simp only [Ar,zAL] at hB;obtain ⟨⟨h1,h2⟩,h3⟩:=hB;have hE:Ao w w.drew:=Ao.toDrew w;refine zEh (dV hF.fn CT BJ tail hm (by simp only [zAL];exact ⟨h1,h2⟩) (WQ (Q:=PO Q) hF h2 CT BJ tail h3 (R.ext hE) (Ci.refl _ _ _) (Ao.refl _) h hv fun ρ' a' w' R' st Ca=>?_)) fun _ _ _=>PO.le
 exact hk N ρ' a' w' R' (Y.st y R.hr R'.hr ((A6.ext hE).trans st.st) fun k p _ hp=>st.pl k p hp) (Ca.trans m)
def Xy (P:Program) (Γ:Aq) (ops:Array Oper) (l:List Nat) (p:Nat) (S:St) (Aa:BF):Option (List DV×Nat×Option Tmp×St×List Prop×BF):=match DW P Γ ops (CG ops l) S Aa with
 | none=>none
 | some (S1,vs,Ee)=>match ops[p]? with
  | none=>none
  | some o=>match Ip ops S1 o with
   | some true=>match o.op with
    | .call c=>match c.callee with
     | .value f=>match AX S1.fr f with
      | .yl l=>match (c.args.toList.map (AX S1.fr)).all Ep with
       | true=>some (c.args.toList.map (AX S1.fr),l,o.dst,S1,vs,Ee)
       | false=>none
      | _=>none
     | _=>none
    | _=>none
   | _=>none
theorem DY.yield {l1 l2:List Nat} {p:Nat} {x:List DV} {dst:Option Tmp} {S1:St} {Ee:BF} (hF:Cv Fence.wide P) (Av:CR ops=true) (hC:C.nv)
 (hr:Xy P Γ ops l1 p S Aa=some (x,C.l,dst,S1,vs,Ee)) (hv:Ba vs) (hx:C.encs[i]? =some x) (hk:DY P Γ (C.K Γ L (i+1) ρ0) ops l2 ⟨CY S1.fr dst (.bool true),S1.h⟩ Q):DY P Γ (C.K Γ L i ρ0) ops (l1++p::l2) S Q:=fun N ρ a w R y m=>by
 unfold Xy at hr;split at hr
 ·cases hr
 rename_i S2 Dy Fm h1;split at hr
 ·cases hr
 rename_i o ho;split at hr
 ·rename_i hw;split at hr
  ·rename_i c Lq;split at hr
   ·rename_i f Pn;split at hr
    ·rename_i l hl;split at hr
     ·rename_i Se;simp only [zC5,zD1] at hr;obtain ⟨rfl,rfl,rfl,rfl,rfl,rfl⟩:=hr;rw [Rl];have e3:CG ops (p::l2)=o::CG ops l2:=by simp only [CG,ho]
      rw [e3];refine TG hF Av _ (PC l1) R h1 hv fun ρ1 a1 w1 R1 DF Ny=>?_
      obtain ⟨⟨G0,R0,y1,y2⟩,Hm⟩:=(C.K Γ L i ρ0).st y R.hr R1.hr DF.st (fun k p _ hp=>DF.pl k p hp);obtain ⟨R',z1,z2,z3,_⟩:=IY.part (C.hJ i) y1 y2;obtain ⟨fn,tmps,T3,body,hy,hR⟩:=C.hy i _ _ _ R' w1 hx (YV.of (g:=AX S2.fr) (f:=a1.eval) (fun x=>Bh R1 x) z3 Se) z1 z2.sh;unfold wpListIn;rw [zAB (HZ R1 hw)]
      have bB:a1.eval f= .func (.yield C.l) #[] #[]:=by
       have hr:=Bh R1 f;rw [hl] at hr;exact hr
      refine ⟨fun f _=>hF.fn f,?_⟩;rw [zEa _ _ _ (Ga Av ho),gK Lq Pn bB rfl,hy];refine ⟨fun hx=>(by cases hx),hR.mono ?_⟩;have Az:a1.defers= []:=Ny.trans m;have CI: ∀ v,(a1.put o.dst v).defers=a1.defers:=fun v=>by cases ho:o.dst <;> simp [Act.put]
      rintro e W' ⟨hu,hj⟩;obtain ⟨rfl,BT⟩:=hj.resolve_right fun h=>hC _ _ _ h.2
      obtain ⟨H',fo⟩:=z2.later R1.hr hu;exact hk _ ρ1 _ W' (GU (S:=S2) ⟨H',R1.fr.out fo⟩ o.dst (d:=.bool true) (v:=.bool true) rfl) ⟨⟨_,_,BT,z2.sh.upd hu,z2.lo,fun _ h=>h,fun _=>Iff.rfl⟩,Hm⟩ ((CI _).trans Az)
     ·cases hr
    ·cases hr
   ·cases hr
  ·cases hr
 ·cases hr
def OG (ops:Array Oper) (p:Nat) (tail:List Nat):List Nat -> Array Bool -> Bool
 | [],AV=>(Region.ready .any ops AV== [p])&&Oo ops tail (AV.setIfInBounds p true)&&((List.range ops.size).all fun j=>tail.contains j||(AV.setIfInBounds p true).getD j true)
 | r::Bl,AV=>O4 ops (fun j=>j==p) r AV&&((List.range ops.size).all fun j=>!tail.contains j||Em ops ops.size j r)&&OG ops p tail Bl (AV.setIfInBounds r true)
def RG (P:Program) (ops:Array Oper) (xs:List Nat):List Nat -> St -> List (Nat×DV) -> Option (St×List Prop×List (Nat×DV))
 | [],S,co=>some (S,[],co)
 | r::Bl,S,co=>match ops[r]? with
  | none=>none
  | some o=>match O6 P ops ⟨S.fr,je xs S.h⟩ co o with
   | none=>none
   | some (S1,CL,Jf)=>match RG P ops xs Bl ⟨S1.fr,S.h⟩ Jf with
    | none=>none
    | some (S2,Dy,cP)=>some (S2,CL++Dy,cP)
def dF (xs:List Nat) (h:DH):Bool:=xs.all fun k=>decide (h.length<=k)||(h.getD k none).isSome
def Zp (xs:List Nat) (ρ:List AI) (w:World) (b:Nat):Prop:=(∃ k q,k∈xs/\ ρ[k]? =some q/\ q.foot b)∨w.heap.size<=b
theorem Y1 {xs:List Nat} {p:Nat} {tail:List Nat} {Q':Exit -> Act -> World -> Prop} (hF:Cv Fence.wide P) (Av:CR ops=true) (hs:Region.noSelect ops=true) (hQ: ∀ c a d v w,Q' (.panic c) (Act.put a d v) w -> Q' (.panic c) a w) {N:Nat -> Prop} {ρ:List AI} {w:World} {g m:Nat}:
 ∀ (Bl:List Nat) {AV:Array Bool} {S:St} {a:Act} {co:List (Nat×DV)} {S':St} {vs:List Prop} {Cq:List (Nat×DV)},FO ops AV -> AT P Γ N S ρ a w -> dF xs S.h=true -> OG ops p tail Bl AV=true -> RG P ops xs Bl S co=some (S',vs,Cq) -> Ba vs ->
  (∀ Zz a',FO ops Zz -> OG ops p tail [] Zz=true -> AT P Γ N S' ρ a' w -> S'.h=S.h -> a'.defers=a.defers -> HV Fence.wide 0 P ops Q' (RZ ops (fun j=>j==p) fun _ b=>N b∨Zp xs ρ w b) (fun j=>tail.contains j) g m Zz a' w) ->
  HV Fence.wide 0 P ops Q' (RZ ops (fun j=>j==p) fun _ b=>N b∨Zp xs ρ w b) (fun j=>tail.contains j) g (Bl.length+m) AV a w
 | [],AV,S,a,co,S',vs,Cq,A4,R,N7,hk,h,hv,hn=>by
  cases h;rw [zD9,zAj];exact hn AV a A4 hk R rfl rfl
 | r::Bl,AV,S,a,co,S',vs,Cq,A4,R,N7,hk,h,hv,hn=>by
  simp only [OG,zAL] at hk;obtain ⟨⟨k1,k2⟩,k3⟩:=hk;simp only [RG] at h;split at h
  ·cases h
  rename_i o ho;split at h
  ·cases h
  rename_i S1 CL Jf h1;split at h
  ·cases h
  rename_i S2 Dy cP h2;cases h;obtain ⟨B0,B5⟩:=Cu.1 hv
  have hT: ∀ j,j<ops.size -> tail.contains j=true -> Em ops ops.size j r=true:=fun j hj ht=>by
   have:=zAW.1 k2 j (zAd.2 hj);rw [ht] at this;simpa using this
  have FZ: ∀ W,AP (fun b=>N b∨Zp xs ρ w b) w W -> Keep (fun b=>N b∨∃ k o q,(!xs.contains k)=false/\ S.h[k]? =some (some o)/\ ρ[k]? =some q/\ q.foot b) w W:=fun W hu b o u hb hc=>by
   have AN:b<w.heap.size:=zED w ⟨b,o,none⟩ hc;refine (cW (hu.block b AN ?_)).trans hc;rintro (h | ⟨k,q,h1,h2,h3⟩ | h)
   ·exact hb (.inl h)
   ·have hk:k<S.h.length:=by rw [←R.hr.len];exact (zAV.1 h2).1
    have hx:=zAW.1 N7 k h1;simp only [zDh,zBg] at hx;rcases hx with hx | hx
    ·omega
    ·cases hg:S.h.getD k none with
     | none=>rw [hg] at hx;cases hx
     | some ob=>exact hb (.inr ⟨k,ob,q,by simp [h1],getD_some hg,h2,h3⟩)
   ·omega
  have KX:(Region.ready .any ops AV).contains r=true:=by
   simp only [O4,zAL] at k1;exact k1.1.1.1
  have CI: ∀ v,(a.put o.dst v).defers=a.defers:=fun v=>by cases ho:o.dst <;> simp [Act.put]
  obtain ⟨e1,Df⟩:=Re (R.sel (p:=fun k=>!xs.contains k)) h1 B0
  have back: ∀ {a':Act},AT P Γ (fun b=>N b∨∃ k o q,(!xs.contains k)=false/\ S.h[k]? =some (some o)/\ ρ[k]? =some q/\ q.foot b) S1 ρ a' w -> AT P Γ N ⟨S1.fr,S.h⟩ ρ a' w:=fun {a'} hr=>by
   have hr:=hr.fr;rw [e1] at hr;exact AT.unsel (p:=fun k=>!xs.contains k) R.hr hr
  rw [show (r::Bl).length+m=(Bl.length+m)+1 by simp;omega];rcases Df with ⟨hw,v,g1,g2⟩ | ⟨hw,g2⟩
  ·refine VI (Zi:=fun b=>N b∨Zp xs ρ w b) hF.fn Av hs hQ ho A4 k1 (fun _ _ _ h=>h) hT (.inl ⟨hw,fun W hu=>g1 W (FZ W hu)⟩) ?_;exact Y1 hF Av hs hQ Bl (Tu A4 KX) (back g2) N7 k3 h2 B5 fun l' a' q1 q2 q3 q4 q5=>hn l' a' q1 q2 q3 q4 (q5.trans (CI v))
  ·refine VI (Zi:=fun b=>N b∨Zp xs ρ w b) hF.fn Av hs (v:=undef) hQ ho A4 k1 (fun _ _ _ h=>h) hT (.inr ⟨hw,rfl⟩) ?_;exact Y1 hF Av hs hQ Bl (Tu A4 KX) (back g2) N7 k3 h2 B5 fun l' a' q1 q2 q3 q4 q5=>hn l' a' q1 q2 q3 q4 (q5.trans (CI undef))
def kg (xs:List Nat) (K:Nat) (h:DH):Bool:=(List.range K).all fun k=>xs.contains k||(match h.getD k none with
 | some (.ro _)=>true
 | none=>true
 | _=>false)
theorem Tr.drawC {id p:Nat} {Bl tail xs:List Nat} {pv:Value} {g:FuncId} {dst:Option Tmp} {co Jf:List (Nat×DV)} {S1:St} {Ee:BF} {CL:List Prop} {ds:Nat -> List DV} {h:Nat -> DH} {ys:List (List DV)} {out:Option DV} {h':Nat -> DH} {T:DH} (hF:Cv Fence.wide P) (hm:P.follows .mixedOrders=true)
 (hB:(CR ops&&Region.noSelect ops&&(Bl.length+1+tail.length==ops.size)&&(tail.all fun t=>decide (t<ops.size))&&OG ops p tail Bl (Array.replicate ops.size false)&&dF xs S.h&&kg xs (h C.l).length S.h)=true) (hC:C.nv)
 (hs:RG P ops xs Bl S co=some (S1,CL,Jf)) (B0:Ba CL) (hr:Je P Γ ops [] p S1 Aa=some (g,ds C.l,dst,S1,vs,Ee)) (H:YC P Γ pv g ds h ys out h') (hS:S.h=h C.l++T) (hl:(h' C.l).length=(h C.l).length) (hc:(h C.l).all (MP (h C.l).length)=true) (hd:(ds C.l).all (C5 (h C.l).length)=true) (hi: ∃ rest,C.encs.drop i=ys++rest)
 (hk:match out with
  | some d=>DY P Γ (C.K Γ L (i+ys.length) ρ0) ops tail ⟨CY S1.fr dst d,h' C.l++T⟩ Q
  | none=>Q (.panic (pan pv)) ⟨MR S1.fr,h' C.l++T⟩ (C.K Γ L (i+ys.length) ρ0)):Tr P Γ Fence.wide none L (C.K Γ L i ρ0) (.region id ops true) S Q:=fun N ρ a w R y m _=>by
 simp only [zAL,zDw] at hB;obtain ⟨⟨⟨⟨⟨⟨b1,b2⟩,b3⟩,b4⟩,b5⟩,b6⟩,b7⟩:=hB;have hE:Ao w w.drew:=Ao.toDrew w;have Rd:=R.ext hE;have yd:=(C.K Γ L i ρ0).st y R.hr Rd.hr (A6.ext hE) fun _ _ _ h=>h
 refine zEh (X2 (Q:=PO Q) (m:=Bl.length+1) hm b3 (Y1 (Q':=PO Q) hF b1 b2 (fun c a d v w h=>PO.put c a d v w h) Bl cR Rd b6 b5 hs B0 fun AV a1 A4 Wc R1 eh Ny=>?_)) fun _ _ _=>PO.le
 simp only [OG,zAL,zDw] at Wc;obtain ⟨⟨c1,c2⟩,c3⟩:=Wc;refine ⟨fun h0=>(by rw [c1] at h0;cases h0),fun q hq=>?_⟩;rw [c1,zAp] at hq;subst hq;unfold Je at hr;split at hr
 ·cases hr
 rename_i S2 Dy Fm h1;simp only [CG,DW,zC5,zD1] at h1;obtain ⟨rfl,_,_⟩:=h1;split at hr
 ·cases hr
 rename_i o ho;split at hr
 ·rename_i hw;split at hr
  ·rename_i c Lq;split at hr
   ·rename_i f Pn;split at hr
    ·rename_i g' m' cap hf;simp only [zC5,zD1] at hr;obtain ⟨rfl,e2,rfl,_,_,_⟩:=hr;rw [←eh] at yd hS;obtain ⟨⟨G,R0,j1,y1⟩,Hm⟩:=yd;obtain ⟨args,JH,S0⟩:=cX R1 o Lq Pn hf H.1;rw [e2] at S0;have Az:a1.defers= []:=Ny.trans m;have CI: ∀ v,(a1.put o.dst v).defers=a1.defers:=fun v=>by cases ho:o.dst <;> simp [Act.put]
     unfold wpOpIn;simp only [ho];rw [zAB (HZ R1 hw)];refine ⟨fun f _=>hF.fn f,?_⟩;rw [zEa _ _ _ (Ga b1 ho),JH];refine ⟨fun hx=>(by cases hx),(YC.call H hC hi hS R1.hr hl hc hd S0 j1 y1).mono ?_⟩;rintro e w2 ⟨N2,ρ2,G2,R2,UE,j2,y2,jX,Nq,hO,hU⟩;have OB:=R1.fr.out hO;have PQ:CA L ρ0 ρ2:=fun k p hk hp=>hO.pl k p (Hm k p hk hp)
     cases out with
     | none=>
      have he:e= .panicked (pan pv):=Nq;subst he;exact ⟨_,_,ρ2,N2,_,hk,OB.1,UE,⟨⟨G2,R2,j2,y2⟩,PQ⟩,Az⟩
     | some d=>
      obtain ⟨v,rfl,Nz⟩:=Nq;refine ⟨⟨fun hp=>?_,fun _=>hU.mono fun b _ hb=>?_⟩,fun j hj ht=>?_,YJ tail _ _ _ c2 (YK tail _ _ (fun t ht=>by simpa using zAW.1 b4 t ht) (hk N2 ρ2 _ w2 (GU (S:=⟨S1.fr,h' C.l++T⟩) ⟨UE,OB⟩ o.dst Nz) ⟨⟨G2,R2,j2,y2⟩,PQ⟩ ((CI v).trans Az)))⟩
      ·simp [PB,ho,O9,Lq,Pn] at hp
      ·rcases hb with hb | ⟨k,ob,q,q1,q2,q3⟩ | hb
       ·exact .inl hb
       ·rw [zD6] at q2;split at q2
        ·rename_i BX;have TB:S1.h[k]? =some (some ob):=by rw [hS,zAX BX];exact q1
         have hx:=zAW.1 b7 k (zAd.2 BX);rw [←eh,u8,TB] at hx;simp only [zDh] at hx;rcases hx with hx | hx
         ·exact .inr (.inl ⟨k,q,by simpa using hx,q2,q3⟩)
         ·obtain ⟨q',Lo,Cs⟩:=R1.hr.obj k _ TB;have eq:q'=q:=zAU (Lo.symm.trans q2);subst eq;cases ob <;> simp at hx;rw [Cs.1] at q3;exact q3.elim
        ·cases q2
       ·exact .inr (.inr hb)
      ·have:=zAW.1 c3 j (zAd.2 hj);have ht:tail.contains j=false:=ht;rw [ht] at this;simpa using this
    ·cases hr
   ·cases hr
  ·cases hr
 ·cases hr
end
end
end Go.Proofs.YtkjbblkieglmlaaGreatDoor
namespace Go.Proofs.YtkjbblkieglmlaaGreatDoor
open Go.RowKit
def DX:Value:=.iface 30 (.int .i64 280)
theorem zBW (w:World):CallsIn Fence.wide 0 Tryz.prog 57 #[.bool true] w fun e w'=>e= .returned (.tuple #[])/\ w'=w:=by
 refine callsIn_of_wp Tryz.func57 rfl trivial ?_ rfl;simp only [Tryz.ntmps57,zEz,zDl,zD9,Nat.reduceAdd,Nat.reduceSub,zF1,zF2,List.push_toArray,zF6,zEI,zFS]
 gi_wp2
 go_end0
 exact ⟨rfl,rfl⟩
theorem zBX (w:World):CallsIn Fence.wide 0 Tryz.prog 57 #[.bool false] w fun e w'=>e= .panicked (pan DX)/\ w'=w:=by
 refine callsIn_of_wp Tryz.func57 rfl trivial ?_ rfl;simp only [Tryz.ntmps57,zEz,zDl,zD9,Nat.reduceAdd,Nat.reduceSub,zF1,zF2,List.push_toArray,zF6,zEI,zFS]
 gi_wp2
 exact ⟨rfl,rfl,rfl⟩
theorem mG (b:Bool):YC Tryz.prog GG DX 57 (fun _=>[.bool b]) (fun _=>[]) [] (bif b then some (.tup 0 (fun j=>([]:List DV).getD j .any)) else none) (fun _=>[]):=by
 refine ⟨fun args W=>ME Tryz.func57 (by kernel_rfl) (by kernel_rfl) args W,fun C _ i _ N ρ args w G R HR fa hj y=>?_⟩
 have ha:args= #[.bool b]:=by
  obtain ⟨h1,h2⟩:=fa;have h:=h2 0 Nat.one_pos;have hs:args.size=1:=h1.symm;apply Array.ext
  ·simp [hs]
  ·intro j g1 g2;have:j=0:=by omega
   subst this;have h:args.getD 0 undef= .bool b:=h;rw [zAc,zAq (by omega)] at h;exact h
 subst ha;cases b with
 | true=>
  refine (zBW w).mono ?_;rintro e w' ⟨rfl,rfl⟩;exact ⟨N,ρ,G,R,HR,hj,y,CA.refl _ _,.tuple #[],rfl,#[],rfl,rfl,fun j hj=>absurd hj (zAf j)⟩
 | false=>
  refine (zBX w).mono ?_;rintro e w' ⟨rfl,rfl⟩;exact ⟨N,ρ,G,R,HR,hj,y,CA.refl _ _,rfl⟩
end Go.Proofs.YtkjbblkieglmlaaGreatDoor
namespace Go.Proofs.YtkjbblkieglmlaaGreatDoor
open Go.RowKit
theorem AM.pl {M M':Nat -> Prop} {w:World} (hM: ∀ b,M' b -> M b) {ρ ρ':List AI} (hρ: ∀ (k:Nat) (p:AI),ρ[k]? =some p -> ∃ ft,ρ'[k]? =some { p with foot:=ft }): ∀ (d:DV) {v:Value},AM M w d ρ v -> AM M' w d ρ' v:=by
 have low: ∀ (d:DV) {v:Value},AM M w d [] v -> AM M' w d [] v:=fun d v h=>h.out d ⟨fun _ _ _ _=>rfl,fun b hb=>.inl (hM b hb),fun k p hk=>by simp at hk⟩
 intro d
 induction d with
 | any=>intro v _;trivial
 | nils=>intro v h;exact h
 | int k n=>intro v h;exact h
 | bool b=>intro v h;exact h
 | str s=>intro v h;exact h
 | ints l=>intro v h;exact low (.ints l) h
 | bools l=>intro v h;exact low (.bools l) h
 | sl m n f _=>intro v h;exact low (.sl m n f) h
 | fp m f _=>intro v h;exact low (.fp m f) h
 | agg m f ih=>rintro v ⟨cs,e,hs,h⟩;exact ⟨cs,e,hs,fun j hj=>let ⟨u,h1,h2⟩:=h j hj;⟨u,h1,ih j h2⟩⟩
 | tup m f ih=>rintro v ⟨cs,e,hs,h⟩;exact ⟨cs,e,hs,fun j hj=>let ⟨u,h1,h2⟩:=h j hj;⟨u,h1,ih j h2⟩⟩
 | fn g m c ih=>rintro v ⟨cs,e,hs,h⟩;exact ⟨cs,e,hs,fun j hj=>let ⟨u,h1,h2⟩:=h j hj;⟨u,h1,ih j h2⟩⟩
 | ref k j=>rintro v ⟨p,hp,e⟩;obtain ⟨ft,h⟩:=hρ k p hp;exact ⟨_,h,e⟩
 | msl k m off n=>rintro v ⟨p,cap,hp,r⟩;obtain ⟨ft,h⟩:=hρ k p hp;exact ⟨_,cap,h,r⟩
 | mp k m i j=>rintro v ⟨p,hp,e⟩;obtain ⟨ft,h⟩:=hρ k p hp;exact ⟨_,h,e⟩
 | it k=>rintro v ⟨p,hp,e⟩;obtain ⟨ft,h⟩:=hρ k p hp;exact ⟨_,h,e⟩
 | yl l=>intro v h;exact h
 | cst u=>intro v h;exact h
 | mri k i=>rintro v ⟨p,vs,hp,r⟩;obtain ⟨ft,h⟩:=hρ k p hp;exact ⟨_,vs,h,r⟩
 | mse k m off n=>rintro v ⟨p,a,cap,hp,r⟩;obtain ⟨ft,h⟩:=hρ k p hp;exact ⟨_,a,cap,h,r⟩
theorem Ay.ro {L k:Nat} {S:St} {l:List DV} (hk:S.h[k]? =some (some (.cells l))) (hL:L<=k):Ay L S ⟨S.fr,S.h.set k (some (.ro l))⟩:=fun P Γ N ρ a w R=>by
 obtain ⟨p,hp,hr⟩:=R.hr.obj k _ hk;have hr:AZ w p l.length _:=hr;obtain ⟨kr,KW⟩:=hr;have D6:k<ρ.length:=(zAV.1 hp).1;have hkh:k<S.h.length:=(zAV.1 hk).1
 let p':AI:={ p with foot:=fun _=>False }
 have KV: ∀ (i:Nat) (q:AI),(ρ.set k p')[i]? =some q -> (i=k/\ q=p')∨(i≠k/\ ρ[i]? =some q):=fun i q h=>by
  rw [zAo] at h;split at h
  ·rename_i e;exact .inl ⟨e.symm,(zAU h).symm⟩
  ·rename_i e;exact .inr ⟨fun h=>e h.symm,h⟩
 have GN: ∀ (i:Nat) (q:AI),i≠k -> ρ[i]? =some q -> (ρ.set k p')[i]? =some q:=fun i q hi h=>by rw [zAo,zAZ (fun e=>hi e.symm)];exact h
 have AK:(ρ.set k p')[k]? =some p':=by rw [zAo,zAB rfl,zAB D6]
 have Eu: ∀ (i:Nat) (q:AI),ρ[i]? =some q -> ∃ ft,(ρ.set k p')[i]? =some { q with foot:=ft }:=fun i q h=>by
  by_cases e:i=k
  ·subst e;rw [hp] at h;cases h;exact ⟨_,AK⟩
  ·exact ⟨q.foot,GN i q e h⟩
 have C8: ∀ (i:Nat) (o:DO),(S.h.set k (some (.ro l)))[i]? =some (some o) -> (i=k/\ o= .ro l)∨(i≠k/\ S.h[i]? =some (some o)):=fun i o h=>by
  rw [zAo] at h;split at h
  ·rename_i e;exact .inl ⟨e.symm,(zAU (zAU h)).symm⟩
  ·rename_i e;exact .inr ⟨fun h=>e h.symm,h⟩
 have JS: ∀ b,MO (S.h.set k (some (.ro l))) (ρ.set k p') b -> MO S.h ρ b/\ b≠p.blk:=by
  rintro b ⟨i,o,q,h1,h2,h3⟩;rcases KV i q h2 with ⟨rfl,rfl⟩ | ⟨hi,h2⟩
  ·exact h3.elim
  ·rcases C8 i o h1 with ⟨rfl,_⟩ | ⟨_,h1⟩
   ·exact absurd rfl hi
   ·exact ⟨⟨i,o,q,h1,h2,h3⟩,fun e=>R.hr.dis i k o _ q p b hi h1 hk h2 hp h3 (by rw [kr];exact e)⟩
 have hM: ∀ b,MS N (S.h.set k (some (.ro l))) (ρ.set k p') b -> MS N S.h ρ b:=fun b hb=>hb.imp id fun h=>(JS b h).1
 have zAN:=R.hr.cel k _ p p.blk hk hp (by rw [kr]);have rep: ∀ (d:DV) {v:Value},AM (MS N S.h ρ) w d ρ v -> AM (MS N (S.h.set k (some (.ro l))) (ρ.set k p')) w d (ρ.set k p') v:=fun d v h=>h.pl hM Eu
 refine ⟨ρ.set k p',⟨⟨by simp [R.hr.len],fun i o hi=>?_,fun i o q b g1 g2 g3=>?_,fun i i' o o' q q' b Ak g1 g2 g3 g4 g5 g6=>?_,R.hr.nlt,R.hr.gi⟩,⟨R.fr.1,fun j hj=>rep _ (R.fr.2 j hj)⟩⟩,⟨AP.refl _ _,fun b hb=>.inl (JS b hb).1⟩,fun i q hi hq=>GN i q (by omega) hq⟩
 ·rcases C8 i o hi with ⟨rfl,rfl⟩ | ⟨Ak,hi⟩
  ·refine ⟨p',AK,rfl,fun hx=>hx.elim zAN.2.1 fun hx=>(JS _ hx).2 rfl,?_⟩;exact AZ.out (R':=fun j u=>AM (MS N (S.h.set i (some (.ro l))) (ρ.set i p')) w (l.getD j .any) (ρ.set i p') u) (show AZ w { p' with foot:=fun b=>b=p'.blk } l.length _ from ⟨rfl,KW⟩) rfl fun j u _ hu=>rep _ hu
  ·obtain ⟨q,hq,ho⟩:=R.hr.obj i o hi;refine ⟨q,GN i q Ak hq,?_⟩;cases o with
   | cells l'=>exact AZ.out ho rfl fun j u _ hu=>rep _ hu
   | ints l'=>exact AZ.out ho rfl fun j u _ hu=>hu
   | bools l'=>exact AZ.out ho rfl fun j u _ hu=>hu
   | arr m n f=>exact AZ.out ho rfl fun j u _ hu=>AM.out _ ⟨fun _ _ _ _=>rfl,fun b hb=>.inl (hM b hb),fun _ _ h=>by simp at h⟩ hu
   | iter encs=>
    obtain ⟨gf,lb,Rd,q1,q2,q3,q4⟩:=ho;exact ⟨gf,lb,Rd,q1,q2,fun b hb=>⟨fun hm=>(q3 b hb).1 (hM b hm),(q3 b hb).2⟩,q4⟩
   | ro l'=>
    obtain ⟨r1,r2,r3⟩:=ho;exact ⟨r1,fun hm=>r2 (hM _ hm),AZ.out r3 rfl fun j u _ hu=>rep _ hu⟩
   | mo x=>exact ho
 ·rcases KV i q g2 with ⟨rfl,rfl⟩ | ⟨hi,g2⟩
  ·exact g3.elim
  ·rcases C8 i o g1 with ⟨rfl,_⟩ | ⟨_,g1⟩
   ·exact absurd rfl hi
   ·exact R.hr.cel i o q b g1 g2 g3
 ·rcases KV i q g3 with ⟨rfl,rfl⟩ | ⟨hi,g3⟩
  ·exact g5.elim
  ·rcases KV i' q' g4 with ⟨rfl,rfl⟩ | ⟨BP,g4⟩
   ·exact g6.elim
   ·rcases C8 i o g1 with ⟨rfl,_⟩ | ⟨_,g1⟩
    ·exact absurd rfl hi
    ·rcases C8 i' o' g2 with ⟨rfl,_⟩ | ⟨_,g2⟩
     ·exact absurd rfl BP
     ·exact R.hr.dis i i' o o' q q' b Ak g1 g2 g3 g4 g5 g6
end Go.Proofs.YtkjbblkieglmlaaGreatDoor
namespace Go.Proofs.YtkjbblkieglmlaaGreatDoor
open Go.RowKit
abbrev YR (X R O:Type):=List X×Option R×O
def yb {X R R' O:Type} (A:Option (YR X R' O)) (f:R' -> O -> Option (YR X R O)):Option (YR X R O):=A.bind fun a=>match a.2.1 with
 | none=>some (a.1,none,a.2.2)
 | some v=>(f v a.2.2).map fun b=>(a.1++b.1,b.2)
def yx {X R O:Type} (x:X) (A:Option (YR X R O)):Option (YR X R O):=A.map fun b=>(x::b.1,b.2)
theorem dQ {X R R' O:Type} {A:Option (YR X R' O)} {f:R' -> O -> Option (YR X R O)} {r:YR X R O} (h:yb A f=some r): ∃ a,A=some a/\ ((a.2.1=none/\ r=(a.1,none,a.2.2))∨∃ v b,a.2.1=some v/\ f v a.2.2=some b/\ r=(a.1++b.1,b.2)):=by
 obtain ⟨a,ha,h⟩:=FM h;refine ⟨a,ha,?_⟩;split at h
 ·rename_i e;cases h;exact .inl ⟨e,rfl⟩
 ·rename_i v e;obtain ⟨b,hb,rfl⟩:=KH h;exact .inr ⟨v,b,e,hb,rfl⟩
def DR {X R O:Type} (C:Bb Tryz.prog) (enc:X -> List DV) (i:Nat) (r:YR X R O):Prop:=∃ rest,C.encs.drop i=r.1.map enc++rest
theorem mT {α:Type} {l a b:List α} {i:Nat} (h:l.drop i=a++b):l.drop (i+a.length)=b:=by
 rw [←List.drop_drop,h,List.drop_left'];rfl
theorem DR.split {X R R' O:Type} {C:Bb Tryz.prog} {enc:X -> List DV} {i:Nat} {y:List X} {b:YR X R O} (h:DR C enc i ((y++b.1,b.2):YR X R O)):(∃ rest,C.encs.drop i=y.map enc++rest)/\ DR C enc (i+(y.map enc).length) b:=by
 obtain ⟨rest,h⟩:=h;have h:C.encs.drop i=y.map enc++(b.1.map enc++rest):=by rw [h,List.map_append,zE2]
 exact ⟨⟨_,h⟩,rest,mT h⟩
theorem DR.cons {X R O:Type} {C:Bb Tryz.prog} {enc:X -> List DV} {i:Nat} {x:X} {b:YR X R O} (h:DR C enc i ((x::b.1,b.2):YR X R O)):C.encs[i]? =some (enc x)/\ DR C enc (i+1) b:=by
 obtain ⟨rest,h⟩:=h;have h:C.encs.drop i=enc x::(b.1.map enc++rest):=h;refine ⟨?_,rest,?_⟩
 ·have:=congrArg (·[0]?) h;simpa using this
 ·have:=mT (a:=[enc x]) h;simpa using this
theorem XI {h1 h:DH} (hS:h1.take h.length=h):h1=h++h1.drop h.length:=by
 conv=>lhs;rw [←zFs h.length h1,hS]
section
variable {X R R' O:Type}
abbrev YF (C:Bb Tryz.prog) (pv:Value) (fn:Func) (L:Nat) (ρ0:List AI) (tD:R -> DV) (H':O -> DH) (i:Nat) (r:YR X R O):QY Tryz.prog GG L:=YQ C GG pv fn L (i+r.1.length) ρ0 (r.2.1.map tD) (H' r.2.2)
variable {C:Bb Tryz.prog} {pv:Value} {fn:Func} {L:Nat} {ρ0:List AI} {tD:R -> DV} {H':O -> DH} {i:Nat} {r:YR X R O} {enc:X -> List DV} {k K:List KI} {S:St} {ops:Array Oper}
 {c:List (DV×DH×Bool)} {o:List (Nat×DV)} {z:List (Nat×Fz)} {v:List Prop} {fr:List DV} {h h1:DH} {l l1 l2:List Nat} {p:Nat} {dst:Option Tmp}
abbrev TO (C:Bb Tryz.prog) (pv:Value) (fn:Func) (L:Nat) (ρ0:List AI) (tD:R -> DV) (H':O -> DH) (ops:Array Oper) (l:List Nat) (k:List KI) (i:Nat) (r:YR X R O) (S:St):Prop:=
 DY Tryz.prog GG (C.K GG L i ρ0) ops l S (DZ Tryz.prog GG Fence.wide none L (YF C pv fn L ρ0 tD H' i r) k)
abbrev TY (C:Bb Tryz.prog) (pv:Value) (fn:Func) (L:Nat) (ρ0:List AI) (tD:R -> DV) (H':O -> DH) (k:List KI) (i:Nat) (r:YR X R O) (S:St):Prop:=
 An Tryz.prog GG Fence.wide none L (C.K GG L i ρ0) (YF C pv fn L ρ0 tD H' i r) k S
theorem LX {Y:BR Tryz.prog GG L} {Q:QY Tryz.prog GG L} {e:List PanicEntry} (h:Q (.panic e) S Y): ∀ (k:List KI),DZ Tryz.prog GG Fence.wide none L Q k (.panic e) S Y
 | []=>h
 | .blk _::k=>LX h k
 | .code _::k=>LX h k
 | .lend _::k=>LX h k
 | .scp::k=>LX h k
 | .loopN _ _::k=>LX h k
def VS (L:Nat) (h:DH):DH:=(List.range L).map fun k=>Ra (List.range L) (h.getD k none)
theorem YF.pan {y:List X} {o:O} {fr:List DV} {h:DH} (hL:Nat.ble L h.length=true) (hp:VS L h=H' o) {j:Nat} (hj:j=i+y.length):YF C pv fn L ρ0 tD H' i ((y,none,o):YR X R O) (.panic (pan pv)) ⟨fr,h⟩ (C.K GG L j ρ0):=by
 subst hj;exact ⟨rfl,rfl,_,Ay.compact (List.range L) ⟨fr,h⟩ List.nodup_range (fun k hk=>zAY (zAd.1 hk) (zD8 hL)) (fun k hk=>by simp [hk]),hp⟩
theorem YF.app {y:List X} {b:YR X R O} {j:Nat} (hj:j=i+y.length):YF C pv fn L ρ0 tD H' i ((y++b.1,b.2):YR X R O)=YF C pv fn L ρ0 tD H' j b:=by
 subst hj
 show YQ _ _ _ _ _ (i+(y++b.1).length) _ _ _=YQ _ _ _ _ _ (i+y.length+b.1.length) _ _ _
 rw [zAh,zDy]
theorem yO (hK:J6 K=some (ops,DE K):=by kernel_rfl) (hk:TO C pv fn L ρ0 tD H' ops (List.range ops.size) (DE K) i r S):TY C pv fn L ρ0 tD H' K i r S:=by
 unfold J6 at hK;split at hK
 ·rename_i id NL k;have e1:NL=ops:=congrArg Prod.fst (zAU hK);subst e1;exact Tr.ofO hk
 ·cases hK
def VF:List KI -> Option (Array Oper×List KI)
 | .code (.region _ ops true)::k=>some (ops,k)
 | _=>none
def Vd (live:List Nat) (r:St×List Prop×BF):List DV×DH×List Prop:=(forget live r.1.fr,r.1.h,r.2.1)
theorem im {live:List Nat} {x:Option (St×List Prop×BF)} (h:x.map (Vd live)=some (fr,h1,v)): ∃ f Aa,x=some (⟨f,h1⟩,v,Aa)/\ fr=forget live f:=by
 cases x with
 | none=>cases h
 | some q=>
  obtain ⟨⟨f,g⟩,w,Aa⟩:=q;simp only [zBV,Vd,zC5,zD1] at h;obtain ⟨rfl,rfl,rfl⟩:=h;exact ⟨f,Aa,rfl,rfl⟩
theorem DY.weaken {Y:BR Tryz.prog GG L} {Q:QY Tryz.prog GG L} {S':St} (hS:Ay L S S') (hk:DY Tryz.prog GG Y ops l S' Q):DY Tryz.prog GG Y ops l S Q:=fun N ρ a w R y m=>by
 obtain ⟨ρ1,R1,s1,k1⟩:=hS Tryz.prog GG N ρ a w R;exact hk N ρ1 a w R1 (Y.st y R.hr R1.hr s1 k1) m
theorem Us {live:List Nat} {f:List DV} {d:DV} (e0:fr=forget live f):Ay L ⟨CY f dst d,h⟩ ⟨CY fr dst d,h⟩:=by
 subst e0;cases dst with
 | none=>exact Ay.forget live f h
 | some t=>
  refine Ay.fr (by simp [CY,TQ]) fun j hj=>?_
  have hj:j<f.length:=by simpa [CY] using hj
  show AS ((f.set t d).getD j .any) (((forget live f).set t d).getD j .any)
  by_cases e:t=j
  ·subst e;have e1:(f.set t d).getD t .any=d:=by simp [hj]
   have e2:((forget live f).set t d).getD t .any=d:=by simp [TQ,hj]
   rw [e1,e2];exact AS.refl _
  ·have e1:(f.set t d).getD j .any=f.getD j .any:=by simp only [u8,zAo,zAZ e]
   have e2:((forget live f).set t d).getD j .any=(forget live f).getD j .any:=by simp only [u8,zAo,zAZ e]
   rw [e1,e2,bk live f hj];split
   ·exact AS.refl _
   ·exact AS.any _
def Wg:List KI -> Bool
 | .code _::_=>true
 | .blk _::k=>Wg k
 | .scp::k=>Wg k
 | .loopN _ _::_=>true
 | _=>false
theorem An.leH {F:Fence} {B:Option Nat} {Y:BR Tryz.prog GG L} {Q:QY Tryz.prog GG L} {S':St} (hS:Ay L S S'): ∀ {k:List KI},Wg k=true -> An Tryz.prog GG F B L Y Q k S' -> An Tryz.prog GG F B L Y Q k S
 | .code _::_,_,h=>Tr.weaken hS h
 | .blk _::k,e,h=>An.leH (k:=k) hS e h
 | .scp::k,e,h=>An.leH (k:=k) hS e h
 | .loopN 0 _::_,_,h=>h.elim
 | .loopN (_+1) _::_,_,h=>Tr.weaken hS h
 | .lend _::_,e,_=>by cases e
 | [],e,_=>by cases e
theorem yD (CT:List (List Nat×Nat)) (BJ tail:List Nat) (hl:HS c o z v) (fr:List DV) (h1:DH) (hk:TO C pv fn L ρ0 tD H' ops tail (DE K) i r ⟨fr,h1⟩)
 (hK:VF K=some (ops,DE K):=by kernel_rfl) (hB:Ar ops CT BJ tail:=by unfold Ar;kernel_rfl) (h:(Lm Tryz.prog GG ops S.h CT BJ S ⟨c,o,z,[]⟩).map (Vd (Er 0 fr))=some (fr,h1,v):=by kernel_rfl):TY C pv fn L ρ0 tD H' K i r S:=by
 unfold VF at hK;split at hK
 ·rename_i id NL k;have e1:NL=ops:=congrArg Prod.fst (zAU hK);subst e1;obtain ⟨f,Aa,h,e⟩:=im h;refine Tr.ordO (HC.x (F:=Fence.wide)).f (HC.x (F:=Fence.wide)).m hB h hl.all (DY.weaken (S':=⟨fr,h1⟩) ?_ hk);rw [e];exact Ay.forget _ _ _
 ·cases hK
theorem y0 (hk:TY C pv fn L ρ0 tD H' k i r S):TO C pv fn L ρ0 tD H' ops [] k i r S:=fun N ρ _ _ R y m=>⟨S,ρ,N,_,hk,R,y,m,Bd.none⟩
theorem yE (hl:HS c o z v) (fr:List DV) (h1:DH) (hk:TY C pv fn L ρ0 tD H' k i r ⟨fr,h1⟩) (h:(DW Tryz.prog GG ops (CG ops l) S ⟨c,o,z,[]⟩).map (Vd (Er 0 fr))=some (fr,h1,v):=by kernel_rfl) (Av:CR ops=true:=by kernel_rfl) (hc:Wg k=true:=by kernel_rfl):TO C pv fn L ρ0 tD H' ops l k i r S:=by
 obtain ⟨f,Aa,h,e⟩:=im h;refine DY.done (HC.x (F:=Fence.wide)).f Av h hl.all (An.leH (S':=⟨fr,h1⟩) ?_ hc hk);rw [e];exact Ay.forget _ _ _
def NK (live:List Nat) (r:FuncId×List DV×Option Tmp×St×List Prop×BF):FuncId×List DV×Option Tmp×List DV×DH×List Prop:=(r.1,r.2.1,r.2.2.1,forget live r.2.2.2.1.fr,r.2.2.2.1.h,r.2.2.2.2.1)
theorem ZS {live:List Nat} {x:Option (FuncId×List DV×Option Tmp×St×List Prop×BF)} {g:FuncId} {ds:List DV} (h:x.map (NK live)=some (g,ds,dst,fr,h1,v)): ∃ f Aa,x=some (g,ds,dst,⟨f,h1⟩,v,Aa)/\ fr=forget live f:=by
 cases x with
 | none=>cases h
 | some q=>
  obtain ⟨g,ds,dst,⟨f,g'⟩,w,Aa⟩:=q;simp only [zBV,NK,zC5,zD1] at h;obtain ⟨rfl,rfl,rfl,rfl,rfl,rfl⟩:=h;exact ⟨f,Aa,rfl,rfl⟩
theorem yT (hn:C.nv) (l1 l2:List Nat) (p:Nat) (hl:HS c o z v) (fr:List DV) (h1:DH) (dst:Option Tmp) (hk:TO C DX fn L ρ0 tD H' ops l2 k i r ⟨CY fr dst Mk,h1⟩) (hr:DR C enc i r)
 (e:l=l1++p::l2:=by kernel_rfl) (h:(Je Tryz.prog GG ops l1 p S ⟨c,o,z,[]⟩).map (NK (Er 0 fr))=some (57,[.bool true],dst,fr,h1,v):=by kernel_rfl) (Av:CR ops=true:=by kernel_rfl):TO C DX fn L ρ0 tD H' ops l k i r S:=by
 subst e;obtain ⟨f,Aa,h,e0⟩:=ZS h;exact DY.call (T:=h1) (ds:=fun _=>[.bool true]) (h:=fun _=>[]) (h':=fun _=>[]) (ys:=[]) (HC.x (F:=Fence.wide)).f Av hn h hl.all (mG true) rfl rfl rfl rfl ⟨_,rfl⟩ (DY.weaken (Us e0) hk)
theorem yP {o':O} (hn:C.nv) (l1 l2:List Nat) (p:Nat) (hl:HS c o z v) (fr:List DV) (h1:DH) (dst:Option Tmp) (hp:VS L h1=H' o':=by kernel_rfl) (hL:Nat.ble L h1.length=true:=by kernel_rfl)
 (e:l=l1++p::l2:=by kernel_rfl) (h:(Je Tryz.prog GG ops l1 p S ⟨c,o,z,[]⟩).map (NK (Er 0 fr))=some (57,[.bool false],dst,fr,h1,v):=by kernel_rfl) (Av:CR ops=true:=by kernel_rfl):TO C DX fn L ρ0 tD H' ops l k i (([],none,o'):YR X R O) S:=by
 subst e;obtain ⟨f,Aa,h,_⟩:=ZS h;exact DY.call (T:=h1) (ds:=fun _=>[.bool false]) (h:=fun _=>[]) (h':=fun _=>[]) (ys:=[]) (HC.x (F:=Fence.wide)).f Av hn h hl.all (mG false) rfl rfl rfl rfl ⟨_,rfl⟩ (LX (YF.pan hL hp rfl) k)
theorem yC {g:FuncId} {ds:Nat -> List DV} {h:Nat -> DH} {h':Nat -> O -> DH} {tD':R' -> DV} {A:Option (YR X R' O)} {f:R' -> O -> Option (YR X R O)} (hn:C.nv) (l1 l2:List Nat) (p:Nat) (hl:HS c o z v) (fr:List DV) (h1:DH) (dst:Option Tmp)
 (hA:yb A f=some r) (hr:DR C enc i r) (H: ∀ a,A=some a -> YC Tryz.prog GG pv g ds h (a.1.map enc) (a.2.1.map tD') (fun l=>h' l a.2.2))
 (hk: ∀ v' o' b i',f v' o'=some b -> DR C enc i' b -> TO C pv fn L ρ0 tD H' ops l2 k i' b ⟨CY fr dst (tD' v'),h' C.l o'++h1.drop (h C.l).length⟩)
 (e:l=l1++p::l2:=by kernel_rfl) (hc:(Je Tryz.prog GG ops l1 p S ⟨c,o,z,[]⟩).map (NK (Er 0 fr))=some (g,ds C.l,dst,fr,h1,v):=by kernel_rfl) (hS:h1.take (h C.l).length=h C.l:=by kernel_rfl) (Ap: ∀ o',(h' C.l o').length=(h C.l).length:=by intro;kernel_rfl)
 (A4:(h C.l).all (MP (h C.l).length)=true:=by kernel_rfl) (D7:(ds C.l).all (C5 (h C.l).length)=true:=by kernel_rfl) (hp: ∀ o',VS L (h' C.l o'++h1.drop (h C.l).length)=H' o':=by intro;kernel_rfl) (hL: ∀ o',Nat.ble L (h' C.l o'++h1.drop (h C.l).length).length=true:=by intro;kernel_rfl) (Av:CR ops=true:=by kernel_rfl):TO C pv fn L ρ0 tD H' ops l k i r S:=by
 subst e;obtain ⟨f1,Aa,hc,e0⟩:=ZS hc;obtain ⟨a,ha,h⟩:=dQ hA;have H:=H a ha;rcases h with ⟨e1,rfl⟩ | ⟨v',b,e1,hb,rfl⟩
 ·rw [e1] at H;exact DY.call (T:=h1.drop (h C.l).length) (HC.x (F:=Fence.wide)).f Av hn hc hl.all H (XI hS) (Ap _) A4 D7 hr (LX (YF.pan (hL _) (hp _) (by rw [zAn])) k)
 ·rw [e1] at H;obtain ⟨d1,d2⟩:=DR.split (R':=R') hr;refine DY.call (T:=h1.drop (h C.l).length) (HC.x (F:=Fence.wide)).f Av hn hc hl.all H (XI hS) (Ap _) A4 D7 d1 ?_;rw [YF.app (j:=i+(a.1.map enc).length) (by rw [zAn])];exact DY.weaken (Us e0) (hk _ _ _ _ hb d2)
def ZT (live:List Nat) (r:List DV×Nat×Option Tmp×St×List Prop×BF):List DV×Nat×Option Tmp×List DV×DH×List Prop:=(r.1,r.2.1,r.2.2.1,forget live r.2.2.2.1.fr,r.2.2.2.1.h,r.2.2.2.2.1)
theorem uO {live:List Nat} {x:Option (List DV×Nat×Option Tmp×St×List Prop×BF)} {g:List DV} {ds:Nat} (h:x.map (ZT live)=some (g,ds,dst,fr,h1,v)): ∃ f Aa,x=some (g,ds,dst,⟨f,h1⟩,v,Aa)/\ fr=forget live f:=by
 cases x with
 | none=>cases h
 | some q=>
  obtain ⟨g,ds,dst,⟨f,g'⟩,w,Aa⟩:=q;simp only [zBV,ZT,zC5,zD1] at h;obtain ⟨rfl,rfl,rfl,rfl,rfl,rfl⟩:=h;exact ⟨f,Aa,rfl,rfl⟩
theorem yY {x:X} {A:Option (YR X R O)} (hn:C.nv) (l1 l2:List Nat) (p:Nat) (hl:HS c o z v) (fr:List DV) (h1:DH) (dst:Option Tmp) (hA:yx x A=some r) (hr:DR C enc i r)
 (hk: ∀ b i',A=some b -> DR C enc i' b -> TO C pv fn L ρ0 tD H' ops l2 k i' b ⟨CY fr dst (.bool true),h1⟩)
 (e:l=l1++p::l2:=by kernel_rfl) (h:(Xy Tryz.prog GG ops l1 p S ⟨c,o,z,[]⟩).map (ZT (Er 0 fr))=some (enc x,C.l,dst,fr,h1,v):=by kernel_rfl) (Av:CR ops=true:=by kernel_rfl):TO C pv fn L ρ0 tD H' ops l k i r S:=by
 subst e;obtain ⟨b,hb,rfl⟩:=KH hA;obtain ⟨d1,d2⟩:=DR.cons hr;obtain ⟨f1,Aa,hy,e0⟩:=uO h;refine DY.yield (HC.x (F:=Fence.wide)).f Av hn hy hl.all d1 ?_;have e:YF C pv fn L ρ0 tD H' i ((x::b.1,b.2):YR X R O)=YF C pv fn L ρ0 tD H' (i+1) b:=YF.app (y:=[x]) rfl;rw [e];exact DY.weaken (Us e0) (hk _ _ hb d2)
theorem zB8 {S1:St} {vs:List Prop} {Aa Ee:BF} {g:FuncId} {ds:List DV} (h:Je Tryz.prog GG ops [] p S Aa=some (g,ds,dst,S1,vs,Ee)):S1=S:=by
 unfold Je at h;simp only [CG,DW] at h;split at h
 ·cases h
 ·split at h
  ·split at h
   ·split at h
    ·split at h
     ·cases h;rfl
     ·cases h
    ·cases h
   ·cases h
  ·cases h
theorem yR {g:FuncId} {ds:Nat -> List DV} {hc:Nat -> DH} {h':Nat -> O -> DH} {tD':R' -> DV} {A:Option (YR X R' O)} {f:R' -> O -> Option (YR X R O)} (hn:C.nv) (Bl tail xs:List Nat) (p:Nat) (hl:HS [] o [] v) (fr:List DV) (h1:DH) (dst:Option Tmp)
 (hA:yb A f=some r) (hr:DR C enc i r) (H: ∀ a,A=some a -> YC Tryz.prog GG pv g ds hc (a.1.map enc) (a.2.1.map tD') (fun l=>h' l a.2.2))
 (hk: ∀ v' o' b i',f v' o'=some b -> DR C enc i' b -> TO C pv fn L ρ0 tD H' ops tail (DE K) i' b ⟨CY fr dst (tD' v'),h' C.l o'++h1.drop (hc C.l).length⟩)
 (hK:VF K=some (ops,DE K):=by kernel_rfl) (hB:(CR ops&&Region.noSelect ops&&(Bl.length+1+tail.length==ops.size)&&(tail.all fun t=>decide (t<ops.size))&&OG ops p tail Bl (Array.replicate ops.size false)&&dF xs S.h&&kg xs (hc C.l).length S.h)=true:=by kernel_rfl)
 (hs:(RG Tryz.prog ops xs Bl S o).bind (fun q=>(Je Tryz.prog GG ops [] p q.1 ⟨[],[],[],[]⟩).map fun x=>(NK (Er 0 fr) x,q.2.1,x.2.2.2.2.1))=some ((g,ds C.l,dst,fr,h1,[]),v,[]):=by kernel_rfl) (hS:h1.take (hc C.l).length=hc C.l:=by kernel_rfl) (TB:h1=S.h:=by kernel_rfl) (Ap: ∀ o',(h' C.l o').length=(hc C.l).length:=by intro;kernel_rfl)
 (A4:(hc C.l).all (MP (hc C.l).length)=true:=by kernel_rfl) (D7:(ds C.l).all (C5 (hc C.l).length)=true:=by kernel_rfl) (hp: ∀ o',VS L (h' C.l o'++h1.drop (hc C.l).length)=H' o':=by intro;kernel_rfl) (hL: ∀ o',Nat.ble L (h' C.l o'++h1.drop (hc C.l).length).length=true:=by intro;kernel_rfl):TY C pv fn L ρ0 tD H' K i r S:=by
 unfold VF at hK;split at hK
 ·rename_i id NL k;have e1:NL=ops:=congrArg Prod.fst (zAU hK);subst e1;obtain ⟨q,hq,JR⟩:=FM hs;obtain ⟨⟨q1,q2⟩,q3,q4⟩:=q;obtain ⟨x,hx,e2⟩:=KH JR;obtain ⟨g',mS,dst',⟨f2,h2⟩,v2,Aa⟩:=x;simp only [NK,zD1] at e2;obtain ⟨⟨rfl,e3,rfl,e0,rfl,rfl⟩,rfl,_⟩:=e2;have hs:=hq;have JR:=hx;rw [←e3] at JR;obtain ⟨rfl,rfl⟩:=St.mk.inj (zB8 JR);obtain ⟨a,ha,h⟩:=dQ hA;have H:=H a ha;rcases h with ⟨e1,rfl⟩ | ⟨v',b,e1,hb,rfl⟩
  ·rw [e1] at H;exact Tr.drawC (T:=h1.drop (hc C.l).length) (HC.x (F:=Fence.wide)).f (HC.x (F:=Fence.wide)).m hB hn hs hl.all JR H (TB▸XI hS) (Ap _) A4 D7 hr (LX (YF.pan (hL _) (hp _) (by rw [zAn])) k)
  ·rw [e1] at H;obtain ⟨d1,d2⟩:=DR.split (R':=R') hr;refine Tr.drawC (T:=h1.drop (hc C.l).length) (HC.x (F:=Fence.wide)).f (HC.x (F:=Fence.wide)).m hB hn hs hl.all JR H (TB▸XI hS) (Ap _) A4 D7 d1 ?_;rw [YF.app (j:=i+(a.1.map enc).length) (by rw [zAn])];exact DY.weaken (Us e0) (hk _ _ _ _ hb d2)
 ·cases hK
theorem yF {v':R} {o':O} (h:Bg Tryz.prog GG Fence.wide none L (C.K GG L i ρ0) (DC Tryz.prog fn L (tD v') (H' o')) k S):TY C pv fn L ρ0 tD H' k i (([],some v',o'):YR X R O) S:=h
end
theorem YC.ofY {X R O:Type} {pv:Value} {f L:Nat} {fn:Func} {tD:R -> DV} {r:YR X R O} {enc:X -> List DV} {ds:Nat -> List DV} {h:Nat -> DH} {h':Nat -> O -> DH} (hf:Tryz.prog.funcs[f]? =some fn)
 (T: ∀ (C:Bb Tryz.prog) (i:Nat) (ρ0:List AI),C.nv -> DR C enc i r -> TY C pv fn L ρ0 tD (fun o=>h' C.l o) [.code (AY fn)] i r ⟨ds C.l++List.replicate (fn.ntmps-(ds C.l).length) .any,h C.l⟩)
 (hb:fn.body.isSome=true:=by kernel_rfl) (hn:(fn.name== "runtime.NumGoroutine")=false:=by kernel_rfl) (hL: ∀ l,(h l).length=L:=by intro;kernel_rfl):YC Tryz.prog GG pv f ds h (r.1.map enc) (r.2.1.map tD) (fun l=>h' l r.2.2):=
 YC.of hf hb hn hL fun C i ρ0 hv hr=>by
  rw [zAn];exact T C i ρ0 hv hr
def U3:List Nat -> DH -> Option DH
 | [],h=>some h
 | k::ks,h=>match h.getD k none with
  | some (.cells l)=>U3 ks (h.set k (some (.ro l)))
  | _=>none
theorem Ay.ros {L:Nat} {fr:List DV}: ∀ (ks:List Nat) {h h':DH},U3 ks h=some h' -> (ks.all fun k=>Nat.ble L k)=true -> Ay L ⟨fr,h⟩ ⟨fr,h'⟩
 | [],h,h',e,_=>by cases e;exact Ay.refl _ _
 | k::ks,h,h',e,hk=>by
  simp only [zFb,zAL] at hk;simp only [U3] at e;split at e
  ·rename_i l hg;exact (Ay.ro (S:=⟨fr,h⟩) (getD_some hg) (zD8 hk.1)).trans (Ay.ros ks e hk.2)
  ·cases e
theorem dO {L:Nat} {Y:BR Tryz.prog GG L} {Q:QY Tryz.prog GG L} {K:List KI} {F:Fence} {B:Option Nat} {fr:List DV} {h:DH} (ks:List Nat) (h':DH) (hk:An Tryz.prog GG F B L Y Q K ⟨fr,h'⟩) (e:U3 ks h=some h':=by kernel_rfl) (hL:(ks.all fun k=>Nat.ble L k)=true:=by kernel_rfl) (hc:Hn K=true:=by kernel_rfl):An Tryz.prog GG F B L Y Q K ⟨fr,h⟩:=
 Bg.le (Ay.ros ks e hL) hc hk
end Go.Proofs.YtkjbblkieglmlaaGreatDoor
namespace Go.Proofs.YtkjbblkieglmlaaGreatDoor
open Go.RowKit
section
variable {P:Program} {Γ:Aq} {N:Nat -> Prop} {ρ:List AI} {w:World} {hc T:DH}
def hid (K:Nat) (T:DH):DH:=List.replicate K none++T
theorem Sx {K k:Nat} {o:DO} (h:(hid K T)[k]? =some (some o)):K<=k/\ ∀ l:DH,l.length=K -> (l++T)[k]? =some (some o):=by
 rcases zDj k K with hk | hk
 ·unfold hid at h;rw [zAX (by simp [hk]),zD7,zAB hk] at h;cases h
 ·refine ⟨hk,fun l hl=>?_⟩;unfold hid at h;rw [zAb (by simp [hk]),zAe] at h;rw [zAb (by omega),hl];exact h
theorem MO.hid {b:Nat} (h:MO (hid hc.length T) ρ b):MT hc.length (hc++T) ρ b:=by
 obtain ⟨k,o,p,h1,h2,h3⟩:=h;obtain ⟨hk,Ki⟩:=Sx h1;exact ⟨k,o,p,hk,Ki hc rfl,h2,h3⟩
theorem MT.mo {h:DH} {K b:Nat} (x:MT K h ρ b):MO h ρ b:=by
 obtain ⟨k,o,p,_,h1,h2,h3⟩:=x;exact ⟨k,o,p,h1,h2,h3⟩
theorem A1.hide (H:A1 P Γ N (hc++T) ρ w):A1 P Γ (fun b=>N b∨MO hc (ρ.take hc.length) b) (hid hc.length T) ρ w:=by
 have sp: ∀ b,MO (hc++T) ρ b↔MO hc (ρ.take hc.length) b∨MT hc.length (hc++T) ρ b:=fun b=>by
  have:=MO.split (h:=hc++T) (ρ:=ρ) hc.length b
  rwa [zFd] at this
  rfl
 have dis: ∀ b,MO hc (ρ.take hc.length) b -> ¬ MT hc.length (hc++T) ρ b:=by
  rintro b ⟨k,o,p,q1,q2,q3⟩ ⟨k',o',p',g1,g2,g3,g4⟩;rw [zD6] at q2;split at q2
  ·rename_i hk;exact H.dis k k' o o' p p' b (by omega) (by rw [zAX (by omega)];exact q1) g2 q2 g3 q3 g4
  ·cases q2
 have aU: ∀ b,MS (fun b=>N b∨MO hc (ρ.take hc.length) b) (hid hc.length T) ρ b -> MS N (hc++T) ρ b:=fun b hb=>by
  rcases hb with (hb | hb) | hb
  ·exact .inl hb
  ·exact .inr ((sp b).2 (.inl hb))
  ·exact .inr (MO.hid hb).mo
 refine ⟨by rw [H.len];simp [hid],fun k o hk=>?_,fun k o p b g1 g2 g3=>?_,fun i i' o o' p p' b Ak g1 g2 g3 g4 g5 g6=>H.dis i i' o o' p p' b Ak ((Sx g1).2 hc rfl) ((Sx g2).2 hc rfl) g3 g4 g5 g6,fun b hb=>?_,H.gi⟩
 ·obtain ⟨p,hp,hr⟩:=H.obj k o ((Sx hk).2 hc rfl);exact ⟨p,hp,hr.out (C6 aU ρ) (S:=fun _=>False) (AP.refl _ _) (fun _ h=>h.elim) fun _ _ _ h=>h⟩
 ·obtain ⟨hk,lm⟩:=Sx g1;obtain ⟨c1,c2,c3⟩:=H.cel k o p b (lm hc rfl) g2 g3;exact ⟨c1,fun hb=>hb.elim c2 fun hb=>dis b hb ⟨k,o,p,hk,lm hc rfl,g2,g3⟩,c3⟩
 ·rcases hb with hb | hb
  ·exact H.nlt b hb
  ·obtain ⟨k,o,p,q1,q2,q3⟩:=(sp b).2 (.inl hb);obtain ⟨c1,_,c,t,z,c3⟩:=H.cel k o p b q1 q2 q3;exact ⟨(zAJ.1 c3).1,c1⟩
variable {pv:Value} {gf m:Nat} {cap:Nat -> DV} {C1:DH} {ys:List (List DV)} {out:Option DV}
def zDk (P:Program) (Γ:Aq) (pv:Value) (C1:DH) (ρ0:List AI) (out:Option DV) (e:Ending) (G R:Nat -> Prop) (W:World):Prop:=
 ((∃ v,e= .returned v/\ out.isSome=true)∨(e= .panicked (pan pv)/\ out.isSome=false))/\ ∃ N' ρ',A1 P Γ N' C1 ρ' W/\ IY Γ N' G R C1 ρ' W/\ CA ρ0.length ρ0 ρ'
theorem YC.iter (H:YC P Γ pv gf (fun l=>.yl l::(List.range m).map cap) (fun _=>hc) ys out (fun _=>C1)) (HR:A1 P Γ N (hc++T) ρ w) (A4:hc.all (MP hc.length)=true) (JR:((List.range m).map cap).all (C5 hc.length)=true)
 {lb:Array Value} (hs:lb.size=m) (Lt: ∀ j,j<m -> ∃ u,lb[j]? =some u/\ AM (MS N (hc++T) ρ) w (cap j) ρ u):
 UD True P gf lb YV ys (zDk P Γ pv C1 (ρ.take hc.length) out) (MO hc (ρ.take hc.length)) (fun b=>b<w.heap.size/\ ¬ MS N (hc++T) ρ b) w:=by
 intro l Jj Jx W hJ hJx hU hY bW Ka
 let C:Bb P:=⟨l,ys,Jj,Jx,hJ,hJx,hY⟩
 obtain ⟨Ob,hM⟩:=HR.take (K:=hc.length) (by simp) (by rw [zFd rfl];exact A4);rw [zFd rfl] at Ob hM;have Ct:Γ.ng<=w.heap.size:=Γ.lo _ HR.gi
 have hu:AP (fun b=>N b∨MT hc.length (hc++T) ρ b) w W:=hU.mono fun b AN hx=>by
  by_cases hm:MS N (hc++T) ρ b
  ·rcases (hM b).2 hm with hm | hm
   ·exact hm
   ·exact absurd (.inl hm) hx
  ·exact absurd (.inr ⟨AN,hm⟩) hx
 have lo: ∀ b,b<Γ.ng -> b<w.heap.size/\ ¬ MS N (hc++T) ρ b:=fun b hb=>⟨by omega,fun hx=>by
  have:=(HR.lt2 hx).2;omega⟩
 have AN: ∀ b,MO hc (ρ.take hc.length) b -> b<w.heap.size:=fun b hb=>(HR.lt2 ((hM b).1 (.inr hb))).1
 have lR: ∀ b,N b∨MT hc.length (hc++T) ρ b -> (N b∨MT hc.length (hc++T) ρ b)/\ Γ.ng<=b:=fun b hb=>⟨hb,(Ob.nlt b hb).2⟩
 have TC: ∀ b,(b<W.heap.size/\ ¬ MO hc (ρ.take hc.length) b/\ ¬ (b<w.heap.size/\ ¬ MS N (hc++T) ρ b)) -> (N b∨MT hc.length (hc++T) ρ b)∨w.heap.size<=b:=fun b ⟨_,q2,q3⟩=>by
  rcases zDj b w.heap.size with hx | hx
  ·by_cases hm:MS N (hc++T) ρ b
   ·exact .inl (((hM b).2 hm).resolve_right q2)
   ·exact absurd ⟨hx,hm⟩ q3
  ·exact .inr hx
 have HW:A1 P Γ (fun b=>b<W.heap.size/\ ¬ MO hc (ρ.take hc.length) b/\ ¬ (b<w.heap.size/\ ¬ MS N (hc++T) ρ b)) hc (ρ.take hc.length) W:=Ob.foreign hu lR TC fun b hb=>⟨hb.1,zEq fun hl=>hb.2.2 (lo b hl)⟩
 have bf:BC (MS (fun b=>N b∨MT hc.length (hc++T) ρ b) hc (ρ.take hc.length)) w (ρ.take hc.length) ((List.range m).map cap) lb:=by
  have e:MS (fun b=>N b∨MT hc.length (hc++T) ρ b) hc (ρ.take hc.length)=MS N (hc++T) ρ:=funext fun b=>propext (hM b)
  rw [e];refine BC.take ⟨by simp [hs],fun j hj=>?_⟩ JR;have BT:j<m:=by simpa using hj
  obtain ⟨u,q1,q2⟩:=Lt j BT;have e1:((List.range m).map cap).getD j .any=cap j:=by simp [BT]
  have e2:lb.getD j undef=u:=by rw [zAc,q1];rfl
  rw [e1,e2];exact q2
 have bg:=bf.out (BU.foreign (Γ:=Γ) hu lR TC)
 refine (H.2 C (Ka trivial) 0 ⟨[],by simp [C]⟩ _ _ _ W _ _ HW (BC.append (l:=[.yl C.l]) (t:=#[.func (.yield l) #[] #[]]) ⟨rfl,fun j hj=>by
  have:j=0:=Nat.lt_one_iff.1 hj;subst this;rfl⟩ bg) bW ⟨⟨fun b hb hr=>hr.2 ((hM b).1 (.inr hb)),fun b hb=>zAY (hb.elim (AN b) fun h=>h.1) hU.size⟩,lo,fun _ h=>h,fun _=>Iff.rfl⟩).mono ?_
 rintro e w' ⟨N',ρ',G',R',E3,j',y',kp,ho⟩;refine ⟨G',R',y'.sh,.inl ⟨?_,?_,N',ρ',E3,y',?_⟩⟩
 ·simpa [C] using j'
 ·cases out with
  | none=>exact .inr ⟨ho,rfl⟩
  | some d=>obtain ⟨v,rfl,_⟩:=ho;exact .inl ⟨v,rfl,rfl⟩
 ·have Ap:(ρ.take hc.length).length=hc.length:=by rw [zEZ,HR.len];simp
  rw [Ap];exact kp
theorem tR {fr:List DV} {a:Act} {g:Operand} {ps:Array Tmp} {assign body:Code} {J:Nat -> DH -> Prop} {KK:Nat} {Q:Exit -> Act -> World -> Prop} (R:AT P Γ N ⟨fr,hc++T⟩ ρ a w) (hg:AX fr g= .fn gf m cap)
 (H:YC P Γ pv gf (fun l=>.yl l::(List.range m).map cap) (fun _=>hc) ys out (fun _=>C1)) (hl:C1.length=hc.length) (A4:hc.all (MP hc.length)=true) (JR:((List.range m).map cap).all (C5 hc.length)=true)
 (D5: ∀ x∈ys,x.length=ps.size) (Cg:fr.all (C5 KK)=true) (hKK:hc.length<=KK) (h0:J 0 (hid hc.length T)) (hJ: ∀ i h,J i h -> ∃ T',h=hid hc.length T') (C7:Xr P Γ fr ps.toList assign body KK J (fun _ _=>False) ys)
 (hQ: ∀ (D:Nat) (T':DH) (ρ':List AI) (e:Ending) (w':World),J ys.length (hid hc.length T') -> AT P Γ N ⟨fr,C1++T'⟩ ρ' a w' -> A6 (hc++T) ρ w (C1++T') ρ' w' -> CA KK ρ ρ' -> w'.heap[D]? =some (.deferred (some [])) -> w.heap.size<=D -> ((∃ v,e= .returned v/\ out.isSome=true)∨(e= .panicked (pan pv)/\ out.isSome=false)) ->
  match e with
  | .returned _=>Q .normal { a with defers:={ target:=.collected D,args:=#[] }::a.defers } w'
  | .panicked c=>Q (.panic c) { a with defers:={ target:=.collected D,args:=#[] }::a.defers } w'
  | .outgrown=>False):(Code.rangeFunc g ps assign body).wpIn Fence.wide 0 P Q a w:=by
 have hx:=Bh R g;rw [hg] at hx;obtain ⟨lb,hv,hs,Lt⟩:=hx;have HR:A1 P Γ N (hc++T) ρ w:=R.hr;have Ct:Γ.ng<=w.heap.size:=Γ.lo _ HR.gi
 have sp: ∀ b,MO (hc++T) ρ b↔MO hc (ρ.take hc.length) b∨MT hc.length (hc++T) ρ b:=fun b=>by
  have:=MO.split (h:=hc++T) (ρ:=ρ) hc.length b
  rwa [zFd] at this
  rfl
 have hN: ∀ b,N b -> b<w.heap.size/\ ¬ MO (hc++T) ρ b:=fun b hb=>⟨(HR.nlt b hb).1,fun ⟨k,o,p,q1,q2,q3⟩=>(HR.cel k o p b q1 q2 q3).2.1 hb⟩
 have AN: ∀ b,MO (hc++T) ρ b -> b<w.heap.size/\ Γ.ng<=b:=fun b hb=>HR.lt2 (.inr hb)
 have WP:EY (MO hc (ρ.take hc.length)) (fun b=>b<w.heap.size/\ ¬ MS N (hc++T) ρ b) w:=⟨fun b hb hr=>hr.2 (.inr ((sp b).2 (.inl hb))),fun b hb=>hb.elim (fun h=>(AN b ((sp b).2 (.inl h))).1) fun h=>h.1⟩
 have Wn:RJ P Γ N (hc++T) ρ w KK J 0 (MO hc (ρ.take hc.length)) (fun b=>b<w.heap.size/\ ¬ MS N (hc++T) ρ b) w:=
  ⟨_,ρ,h0,HR.hide,AP.refl _ _,fun b hb=>.inl (MO.hid hb).mo,fun b hb=>⟨(AN b ((sp b).2 (.inl hb))).2,.inl ((sp b).2 (.inl hb))⟩,fun b hb=>⟨fun hn=>hb.2 (.inl hn),fun hm=>hb.2 (.inr (MO.hid hm).mo)⟩,CA.refl _ _⟩
 have Df: ∀ i,EL (RJ P Γ N (hc++T) ρ w KK J i):=fun i G R' G' R2 A C ⟨h,ρ',h1,h2⟩ q1 q2 q3 q4 q5 q6=>⟨h,ρ',h1,RI.stable Ct hN _ _ _ _ _ _ h2 q1 q2 q3 q4 q5 q6⟩
 have WO: ∀ c,EL (RX P Γ N (hc++T) ρ w KK (fun _ _=>False) c):=fun c G R' G' R2 A C ⟨e,he,h,ρ',h1,h2⟩ _ _ _ _ _ _=>h1.elim
 have eg: ∀ args w,(callFunc gf args).run P w= .ok (.enter gf args) w:=H.1;refine dW hv eg (H.iter HR A4 JR hs Lt) WP (fun x hx R W args h=>h.1.symm.trans (D5 x hx)) _ _ Df WO (fun _ c G R W ⟨e,_,h,ρ',h1,_⟩=>h1.elim) Wn (Y8 R hN (fun _ h=>h) Cg C7) ?_ ?_
 ·rintro D e G R1 own W W' ⟨he,N',ρ',E3,y',kp⟩ ⟨h,ρ1,h1,hR⟩ xf Pd Ht hD IT;obtain ⟨T',rfl⟩:=hJ _ _ h1;have Ap:(ρ.take hc.length).length=hc.length:=by rw [zEZ,HR.len];simp
  rw [Ap] at kp;have Cs:ρ'.length=hc.length:=by rw [E3.len,hl]
  have JI:ρ1.length=hc.length+T'.length:=by rw [hR.hr.len];simp [hid]
  have bx: ∀ k,k<hc.length -> ∃ p,ρ'[k]? =some p/\ ρ1[k]? =some p:=fun k hk=>by
   have D6:k<ρ.length:=by rw [HR.len];simp;omega
   have e1:ρ[k]? =some ρ[k]:=zAQ D6;exact ⟨ρ[k],kp k _ hk (by rw [zD6,zAB hk];exact e1),hR.kept k _ (by omega) e1⟩
  have il: ∀ b,own b -> b<W.heap.size -> N' b:=fun b hb hl=>(y'.n b).2 ⟨hl,Pd b hb,fun hr=>xf.dis b (.inr hb) hr⟩
  have gN: ∀ b,N b -> ¬ G b:=fun b hb hg=>(hR.g b (.inl hg)).2.elim (hN b hb).2 (by have:=(hN b hb).1;omega)
  have Zm: ∀ {b},MO (C1++T') ρ1 b -> MO C1 ρ' b∨MO (hid hc.length T') ρ1 b:=by
   rintro b ⟨k,o,p,q1,q2,q3⟩;rcases zDj k hc.length with hk | hk
   ·obtain ⟨p',e1,e2⟩:=bx k hk;rw [e2] at q2;cases q2;exact .inl ⟨k,o,p,by rw [zAX (by omega)] at q1;exact q1,e1,q3⟩
   ·refine .inr ⟨k,o,p,?_,q2,q3⟩;rw [zAb (by omega),hl] at q1;unfold hid;rw [zAb (by simp [hk]),zAe];exact q1
  have fH: ∀ b,MS N (C1++T') ρ1 b -> MS (fun b=>N b∨(G b∨own b)) (hid hc.length T') ρ1 b:=fun b hb=>by
   rcases hb with hb | hb
   ·exact .inl (.inl hb)
   ·rcases Zm hb with hb | hb
    ·exact .inl (.inr (.inl (y'.own b hb)))
    ·exact .inr hb
  have ip:BU (MS N' C1 ρ') W ρ' (MS N (C1++T') ρ1) W' ρ1:=by
   refine ⟨fun b hb hm _=>Ht.block b hb fun ho=>hm (.inl (il b ho hb)),fun b hb=>?_,fun k p hp=>?_⟩
   ·rcases zDj b W.heap.size with Cz | Cz
    ·rcases hb with hb | hb
     ·exact .inl (.inl ((y'.n b).2 ⟨Cz,gN b hb,fun hr=>(hR.r b hr).1 hb⟩))
     ·rcases Zm hb with hb | hb
      ·exact .inl (.inr hb)
      ·obtain ⟨_,_,q3⟩:=hR.off b hb;exact .inl (.inl ((y'.n b).2 ⟨Cz,fun hg=>q3 (.inl (.inl hg)),fun hr=>q3 (.inr hr)⟩))
    ·exact .inr Cz
   ·have hk:k<hc.length:=by rw [←Cs];exact (zAV.1 hp).1
    obtain ⟨p',e1,e2⟩:=bx k hk;rw [e1] at hp;cases hp;exact e2
  have left: ∀ {k:Nat} {o:DO},k<hc.length -> (C1++T')[k]? =some (some o) -> C1[k]? =some (some o):=fun {k o} hk h=>by rw [zAX (by omega)] at h;exact h
  have right: ∀ {k:Nat} {o:DO},hc.length<=k -> (C1++T')[k]? =some (some o) -> (hid hc.length T')[k]? =some (some o):=fun {k o} hk h=>by
   rw [zAb (by omega),hl] at h;unfold hid;rw [zAb (by simp [hk]),zAe];exact h
  have pl: ∀ {k:Nat} {p:AI},k<hc.length -> ρ1[k]? =some p -> ρ'[k]? =some p:=fun {k p} hk h=>by
   obtain ⟨p',e1,e2⟩:=bx k hk;rw [e2] at h;cases h;exact e1
  have HF:A1 P Γ N (C1++T') ρ1 W':=by
   refine ⟨by rw [JI];simp [hl],fun k o hk=>?_,fun k o p b g1 g2 g3=>?_,fun i i' o o' p p' b Ak g1 g2 g3 g4 g5 g6=>?_,fun b hb=>hR.hr.nlt b (.inl hb),hR.hr.gi⟩
   ·rcases zDj k hc.length with C0 | C0
    ·obtain ⟨p,hp,hr⟩:=E3.obj k o (left C0 hk);exact ⟨p,ip.pl k p hp,hr.out ip (S:=fun b=>own b/\ b<W.heap.size) (Ht.mono fun b hb hx=>⟨hx,hb⟩) (fun b hb=>.inl (il b hb.1 hb.2)) fun b _ hf hx=>Pd b hx.1 (y'.own b ⟨k,o,p,left C0 hk,hp,hf⟩)⟩
    ·obtain ⟨p,hp,hr⟩:=hR.hr.obj k o (right C0 hk);exact ⟨p,hp,hr.out (C6 fH ρ1) (S:=fun _=>False) (AP.refl _ _) (fun _ h=>h.elim) fun _ _ _ h=>h⟩
   ·rcases zDj k hc.length with C0 | C0
    ·have hg:=y'.own b ⟨k,o,p,left C0 g1,pl C0 g2,g3⟩;obtain ⟨c1,c2,c,t,z,c3⟩:=E3.cel k o p b (left C0 g1) (pl C0 g2) g3;exact ⟨c1,fun hn=>gN b hn hg,c,t,z,(Ht.block b (zAJ.1 c3).1 fun ho=>Pd b ho hg).trans c3⟩
    ·obtain ⟨c1,c2,c3⟩:=hR.hr.cel k o p b (right C0 g1) g2 g3;exact ⟨c1,fun hn=>c2 (.inl hn),c3⟩
   ·have Fc: ∀ {i i':Nat} {o o':DO} {p p':AI},i<hc.length -> hc.length<=i' -> (C1++T')[i]? =some (some o) -> (C1++T')[i']? =some (some o') -> ρ1[i]? =some p -> ρ1[i']? =some p' -> p.foot b -> p'.foot b -> False:=fun {i i' o o' p p'} k1 k2 g1 g2 g3 g4 g5 g6=>
     (hR.off b ⟨i',o',p',right k2 g2,g4,g6⟩).2.2 (.inl (.inl (y'.own b ⟨i,o,p,left k1 g1,pl k1 g3,g5⟩)))
    rcases zDj i hc.length with FH | FH <;> rcases zDj i' hc.length with EH | EH
    ·exact E3.dis i i' o o' p p' b Ak (left FH g1) (left EH g2) (pl FH g3) (pl EH g4) g5 g6
    ·exact Fc FH EH g1 g2 g3 g4 g5 g6
    ·exact Fc EH FH g2 g1 g4 g3 g6 g5
    ·exact hR.hr.dis i i' o o' p p' b Ak (right FH g1) (right EH g2) g3 g4 g5 g6
  have OB:BC (MS N (C1++T') ρ1) W' ρ1 fr a.tmps:=((R.fr.take Cg).out (hR.outl.weak fun b hb=>hb)).out (C6 fH ρ1);exact hQ D T' ρ1 e W' h1 ⟨HF,OB⟩ ⟨hR.upd,fun b hb=>(Zm hb).elim (fun h=>(hR.g b (.inl (y'.own b h))).2) (hR.grow b)⟩ hR.kept hD IT he
 ·rintro D c G R1 W ⟨e,_,h,ρ',h1,_⟩;exact h1.elim
theorem sO {α σ:Type} {fr:List DV} {ps:List Tmp} {assign body:Code} {K:Nat} (enc:α -> List DV) (ys:List α) (f:α -> σ -> Option σ) (HH:σ -> DH) {sE:σ} (FR:α -> List DV)
 (C7: ∀ (l B:Nat) (N:BR P Γ K) (x:α) (s r:σ),f x s=some r -> Ft P Γ (Fence.wide.inRound l) (some B) K N (Cb K [] 0 (HH r)) assign body ⟨FR x,HH s⟩) (Cg:(fun x=>IC fr ps (enc x))=FR):
 Xr P Γ fr ps assign body K (fun i h=>∃ s,Bn f (ys.drop i) s=some sE/\ h=HH s) (fun _ _=>False) (ys.map enc):=by
 subst Cg;rintro l' B' N' i x h hx ⟨s,hs,rfl⟩;rw [zA1] at hx;cases hy:ys[i]? with
 | none=>rw [hy] at hx;cases hx
 | some y=>
  rw [hy] at hx;cases hx;have AN:=(zAV.1 hy).1
  have hd:ys.drop i=y::ys.drop (i+1):=by
   rw [zDx AN]
   congr 1
   exact (zAV.1 hy).2
  rw [hd] at hs;obtain ⟨r,h1,h2⟩:=FM hs
  have fin: ∀ {e:Exit} {S2:St},Cb K [] 0 (HH r) e S2 -> UB K (fun h=>∃ s,Bn f (ys.drop (i+1)) s=some sE/\ h=HH s) (fun _ _=>False) e S2:=by
   rintro e S2 ⟨r1,S3,r2,r3⟩;cases r1;exact ⟨S3,r2,.inl ⟨rfl,r,h2,r3⟩⟩
  refine Tr.mono (C7 l' B' N' y s r h1) fun e S2 Y2 hq=>?_
  cases e with
  | normal=>exact ⟨hq.1,fun N2=>Tr.mono (show Tr P Γ (Fence.wide.inRound l') (some B') K N2 body S2 (stay N2 (Cb K [] 0 (HH r))) from hq.2 N2) fun e S3 Y3 h3=>⟨h3.1,fin h3.2⟩⟩
  | ret=>exact hq.elim
  | exit id=>exact hq.elim
  | goto t=>exact hq.elim
  | panic c=>exact hq.elim
  | outgrown=>exact hq.elim
end
end Go.Proofs.YtkjbblkieglmlaaGreatDoor
namespace Go.Proofs.YtkjbblkieglmlaaGreatDoor
open Go.RowKit
section
variable {P:Program} {Γ:Aq} {N:Nat -> Prop} {ρ:List AI} {a:Act} {w:World} {S:St} {Q:Exit -> Act -> World -> Prop} {fr:List DV} {h':DH} {c:List (DV×DH×Bool)} {o:List (Nat×DV)} {z:List (Nat×Fz)} {v v2:List Prop} {id:Nat} {ops:Array Oper}
def Ve (L:Nat) (live σ ks:List Nat) (r:St×List Prop×BF):Option (List DV×DH×List Prop×List Prop×Bool):=match frzL ks (comp live σ r.1) with
 | some (S,w)=>some (S.fr,S.h,r.2.1,w,Is σ L r.1.h.length)
 | none=>none
theorem io {L:Nat} {live σ ks:List Nat} {r:St×List Prop×BF} (h:Ve L live σ ks r=some (fr,h',v,v2,true)) (hz:Ba v2):r.2.1=v/\ Ay L r.1 ⟨fr,h'⟩:=by
 unfold Ve at h;split at h
 ·rename_i S1 w1 hf;simp only [zC5,zD1] at h;obtain ⟨rfl,rfl,rfl,rfl,hs⟩:=h;exact ⟨rfl,(Ay.comp live σ r.1 hs).trans (Ay.frzL ks hf hz)⟩
 ·cases h
theorem wr {L:Nat} (hX:HX Fence.wide P) (live σ ks:List Nat) (hl:HS c o z v) (hz:HS [] [] [] v2) (fr:List DV) (h':DH) (R:AT P Γ N S ρ a w) (h:(DW P Γ ops ops.toList S ⟨c,o,z,[]⟩).bind (Ve L live σ ks)=some (fr,h',v,v2,true)) (Av:CR ops=true)
 (hk: ∀ ρ' a' w',AT P Γ N ⟨fr,h'⟩ ρ' a' w' -> A6 S.h ρ w h' ρ' w' -> a'.defers=a.defers -> CA L ρ ρ' -> Q .normal a' w'):(Code.region id ops false).wpIn Fence.wide 0 P Q a w:=by
 obtain ⟨⟨S1,v1,o1⟩,hr,h⟩:=FM h;obtain ⟨rfl,hs⟩:=io h hz.all;refine zE6 (JV hX.f Av _ (fun o ho=>by simpa using ho) R hr hl.all fun ρ' a' w' R' st hd=>?_);obtain ⟨ρ2,R2,s2,k2⟩:=hs P Γ N ρ' a' w' R';exact hk ρ2 a' w' R2 (st.st.trans s2) hd (CA.trans (fun k p _ hp=>st.pl k p hp) k2)
theorem wt {L:Nat} (hX:HX Fence.wide P) (early:List Nat) (t:ST) (hB:Bq ops early t) (tg:List (List (Nat×Nat)×St)) (live σ ks:List Nat) (hl:HS c o z v) (hz:HS [] [] [] v2) (fr:List DV) (h':DH) (R:AT P Γ N S ρ a w) (h:(Qf P Γ ops early t S ⟨c,o,z,tg⟩).bind (Ve L live σ ks)=some (fr,h',v,v2,true))
 (hk: ∀ ρ' a' w',AT P Γ N ⟨fr,h'⟩ ρ' a' w' -> A6 S.h ρ w h' ρ' w' -> a'.defers=a.defers -> CA L ρ ρ' -> Q .normal a' w'):(Code.region id ops true).wpIn Fence.wide 0 P Q a w:=by
 obtain ⟨⟨S1,v1,o1⟩,hr,h⟩:=FM h;obtain ⟨rfl,hs⟩:=io h hz.all;simp only [Bq,zAL] at hB;obtain ⟨⟨h1,h2⟩,h3⟩:=hB;unfold Qf at hr;split at hr
 ·cases hr
 split at hr
 ·cases hr
 ·rename_i hV;cases hr;have hE:Ao w w.drew:=Ao.toDrew w;refine dX (X2 hX.m (zEp _) ((dq hX.f h3 h2 t ops.size _ cR (R.ext hE) hV hl.all fun ρ' a' w' R' st Ss Ca=>?_).1 h1));obtain ⟨ρ2,R2,s2,k2⟩:=hs P Γ N ρ' a' w' R';exact hk ρ2 a' w' R2 ((A6.ext hE).trans (st.trans s2)) Ca (CA.trans (fun k p _ hp=>Ss k p (by rw [←R.hr.len];exact (zAV.1 hp).1) hp) k2)
theorem zAw {h:DH} {ρ ρ':List AI} {w w':World} {d:DV} {v:Value} (h0:A1 P Γ N [] ρ w) (R:A1 P Γ N h ρ' w') (st:A6 [] ρ w h ρ' w') (hr:AM (MS N h ρ') w' d ρ' v) (hd:Ep d=true):CW P Γ N [] ρ w true d [] v w':=by
 have e:ρ= []:=List.length_eq_zero_iff.1 h0.len;subst e;have hx:=KD hd _ _ _ _ hr;have low: ∀ b,MO [] ([]:List AI) b -> False:=fun b ⟨k,_,_,q,_⟩=>by simp at q
 have hu:AP (fun _=>False) w w':=st.upd.mono fun b _ hb=>low b hb
 refine ⟨⟨[],⟨rfl,fun k o hk=>by simp at hk,fun k o p b hk=>by simp at hk,fun k k' o o' p p' b _ hk=>by simp at hk,R.nlt,R.gi⟩,?_,⟨hu.mono fun _ _ h=>h.elim,fun b hb=>(low b hb).elim⟩,fun k p hk=>by simp at hk⟩,fun _=>hu.toExt fun _ _ h=>h⟩;exact hx.out _ ⟨fun _ _ _ _=>rfl,fun b hb=>.inl (hb.imp id fun h=>(low b h).elim),fun k p hk=>by simp at hk⟩
end
theorem oC {P:Program} {Q:Exit -> Act -> World -> Prop} {a:Act} {w:World} {ops:Array Oper} {id t g:Nat} {o0 o1:Oper} {GR:Array Operand} {tp:Array TypeId} (hl:ops.toList= [o0,o1]) (h0:o0.op= .makeFunc (.func g) #[] GR) (Wh:o0.dst=some t) (Wf:o0.guard=none) (h1:o1.op= .defer { callee:=.value (.tmp t),args:=#[],argTypes:=tp }) (HJ:o1.dst=none) (zy:o1.guard=none) (ht:t<a.tmps.size)
 (hQ: ∀ a',a'.tmps=a.tmps.setIfInBounds t (.func (.func g) #[] (GR.map a.eval)) -> a'.defers= { target:=.fn (.func g) (GR.map a.eval),args:=#[] }::a.defers -> Q .normal a' w):(Code.region id ops false).wpIn Fence.wide 0 P Q a w:=by
 refine zE6 ?_;rw [hl];simp only [wpListIn,Oper.wpIn,Region.wanted,Wf,zy,zEG];refine ⟨fun _ _=>trivial,?_⟩
 have e0:(o0.semAt Fence.wide.round a.eval).run P w= .ok (.value (.func (.func g) #[] (GR.map a.eval))) w:=by
  rw [zEa _ _ _ (by rw [h0];intro c e;cases e)];unfold execOp;rw [h0];simp only [zAg,Array.map_empty];simp [go_sem]
 rw [e0,Oper.uponIn_value];refine ⟨fun _ _=>trivial,?_⟩;obtain ⟨a2,bO⟩: ∃ a2,a2=a.put o0.dst (.func (.func g) #[] (GR.map a.eval)):=⟨_,rfl⟩;rw [←bO]
 have ev:a2.eval (.tmp t)= .func (.func g) #[] (GR.map a.eval):=by
  rw [bO,Wh];simp [Act.eval,Act.put,ht]
 have e1:(o1.semAt Fence.wide.round a2.eval).run P w= .ok (.defer { target:=.fn (.func g) (GR.map a.eval),args:=#[] }) w:=by
  show (o1.semAt none a2.eval).run P w=_
  rw [Oper.semAt_none];unfold execOp;rw [h1];simp only [resolve,ev];simp [Deferred.ofValue,go_sem]
 rw [e1,Oper.uponIn_defer,HJ]
 have:Act.put { a2 with defers:={ target:=.fn (.func g) (GR.map a.eval),args:=#[] }::a2.defers } none undef= { tmps:=a.tmps.setIfInBounds t (.func (.func g) #[] (GR.map a.eval)),defers:={ target:=.fn (.func g) (GR.map a.eval),args:=#[] }::a.defers }:=by
  rw [bO,Wh];rfl
 rw [this];exact hQ _ rfl rfl
theorem AT.idle {P:Program} {Γ:Aq} {N:Nat -> Prop} {fr:List DV} {h:DH} {ρ:List AI} {a a':Act} {w:World} (R:AT P Γ N ⟨fr,h⟩ ρ a w) (t:Nat) {v:Value} (ha:a'.tmps=a.tmps.setIfInBounds t v) (e:fr.set t .any=fr):AT P Γ N ⟨fr,h⟩ ρ a' w:=by
 refine ⟨R.hr,?_⟩;have:=R.fr.set t (d:=.any) (v:=v) trivial;rw [ha]
 show BC _ _ _ fr _
 have e':BC (MS N h ρ) w ρ (fr.set t .any) (a.tmps.setIfInBounds t v):=this
 rwa [e] at e'
theorem mY {P:Program} {Γ:Aq} {N:Nat -> Prop} {h h':DH} {ρ ρ':List AI} {w w':World} {D:Nat} (H:A1 P Γ N h ρ w) (st:A6 h ρ w h' ρ' w') (hD:w.heap[D]? =some (.deferred (some []))):w'.heap[D]? =some (.deferred (some [])):=by
 refine (st.upd.block D (zAJ.1 hD).1 ?_).trans hD;rintro ⟨k,o,p,h1,h2,h3⟩;obtain ⟨_,_,c,t,z,h4⟩:=H.cel k o p D h1 h2 h3;rw [hD] at h4;cases h4;cases t
theorem Vz {P:Program} {fn:Func} {tmps:Array Value} {R:Ending -> World -> Prop} {D g:Nat} {GR:Array Value} {u:FrameMode} {w:World} (hu:u≠.run) (hD:w.heap[D]? =some (.deferred (some []))) (eg: ∀ args W,(callFunc g args).run P W= .ok (.enter g args) W)
 (h: ∀ W,OX D w W -> CallsDIn Fence.wide (0-1) P g GR u W fun
  | .returned _,u',w'=>LeavesIn Fence.wide 0 P fn tmps R [] (settle u') w'
  | .panicked zCn,u',w'=>LeavesIn Fence.wide 0 P fn tmps R [] (raised u' zCn) w'
  | .outgrown,_,w'=>R .outgrown w'):LeavesInM Fence.wide 0 P fn tmps R [{ target:=.collected D,args:=#[] },{ target:=.fn (.func g) GR,args:=#[] }] u w:=by
 refine ⟨hu,.inl ⟨D,_,rfl,run_takeDeferred hD,hu,.inr ⟨fun h=>(by cases h),.func g,GR,g,#[]++GR,rfl,?_,fun _ _=>trivial,?_⟩⟩⟩
 ·simp [invoke,go_sem,eg]
 ·have hs:OX D w (w.putObj D (.deferred none)):=((AP.refl (fun k=>k=D) w).putObj (fun _=>rfl) _).mono fun i _ e=>by cases e;exact ⟨zAm _,hD⟩
  have:=h _ hs;rw [Array.empty_append];exact this.mono fun e u' w' hq=>by cases e <;> exact hq
theorem AS.cut {α:Type} [Inhabited α] {c:α -> List DV} {L:List α} {m:Nat} {hi:Int} (h:(0:Int)<=0/\ 0<=hi/\ hi<=((L.length:Nat):Int)):AS (.sl m (hi.toNat-0) (fun i j=>AQ c L (0+i) j)) (.sl m (L.take hi.toNat).length (AQ c (L.take hi.toNat))):=by
 have hl:(L.take hi.toNat).length=hi.toNat-0:=by rw [zEZ];omega
 rw [hl];rintro M w ρ v ⟨a,cap,e,h1,h2,h3⟩;refine ⟨a,cap,e,h1,h2,fun i j BP hj=>?_⟩;have:=h3 i j BP hj
 have e:AQ c (L.take hi.toNat) i j=AQ c L (0+i) j:=by
  unfold AQ
  have:(L.take hi.toNat).getD i default=L.getD (0+i) default:=by
   rw [zAj,u8,zD6,zAB (by omega),u8]
  rw [this]
 rw [e];exact this
theorem BC.split {M:Nat -> Prop} {w:World} {ρ:List AI} {fr l:List DV} {t u:Array Value} (F:BC M w ρ (fr++l) (t++u)) (hl:fr.length=t.size):BC M w ρ fr t/\ BC M w ρ l u:=by
 have hs:fr.length+l.length=t.size+u.size:=by simpa using F.1
 refine ⟨⟨hl,fun j hj=>?_⟩,⟨by omega,fun j hj=>?_⟩⟩
 ·have h:=F.2 j (by simp;omega);have e1:(fr++l).getD j .any=fr.getD j .any:=by simp only [u8,zAX hj]
  have e2:(t++u).getD j undef=t.getD j undef:=by simp only [zAc,zES (show j<t.size by omega)]
  rwa [e1,e2] at h
 ·have h:=F.2 (fr.length+j) (by simp;omega);have e1:(fr++l).getD (fr.length+j) .any=l.getD j .any:=by simp only [u8];rw [zAb (by omega)];congr 2;omega
  have e2:(t++u).getD (fr.length+j) undef=u.getD j undef:=by simp only [zAc];rw [Array.getElem?_append_right (by omega)];congr 2;omega
  rwa [e1,e2] at h
theorem Ay.both {L:Nat} {P:Program} {Γ:Aq} {N:Nat -> Prop} {fr l Gi l':List DV} {h h':DH} {ρ:List AI} {a:Act} {w:World} {u:Array Value} (hS:Ay L ⟨fr++l,h⟩ ⟨Gi++l',h'⟩) (hl:Gi.length=fr.length) (R:AT P Γ N ⟨fr,h⟩ ρ a w) (F:BC (MS N h ρ) w ρ l u): ∃ ρ',AT P Γ N ⟨Gi,h'⟩ ρ' a w/\ BC (MS N h' ρ') w ρ' l' u/\ A6 h ρ w h' ρ' w/\ CA L ρ ρ':=by
 obtain ⟨ρ',R',s,k⟩:=hS P Γ N ρ { a with tmps:=a.tmps++u } w ⟨R.hr,BC.append R.fr F⟩;obtain ⟨f1,f2⟩:=BC.split R'.fr (hl.trans R.fr.1);exact ⟨ρ',⟨R'.hr,f1⟩,f2,s,k⟩
theorem AT.forg {P:Program} {Γ:Aq} {N:Nat -> Prop} {fr Gi:List DV} {h:DH} {ρ:List AI} {a a':Act} {w:World} (live:List Nat) (R:AT P Γ N ⟨fr,h⟩ ρ a w) (ha:a'.tmps=a.tmps) (e:forget live fr=Gi):AT P Γ N ⟨Gi,h⟩ ρ a' w:=by
 subst e;refine ⟨R.hr,?_⟩;rw [ha];refine ⟨(TQ live fr).trans R.fr.1,fun i hi=>?_⟩;have hi:i<fr.length:=by rw [←TQ live fr];exact hi
 show AM _ _ ((forget live fr).getD i .any) _ _
 rw [bk live fr hi];split
 ·exact R.fr.2 i hi
 ·trivial
theorem TP {P:Program} {Γ:Aq} {N:Nat -> Prop} {h h':DH} {ρ ρ':List AI} {w w':World} {L:Nat} {fr:List DV} {t:Array Value} (F:BC (MS N h ρ) w ρ fr t) (Cg:fr.all (C5 L)=true) (H':A1 P Γ N h' ρ' w') (st:A6 h ρ w h' ρ' w') (kp:CA L ρ ρ'):BC (MS N h' ρ') w' ρ' fr t:=
 (F.take Cg).out ⟨fun b hb hm _=>st.upd.block b hb fun hx=>hm (.inr hx),fun b hb=>hb.elim (fun h=>.inl (.inl h)) fun h=>(st.grow b h).imp .inr id,fun k p hp=>by
  rw [zD6] at hp;split at hp
  ·rename_i hk;exact kp k p hk hp
  ·cases hp⟩
theorem W9 {P:Program} {Γ:Aq} {N:Nat -> Prop} {S:St} {ρ ρ0:List AI} {a:Act} {w0 W:World} {fn:Func} (R:AT P Γ N S ρ a W) (h0:A1 P Γ N [] ρ0 w0) (st:A6 [] ρ0 w0 S.h ρ W) (ks:List Nat) {ws:List Prop} (hz:HS [] [] [] ws) (rs:List DV) {d:DV} (hd:AS (Gz rs) d)
 (hf:(frzL ks S).bind (fun q=>(LU P q.1 fn.results.toList).map fun r=>(r,q.2))=some (rs,ws)) (hn:Ep d=true): ∃ v,(results fn a.tmps).run P W= .ok v W/\ CW P Γ N [] ρ0 w0 true d [] v W:=by
 obtain ⟨⟨S2,w2⟩,h1,h2⟩:=FM hf;obtain ⟨r,h3,h4⟩:=KH h2;cases h4;obtain ⟨ρ2,R2,s2,_⟩:=Ay.frzL (L:=0) ks h1 hz.all P Γ N ρ a W R;obtain ⟨v,g1,g2⟩:=VC R2 h3;exact ⟨v,g1,zAw h0 R2.hr (st.trans s2) (hd _ _ _ _ g2) hn⟩
end Go.Proofs.YtkjbblkieglmlaaGreatDoor
namespace Go.Proofs.YtkjbblkieglmlaaGreatDoor
open Go.RowKit
set_option maxRecDepth 100000
set_option maxHeartbeats 40000000
def Ja (x:(List Int)×(List Int)×Int):List DV:=[.agg 3 (L1 [.ints x.1,.ints x.2.1,.i x.2.2])]
abbrev Au:=(List Int)×(List Int)×Int
def Vo (pos:List Int) (AF depth:Int):Nat -> List DV:=fun _=>[.ref 5 0,.ints pos,.i AF,.i depth]
def Cy (AO:List Int) (q:AA) (tree:List (Int×Int)) (ln:Nat) (pos0:List Int):Nat -> DH:=fun l=>[some (.ints AO),some (.ro (AC q)),some (.ro [.sl 2 tree.length (AQ Aw tree)]),some (.ro [.msl 0 1 0 ln]),some (.ro [.ints pos0]),some (.ro (AC q++[.sl 2 tree.length (AQ Aw tree),.msl 0 1 0 ln,.yl l]))]
def SE (y:Int):DV:=.i y
abbrev D4:=(List Int) -> Int -> Int -> (List Int) -> AA -> (List (Int×Int)) -> Nat -> (List Int) -> Option (YR Au Int (List Int))
def IR (f:D4):Prop:=∀ (pos:List Int) (AF depth:Int) (AO:List Int) (q:AA) (tree:List (Int×Int)) (ln:Nat) (pos0:List Int) (r:YR Au Int (List Int)),f pos AF depth AO q tree ln pos0=some r -> YC Tryz.prog GG DX 58 (Vo pos AF depth) (Cy AO q tree ln pos0) (r.1.map Ja) (r.2.1.map SE) (Cy r.2.2 q tree ln pos0)
def iE:Nat -> List DV:=fun _=>[.ref 6 0,.ref 10 0,.ref 7 0,.ref 8 0,.ref 9 0]
def Hg (AO:List Int) (q:AA) (tree:List (Int×Int)) (ln:Nat) (pos0 pos:List Int) (AF depth:Int) (nd:Int×Int):Nat -> DH:=fun l=>[some (.ints AO),some (.ro (AC q)),some (.ro [.sl 2 tree.length (AQ Aw tree)]),some (.ro [.msl 0 1 0 ln]),some (.ro [.ints pos0]),some (.ro (AC q++[.sl 2 tree.length (AQ Aw tree),.msl 0 1 0 ln,.yl l])),some (.ro [.ref 5 0]),some (.ro [.ints pos]),some (.ro [.i AF]),some (.ro [.i depth]),some (.ro [.i nd.1,.i nd.2])]
def iF (y:Int):DV:=.i y
abbrev tf:=(List Int) -> AA -> (List (Int×Int)) -> Nat -> (List Int) -> (List Int) -> Int -> Int -> (Int×Int) -> Option (YR Au Int (List Int))
def te (f:tf):Prop:=∀ (AO:List Int) (q:AA) (tree:List (Int×Int)) (ln:Nat) (pos0 pos:List Int) (AF depth:Int) (nd:Int×Int) (r:YR Au Int (List Int)),f AO q tree ln pos0 pos AF depth nd=some r -> YC Tryz.prog GG DX 81 (iE) (Hg AO q tree ln pos0 pos AF depth nd) (r.1.map Ja) (r.2.1.map iF) (Hg r.2.2 q tree ln pos0 pos AF depth nd)
theorem qg:Ar (Ag Tryz.f81 1) [([0,1,2,3,4,5,6],7)] [8,9,10,11,12] []:=by unfold Ar;kernel_rfl
def Yg:Bi:=fun i=>match i with
 | 1=>.ord [([0,1,2,3,4,5,6],7)] [8,9,10,11,12] []
 | _=>.no
def ZH (n:Nat) (Aj:D4) (AO:List Int) (q:AA) (tree:List (Int×Int)) (ln:Nat) (pos0 pos:List Int) (AF depth:Int) (nd:Int×Int):Option (YR Au Int (List Int)):=
 (O7 n q nd.2 pos).bind fun y1=>
  bif (y1.2==0) then
   if AL (AF+1) then
    yb (Aj y1.1 (AF+1) depth AO q tree ln pos0) fun y2 o2=>
     some ([],some y2,o2)
   else none
  else
   some ([],none,AO)
def ZI (n:Nat) (Aj:D4) (AO:List Int) (q:AA) (tree:List (Int×Int)) (ln:Nat) (pos0 pos:List Int) (AF depth:Int) (nd:Int×Int):Option (YR Au Int (List Int)):=ZH n Aj AO q tree ln pos0 pos AF depth nd
theorem tc {n:Nat} {Aj:D4} (CF:IR Aj):te (ZI n Aj):=fun AO q tree ln pos0 pos AF depth nd r h=>YC.ofY (L:=11) (h':=fun l o=>Hg o q tree ln pos0 pos AF depth nd l) Tryz.func81 (fun C i ρ0 hn hd=>by
 replace h:ZH n Aj AO q tree ln pos0 pos AF depth nd=some r:=h;unfold ZH at h;obtain ⟨y1,A5,h⟩:=FM h;have p:=H0.g qg |>.c (fb (tj A5) (Hg AO q tree ln pos0 pos AF depth nd C.l))
 refine gs (AR 3 (AR 2 Yg)) [0,1,2,3,4,5,6,7,8,9,10] p (CO (AY Tryz.f81) 2 []) (AG 28 [(0,.ref 6 0),(3,.ref 8 0),(4,.ref 9 0),(6,.ints y1.1),(7,.i y1.2)]) (Hg AO q tree ln pos0 pos AF depth nd C.l) ?_;rcases Bt h with ⟨c0,h⟩ | ⟨c0,h⟩
 ·refine yO (ops:=Ag Tryz.f81 2) (by kernel_rfl) ?_;refine yT hn [0,1] [] 2 ((H0.b 20 c0)) (AG 28 [(0,.ref 6 0),(3,.ref 8 0),(4,.ref 9 0),(6,.ints y1.1)]) (Hg AO q tree ln pos0 pos AF depth nd C.l) (some 21) ?_ hd;refine y0 ?_;have p:=H0;refine gs (AR 3 (AR 2 Yg)) [0,1,2,3,4,5,6,7,8,9,10] p (CO (AY Tryz.f81) 3 []) (AG 28 [(0,.ref 6 0),(3,.ref 8 0),(4,.ref 9 0),(6,.ints y1.1)]) (Hg AO q tree ln pos0 pos AF depth nd C.l) ?_;obtain ⟨g0,h⟩:=Bu h;refine yO (ops:=Ag Tryz.f81 3) (by kernel_rfl) ?_;refine yC (ds:=Vo y1.1 (AF+1) depth) (h:=Cy AO q tree ln pos0) (h':=fun l o=>Cy o q tree ln pos0 l) (tD':=SE) hn [0,1,2,3,4] [6] 5 ((H0.w 25 g0)) (AG 28 []) (Hg AO q tree ln pos0 pos AF depth nd C.l) (some 27) h hd (fun a ha=>CF _ _ _ _ _ _ _ _ a ha) (fun y2 o2 r i h hd=>?_);refine yE H0 (AG 28 [(5,.i y2)]) (Hg o2 q tree ln pos0 pos AF depth nd C.l) ?_;have p:=H0;cases h;exact yF (ee (AR 3 (AR 2 Yg)) [5] [0,1,2,3,4,5,6,7,8,9,10] p)
 ·cases h;refine yO (ops:=Ag Tryz.f81 2) (by kernel_rfl) ?_;exact yP hn [0,1] [] 2 ((H0.b 20 c0)) (AG 28 [(0,.ref 6 0),(3,.ref 8 0),(4,.ref 9 0),(6,.ints y1.1)]) (Hg AO q tree ln pos0 pos AF depth nd C.l) (some 21))
def fQ:Nat -> List DV:=fun _=>[.ref 10 0,.ref 7 0,.ref 8 0,.ref 6 0,.ref 9 0]
def Dq (AO:List Int) (q:AA) (tree:List (Int×Int)) (ln:Nat) (pos0 pos:List Int) (AF depth:Int) (nd:Int×Int):Nat -> DH:=fun l=>[some (.ints AO),some (.ro (AC q)),some (.ro [.sl 2 tree.length (AQ Aw tree)]),some (.ro [.msl 0 1 0 ln]),some (.ro [.ints pos0]),some (.ro (AC q++[.sl 2 tree.length (AQ Aw tree),.msl 0 1 0 ln,.yl l])),some (.ro [.ref 5 0]),some (.ro [.ints pos]),some (.ro [.i AF]),some (.ro [.i depth]),some (.ro [.i nd.1,.i nd.2])]
def YT (y:Int):DV:=.i y
abbrev pU:=(List Int) -> AA -> (List (Int×Int)) -> Nat -> (List Int) -> (List Int) -> Int -> Int -> (Int×Int) -> Option (YR Au Int (List Int))
def pT (f:pU):Prop:=∀ (AO:List Int) (q:AA) (tree:List (Int×Int)) (ln:Nat) (pos0 pos:List Int) (AF depth:Int) (nd:Int×Int) (r:YR Au Int (List Int)),f AO q tree ln pos0 pos AF depth nd=some r -> YC Tryz.prog GG DX 83 (fQ) (Dq AO q tree ln pos0 pos AF depth nd) (r.1.map Ja) (r.2.1.map YT) (Dq r.2.2 q tree ln pos0 pos AF depth nd)
theorem qT:Ar (Ag Tryz.f83 7) [([0,1,2,3,4,5,6,7],8)] [9,10,11,12,13] []:=by unfold Ar;kernel_rfl
def Mz:Bi:=fun i=>match i with
 | 7=>.ord [([0,1,2,3,4,5,6,7],8)] [9,10,11,12,13] []
 | _=>.no
inductive Ov where
 | l1 (x6 Db:Int) (o0:List Int)
def Ms (n:Nat) (Aj:D4) (self:Ov -> Option (YR Au Int (List Int))) (AO:List Int) (q:AA) (tree:List (Int×Int)) (ln:Nat) (pos0 pos:List Int) (AF depth:Int) (nd:Int×Int) (x6 Db:Int) (o0:List Int):Option (YR Au Int (List Int)):=
 bif (decide (Db<q.symbols)) then
  if (0<=nd.2/\ nd.2<(pos.length:Int))/\ (0<=Db/\ Db<=(IntKind.i64.bits:Int)) then
   bif ((bits .and .i64 ((pos.getD ((nd.2).toNat) 0)/2 ^ (Db).toNat) 1)==1) then
    (OC n q pos nd.2 Db).bind fun y1=>
     bif (y1.2==0) then
      if AL (depth+1) then
       yb (Aj y1.1 x6 (depth+1) o0 q tree ln pos0) fun y2 o2=>
        if AL (Db+1) then
         self (.l1 y2 (Db+1) o2)
        else none
      else none
     else
      some ([],none,o0)
   else
    if AL (Db+1) then
     self (.l1 x6 (Db+1) o0)
    else none
  else none
 else
  some ([],some x6,o0)
def K9 (n:Nat) (Aj:D4) (self:Ov -> Option (YR Au Int (List Int))) (AO:List Int) (q:AA) (tree:List (Int×Int)) (ln:Nat) (pos0 pos:List Int) (AF depth:Int) (nd:Int×Int):Option (YR Au Int (List Int)):=
 bif (decide (nd.2>=0)) then
  bif (decide (nd.2<(pos.length:Int))) then
   (JF n pos).bind fun y1=>
    bif (!y1) then
     if 0<=nd.2/\ nd.2<(pos.length:Int) then
      (Q1 n (pos.getD ((nd.2).toNat) 0)).bind fun y2=>
       bif (decide (y2>1)) then
        if AL (AF+1) then
         self (.l1 (AF+1) 0 AO)
        else none
       else
        some ([],none,AO)
     else none
    else
     some ([],none,AO)
  else
   some ([],none,AO)
 else
  some ([],none,AO)
def G4 (Aj:D4) (AO:List Int) (q:AA) (tree:List (Int×Int)) (ln:Nat) (pos0 pos:List Int) (AF depth:Int) (nd:Int×Int):Nat -> Ov -> Option (YR Au Int (List Int))
 | 0,_=>none
 | n+1,.l1 x6 Db o0=>Ms n Aj (G4 Aj AO q tree ln pos0 pos AF depth nd n) AO q tree ln pos0 pos AF depth nd x6 Db o0
def YS (C:Bb Tryz.prog) (ρ0:List AI) (n:Nat) (AO:List Int) (q:AA) (tree:List (Int×Int)) (ln:Nat) (pos0 pos:List Int) (AF depth:Int) (nd:Int×Int) (r:YR Au Int (List Int)):Ov -> Prop
 | .l1 x6 Db o0=>∀ m0:Nat,n<=m0 -> ∀ i:Nat,DR C Ja i r -> TY C DX Tryz.f83 11 ρ0 YT (fun o=>Dq o q tree ln pos0 pos AF depth nd C.l) (A8 m0 (BL (AY Tryz.f83) 0 [])) i r ⟨AG 77 [(0,.ref 10 0),(1,.ref 7 0),(3,.ref 6 0),(4,.ref 9 0),(6,.i x6),(41,.i q.symbols),(42,.i Db)],[some (.ints o0),some (.ro (AC q)),some (.ro [.sl 2 tree.length (AQ Aw tree)]),some (.ro [.msl 0 1 0 ln]),some (.ro [.ints pos0]),some (.ro (AC q++[.sl 2 tree.length (AQ Aw tree),.msl 0 1 0 ln,.yl C.l])),some (.ro [.ref 5 0]),some (.ro [.ints pos]),some (.ro [.i AF]),some (.ro [.i depth]),some (.ro [.i nd.1,.i nd.2])]⟩
theorem pS (C:Bb Tryz.prog) (hn:C.nv) (ρ0:List AI) (n:Nat) (Aj:D4) (CF:IR Aj) (self:Ov -> Option (YR Au Int (List Int))) (AO:List Int) (q:AA) (tree:List (Int×Int)) (ln:Nat) (pos0 pos:List Int) (AF depth:Int) (nd:Int×Int) (AK: ∀ pt r,self pt=some r -> YS C ρ0 n AO q tree ln pos0 pos AF depth nd r pt) (x6 Db:Int) (o0:List Int) (r:YR Au Int (List Int)) (h:Ms n Aj self AO q tree ln pos0 pos AF depth nd x6 Db o0=some r):YS C ρ0 (n+1) AO q tree ln pos0 pos AF depth nd r (.l1 x6 Db o0):=by
 intro m0 AD;intro i hd;refine rd AD fun m0 AD=>?_
 unfold Ms at h;have p:=H0;rcases Bt h with ⟨c0,h⟩ | ⟨c0,h⟩
 ·obtain ⟨⟨g0,g1⟩,h⟩:=Bu h;have p:=H0.b 43 c0 |>.g g0 |>.g g1
  rcases Bt h with ⟨c1,h⟩ | ⟨c1,h⟩
  ·obtain ⟨y1,A5,h⟩:=FM h;have p:=p.b 53 c1 |>.g qT |>.c (fb (zBE A5) (Dq o0 q tree ln pos0 pos AF depth nd C.l))
   refine gs (AR 9 (AR 8 (AR 1 Mz))) [0,1,2,3,4,5,6,7,8,9,10] p (CO (AY Tryz.f83) 8 [m0]) (AG 77 [(0,.ref 10 0),(1,.ref 7 0),(3,.ref 6 0),(4,.ref 9 0),(6,.i x6),(8,.ints y1.1),(9,.i y1.2),(41,.i q.symbols),(42,.i Db)]) (Dq o0 q tree ln pos0 pos AF depth nd C.l) ?_;rcases Bt h with ⟨c0,h⟩ | ⟨c0,h⟩
   ·refine yO (ops:=Ag Tryz.f83 8) (by kernel_rfl) ?_;refine yT hn [0,1] [] 2 ((H0.b 67 c0)) (AG 77 [(0,.ref 10 0),(1,.ref 7 0),(3,.ref 6 0),(4,.ref 9 0),(6,.i x6),(8,.ints y1.1),(41,.i q.symbols),(42,.i Db)]) (Dq o0 q tree ln pos0 pos AF depth nd C.l) (some 68) ?_ hd;refine y0 ?_;have p:=H0;refine gs (AR 9 (AR 8 (AR 1 Mz))) [0,1,2,3,4,5,6,7,8,9,10] p (CO (AY Tryz.f83) 9 [m0]) (AG 77 [(0,.ref 10 0),(1,.ref 7 0),(3,.ref 6 0),(4,.ref 9 0),(6,.i x6),(8,.ints y1.1),(41,.i q.symbols),(42,.i Db)]) (Dq o0 q tree ln pos0 pos AF depth nd C.l) ?_;obtain ⟨g2,h⟩:=Bu h;refine yO (ops:=Ag Tryz.f83 9) (by kernel_rfl) ?_;refine yC (ds:=Vo y1.1 x6 (depth+1)) (h:=Cy o0 q tree ln pos0) (h':=fun l o=>Cy o q tree ln pos0 l) (tD':=SE) hn [0,1,2,3,4] [6] 5 ((H0.w 73 g2)) (AG 77 [(0,.ref 10 0),(1,.ref 7 0),(3,.ref 6 0),(4,.ref 9 0),(6,.i x6),(41,.i q.symbols),(42,.i Db)]) (Dq o0 q tree ln pos0 pos AF depth nd C.l) (some 74) h hd (fun a ha=>CF _ _ _ _ _ _ _ _ a ha) (fun y2 o2 r i h hd=>?_);refine yE H0 (AG 77 [(0,.ref 10 0),(1,.ref 7 0),(3,.ref 6 0),(4,.ref 9 0),(6,.i y2),(41,.i q.symbols),(42,.i Db)]) (Dq o2 q tree ln pos0 pos AF depth nd C.l) ?_;obtain ⟨g3,h⟩:=Bu h;have p:=H0.w 75 g3;exact gg (AR 9 (AR 8 (AR 1 Mz))) [0,1,2,3,4,5,6,7,8,9,10] p (AK _ _ h m0 AD i hd)
   ·cases h;refine yO (ops:=Ag Tryz.f83 8) (by kernel_rfl) ?_;exact yP hn [0,1] [] 2 ((H0.b 67 c0)) (AG 77 [(0,.ref 10 0),(1,.ref 7 0),(3,.ref 6 0),(4,.ref 9 0),(6,.i x6),(8,.ints y1.1),(41,.i q.symbols),(42,.i Db)]) (Dq o0 q tree ln pos0 pos AF depth nd C.l) (some 68)
  ·obtain ⟨g2,h⟩:=Bu h;have p:=p.b 53 c1 |>.w 75 g2
   exact gg (AR 9 (AR 8 (AR 1 Mz))) [0,1,2,3,4,5,6,7,8,9,10] p (AK _ _ h m0 AD i hd)
 ·have p:=H0.b 43 c0;cases h;exact yF (ee (AR 9 (AR 8 (AR 1 Mz))) [5] [0,1,2,3,4,5,6,7,8,9,10] p)
theorem fR (C:Bb Tryz.prog) (hn:C.nv) (ρ0:List AI) (Aj:D4) (CF:IR Aj) (AO:List Int) (q:AA) (tree:List (Int×Int)) (ln:Nat) (pos0 pos:List Int) (AF depth:Int) (nd:Int×Int): ∀ (n:Nat) (pt:Ov) (r:YR Au Int (List Int)),G4 Aj AO q tree ln pos0 pos AF depth nd n pt=some r -> YS C ρ0 n AO q tree ln pos0 pos AF depth nd r pt
 | 0,_,_,h=>by cases h
 | n+1,.l1 x6 Db o0,r,h=>pS C hn ρ0 n Aj CF (G4 Aj AO q tree ln pos0 pos AF depth nd n) AO q tree ln pos0 pos AF depth nd (fR C hn ρ0 Aj CF AO q tree ln pos0 pos AF depth nd n) x6 Db o0 r h
def LA (n:Nat) (Aj:D4) (AO:List Int) (q:AA) (tree:List (Int×Int)) (ln:Nat) (pos0 pos:List Int) (AF depth:Int) (nd:Int×Int):Option (YR Au Int (List Int)):=K9 n Aj (G4 Aj AO q tree ln pos0 pos AF depth nd n) AO q tree ln pos0 pos AF depth nd
theorem pR {n:Nat} {Aj:D4} (CF:IR Aj):pT (LA n Aj):=fun AO q tree ln pos0 pos AF depth nd r h=>YC.ofY (L:=11) (h':=fun l o=>Dq o q tree ln pos0 pos AF depth nd l) Tryz.func83 (fun C i ρ0 hn hd=>by
 replace h:K9 n Aj (G4 Aj AO q tree ln pos0 pos AF depth nd n) AO q tree ln pos0 pos AF depth nd=some r:=h;have AK:=(fR C hn ρ0 Aj CF AO q tree ln pos0 pos AF depth nd n);unfold K9 at h
 generalize G4 Aj AO q tree ln pos0 pos AF depth nd n=self at h AK
 have p:=H0;refine gs (AR 9 (AR 8 (AR 1 Mz))) [0,1,2,3,4,5,6,7,8,9,10] p (CO (AY Tryz.f83) 1 []) (AG 77 [(0,.ref 10 0),(1,.ref 7 0),(2,.ref 8 0),(3,.ref 6 0),(4,.ref 9 0)]) (Dq AO q tree ln pos0 pos AF depth nd C.l) ?_;rcases Bt h with ⟨c0,h⟩ | ⟨c0,h⟩
 ·rcases Bt h with ⟨c1,h⟩ | ⟨c1,h⟩
  ·obtain ⟨y1,A5,h⟩:=FM h;rcases Bt h with ⟨c2,h⟩ | ⟨c2,h⟩
   ·obtain ⟨g0,h⟩:=Bu h;obtain ⟨y2,Bz,h⟩:=FM h;rcases Bt h with ⟨c3,h⟩ | ⟨c3,h⟩
    ·refine yO (ops:=Ag Tryz.f83 1) (by kernel_rfl) ?_;refine yT hn [0,1,2,3,4,5,6,7,8,9,10,11,12,13,14,15,16,17,18,19,20,21,22,23] [] 24 ((H0.b 12 c0 |>.b 18 c1 |>.c (fb (Nb A5) (Dq AO q tree ln pos0 pos AF depth nd C.l)) |>.b 23 c2 |>.g g0 |>.c (fb (fh Bz) (Dq AO q tree ln pos0 pos AF depth nd C.l)) |>.b 32 c3)) (AG 77 [(0,.ref 10 0),(1,.ref 7 0),(2,.ref 8 0),(3,.ref 6 0),(4,.ref 9 0)]) (Dq AO q tree ln pos0 pos AF depth nd C.l) (some 34) ?_ hd;refine y0 ?_;obtain ⟨g1,h⟩:=Bu h;have p:=H0.w 36 g1;exact gg (AR 9 (AR 8 (AR 1 Mz))) [0,1,2,3,4,5,6,7,8,9,10] p (en n (AK _ _ h n Nat.le.refl i hd))
    ·cases h;refine yO (ops:=Ag Tryz.f83 1) (by kernel_rfl) ?_;exact yP hn [0,1,2,3,4,5,6,7,8,9,10,11,12,13,14,15,16,17,18,19,20,21,22,23] [] 24 ((H0.b 12 c0 |>.b 18 c1 |>.c (fb (Nb A5) (Dq AO q tree ln pos0 pos AF depth nd C.l)) |>.b 23 c2 |>.g g0 |>.c (fb (fh Bz) (Dq AO q tree ln pos0 pos AF depth nd C.l)) |>.b 32 c3)) (AG 77 [(0,.ref 10 0),(1,.ref 7 0),(2,.ref 8 0),(3,.ref 6 0),(4,.ref 9 0)]) (Dq AO q tree ln pos0 pos AF depth nd C.l) (some 34)
   ·cases h;refine yO (ops:=Ag Tryz.f83 1) (by kernel_rfl) ?_;exact yP hn [0,1,2,3,4,5,6,7,8,9,10,11,12,13,14,15,16,17,18,19,20,21,22,23] [] 24 ((H0.b 12 c0 |>.b 18 c1 |>.c (fb (Nb A5) (Dq AO q tree ln pos0 pos AF depth nd C.l)) |>.b 23 c2)) (AG 77 [(0,.ref 10 0),(1,.ref 7 0),(2,.ref 8 0),(3,.ref 6 0),(4,.ref 9 0)]) (Dq AO q tree ln pos0 pos AF depth nd C.l) (some 34)
  ·cases h;refine yO (ops:=Ag Tryz.f83 1) (by kernel_rfl) ?_;exact yP hn [0,1,2,3,4,5,6,7,8,9,10,11,12,13,14,15,16,17,18,19,20,21,22,23] [] 24 ((H0.b 12 c0 |>.b 18 c1)) (AG 77 [(0,.ref 10 0),(1,.ref 7 0),(2,.ref 8 0),(3,.ref 6 0),(4,.ref 9 0)]) (Dq AO q tree ln pos0 pos AF depth nd C.l) (some 34)
 ·cases h;refine yO (ops:=Ag Tryz.f83 1) (by kernel_rfl) ?_;exact yP hn [0,1,2,3,4,5,6,7,8,9,10,11,12,13,14,15,16,17,18,19,20,21,22,23] [] 24 ((H0.b 12 c0)) (AG 77 [(0,.ref 10 0),(1,.ref 7 0),(2,.ref 8 0),(3,.ref 6 0),(4,.ref 9 0)]) (Dq AO q tree ln pos0 pos AF depth nd C.l) (some 34))
def mZ:Nat -> List DV:=fun _=>[.ref 10 0,.ref 7 0,.ref 6 0,.ref 9 0,.ref 8 0]
def Gn (AO:List Int) (q:AA) (tree:List (Int×Int)) (ln:Nat) (pos0 pos:List Int) (AF depth:Int) (nd:Int×Int):Nat -> DH:=fun l=>[some (.ints AO),some (.ro (AC q)),some (.ro [.sl 2 tree.length (AQ Aw tree)]),some (.ro [.msl 0 1 0 ln]),some (.ro [.ints pos0]),some (.ro (AC q++[.sl 2 tree.length (AQ Aw tree),.msl 0 1 0 ln,.yl l])),some (.ro [.ref 5 0]),some (.ro [.ints pos]),some (.ro [.i AF]),some (.ro [.i depth]),some (.ro [.i nd.1,.i nd.2])]
def ma (y:Int):DV:=.i y
abbrev zB4:=(List Int) -> AA -> (List (Int×Int)) -> Nat -> (List Int) -> (List Int) -> Int -> Int -> (Int×Int) -> Option (YR Au Int (List Int))
def zB3 (f:zB4):Prop:=∀ (AO:List Int) (q:AA) (tree:List (Int×Int)) (ln:Nat) (pos0 pos:List Int) (AF depth:Int) (nd:Int×Int) (r:YR Au Int (List Int)),f AO q tree ln pos0 pos AF depth nd=some r -> YC Tryz.prog GG DX 87 (mZ) (Gn AO q tree ln pos0 pos AF depth nd) (r.1.map Ja) (r.2.1.map ma) (Gn r.2.2 q tree ln pos0 pos AF depth nd)
def QC (n:Nat) (Aj:D4) (AO:List Int) (q:AA) (tree:List (Int×Int)) (ln:Nat) (pos0 pos:List Int) (AF depth:Int) (nd:Int×Int):Option (YR Au Int (List Int)):=
 bif (nd.2==0) then
  (JF n pos).bind fun y1=>
   bif y1 then
    if pos.length=(List.replicate pos.length (0:Int)).length/\ (((pos.length:Int):Int)=(pos.length:Int)/\ 0<=(pos.length:Int)/\ ((pos.length:Int):Int)<=1000000000000) then
     yx (List.replicate pos.length (0:Int),([]:List Int),depth) (
      if AL (AF+1) then
       some ([],some (AF+1),AO)
      else none)
    else none
   else
    some ([],none,AO)
 else
  some ([],none,AO)
def QD (n:Nat) (Aj:D4) (AO:List Int) (q:AA) (tree:List (Int×Int)) (ln:Nat) (pos0 pos:List Int) (AF depth:Int) (nd:Int×Int):Option (YR Au Int (List Int)):=QC n Aj AO q tree ln pos0 pos AF depth nd
theorem zB2 {n:Nat} {Aj:D4} (CF:IR Aj):zB3 (QD n Aj):=fun AO q tree ln pos0 pos AF depth nd r h=>YC.ofY (L:=11) (h':=fun l o=>Gn o q tree ln pos0 pos AF depth nd l) Tryz.func87 (fun C i ρ0 hn hd=>by
 replace h:QC n Aj AO q tree ln pos0 pos AF depth nd=some r:=h;unfold QC at h;have p:=H0;refine gs (AR 2 (AR 1 AE)) [0,1,2,3,4,5,6,7,8,9,10] p (CO (AY Tryz.f87) 1 []) (AG 26 [(0,.ref 10 0),(1,.ref 7 0),(2,.ref 6 0),(3,.ref 9 0),(4,.ref 8 0)]) (Gn AO q tree ln pos0 pos AF depth nd C.l) ?_;rcases Bt h with ⟨c0,h⟩ | ⟨c0,h⟩
 ·obtain ⟨y1,A5,h⟩:=FM h;rcases Bt h with ⟨c1,h⟩ | ⟨c1,h⟩
  ·refine yO (ops:=Ag Tryz.f87 1) (by kernel_rfl) ?_;refine yT hn [0,1,2,3,4,5,6] [] 7 ((H0.b 8 c0 |>.c (fb (Nb A5) (Gn AO q tree ln pos0 pos AF depth nd C.l)) |>.b 11 c1)) (AG 26 [(1,.ref 7 0),(2,.ref 6 0),(3,.ref 9 0),(4,.ref 8 0)]) (Gn AO q tree ln pos0 pos AF depth nd C.l) (some 13) ?_ hd;refine y0 ?_;have p:=H0;refine gs (AR 2 (AR 1 AE)) [0,1,2,3,4,5,6,7,8,9,10] p (CO (AY Tryz.f87) 2 []) (AG 26 [(1,.ref 7 0),(2,.ref 6 0),(3,.ref 9 0),(4,.ref 8 0)]) (Gn AO q tree ln pos0 pos AF depth nd C.l) ?_;obtain ⟨⟨g0,g1⟩,h⟩:=Bu h;refine yD (ops:=Ag Tryz.f87 2) [([0,1,2,3,4,5,7],6)] [8] [9] ((H0.g g1 |>.z 20 11 |>.g g0 |>.o 22 (AS.aggL (l:=[.ints (List.replicate pos.length (0:Int)),.nils,.i depth]) (l':=[.ints (List.replicate pos.length (0:Int)),.ints ([]:List Int),.i depth]) rfl ⟨At,AS.ints_nil,At,trivial⟩))) (AG 26 [(4,.ref 8 0),(17,.yl C.l),(22,.agg 3 (L1 [.ints (List.replicate pos.length (0:Int)),.ints ([]:List Int),.i depth]))]) (Gn AO q tree ln pos0 pos AF depth nd C.l++[none]) ?_;refine yY hn [] [] 9 H0 (AG 26 [(4,.ref 8 0)]) (Gn AO q tree ln pos0 pos AF depth nd C.l++[none]) (some 23) h hd fun r i h hd=>?_
   refine y0 ?_;obtain ⟨g2,h⟩:=Bu h;have p:=H0.w 25 g2;cases h;exact yF (ee (AR 2 (AR 1 AE)) [5] [0,1,2,3,4,5,6,7,8,9,10] p)
  ·cases h;refine yO (ops:=Ag Tryz.f87 1) (by kernel_rfl) ?_;exact yP hn [0,1,2,3,4,5,6] [] 7 ((H0.b 8 c0 |>.c (fb (Nb A5) (Gn AO q tree ln pos0 pos AF depth nd C.l)) |>.b 11 c1)) (AG 26 [(1,.ref 7 0),(2,.ref 6 0),(3,.ref 9 0),(4,.ref 8 0)]) (Gn AO q tree ln pos0 pos AF depth nd C.l) (some 13)
 ·cases h;refine yO (ops:=Ag Tryz.f87 1) (by kernel_rfl) ?_;exact yP hn [0,1,2,3,4,5,6] [] 7 ((H0.b 8 c0)) (AG 26 [(1,.ref 7 0),(2,.ref 6 0),(3,.ref 9 0),(4,.ref 8 0)]) (Gn AO q tree ln pos0 pos AF depth nd C.l) (some 13))
def mU:Nat -> List DV:=fun _=>[.ref 7 0,.ref 10 0,.ref 6 0,.ref 9 0,.ref 8 0]
def FL (AO:List Int) (q:AA) (tree:List (Int×Int)) (ln:Nat) (pos0 pos:List Int) (AF depth:Int) (nd:Int×Int):Nat -> DH:=fun l=>[some (.ints AO),some (.ro (AC q)),some (.ro [.sl 2 tree.length (AQ Aw tree)]),some (.ro [.msl 0 1 0 ln]),some (.ro [.ints pos0]),some (.ro (AC q++[.sl 2 tree.length (AQ Aw tree),.msl 0 1 0 ln,.yl l])),some (.ro [.ref 5 0]),some (.ro [.ints pos]),some (.ro [.i AF]),some (.ro [.i depth]),some (.ro [.i nd.1,.i nd.2])]
def mV (y:Int):DV:=.i y
abbrev zBm:=(List Int) -> AA -> (List (Int×Int)) -> Nat -> (List Int) -> (List Int) -> Int -> Int -> (Int×Int) -> Option (YR Au Int (List Int))
def zBl (f:zBm):Prop:=∀ (AO:List Int) (q:AA) (tree:List (Int×Int)) (ln:Nat) (pos0 pos:List Int) (AF depth:Int) (nd:Int×Int) (r:YR Au Int (List Int)),f AO q tree ln pos0 pos AF depth nd=some r -> YC Tryz.prog GG DX 88 (mU) (FL AO q tree ln pos0 pos AF depth nd) (r.1.map Ja) (r.2.1.map mV) (FL r.2.2 q tree ln pos0 pos AF depth nd)
def MI (n:Nat) (Aj:D4) (AO:List Int) (q:AA) (tree:List (Int×Int)) (ln:Nat) (pos0 pos:List Int) (AF depth:Int) (nd:Int×Int):Option (YR Au Int (List Int)):=
 (Un n pos).bind fun y1=>
  bif (nd.2==0) then
   bif y1.2 then
    (LD n q y1.1).bind fun y2=>
     bif (y2.2==0) then
      bif y2.1 then
       yx (pos,y1.1,depth) (
        if AL (AF+1) then
         some ([],some (AF+1),AO)
        else none)
      else
       some ([],none,AO)
     else
      some ([],none,AO)
   else
    some ([],none,AO)
  else
   some ([],none,AO)
def MJ (n:Nat) (Aj:D4) (AO:List Int) (q:AA) (tree:List (Int×Int)) (ln:Nat) (pos0 pos:List Int) (AF depth:Int) (nd:Int×Int):Option (YR Au Int (List Int)):=MI n Aj AO q tree ln pos0 pos AF depth nd
theorem zBk {n:Nat} {Aj:D4} (CF:IR Aj):zBl (MJ n Aj):=fun AO q tree ln pos0 pos AF depth nd r h=>YC.ofY (L:=11) (h':=fun l o=>FL o q tree ln pos0 pos AF depth nd l) Tryz.func88 (fun C i ρ0 hn hd=>by
 replace h:MI n Aj AO q tree ln pos0 pos AF depth nd=some r:=h;unfold MI at h;obtain ⟨y1,A5,h⟩:=FM h;have p:=H0.c (fb (pb A5) (FL AO q tree ln pos0 pos AF depth nd C.l));refine gs (AR 5 (AR 4 (AR 2 AE))) [0,1,2,3,4,5,6,7,8,9,10] p (CO (AY Tryz.f88) 2 []) (AG 48 [(0,.ref 7 0),(1,.ref 10 0),(2,.ref 6 0),(3,.ref 9 0),(4,.ref 8 0),(6,.ints y1.1),(7,.bool y1.2)]) (FL AO q tree ln pos0 pos AF depth nd C.l) ?_;rcases Bt h with ⟨c0,h⟩ | ⟨c0,h⟩
 ·rcases Bt h with ⟨c1,h⟩ | ⟨c1,h⟩
  ·rw [c1];refine yO (ops:=Ag Tryz.f88 2) (by kernel_rfl) ?_;refine yT hn [0,1,2,3,4,5] [] 6 ((H0.b 17 c0)) (AG 48 [(0,.ref 7 0),(2,.ref 6 0),(3,.ref 9 0),(4,.ref 8 0),(6,.ints y1.1)]) (FL AO q tree ln pos0 pos AF depth nd C.l) (some 21) ?_ hd;refine y0 ?_;obtain ⟨y2,Bz,h⟩:=FM h;have p:=H0.c (fb (pZ Bz) (FL AO q tree ln pos0 pos AF depth nd C.l));refine gs (AR 5 (AR 4 (AR 2 AE))) [0,1,2,3,4,5,6,7,8,9,10] p (CO (AY Tryz.f88) 4 []) (AG 48 [(0,.ref 7 0),(2,.ref 6 0),(3,.ref 9 0),(4,.ref 8 0),(6,.ints y1.1),(8,.bool y2.1),(9,.i y2.2)]) (FL AO q tree ln pos0 pos AF depth nd C.l) ?_;rcases Bt h with ⟨c0,h⟩ | ⟨c0,h⟩
   ·rcases Bt h with ⟨c1,h⟩ | ⟨c1,h⟩
    ·rw [c1];refine yO (ops:=Ag Tryz.f88 4) (by kernel_rfl) ?_;refine yT hn [0,1,2,3,4] [] 5 ((H0.b 32 c0)) (AG 48 [(0,.ref 7 0),(2,.ref 6 0),(3,.ref 9 0),(4,.ref 8 0),(6,.ints y1.1)]) (FL AO q tree ln pos0 pos AF depth nd C.l) (some 36) ?_ hd;refine y0 ?_;have p:=H0;refine gs (AR 5 (AR 4 (AR 2 AE))) [0,1,2,3,4,5,6,7,8,9,10] p (CO (AY Tryz.f88) 5 []) (AG 48 [(0,.ref 7 0),(2,.ref 6 0),(3,.ref 9 0),(4,.ref 8 0),(6,.ints y1.1)]) (FL AO q tree ln pos0 pos AF depth nd C.l) ?_;refine yD (ops:=Ag Tryz.f88 5) [] [0,1,2,3,4,5,6,7] [8] H0 (AG 48 [(4,.ref 8 0),(40,.yl C.l),(44,.agg 3 (L1 [.ints pos,.ints y1.1,.i depth]))]) (FL AO q tree ln pos0 pos AF depth nd C.l) ?_;refine yY hn [] [] 8 H0 (AG 48 [(4,.ref 8 0)]) (FL AO q tree ln pos0 pos AF depth nd C.l) (some 45) h hd fun r i h hd=>?_
     refine y0 ?_;obtain ⟨g0,h⟩:=Bu h;have p:=H0.w 47 g0;cases h;exact yF (ee (AR 5 (AR 4 (AR 2 AE))) [5] [0,1,2,3,4,5,6,7,8,9,10] p)
    ·rw [c1];cases h;refine yO (ops:=Ag Tryz.f88 4) (by kernel_rfl) ?_;exact yP hn [0,1,2,3,4] [] 5 ((H0.b 32 c0)) (AG 48 [(0,.ref 7 0),(2,.ref 6 0),(3,.ref 9 0),(4,.ref 8 0),(6,.ints y1.1)]) (FL AO q tree ln pos0 pos AF depth nd C.l) (some 36)
   ·cases h;refine yO (ops:=Ag Tryz.f88 4) (by kernel_rfl) ?_;exact yP hn [0,1,2,3,4] [] 5 ((H0.b 32 c0)) (AG 48 [(0,.ref 7 0),(2,.ref 6 0),(3,.ref 9 0),(4,.ref 8 0),(6,.ints y1.1)]) (FL AO q tree ln pos0 pos AF depth nd C.l) (some 36)
  ·rw [c1];cases h;refine yO (ops:=Ag Tryz.f88 2) (by kernel_rfl) ?_;exact yP hn [0,1,2,3,4,5] [] 6 ((H0.b 17 c0)) (AG 48 [(0,.ref 7 0),(2,.ref 6 0),(3,.ref 9 0),(4,.ref 8 0),(6,.ints y1.1)]) (FL AO q tree ln pos0 pos AF depth nd C.l) (some 21)
 ·cases h;refine yO (ops:=Ag Tryz.f88 2) (by kernel_rfl) ?_;exact yP hn [0,1,2,3,4,5] [] 6 ((H0.b 17 c0)) (AG 48 [(0,.ref 7 0),(2,.ref 6 0),(3,.ref 9 0),(4,.ref 8 0),(6,.ints y1.1)]) (FL AO q tree ln pos0 pos AF depth nd C.l) (some 21))
theorem qv:Ar (Ag Tryz.f58 2) [([0,1,2,3,4,5,6],7)] [] [8]:=by unfold Ar;kernel_rfl
theorem qu:Ar (Ag Tryz.f58 6) [] (List.range 8) []:=by unfold Ar;kernel_rfl
def LI:Bi:=fun i=>match i with
 | 2=>.ord [([0,1,2,3,4,5,6],7)] [] [8]
 | 6=>.ord [] (List.range 8) []
 | _=>.no
inductive PH where
 | l1 (o0:List Int)
def SD (n:Nat) (Aj:D4) (self:PH -> Option (YR Au Int (List Int))) (pos:List Int) (AF depth:Int) (AO:List Int) (q:AA) (tree:List (Int×Int)) (ln:Nat) (pos0:List Int) (o0:List Int):Option (YR Au Int (List Int)):=
 if (0<=AF/\ AF<(ln:Int))/\ 0+((AF).toNat)<o0.length then
  some ([],some (o0.getD (0+((AF).toNat)) 0),o0)
 else none
def FF (n:Nat) (Aj:D4) (self:PH -> Option (YR Au Int (List Int))) (pos:List Int) (AF depth:Int) (AO:List Int) (q:AA) (tree:List (Int×Int)) (ln:Nat) (pos0:List Int):Option (YR Au Int (List Int)):=
 bif (decide (AF<(tree.length:Int))) then
  if 0<=AF/\ AF<(tree.length:Int) then
   bif (decide (((tree.getD ((AF).toNat) default).1)>=1)) then
    bif (decide (((tree.getD ((AF).toNat) default).1)<=4)) then
     bif (((tree.getD ((AF).toNat) default).1)==0) then
      none
     else
      bif (((tree.getD ((AF).toNat) default).1)==1) then
       yb (ZI n Aj AO q tree ln pos0 pos AF depth (tree.getD ((AF).toNat) default)) fun y1 o1=>
        if (0<=AF/\ AF<(ln:Int))/\ 0+((AF).toNat)<o1.length then
         self (.l1 (o1.set (0+((AF).toNat)) y1))
        else none
      else
       bif (((tree.getD ((AF).toNat) default).1)==2) then
        yb (LA n Aj AO q tree ln pos0 pos AF depth (tree.getD ((AF).toNat) default)) fun y1 o1=>
         if (0<=AF/\ AF<(ln:Int))/\ 0+((AF).toNat)<o1.length then
          self (.l1 (o1.set (0+((AF).toNat)) y1))
         else none
       else
        bif (((tree.getD ((AF).toNat) default).1)==3) then
         yb (QD n Aj AO q tree ln pos0 pos AF depth (tree.getD ((AF).toNat) default)) fun y1 o1=>
          if (0<=AF/\ AF<(ln:Int))/\ 0+((AF).toNat)<o1.length then
           self (.l1 (o1.set (0+((AF).toNat)) y1))
          else none
        else
         bif (((tree.getD ((AF).toNat) default).1)==4) then
          yb (MJ n Aj AO q tree ln pos0 pos AF depth (tree.getD ((AF).toNat) default)) fun y1 o1=>
           if (0<=AF/\ AF<(ln:Int))/\ 0+((AF).toNat)<o1.length then
            self (.l1 (o1.set (0+((AF).toNat)) y1))
           else none
         else
          none
    else
     some ([],none,AO)
   else
    some ([],none,AO)
  else none
 else
  some ([],none,AO)
def Fo (Aj:D4) (pos:List Int) (AF depth:Int) (AO:List Int) (q:AA) (tree:List (Int×Int)) (ln:Nat) (pos0:List Int):Nat -> PH -> Option (YR Au Int (List Int))
 | 0,_=>none
 | n+1,.l1 o0=>SD n Aj (Fo Aj pos AF depth AO q tree ln pos0 n) pos AF depth AO q tree ln pos0 o0
def Zj (C:Bb Tryz.prog) (ρ0:List AI) (n:Nat) (pos:List Int) (AF depth:Int) (AO:List Int) (q:AA) (tree:List (Int×Int)) (ln:Nat) (pos0:List Int) (r:YR Au Int (List Int)):PH -> Prop
 | .l1 o0=>∀ i:Nat,DR C Ja i r -> TY C DX Tryz.f58 6 ρ0 SE (fun o=>Cy o q tree ln pos0 C.l) (CO (AY Tryz.f58) 6 []) i r ⟨AG 58 [(4,.ref 6 0),(6,.ref 7 0)],[some (.ints o0),some (.ro (AC q)),some (.ro [.sl 2 tree.length (AQ Aw tree)]),some (.ro [.msl 0 1 0 ln]),some (.ro [.ints pos0]),some (.ro (AC q++[.sl 2 tree.length (AQ Aw tree),.msl 0 1 0 ln,.yl C.l])),some (.ro [.ref 5 0]),some (.ro [.i AF])]⟩
theorem uq (C:Bb Tryz.prog) (hn:C.nv) (ρ0:List AI) (n:Nat) (Aj:D4) (CF:IR Aj) (self:PH -> Option (YR Au Int (List Int))) (pos:List Int) (AF depth:Int) (AO:List Int) (q:AA) (tree:List (Int×Int)) (ln:Nat) (pos0:List Int) (AK: ∀ pt r,self pt=some r -> Zj C ρ0 n pos AF depth AO q tree ln pos0 r pt) (o0:List Int) (r:YR Au Int (List Int)) (h:SD n Aj self pos AF depth AO q tree ln pos0 o0=some r):Zj C ρ0 (n+1) pos AF depth AO q tree ln pos0 r (.l1 o0):=by
 intro i hd;unfold SD at h;obtain ⟨⟨g0,g1⟩,h⟩:=Bu h;have p:=H0.g qu |>.g g0 |>.g g1
 cases h;exact yF (ee (AR 5 (AR 4 (AR 1 LI))) [8] [0,1,2,3,4,5] p)
theorem i5 (C:Bb Tryz.prog) (hn:C.nv) (ρ0:List AI) (Aj:D4) (CF:IR Aj) (pos:List Int) (AF depth:Int) (AO:List Int) (q:AA) (tree:List (Int×Int)) (ln:Nat) (pos0:List Int): ∀ (n:Nat) (pt:PH) (r:YR Au Int (List Int)),Fo Aj pos AF depth AO q tree ln pos0 n pt=some r -> Zj C ρ0 n pos AF depth AO q tree ln pos0 r pt
 | 0,_,_,h=>by cases h
 | n+1,.l1 o0,r,h=>uq C hn ρ0 n Aj CF (Fo Aj pos AF depth AO q tree ln pos0 n) pos AF depth AO q tree ln pos0 (i5 C hn ρ0 Aj CF pos AF depth AO q tree ln pos0 n) o0 r h
def B4:Nat -> (List Int) -> Int -> Int -> (List Int) -> AA -> (List (Int×Int)) -> Nat -> (List Int) -> Option (YR Au Int (List Int))
 | 0,_,_,_,_,_,_,_,_=>none
 | n+1,pos,AF,depth,AO,q,tree,ln,pos0=>FF n (B4 n) (Fo (B4 n) pos AF depth AO q tree ln pos0 n) pos AF depth AO q tree ln pos0
theorem uo {n:Nat} {Aj:D4} (CF:IR Aj):IR (fun pos AF depth AO q tree ln pos0=>FF n Aj (Fo Aj pos AF depth AO q tree ln pos0 n) pos AF depth AO q tree ln pos0):=fun pos AF depth AO q tree ln pos0 r h=>YC.ofY (L:=6) (h':=fun l o=>Cy o q tree ln pos0 l) Tryz.func58 (fun C i ρ0 hn hd=>by
 replace h:FF n Aj (Fo Aj pos AF depth AO q tree ln pos0 n) pos AF depth AO q tree ln pos0=some r:=h;have AK:=(i5 C hn ρ0 Aj CF pos AF depth AO q tree ln pos0 n);unfold FF at h
 generalize Fo Aj pos AF depth AO q tree ln pos0 n=self at h AK
 have p:=H0;refine gs (AR 6 (AR 5 (AR 4 (AR 1 LI)))) [0,1,2,3,4,5,6,7,8,9] p (CO (AY Tryz.f58) 1 []) (AG 58 [(4,.ref 6 0),(5,.ref 7 0),(6,.ref 8 0),(7,.ref 9 0)]) (Cy AO q tree ln pos0 C.l++[some (.cells [.ref 5 0]),some (.cells [.ints pos]),some (.cells [.i AF]),some (.cells [.i depth])]) ?_;rcases Bt h with ⟨c0,h⟩ | ⟨c0,h⟩
 ·refine yD (ops:=Ag Tryz.f58 1) [] [0,1,2,3,4,5,6] [7] ((H0.b 17 c0)) (AG 58 [(4,.ref 6 0),(5,.ref 7 0),(6,.ref 8 0),(7,.ref 9 0),(17,.bool true)]) (Cy AO q tree ln pos0 C.l++[some (.cells [.ref 5 0]),some (.cells [.ints pos]),some (.cells [.i AF]),some (.cells [.i depth])]) ?_;refine yT hn [] [] 7 H0 (AG 58 [(4,.ref 6 0),(5,.ref 7 0),(6,.ref 8 0),(7,.ref 9 0)]) (Cy AO q tree ln pos0 C.l++[some (.cells [.ref 5 0]),some (.cells [.ints pos]),some (.cells [.i AF]),some (.cells [.i depth])]) (some 18) ?_ hd;refine y0 ?_;obtain ⟨g0,h⟩:=Bu h;have p:=H0.g qv |>.g g0 |>.t |>.t
  refine gs (AR 6 (AR 5 (AR 4 (AR 1 LI)))) [0,1,2,3,4,5,6,7,8,9,10,11] p (CO (AY Tryz.f58) 4 []) (AG 58 [(4,.ref 6 0),(6,.ref 8 0),(9,.ref 10 0),(10,.ref 11 0)]) (Cy AO q tree ln pos0 C.l++[some (.cells [.ref 5 0]),some (.cells [.ints pos]),some (.cells [.i AF]),some (.cells [.i depth]),some (.cells [.i ((tree.getD ((AF).toNat) default).1),.i ((tree.getD ((AF).toNat) default).2)]),some (.cells [.cst .nilFunc,.fn 81 5 (L1 [.ref 6 0,.ref 10 0,.ref 7 0,.ref 8 0,.ref 9 0]),.fn 83 5 (L1 [.ref 10 0,.ref 7 0,.ref 8 0,.ref 6 0,.ref 9 0]),.fn 87 5 (L1 [.ref 10 0,.ref 7 0,.ref 6 0,.ref 9 0,.ref 8 0]),.fn 88 5 (L1 [.ref 7 0,.ref 10 0,.ref 6 0,.ref 9 0,.ref 8 0])])]) ?_;rcases Bt h with ⟨c0,h⟩ | ⟨c0,h⟩
  ·rcases Bt h with ⟨c1,h⟩ | ⟨c1,h⟩
   ·refine yO (ops:=Ag Tryz.f58 4) (by kernel_rfl) ?_;refine yT hn [0,1,2,3,4,5,6,7] [] 8 ((H0.b 33 c0 |>.b 37 c1)) (AG 58 [(4,.ref 6 0),(6,.ref 8 0),(9,.ref 10 0),(10,.ref 11 0)]) (Cy AO q tree ln pos0 C.l++[some (.cells [.ref 5 0]),some (.cells [.ints pos]),some (.cells [.i AF]),some (.cells [.i depth]),some (.cells [.i ((tree.getD ((AF).toNat) default).1),.i ((tree.getD ((AF).toNat) default).2)]),some (.cells [.cst .nilFunc,.fn 81 5 (L1 [.ref 6 0,.ref 10 0,.ref 7 0,.ref 8 0,.ref 9 0]),.fn 83 5 (L1 [.ref 10 0,.ref 7 0,.ref 8 0,.ref 6 0,.ref 9 0]),.fn 87 5 (L1 [.ref 10 0,.ref 7 0,.ref 6 0,.ref 9 0,.ref 8 0]),.fn 88 5 (L1 [.ref 7 0,.ref 10 0,.ref 6 0,.ref 9 0,.ref 8 0])])]) (some 39) ?_ hd;refine y0 ?_;have p:=H0;refine gs (AR 6 (AR 5 (AR 4 (AR 1 LI)))) [0,1,2,3,4,5,6,7,8,9,10,11] p (CO (AY Tryz.f58) 5 []) (AG 58 [(4,.ref 6 0),(6,.ref 8 0),(9,.ref 10 0),(10,.ref 11 0)]) (Cy AO q tree ln pos0 C.l++[some (.cells [.ref 5 0]),some (.cells [.ints pos]),some (.cells [.i AF]),some (.cells [.i depth]),some (.cells [.i ((tree.getD ((AF).toNat) default).1),.i ((tree.getD ((AF).toNat) default).2)]),some (.cells [.cst .nilFunc,.fn 81 5 (L1 [.ref 6 0,.ref 10 0,.ref 7 0,.ref 8 0,.ref 9 0]),.fn 83 5 (L1 [.ref 10 0,.ref 7 0,.ref 8 0,.ref 6 0,.ref 9 0]),.fn 87 5 (L1 [.ref 10 0,.ref 7 0,.ref 6 0,.ref 9 0,.ref 8 0]),.fn 88 5 (L1 [.ref 7 0,.ref 10 0,.ref 6 0,.ref 9 0,.ref 8 0])])]) ?_;refine dO [6,7,8,9,10,11] (Cy AO q tree ln pos0 C.l++[some (.ro [.ref 5 0]),some (.ro [.ints pos]),some (.ro [.i AF]),some (.ro [.i depth]),some (.ro [.i ((tree.getD ((AF).toNat) default).1),.i ((tree.getD ((AF).toNat) default).2)]),some (.ro [.cst .nilFunc,.fn 81 5 (L1 [.ref 6 0,.ref 10 0,.ref 7 0,.ref 8 0,.ref 9 0]),.fn 83 5 (L1 [.ref 10 0,.ref 7 0,.ref 8 0,.ref 6 0,.ref 9 0]),.fn 87 5 (L1 [.ref 10 0,.ref 7 0,.ref 6 0,.ref 9 0,.ref 8 0]),.fn 88 5 (L1 [.ref 7 0,.ref 10 0,.ref 6 0,.ref 9 0,.ref 8 0])])]) ?_;rcases Bt h with ⟨c0,h⟩ | ⟨c0,h⟩
    ·cases h
    ·rcases Bt h with ⟨c2,h⟩ | ⟨c2,h⟩
     ·refine yR (ops:=Ag Tryz.f58 5) (ds:=iE) (hc:=Hg AO q tree ln pos0 pos AF depth (tree.getD ((AF).toNat) default)) (h':=fun l o=>Hg o q tree ln pos0 pos AF depth (tree.getD ((AF).toNat) default) l) (tD':=iF) hn [0,1,2,3,4,5,6,7,8] [10,11] [0] 9 ((H0.o 46 (AS.int (k:=.i64) (eq_of_beq c2)) |>.g (by decide:(0:Int)<=1/\ 1<((5:Nat):Int)))) (AG 58 [(4,.ref 6 0),(6,.ref 8 0),(43,.msl 0 1 0 ln),(44,.i AF)]) (Cy AO q tree ln pos0 C.l++[some (.ro [.ref 5 0]),some (.ro [.ints pos]),some (.ro [.i AF]),some (.ro [.i depth]),some (.ro [.i ((tree.getD ((AF).toNat) default).1),.i ((tree.getD ((AF).toNat) default).2)]),some (.ro [.cst .nilFunc,.fn 81 5 (L1 [.ref 6 0,.ref 10 0,.ref 7 0,.ref 8 0,.ref 9 0]),.fn 83 5 (L1 [.ref 10 0,.ref 7 0,.ref 8 0,.ref 6 0,.ref 9 0]),.fn 87 5 (L1 [.ref 10 0,.ref 7 0,.ref 6 0,.ref 9 0,.ref 8 0]),.fn 88 5 (L1 [.ref 7 0,.ref 10 0,.ref 6 0,.ref 9 0,.ref 8 0])])]) (some 49) h hd (fun a ha=>tc CF _ _ _ _ _ _ _ _ _ a ha) (fun y1 o1 r i h hd=>?_);obtain ⟨⟨g1,g2⟩,h⟩:=Bu h;refine yE ((H0.g g1 |>.g g2)) (AG 58 [(4,.ref 6 0),(6,.ref 8 0)]) (Cy (o1.set (0+((AF).toNat)) y1) q tree ln pos0 C.l++[some (.ro [.ref 5 0]),some (.ro [.ints pos]),some (.ro [.i AF]),some (.ro [.i depth]),some (.ro [.i ((tree.getD ((AF).toNat) default).1),.i ((tree.getD ((AF).toNat) default).2)]),some (.ro [.cst .nilFunc,.fn 81 5 (L1 [.ref 6 0,.ref 10 0,.ref 7 0,.ref 8 0,.ref 9 0]),.fn 83 5 (L1 [.ref 10 0,.ref 7 0,.ref 8 0,.ref 6 0,.ref 9 0]),.fn 87 5 (L1 [.ref 10 0,.ref 7 0,.ref 6 0,.ref 9 0,.ref 8 0]),.fn 88 5 (L1 [.ref 7 0,.ref 10 0,.ref 6 0,.ref 9 0,.ref 8 0])])]) ?_;have p:=H0;exact gg (AR 6 (AR 5 (AR 4 (AR 1 LI)))) [0,1,2,3,4,5,6,8] p (AK _ _ h i hd)
     ·rcases Bt h with ⟨c4,h⟩ | ⟨c4,h⟩
      ·refine yR (ops:=Ag Tryz.f58 5) (ds:=fQ) (hc:=Dq AO q tree ln pos0 pos AF depth (tree.getD ((AF).toNat) default)) (h':=fun l o=>Dq o q tree ln pos0 pos AF depth (tree.getD ((AF).toNat) default) l) (tD':=YT) hn [0,1,2,3,4,5,6,7,8] [10,11] [0] 9 ((H0.o 46 (AS.int (k:=.i64) (eq_of_beq c4)) |>.g (by decide:(0:Int)<=2/\ 2<((5:Nat):Int)))) (AG 58 [(4,.ref 6 0),(6,.ref 8 0),(43,.msl 0 1 0 ln),(44,.i AF)]) (Cy AO q tree ln pos0 C.l++[some (.ro [.ref 5 0]),some (.ro [.ints pos]),some (.ro [.i AF]),some (.ro [.i depth]),some (.ro [.i ((tree.getD ((AF).toNat) default).1),.i ((tree.getD ((AF).toNat) default).2)]),some (.ro [.cst .nilFunc,.fn 81 5 (L1 [.ref 6 0,.ref 10 0,.ref 7 0,.ref 8 0,.ref 9 0]),.fn 83 5 (L1 [.ref 10 0,.ref 7 0,.ref 8 0,.ref 6 0,.ref 9 0]),.fn 87 5 (L1 [.ref 10 0,.ref 7 0,.ref 6 0,.ref 9 0,.ref 8 0]),.fn 88 5 (L1 [.ref 7 0,.ref 10 0,.ref 6 0,.ref 9 0,.ref 8 0])])]) (some 49) h hd (fun a ha=>pR CF _ _ _ _ _ _ _ _ _ a ha) (fun y1 o1 r i h hd=>?_);obtain ⟨⟨g1,g2⟩,h⟩:=Bu h;refine yE ((H0.g g1 |>.g g2)) (AG 58 [(4,.ref 6 0),(6,.ref 8 0)]) (Cy (o1.set (0+((AF).toNat)) y1) q tree ln pos0 C.l++[some (.ro [.ref 5 0]),some (.ro [.ints pos]),some (.ro [.i AF]),some (.ro [.i depth]),some (.ro [.i ((tree.getD ((AF).toNat) default).1),.i ((tree.getD ((AF).toNat) default).2)]),some (.ro [.cst .nilFunc,.fn 81 5 (L1 [.ref 6 0,.ref 10 0,.ref 7 0,.ref 8 0,.ref 9 0]),.fn 83 5 (L1 [.ref 10 0,.ref 7 0,.ref 8 0,.ref 6 0,.ref 9 0]),.fn 87 5 (L1 [.ref 10 0,.ref 7 0,.ref 6 0,.ref 9 0,.ref 8 0]),.fn 88 5 (L1 [.ref 7 0,.ref 10 0,.ref 6 0,.ref 9 0,.ref 8 0])])]) ?_;have p:=H0;exact gg (AR 6 (AR 5 (AR 4 (AR 1 LI)))) [0,1,2,3,4,5,6,8] p (AK _ _ h i hd)
      ·rcases Bt h with ⟨c6,h⟩ | ⟨c6,h⟩
       ·refine yR (ops:=Ag Tryz.f58 5) (ds:=mZ) (hc:=Gn AO q tree ln pos0 pos AF depth (tree.getD ((AF).toNat) default)) (h':=fun l o=>Gn o q tree ln pos0 pos AF depth (tree.getD ((AF).toNat) default) l) (tD':=ma) hn [0,1,2,3,4,5,6,7,8] [10,11] [0] 9 ((H0.o 46 (AS.int (k:=.i64) (eq_of_beq c6)) |>.g (by decide:(0:Int)<=3/\ 3<((5:Nat):Int)))) (AG 58 [(4,.ref 6 0),(6,.ref 8 0),(43,.msl 0 1 0 ln),(44,.i AF)]) (Cy AO q tree ln pos0 C.l++[some (.ro [.ref 5 0]),some (.ro [.ints pos]),some (.ro [.i AF]),some (.ro [.i depth]),some (.ro [.i ((tree.getD ((AF).toNat) default).1),.i ((tree.getD ((AF).toNat) default).2)]),some (.ro [.cst .nilFunc,.fn 81 5 (L1 [.ref 6 0,.ref 10 0,.ref 7 0,.ref 8 0,.ref 9 0]),.fn 83 5 (L1 [.ref 10 0,.ref 7 0,.ref 8 0,.ref 6 0,.ref 9 0]),.fn 87 5 (L1 [.ref 10 0,.ref 7 0,.ref 6 0,.ref 9 0,.ref 8 0]),.fn 88 5 (L1 [.ref 7 0,.ref 10 0,.ref 6 0,.ref 9 0,.ref 8 0])])]) (some 49) h hd (fun a ha=>zB2 CF _ _ _ _ _ _ _ _ _ a ha) (fun y1 o1 r i h hd=>?_);obtain ⟨⟨g1,g2⟩,h⟩:=Bu h;refine yE ((H0.g g1 |>.g g2)) (AG 58 [(4,.ref 6 0),(6,.ref 8 0)]) (Cy (o1.set (0+((AF).toNat)) y1) q tree ln pos0 C.l++[some (.ro [.ref 5 0]),some (.ro [.ints pos]),some (.ro [.i AF]),some (.ro [.i depth]),some (.ro [.i ((tree.getD ((AF).toNat) default).1),.i ((tree.getD ((AF).toNat) default).2)]),some (.ro [.cst .nilFunc,.fn 81 5 (L1 [.ref 6 0,.ref 10 0,.ref 7 0,.ref 8 0,.ref 9 0]),.fn 83 5 (L1 [.ref 10 0,.ref 7 0,.ref 8 0,.ref 6 0,.ref 9 0]),.fn 87 5 (L1 [.ref 10 0,.ref 7 0,.ref 6 0,.ref 9 0,.ref 8 0]),.fn 88 5 (L1 [.ref 7 0,.ref 10 0,.ref 6 0,.ref 9 0,.ref 8 0])])]) ?_;have p:=H0;exact gg (AR 6 (AR 5 (AR 4 (AR 1 LI)))) [0,1,2,3,4,5,6,8] p (AK _ _ h i hd)
       ·rcases Bt h with ⟨c8,h⟩ | ⟨c8,h⟩
        ·refine yR (ops:=Ag Tryz.f58 5) (ds:=mU) (hc:=FL AO q tree ln pos0 pos AF depth (tree.getD ((AF).toNat) default)) (h':=fun l o=>FL o q tree ln pos0 pos AF depth (tree.getD ((AF).toNat) default) l) (tD':=mV) hn [0,1,2,3,4,5,6,7,8] [10,11] [0] 9 ((H0.o 46 (AS.int (k:=.i64) (eq_of_beq c8)) |>.g (by decide:(0:Int)<=4/\ 4<((5:Nat):Int)))) (AG 58 [(4,.ref 6 0),(6,.ref 8 0),(43,.msl 0 1 0 ln),(44,.i AF)]) (Cy AO q tree ln pos0 C.l++[some (.ro [.ref 5 0]),some (.ro [.ints pos]),some (.ro [.i AF]),some (.ro [.i depth]),some (.ro [.i ((tree.getD ((AF).toNat) default).1),.i ((tree.getD ((AF).toNat) default).2)]),some (.ro [.cst .nilFunc,.fn 81 5 (L1 [.ref 6 0,.ref 10 0,.ref 7 0,.ref 8 0,.ref 9 0]),.fn 83 5 (L1 [.ref 10 0,.ref 7 0,.ref 8 0,.ref 6 0,.ref 9 0]),.fn 87 5 (L1 [.ref 10 0,.ref 7 0,.ref 6 0,.ref 9 0,.ref 8 0]),.fn 88 5 (L1 [.ref 7 0,.ref 10 0,.ref 6 0,.ref 9 0,.ref 8 0])])]) (some 49) h hd (fun a ha=>zBk CF _ _ _ _ _ _ _ _ _ a ha) (fun y1 o1 r i h hd=>?_);obtain ⟨⟨g1,g2⟩,h⟩:=Bu h;refine yE ((H0.g g1 |>.g g2)) (AG 58 [(4,.ref 6 0),(6,.ref 8 0)]) (Cy (o1.set (0+((AF).toNat)) y1) q tree ln pos0 C.l++[some (.ro [.ref 5 0]),some (.ro [.ints pos]),some (.ro [.i AF]),some (.ro [.i depth]),some (.ro [.i ((tree.getD ((AF).toNat) default).1),.i ((tree.getD ((AF).toNat) default).2)]),some (.ro [.cst .nilFunc,.fn 81 5 (L1 [.ref 6 0,.ref 10 0,.ref 7 0,.ref 8 0,.ref 9 0]),.fn 83 5 (L1 [.ref 10 0,.ref 7 0,.ref 8 0,.ref 6 0,.ref 9 0]),.fn 87 5 (L1 [.ref 10 0,.ref 7 0,.ref 6 0,.ref 9 0,.ref 8 0]),.fn 88 5 (L1 [.ref 7 0,.ref 10 0,.ref 6 0,.ref 9 0,.ref 8 0])])]) ?_;have p:=H0;exact gg (AR 6 (AR 5 (AR 4 (AR 1 LI)))) [0,1,2,3,4,5,6,8] p (AK _ _ h i hd)
        ·cases h
   ·cases h;refine yO (ops:=Ag Tryz.f58 4) (by kernel_rfl) ?_;exact yP hn [0,1,2,3,4,5,6,7] [] 8 ((H0.b 33 c0 |>.b 37 c1)) (AG 58 [(4,.ref 6 0),(6,.ref 8 0),(9,.ref 10 0),(10,.ref 11 0)]) (Cy AO q tree ln pos0 C.l++[some (.cells [.ref 5 0]),some (.cells [.ints pos]),some (.cells [.i AF]),some (.cells [.i depth]),some (.cells [.i ((tree.getD ((AF).toNat) default).1),.i ((tree.getD ((AF).toNat) default).2)]),some (.cells [.cst .nilFunc,.fn 81 5 (L1 [.ref 6 0,.ref 10 0,.ref 7 0,.ref 8 0,.ref 9 0]),.fn 83 5 (L1 [.ref 10 0,.ref 7 0,.ref 8 0,.ref 6 0,.ref 9 0]),.fn 87 5 (L1 [.ref 10 0,.ref 7 0,.ref 6 0,.ref 9 0,.ref 8 0]),.fn 88 5 (L1 [.ref 7 0,.ref 10 0,.ref 6 0,.ref 9 0,.ref 8 0])])]) (some 39)
  ·cases h;refine yO (ops:=Ag Tryz.f58 4) (by kernel_rfl) ?_;exact yP hn [0,1,2,3,4,5,6,7] [] 8 ((H0.b 33 c0)) (AG 58 [(4,.ref 6 0),(6,.ref 8 0),(9,.ref 10 0),(10,.ref 11 0)]) (Cy AO q tree ln pos0 C.l++[some (.cells [.ref 5 0]),some (.cells [.ints pos]),some (.cells [.i AF]),some (.cells [.i depth]),some (.cells [.i ((tree.getD ((AF).toNat) default).1),.i ((tree.getD ((AF).toNat) default).2)]),some (.cells [.cst .nilFunc,.fn 81 5 (L1 [.ref 6 0,.ref 10 0,.ref 7 0,.ref 8 0,.ref 9 0]),.fn 83 5 (L1 [.ref 10 0,.ref 7 0,.ref 8 0,.ref 6 0,.ref 9 0]),.fn 87 5 (L1 [.ref 10 0,.ref 7 0,.ref 6 0,.ref 9 0,.ref 8 0]),.fn 88 5 (L1 [.ref 7 0,.ref 10 0,.ref 6 0,.ref 9 0,.ref 8 0])])]) (some 39)
 ·refine yD (ops:=Ag Tryz.f58 1) [] [0,1,2,3,4,5,6] [7] ((H0.b 17 c0)) (AG 58 [(4,.ref 6 0),(5,.ref 7 0),(6,.ref 8 0),(7,.ref 9 0),(17,.bool false)]) (Cy AO q tree ln pos0 C.l++[some (.cells [.ref 5 0]),some (.cells [.ints pos]),some (.cells [.i AF]),some (.cells [.i depth])]) ?_;cases h;exact yP hn [] [] 7 H0 (AG 58 [(4,.ref 6 0),(5,.ref 7 0),(6,.ref 8 0),(7,.ref 9 0)]) (Cy AO q tree ln pos0 C.l++[some (.cells [.ref 5 0]),some (.cells [.ints pos]),some (.cells [.i AF]),some (.cells [.i depth])]) (some 18))
theorem i4: ∀ n,IR (B4 n)
 | 0=>fun _ _ _ _ _ _ _ _ r h=>by cases h
 | n+1=>uo (i4 n)
def vb:Nat -> List DV:=fun l=>[.yl l,.ref 1 0,.ref 2 0,.ref 3 0,.ref 4 0]
def Bo (AO:List Int) (q:AA) (tree:List (Int×Int)) (ln:Nat) (pos0:List Int):Nat -> DH:=fun l=>[some (.ints AO),some (.ro (AC q)),some (.ro [.sl 2 tree.length (AQ Aw tree)]),some (.ro [.msl 0 1 0 ln]),some (.ro [.ints pos0])]
def jR (_:Unit):DV:=Mk
abbrev ve:=(List Int) -> AA -> (List (Int×Int)) -> Nat -> (List Int) -> Option (YR Au Unit (List Int))
def vd (f:ve):Prop:=∀ (AO:List Int) (q:AA) (tree:List (Int×Int)) (ln:Nat) (pos0:List Int) (r:YR Au Unit (List Int)),f AO q tree ln pos0=some r -> YC Tryz.prog GG DX 56 (vb) (Bo AO q tree ln pos0) (r.1.map Ja) (r.2.1.map jR) (Bo r.2.2 q tree ln pos0)
def PN (n:Nat) (AO:List Int) (q:AA) (tree:List (Int×Int)) (ln:Nat) (pos0:List Int):Option (YR Au Unit (List Int)):=
 yb (B4 n pos0 0 0 AO q tree ln pos0) fun y1 o1=>
  bif (y1==(tree.length:Int)) then
   some ([],some (),o1)
  else
   some ([],none,o1)
def Lf (n:Nat) (AO:List Int) (q:AA) (tree:List (Int×Int)) (ln:Nat) (pos0:List Int):Option (YR Au Unit (List Int)):=PN n AO q tree ln pos0
theorem va {n:Nat}:vd (Lf n):=fun AO q tree ln pos0 r h=>YC.ofY (L:=5) (h':=fun l o=>Bo o q tree ln pos0 l) Tryz.func56 (fun C i ρ0 hn hd=>by
 replace h:PN n AO q tree ln pos0=some r:=h;unfold PN at h;have p:=H0;refine gs (AR 1 AE) [0,1,2,3,4,5] p (CO (AY Tryz.f56) 1 []) (AG 20 [(2,.ref 2 0),(4,.ref 4 0),(6,.ref 5 0)]) (Bo AO q tree ln pos0 C.l++[some (.cells (AC q++[.sl 2 tree.length (AQ Aw tree),.msl 0 1 0 ln,.yl C.l]))]) ?_;refine dO [5] (Bo AO q tree ln pos0 C.l++[some (.ro (AC q++[.sl 2 tree.length (AQ Aw tree),.msl 0 1 0 ln,.yl C.l]))]) ?_;refine yR (ops:=Ag Tryz.f56 1) (ds:=Vo pos0 0 0) (hc:=Cy AO q tree ln pos0) (h':=fun l o=>Cy o q tree ln pos0 l) (tD':=SE) hn [0,1,3,4] [5,6] [0] 2 H0 (AG 20 [(17,.i (tree.length:Int))]) (Bo AO q tree ln pos0 C.l++[some (.ro (AC q++[.sl 2 tree.length (AQ Aw tree),.msl 0 1 0 ln,.yl C.l]))]) (some 15) h hd (fun a ha=>i4 n _ _ _ _ _ _ _ _ a ha) (fun y1 o1 r i h hd=>?_);rcases Bt h with ⟨c0,h⟩ | ⟨c0,h⟩
 ·refine yT hn [5] [] 6 ((H0.b 18 c0)) (AG 20 []) (Bo o1 q tree ln pos0 C.l++[some (.ro (AC q++[.sl 2 tree.length (AQ Aw tree),.msl 0 1 0 ln,.yl C.l]))]) (some 19) ?_ hd;refine y0 ?_;have p:=H0;cases h;exact yF (ee (AR 1 AE) [] [0,1,2,3,4] p)
 ·cases h;exact yP hn [5] [] 6 ((H0.b 18 c0)) (AG 20 []) (Bo o1 q tree ln pos0 C.l++[some (.ro (AC q++[.sl 2 tree.length (AQ Aw tree),.msl 0 1 0 ln,.yl C.l]))]) (some 19))
end Go.Proofs.YtkjbblkieglmlaaGreatDoor
namespace Go.Proofs.YtkjbblkieglmlaaGreatDoor
open Go.RowKit
set_option maxRecDepth 100000
set_option maxHeartbeats 40000000
def vj (n:Nat) (q:AA) (pos:List Int) (tree:List (Int×Int)) (ln:Nat) (AO:List Int):Option Unit:=
 some ()
def jS (n:Nat) (q:AA) (pos:List Int) (tree:List (Int×Int)) (ln:Nat) (AO:List Int):Option Unit:=vj n q pos tree ln AO
theorem vi {n:Nat} (q:AA) (pos:List Int) (tree:List (Int×Int)) (ln:Nat) (AO:List Int) {r:Unit} (h:jS n q pos tree ln AO=some r):EQ 37 [.agg 5 (L1 (AC q)),.ints pos,.sl 2 tree.length (AQ Aw tree),.msl 0 1 0 ln] [some (.ints AO)] (.fn 56 4 (L1 [.ref 1 0,.ref 2 0,.ref 3 0,.ref 4 0])) [some (.ints AO),some (.cells (AC q)),some (.cells [.sl 2 tree.length (AQ Aw tree)]),some (.cells [.msl 0 1 0 ln]),some (.cells [.ints pos])] false:=by
 refine ot Tryz.func37 fun B N=>?_
 revert r;apply gO;exact lE AE [8] [0,1,3,4,2]
def e9:ST:=.rd 0 (.ef 1 (.ef 2 (.ef 3 (.fin [] [6,7,8]) (.no)) (.no)) (.no))
theorem rI:Bq (Ag Tryz.f26 3) [1,2] e9:=by unfold Bq;kernel_rfl
def p7:Bi:=fun i=>match i with
 | 3=>.tre [1,2] e9
 | _=>.no
def eF (q:AA) (y1:Int):St:=⟨(AG 33 [(6,.ref 1 0),(7,.ref 2 0),(8,.ref 3 0)]),([some (.cells (AC q)),some (.cells [.nils]),some (.cells [.nils]),some (.cells [.i y1])]:DH)⟩
def bo (n:Nat) (q:AA) (pos:List Int) (tree:List (Int×Int)):Option ((List ((List Int)×(List Int)×Int))×(List Int)×Int):=
 (Iq n q pos tree).bind fun y1=>
  bif (y1 != 0) then
   some (([]:List ((List Int)×(List Int)×Int)),([]:List Int),y1)
  else
   none
def bp (n:Nat) (q:AA) (pos:List Int) (tree:List (Int×Int)):Option ((List ((List Int)×(List Int)×Int))×(List Int)×Int):=bo n q pos tree
theorem zA7 {n:Nat} {q:AA} {pos:List Int} {tree:List (Int×Int)} {r:(List ((List Int)×(List Int)×Int))×(List Int)×Int} (h:bp n q pos tree=some r):EQ 26 [.agg 5 (L1 (AC q)),.ints pos,.sl 2 tree.length (AQ Aw tree)] [] (.tup 3 (L1 [.sl 3 r.1.length (AQ (fun (x:(List Int)×(List Int)×Int)=>[.ints x.1,.ints x.2.1,.i x.2.2]) r.1),.ints r.2.1,.i r.2.2])) [] true:=by
 unfold bp bo at h;refine ot Tryz.func26 fun B N=>?_
 revert r;apply gO;exact cf dh [some (.cells (AC q)),some (.cells [.nils]),some (.cells [.nils]),some (.cells [.i 0])] fun y1=>jt (bi 15 (jg rI (jt (jt (jt (jg (Eq.refl (eF q y1)) (lF fun p=>el (tg:=[([(1,1),(2,2)],(eF q y1))]) p7 [6,7,8] [1,2,3] p [] H0 [.nils,.nils,.i y1] (AS.tupL (l:=[.nils,.nils,.i y1]) (l':=[.sl 3 (([]:List ((List Int)×(List Int)×Int)).length) (AQ (fun (x:(List Int)×(List Int)×Int)=>[.ints x.1,.ints x.2.1,.i x.2.2]) ([]:List ((List Int)×(List Int)×Int))),.ints ([]:List Int),.i y1]) rfl ⟨(AS.sl_nil _ _),AS.ints_nil,At,trivial⟩))))))) nO)
def zV (ln:Nat) (BE:Au):DH:=[none,none,none,none,none,some (.cells [.nils]),some (.cells [.msl 0 1 0 ln]),some (.cells [.i 0]),some (.cells [.ints BE.1,.ints BE.2.1,.i BE.2.2])]
def zU (I1 ln:Nat) (Fl:List ((List Int)×(List Int)×Int)) (BE:Au):DH:=[none,none,none,none,none,some (.cells [.msl 8 3 0 I1]),some (.cells [.msl 0 1 0 ln]),some (.cells [.i 0]),some (.arr 3 Fl.length (AQ (fun (x:(List Int)×(List Int)×Int)=>[.ints x.1,.ints x.2.1,.i x.2.2]) Fl)),some (.cells [.ints BE.1,.ints BE.2.1,.i BE.2.2])]
inductive JZ where
 | s0
 | s1 (I1:Nat) (Fl:List ((List Int)×(List Int)×Int))
def Pz (ln:Nat):JZ -> DH
 | .s0=>[none,none,none,none,none,some (.cells [.nils]),some (.cells [.msl 0 1 0 ln]),some (.cells [.i 0])]
 | .s1 I1 Fl=>[none,none,none,none,none,some (.cells [.msl 8 3 0 I1]),some (.cells [.msl 0 1 0 ln]),some (.cells [.i 0]),some (.arr 3 Fl.length (AQ (fun (x:(List Int)×(List Int)×Int)=>[.ints x.1,.ints x.2.1,.i x.2.2]) Fl))]
def zBA (n:Nat) (ln:Nat) (BE:Au):Option JZ:=
 some (.s1 (([(BE.1,BE.2.1,BE.2.2)]:List ((List Int)×(List Int)×Int)).length) ([(BE.1,BE.2.1,BE.2.2)]:List ((List Int)×(List Int)×Int)))
def bq (n:Nat) (ln:Nat) (BE:Au) (I1:Nat) (Fl:List ((List Int)×(List Int)×Int)):Option JZ:=
 if I1=Fl.length/\ Fl.length+([(BE.1,BE.2.1,BE.2.2)]:List ((List Int)×(List Int)×Int)).length<=BB then
  some (.s1 (Fl.length+([(BE.1,BE.2.1,BE.2.2)]:List ((List Int)×(List Int)×Int)).length) (Fl++([(BE.1,BE.2.1,BE.2.2)]:List ((List Int)×(List Int)×Int))))
 else none
def zA9 (n:Nat) (ln:Nat) (BE:Au):JZ -> Option JZ
 | .s0=>zBA n ln BE
 | .s1 I1 Fl=>bq n ln BE I1 Fl
def P0 (n:Nat) (ln:Nat) (BE:Au) (s:JZ):Option JZ:=zA9 n ln BE s
theorem zA8 (n:Nat) (ln:Nat) (l B:Nat) (N:Yd 8) (BE:Au) (s:JZ) (r:JZ) (h:P0 n ln BE s=some r):TA l B N (Cb 8 [] 0 (Pz ln r)) Tryz.f26 25 ⟨AG 33 [(6,.ref 5 0),(7,.ref 6 0),(8,.ref 7 0),(25,.fn 56 4 (L1 [.ref 1 0,.ref 2 0,.ref 3 0,.ref 4 0])),(26,.agg 3 (L1 [.ints BE.1,.ints BE.2.1,.i BE.2.2]))],Pz ln s⟩:=by
 cases s with
 | s0=>
  refine ag AE [0,1,2,3,4,5,6,7,8] (H0.t) (AG 33 [(6,.ref 5 0),(7,.ref 6 0),(8,.ref 7 0),(9,.ref 8 0)]) (zV ln BE) fun N=>?_
  revert r;apply gO;exact ja 29 9 3 (ER (c:=(fun (x:(List Int)×(List Int)×Int)=>[.ints x.1,.ints x.2.1,.i x.2.2])) (L:=([(BE.1,BE.2.1,BE.2.2)]:List ((List Int)×(List Int)×Int))) (vals:=[.agg 3 (L1 [.ints BE.1,.ints BE.2.1,.i BE.2.2])]) rfl ⟨⟨_,rfl,⟨At,At,At,trivial⟩⟩,trivial⟩) (jg (And.intro (And.intro (And.intro (Eq.refl 0) (Eq.refl 1)) (I6 (fun (x:(List Int)×(List Int)×Int)=>[.ints x.1,.ints x.2.1,.i x.2.2]) ([(BE.1,BE.2.1,BE.2.2)]:List ((List Int)×(List Int)×Int)) (([(BE.1,BE.2.1,BE.2.2)]:List ((List Int)×(List Int)×Int)).length) 3 fun _=>⟨rfl,rfl⟩)) (And.intro (by decide:0<1) (by decide:1<=BB))) (jt (lF fun p=>rr AE [0,1,2,3,4,5,6,7,10] rfl p)))
 | s1 I1 Fl=>
  refine ag AE [0,1,2,3,4,5,6,7,8,9] (H0.t) (AG 33 [(6,.ref 5 0),(7,.ref 6 0),(8,.ref 7 0),(9,.ref 9 0)]) (zU I1 ln Fl BE) fun N=>?_
  revert r;apply gO;exact ja 29 10 3 (ER (c:=(fun (x:(List Int)×(List Int)×Int)=>[.ints x.1,.ints x.2.1,.i x.2.2])) (L:=([(BE.1,BE.2.1,BE.2.2)]:List ((List Int)×(List Int)×Int))) (vals:=[.agg 3 (L1 [.ints BE.1,.ints BE.2.1,.i BE.2.2])]) rfl ⟨⟨_,rfl,⟨At,At,At,trivial⟩⟩,trivial⟩) (gc (gn fun zDF=>gn fun zDE=>jg (And.intro (And.intro (And.intro (Eq.refl 0) (Eq.refl 1)) (I6 (fun (x:(List Int)×(List Int)×Int)=>[.ints x.1,.ints x.2.1,.i x.2.2]) ([(BE.1,BE.2.1,BE.2.2)]:List ((List Int)×(List Int)×Int)) (([(BE.1,BE.2.1,BE.2.2)]:List ((List Int)×(List Int)×Int)).length) 3 fun _=>⟨rfl,rfl⟩)) (And.intro (And.intro (Eq.refl 0) zDF) zDE)) (ja 30 11 3 (LM (enc:=(MG (fun (x:(List Int)×(List Int)×Int)=>[.ints x.1,.ints x.2.1,.i x.2.2]))) (L:=Fl) (L':=([(BE.1,BE.2.1,BE.2.2)]:List ((List Int)×(List Int)×Int))) rfl rfl fun _ _ _ _=>At) (jt (lF fun p=>rr AE [0,1,2,3,4,5,6,7,11] rfl p)))))
end Go.Proofs.YtkjbblkieglmlaaGreatDoor
namespace Go.Proofs.YtkjbblkieglmlaaGreatDoor
abbrev zFq:=@Go.wpSIn_region
end Go.Proofs.YtkjbblkieglmlaaGreatDoor
namespace Go.Proofs.YtkjbblkieglmlaaGreatDoor
open Go.RowKit
set_option maxRecDepth 100000
set_option maxHeartbeats 40000000
def fD:ST:=.rd 0 (.rd 1 (.ef 2 (.ef 3 (.ef 4 (.fin [] []) (.no)) (.no)) (.no)))
theorem rS:Bq (Ag Tryz.f36 2) [2,3] fD:=by unfold Bq;kernel_rfl
def eJ (o:List Int) (q:AA) (tree:List (Int×Int)) (pos:List Int):St:=⟨(AG 9 []),(Bo o q tree tree.length pos 0++[some (.cells [.nils]),some (.cells [.nils]),some (.cells [.i 280])])⟩
theorem zCr {q:AA} {pos:List Int} {tree:List (Int×Int)} {o:List Int} {N:Nat -> Prop} {ρ0:List AI} {w0:World} {p1 p2 p3:Value} (HR:A1 Tryz.prog GG N (Bo o q tree tree.length pos 0++[some (.cells [.nils]),some (.cells [.msl 0 1 0 tree.length]),some (.cells [.i 0])]) ρ0 w0) (e1:AM (MS N (Bo o q tree tree.length pos 0++[some (.cells [.nils]),some (.cells [.msl 0 1 0 tree.length]),some (.cells [.i 0])]) ρ0) w0 (.ref 5 0) ρ0 p1) (e2:AM (MS N (Bo o q tree tree.length pos 0++[some (.cells [.nils]),some (.cells [.msl 0 1 0 tree.length]),some (.cells [.i 0])]) ρ0) w0 (.ref 6 0) ρ0 p2) (e3:AM (MS N (Bo o q tree tree.length pos 0++[some (.cells [.nils]),some (.cells [.msl 0 1 0 tree.length]),some (.cells [.i 0])]) ρ0) w0 (.ref 7 0) ρ0 p3):
 CallsDIn Fence.wide (0-1) Tryz.prog 36 #[p1,p2,p3] (.panicking (pan DX)) w0 fun e u' w'=>(∃ v,e= .returned v)/\ u'= .panicking [{ v:=DX,recovered:=true }]/\ ∃ ρ',A1 Tryz.prog GG N (Bo o q tree tree.length pos 0++[some (.cells [.nils]),some (.cells [.nils]),some (.cells [.i 280])]) ρ' w'/\ A6 (Bo o q tree tree.length pos 0++[some (.cells [.nils]),some (.cells [.msl 0 1 0 tree.length]),some (.cells [.i 0])]) ρ0 w0 (Bo o q tree tree.length pos 0++[some (.cells [.nils]),some (.cells [.nils]),some (.cells [.i 280])]) ρ' w'/\ CA 8 ρ0 ρ':=by
 refine callsDIn_of_wpSIn Tryz.func36 rfl trivial fun c₀ cs hu=>?_
 apply wpSIn_seq;apply zFq;simp [wpOpsSIn,go_sem,recoverD,hu,Tryz.ntmps36,Exit.thenS,Fence.wide,pan,DX];apply wpSIn_seq;apply zFq;simp [wpOpsSIn,go_sem,Exit.thenS];refine wpSIn_cond (t:=true) (by simp [Act.eval,Array.replicate]) ?_;simp only [zEG];refine wpSIn_of_wpIn rfl ?_
 have R0:AT Tryz.prog GG N ⟨AG 9 [(0,.ref 5 0),(1,.ref 6 0),(2,.ref 7 0),(3,.cst DX)],(Bo o q tree tree.length pos 0++[some (.cells [.nils]),some (.cells [.msl 0 1 0 tree.length]),some (.cells [.i 0])])⟩ ρ0 { tmps:=#[p1,p2,p3]++((((Array.replicate 6 undef).setIfInBounds 1 (Value.iface 30 (Value.int IntKind.i64 280))).setIfInBounds 0 (Value.iface 30 (Value.int IntKind.i64 280))).setIfInBounds 2 (Value.iface 30 (Value.int IntKind.i64 280))).setIfInBounds 3 (Value.bool true),defers:=[] } w0:=by
  refine ⟨HR,rfl,fun j hj=>?_⟩;have hj:j<9:=hj
  match j,hj with
  | 0,_=>exact e1
  | 1,_=>exact e2
  | 2,_=>exact e3
  | 3,_=>exact ⟨rfl,rfl⟩
  | 4,_=>trivial
  | 5,_=>trivial
  | 6,_=>trivial
  | 7,_=>trivial
  | 8,_=>trivial
  | j+9,hj=>exact absurd hj (by omega)
 refine wt (L:=8) HC.x [2,3] fD rS [([(2,5),(3,6)],(eJ o q tree pos))] [] [0,1,2,3,4,5,6,7] [] ((H0.t |>.t |>.t |>.t |>.g (Eq.refl (eJ o q tree pos)))) H0 (AG 9 []) (Bo o q tree tree.length pos 0++[some (.cells [.nils]),some (.cells [.nils]),some (.cells [.i 280])]) R0 (by kernel_rfl) fun ρ1 a1 w1 R1 DF HJ Hm=>?_
 simp [bodyPostS,results,Tryz.results36,HJ,go_sem,DX];exact ⟨ρ1,R1.hr,DF,Hm⟩
def fC:ST:=.rd 0 (.rd 1 (.ef 2 (.ef 3 (.ef 4 (.fin [] []) (.no)) (.no)) (.no)))
theorem rR:Bq (Ag Tryz.f36 2) [2,3] fC:=by unfold Bq;kernel_rfl
def eI (o:List Int) (q:AA) (tree:List (Int×Int)) (pos:List Int) (x:Au) (t:List Au):St:=⟨(AG 9 []),(Bo o q tree tree.length pos 0++[some (.cells [.nils]),some (.cells [.nils]),some (.cells [.i 280]),some (.arr 3 ((x::t).length) (AQ (fun (x:(List Int)×(List Int)×Int)=>[.ints x.1,.ints x.2.1,.i x.2.2]) (x::t)))])⟩
theorem zCq {q:AA} {pos:List Int} {tree:List (Int×Int)} {o:List Int} {x:Au} {t:List Au} {N:Nat -> Prop} {ρ0:List AI} {w0:World} {p1 p2 p3:Value} (HR:A1 Tryz.prog GG N (Bo o q tree tree.length pos 0++[some (.cells [.msl 8 3 0 ((x::t).length)]),some (.cells [.msl 0 1 0 tree.length]),some (.cells [.i 0]),some (.arr 3 ((x::t).length) (AQ (fun (x:(List Int)×(List Int)×Int)=>[.ints x.1,.ints x.2.1,.i x.2.2]) (x::t)))]) ρ0 w0) (e1:AM (MS N (Bo o q tree tree.length pos 0++[some (.cells [.msl 8 3 0 ((x::t).length)]),some (.cells [.msl 0 1 0 tree.length]),some (.cells [.i 0]),some (.arr 3 ((x::t).length) (AQ (fun (x:(List Int)×(List Int)×Int)=>[.ints x.1,.ints x.2.1,.i x.2.2]) (x::t)))]) ρ0) w0 (.ref 5 0) ρ0 p1) (e2:AM (MS N (Bo o q tree tree.length pos 0++[some (.cells [.msl 8 3 0 ((x::t).length)]),some (.cells [.msl 0 1 0 tree.length]),some (.cells [.i 0]),some (.arr 3 ((x::t).length) (AQ (fun (x:(List Int)×(List Int)×Int)=>[.ints x.1,.ints x.2.1,.i x.2.2]) (x::t)))]) ρ0) w0 (.ref 6 0) ρ0 p2) (e3:AM (MS N (Bo o q tree tree.length pos 0++[some (.cells [.msl 8 3 0 ((x::t).length)]),some (.cells [.msl 0 1 0 tree.length]),some (.cells [.i 0]),some (.arr 3 ((x::t).length) (AQ (fun (x:(List Int)×(List Int)×Int)=>[.ints x.1,.ints x.2.1,.i x.2.2]) (x::t)))]) ρ0) w0 (.ref 7 0) ρ0 p3):
 CallsDIn Fence.wide (0-1) Tryz.prog 36 #[p1,p2,p3] (.panicking (pan DX)) w0 fun e u' w'=>(∃ v,e= .returned v)/\ u'= .panicking [{ v:=DX,recovered:=true }]/\ ∃ ρ',A1 Tryz.prog GG N (Bo o q tree tree.length pos 0++[some (.cells [.nils]),some (.cells [.nils]),some (.cells [.i 280]),some (.arr 3 ((x::t).length) (AQ (fun (x:(List Int)×(List Int)×Int)=>[.ints x.1,.ints x.2.1,.i x.2.2]) (x::t)))]) ρ' w'/\ A6 (Bo o q tree tree.length pos 0++[some (.cells [.msl 8 3 0 ((x::t).length)]),some (.cells [.msl 0 1 0 tree.length]),some (.cells [.i 0]),some (.arr 3 ((x::t).length) (AQ (fun (x:(List Int)×(List Int)×Int)=>[.ints x.1,.ints x.2.1,.i x.2.2]) (x::t)))]) ρ0 w0 (Bo o q tree tree.length pos 0++[some (.cells [.nils]),some (.cells [.nils]),some (.cells [.i 280]),some (.arr 3 ((x::t).length) (AQ (fun (x:(List Int)×(List Int)×Int)=>[.ints x.1,.ints x.2.1,.i x.2.2]) (x::t)))]) ρ' w'/\ CA 8 ρ0 ρ':=by
 refine callsDIn_of_wpSIn Tryz.func36 rfl trivial fun c₀ cs hu=>?_
 apply wpSIn_seq;apply zFq;simp [wpOpsSIn,go_sem,recoverD,hu,Tryz.ntmps36,Exit.thenS,Fence.wide,pan,DX];apply wpSIn_seq;apply zFq;simp [wpOpsSIn,go_sem,Exit.thenS];refine wpSIn_cond (t:=true) (by simp [Act.eval,Array.replicate]) ?_;simp only [zEG];refine wpSIn_of_wpIn rfl ?_
 have R0:AT Tryz.prog GG N ⟨AG 9 [(0,.ref 5 0),(1,.ref 6 0),(2,.ref 7 0),(3,.cst DX)],(Bo o q tree tree.length pos 0++[some (.cells [.msl 8 3 0 ((x::t).length)]),some (.cells [.msl 0 1 0 tree.length]),some (.cells [.i 0]),some (.arr 3 ((x::t).length) (AQ (fun (x:(List Int)×(List Int)×Int)=>[.ints x.1,.ints x.2.1,.i x.2.2]) (x::t)))])⟩ ρ0 { tmps:=#[p1,p2,p3]++((((Array.replicate 6 undef).setIfInBounds 1 (Value.iface 30 (Value.int IntKind.i64 280))).setIfInBounds 0 (Value.iface 30 (Value.int IntKind.i64 280))).setIfInBounds 2 (Value.iface 30 (Value.int IntKind.i64 280))).setIfInBounds 3 (Value.bool true),defers:=[] } w0:=by
  refine ⟨HR,rfl,fun j hj=>?_⟩;have hj:j<9:=hj
  match j,hj with
  | 0,_=>exact e1
  | 1,_=>exact e2
  | 2,_=>exact e3
  | 3,_=>exact ⟨rfl,rfl⟩
  | 4,_=>trivial
  | 5,_=>trivial
  | 6,_=>trivial
  | 7,_=>trivial
  | 8,_=>trivial
  | j+9,hj=>exact absurd hj (by omega)
 refine wt (L:=8) HC.x [2,3] fC rR [([(2,5),(3,6)],(eI o q tree pos x t))] [] [0,1,2,3,4,5,6,7,8] [] ((H0.t |>.t |>.t |>.t |>.g (Eq.refl (eI o q tree pos x t)))) H0 (AG 9 []) (Bo o q tree tree.length pos 0++[some (.cells [.nils]),some (.cells [.nils]),some (.cells [.i 280]),some (.arr 3 ((x::t).length) (AQ (fun (x:(List Int)×(List Int)×Int)=>[.ints x.1,.ints x.2.1,.i x.2.2]) (x::t)))]) R0 (by kernel_rfl) fun ρ1 a1 w1 R1 DF HJ Hm=>?_
 simp [bodyPostS,results,Tryz.results36,HJ,go_sem,DX];exact ⟨ρ1,R1.hr,DF,Hm⟩
theorem mw (p1 p2 p3:Value) (w0:World):CallsDIn Fence.wide (0-1) Tryz.prog 36 #[p1,p2,p3] .returning w0 fun e u' w'=>(∃ v,e= .returned v)/\ u'= .returning/\ w'=w0:=by
 refine callsDIn_of_wpSIn Tryz.func36 rfl trivial fun c₀ cs hu=>?_
 apply wpSIn_seq;apply zFq;simp [wpOpsSIn,go_sem,recoverD,hu,Tryz.ntmps36,Exit.thenS,Fence.wide];apply wpSIn_seq;apply zFq;simp [wpOpsSIn,go_sem,Exit.thenS];refine wpSIn_cond (t:=false) (by simp [Act.eval,Array.replicate]) ?_;simp only [zDs,zEg];refine wpSIn_of_wpIn rfl (wpIn_skip ?_);cases c₀
 simp_all [bodyPostS,results,Tryz.results36,go_sem]
def ew:ST:=.rd 0 (.rd 1 (.ef 2 (.ef 3 (.ef 4 (.fin [] [6,7,8]) (.no)) (.no)) (.no)))
theorem rH:Bq (Ag Tryz.f26 9) [2] ew:=by unfold Bq;kernel_rfl
def eE (o:List Int) (q:AA) (tree:List (Int×Int)) (pos:List Int):St:=⟨(AG 33 [(6,.ref 5 0),(7,.ref 6 0),(8,.ref 7 0)]),(Bo o q tree tree.length pos 0++[some (.cells [.nils]),some (.cells [.msl 0 1 0 tree.length]),some (.cells [.i 0])])⟩
theorem su {q:AA} {pos:List Int} {tree:List (Int×Int)} {o:List Int} {N:Nat -> Prop} {ρs ρ0:List AI} {ws w0:World} {a0:Act} {D:Nat} {p1 p2 p3:Value} (Oa:A1 Tryz.prog GG N [] ρs ws) (Jw:A6 [] ρs ws (Bo o q tree tree.length pos 0++[some (.cells [.nils]),some (.cells [.msl 0 1 0 tree.length]),some (.cells [.i 0])]) ρ0 w0) (R0:AT Tryz.prog GG N ⟨AG 33 [(6,.ref 5 0),(7,.ref 6 0),(8,.ref 7 0)],(Bo o q tree tree.length pos 0++[some (.cells [.nils]),some (.cells [.msl 0 1 0 tree.length]),some (.cells [.i 0])])⟩ ρ0 a0 w0) (hD:w0.heap[D]? =some (.deferred (some []))) (Ct:GG.ng<=D) (Hv:ws.heap.size<=D) (g2:tree.length=o.length) (Ca:a0.defers= [{ target:=.collected D,args:=#[] },{ target:=.fn (.func 36) #[p1,p2,p3],args:=#[] }]):
 (Code.seq (.region 9 (Ag Tryz.f26 9) true) .ret).wpIn Fence.wide 0 Tryz.prog (bodyPostM Fence.wide 0 Tryz.prog Tryz.f26 fun e w'=>∃ v,e= .returned v/\ CW Tryz.prog GG N [] ρs ws true (.tup 3 (L1 [.sl 3 (([]:List Au).length) (AQ (fun (x:(List Int)×(List Int)×Int)=>[.ints x.1,.ints x.2.1,.i x.2.2]) ([]:List Au)),.ints o,.i 0])) [] v w') a0 w0:=by
 refine zFa ?_;refine wt (L:=0) HC.x [2] ew rH [([(2,5)],(eE o q tree pos))] [6,7,8] [0,5,6,7] [] ((H0.t |>.t |>.t |>.g (Eq.refl (eE o q tree pos)))) H0 (AG 33 [(6,.ref 1 0),(7,.ref 2 0),(8,.ref 3 0)]) ([some (.ints o),some (.cells [.nils]),some (.cells [.msl 0 1 0 tree.length]),some (.cells [.i 0])]:DH) R0 (by kernel_rfl) fun ρ1 a1 w1 R1 DF HJ Hm=>?_
 refine wpIn_ret ?_
 show LeavesInM _ _ _ _ _ _ a1.defers .returning w1
 rw [HJ,Ca];refine Vz (by simp) (mY R0.hr DF hD) (fun args W=>ME Tryz.func36 (by kernel_rfl) (by kernel_rfl) args W) fun W hs=>?_
 refine (mw p1 p2 p3 W).mono ?_;rintro e u' w' ⟨⟨v,rfl⟩,rfl,rfl⟩;have R2:=R1.shut (NR (by kernel_rfl)) Ct hs;obtain ⟨v,h1,h2⟩:=W9 (fn:=Tryz.f26) R2 Oa ((Jw.trans DF).shut (hs.mono fun _ _ h=>⟨zAk Hv h.1,h.2⟩)) [0] (H0.g g2) [.nils,.ints o,.i 0] (AS.tupL (l:=[.nils,.ints o,.i 0]) (l':=[.sl 3 (([]:List Au).length) (AQ (fun (x:(List Int)×(List Int)×Int)=>[.ints x.1,.ints x.2.1,.i x.2.2]) ([]:List Au)),.ints o,.i 0]) rfl ⟨(AS.sl_nil _ _),At,At,trivial⟩) (by kernel_rfl) (by kernel_rfl);exact ⟨v,h1,v,rfl,h2⟩
theorem uE {q:AA} {pos:List Int} {tree:List (Int×Int)} {o:List Int} {N:Nat -> Prop} {ρs ρ0:List AI} {ws w0:World} {a0:Act} {D:Nat} {p1 p2 p3:Value} (Oa:A1 Tryz.prog GG N [] ρs ws) (Jw:A6 [] ρs ws (Bo o q tree tree.length pos 0++[some (.cells [.nils]),some (.cells [.msl 0 1 0 tree.length]),some (.cells [.i 0])]) ρ0 w0) (R0:AT Tryz.prog GG N ⟨AG 33 [(6,.ref 5 0),(7,.ref 6 0),(8,.ref 7 0)],(Bo o q tree tree.length pos 0++[some (.cells [.nils]),some (.cells [.msl 0 1 0 tree.length]),some (.cells [.i 0])])⟩ ρ0 a0 w0) (hD:w0.heap[D]? =some (.deferred (some []))) (Ct:GG.ng<=D) (Hv:ws.heap.size<=D) (F0:BC (MS N (Bo o q tree tree.length pos 0++[some (.cells [.nils]),some (.cells [.msl 0 1 0 tree.length]),some (.cells [.i 0])]) ρ0) w0 ρ0 [.ref 5 0,.ref 6 0,.ref 7 0] #[p1,p2,p3]):
 LeavesInM Fence.wide 0 Tryz.prog Tryz.f26 a0.tmps (fun e w'=>∃ v,e= .returned v/\ CW Tryz.prog GG N [] ρs ws true (.tup 3 (L1 [.sl 3 (([]:List Au).length) (AQ (fun (x:(List Int)×(List Int)×Int)=>[.ints x.1,.ints x.2.1,.i x.2.2]) ([]:List Au)),.ints ([]:List Int),.i 280])) [] v w') [{ target:=.collected D,args:=#[] },{ target:=.fn (.func 36) #[p1,p2,p3],args:=#[] }] (.panicking (pan DX)) w0:=by
 refine Vz (by simp) hD (fun args W=>ME Tryz.func36 (by kernel_rfl) (by kernel_rfl) args W) fun W hs=>?_
 have Rx:AT Tryz.prog GG N ⟨AG 33 [(6,.ref 5 0),(7,.ref 6 0),(8,.ref 7 0)]++[.ref 5 0,.ref 6 0,.ref 7 0],(Bo o q tree tree.length pos 0++[some (.cells [.nils]),some (.cells [.msl 0 1 0 tree.length]),some (.cells [.i 0])])⟩ ρ0 { a0 with tmps:=a0.tmps++#[p1,p2,p3] } w0:=⟨R0.hr,BC.append R0.fr F0⟩;have Ry:=Rx.shut (NR (by kernel_rfl)) Ct hs;obtain ⟨f1,f2⟩:=BC.split Ry.fr R0.fr.1;have R2:AT Tryz.prog GG N ⟨AG 33 [(6,.ref 5 0),(7,.ref 6 0),(8,.ref 7 0)],(Bo o q tree tree.length pos 0++[some (.cells [.nils]),some (.cells [.msl 0 1 0 tree.length]),some (.cells [.i 0])])⟩ ρ0 a0 W:=⟨Ry.hr,f1⟩;refine (zCr R2.hr (f2.at 0) (f2.at 1) (f2.at 2)).mono ?_;rintro e u' w' ⟨⟨v,rfl⟩,rfl,ρ',E3,C4,Z6⟩;have R3:AT Tryz.prog GG N ⟨AG 33 [(6,.ref 5 0),(7,.ref 6 0),(8,.ref 7 0)],(Bo o q tree tree.length pos 0++[some (.cells [.nils]),some (.cells [.nils]),some (.cells [.i 280])])⟩ ρ' a0 w':=⟨E3,TP (L:=8) R2.fr (by kernel_rfl) E3 C4 Z6⟩;obtain ⟨v,h1,h2⟩:=W9 (fn:=Tryz.f26) R3 Oa ((Jw.shut (hs.mono fun _ _ h=>⟨zAk Hv h.1,h.2⟩)).trans C4) [] H0 [.nils,.nils,.i 280] (AS.tupL (l:=[.nils,.nils,.i 280]) (l':=[.sl 3 (([]:List Au).length) (AQ (fun (x:(List Int)×(List Int)×Int)=>[.ints x.1,.ints x.2.1,.i x.2.2]) ([]:List Au)),.ints ([]:List Int),.i 280]) rfl ⟨(AS.sl_nil _ _),AS.ints_nil,At,trivial⟩) (by kernel_rfl) (by kernel_rfl);exact ⟨v,h1,v,rfl,h2⟩
def eo:ST:=.rd 0 (.rd 1 (.ef 2 (.ef 3 (.ef 4 (.fin [] [6,7,8]) (.no)) (.no)) (.no)))
theorem rG:Bq (Ag Tryz.f26 9) [2] eo:=by unfold Bq;kernel_rfl
def eD (o:List Int) (q:AA) (tree:List (Int×Int)) (pos:List Int) (x:Au) (t:List Au):St:=⟨(AG 33 [(6,.ref 5 0),(7,.ref 6 0),(8,.ref 7 0)]),(Bo o q tree tree.length pos 0++[some (.cells [.msl 8 3 0 ((x::t).length)]),some (.cells [.msl 0 1 0 tree.length]),some (.cells [.i 0]),some (.arr 3 ((x::t).length) (AQ (fun (x:(List Int)×(List Int)×Int)=>[.ints x.1,.ints x.2.1,.i x.2.2]) (x::t)))])⟩
theorem sr {q:AA} {pos:List Int} {tree:List (Int×Int)} {o:List Int} (x:Au) (t:List Au) {N:Nat -> Prop} {ρs ρ0:List AI} {ws w0:World} {a0:Act} {D:Nat} {p1 p2 p3:Value} (Oa:A1 Tryz.prog GG N [] ρs ws) (Jw:A6 [] ρs ws (Bo o q tree tree.length pos 0++[some (.cells [.msl 8 3 0 ((x::t).length)]),some (.cells [.msl 0 1 0 tree.length]),some (.cells [.i 0]),some (.arr 3 ((x::t).length) (AQ (fun (x:(List Int)×(List Int)×Int)=>[.ints x.1,.ints x.2.1,.i x.2.2]) (x::t)))]) ρ0 w0) (R0:AT Tryz.prog GG N ⟨AG 33 [(6,.ref 5 0),(7,.ref 6 0),(8,.ref 7 0)],(Bo o q tree tree.length pos 0++[some (.cells [.msl 8 3 0 ((x::t).length)]),some (.cells [.msl 0 1 0 tree.length]),some (.cells [.i 0]),some (.arr 3 ((x::t).length) (AQ (fun (x:(List Int)×(List Int)×Int)=>[.ints x.1,.ints x.2.1,.i x.2.2]) (x::t)))])⟩ ρ0 a0 w0) (hD:w0.heap[D]? =some (.deferred (some []))) (Ct:GG.ng<=D) (Hv:ws.heap.size<=D) (g2:tree.length=o.length) (Ca:a0.defers= [{ target:=.collected D,args:=#[] },{ target:=.fn (.func 36) #[p1,p2,p3],args:=#[] }]):
 (Code.seq (.region 9 (Ag Tryz.f26 9) true) .ret).wpIn Fence.wide 0 Tryz.prog (bodyPostM Fence.wide 0 Tryz.prog Tryz.f26 fun e w'=>∃ v,e= .returned v/\ CW Tryz.prog GG N [] ρs ws true (.tup 3 (L1 [.sl 3 ((x::t).length) (AQ (fun (x:(List Int)×(List Int)×Int)=>[.ints x.1,.ints x.2.1,.i x.2.2]) (x::t)),.ints o,.i 0])) [] v w') a0 w0:=by
 refine zFa ?_;refine wt (L:=0) HC.x [2] eo rG [([(2,5)],(eD o q tree pos x t))] [6,7,8] [0,5,6,7,8] [] ((H0.t |>.t |>.t |>.g (Eq.refl (eD o q tree pos x t)))) H0 (AG 33 [(6,.ref 1 0),(7,.ref 2 0),(8,.ref 3 0)]) ([some (.ints o),some (.cells [.msl 4 3 0 ((x::t).length)]),some (.cells [.msl 0 1 0 tree.length]),some (.cells [.i 0]),some (.arr 3 ((x::t).length) (AQ (fun (x:(List Int)×(List Int)×Int)=>[.ints x.1,.ints x.2.1,.i x.2.2]) (x::t)))]:DH) R0 (by kernel_rfl) fun ρ1 a1 w1 R1 DF HJ Hm=>?_
 refine wpIn_ret ?_
 show LeavesInM _ _ _ _ _ _ a1.defers .returning w1
 rw [HJ,Ca];refine Vz (by simp) (mY R0.hr DF hD) (fun args W=>ME Tryz.func36 (by kernel_rfl) (by kernel_rfl) args W) fun W hs=>?_
 refine (mw p1 p2 p3 W).mono ?_;rintro e u' w' ⟨⟨v,rfl⟩,rfl,rfl⟩;have R2:=R1.shut (NR (by kernel_rfl)) Ct hs;obtain ⟨v,h1,h2⟩:=W9 (fn:=Tryz.f26) R2 Oa ((Jw.trans DF).shut (hs.mono fun _ _ h=>⟨zAk Hv h.1,h.2⟩)) [0,4] (H0.g g2 |>.g (Eq.refl ((x::t).length))) [.sl 3 ((x::t).length) (AQ (fun (x:(List Int)×(List Int)×Int)=>[.ints x.1,.ints x.2.1,.i x.2.2]) (x::t)),.ints o,.i 0] (AS.tupL (l:=[.sl 3 ((x::t).length) (AQ (fun (x:(List Int)×(List Int)×Int)=>[.ints x.1,.ints x.2.1,.i x.2.2]) (x::t)),.ints o,.i 0]) (l':=[.sl 3 ((x::t).length) (AQ (fun (x:(List Int)×(List Int)×Int)=>[.ints x.1,.ints x.2.1,.i x.2.2]) (x::t)),.ints o,.i 0]) rfl ⟨At,At,At,trivial⟩) (by kernel_rfl) (by kernel_rfl);exact ⟨v,h1,v,rfl,h2⟩
theorem uD {q:AA} {pos:List Int} {tree:List (Int×Int)} {o:List Int} (x:Au) (t:List Au) {N:Nat -> Prop} {ρs ρ0:List AI} {ws w0:World} {a0:Act} {D:Nat} {p1 p2 p3:Value} (Oa:A1 Tryz.prog GG N [] ρs ws) (Jw:A6 [] ρs ws (Bo o q tree tree.length pos 0++[some (.cells [.msl 8 3 0 ((x::t).length)]),some (.cells [.msl 0 1 0 tree.length]),some (.cells [.i 0]),some (.arr 3 ((x::t).length) (AQ (fun (x:(List Int)×(List Int)×Int)=>[.ints x.1,.ints x.2.1,.i x.2.2]) (x::t)))]) ρ0 w0) (R0:AT Tryz.prog GG N ⟨AG 33 [(6,.ref 5 0),(7,.ref 6 0),(8,.ref 7 0)],(Bo o q tree tree.length pos 0++[some (.cells [.msl 8 3 0 ((x::t).length)]),some (.cells [.msl 0 1 0 tree.length]),some (.cells [.i 0]),some (.arr 3 ((x::t).length) (AQ (fun (x:(List Int)×(List Int)×Int)=>[.ints x.1,.ints x.2.1,.i x.2.2]) (x::t)))])⟩ ρ0 a0 w0) (hD:w0.heap[D]? =some (.deferred (some []))) (Ct:GG.ng<=D) (Hv:ws.heap.size<=D) (F0:BC (MS N (Bo o q tree tree.length pos 0++[some (.cells [.msl 8 3 0 ((x::t).length)]),some (.cells [.msl 0 1 0 tree.length]),some (.cells [.i 0]),some (.arr 3 ((x::t).length) (AQ (fun (x:(List Int)×(List Int)×Int)=>[.ints x.1,.ints x.2.1,.i x.2.2]) (x::t)))]) ρ0) w0 ρ0 [.ref 5 0,.ref 6 0,.ref 7 0] #[p1,p2,p3]):
 LeavesInM Fence.wide 0 Tryz.prog Tryz.f26 a0.tmps (fun e w'=>∃ v,e= .returned v/\ CW Tryz.prog GG N [] ρs ws true (.tup 3 (L1 [.sl 3 (([]:List Au).length) (AQ (fun (x:(List Int)×(List Int)×Int)=>[.ints x.1,.ints x.2.1,.i x.2.2]) ([]:List Au)),.ints ([]:List Int),.i 280])) [] v w') [{ target:=.collected D,args:=#[] },{ target:=.fn (.func 36) #[p1,p2,p3],args:=#[] }] (.panicking (pan DX)) w0:=by
 refine Vz (by simp) hD (fun args W=>ME Tryz.func36 (by kernel_rfl) (by kernel_rfl) args W) fun W hs=>?_
 have Rx:AT Tryz.prog GG N ⟨AG 33 [(6,.ref 5 0),(7,.ref 6 0),(8,.ref 7 0)]++[.ref 5 0,.ref 6 0,.ref 7 0],(Bo o q tree tree.length pos 0++[some (.cells [.msl 8 3 0 ((x::t).length)]),some (.cells [.msl 0 1 0 tree.length]),some (.cells [.i 0]),some (.arr 3 ((x::t).length) (AQ (fun (x:(List Int)×(List Int)×Int)=>[.ints x.1,.ints x.2.1,.i x.2.2]) (x::t)))])⟩ ρ0 { a0 with tmps:=a0.tmps++#[p1,p2,p3] } w0:=⟨R0.hr,BC.append R0.fr F0⟩;have Ry:=Rx.shut (NR (by kernel_rfl)) Ct hs;obtain ⟨f1,f2⟩:=BC.split Ry.fr R0.fr.1;have R2:AT Tryz.prog GG N ⟨AG 33 [(6,.ref 5 0),(7,.ref 6 0),(8,.ref 7 0)],(Bo o q tree tree.length pos 0++[some (.cells [.msl 8 3 0 ((x::t).length)]),some (.cells [.msl 0 1 0 tree.length]),some (.cells [.i 0]),some (.arr 3 ((x::t).length) (AQ (fun (x:(List Int)×(List Int)×Int)=>[.ints x.1,.ints x.2.1,.i x.2.2]) (x::t)))])⟩ ρ0 a0 W:=⟨Ry.hr,f1⟩;refine (zCq R2.hr (f2.at 0) (f2.at 1) (f2.at 2)).mono ?_;rintro e u' w' ⟨⟨v,rfl⟩,rfl,ρ',E3,C4,Z6⟩;have R3:AT Tryz.prog GG N ⟨AG 33 [(6,.ref 5 0),(7,.ref 6 0),(8,.ref 7 0)],(Bo o q tree tree.length pos 0++[some (.cells [.nils]),some (.cells [.nils]),some (.cells [.i 280]),some (.arr 3 ((x::t).length) (AQ (fun (x:(List Int)×(List Int)×Int)=>[.ints x.1,.ints x.2.1,.i x.2.2]) (x::t)))])⟩ ρ' a0 w':=⟨E3,TP (L:=8) R2.fr (by kernel_rfl) E3 C4 Z6⟩;obtain ⟨v,h1,h2⟩:=W9 (fn:=Tryz.f26) R3 Oa ((Jw.shut (hs.mono fun _ _ h=>⟨zAk Hv h.1,h.2⟩)).trans C4) [] H0 [.nils,.nils,.i 280] (AS.tupL (l:=[.nils,.nils,.i 280]) (l':=[.sl 3 (([]:List Au).length) (AQ (fun (x:(List Int)×(List Int)×Int)=>[.ints x.1,.ints x.2.1,.i x.2.2]) ([]:List Au)),.ints ([]:List Int),.i 280]) rfl ⟨(AS.sl_nil _ _),AS.ints_nil,At,trivial⟩) (by kernel_rfl) (by kernel_rfl);exact ⟨v,h1,v,rfl,h2⟩
def zT (q:AA) (tree:List (Int×Int)):DH:=[some (.cells (AC q)),some (.cells [.nils]),some (.cells [.msl 4 1 0 tree.length]),some (.cells [.i 0]),some (.ints (List.replicate tree.length (0:Int)))]
def V0 (l:List Au):JZ:=match l with
 | []=>.s0
 | x::t=>.s1 (x::t).length (x::t)
theorem lw {n ln:Nat}: ∀ (l a:List Au),a.length+l.length<=BB -> Bn (P0 n ln) l (.s1 a.length a)=some (.s1 (a++l).length (a++l))
 | [],a,_=>by simp [Bn]
 | x::l,a,h=>by
  have h1:P0 n ln x (.s1 a.length a)=some (.s1 (a++[x]).length (a++[x])):=by
   have hl:a.length+1<=BB:=by simp at h;omega
   show bq n ln x a.length a=_
   unfold bq;rw [zAB ⟨rfl,hl⟩];simp
  simp only [Bn,h1,zAA];rw [lw l (a++[x]) (by simp at h ⊢;omega)];simp
theorem zBB {n ln:Nat} {l:List Au} (h:l.length<=BB):Bn (P0 n ln) (l.drop 0) .s0=some (V0 l):=by
 rw [zE8];cases l with
 | nil=>rfl
 | cons x t=>exact lw (n:=n) (ln:=ln) t [x] (by simp at h ⊢;omega)
theorem zA6 {n:Nat} {q:AA} {pos:List Int} {tree:List (Int×Int)} {l:List Au} {out:Option Unit} {o:List Int} (A5:Iq n q pos tree=some 0) (g0:((tree.length:Int):Int)=(tree.length:Int)/\ 0<=(tree.length:Int)/\ ((tree.length:Int):Int)<=1000000000000) (hy:Lf n (List.replicate tree.length (0:Int)) q tree tree.length pos=some (l,out,o)) (g1:tree.length=o.length) (g2:l.length<=BB)
 {N:Nat -> Prop} {ρ0:List AI} {a0:Act} {w0:World} (R0:AT Tryz.prog GG N ⟨AG 33 [(0,.agg 5 (L1 (AC q))),(1,.ints pos),(2,.sl 2 tree.length (AQ Aw tree))],[]⟩ ρ0 a0 w0) (Wh:a0.defers= []):
 (AY Tryz.f26).wpIn Fence.wide 0 Tryz.prog (bodyPostM Fence.wide 0 Tryz.prog Tryz.f26 fun e w'=>∃ v,e= .returned v/\ CW Tryz.prog GG N [] ρ0 w0 true (.tup 3 (L1 [.sl 3 ((if out.isSome then l else []).length) (AQ (fun (x:(List Int)×(List Int)×Int)=>[.ints x.1,.ints x.2.1,.i x.2.2]) (if out.isSome then l else [])),.ints (if out.isSome then o else []),.i (if out.isSome then 0 else 280)])) [] v w') a0 w0:=by
 refine zFa ?_;refine wr (L:=0) HC.x [1,2,3,6,7,8] [0,1,2,3] [] H0 H0 (AG 33 [(1,.ints pos),(2,.sl 2 tree.length (AQ Aw tree)),(3,.ref 0 0),(6,.ref 1 0),(7,.ref 2 0),(8,.ref 3 0)]) ([some (.cells (AC q)),some (.cells [.nils]),some (.cells [.nils]),some (.cells [.i 0])]:DH) R0 (by kernel_rfl) (by kernel_rfl) fun ρ1 a1 w1 R1 DF HJ Hm=>?_
 refine zFa (zFa ?_);refine wr (L:=0) HC.x [1,2,3,6,7,8] [0,1,2,3] [] ((H0.c (fb (dh A5) [some (.cells (AC q)),some (.cells [.nils]),some (.cells [.nils]),some (.cells [.i 0])]) |>.t)) H0 (AG 33 [(1,.ints pos),(2,.sl 2 tree.length (AQ Aw tree)),(3,.ref 0 0),(6,.ref 1 0),(7,.ref 2 0),(8,.ref 3 0)]) ([some (.cells (AC q)),some (.cells [.nils]),some (.cells [.nils]),some (.cells [.i 0])]:DH) R1 (by kernel_rfl) (by kernel_rfl) fun ρ2 a2 w2 R2 Ir S7 jX=>?_
 refine zFa ?_;refine wr (L:=0) HC.x [1,2,3,6,7,8,15] [0,1,2,3] [] H0 H0 (AG 33 [(1,.ints pos),(2,.sl 2 tree.length (AQ Aw tree)),(3,.ref 0 0),(6,.ref 1 0),(7,.ref 2 0),(8,.ref 3 0),(15,.bool false)]) ([some (.cells (AC q)),some (.cells [.nils]),some (.cells [.nils]),some (.cells [.i 0])]:DH) R2 (by kernel_rfl) (by kernel_rfl) fun ρ3 a3 w3 R3 FT hd3 PQ=>?_
 refine wpIn_cond_false (Bh R3 (.tmp 15)) (wpIn_skip ?_);have A3:a3.tmps.size=33:=by simpa [AG] using R3.fr.1.symm
 refine zFa (oC (o0:=_) (o1:=_) rfl rfl rfl rfl rfl rfl rfl (by rw [A3];decide) fun a4 xX Kd=>?_);have R4:=R3.idle 17 xX (by kernel_rfl);have F4:BC (MS N [some (.cells (AC q)),some (.cells [.nils]),some (.cells [.nils]),some (.cells [.i 0])] ρ3) w3 ρ3 [.ref 1 0,.ref 2 0,.ref 3 0] #[a3.tmps.getD 6 undef,a3.tmps.getD 7 undef,a3.tmps.getD 8 undef]:=⟨rfl,fun j hj=>match j,hj with | 0,_=>R3.fr.at 6 | 1,_=>R3.fr.at 7 | 2,_=>R3.fr.at 8 | j+3,hj=>absurd hj (by simp)⟩;refine zFa ?_;refine wr (L:=4) HC.x [1,2,3,6,7,8] [0,1,2,3,4] [] ((H0.g g0 |>.t)) H0 (AG 33 [(1,.ints pos),(2,.sl 2 tree.length (AQ Aw tree)),(3,.ref 0 0),(6,.ref 1 0),(7,.ref 2 0),(8,.ref 3 0)]) ([some (.cells (AC q)),some (.cells [.nils]),some (.cells [.msl 4 1 0 tree.length]),some (.cells [.i 0]),some (.ints (List.replicate tree.length (0:Int)))]:DH) R4 (by kernel_rfl) (by kernel_rfl) fun ρ5 a5 w5 R5 YP hd5 wH=>?_
 have F5:=TP (L:=4) F4 (by kernel_rfl) R5.hr YP wH;refine zFa (zFa ?_);refine wr (L:=4) HC.x [6,7,8,25] [0,1,2,3,4,5,6,7,8] [] ((H0.c (em (vi q pos tree tree.length (List.replicate tree.length (0:Int)) (rfl:jS n q pos tree tree.length (List.replicate tree.length (0:Int))=some ())) [4] (zT q tree)))) H0 (AG 33 [(6,.ref 1 0),(7,.ref 2 0),(8,.ref 3 0),(25,.fn 56 4 (L1 [.ref 5 0,.ref 6 0,.ref 7 0,.ref 8 0]))]) ([some (.cells (AC q)),some (.cells [.nils]),some (.cells [.msl 4 1 0 tree.length]),some (.cells [.i 0]),some (.ints (List.replicate tree.length (0:Int))),some (.cells (AC q)),some (.cells [.sl 2 tree.length (AQ Aw tree)]),some (.cells [.msl 4 1 0 tree.length]),some (.cells [.ints pos])]:DH) R5 (by kernel_rfl) (by kernel_rfl) fun ρ6 a6 w6 R6 YO S6 wG=>?_
 have F6:=TP (L:=4) F5 (by kernel_rfl) R6.hr YO wG
 have s7:Ay 0 ⟨AG 33 [(6,.ref 1 0),(7,.ref 2 0),(8,.ref 3 0),(25,.fn 56 4 (L1 [.ref 5 0,.ref 6 0,.ref 7 0,.ref 8 0]))]++[.ref 1 0,.ref 2 0,.ref 3 0],[some (.cells (AC q)),some (.cells [.nils]),some (.cells [.msl 4 1 0 tree.length]),some (.cells [.i 0]),some (.ints (List.replicate tree.length (0:Int))),some (.cells (AC q)),some (.cells [.sl 2 tree.length (AQ Aw tree)]),some (.cells [.msl 4 1 0 tree.length]),some (.cells [.ints pos])]⟩ ⟨AG 33 [(6,.ref 5 0),(7,.ref 6 0),(8,.ref 7 0),(25,.fn 56 4 (L1 [.ref 1 0,.ref 2 0,.ref 3 0,.ref 4 0]))]++[.ref 5 0,.ref 6 0,.ref 7 0],[some (.ints (List.replicate tree.length (0:Int))),some (.cells (AC q)),some (.cells [.sl 2 tree.length (AQ Aw tree)]),some (.cells [.msl 0 1 0 tree.length]),some (.cells [.ints pos]),some (.cells [.nils]),some (.cells [.msl 0 1 0 tree.length]),some (.cells [.i 0])]⟩:=by
  have e:E1 [4,5,6,7,8,1,2,3] ⟨AG 33 [(6,.ref 1 0),(7,.ref 2 0),(8,.ref 3 0),(25,.fn 56 4 (L1 [.ref 5 0,.ref 6 0,.ref 7 0,.ref 8 0]))]++[.ref 1 0,.ref 2 0,.ref 3 0],[some (.cells (AC q)),some (.cells [.nils]),some (.cells [.msl 4 1 0 tree.length]),some (.cells [.i 0]),some (.ints (List.replicate tree.length (0:Int))),some (.cells (AC q)),some (.cells [.sl 2 tree.length (AQ Aw tree)]),some (.cells [.msl 4 1 0 tree.length]),some (.cells [.ints pos])]⟩=⟨AG 33 [(6,.ref 5 0),(7,.ref 6 0),(8,.ref 7 0),(25,.fn 56 4 (L1 [.ref 1 0,.ref 2 0,.ref 3 0,.ref 4 0]))]++[.ref 5 0,.ref 6 0,.ref 7 0],[some (.ints (List.replicate tree.length (0:Int))),some (.cells (AC q)),some (.cells [.sl 2 tree.length (AQ Aw tree)]),some (.cells [.msl 0 1 0 tree.length]),some (.cells [.ints pos]),some (.cells [.nils]),some (.cells [.msl 0 1 0 tree.length]),some (.cells [.i 0])]⟩:=by kernel_rfl
  rw [←e];exact Ay.compE [4,5,6,7,8,1,2,3] (by kernel_rfl)
 obtain ⟨ρx,Rx,Fx,fI,_⟩:=Ay.both s7 (by kernel_rfl) R6 F6;obtain ⟨ρ7,R7,F7,fN,_⟩:=Ay.both (Ay.ros (L:=0) (fr:=AG 33 [(6,.ref 5 0),(7,.ref 6 0),(8,.ref 7 0),(25,.fn 56 4 (L1 [.ref 1 0,.ref 2 0,.ref 3 0,.ref 4 0]))]++[.ref 5 0,.ref 6 0,.ref 7 0]) (h:=[some (.ints (List.replicate tree.length (0:Int))),some (.cells (AC q)),some (.cells [.sl 2 tree.length (AQ Aw tree)]),some (.cells [.msl 0 1 0 tree.length]),some (.cells [.ints pos]),some (.cells [.nils]),some (.cells [.msl 0 1 0 tree.length]),some (.cells [.i 0])]) (h':=Bo (List.replicate tree.length (0:Int)) q tree tree.length pos 0++[some (.cells [.nils]),some (.cells [.msl 0 1 0 tree.length]),some (.cells [.i 0])]) [1,2,3,4] (by kernel_rfl) (by kernel_rfl)) rfl Rx Fx;refine wpIn_block ?_;have HY:YC Tryz.prog GG DX 56 (fun l=>.yl l::(List.range 4).map (L1 [.ref 1 0,.ref 2 0,.ref 3 0,.ref 4 0])) (fun _=>Bo (List.replicate tree.length (0:Int)) q tree tree.length pos 0) (l.map Ja) (out.map jR) (fun _=>Bo o q tree tree.length pos 0):=va _ _ _ _ _ (l,out,o) hy;refine tR (KK:=8) (T:=[some (.cells [.nils]),some (.cells [.msl 0 1 0 tree.length]),some (.cells [.i 0])]) (J:=fun i h=>∃ s,Bn (P0 n tree.length) (l.drop i) s=some (V0 l)/\ h=Pz tree.length s) R7 (by kernel_rfl) HY rfl (by kernel_rfl) (by kernel_rfl) (fun x hx=>by obtain ⟨z,_,rfl⟩:=zEK.1 hx;rfl) (by kernel_rfl) (show 5<=8 by decide) ⟨.s0,zBB g2,rfl⟩ (fun i h=>by rintro ⟨s,_,rfl⟩;cases s <;> exact ⟨_,rfl⟩) (sO Ja l (P0 n tree.length) (Pz tree.length) (fun BE=>AG 33 [(6,.ref 5 0),(7,.ref 6 0),(8,.ref 7 0),(25,.fn 56 4 (L1 [.ref 1 0,.ref 2 0,.ref 3 0,.ref 4 0])),(26,.agg 3 (L1 [.ints BE.1,.ints BE.2.1,.i BE.2.2]))]) (fun l B N x s r h=>zA8 n tree.length l B N x s r h) (by kernel_rfl)) fun D T' ρ8 e w8 hj R8 fM wF hD IT he=>?_
 obtain ⟨s,hs,hT⟩:=hj;rw [zAn,zFx] at hs;cases hs;have eT:T'=(Pz tree.length (V0 l)).drop 5:=by rw [←hT];rfl
 subst eT;have Ul:=(((((((DF.trans Ir).trans FT).trans YP).trans YO).trans fI).trans fN).trans fM);have Ct:GG.ng<=D:=zAk (GG.lo _ R7.hr.gi) IT;have Hv:w0.heap.size<=D:=zAk (((((((DF.trans Ir).trans FT).trans YP).trans YO).trans fI).trans fN).upd.size) IT;have S6:a6.defers= [{ target:=.fn (.func 36) #[a3.tmps.getD 6 undef,a3.tmps.getD 7 undef,a3.tmps.getD 8 undef],args:=#[] }]:=by rw [S6,hd5,Kd,hd3,S7,HJ,Wh];simp [Act.eval]
 have R9:AT Tryz.prog GG N ⟨AG 33 [(6,.ref 5 0),(7,.ref 6 0),(8,.ref 7 0)],Bo o q tree tree.length pos 0++(Pz tree.length (V0 l)).drop 5⟩ ρ8 { a6 with defers:={ target:=.collected D,args:=#[] }::a6.defers } w8:=R8.forg [6,7,8] rfl (by kernel_rfl);have F9:=TP (L:=8) F7 (by kernel_rfl) R8.hr fM wF;rcases he with ⟨v,rfl,ho⟩ | ⟨rfl,ho⟩
 ·have ho:out.isSome=true:=by simpa using ho
  simp only [ho,zEG];cases l with
  | nil=>exact su R0.hr Ul R9 hD Ct Hv g1 (by show _::a6.defers=_;rw [S6])
  | cons x t=>exact sr x t R0.hr Ul R9 hD Ct Hv g1 (by show _::a6.defers=_;rw [S6])
 ·have ho:out.isSome=false:=by simpa using ho
  simp only [ho,zDs,zEg]
  show LeavesInM _ _ _ _ _ _ (_::a6.defers) _ _
  rw [S6];cases l with
  | nil=>exact uE R0.hr Ul ⟨R9.hr,R9.fr⟩ hD Ct Hv F9
  | cons x t=>exact uD x t R0.hr Ul ⟨R9.hr,R9.fr⟩ hD Ct Hv F9
def Gj (n:Nat) (q:AA) (pos:List Int) (tree:List (Int×Int)):Option ((List ((List Int)×(List Int)×Int))×(List Int)×Int):=
 (Iq n q pos tree).bind fun y1=>
  bif (y1 != 0) then
   some ([],[],y1)
  else
   if ((tree.length:Int):Int)=(tree.length:Int)/\ 0<=(tree.length:Int)/\ ((tree.length:Int):Int)<=1000000000000 then
    (Lf n (List.replicate tree.length (0:Int)) q tree tree.length pos).bind fun y=>
     if tree.length=y.2.2.length/\ y.1.length<=BB then
      some (if y.2.1.isSome then y.1 else [],if y.2.1.isSome then y.2.2 else [],if y.2.1.isSome then 0 else 280)
     else none
   else none
theorem W0 {n:Nat} {q:AA} {pos:List Int} {tree:List (Int×Int)} {r:(List ((List Int)×(List Int)×Int))×(List Int)×Int} (h:Gj n q pos tree=some r):EQ 26 [.agg 5 (L1 (AC q)),.ints pos,.sl 2 tree.length (AQ Aw tree)] [] (.tup 3 (L1 [.sl 3 r.1.length (AQ (fun (x:(List Int)×(List Int)×Int)=>[.ints x.1,.ints x.2.1,.i x.2.2]) r.1),.ints r.2.1,.i r.2.2])) [] true:=by
 unfold Gj at h;obtain ⟨y1,A5,h⟩:=FM h;rcases Bt h with ⟨c0,h⟩ | ⟨c0,h⟩
 ·refine zA7 (n:=n) ?_;unfold bp bo;rw [A5]
  show (bif (y1 != 0) then _ else _)=_
  rw [c0];exact h
 ·have e0:y1=0:=by simpa using c0
  subst e0;obtain ⟨g0,h⟩:=Bu h;obtain ⟨⟨l,out,o⟩,hy,h⟩:=FM h;obtain ⟨⟨g1,g2⟩,h⟩:=Bu h;cases h;have au:(Tryz.f26.name== "runtime.NumGoroutine")=false:=by kernel_rfl
  refine ⟨⟨Tryz.f26,Tryz.func26,by simpa using au,by kernel_rfl⟩,fun N ρ w args HR Ch=>(zF8 (n:=0)).1 (callsIn_of_wp_marks (c:=AY Tryz.f26) Tryz.func26 (by kernel_rfl) trivial ?_)⟩;refine zA6 A5 g0 hy g1 g2 (N:=N) (ρ0:=ρ) ⟨HR,?_⟩ rfl;have Ap:([.agg 5 (L1 (AC q)),.ints pos,.sl 2 tree.length (AQ Aw tree)]:List DV).length=args.size:=Ch.1;have e:([.agg 5 (L1 (AC q)),.ints pos,.sl 2 tree.length (AQ Aw tree)]:List DV)++List.replicate (Tryz.f26.ntmps-([.agg 5 (L1 (AC q)),.ints pos,.sl 2 tree.length (AQ Aw tree)]:List DV).length) .any=AG 33 [(0,.agg 5 (L1 (AC q))),(1,.ints pos),(2,.sl 2 tree.length (AQ Aw tree))]:=by kernel_rfl
  rw [←e,Ap];exact BC.append Ch (BC.anys _ _ _ _)
end Go.Proofs.YtkjbblkieglmlaaGreatDoor
namespace Go.Proofs.YtkjbblkieglmlaaGreatDoor
open Go.RowKit
def uV (q:AA) (g:List Int):Prop:=Gd q g/\ dJ q g
inductive Tk (q:AA) (tree:List (Int×Int)):Option (Nat×List Nat) -> List Int -> Nat -> Nat -> List Int -> Nat -> List Au -> List Int -> Prop
 | prune {pos p2:List Int} {a d:Nat} {e:List Int} {v:Nat} {l:List Au} {e2:List Int}:a<tree.length -> (tree.getD a default).1=1 -> B7 q (tree.getD a default).2 pos -> PR q (con q (tree.getD a default).2) pos p2 -> Tk q tree none p2 (a+1) d e v l e2 -> Tk q tree none pos a d e v l (e2.set a (v:Int))
 | split {pos:List Int} {a d:Nat} {e:List Int} {v:Nat} {l:List Au} {e2:List Int} {c:Nat}:posOk q pos=true -> a<tree.length -> tree.getD a default=(2,(c:Int)) -> c<pos.length -> EX pos=false -> 2<=(Cd (pos.getD c 0) 0).length -> Tk q tree (some (c,Cd (pos.getD c 0) 0)) pos (a+1) (d+1) e v l e2 -> Tk q tree none pos a d e v l (e2.set a (v:Int))
 | dead {pos:List Int} {a d:Nat} {e:List Int}:posOk q pos=true -> a<tree.length -> tree.getD a default=(3,0) -> EX pos=true -> Tk q tree none pos a d e (a+1) [(List.replicate pos.length 0,[],(d:Int))] (e.set a ((a+1:Nat):Int))
 | done {pos:List Int} {a d:Nat} {e g:List Int}:posOk q pos=true -> a<tree.length -> tree.getD a default=(4,0) -> Hb pos=some g -> uV q g -> Tk q tree none pos a d e (a+1) [(pos,g,(d:Int))] (e.set a ((a+1:Nat):Int))
 | nil {pos:List Int} {a d:Nat} {e:List Int} {c:Nat}:Tk q tree (some (c,[])) pos a d e a [] e
 | cons {pos:List Int} {a d:Nat} {e:List Int} {c s v w:Nat} {ss:List Nat} {l l2:List Au} {e2 e3:List Int}:Tk q tree none (JY pos c s) a d e v l e2 -> Tk q tree (some (c,ss)) pos v d e2 w l2 e3 -> Tk q tree (some (c,s::ss)) pos a d e w (l++l2) e3
def RP (L a:Nat) (T:Nat -> List Au -> List Int -> Prop) (r:YR Au Int (List Int)):Prop:=
 r.2.2.length=L/\ r.1.length+a<=L/\ ∀ x,r.2.1=some x -> ∃ v:Nat,x=(v:Int)/\ a<=v/\ v<=L/\ r.1.length+a<=v/\ T v r.1 r.2.2
theorem RP.fail {L a:Nat} {T:Nat -> List Au -> List Int -> Prop} {l:List Au} {o:List Int} (ho:o.length=L) (hl:l.length+a<=L):RP L a T (l,none,o):=⟨ho,hl,fun x h=>by cases h⟩
theorem px {x:Int} {k:Nat} (h:Sm k x) (hk:k<=62):Cd x k= []:=by
 unfold Cd;rw [zFo];intro s hs;have:=zFp.1 hs;rw [h.hi this.1];decide
theorem fe {k x:Int} (h1:1<=k/\ k<=16) (h:Sm k.toNat x):Sm 16 x:=
 Qz (by decide) (h.in64 (by omega)) fun i hi _=>h.hi (by omega)
section
variable {q:AA} {tree:List (Int×Int)} {pos0:List Int} {pos e:List Int} {a d:Nat}
theorem Vn {A:Nat -> Option (YR Au Int (List Int))} {r0:YR Au Int (List Int)} (ha:a<tree.length) (h1:Ev A r0) (h2:RP tree.length a (fun v l o=>a<v/\ Tk q tree none pos a d e v l (o.set a (v:Int))) r0): ∃ r,Ev (fun n=>yb (A n) fun y1 o1=>if (0<=(a:Int)/\ (a:Int)<(tree.length:Int))/\ 0+((a:Int).toNat)<o1.length then Fo (B4 n) pos a d e q tree tree.length pos0 n (.l1 (o1.set (0+((a:Int).toNat)) y1)) else none) r/\ RP tree.length a (fun v l o=>a<v/\ Tk q tree none pos a d e v l o) r:=by
 obtain ⟨l,out,o⟩:=r0;obtain ⟨N,hN⟩:=h1;obtain ⟨g1,g2,g3⟩:=h2;cases out with
 | none=>
  refine ⟨(l,none,o),⟨N,fun n hn=>?_⟩,RP.fail g1 g2⟩
  show yb (A n) _=_
  rw [hN n hn];rfl
 | some x=>
  obtain ⟨v,rfl,v1,v2,v3,v4,v5⟩:=g3 x rfl;have g1:o.length=tree.length:=g1;refine ⟨(l,some (v:Int),o.set a (v:Int)),⟨N+1,fun n hn=>?_⟩,by rw [zAl];exact g1,g2,fun x hx=>?_⟩
  ·obtain ⟨k,rfl⟩: ∃ k,n=k+1:=⟨n-1,by omega⟩
   show yb (A (k+1)) _=_
   rw [hN (k+1) (by omega)]
   show (if _ then _ else none).map _=_
   rw [zAB ⟨by omega,by omega⟩,zAO,zAj]
   show (SD k (B4 (k+1)) (Fo (B4 (k+1)) pos a d e q tree tree.length pos0 k) pos a d e q tree tree.length pos0 (o.set a (v:Int))).map _=_
   unfold SD;rw [zAB ⟨by omega,by rw [zAl];omega⟩,zAO,zAj,JW (by omega)];simp
  ·cases hx;exact ⟨v,rfl,v1,v2,v3,v4,v5⟩
theorem pQ (hF:EM q) (hv:CM q=true) (hp:posOk q pos=true) {nd:Int×Int} {c:Nat} (hc:nd.2=(c:Int)) (A4:c<pos.length) (hd:d<=65536)
 (ih: ∀ (p:List Int) (b:Nat) (o:List Int),posOk q p=true -> a<b -> b<=tree.length -> o.length=tree.length -> ∃ r,Ev (fun n=>B4 n p b ((d+1:Nat):Int) o q tree tree.length pos0) r/\ RP tree.length b (fun v l o2=>b<v/\ Tk q tree none p b (d+1) o v l o2) r):
 ∀ (k j b:Nat) (o:List Int),j+k=q.symbols.toNat -> a<b -> b<=tree.length -> o.length=tree.length -> ∃ r,(∃ N,∀ n m,N<=n -> N<=m -> G4 (B4 m) e q tree tree.length pos0 pos a d nd n (.l1 (b:Int) (j:Int) o)=some r)/\ RP tree.length b (fun v l o2=>Tk q tree (some (c,Cd (pos.getD c 0) j)) pos b (d+1) o v l o2) r:=by
 obtain ⟨h1,h2⟩:=(I3 hv).1 hp;obtain ⟨_,Nl,_⟩:=Fg hv;have hx:=h2 c A4;intro k
 induction k with
 | zero=>
  intro j b o ej hb N6 ho;refine ⟨([],some (b:Int),o),⟨1,fun n m hn _=>?_⟩,ho,by simpa using N6,fun x Ll=>?_⟩
  ·obtain ⟨n,rfl⟩: ∃ k,n=k+1:=⟨n-1,by omega⟩
   show Ms n (B4 m) (G4 (B4 m) e q tree tree.length pos0 pos a d nd n) e q tree tree.length pos0 pos a d nd (b:Int) (j:Int) o=_
   unfold Ms;rw [zAE (by omega),zAC]
  ·cases Ll
   have:Cd (pos.getD c 0) j= []:=by
    have:j=q.symbols.toNat:=by omega
    rw [this];exact px hx (by omega)
   rw [this];exact ⟨b,rfl,zAm _,N6,by simp,.nil⟩
 | succ k hk=>
  intro j b o ej hb N6 ho
  have step: ∀ n m,G4 (B4 m) e q tree tree.length pos0 pos a d nd (n+1) (.l1 (b:Int) (j:Int) o)=bif tb (pos.getD c 0) j then (OC n q pos c j).bind (fun y1=>bif (y1.2==0) then yb (B4 m y1.1 b ((d+1:Nat):Int) o q tree tree.length pos0) (fun y2 o2=>G4 (B4 m) e q tree tree.length pos0 pos a d nd n (.l1 y2 ((j+1:Nat):Int) o2)) else some ([],none,o)) else G4 (B4 m) e q tree tree.length pos0 pos a d nd n (.l1 (b:Int) ((j+1:Nat):Int) o):=by
   intro n m
   show Ms n (B4 m) (G4 (B4 m) e q tree tree.length pos0 pos a d nd n) e q tree tree.length pos0 pos a d nd (b:Int) (j:Int) o=_
   unfold Ms;have r1:AL ((j:Int)+1):=A0.2 ⟨by omega,by omega⟩;have r2:AL ((d:Int)+1):=A0.2 ⟨by omega,by omega⟩;rw [zAT (by omega),zAK,zAB ⟨by omega,by omega,by show (j:Int)<=((64:Nat):Int);omega⟩,hc,zAO,zAO,Yb hx (by omega) (by omega)];simp only [zAB r1,zAB r2];rfl
  have KV:Cd (pos.getD c 0) j=if tb (pos.getD c 0) j then j::Cd (pos.getD c 0) (j+1) else Cd (pos.getD c 0) (j+1):=fu (by omega)
  cases S8:tb (pos.getD c 0) j with
  | false=>
   obtain ⟨r,⟨N,hN⟩,hr⟩:=hk (j+1) b o (by omega) hb N6 ho;rw [KV,S8];refine ⟨r,⟨N+1,fun n m hn hm=>?_⟩,hr⟩;obtain ⟨n,rfl⟩: ∃ k,n=k+1:=⟨n-1,by omega⟩;rw [step,S8,zAC];exact hN n m (by omega) (by omega)
  | true=>
   obtain ⟨⟨l,out,o1⟩,⟨N,hN⟩,g1,g2,g3⟩:=ih (JY pos c j) b o (zA3 hv hp A4 (by omega)) hb N6 ho;have TD: ∀ n,N<=n -> B4 n (JY pos c j,(0:Int)).1 b ((d+1:Nat):Int) o q tree tree.length pos0=some (l,out,o1):=hN;have fx: ∀ n,E8 q+300<=n -> OC n q pos c j=some (JY pos c j,0):=fun n hn=>zBD hF hv hp A4 (by omega) hn
   rw [KV,S8];cases out with
   | none=>
    refine ⟨(l,none,o1),⟨N+E8 q+301,fun n m hn hm=>?_⟩,RP.fail g1 g2⟩;obtain ⟨n,rfl⟩: ∃ k,n=k+1:=⟨n-1,by omega⟩;rw [step,S8,zAK,fx n (by omega),zAA];rw [show ((JY pos c j,(0:Int)).2==0)=true from rfl,zAK,TD m (by omega)];rfl
   | some x=>
    obtain ⟨v,rfl,v1,v2,v3,v4,v5⟩:=g3 x rfl;obtain ⟨⟨l2,IM,o2⟩,⟨M,hM⟩,w1,w2,w3⟩:=hk (j+1) v o1 (by omega) (by omega) v2 g1;have v3:l.length+b<=v:=v3;have w2:l2.length+v<=tree.length:=w2;refine ⟨(l++l2,IM,o2),⟨N+M+E8 q+301,fun n m hn hm=>?_⟩,w1,by rw [zAh];omega,fun y hy=>?_⟩
    ·obtain ⟨n,rfl⟩: ∃ k,n=k+1:=⟨n-1,by omega⟩;rw [step,S8,zAK,fx n (by omega),zAA];rw [show ((JY pos c j,(0:Int)).2==0)=true from rfl,zAK,TD m (by omega)]
     show (G4 _ _ _ _ _ _ _ _ _ _ _ _).map _=_
     rw [hM n m (by omega) (by omega)];rfl
    ·obtain ⟨w,rfl,u1,u2,u3,u4⟩:=w3 y hy;have u3:l2.length+v<=w:=u3;exact ⟨w,rfl,by omega,u2,by rw [zAh];omega,.cons v5 u4⟩
theorem ul (hF:EM q) (hv:CM q=true) (hT:tree.length<=65536): ∀ (m a d:Nat) (pos e:List Int),tree.length<=a+m -> posOk q pos=true -> e.length=tree.length -> d<=a -> a<=tree.length -> ∃ r,Ev (fun n=>B4 n pos a d e q tree tree.length pos0) r/\ RP tree.length a (fun v l o=>a<v/\ Tk q tree none pos a d e v l o) r:=by
 intro m
 induction m with
 | zero=>
  intro a d pos e hm hp he hda ha;refine ⟨([],none,e),Ev.step 1 (fun n=>(rfl:_=FF n (B4 n) (Fo (B4 n) pos a d e q tree tree.length pos0 n) pos a d e q tree tree.length pos0)) (Ev.now fun n=>?_),RP.fail he (by simpa using ha)⟩;unfold FF;rw [zAE (by omega),zAC]
 | succ m ih=>
  intro a d pos e hm hp he hda ha
  by_cases AN:a<tree.length
  rotate_left
  ·refine ⟨([],none,e),Ev.step 1 (fun n=>(rfl:_=FF n (B4 n) (Fo (B4 n) pos a d e q tree tree.length pos0 n) pos a d e q tree tree.length pos0)) (Ev.now fun n=>?_),RP.fail he (by simpa using ha)⟩;unfold FF;rw [zAE (by omega),zAC]
  obtain ⟨Ap,CU⟩:=(I3 hv).1 hp;obtain ⟨lA,Nl,_⟩:=Fg hv;have lb:(256:Nat)<=LB:=by decide
  have r1:AL ((a:Int)+1):=A0.2 ⟨by omega,by omega⟩;have failed: ∃ r,Ev (fun _=>some (([],none,e):YR Au Int (List Int))) r/\ RP tree.length a (fun v l o=>a<v/\ Tk q tree none pos a d e v l (o.set a (v:Int))) r:=⟨_,Ev.now fun n=>rfl,RP.fail he (by simpa using ha)⟩
  by_cases k1:(tree.getD a default).1=1
  ·have h1: ∃ r,Ev (fun n=>ZI n (B4 n) e q tree tree.length pos0 pos a d (tree.getD a default)) r/\ RP tree.length a (fun v l o=>a<v/\ Tk q tree none pos a d e v l (o.set a (v:Int))) r:=by
    by_cases N4:Gp q (tree.getD a default).2 pos=0
    ·have C:=B7.of hF N4;obtain ⟨x,KT,Ng⟩:=tY C;obtain ⟨⟨l,out,o⟩,hr,g1,g2,g3⟩:=ih (a+1) d x e (by omega) (Ng.posOk C) he (by omega) (by omega);refine ⟨(l,out,o),Ev.eq (Ev.bind KT (b:=fun n y1=>bif (y1.2==0) then if AL ((a:Int)+1) then yb (B4 n y1.1 ((a:Int)+1) d e q tree tree.length pos0) (fun y2 o2=>some ([],some y2,o2)) else none else some ([],none,e)) ?_) (fun n=>rfl),g1,by have g2:l.length+(a+1)<=tree.length:=g2;show l.length+a<=_;omega,fun y hy=>?_⟩
     ·obtain ⟨N,hN⟩:=hr;refine ⟨N,fun n hn=>?_⟩;have:B4 n x ((a+1:Nat):Int) d e q tree tree.length pos0=_:=hN n hn;rw [show ((a+1:Nat):Int)=(a:Int)+1 by omega] at this
      show (if AL ((a:Int)+1) then yb (B4 n x ((a:Int)+1) d e q tree tree.length pos0) (fun y2 o2=>some ([],some y2,o2)) else none)=_
      rw [zAB r1,this];cases out <;> simp [yb]
     ·obtain ⟨v,rfl,v1,v2,v3,v4,v5⟩:=g3 y hy;have v3:l.length+(a+1)<=v:=v3;exact ⟨v,rfl,by omega,v2,by show l.length+a<=v;omega,by omega,.prune AN k1 C Ng v5⟩
    ·obtain ⟨e',GQ,h1⟩:=tZ (a:=pos) hF (by omega) N4;refine ⟨([],none,e),Ev.eq (Ev.bind h1 (b:=fun n y1=>bif (y1.2==0) then if AL ((a:Int)+1) then yb (B4 n y1.1 ((a:Int)+1) d e q tree tree.length pos0) (fun y2 o2=>some ([],some y2,o2)) else none else some ([],none,e)) (Ev.now fun n=>?_)) (fun n=>rfl),RP.fail he (by simpa using ha)⟩
     show (bif (e'==0) then _ else _)=_
     rw [zDr.2 GQ,zAC]
   obtain ⟨r0,e0,p0⟩:=h1;obtain ⟨r,e1,p1⟩:=Vn (pos0:=pos0) AN e0 p0;refine ⟨r,Ev.step 1 (fun n=>(rfl:_=FF n (B4 n) (Fo (B4 n) pos a d e q tree tree.length pos0 n) pos a d e q tree tree.length pos0)) (Ev.eq e1 fun n=>?_),p1⟩;unfold FF;rw [zAT (by omega),zAK,zAB ⟨by omega,by omega⟩];simp only [zAO,k1];rfl
  by_cases k2:(tree.getD a default).1=2
  ·have h1: ∃ r,Ev (fun n=>LA n (B4 n) e q tree tree.length pos0 pos a d (tree.getD a default)) r/\ RP tree.length a (fun v l o=>a<v/\ Tk q tree none pos a d e v l (o.set a (v:Int))) r:=by
    by_cases c0:(tree.getD a default).2>=0
    rotate_left
    ·refine ⟨([],none,e),Ev.now fun n=>?_,RP.fail he (by simpa using ha)⟩;unfold LA K9;rw [zAE c0,zAC]
    by_cases c1:(tree.getD a default).2<(pos.length:Int)
    rotate_left
    ·refine ⟨([],none,e),Ev.now fun n=>?_,RP.fail he (by simpa using ha)⟩;unfold LA K9;rw [zAT c0,zAK,zAE c1,zAC]
    have Pm: ∀ n,pos.length<n -> JF n pos=some (EX pos):=fun n hn=>SW (by omega) hn
    obtain ⟨c,hc⟩: ∃ c:Nat,(tree.getD a default).2=(c:Int):=⟨(tree.getD a default).2.toNat,by omega⟩;cases JQ:EX pos with
    | true=>
     refine ⟨([],none,e),Ev.from (pos.length+1) fun n hn=>?_,RP.fail he (by simpa using ha)⟩;unfold LA K9;rw [zAT c0,zAK,zAT c1,zAK,Pm n (by omega),zAA,JQ];rfl
    | false=>
     have A4:c<pos.length:=by omega
     obtain ⟨N,hN⟩:=pq (fe Nl (CU c A4));have hN: ∀ n,N<=n -> Q1 n (pos.getD c 0)=_:=hN
     by_cases h2:2<=(Cd (pos.getD c 0) 0).length
     ·obtain ⟨r,⟨M,hM⟩,g1,g2,g3⟩:=pQ (pos0:=pos0) (a:=a) (d:=d) (e:=e) (tree:=tree) hF hv hp hc A4 (by omega) (fun p b o hp hb N6 ho=>ih b (d+1) p o (by omega) hp ho (by omega) N6) q.symbols.toNat 0 (a+1) e (by omega) (by omega) (by omega) he;refine ⟨r,Ev.from (N+M+pos.length+1) fun n hn=>?_,g1,by omega,fun x hx=>?_⟩
      ·unfold LA K9;have hN:=hN n (by omega);rw [zAT c0,zAK,zAT c1,zAK,Pm n (by omega),zAA,JQ,zEC,zAK,zAB ⟨c0,c1⟩,hc,zAO,hN,zAA,zAT (by omega),zAK,zAB r1];exact hM n n (by omega) (by omega)
      ·obtain ⟨v,rfl,v1,v2,v3,v4⟩:=g3 x hx;exact ⟨v,rfl,by omega,v2,by omega,by omega,.split hp AN (Prod.ext k2 hc) A4 JQ h2 v4⟩
     ·refine ⟨([],none,e),Ev.from (N+pos.length+1) fun n hn=>?_,RP.fail he (by simpa using ha)⟩;unfold LA K9;have hN:=hN n (by omega);rw [zAT c0,zAK,zAT c1,zAK,Pm n (by omega),zAA,JQ,zEC,zAK,zAB ⟨c0,c1⟩,hc,zAO,hN,zAA,zAE (by omega),zAC]
   obtain ⟨r0,e0,p0⟩:=h1;obtain ⟨r,e1,p1⟩:=Vn (pos0:=pos0) AN e0 p0;refine ⟨r,Ev.step 1 (fun n=>(rfl:_=FF n (B4 n) (Fo (B4 n) pos a d e q tree tree.length pos0 n) pos a d e q tree tree.length pos0)) (Ev.eq e1 fun n=>?_),p1⟩;unfold FF;rw [zAT (by omega),zAK,zAB ⟨by omega,by omega⟩];simp only [zAO,k2];rfl
  by_cases k3:(tree.getD a default).1=3
  ·have h1: ∃ r,Ev (fun n=>QD n (B4 n) e q tree tree.length pos0 pos a d (tree.getD a default)) r/\ RP tree.length a (fun v l o=>a<v/\ Tk q tree none pos a d e v l (o.set a (v:Int))) r:=by
    by_cases c0:(tree.getD a default).2=0
    rotate_left
    ·refine ⟨([],none,e),Ev.now fun n=>?_,RP.fail he (by simpa using ha)⟩;unfold QD QC;rw [zDr.2 c0,zAC]
    have Pm: ∀ n,pos.length<n -> JF n pos=some (EX pos):=fun n hn=>SW (by omega) hn
    cases JQ:EX pos with
    | false=>
     refine ⟨([],none,e),Ev.from (pos.length+1) fun n hn=>?_,RP.fail he (by simpa using ha)⟩;unfold QD QC;rw [c0,zET,zAK,Pm n (by omega),zAA,JQ,zAC]
    | true=>
     refine ⟨([(List.replicate pos.length 0,[],(d:Int))],some ((a:Int)+1),e),Ev.from (pos.length+1) fun n hn=>?_,he,by simp;omega,fun x hx=>?_⟩
     ·unfold QD QC;rw [c0,zET,zAK,Pm n (by omega),zAA,JQ,zAK,zAB ⟨by simp,rfl,by omega,by omega⟩,zAB r1];rfl
     ·cases hx;exact ⟨a+1,by omega,by omega,by omega,by simp;omega,by omega,.dead hp AN (Prod.ext k3 c0) JQ⟩
   obtain ⟨r0,e0,p0⟩:=h1;obtain ⟨r,e1,p1⟩:=Vn (pos0:=pos0) AN e0 p0;refine ⟨r,Ev.step 1 (fun n=>(rfl:_=FF n (B4 n) (Fo (B4 n) pos a d e q tree tree.length pos0 n) pos a d e q tree tree.length pos0)) (Ev.eq e1 fun n=>?_),p1⟩;unfold FF;rw [zAT (by omega),zAK,zAB ⟨by omega,by omega⟩];simp only [zAO,k3];rfl
  by_cases k4:(tree.getD a default).1=4
  ·have h1: ∃ r,Ev (fun n=>MJ n (B4 n) e q tree tree.length pos0 pos a d (tree.getD a default)) r/\ RP tree.length a (fun v l o=>a<v/\ Tk q tree none pos a d e v l (o.set a (v:Int))) r:=by
    obtain ⟨N,hS⟩:=pk (pos:=pos) (fun j hj=>fe Nl (CU j hj)) (by omega);have hS: ∀ n,N<=n -> Un n pos=_:=hS
    by_cases c0:(tree.getD a default).2=0
    rotate_left
    ·refine ⟨([],none,e),Ev.from N fun n hn=>?_,RP.fail he (by simpa using ha)⟩;unfold MJ MI;rw [hS n hn,zAA,zDr.2 c0,zAC]
    cases hg:Hb pos with
    | none=>
     refine ⟨([],none,e),Ev.from N fun n hn=>?_,RP.fail he (by simpa using ha)⟩;unfold MJ MI;rw [hS n hn,zAA,c0,zET,zAK,hg];rfl
    | some g=>
     obtain ⟨⟨b,er⟩,⟨M,hM⟩,s1,s2⟩:=pa (q:=q) (g:=g) hF (by have:=fc hg;omega);have hM: ∀ n,M<=n -> LD n q g=some (b,er):=hM
     by_cases k7:er=0
     rotate_left
     ·refine ⟨([],none,e),Ev.from (N+M) fun n hn=>?_,RP.fail he (by simpa using ha)⟩;unfold MJ MI;rw [hS n (by omega),zAA,c0,zET,zAK,hg]
      show (LD n q g).bind _=_
      rw [hM n (by omega),zAA,zDr.2 k7,zAC]
     subst k7;cases b with
     | false=>
      refine ⟨([],none,e),Ev.from (N+M) fun n hn=>?_,RP.fail he (by simpa using ha)⟩;unfold MJ MI;rw [hS n (by omega),zAA,c0,zET,zAK,hg]
      show (LD n q g).bind _=_
      rw [hM n (by omega),zAA];rfl
     | true=>
      refine ⟨([(pos,g,(d:Int))],some ((a:Int)+1),e),Ev.from (N+M) fun n hn=>?_,he,by simp;omega,fun x hx=>?_⟩
      ·unfold MJ MI;rw [hS n (by omega),zAA,c0,zET,zAK,hg]
       show (LD n q g).bind _=_
       rw [hM n (by omega),zAA]
       show yx _ (if _ then _ else none)=_
       rw [zAB r1];rfl
      ·cases hx;exact ⟨a+1,by omega,by omega,by omega,by simp;omega,by omega,.done hp AN (Prod.ext k4 c0) hg ⟨(s1.1 rfl).2,(s2 rfl).1 rfl⟩⟩
   obtain ⟨r0,e0,p0⟩:=h1;obtain ⟨r,e1,p1⟩:=Vn (pos0:=pos0) AN e0 p0;refine ⟨r,Ev.step 1 (fun n=>(rfl:_=FF n (B4 n) (Fo (B4 n) pos a d e q tree tree.length pos0 n) pos a d e q tree tree.length pos0)) (Ev.eq e1 fun n=>?_),p1⟩;unfold FF;rw [zAT (by omega),zAK,zAB ⟨by omega,by omega⟩];simp only [zAO,k4];rfl
  ·refine ⟨([],none,e),Ev.step 1 (fun n=>(rfl:_=FF n (B4 n) (Fo (B4 n) pos a d e q tree tree.length pos0 n) pos a d e q tree tree.length pos0)) (Ev.now fun n=>?_),RP.fail he (by simpa using ha)⟩;unfold FF;rw [zAT (by omega),zAK,zAB ⟨by omega,by omega⟩,zAO]
   by_cases k0:(tree.getD a default).1>=1
   ·rw [zAT k0,zAK,zAE (by omega),zAC]
   ·rw [zAE k0,zAC]
end
end Go.Proofs.YtkjbblkieglmlaaGreatDoor
namespace Go.Proofs.YtkjbblkieglmlaaGreatDoor
open Go.RowKit
set_option maxRecDepth 100000
set_option maxHeartbeats 40000000
def zZ (FS:List ((List Int)×(List Int)×Int)) (Ec:Int):DH:=[some (.cells [.ints ((FS.getD ((Ec).toNat) default).1),.ints ((FS.getD ((Ec).toNat) default).2.1),.i ((FS.getD ((Ec).toNat) default).2.2)])]
inductive Xd where
 | l1 (A7:Int) (FS:List ((List Int)×(List Int)×Int)) (Jn Ec:Int)
def zCg (n:Nat) (self:Xd -> Option (Bool×Int)) (q:AA) (pos:List Int) (tree:List (Int×Int)) (AH:List Int) (A7:Int) (FS:List ((List Int)×(List Int)×Int)) (Jn Ec:Int):Option (Bool×Int):=
 bif (decide (Ec<Jn)) then
  if 0<=Ec/\ Ec<(FS.length:Int) then
   bif (decide (((((FS.getD ((Ec).toNat) default).2.1).length:Nat):Int)>0)) then
    if AL (A7+1) then
     (P8 n ((FS.getD ((Ec).toNat) default).2.1) AH).bind fun y1=>
      bif (!y1) then
       some (false,0)
      else
       if AL (Ec+1) then
        self (.l1 (A7+1) FS Jn (Ec+1))
       else none
    else none
   else
    if AL (Ec+1) then
     self (.l1 A7 FS Jn (Ec+1))
    else none
  else none
 else
  some ((A7==(if (AH.length:Int)<1 then (AH.length:Int) else 1)),0)
def zCh (n:Nat) (self:Xd -> Option (Bool×Int)) (q:AA) (pos:List Int) (tree:List (Int×Int)) (AH:List Int):Option (Bool×Int):=
 (Gj n q pos tree).bind fun y1=>
  bif (y1.2.2==280) then
   some (false,0)
  else
   bif (y1.2.2 != 0) then
    some (false,y1.2.2)
   else
    self (.l1 0 y1.1 (y1.1.length:Int) 0)
def cT (q:AA) (pos:List Int) (tree:List (Int×Int)) (AH:List Int):Nat -> Xd -> Option (Bool×Int)
 | 0,_=>none
 | n+1,.l1 A7 FS Jn Ec=>zCg n (cT q pos tree AH n) q pos tree AH A7 FS Jn Ec
def QK (n:Nat) (q:AA) (pos:List Int) (tree:List (Int×Int)) (AH:List Int):Option (Bool×Int):=zCh n (cT q pos tree AH n) q pos tree AH
def zCi (n B:Nat) (N:Yd 0) (q:AA) (pos:List Int) (tree:List (Int×Int)) (AH:List Int) (r:Bool×Int):Xd -> Prop
 | .l1 A7 FS Jn Ec=>∀ m0:Nat,n<=m0 -> TW B N (FQ Tryz.f12 0 (.tup 2 (L1 [.bool r.1,.i r.2])) []) (A8 m0 (BL (AY Tryz.f12) 0 [])) ⟨AG 51 [(3,.ints AH),(12,.i A7),(28,.sl 3 FS.length (AQ (fun (x:(List Int)×(List Int)×Int)=>[.ints x.1,.ints x.2.1,.i x.2.2]) FS)),(29,.i Jn),(30,.i Ec)],[]⟩
theorem zCj (B:Nat) (N:Yd 0) (q:AA) (pos:List Int) (tree:List (Int×Int)) (AH:List Int):Al (cT q pos tree AH) (zCi · B N q pos tree AH):=ia (fun _=>rfl) fun n AK pt r h=>by
 cases pt
 case l1 A7 FS Jn Ec=>
  intro m0 AD;refine rd AD fun m0 AD=>?_
  revert r;apply gO;exact bi 31 (gi (jt (bi 37 (gw 39 (cf mH (zZ FS Ec) fun _=>bi 44 (lE AE [8,9] []) (gw 45 (lG AE [] (AK _ _ · m0 AD))))) (gw 45 (lG AE [] (AK _ _ · m0 AD)))))) (lE AE [8,9] [])
theorem Tv {n:Nat} {q:AA} {pos:List Int} {tree:List (Int×Int)} {AH:List Int} {r:Bool×Int} (h:QK n q pos tree AH=some r):EQ 12 [.agg 5 (L1 (AC q)),.ints pos,.sl 2 tree.length (AQ Aw tree),.ints AH] [] (.tup 2 (L1 [.bool r.1,.i r.2])) [] true:=by
 refine ot Tryz.func12 fun B N=>?_
 revert r;apply gO;exact cf W0 [some (.cells (AC q))] fun _=>bi 24 (lE AE [8,9] []) (bi 26 (lE AE [8,9] []) (lN AE [] ((zCj B N q pos tree AH n) _ _ · n Nat.le.refl)))
inductive SQ where
 | l1 (x7:Int) (x20:List ((List Int)×(List Int)×Int)) (x21:Int)
 | l2 (x6:Nat) (x7:Int) (x20:List ((List Int)×(List Int)×Int)) (x21 CX:Int) (o0:List (List Int))
def Vy (n:Nat) (self:SQ -> Option ((List (List Int))×Int)) (q:AA) (pos:List Int) (tree:List (Int×Int)) (x7:Int) (x20:List ((List Int)×(List Int)×Int)) (x21:Int):Option ((List (List Int))×Int):=
 bif (decide (0<x21)) then
  if (0:Int)<=0/\ 0<(x20.length:Int) then
   self (.l2 (([(x20.getD 0 default).1]:List (List Int)).length) x7 x20 x21 1 ([(x20.getD 0 default).1]:List (List Int)))
  else none
 else
  some (([]:List (List Int)),x7)
def SP (n:Nat) (self:SQ -> Option ((List (List Int))×Int)) (q:AA) (pos:List Int) (tree:List (Int×Int)) (x6:Nat) (x7:Int) (x20:List ((List Int)×(List Int)×Int)) (x21 CX:Int) (o0:List (List Int)):Option ((List (List Int))×Int):=
 bif (decide (CX<x21)) then
  if (0<=CX/\ CX<(x20.length:Int))/\ x6=o0.length/\ o0.length+([(x20.getD ((CX).toNat) default).1]:List (List Int)).length<=BB/\ AL (CX+1) then
   self (.l2 (o0.length+([(x20.getD ((CX).toNat) default).1]:List (List Int)).length) x7 x20 x21 (CX+1) (o0++([(x20.getD ((CX).toNat) default).1]:List (List Int))))
  else none
 else
  if x6=o0.length then
   some (o0,x7)
  else none
def vf (n:Nat) (self:SQ -> Option ((List (List Int))×Int)) (q:AA) (pos:List Int) (tree:List (Int×Int)):Option ((List (List Int))×Int):=
 (Gj n q pos tree).bind fun y1=>
  self (.l1 y1.2.2 y1.1 (y1.1.length:Int))
def JD (q:AA) (pos:List Int) (tree:List (Int×Int)):Nat -> SQ -> Option ((List (List Int))×Int)
 | 0,_=>none
 | n+1,.l1 x7 x20 x21=>Vy n (JD q pos tree n) q pos tree x7 x20 x21
 | n+1,.l2 x6 x7 x20 x21 CX o0=>SP n (JD q pos tree n) q pos tree x6 x7 x20 x21 CX o0
def Hl (n:Nat) (q:AA) (pos:List Int) (tree:List (Int×Int)):Option ((List (List Int))×Int):=vf n (JD q pos tree n) q pos tree
def vg (n B:Nat) (N:Yd 0) (q:AA) (pos:List Int) (tree:List (Int×Int)) (r:(List (List Int))×Int):SQ -> Prop
 | .l1 x7 x20 x21=>∀ m0:Nat,n<=m0 -> TW B N (FQ Tryz.f14 0 (.tup 2 (L1 [.sl 1 r.1.length (AQ Be r.1),.i r.2])) []) (A8 m0 (BL (AY Tryz.f14) 0 [])) ⟨AG 34 [(6,.nils),(7,.i x7),(20,.sl 3 x20.length (AQ (fun (x:(List Int)×(List Int)×Int)=>[.ints x.1,.ints x.2.1,.i x.2.2]) x20)),(21,.i x21),(22,.i 0)],[]⟩
 | .l2 x6 x7 x20 x21 CX o0=>∀ m0:Nat,n<=m0 -> TW B N (FQ Tryz.f14 0 (.tup 2 (L1 [.sl 1 r.1.length (AQ Be r.1),.i r.2])) []) (A8 m0 (BL (AY Tryz.f14) 0 [])) ⟨AG 34 [(6,.msl 0 1 0 x6),(7,.i x7),(20,.sl 3 x20.length (AQ (fun (x:(List Int)×(List Int)×Int)=>[.ints x.1,.ints x.2.1,.i x.2.2]) x20)),(21,.i x21),(22,.i CX)],[some (.arr 1 o0.length (AQ Be o0))]⟩
theorem vh (B:Nat) (N:Yd 0) (q:AA) (pos:List Int) (tree:List (Int×Int)):Al (JD q pos tree) (vg · B N q pos tree):=ia (fun _=>rfl) fun n AK pt r h=>by
 cases pt
 case l1 x7 x20 x21=>
  intro m0 AD;refine rd AD fun m0 AD=>?_
  revert r;apply gO;exact bi 23 (gi (jt (ja 29 1 1 (ER (c:=Be) (L:=([(x20.getD 0 default).1]:List (List Int))) (vals:=[.ints ((x20.getD 0 default).1)]) rfl ⟨⟨_,rfl,⟨At,trivial⟩⟩,trivial⟩) (jg (And.intro (And.intro (And.intro (Eq.refl 0) (Eq.refl 1)) (I6 Be ([(x20.getD 0 default).1]:List (List Int)) (([(x20.getD 0 default).1]:List (List Int)).length) 1 fun _=>⟨rfl,rfl⟩)) (And.intro (by decide:0<1) (by decide:1<=BB))) (lG AE [2] (AK _ _ · m0 AD)))))) (lF fun p=>el AE [6,7] [] p [] H0 [.nils,.i x7] (AS.tupL (l:=[.nils,.i x7]) (l':=[.sl 1 (([]:List (List Int)).length) (AQ Be ([]:List (List Int))),.i x7]) rfl ⟨(AS.sl_nil _ _),At,trivial⟩))
 case l2 x6 x7 x20 x21 CX o0=>
  intro m0 AD;refine rd AD fun m0 AD=>?_
  revert r;apply gO;exact bi 23 (gc (gi (jt (ja 29 2 1 (ER (c:=Be) (L:=([(x20.getD ((CX).toNat) default).1]:List (List Int))) (vals:=[.ints ((x20.getD ((CX).toNat) default).1)]) rfl ⟨⟨_,rfl,⟨At,trivial⟩⟩,trivial⟩) (gc (gn fun g1=>gc (gn fun g2=>jg (And.intro (And.intro (And.intro (Eq.refl 0) (Eq.refl 1)) (I6 Be ([(x20.getD ((CX).toNat) default).1]:List (List Int)) (([(x20.getD ((CX).toNat) default).1]:List (List Int)).length) 1 fun _=>⟨rfl,rfl⟩)) (And.intro (And.intro (Eq.refl 0) g1) g2)) (ja 30 3 1 (LM (enc:=(MG Be)) (L:=o0) (L':=([(x20.getD ((CX).toNat) default).1]:List (List Int))) rfl rfl fun _ _ _ _=>At) (gw 31 (lG AE [3] (AK _ _ · m0 AD))))))))))) (gn fun g0=>lF fun p=>ez AE [6,7] [0] p [0] (H0.g g0))
theorem Lg {n:Nat} {q:AA} {pos:List Int} {tree:List (Int×Int)} {r:(List (List Int))×Int} (h:Hl n q pos tree=some r):EQ 14 [.agg 5 (L1 (AC q)),.ints pos,.sl 2 tree.length (AQ Aw tree)] [] (.tup 2 (L1 [.sl 1 r.1.length (AQ Be r.1),.i r.2])) [] true:=by
 refine ot Tryz.func14 fun B N=>?_
 revert r;apply gO;exact cf W0 [some (.cells (AC q))] fun _=>lN AE [] ((vh B N q pos tree n) _ _ · n Nat.le.refl)
def i7 (n:Nat) (q:AA) (pos:List Int) (tree:List (Int×Int)) (AF:Int):Option (Int×Int):=
 (Gj n q pos tree).bind fun y1=>
  bif (y1.2.2 != 0) then
   some (0,y1.2.2)
  else
   bif (decide (AF<0)) then
    some (0,1)
   else
    bif (decide (AF>=(y1.2.1.length:Int))) then
     some (0,1)
    else
     if 0<=AF/\ AF<(y1.2.1.length:Int) then
      some (y1.2.1.getD ((AF).toNat) 0,0)
     else none
def Zk (n:Nat) (q:AA) (pos:List Int) (tree:List (Int×Int)) (AF:Int):Option (Int×Int):=i7 n q pos tree AF
theorem ut {n:Nat} {q:AA} {pos:List Int} {tree:List (Int×Int)} {AF:Int} {r:Int×Int} (h:Zk n q pos tree AF=some r):EQ 16 [.agg 5 (L1 (AC q)),.ints pos,.sl 2 tree.length (AQ Aw tree),.i AF] [] (.tup 2 (L1 [.i r.1,.i r.2])) [] true:=by
 unfold Zk i7 at h;refine ot Tryz.func16 fun B N=>?_
 revert r;apply gO;exact cf W0 [some (.cells (AC q))] fun _=>bi 21 (lE AE [8,9] []) (bi 24 (lE AE [8,9] []) (bi 29 (lE AE [8,9] []) (gi (lE AE [8,9] []))))
inductive XM where
 | l1 (x6 x7:Int) (x20:List ((List Int)×(List Int)×Int)) (x21 CX:Int)
def zBx (n:Nat) (self:XM -> Option (Int×Int)) (q:AA) (pos:List Int) (tree:List (Int×Int)) (x6 x7:Int) (x20:List ((List Int)×(List Int)×Int)) (x21 CX:Int):Option (Int×Int):=
 bif (decide (CX<x21)) then
  if (0<=CX/\ CX<(x20.length:Int))/\ AL (CX+1) then
   self (.l1 (if ((x20.getD ((CX).toNat) default).2.2)>x6 then ((x20.getD ((CX).toNat) default).2.2) else x6) x7 x20 x21 (CX+1))
  else none
 else
  some (x6,x7)
def zBy (n:Nat) (self:XM -> Option (Int×Int)) (q:AA) (pos:List Int) (tree:List (Int×Int)):Option (Int×Int):=
 (Gj n q pos tree).bind fun y1=>
  self (.l1 0 y1.2.2 y1.1 (y1.1.length:Int) 0)
def cE (q:AA) (pos:List Int) (tree:List (Int×Int)):Nat -> XM -> Option (Int×Int)
 | 0,_=>none
 | n+1,.l1 x6 x7 x20 x21 CX=>zBx n (cE q pos tree n) q pos tree x6 x7 x20 x21 CX
def mX (n:Nat) (q:AA) (pos:List Int) (tree:List (Int×Int)):Option (Int×Int):=zBy n (cE q pos tree n) q pos tree
def zBz (n B:Nat) (N:Yd 0) (q:AA) (pos:List Int) (tree:List (Int×Int)) (r:Int×Int):XM -> Prop
 | .l1 x6 x7 x20 x21 CX=>∀ m0:Nat,n<=m0 -> TW B N (FQ Tryz.f18 0 (.tup 2 (L1 [.i r.1,.i r.2])) []) (A8 m0 (BL (AY Tryz.f18) 0 [])) ⟨AG 33 [(6,.i x6),(7,.i x7),(20,.sl 3 x20.length (AQ (fun (x:(List Int)×(List Int)×Int)=>[.ints x.1,.ints x.2.1,.i x.2.2]) x20)),(21,.i x21),(22,.i CX)],[]⟩
theorem zB0 (B:Nat) (N:Yd 0) (q:AA) (pos:List Int) (tree:List (Int×Int)):Al (cE q pos tree) (zBz · B N q pos tree):=ia (fun _=>rfl) fun n AK pt r h=>by
 cases pt
 case l1 x6 x7 x20 x21 CX=>
  intro m0 AD;refine rd AD fun m0 AD=>?_
  revert r;apply gO;exact bi 23 (gc (gi (jt (gw 30 (lG AE [] (AK _ _ · m0 AD)))))) (lE AE [6,7] [])
theorem zBw {n:Nat} {q:AA} {pos:List Int} {tree:List (Int×Int)} {r:Int×Int} (h:mX n q pos tree=some r):EQ 18 [.agg 5 (L1 (AC q)),.ints pos,.sl 2 tree.length (AQ Aw tree)] [] (.tup 2 (L1 [.i r.1,.i r.2])) [] true:=by
 refine ot Tryz.func18 fun B N=>?_
 revert r;apply gO;exact cf W0 [some (.cells (AC q))] fun _=>lN AE [] ((zB0 B N q pos tree n) _ _ · n Nat.le.refl)
end Go.Proofs.YtkjbblkieglmlaaGreatDoor
namespace Go.Proofs.YtkjbblkieglmlaaGreatDoor
open Go.RowKit
set_option maxRecDepth 100000
set_option maxHeartbeats 40000000
theorem qV:Ar (Ag Tryz.f23 6) [] (List.range 9) []:=by unfold Ar;kernel_rfl
def Q6:Bi:=fun i=>match i with
 | 6=>.ord [] (List.range 9) []
 | _=>.no
inductive Uy where
 | l1 (x5:Int)
def qI (n:Nat) (self:Uy -> Option Bool) (a b_:List Int) (x5:Int):Option Bool:=
 bif (decide (x5<(a.length:Int))) then
  if (0<=x5/\ x5<(a.length:Int))/\ (0<=x5/\ x5<(b_.length:Int)) then
   bif ((a.getD ((x5).toNat) 0) != (b_.getD ((x5).toNat) 0)) then
    some false
   else
    if AL (x5+1) then
     self (.l1 (x5+1))
    else none
  else none
 else
  some true
def qJ (n:Nat) (self:Uy -> Option Bool) (a b_:List Int):Option Bool:=
 bif ((a.length:Int) != (b_.length:Int)) then
  some false
 else
  self (.l1 0)
def Yj (a b_:List Int):Nat -> Uy -> Option Bool
 | 0,_=>none
 | n+1,.l1 x5=>qI n (Yj a b_ n) a b_ x5
def gA (n:Nat) (a b_:List Int):Option Bool:=qJ n (Yj a b_ n) a b_
def qK (n B:Nat) (N:Yd 0) (a b_:List Int) (r:Bool):Uy -> Prop
 | .l1 x5=>∀ m0:Nat,n<=m0 -> TW B N (FQ Tryz.f23 0 (.bool r) []) (A8 m0 (BL (AY Tryz.f23) 0 [])) ⟨AG 26 [(0,.ints a),(1,.ints b_),(5,.i x5)],[]⟩
theorem qL (B:Nat) (N:Yd 0) (a b_:List Int):Al (Yj a b_) (qK · B N a b_):=ia (fun _=>rfl) fun n AK pt r h=>by
 cases pt
 case l1 x5=>
  intro m0 AD;refine rd AD fun m0 AD=>?_
  revert r;apply gO;exact bi 14 (jg qV (gc (gi (gi (bi 25 (lE Q6 [4] []) (gw 16 (lG Q6 [] (AK _ _ · m0 AD)))))))) (lE Q6 [4] [])
theorem qH {n:Nat} {a b_:List Int} {r:Bool} (h:gA n a b_=some r):EQ 23 [.ints a,.ints b_] [] (.bool r) [] true:=by
 refine ot Tryz.func23 fun B N=>?_
 revert r;apply gO;exact bi 10 (lE Q6 [4] []) (lN Q6 [] ((qL B N a b_ n) _ _ · n Nat.le.refl))
theorem qU:Ar (Ag Tryz.f20 6) [([0,1,2,3,4,5,6,7],8)] [9] []:=by unfold Ar;kernel_rfl
def Q5:Bi:=fun i=>match i with
 | 6=>.ord [([0,1,2,3,4,5,6,7],8)] [9] []
 | _=>.no
inductive Ux where
 | l1 (x5:Int)
def qD (n:Nat) (self:Ux -> Option Bool) (a b_:List (List Int)) (x5:Int):Option Bool:=
 bif (decide (x5<(a.length:Int))) then
  if (0<=x5/\ x5<(a.length:Int))/\ (0<=x5/\ x5<(b_.length:Int)) then
   (gA n (a.getD ((x5).toNat) []) (b_.getD ((x5).toNat) [])).bind fun y1=>
    bif (!y1) then
     some false
    else
     if AL (x5+1) then
      self (.l1 (x5+1))
     else none
  else none
 else
  some true
def qE (n:Nat) (self:Ux -> Option Bool) (a b_:List (List Int)):Option Bool:=
 bif ((a.length:Int) != (b_.length:Int)) then
  some false
 else
  self (.l1 0)
def Yi (a b_:List (List Int)):Nat -> Ux -> Option Bool
 | 0,_=>none
 | n+1,.l1 x5=>qD n (Yi a b_ n) a b_ x5
def f9 (n:Nat) (a b_:List (List Int)):Option Bool:=qE n (Yi a b_ n) a b_
def qF (n B:Nat) (N:Yd 0) (a b_:List (List Int)) (r:Bool):Ux -> Prop
 | .l1 x5=>∀ m0:Nat,n<=m0 -> TW B N (FQ Tryz.f20 0 (.bool r) []) (A8 m0 (BL (AY Tryz.f20) 0 [])) ⟨AG 27 [(0,.sl 1 a.length (AQ Be a)),(1,.sl 1 b_.length (AQ Be b_)),(5,.i x5)],[]⟩
theorem qG (B:Nat) (N:Yd 0) (a b_:List (List Int)):Al (Yi a b_) (qF · B N a b_):=ia (fun _=>rfl) fun n AK pt r h=>by
 cases pt
 case l1 x5=>
  intro m0 AD;refine rd AD fun m0 AD=>?_
  revert r;apply gO;exact bi 14 (jg qU (gc (gi (gi (cf qH [] fun _=>bi 26 (lE Q5 [4] []) (gw 16 (lG Q5 [] (AK _ _ · m0 AD)))))))) (lE Q5 [4] [])
theorem qC {n:Nat} {a b_:List (List Int)} {r:Bool} (h:f9 n a b_=some r):EQ 20 [.sl 1 a.length (AQ Be a),.sl 1 b_.length (AQ Be b_)] [] (.bool r) [] true:=by
 refine ot Tryz.func20 fun B N=>?_
 revert r;apply gO;exact bi 10 (lE Q5 [4] []) (lN Q5 [] ((qG B N a b_ n) _ _ · n Nat.le.refl))
def XF (n:Nat) (q:AA) (pos:List Int) (tree:List (Int×Int)):Option Bool:=
 (XE n q).bind fun y1=>
  bif y1 then
   bif (decide ((pos.length:Int)<=20)) then
    some (decide ((tree.length:Int)<=400))
   else
    some false
  else
   some false
def MC (n:Nat) (q:AA) (pos:List Int) (tree:List (Int×Int)):Option Bool:=XF n q pos tree
theorem zBU {n:Nat} {q:AA} {pos:List Int} {tree:List (Int×Int)} {r:Bool} (h:MC n q pos tree=some r):EQ 11 [.agg 5 (L1 (AC q)),.ints pos,.sl 2 tree.length (AQ Aw tree)] [] (.bool r) [] true:=by
 unfold MC XF at h;refine ot Tryz.func11 fun B N=>?_
 revert r;apply gO;exact cf zBR [some (.cells (AC q))] fun _=>bi 8 (bi 12 (lE AE [6] []) (lE AE [6] [])) (lE AE [6] [])
def oS (n:Nat):Option AA:=
 some (⟨2,2,([1,2]:List Int),([([1]:List Int),([0]:List Int)]:List (List Int)),([(⟨1,([0,1]:List Int),0,0,0,0,([]:List Int),0,0⟩:AB)]:List AB)⟩:AA)
def dl (n:Nat):Option AA:=oS n
theorem oR {n:Nat} {r:AA} (h:dl n=some r):EQ 24 [] [] (.agg 5 (L1 (AC r))) [] true:=by
 refine ot Tryz.func24 fun B N=>?_
 revert r;apply gO;exact jz 2 2 (jg (by decide:1=([1]:List Int).length) (jz 3 3 (jg (by decide:1=([0]:List Int).length) (ja 4 4 1 (ER (c:=Be) (L:=([([1]:List Int),([0]:List Int)]:List (List Int))) (vals:=[.ints ([1]:List Int),.ints ([0]:List Int)]) rfl ⟨⟨_,rfl,⟨At,trivial⟩⟩,⟨_,rfl,⟨At,trivial⟩⟩,trivial⟩) (jz 5 5 (jg (by decide:2=([0,1]:List Int).length) (ja 7 6 9 (ER (c:=AJ) (L:=([(⟨1,([0,1]:List Int),0,0,0,0,([]:List Int),0,0⟩:AB)]:List AB)) (vals:=[.agg 9 (L1 [.i 1,.ints ([0,1]:List Int),.i 0,.i 0,.i 0,.i 0,.nils,.i 0,.i 0])]) rfl ⟨⟨_,rfl,⟨At,At,At,At,At,At,AS.ints_nil,At,At,trivial⟩⟩,trivial⟩) (jt (lF fun p=>ez AE [0] [0,1,4,6] p [1,2,3] (H0.g (by decide:2=([1,2]:List Int).length) |>.g (by decide:2=([([1]:List Int),([0]:List Int)]:List (List Int)).length) |>.g (Eq.refl 1)))))))))))
def yW (y1:AA):DH:=[some (.cells (AC y1)),some (.ints ([0,0]:List Int)),none,some (.ints ([3,3]:List Int)),some (.ints ([1,2]:List Int)),none,some (.ints ([0,1]:List Int))]
def yV (y1:AA):DH:=[some (.cells (AC y1)),some (.ints ([0,0]:List Int)),none,some (.ints ([3,3]:List Int)),some (.ints ([1,2]:List Int)),none,some (.ints ([0,1]:List Int)),some (.ints ([1,2]:List Int)),none]
def yU (y1:AA):DH:=[some (.cells (AC y1)),none,none,some (.ints ([3,1]:List Int)),some (.ints ([3,1]:List Int)),some (.ints ([3,1]:List Int)),some (.ints ([1,0]:List Int))]
def yS (y1:AA):DH:=[some (.cells (AC y1)),none,none,some (.ints ([3,1]:List Int)),some (.ints ([3,1]:List Int)),some (.ints ([3,1]:List Int)),some (.ints ([1,0]:List Int)),none]
def yQ (y1:AA):DH:=[some (.cells (AC y1)),none,none,some (.ints ([3,1]:List Int)),some (.ints ([3,1]:List Int)),some (.ints ([3,1]:List Int)),some (.ints ([1,0]:List Int)),none,none,none,none]
def f8 (n:Nat):Option Bool:=
 (dl n).bind fun y1=>
  (QK n y1 ([0,0]:List Int) ([(3,0)]:List (Int×Int)) ([]:List Int)).bind fun y2=>
   (QK n y1 ([3,3]:List Int) ([]:List (Int×Int)) ([]:List Int)).bind fun y3=>
    (QK n y1 ([1,2]:List Int) ([(4,0)]:List (Int×Int)) ([0,1]:List Int)).bind fun y4=>
     (QK n y1 ([1,2]:List Int) ([(4,0)]:List (Int×Int)) ([]:List Int)).bind fun y5=>
      (Hl n y1 ([3,1]:List Int) ([(2,0),(3,0),(4,0)]:List (Int×Int))).bind fun y6=>
       (Hl n y1 ([3,1]:List Int) ([(2,0),(1,0),(3,0),(4,0)]:List (Int×Int))).bind fun y7=>
        (mX n y1 ([3,1]:List Int) ([(2,0),(1,0),(3,0),(4,0)]:List (Int×Int))).bind fun y8=>
         (Zk n y1 ([3,1]:List Int) ([(2,0),(1,0),(3,0),(4,0)]:List (Int×Int)) 1).bind fun y9=>
          (QK n y1 ([3,1]:List Int) ([(2,0),(1,0),(3,0),(4,0)]:List (Int×Int)) ([1,0]:List Int)).bind fun X0=>
           (Hl n y1 ([3,3]:List Int) ([]:List (Int×Int))).bind fun dR=>
            bif (y2.2 != 0) then
             some false
            else
             bif (y3.2 != 0) then
              some false
             else
              bif (y4.2 != 0) then
               some false
              else
               bif (y5.2 != 0) then
                some false
               else
                bif (y6.2 != 280) then
                 some false
                else
                 bif (y7.2 != 0) then
                  some false
                 else
                  bif (y8.2 != 0) then
                   some false
                  else
                   bif (y9.2 != 0) then
                    some false
                   else
                    bif (X0.2 != 0) then
                     some false
                    else
                     bif (dR.2 != 280) then
                      some false
                     else
                      bif y2.1 then
                       bif (!y3.1) then
                        bif y4.1 then
                         bif (!y5.1) then
                          (f9 n y7.1 ([([0,0]:List Int),([2,1]:List Int)]:List (List Int))).bind fun ns=>
                           bif ns then
                            bif (y8.1==1) then
                             bif (y9.1==3) then
                              some X0.1
                             else
                              some false
                            else
                             some false
                           else
                            some false
                         else
                          some false
                        else
                         some false
                       else
                        some false
                      else
                       some false
def Ow (n:Nat):Option Bool:=f8 n
theorem qA {n:Nat} {r:Bool} (h:Ow n=some r):EQ 10 [] [] (.bool r) [] true:=by
 unfold Ow f8 at h;refine ot Tryz.func10 fun B N=>?_
 revert r;apply gO
 exact cf oR [] fun y1=>jt (ja 29 2 2 (ER (c:=Aw) (L:=([(3,0)]:List (Int×Int))) (vals:=[.agg 2 (L1 [.i 3,.i 0])]) rfl ⟨⟨_,rfl,⟨At,At,trivial⟩⟩,trivial⟩) (jz 29 2 (jg (by decide:1=([(3,0)]:List (Int×Int)).length) (cn fun y2 Bz=>jc (sb [.agg 5 (L1 (AC y1)),.msl 1 1 0 2,.sl 2 (([(3,0)]:List (Int×Int)).length) (AQ Aw ([(3,0)]:List (Int×Int))),.nils] (Tv Bz) [some (.cells (AC y1)),some (.ints ([0,0]:List Int)),none] ⟨Ad.plain (by kernel_rfl),Ad.ints rfl (by decide:2=([0,0]:List Int).length),Ad.plain (by kernel_rfl),Ad.nils,trivial⟩) (cn fun y3 aQ=>jc (sb [.agg 5 (L1 (AC y1)),.msl 3 1 0 2,.nils,.nils] (Tv aQ) [some (.cells (AC y1)),some (.ints ([0,0]:List Int)),none,some (.ints ([3,3]:List Int))] ⟨Ad.plain (by kernel_rfl),Ad.ints rfl (by decide:2=([3,3]:List Int).length),(Ad.dle (by kernel_rfl) (AS.sl_nil _ _)),Ad.nils,trivial⟩) (ja 43 5 2 (ER (c:=Aw) (L:=([(4,0)]:List (Int×Int))) (vals:=[.agg 2 (L1 [.i 4,.i 0])]) rfl ⟨⟨_,rfl,⟨At,At,trivial⟩⟩,trivial⟩) (jz 43 5 (jg (by decide:1=([(4,0)]:List (Int×Int)).length) (cn fun y4 aP=>jc (sb [.agg 5 (L1 (AC y1)),.msl 4 1 0 2,.sl 2 (([(4,0)]:List (Int×Int)).length) (AQ Aw ([(4,0)]:List (Int×Int))),.msl 6 1 0 2] (Tv aP) (yW y1) ⟨Ad.plain (by kernel_rfl),Ad.ints rfl (by decide:2=([1,2]:List Int).length),Ad.plain (by kernel_rfl),Ad.ints rfl (by decide:2=([0,1]:List Int).length),trivial⟩) (ja 52 8 2 (ER (c:=Aw) (L:=([(4,0)]:List (Int×Int))) (vals:=[.agg 2 (L1 [.i 4,.i 0])]) rfl ⟨⟨_,rfl,⟨At,At,trivial⟩⟩,trivial⟩) (jz 52 8 (jg (by decide:1=([(4,0)]:List (Int×Int)).length) (cn fun y5 aO=>jc (sb [.agg 5 (L1 (AC y1)),.msl 7 1 0 2,.sl 2 (([(4,0)]:List (Int×Int)).length) (AQ Aw ([(4,0)]:List (Int×Int))),.nils] (Tv aO) (yV y1) ⟨Ad.plain (by kernel_rfl),Ad.ints rfl (by decide:2=([1,2]:List Int).length),Ad.plain (by kernel_rfl),Ad.nils,trivial⟩) (ja 59 9 2 (ER (c:=Aw) (L:=([(2,0),(3,0),(4,0)]:List (Int×Int))) (vals:=[.agg 2 (L1 [.i 2,.i 0]),.agg 2 (L1 [.i 3,.i 0]),.agg 2 (L1 [.i 4,.i 0])]) rfl ⟨⟨_,rfl,⟨At,At,trivial⟩⟩,⟨_,rfl,⟨At,At,trivial⟩⟩,⟨_,rfl,⟨At,At,trivial⟩⟩,trivial⟩) (fun p r h=>by
  refine gz (AR 7 AE) [0,9] p [1] (H0.g (by decide:3=([(2,0),(3,0),(4,0)]:List (Int×Int)).length)) (CO (AY Tryz.f10) 7 []) (AG 175 [(1,.ref 0 0),(2,.bool y2.1),(3,.i y2.2),(4,.bool y3.1),(5,.i y3.2),(6,.bool y4.1),(7,.i y4.2),(8,.bool y5.1),(9,.i y5.2),(10,.sl 2 (([(2,0),(3,0),(4,0)]:List (Int×Int)).length) (AQ Aw ([(2,0),(3,0),(4,0)]:List (Int×Int))))]) [some (.cells (AC y1)),none] ?_;revert r;apply gO
  exact jz 62 2 (jg (by decide:2=([3,1]:List Int).length) (cf Lg [some (.cells (AC y1)),none,none] fun y6=>ja 71 3 2 (ER (c:=Aw) (L:=([(2,0),(1,0),(3,0),(4,0)]:List (Int×Int))) (vals:=[.agg 2 (L1 [.i 2,.i 0]),.agg 2 (L1 [.i 1,.i 0]),.agg 2 (L1 [.i 3,.i 0]),.agg 2 (L1 [.i 4,.i 0])]) rfl ⟨⟨_,rfl,⟨At,At,trivial⟩⟩,⟨_,rfl,⟨At,At,trivial⟩⟩,⟨_,rfl,⟨At,At,trivial⟩⟩,⟨_,rfl,⟨At,At,trivial⟩⟩,trivial⟩) (fun p r h=>by
   refine gz (AR 9 AE) [0,3] p [1] (H0.g (by decide:4=([(2,0),(1,0),(3,0),(4,0)]:List (Int×Int)).length)) (CO (AY Tryz.f10) 9 []) (AG 175 [(1,.ref 0 0),(2,.bool y2.1),(3,.i y2.2),(4,.bool y3.1),(5,.i y3.2),(6,.bool y4.1),(7,.i y4.2),(8,.bool y5.1),(9,.i y5.2),(12,.i y6.2),(13,.sl 2 (([(2,0),(1,0),(3,0),(4,0)]:List (Int×Int)).length) (AQ Aw ([(2,0),(1,0),(3,0),(4,0)]:List (Int×Int))))]) [some (.cells (AC y1)),none] ?_;revert r;apply gO;exact jz 74 2 (jg (by decide:2=([3,1]:List Int).length) (cf Lg [some (.cells (AC y1)),none,none] fun _=>cn fun y8 xF=>jc (sb [.agg 5 (L1 (AC y1)),.msl 3 1 0 2,.sl 2 (([(2,0),(1,0),(3,0),(4,0)]:List (Int×Int)).length) (AQ Aw ([(2,0),(1,0),(3,0),(4,0)]:List (Int×Int)))] (zBw xF) [some (.cells (AC y1)),none,none,some (.ints ([3,1]:List Int))] ⟨Ad.plain (by kernel_rfl),Ad.ints rfl (by decide:2=([3,1]:List Int).length),Ad.plain (by kernel_rfl),trivial⟩) (cn fun y9 xE=>jc (sb [.agg 5 (L1 (AC y1)),.msl 4 1 0 2,.sl 2 (([(2,0),(1,0),(3,0),(4,0)]:List (Int×Int)).length) (AQ Aw ([(2,0),(1,0),(3,0),(4,0)]:List (Int×Int))),.i 1] (ut xE) [some (.cells (AC y1)),none,none,some (.ints ([3,1]:List Int)),some (.ints ([3,1]:List Int))] ⟨Ad.plain (by kernel_rfl),Ad.ints rfl (by decide:2=([3,1]:List Int).length),Ad.plain (by kernel_rfl),Ad.plain (by kernel_rfl),trivial⟩) (cn fun X0 xH=>jc (sb [.agg 5 (L1 (AC y1)),.msl 5 1 0 2,.sl 2 (([(2,0),(1,0),(3,0),(4,0)]:List (Int×Int)).length) (AQ Aw ([(2,0),(1,0),(3,0),(4,0)]:List (Int×Int))),.msl 6 1 0 2] (Tv xH) (yU y1) ⟨Ad.plain (by kernel_rfl),Ad.ints rfl (by decide:2=([3,1]:List Int).length),Ad.plain (by kernel_rfl),Ad.ints rfl (by decide:2=([1,0]:List Int).length),trivial⟩) (jz 103 7 (jg (by decide:2=([3,3]:List Int).length) (cn fun dR xG=>jc (fb (ES.argsLe (ds:=[.agg 5 (L1 (AC y1)),.ints ([3,3]:List Int),.nils]) (Lg xG) ⟨At,At,(AS.sl_nil _ _),trivial⟩) (yS y1)) (bi 108 (lE AE [0] []) (bi 111 (lE AE [0] []) (bi 115 (lE AE [0] []) (bi 119 (lE AE [0] []) (bi 123 (lE AE [0] []) (bi 127 (lE AE [0] []) (bi 131 (lE AE [0] []) (bi 135 (lE AE [0] []) (bi 139 (lE AE [0] []) (bi 143 (lE AE [0] []) (bi 145 (bi 148 (bi 151 (bi 155 (jz 159 8 (jg (by decide:2=([0,0]:List Int).length) (jz 160 9 (jg (by decide:2=([2,1]:List Int).length) (ja 161 10 1 (ER (c:=Be) (L:=([([0,0]:List Int),([2,1]:List Int)]:List (List Int))) (vals:=[.ints ([0,0]:List Int),.ints ([2,1]:List Int)]) rfl ⟨⟨_,rfl,⟨At,trivial⟩⟩,⟨_,rfl,⟨At,trivial⟩⟩,trivial⟩) (jz 161 10 (jg (by decide:2=([([0,0]:List Int),([2,1]:List Int)]:List (List Int)).length) (cf qC (yQ y1) fun _=>bi 162 (bi 166 (bi 170 (lE AE [0] []) (lE AE [0] [])) (lE AE [0] [])) (lE AE [0] []))))))))) (lE AE [0] [])) (lE AE [0] [])) (lE AE [0] [])) (lE AE [0] [])))))))))))))))))))))))))))))))))))))
end Go.Proofs.YtkjbblkieglmlaaGreatDoor
namespace Go.Proofs.YtkjbblkieglmlaaGreatDoor
open Go.RowKit
theorem qB:Ev Ow true:=⟨300,fun n hn=>by
 obtain ⟨k,rfl⟩: ∃ k,n=k+300:=⟨n-300,by omega⟩
 show Ow (k+300)=some true
 kernel_rfl⟩
section
variable {q:AA} {pos:List Int} {tree:List (Int×Int)}
theorem vt {n f:Nat -> Option Bool} (h: ∀ m,n m=(Ow m).bind fun y1=>bif (!y1) then some false else (MC m q pos tree).bind fun y2=>bif (!y2) then some true else f m) (hf:pos.length<=20 -> tree.length<=400 -> Ev f true):Ev n true:=by
 obtain ⟨N1,h1⟩:=qB
 by_cases hp:pos.length<=20/\ tree.length<=400
 ·obtain ⟨N2,h2⟩:=hf hp.1 hp.2;refine ⟨N1+N2+q.cons.length+1,fun m hm=>?_⟩;obtain ⟨b,hb⟩:=mC (q:=q) (n:=m) (by omega);rw [h m,h1 m (by omega),zAA]
  show ((MC m q pos tree).bind fun y2=>bif (!y2) then some true else f m)=_
  unfold MC XF;rw [hb,zAA,zAT (by omega),zAT (by omega)];cases b with
  | false=>rfl
  | true=>exact h2 m (by omega)
 ·refine ⟨N1+q.cons.length+1,fun m hm=>?_⟩;obtain ⟨b,hb⟩:=mC (q:=q) (n:=m) (by omega);rw [h m,h1 m (by omega),zAA]
  show ((MC m q pos tree).bind fun y2=>bif (!y2) then some true else f m)=_
  unfold MC XF;rw [hb,zAA];cases b with
  | false=>rfl
  | true=>
   rw [zAK]
   by_cases h20:pos.length<=20
   ·rw [zAT (by omega),zAE (by omega)];rfl
   ·rw [zAE (by omega)];rfl
def dM (q:AA) (pos:List Int) (tree:List (Int×Int)) (r:List Au×List Int×Int):Prop:=
 (r.2.2≠0/\ r.1= []/\ r.2.1= []/\ (CM q=true -> posOk q pos=true -> tree.length<=65536 -> r.2.2=280))∨(r.2.2=0/\ CM q=true/\ posOk q pos=true/\ tree.length<=65536/\ r.2.1.length=tree.length/\ r.1.length<=tree.length/\ Tk q tree none pos 0 0 (List.replicate tree.length 0) tree.length r.1 r.2.1)
theorem lu (hF:EM q) (hl:pos.length<=LB): ∃ r,Ev (fun n=>Gj n q pos tree) r/\ dM q pos tree r:=by
 have Jg: ∀ c:Int,c≠0 -> (CM q=true -> posOk q pos=true -> tree.length<=65536 -> c=280) -> Ev (fun n=>Iq n q pos tree) c -> ∃ r,Ev (fun n=>Gj n q pos tree) r/\ dM q pos tree r:=fun c hc IV h=>by
  obtain ⟨N,hN⟩:=h;have hN: ∀ n,N<=n -> Iq n q pos tree=some c:=hN;refine ⟨([],[],c),⟨N,fun n hn=>?_⟩,.inl ⟨hc,rfl,rfl,IV⟩⟩
  show Gj n q pos tree=_
  unfold Gj;rw [hN n hn,zAA,zE3.2 hc,zAK]
 have hV: ∀ n,E8 q+pos.length+1<=n -> Iq n q pos tree=some (if CM q=true then (if posOk q pos=true then (if tree.length>65536 then 2 else 0) else 250) else 191):=fun n hn=>by
  unfold Iq X8;rw [UN hF (by omega),zAA,ZN hF (by omega) hl (by omega)];unfold NG;cases CM q with
  | false=>rfl
  | true=>
   cases posOk q pos with
   | false=>rfl
   | true=>
    by_cases h:tree.length>65536
    ·have:decide ((tree.length:Int)>65536)=true:=zAT (by omega);simp only [this,h,zEG];rfl
    ·have:decide ((tree.length:Int)>65536)=false:=zAE (by omega);simp only [this,h,zEG,zEg];rfl
 by_cases hv:CM q=true
 rotate_left
 ·exact Jg 191 (by decide) (fun h=>absurd h hv) ⟨_,fun n hn=>(hV n hn).trans (by rw [zAZ hv])⟩
 by_cases hp:posOk q pos=true
 rotate_left
 ·exact Jg 250 (by decide) (fun _ h=>absurd h hp) ⟨_,fun n hn=>(hV n hn).trans (by rw [zAB hv,zAZ hp])⟩
 by_cases hT:tree.length>65536
 ·exact Jg 2 (by decide) (fun _ _ h=>by omega) ⟨_,fun n hn=>(hV n hn).trans (by rw [zAB hv,zAB hp,zAB hT])⟩
 have hZ: ∀ n,E8 q+pos.length+1<=n -> Iq n q pos tree=some 0:=fun n hn=>by rw [hV n hn,zAB hv,zAB hp,zAZ hT]
 obtain ⟨⟨l,out,o⟩,⟨N,hN⟩,g1,g2,g3⟩:=ul (pos0:=pos) hF hv (show tree.length<=65536 by omega) tree.length 0 0 pos (List.replicate tree.length 0) (by omega) hp zAe (by omega) (by omega);have hN: ∀ n,N<=n -> B4 n pos 0 0 (List.replicate tree.length 0) q tree tree.length pos=some (l,out,o):=hN;have g1:o.length=tree.length:=g1;have g2:l.length+0<=tree.length:=g2;have L:(1000000000000:Nat)=BB:=rfl
 have start: ∀ (IM:Option Unit),(∀ n,N<=n -> Lf n (List.replicate tree.length 0) q tree tree.length pos=some (l,IM,o)) -> ∀ n,N+E8 q+pos.length+1<=n -> Gj n q pos tree=some (if IM.isSome then l else [],if IM.isSome then o else [],if IM.isSome then 0 else 280):=fun IM h n hn=>by
  unfold Gj;rw [hZ n (by omega),zAA]
  show (if _ then _ else none)=_
  rw [zAB ⟨rfl,by omega,by omega⟩,h n (by omega),zAA,zAB ⟨g1.symm,by rw [←L];show l.length<=_;omega⟩]
 have fail:(∀ n,N<=n -> Lf n (List.replicate tree.length 0) q tree tree.length pos=some (l,none,o)) -> ∃ r,Ev (fun n=>Gj n q pos tree) r/\ dM q pos tree r:=fun h=>⟨([],[],280),⟨_,fun n hn=>start none h n hn⟩,.inl ⟨by decide,rfl,rfl,fun _ _ _=>rfl⟩⟩
 cases out with
 | none=>
  refine fail fun n hn=>?_
  unfold Lf PN;rw [hN n hn];rfl
 | some x=>
  obtain ⟨v,rfl,v1,v2,v3,v4,v5⟩:=g3 x rfl
  by_cases xP:v=tree.length
  ·refine ⟨(l,o,0),⟨_,fun n hn=>start (some ()) (fun n hn=>?_) n hn⟩,.inr ⟨rfl,hv,hp,by omega,g1,by omega,by rw [xP] at v5;exact v5⟩⟩;unfold Lf PN;rw [hN n hn]
   show (bif ((v:Int)==(tree.length:Int)) then _ else _:Option (YR Au Unit (List Int))).map _=_
   rw [zDw.2 (by omega),zAK];simp
  ·refine fail fun n hn=>?_
   unfold Lf PN;rw [hN n hn]
   show (bif ((v:Int)==(tree.length:Int)) then _ else _:Option (YR Au Unit (List Int))).map _=_
   rw [zDr.2 (by omega),zAC];simp
theorem Z1 {r:List Au×List Int×Int} (h:Ev (fun n=>Gj n q pos tree) r) (hl:r.1.length<=65536):Ev (fun n=>Hl n q pos tree) (r.1.map (·.1),r.2.2):=by
 obtain ⟨l,o,c⟩:=r;have hl:l.length<=65536:=hl;have L:(1000000000000:Nat)=BB:=rfl
 have key: ∀ (k j:Nat),j+k=l.length -> Ev (fun n=>JD q pos tree n (.l2 j c l (l.length:Int) (j:Int) ((l.take j).map (·.1)))) (l.map (·.1),c):=by
  intro k
  induction k with
  | zero=>
   intro j e;refine Ev.one fun n=>?_
   show SP n (JD q pos tree n) q pos tree j c l (l.length:Int) (j:Int) _=_
   unfold SP;rw [zAE (by omega),zAC,List.take_of_length_le (by omega),zAB (by rw [zAn];omega)]
  | succ k ih=>
   intro j e;have hj:j<l.length:=by omega
   refine Bj.ev (Bj.one fun n=>?_) (ih (j+1) (by omega))
   show SP n (JD q pos tree n) q pos tree j c l (l.length:Int) (j:Int) _=_
   unfold SP;have e1:((l.take j).map (·.1)).length=j:=by rw [zAn,zEZ];omega
   rw [zAT (by omega),zAK,zAB ⟨⟨by omega,by omega⟩,e1.symm,by rw [e1,←L];show j+1<=_;omega,A0.2 ⟨by omega,by omega⟩⟩,zAO,e1]
   rw [show (l.take (j+1)).map (·.1)=(l.take j).map (·.1)++[(l.getD j default).1] by
    rw [zEd hj,List.map_append,u8,zAQ hj];rfl]
   rfl
 refine Ev.eq (Ev.bind h (b:=fun n y1=>JD q pos tree n (.l1 y1.2.2 y1.1 (y1.1.length:Int))) ?_) fun n=>rfl
 cases hn:l with
 | nil=>
  refine Ev.one fun n=>?_
  show Vy n (JD q pos tree n) q pos tree c [] 0=_
  rfl
 | cons x t=>
  have:=key t.length 1 (by rw [hn,zDl];omega);rw [hn] at this;refine Bj.ev (Bj.one fun n=>?_) this
  show Vy n (JD q pos tree n) q pos tree c (x::t) (((x::t).length:Nat):Int)=_
  unfold Vy;rw [zAT (by simp),zAK,zAB ⟨zER _,by simp⟩];rfl
end
end Go.Proofs.YtkjbblkieglmlaaGreatDoor
