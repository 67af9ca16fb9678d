/- Part 6 of 7 of what the proofs of these laws stand on. -/
import Derived.Test.YtkjbblkieglmlaaGreatDoorPtE
import Derived.RangeFuncLeaves
import Derived.RecoverIn
set_option linter.all false
namespace Go.Proofs.YtkjbblkieglmlaaGreatDoor
open Go.RowKit
section
variable {q:AA} {i:Int} {g:List Int} {c:AC}
theorem B4.sets (C:B4 q i (GB g)):Sm q.symbols.toNat (con q i).set/\ Sm q.symbols.toNat (con q i).other:=by
 have h:=C.fine;unfold FK at h;simp only [zAN] at h;have h2:=X9.1 h.1.1.1.2;have a:=h2 (con q i).set (by simp);have b:=h2 (con q i).other (by simp);exact ⟨⟨a.1,by omega⟩,b.1,by omega⟩
theorem kH (S:Sv q c g) (W:HZ c q (GB g)) {k:Nat} (hs:Sm k c.set) (hk:k<=16) {loop:Bool} {M:Prop} (hM:M↔if loop=true then (∀ v,v<g.length -> (DL c g).getD v false=false)∨((∀ v,v<g.length -> (DL c g).getD v false=true -> DN q.nbrs (DL c g) v=2)/\ Jm q.nbrs (DL c g)) else Jm q.nbrs (DL c g)):
 ∃ r,Ev (fun n=>PU n q.nbrs g c.cells c.set loop) r/\ (r=true↔M):=by
 have L:(1000000000000:Nat)=BA:=rfl;have hl:=W.len;have Fd:=W.l1;have Gn:=W.gl;rw [Mu] at hl Fd Gn;have hI:(DL c g).length=q.nbrs.length:=by rw [jV];omega
 have fin: ∃ r,Ev (fun n=>(Xb n q.nbrs (DL c g)).bind fun y1=>bif (!loop) then some (decide ((y1.1.length:Int)<=1)) else bif ((y1.1.length:Int)==0) then some (decide ((y1.1.length:Int)<=1)) else (O0 n q.nbrs (DL c g)).bind fun y2=>some y2.1) r/\ (r=true↔M):=by
  obtain ⟨N2,hR⟩:=tK W.g hI;have:=Ae.bindU (zCl W.g hI) (b:=fun n y1=>bif (!loop) then some (decide ((y1.1.length:Int)<=1)) else bif ((y1.1.length:Int)==0) then some (decide ((y1.1.length:Int)<=1)) else (O0 n q.nbrs (DL c g)).bind fun y2=>some y2.1) (Q:=fun r=>r=true↔M) ⟨N2,fun n hn x hx=>?_⟩
  ·obtain ⟨r,h1,h2⟩:=this.ev fun r r' h h'=>by
    rw [zEi,h,h']
   exact ⟨r,h2,h1⟩
  ·obtain ⟨x1,x2,x3⟩:=hx;have e1:decide ((x.1.length:Int)<=1)=true↔Jm q.nbrs (DL c g):=by rw [zAv,←x3];omega
   cases loop with
   | false=>
    refine ⟨_,rfl,?_⟩;rw [e1,hM];simp
   | true=>
    rw [zAE rfl] at hM
    by_cases h0:x.1.length=0
    ·have hz:=x2.1 h0;rw [Gn] at hz;refine ⟨true,?_,zGF rfl (hM.2 (.inl hz))⟩
     show (bif ((x.1.length:Int)==0) then some (decide ((x.1.length:Int)<=1)) else _)=_
     rw [h0];rfl
    ·obtain ⟨y,y1,y2,y3⟩:=hR n hn;refine ⟨y.1,?_,?_⟩
     ·show (bif ((x.1.length:Int)==0) then some (decide ((x.1.length:Int)<=1)) else _)=_
      rw [zBj.2 (by omega),zAH,show O0 n q.nbrs (DL c g)=some y from y1];rfl
     ·rw [y3,hM,Gn];have hz: ¬ ∀ v,v<g.length -> (DL c g).getD v false=false:=fun h=>h0 (x2.2 (by rw [Gn];exact h))
      constructor
      ·rintro ⟨h1,_,h3⟩;exact .inr ⟨h1,h3⟩
      ·rintro (h | ⟨h1,h3⟩)
       ·exact absurd h hz
       ·refine ⟨h1,Classical.byContradiction fun hn=>hz fun v hv=>?_,h3⟩;cases hb:(DL c g).getD v false with
        | false=>rfl
        | true=>exact absurd ⟨v,hv,hb⟩ hn
 obtain ⟨r,hr,yS⟩:=fin;refine ⟨r,?_,yS⟩
 have key: ∀ (k j:Nat) (o:List Bool),j+k=g.length -> o.length=g.length -> (∀ v,v<j -> o.getD v false=(DL c g).getD v false) -> Ev (fun n=>PT q.nbrs g c.cells c.set loop n (.l1 (j:Int) o)) r:=by
  intro k
  induction k with
  | zero=>
   intro j o e ho hm
   have:o=DL c g:=by
    refine zFX (by rw [ho,jV]) fun v h1 h2=>?_
    have:=hm v (by omega);simpa [u8,h1,h2] using this
   subst this;obtain ⟨N,hr⟩:=hr;refine Ev.oneN N fun n hn=>?_
   show Sc n (PT q.nbrs g c.cells c.set loop n) q.nbrs g c.cells c.set loop (j:Int) (DL c g)=_
   unfold Sc;rw [zAC (by omega),zAH,zAE ho.symm];exact hr n hn
  | succ k ih=>
   intro j o e ho hm;have hj:j<g.length:=by omega
   have hid:=W.id j (by rw [Mu];exact hj);have IZ:=S.G.lt S.v hj;have Nn:=S.G.sym j hj;have eg:g.getD j 0=(((g.getD j 0).toNat:Nat):Int):=by omega
   refine BE.ev (BE.one fun n=>?_) (ih (j+1) (o.set j (tb c.set (g.getD j 0).toNat)) (by omega) (by rw [zAn];exact ho) fun v hv=>?_)
   ·show Sc n (PT q.nbrs g c.cells c.set loop n) q.nbrs g c.cells c.set loop (j:Int) o=_
    unfold Sc;rw [zAJ (by omega),zAI,zAE ⟨by omega,by omega⟩,zAL,hid];unfold Z0 jX;rw [zAE ⟨by omega,by omega⟩,zAL,eg,Lm hs (by omega) (by omega),zAF,zAE ⟨⟨by omega,by omega⟩,by omega⟩,zAF,zAE (As.2 ⟨by omega,by omega⟩),zAs,zAL,show ((j+1:Nat):Int)=(j:Int)+1 by omega]
   ·by_cases e1:v=j
    ·subst e1;rw [u8,zEJ (by omega),zEc,vU hj]
    ·rw [u8,zEF (fun h=>e1 h.symm),←u8];exact hm v (by omega)
 have:=key g.length 0 (List.replicate g.length false) (by omega) zAl fun v hv=>absurd hv (zAo v)
 refine Ev.eq this fun n=>?_
 unfold PU kI;rw [zAE ⟨rfl,by omega,by omega⟩];rfl
theorem vX (C:B4 q i (GB g)) (G:Gd q g): ∃ b,Ev (fun n=>Fb n q (con q i) g) b/\ (b=true↔G4 q (con q i) g):=by
 have S:=C.sv G;have hd:EV (GB g)=false:=QG.2 S.nz;have W:=C.work;have V:=C.vals;have hl:=W.len;have We:=W.k;obtain ⟨hs,ho⟩:=C.sets;have two:(con q i).cells.length=2 -> ∀ a,a<2 -> ((con q i).cells.getD a 0).toNat=((con q i).cells.getD a 0).toNat:=fun _ _ _=>rfl
 have D: ∀ {k:Int} {f:Nat -> Option Bool} {b:Bool} {M:Prop},(con q i).kind=k -> (∀ n,Fb n q (con q i) g=f n) -> Ev f b -> (b=true↔M) -> (G4 q (con q i) g↔M) -> ∃ b,Ev (fun n=>Fb n q (con q i) g) b/\ (b=true↔G4 q (con q i) g):=
  fun _ he hf hb hM=>⟨_,hf.eq he,hb.trans hM.symm⟩
 have kc:=SZ (SY C.kind)
 generalize hc:con q i=c at*
 rcases kc with hk | hk | hk | hk | hk | hk | hk | hk | hk
 ·obtain ⟨r,h1,h2⟩:=zB7 S hl;exact D (f:=fun n=>(XN n g c.cells).bind some) hk (fun n=>by unfold Fb JE;rw [hk];rfl) (Ev.bind h1 (Ev.now fun n=>rfl)) h2 (by unfold G4;rw [hk];simp)
 ·refine D (f:=fun n=>(XU n g c.cells c.set).bind fun y1=>(OQ n y1 c).bind some) (M:=c.lo<=cnt (fun a=>tb c.set (Ax c g a)) c.cells.length/\ cnt (fun a=>tb c.set (Ax c g a)) c.cells.length<=c.hi) (b:=decide (c.lo<=cnt (fun a=>tb c.set (Ax c g a)) c.cells.length)&&decide (cnt (fun a=>tb c.set (Ax c g a)) c.cells.length<=c.hi)) hk (fun n=>by unfold Fb JE;rw [hk];rfl) (Ev.bind (zCQ S hl hs We) (Ev.now fun n=>?_)) (by simp) (by unfold G4;rw [hk];simp);unfold OQ cv;cases decide (c.lo<=cnt (fun a=>tb c.set (Ax c g a)) c.cells.length) <;> rfl
 ·refine D (f:=fun n=>(Uo n q.values g c.cells).bind fun y1=>(OQ n y1 c).bind some) (M:=c.lo<=EM (fun a=>q.values.getD (Ax c g a) 0) c.cells.length/\ EM (fun a=>q.values.getD (Ax c g a) 0) c.cells.length<=c.hi) (b:=decide (c.lo<=EM (fun a=>q.values.getD (Ax c g a) 0) c.cells.length)&&decide (EM (fun a=>q.values.getD (Ax c g a) 0) c.cells.length<=c.hi)) hk (fun n=>by unfold Fb JE;rw [hk];rfl) (Ev.bind (pZ S V hl) (Ev.now fun n=>?_)) (by simp) (by unfold G4;rw [hk];simp);unfold OQ cv;cases decide (c.lo<=EM (fun a=>q.values.getD (Ax c g a) 0) c.cells.length) <;> rfl
 ·obtain ⟨r,h1,h2⟩:=s3 S V hl;exact D (f:=fun n=>(VE n q.values g c.cells).bind some) hk (fun n=>by unfold Fb JE;rw [hk];rfl) (Ev.bind h1 (Ev.now fun n=>rfl)) h2 (by unfold G4;rw [hk];simp)
 ·have hr:=Y7 (b:=fun a=>tb c.set (Ax c g a)) (N:=c.cells.length) c.cells.length 0;refine D (f:=fun n=>(Ox n c.cells c.set g).bind fun y1=>(OM n y1).bind fun y2=>(P8 n y2 c.runs).bind some) (M:=rl (fun a=>tb c.set (Ax c g a)) c.cells.length c.cells.length 0=c.runs) (b:=decide (rl (fun a=>tb c.set (Ax c g a)) c.cells.length c.cells.length 0=c.runs)) hk (fun n=>by unfold Fb JE;rw [hk];rfl) (Ev.bind (sI S hl hs We) ⟨300,fun n hn=>?_⟩) (by simp) (by unfold G4;rw [hk];simp)
  show (OM n _).bind _=_
  rw [zCs (by omega),zAF,zBo (zAt hr (zAt (by omega:c.cells.length+1<=300) (by decide))) (by omega)];rfl
 ·have h2:c.cells.length=2:=by rw [←hc];exact C.two (.inl (by rw [hc];exact hk))
  have c0:=S.cell 0 (by omega);have c1:=S.cell 1 (by omega);have g0:=S.gi (a:=0) (by omega);have g1:=S.gi (a:=1) (by omega);have l0:=(S.lt (a:=0) (by omega)).1;have l1:=(S.lt (a:=1) (by omega)).1;have vl:=V.len;have v0:=V.val _ l0;have v1:=V.val _ l1;refine D (f:=fun n=>Fb n q c g) (M:=IS q c (Ax c g 0) (Ax c g 1)=true) (b:=IS q c (Ax c g 0) (Ax c g 1)) hk (fun n=>rfl) (Ev.now fun n=>?_) Iff.rfl (by unfold G4;rw [hk];simp);unfold Fb JE;rw [hk]
  show (if _ then _ else none)=_
  rw [g0,g1,zAL,zAL,zAE ⟨⟨by omega,by omega⟩,c0,⟨by omega,by omega⟩,⟨by omega,by omega⟩,c1,by omega,by omega⟩];unfold dN oG IS;rw [zAE ⟨As.2 ⟨by omega,by omega⟩,As.2 ⟨by omega,by omega⟩⟩,zAF,show q.values.getD (Ax c g 1) 0-q.values.getD (Ax c g 0) 0=0-(q.values.getD (Ax c g 0) 0-q.values.getD (Ax c g 1) 0) by omega]
 ·have h2:c.cells.length=2:=by rw [←hc];exact C.two (.inr (by rw [hc];exact hk))
  have c0:=S.cell 0 (by omega);have c1:=S.cell 1 (by omega);have g0:=S.gi (a:=0) (by omega);have g1:=S.gi (a:=1) (by omega);have l0:=(S.lt (a:=0) (by omega)).2;have l1:=(S.lt (a:=1) (by omega)).2;refine D (f:=fun n=>Fb n q c g) (M:=Ho c (Ax c g 0) (Ax c g 1)=true) (b:=Ho c (Ax c g 0) (Ax c g 1)) hk (fun n=>rfl) (Ev.now fun n=>?_) Iff.rfl (by unfold G4;rw [hk];simp);unfold Fb JE;rw [hk]
  show (if _ then _ else none)=_
  rw [g0,g1,zAE ⟨⟨by omega,by omega⟩,c0,⟨by omega,by omega⟩,c1⟩,Lm hs (by omega) (by omega),Lm hs (by omega) (by omega),Lm ho (by omega) (by omega),Lm ho (by omega) (by omega)];unfold Ho;cases tb c.set (Ax c g 0) <;> cases tb c.set (Ax c g 1) <;> cases tb c.other (Ax c g 0) <;> cases tb c.other (Ax c g 1) <;> rfl
 ·have WA:HZ c q (GB g):=by rw [←hc];exact C.all (.inl (by rw [hc];exact hk)) hd
  obtain ⟨r,h1,h2⟩:=kH (loop:=false) (M:=Jm q.nbrs (DL c g)) S WA hs We (by simp);exact D (f:=fun n=>(PU n q.nbrs g c.cells c.set false).bind some) hk (fun n=>by unfold Fb JE;rw [hk];rfl) (Ev.bind h1 (Ev.now fun n=>rfl)) h2 (by unfold G4;rw [hk];simp)
 ·have WA:HZ c q (GB g):=by rw [←hc];exact C.all (.inr (by rw [hc];exact hk)) hd
  obtain ⟨r,h1,h2⟩:=kH (loop:=true) (M:=Jm q.nbrs (DL c g)/\ ∀ v,v<g.length -> (DL c g).getD v false=true -> DN q.nbrs (DL c g) v=2) S WA hs We (by
   rw [zAE rfl];have gl:=WA.gl;rw [Mu] at gl;constructor
   ·rintro ⟨h1,h2⟩;exact .inr ⟨h2,h1⟩
   ·rintro (h | ⟨h1,h2⟩)
    ·exact ⟨fun u v hu _ mu _=>(by rw [h u (by omega)] at mu;cases mu),fun v hv mv=>(by rw [h v hv] at mv;cases mv)⟩
    ·exact ⟨h2,h1⟩)
  exact D (f:=fun n=>(PU n q.nbrs g c.cells c.set true).bind some) hk (fun n=>by unfold Fb JE;rw [hk];rfl) (Ev.bind h1 (Ev.now fun n=>rfl)) h2 (by unfold G4;rw [hk];simp)
/-! ### Finished grids-/
theorem o9 {s:Int} {l:List Int} (hl:l.length<=LB): ∀ (k j:Nat),j+k=l.length -> (∀ j',j'<j -> 0<=l.getD j' 0/\ l.getD j' 0<s) -> ∃ r:Int,Ev (fun n=>Ll l s n (.l1 (j:Int))) r/\ (decide (r>=0)=false↔∀ j,j<l.length -> 0<=l.getD j 0/\ l.getD j 0<s):=by
 have hb:LB<=9223372036854775806:=by decide
 intro k
 induction k with
 | zero=>
  intro j e h;refine ⟨-1,Ev.one fun n=>?_,zGF (by decide) fun j' BT=>h j' (by omega)⟩
  show Sj n (Ll l s n) l s (j:Int)=_
  unfold Sj;rw [zAC (by omega),zAH]
 | succ k ih=>
  intro j e h;have hj:j<l.length:=by omega
  have u: ∀ n,UY n (l.getD j 0) s=some (decide (¬ (0<=l.getD j 0/\ l.getD j 0<s))):=fun n=>by
   unfold UY d6
   by_cases h0:l.getD j 0<0
   ·rw [zAJ h0,zAI,zAJ (by omega)]
   ·rw [zAC h0,zAH];exact congrArg some (decide_eq_decide.2 (by omega))
  have step: ∀ n,Ll l s (n+1) (.l1 (j:Int))=bif decide (¬ (0<=l.getD j 0/\ l.getD j 0<s)) then some (j:Int) else Ll l s n (.l1 ((j+1:Nat):Int)):=fun n=>by
   show Sj n (Ll l s n) l s (j:Int)=_
   unfold Sj;rw [zAJ (by omega),zAI,zAE ⟨by omega,by omega⟩,zAL,u,zAF,zAE (As.2 ⟨by omega,by omega⟩),show ((j+1:Nat):Int)=(j:Int)+1 by omega]
  by_cases hh:0<=l.getD j 0/\ l.getD j 0<s
  ·obtain ⟨r,h1,h2⟩:=ih (j+1) (by omega) fun j' BT=>by
    rcases zAc.1 BT with BT | rfl
    ·exact h j' BT
    ·exact hh
   exact ⟨r,BE.ev (BE.one fun n=>by rw [step n,zAC (fun h=>h hh),zAH]) h1,h2⟩
  ·refine ⟨(j:Int),Ev.one fun n=>by rw [step n,zAJ hh,zAI],zFZ (by rw [zAJ (by omega)];decide) fun h=>hh (h j hj)⟩
theorem tT (hF:EA q) (hl:g.length<=LB): ∃ e,Ev (fun n=>VK n q g) e/\ (e=0↔CR q=true/\ Gd q g):=by
 have hV:Ev (fun n=>valid n q) (FL (CR q) 191):=⟨FA q,fun n hn=>UU hF hn⟩;cases hv:CR q with
 | false=>
  rw [hv] at hV;exact ⟨191,Ev.bind hV (Ev.now fun n=>rfl),by simp⟩
 | true=>
  rw [hv] at hV
  by_cases Ao:(g.length:Int)=q.cells
  ·obtain ⟨r,h1,h2⟩:=o9 (s:=q.symbols) hl g.length 0 (by omega) fun j hj=>absurd hj (zAo j)
   refine ⟨if decide (r>=0)=true then 200 else 0,Ev.bind hV (Ev.eq (Ev.bind (Ev.eq (Ev.bind (Ev.bind h1 (b:=fun n y=>some (decide (y>=0))) (Ev.now fun n=>rfl)) (b:=fun n y=>some (!y)) (Ev.now fun n=>rfl)) fun n=>?_) (b:=fun n y2=>bif (!y2) then some 200 else some 0) (Ev.now fun n=>?_)) fun n=>rfl),?_⟩
   ·unfold TV cI;rw [zDu.2 Ao,zAI];rfl
   ·cases decide (r>=0) <;> rfl
   ·have:(if decide (r>=0)=true then (200:Int) else 0)=0↔decide (r>=0)=false:=by cases decide (r>=0) <;> simp
    rw [this,h2];exact ⟨fun h=>⟨rfl,Ao,h⟩,fun h=>h.2.sym⟩
  ·refine ⟨200,Ev.bind hV (Ev.now fun n=>?_),zFZ (by decide) fun h=>Ao h.2.len⟩
   show (bif ((0:Int) != 0) then _ else (TV n q.cells q.symbols g).bind _)=_
   unfold TV cI;rw [zBj.2 Ao];rfl
theorem Gd.ctx (G:Gd q g) (hF:EA q) (hv:CR q=true) (h0:0<=i) (h1:i<(q.cons.length:Int)):B4 q i (GB g):=⟨hF,hv,h0,h1,G.pos hv⟩
def dX (q:AA) (g:List Int):Prop:=∀ i,0<=i -> i<(q.cons.length:Int) -> G4 q (con q i) g
def SvP (q:AA) (g:List Int) (r:Bool×Int):Prop:=(r.2=0↔CR q=true/\ Gd q g)/\ (r.2=0 -> (r.1=true↔dX q g))
theorem ov (hF:EA q) (hv:CR q=true) (G:Gd q g): ∀ (k j:Nat),j+k=q.cons.length -> (∀ i,0<=i -> i<(j:Int) -> G4 q (con q i) g) -> ∃ r:Int,Ev (fun n=>Lj q.cons q g n (.l1 (j:Int))) r/\ (decide (r>=0)=false↔dX q g):=by
 have A2:q.cons.length<=4096:=by have:=(E8 hv);omega
 intro k
 induction k with
 | zero=>
  intro j e h;refine ⟨-1,Ev.one fun n=>?_,zGF (by decide) fun i h0 h1=>h i h0 (by omega)⟩
  show Si n (Lj q.cons q g n) q.cons q g (j:Int)=_
  unfold Si;rw [zAC (by omega),zAH]
 | succ k ih=>
  intro j e h;have hj:j<q.cons.length:=by omega
  obtain ⟨b,⟨N,b1⟩,b2⟩:=vX (G.ctx hF hv (i:=(j:Int)) (by omega) (by omega)) G
  have step: ∀ n,N<=n -> Lj q.cons q g (n+1) (.l1 (j:Int))=bif !b then some (j:Int) else Lj q.cons q g n (.l1 ((j+1:Nat):Int)):=fun n hn=>by
   have e1:Fb n q (q.cons.getD (j:Int).toNat default) g=some b:=b1 n hn
   show Si n (Lj q.cons q g n) q.cons q g (j:Int)=_
   unfold Si UW YJ;rw [zAJ (by omega),zAI,zAE ⟨by omega,by omega⟩,e1,zAF,zAF,zAE (As.2 ⟨by omega,by omega⟩),show ((j+1:Nat):Int)=(j:Int)+1 by omega]
  cases b with
  | true=>
   obtain ⟨r,h1,h2⟩:=ih (j+1) (by omega) fun i h0 h1=>by
    by_cases e:i=(j:Int)
    ·rw [e];exact b2.1 rfl
    ·exact h i h0 (by omega)
   exact ⟨r,BE.ev (BE.oneN N fun n hn=>by rw [step n hn];rfl) h1,h2⟩
  | false=>
   refine ⟨(j:Int),Ev.oneN N fun n hn=>by rw [step n hn];rfl,zFZ (by rw [zAJ (by omega)];decide) fun h=>?_⟩;have:=b2.2 (h (j:Int) (by omega) (by omega));cases this
theorem qB (hF:EA q) (hl:g.length<=LB): ∃ r,Ev (fun n=>LG n q g) r/\ SvP q g r:=by
 obtain ⟨e,h1,h2⟩:=tT hF hl
 by_cases h0:e=0
 ·subst h0;obtain ⟨hv,G⟩:=h2.1 rfl;obtain ⟨r,r1,r2⟩:=ov hF hv G q.cons.length 0 (by omega) fun i h0 h1=>by omega
  refine ⟨(!decide (r>=0),0),Ev.bind h1 (Ev.eq (Ev.bind (Ev.bind r1 (b:=fun n y1=>some (decide (y1>=0))) (Ev.now fun n=>rfl)) (b:=fun n y2=>some ((!y2),(0:Int))) (Ev.now fun n=>rfl)) fun n=>rfl),⟨fun _=>⟨hv,G⟩,fun _=>rfl⟩,fun _=>?_⟩;rw [←r2]
  show (!decide (r>=0))=true↔_
  cases decide (r>=0) <;> simp
 ·refine ⟨(false,e),Ev.bind h1 (Ev.now fun n=>by rw [zEy.2 h0];rfl),⟨fun h=>absurd h h0,fun h=>absurd (h2.2 h) h0⟩,fun h=>absurd h h0⟩
end
end Go.Proofs.YtkjbblkieglmlaaGreatDoor
namespace Go.Proofs.YtkjbblkieglmlaaGreatDoor
abbrev zFh:=@List.take_left'
end Go.Proofs.YtkjbblkieglmlaaGreatDoor
namespace Go.Proofs.YtkjbblkieglmlaaGreatDoor
open Go.RowKit
def Ba.nv {P:Program} (C:Ba P):Prop:=∀ G R W,¬ C.Jx G R W
def pan (v:Value):List PanicEntry:=[{ v:=v,recovered:=false }]
def QW (pv:Value) (M:Nat -> Prop) (w:World) (ρ:List AI):Option DV -> Ending -> Prop
 | some d,e=>∃ v,e= .returned v/\ AM M w d ρ v
 | none,e=>e= .panicked (pan pv)
def YC (P:Program) (Γ:Ar) (pv:Value) (f:Nat) (ds:Nat -> List DV) (h:Nat -> DH) (ys:List (List DV)) (out:Option DV) (h':Nat -> DH):Prop:=
 (∀ args W,(callFunc f args).run P W= .ok (.enter f args) W)/\ ∀ (C:Ba P),C.nv -> ∀ i,(∃ rest,C.encs.drop i=ys++rest) -> ∀ N ρ args w G R,A0 P Γ N (h C.l) ρ w -> BC (MS N (h C.l) ρ) w ρ (ds C.l) args -> C.J i G R w -> IY Γ N G R (h C.l) ρ w ->
  CallsIn Fence.wide 0 P f args w fun e w'=>∃ N' ρ' G' R',A0 P Γ N' (h' C.l) ρ' w'/\ C.J (i+ys.length) G' R' w'/\ IY Γ N' G' R' (h' C.l) ρ' w'/\ B8 (h C.l).length ρ ρ'/\ QW pv (MS N' (h' C.l) ρ') w' ρ' out e
section
variable {P:Program} {Γ:Ar}
def Ba.part (C:Ba P) (hn:C.nv) (O R1 G1:Nat -> Prop) (w:World) (hO: ∀ b,O b -> b<w.heap.size) (hR1: ∀ b,R1 b -> b<w.heap.size):Ba P where
 l:=C.l
 encs:=C.encs
 J:=fun j G R W=>C.J j (fun b=>G b∨O b) R W/\ AP (fun b=>¬ (O b∨R1 b)) w W/\ (∀ b,O b -> ¬ G b/\ ¬ R b)/\ (∀ b,R1 b -> R b)/\ (∀ b,G b -> G1 b∨w.heap.size<=b)/\ (∀ b,G b -> ¬ R b)
 Jx:=fun _ _ _=>False
 hJ:=by
  rintro j G R G' R' A B ⟨h1,h2,h3,h4,h5,h6⟩ hu hg hr EG hd AO;have hs:=h2.size;have L5: ∀ b,O b -> b<A.heap.size:=fun b hb=>zAW (hO b hb) hs
  have Lu: ∀ b,O b -> ¬ G' b/\ ¬ R' b:=fun b hb=>by
   have:=L5 b hb;exact ⟨fun hx=>(hg b hx).elim (h3 b hb).1 (by omega),fun hx=>(hr b hx).elim (h3 b hb).2 fun hx=>hx.elim (h3 b hb).1 (by omega)⟩
  refine ⟨C.hJ j _ R _ R' A B h1 (hu.mono fun _ _ h=>.inl h) (fun k hk=>hk.elim (fun h=>(hg k h).imp .inl id) fun h=>.inl (.inr h)) (fun k hk=>(hr k hk).imp id fun h=>h.imp .inl id) (fun k hk=>?_) (fun k hk=>hk.elim (hd k) fun h=>(Lu k h).2) (fun k hk=>?_),h2.comp hu fun i hi hx=>?_,Lu,fun b hb=>?_,fun b hb=>?_,hd⟩
  ·rcases hk with (hk | hk) | hk
   ·exact (EG k (.inl hk)).imp .inl id
   ·exact .inl (.inr hk)
   ·exact (EG k (.inr hk)).imp .inl id
  ·rcases hk with (hk | hk) | hk
   ·exact AO k (.inl hk)
   ·exact zAW (L5 k hk) hu.size
   ·exact AO k (.inr hk)
  ·exact fun Ln=>Ln.elim (fun h=>(h3 i h).1 hx) fun h=>h6 i hx (h4 i h)
  ·refine (EG b (.inr (h4 b hb))).resolve_left fun hx=>?_
   rcases hg b hx with h | h
   ·exact h6 b h (h4 b hb)
   ·have:=hR1 b hb;omega
  ·rcases hg b hb with h | h
   ·exact h5 b h
   ·exact .inr (zAt hs h)
 hJx:=fun _ _ _ _ _ _ h _ _ _ _ _ _=>h.elim
 hy:=by
  rintro i x args G R W1 hx hE ⟨h1,h2,h3,h4,h5,h6⟩ hs
  obtain ⟨fn,tmps,UA,body,hy,hR⟩:=C.hy i x args _ R W1 hx hE h1 ⟨fun k hk=>hk.elim (hs.dis k) fun h=>(h3 k h).2,fun k hk=>by
   rcases hk with (hk | hk) | hk
   ·exact hs.lt k (.inl hk)
   ·exact zAW (hO k hk) h2.size
   ·exact hs.lt k (.inr hk)⟩
  refine ⟨fn,tmps,UA,body,hy,hR.mono ?_⟩;rintro e W' ⟨hu,hj⟩;refine ⟨hu.mono fun k _ h hx=>h (hx.imp .inl id),.inl ?_⟩;rcases hj with ⟨rfl,hj⟩ | ⟨_,hj⟩
  ·exact ⟨rfl,hj,h2.comp hu fun i _ hx Ln=>hx (Ln.imp .inr (h4 i)),h3,h4,h5,h6⟩
  ·exact (hn _ _ _ hj).elim
def MT (K:Nat) (h:DH) (ρ:List AI) (b:Nat):Prop:=∃ k o p,K<=k/\ h[k]? =some (some o)/\ ρ[k]? =some p/\ p.foot b
theorem MO.split {h:DH} {ρ:List AI} (K:Nat) (b:Nat):MO h ρ b↔MO (h.take K) (ρ.take K) b∨MT K h ρ b:=by
 constructor
 ·rintro ⟨k,o,p,h1,h2,h3⟩;rcases zBG k K with hk | hk
  ·exact .inl ⟨k,o,p,by rw [zEC,zAE hk];exact h1,by rw [zEC,zAE hk];exact h2,h3⟩
  ·exact .inr ⟨k,o,p,hk,h1,h2,h3⟩
 ·rintro (⟨k,o,p,h1,h2,h3⟩ | ⟨k,o,p,_,h1,h2,h3⟩)
  ·rw [zEC] at h1 h2;split at h1
   ·rename_i hk;rw [zAE hk] at h2;exact ⟨k,o,p,h1,h2,h3⟩
   ·cases h1
  ·exact ⟨k,o,p,h1,h2,h3⟩
def MK (K:Nat):Option DO -> Bool
 | some (.cells l)=>l.all (C5 K)
 | some (.ro l)=>l.all (C5 K)
 | _=>true
theorem A0.take {N:Nat -> Prop} {h:DH} {ρ:List AI} {w:World} (H:A0 P Γ N h ρ w) {K:Nat} (hK:K<=h.length) (hc:(h.take K).all (MK K)=true):A0 P Γ (fun b=>N b∨MT K h ρ b) (h.take K) (ρ.take K) w/\ ∀ b,MS (fun b=>N b∨MT K h ρ b) (h.take K) (ρ.take K) b↔MS N h ρ b:=by
 have hM: ∀ b,MS (fun b=>N b∨MT K h ρ b) (h.take K) (ρ.take K) b↔MS N h ρ b:=fun b=>by
  constructor
  ·rintro ((x | x) | x)
   ·exact .inl x
   ·exact .inr ((MO.split K b).2 (.inr x))
   ·exact .inr ((MO.split K b).2 (.inl x))
  ·rintro (x | x)
   ·exact .inl (.inl x)
   ·exact ((MO.split K b).1 x).elim .inr fun y=>.inl (.inr y)
 have gt: ∀ {α:Type} {l:List α} {k:Nat} {x:α},(l.take K)[k]? =some x -> k<K/\ l[k]? =some x:=fun {α l k x} hx=>by
  rw [zEC] at hx;split at hx
  ·rename_i hk;exact ⟨hk,hx⟩
  ·cases hx
 refine ⟨⟨by simp [H.len],fun k o hk=>?_,fun k o p b h1 h2 h3=>?_,fun i i' o o' p p' b Am g1 g2 g3 g4 g5 g6=>H.dis i i' o o' p p' b Am (gt g1).2 (gt g2).2 (gt g3).2 (gt g4).2 g5 g6,fun b hb=>?_,H.gi⟩,hM⟩
 ·obtain ⟨C0,CZ⟩:=gt hk;obtain ⟨p,hp,ho⟩:=H.obj k o CZ;refine ⟨p,by rw [zEC,zAE C0];exact hp,?_⟩;have e:MS (fun b=>N b∨MT K h ρ b) (h.take K) (ρ.take K)=MS N h ρ:=funext fun b=>propext (hM b)
  rw [e];cases o with
  | cells l=>
   have A2:l.all (C5 K)=true:=zAT.1 hc _ (zDy hk);exact AX.out ho rfl fun j u hj hu=>AM.take _ (zAT.1 A2 _ (by simp [u8,hj])) hu
  | ints l=>exact ho
  | bools l=>exact ho
  | arr m n f=>exact ho
  | iter encs=>exact ho
  | ro l=>
   obtain ⟨r1,r2,r3⟩:=ho;have A2:l.all (C5 K)=true:=zAT.1 hc _ (zDy hk);exact ⟨r1,r2,AX.out r3 rfl fun j u hj hu=>AM.take _ (zAT.1 A2 _ (by simp [u8,hj])) hu⟩
  | mo x=>exact ho
 ·obtain ⟨C0,Kj⟩:=gt h1;obtain ⟨c1,c2,c3⟩:=H.cel k o p b Kj (gt h2).2 h3;refine ⟨c1,?_,c3⟩;rintro (hn | ⟨k',o',p',q1,q2,q3,q4⟩)
  ·exact c2 hn
  ·exact H.dis k k' o o' p p' b (by omega) Kj q2 (gt h2).2 q3 h3 q4
 ·rcases hb with hb | ⟨k',o',p',q1,q2,q3,q4⟩
  ·exact H.nlt b hb
  ·obtain ⟨c1,_,c,t,z,c3⟩:=H.cel k' o' p' b q2 q3 q4;exact ⟨(zAK.1 c3).1,c1⟩
theorem QW.out {pv:Value} {M M':Nat -> Prop} {w:World} {ρ ρ':List AI} {out:Option DV} {e:Ending} (H:BU M w ρ M' w ρ') (h:QW pv M w ρ out e):QW pv M' w ρ' out e:=by
 cases out with
 | none=>exact h
 | some d=>obtain ⟨v,h1,h2⟩:=h;exact ⟨v,h1,h2.out _ H⟩
theorem YC.call {pv:Value} {f:Nat} {ds:Nat -> List DV} {h:Nat -> DH} {ys:List (List DV)} {out:Option DV} {h':Nat -> DH} (H:YC P Γ pv f ds h ys out h') {C:Ba P} (hn:C.nv) {i:Nat} (hi: ∃ rest,C.encs.drop i=ys++rest) {N G R:Nat -> Prop} {hh T:DH} {ρ:List AI} {w:World} {args:Array Value}
 (e:hh=h C.l++T) (HR:A0 P Γ N hh ρ w) (hl:(h' C.l).length=(h C.l).length) (hc:(h C.l).all (MK (h C.l).length)=true) (hd:(ds C.l).all (C5 (h C.l).length)=true) (fa:BC (MS N hh ρ) w ρ (ds C.l) args) (hj:C.J i G R w) (y:IY Γ N G R hh ρ w):
 CallsIn Fence.wide 0 P f args w fun e w'=>∃ N2 ρ2 G2 R2,A0 P Γ N2 (h' C.l++T) ρ2 w'/\ C.J (i+ys.length) G2 R2 w'/\ IY Γ N2 G2 R2 (h' C.l++T) ρ2 w'/\ B8 hh.length ρ ρ2/\ QW pv (MS N2 (h' C.l++T) ρ2) w' ρ2 out e/\
  BU (MS N hh ρ) w ρ (MS N2 (h' C.l++T) ρ2) w' ρ2/\ AP (fun b=>N b∨MO (h C.l) (ρ.take (h C.l).length) b∨w.heap.size<=b) w w':=by
 subst e;obtain ⟨K,Ki⟩: ∃ K,K=(h C.l).length:=⟨_,rfl⟩;have hK:(h C.l++T).take K=h C.l:=by rw [Ki,zFh];rfl
 have hKl:K<=(h C.l++T).length:=by rw [Ki,zAm];omega
 obtain ⟨Ob,hM⟩:=HR.take hKl (by rw [hK,Ki];exact hc);rw [hK] at Ob hM;obtain ⟨R1,z1,z2,z3,z4⟩:=IY.part (C.hJ i) hj y;have sp:=fun b=>MO.split (h:=h C.l++T) (ρ:=ρ) K b
 rw [hK] at sp;obtain ⟨O,Kg⟩: ∃ O,O=MT K (h C.l++T) ρ:=⟨_,rfl⟩;obtain ⟨G1,Wq⟩: ∃ G1,G1=MO (h C.l) (ρ.take K):=⟨_,rfl⟩;rw [←Kg] at Ob hM;rw [←Ki,←Wq];have fl:(fun b=>G1 b∨O b)=MO (h C.l++T) ρ:=by rw [Wq,Kg];exact funext fun b=>propext (sp b).symm
 have HT: ∀ b,G1 b∨O b↔MO (h C.l++T) ρ b:=fun b=>iff_of_eq (congrFun fl b)
 have AO: ∀ b,MO (h C.l++T) ρ b -> b<w.heap.size:=fun b hb=>z2.sh.lt b (.inl hb)
 have Pj: ∀ b,G1 b -> ¬ O b:=fun b h1 h2=>by
  rw [Wq] at h1;rw [Kg] at h2;obtain ⟨k,o,p,q1,q2,q3⟩:=h1;obtain ⟨k',o',p',g1,g2,g3,g4⟩:=h2;rw [zEC] at q2;split at q2
  ·rename_i hk;exact HR.dis k k' o o' p p' b (by omega) (by rw [zAb (by omega)];exact q1) g2 q2 g3 q3 g4
  ·cases q2
 have hNG: ∀ b,N b -> ¬ MO (h C.l++T) ρ b:=fun b hN=>((z2.n b).1 hN).2.1
 let C':Ba P:=C.part hn O R1 G1 w (fun b hb=>AO b ((HT b).1 (.inr hb))) fun b hb=>z2.sh.lt b (.inr hb)
 have fa':BC (MS (fun b=>N b∨O b) (h C.l) (ρ.take K)) w (ρ.take K) (ds C.l) args:=by
  have e:MS (fun b=>N b∨O b) (h C.l) (ρ.take K)=MS N (h C.l++T) ρ:=funext fun b=>propext (hM b)
  rw [e];exact fa.take (by rw [Ki];exact hd)
 refine (H.2 C' (fun _ _ _ h=>h) i hi (fun b=>N b∨O b) (ρ.take K) args w G1 R1 Ob fa' ⟨by show C.J i (fun b=>G1 b∨O b) R1 w;rw [fl];exact z1,AP.refl _ _,fun b hb=>⟨fun hg=>Pj b hg hb,z2.sh.dis b ((HT b).1 (.inr hb))⟩,fun _ h=>h,fun _ h=>.inl h,fun b hb=>z2.sh.dis b ((HT b).1 (.inl hb))⟩
  ⟨⟨fun b hb=>z2.sh.dis b ((HT b).1 (.inl hb)),fun b hb=>hb.elim (fun h=>AO b ((HT b).1 (.inl h))) fun h=>z2.sh.lt b (.inr h)⟩,z2.lo,fun b hb=>by rw [Wq];exact hb,fun b=>?_⟩).mono ?_
 ·constructor
  ·rintro (hb | hb)
   ·exact ⟨((z2.n b).1 hb).1,fun hg=>hNG b hb ((HT b).1 (.inl hg)),((z2.n b).1 hb).2.2⟩
   ·exact ⟨AO b ((HT b).1 (.inr hb)),fun hg=>Pj b hg hb,z2.sh.dis b ((HT b).1 (.inr hb))⟩
  ·rintro ⟨q1,q2,q3⟩
   by_cases ho:O b
   ·exact .inr ho
   ·exact .inl ((z2.n b).2 ⟨q1,fun hm=>((HT b).2 hm).elim q2 ho,q3⟩)
 ·rintro e w' ⟨N',ρs,G',R',E4,⟨j1,j2,j3,j4,j5,j6⟩,y',kp,ho⟩;have Ay:=j2.size;have bD:ρs.length=K:=by rw [E4.len,Ki];exact hl
  have Ao:ρ.length=K+T.length:=by rw [HR.len,zAm,Ki]
  have hN2: ∀ b,(b<w'.heap.size/\ ¬ (G' b∨O b)/\ ¬ R' b) -> N' b:=fun b ⟨q1,q2,q3⟩=>(y'.n b).2 ⟨q1,fun h=>q2 (.inl h),q3⟩
  have hON: ∀ b,O b -> N' b:=fun b hb=>(y'.n b).2 ⟨zAW (AO b ((HT b).1 (.inr hb))) Ay,(j3 b hb).1,(j3 b hb).2⟩
  have pl: ∀ (k:Nat) (p:AI),ρ[k]? =some p -> (ρs++ρ.drop K)[k]? =some p:=fun k p hp=>by
   rcases zBG k K with hk | hk
   ·rw [zAb (by omega)];exact kp k p (by show k<(h C.l).length;rw [←Ki];exact hk) (by rw [zEC,zAE hk];exact hp)
   ·rw [zAd (by omega),bD,zEn,show K+(k-K)=k by omega];exact hp
  have gl: ∀ {k:Nat} {p:AI},k<K -> (ρs++ρ.drop K)[k]? =some p -> ρs[k]? =some p:=fun {k p} hk hp=>by rw [zAb (by omega)] at hp;exact hp
  have gr: ∀ {k:Nat} {p:AI},K<=k -> (ρs++ρ.drop K)[k]? =some p -> ρ[k]? =some p:=fun {k p} hk hp=>by
   rw [zAd (by omega),bD,zEn,show K+(k-K)=k by omega] at hp;exact hp
  have ol: ∀ {k:Nat} {o:DO},k<K -> (h' C.l++T)[k]? =some (some o) -> (h' C.l)[k]? =some (some o):=fun {k o} hk ho=>by rw [zAb (by omega)] at ho;exact ho
  have I9: ∀ {k:Nat} {o:DO},K<=k -> (h' C.l++T)[k]? =some (some o) -> (h C.l++T)[k]? =some (some o):=fun {k o} hk ho=>by
   rw [zAd (by omega)] at ho ⊢;rw [hl] at ho;exact ho
  have JV: ∀ b,MO (h' C.l++T) (ρs++ρ.drop K) b -> G' b∨O b:=by
   rintro b ⟨k,o,p,q1,q2,q3⟩;rcases zBG k K with hk | hk
   ·exact .inl (y'.own b ⟨k,o,p,ol hk q1,gl hk q2,q3⟩)
   ·exact .inr (by rw [Kg];exact ⟨k,o,p,hk,I9 hk q1,gr hk q2,q3⟩)
  obtain ⟨N2,Wm⟩: ∃ N2:Nat -> Prop,N2=fun b=>b<w'.heap.size/\ ¬ (G' b∨O b)/\ ¬ R' b:=⟨_,rfl⟩
  have GO: ∀ b,N2 b -> N' b:=fun b hb=>by rw [Wm] at hb;exact hN2 b hb
  have hM2: ∀ b,MS N2 (h' C.l++T) (ρs++ρ.drop K) b -> b<w'.heap.size/\ ¬ R' b:=fun b hb=>by
   rcases hb with hb | hb
   ·rw [Wm] at hb;exact ⟨hb.1,hb.2.2⟩
   ·rcases JV b hb with hb | hb
    ·exact ⟨y'.sh.lt b (.inl hb),j6 b hb⟩
    ·exact ⟨zAW (AO b ((HT b).1 (.inr hb))) Ay,(j3 b hb).2⟩
  have out:BU (MS N (h C.l++T) ρ) w ρ (MS N2 (h' C.l++T) (ρs++ρ.drop K)) w' (ρs++ρ.drop K):=by
   refine ⟨fun b hb hm _=>j2.block b hb fun hx=>hx (.inr ?_),fun b hb=>?_,pl⟩
   ·exact Classical.byContradiction fun hr=>hm (z3 b ⟨hb,hr⟩)
   ·rcases zBG b w.heap.size with hl | hl
    ·exact .inl (z3 b ⟨hl,fun hr=>(hM2 b hb).2 (j4 b hr)⟩)
    ·exact .inr hl
  have IQ:BU (MS N' (h' C.l) ρs) w' ρs (MS N2 (h' C.l++T) (ρs++ρ.drop K)) w' (ρs++ρ.drop K):=by
   refine ⟨fun _ _ _ _=>rfl,fun b hb=>.inl ?_,fun k p hp=>?_⟩
   ·rcases hb with hb | hb
    ·exact .inl (GO b hb)
    ·obtain ⟨k,o,p,q1,q2,q3⟩:=hb;rcases zBG k K with hk | hk
     ·exact .inr ⟨k,o,p,ol hk q1,gl hk q2,q3⟩
     ·exact .inl (hON b (by rw [Kg];exact ⟨k,o,p,hk,I9 hk q1,gr hk q2,q3⟩))
   ·rw [zAb (zAS.1 hp).1];exact hp
  refine ⟨N2,ρs++ρ.drop K,fun b=>G' b∨O b,R',⟨by simp [bD,Ao,hl,Ki],fun k o hk=>?_,fun k o p b h1 h2 h3=>?_,fun i i' o o' p p' b Am g1 g2 g3 g4 g5 g6=>?_,fun b hb=>?_,E4.gi⟩,j1,⟨⟨fun b hb=>hb.elim (j6 b) fun h=>(j3 b h).2,fun b hb=>?_⟩,y'.lo,JV,fun b=>by rw [Wm]⟩,fun k p _ hp=>pl k p hp,ho.out IQ,out,?_⟩
  ·rcases zBG k K with C0 | C0
   ·obtain ⟨p,hp,hr⟩:=E4.obj k o (ol C0 hk);exact ⟨p,IQ.pl k p hp,hr.out IQ (S:=fun _=>False) (AP.refl _ _) (fun _ h=>h.elim) fun _ _ _ h=>h⟩
   ·obtain ⟨p,hp,hr⟩:=HR.obj k o (I9 C0 hk);refine ⟨p,pl k p hp,hr.out out (S:=fun b=>b<w.heap.size/\ ¬ (O b∨R1 b)) (j2.mono fun b hb hx=>⟨hb,hx⟩) (fun b hb=>z3 b ⟨hb.1,fun hr=>hb.2 (.inr hr)⟩) fun b _ hf hx=>hx.2 (.inl ?_)⟩;rw [Kg];exact ⟨k,o,p,C0,I9 C0 hk,hp,hf⟩
  ·rcases zBG k K with C0 | C0
   ·obtain ⟨c1,c2,c3⟩:=E4.cel k o p b (ol C0 h1) (gl C0 h2) h3;exact ⟨c1,fun hx=>c2 (GO b hx),c3⟩
   ·have C8:O b:=by rw [Kg];exact ⟨k,o,p,C0,I9 C0 h1,gr C0 h2,h3⟩
    obtain ⟨c1,_,c,t,z,c3⟩:=HR.cel k o p b (I9 C0 h1) (gr C0 h2) h3;refine ⟨c1,fun hx=>?_,c,t,z,(j2.block b (zAK.1 c3).1 fun hx=>hx (.inl C8)).trans c3⟩;rw [Wm] at hx;exact hx.2.1 (.inr C8)
  ·rcases zBG i K with FJ | FJ <;> rcases zBG i' K with Ex | Ex
   ·exact E4.dis i i' o o' p p' b Am (ol FJ g1) (ol Ex g2) (gl FJ g3) (gl Ex g4) g5 g6
   ·exact (j3 b (by rw [Kg];exact ⟨i',o',p',Ex,I9 Ex g2,gr Ex g4,g6⟩)).1 (y'.own b ⟨i,o,p,ol FJ g1,gl FJ g3,g5⟩)
   ·exact (j3 b (by rw [Kg];exact ⟨i,o,p,FJ,I9 FJ g1,gr FJ g3,g5⟩)).1 (y'.own b ⟨i',o',p',ol Ex g2,gl Ex g4,g6⟩)
   ·exact HR.dis i i' o o' p p' b Am (I9 FJ g1) (I9 Ex g2) (gr FJ g3) (gr Ex g4) g5 g6
  ·exact E4.nlt b (GO b hb)
  ·rcases hb with (hb | hb) | hb
   ·exact y'.sh.lt b (.inl hb)
   ·exact zAW (AO b ((HT b).1 (.inr hb))) Ay
   ·exact y'.sh.lt b (.inr hb)
  ·refine j2.mono fun b hb hx=>?_
   rcases z3 b ⟨hb,fun hr=>hx (.inr hr)⟩ with h | h
   ·exact .inl h
   ·exact .inr (.inl (((HT b).2 h).resolve_right fun h=>hx (.inl h)))
def Ba.K (C:Ba P) (Γ:Ar) (L j:Nat) (ρ0:List AI):BQ P Γ L where
 I:=fun N h ρ w=>(C.Y Γ L j).I N h ρ w/\ B8 L ρ0 ρ
 st:=fun ⟨a,b⟩ H H' st k=>⟨(C.Y Γ L j).st a H H' st k,b.trans k⟩
def YQ (C:Ba P) (Γ:Ar) (pv:Value) (fn:Func) (L j:Nat) (ρ0:List AI) (out:Option DV) (h':DH):QY P Γ L:=fun e S Y=>Y=C.K Γ L j ρ0/\ match out with
 | some d=>DD P fn L d h' e S
 | none=>e= .panic (pan pv)/\ ∃ CH,Az L S CH/\ CH.h=h'
theorem YC.of {pv:Value} {f L:Nat} {fn:Func} {ds:Nat -> List DV} {h:Nat -> DH} {ys:List (List DV)} {out:Option DV} {h':Nat -> DH} (hf:P.funcs[f]? =some fn) (hb:fn.body.isSome=true) (hn:(fn.name== "runtime.NumGoroutine")=false) (hL: ∀ l,(h l).length=L)
 (T: ∀ (C:Ba P) (i:Nat) (ρ0:List AI),C.nv -> (∃ rest,C.encs.drop i=ys++rest) -> Ap P Γ Fence.wide none L (C.K Γ L i ρ0) (YQ C Γ pv fn L (i+ys.length) ρ0 out (h' C.l)) [.code (AW fn)] ⟨ds C.l++List.replicate (fn.ntmps-(ds C.l).length) .any,h C.l⟩):YC P Γ pv f ds h ys out h':=by
 refine ⟨fun args W=>MB hf hb hn args W,fun C Kb i hi N ρ args w G R HR fa hj y=>?_⟩;refine nU hf hb (T C i ρ Kb hi) HR fa ⟨⟨G,R,hj,y⟩,B8.refl _ _⟩ ?_;rintro e S' ρ' N' Y' a' W' ⟨rfl,q⟩ q2 ⟨q3,q4⟩;cases out with
 | none=>
  obtain ⟨rfl,CH,Cu,hh⟩:=q;obtain ⟨ρ3,R3,FW,k3⟩:=Cu P Γ N' ρ' a' W' q2;obtain ⟨G3,dZ,j3,y3⟩:=(C.Y Γ L (i+ys.length)).st q3 q2.hr R3.hr FW k3;have MU:=R3.hr;rw [hh] at MU y3;exact ⟨N',ρ3,G3,dZ,MU,j3,y3,by rw [hL];exact q4.trans k3,rfl⟩
 | some d=>
  obtain ⟨he,CH,Cu,rs,Lp,hd⟩:=q;obtain ⟨ρ'',EX,Qq,Na⟩:=Cu P Γ N' ρ' a' W' q2;have y2:=(C.Y Γ L (i+ys.length)).st q3 q2.hr EX.hr Qq Na;obtain ⟨v,g1,g2⟩:=VG EX Lp
  have key: ∃ v,(results fn a'.tmps).run P W'= .ok v W'/\ ∃ N' ρ' G' R',A0 P Γ N' (h' C.l) ρ' W'/\ C.J (i+ys.length) G' R' W'/\ IY Γ N' G' R' (h' C.l) ρ' W'/\ B8 (h C.l).length ρ ρ'/\ QW pv (MS N' (h' C.l) ρ') W' ρ' (some d) (.returned v):=by
   rcases hd with ⟨hd,hh⟩ | ⟨_,hd,hn,hl,hh⟩
   ·obtain ⟨G3,R3,j3,y3⟩:=y2;have g3:=hd _ _ _ _ g2;have Rh:=EX.hr;rw [hh] at y3 g3 Rh;exact ⟨v,g1,N',ρ'',G3,R3,Rh,j3,y3,by rw [hL];exact q4.trans Na,v,rfl,g3⟩
   ·obtain ⟨ρ3,R3,FW,k3⟩:=Az.compact (L:=L) (List.range L) CH List.nodup_range (fun k hk=>zAW (zAi.1 hk) hl) (fun k hk=>by simp [hk]) P Γ N' ρ'' a' W' EX;obtain ⟨G3,dZ,j3,y3⟩:=(C.Y Γ L (i+ys.length)).st y2 EX.hr R3.hr FW k3;have MU:=R3.hr;rw [hh] at MU FW y3;refine ⟨v,g1,N',ρ3,G3,dZ,MU,j3,y3,by rw [hL];exact (q4.trans Na).trans k3,v,rfl,?_⟩;have r0:=hn _ _ _ _ (hd _ _ _ _ g2);have r1:AM (MS N' (h' C.l) ρ3) W' d [] v:=AM.out _ ⟨fun _ _ _ _=>rfl,fun b hb=>hb.elim (fun hx=>.inl (.inl hx)) fun hx=>(FW.grow b hx).imp .inr id,fun _ _ hx=>by simp at hx⟩ r0;exact AM.out _ ⟨fun _ _ _ _=>rfl,fun b hb=>.inl hb,fun _ _ hx=>by simp at hx⟩ r1
  rcases he with rfl | rfl
  ·exact key
  ·exact key
def MM (fr:List DV):List DV:=fr.map fun _=>.any
theorem zDh {M:Nat -> Prop} {w:World} {ρ:List AI} {fr:List DV} {t:Array Value} (h:fr.length=t.size):BC M w ρ (MM fr) t:=⟨by simp [MM,h],fun j hj=>by
 have:(MM fr).getD j .any= .any:=by
  unfold MM;rw [u8,zA1];cases fr[j]? <;> rfl
 rw [this];trivial⟩
def PO {L:Nat} (Q:QY P Γ L):Exit -> Act -> World -> Prop
 | .panic c,a,w=>∃ fr h ρ N Y,Q (.panic c) ⟨MM fr,h⟩ Y/\ fr.length=a.tmps.size/\ A0 P Γ N h ρ w/\ Y.I N h ρ w/\ a.defers= []
 | e,a,w=>∃ S ρ N Y,QE Q e S Y/\ AS P Γ N S ρ a w/\ Y.I N S.h ρ w/\ Ky none a.defers w/\ Bd Fence.wide none w
theorem PO.le {L:Nat} {Q:QY P Γ L} {e:Exit} {a:Act} {w:World} (h:PO Q e a w): ∃ S ρ N Y,QE Q e S Y/\ AS P Γ N S ρ a w/\ Y.I N S.h ρ w/\ Ky none a.defers w/\ Bd Fence.wide none w:=by
 cases e with
 | panic c=>
  obtain ⟨fr,h,ρ,N,Y,h1,h2,h3,h4,h5⟩:=h;exact ⟨⟨MM fr,h⟩,ρ,N,Y,h1,⟨h3,zDh h2⟩,h4,h5,Bd.none⟩
 | _=>exact h
theorem PO.put {L:Nat} {Q:QY P Γ L} (c:List PanicEntry) (a:Act) (d:Option Tmp) (v:Value) (w:World) (h:PO Q (.panic c) (Act.put a d v) w):PO Q (.panic c) a w:=by
 obtain ⟨fr,h,ρ,N,Y,h1,h2,h3,h4,h5⟩:=h;refine ⟨fr,h,ρ,N,Y,h1,h2.trans ?_,h3,h4,?_⟩
 ·cases d <;> simp [Act.put]
 ·cases d <;> simpa [Act.put] using h5
def DZ (P:Program) (Γ:Ar) {L:Nat} (Y:BQ P Γ L) (ops:Array Oper) (l:List Nat) (S:St) (Q:QY P Γ L):Prop:=
 ∀ N ρ a w,AS P Γ N S ρ a w -> Y.I N S.h ρ w -> a.defers= [] -> wpListIn Fence.wide 0 P ops (PO Q) (CE ops l) a w
theorem Rm {ops:Array Oper}: ∀ (l l':List Nat),CE ops (l++l')=CE ops l++CE ops l'
 | [],_=>rfl
 | i::l,l'=>by
  simp only [zFW,CE];split
  ·rw [Rm l l'];rfl
  ·exact Rm l l'
theorem uR {ops:Array Oper}:CE ops (List.range ops.size)=ops.toList:=by
 have go: ∀ (k:Nat),k<=ops.size -> CE ops (List.range k)=ops.toList.take k:=by
  intro k
  induction k with
  | zero=>intro _;rfl
  | succ k ih=>
   intro hk;rw [List.range_succ,Rm,ih (by omega),List.take_add_one]
   congr 1
   simp [CE,zA0 (show k<ops.size by omega)]
 rw [go _ (zAp _),List.take_of_length_le (by simp)]
section
variable {L:Nat} {C:Ba P} {i:Nat} {ρ0:List AI} {Q:QY P Γ L} {ops:Array Oper} {S:St} {Aa:BH} {vs:List Prop}
theorem DZ.done {Y:BQ P Γ L} {l:List Nat} {S':St} {Bz:BH} (hF:Cw Fence.wide P) (Au:CP ops=true) (h:DX P Γ ops (CE ops l) S Aa=some (S',vs,Bz)) (hv:Bc vs) (hk:Q .normal S' Y):DZ P Γ Y ops l S Q:=fun N ρ a w R y m=>
 JY hF Au _ (PA l) R h hv fun ρ' a' w' R' st Ca=>Tr.done R y m Bd.none hk R' st.st (fun k p _ hp=>st.pl k p hp) Ca
theorem Tr.ofO {Y:BQ P Γ L} {id:Nat} (h:DZ P Γ Y ops (List.range ops.size) S Q):Tr P Γ Fence.wide none L Y (.region id ops false) S Q:=fun N ρ a w R y m _=>zEm (zFB (by
 have:=h N ρ a w R y m;rw [uR] at this;exact this)) fun _ _ _=>PO.le
def Je (P:Program) (Γ:Ar) (ops:Array Oper) (l:List Nat) (p:Nat) (S:St) (Aa:BH):Option (FuncId×List DV×Option Tmp×St×List Prop×BH):=match DX P Γ ops (CE ops l) S Aa with
 | none=>none
 | some (S1,vs,Ec)=>match ops[p]? with
  | none=>none
  | some o=>match Iu ops S1 o with
   | some true=>match o.op with
    | .call c=>match c.callee with
     | .value f=>match AY S1.fr f with
      | .fn g m cap=>some (g,c.args.toList.map (AY S1.fr)++(List.range m).map cap,o.dst,S1,vs,Ec)
      | _=>none
     | _=>none
    | _=>none
   | _=>none
theorem DZ.call {l1 l2:List Nat} {p:Nat} {pv:Value} {g:FuncId} {dst:Option Tmp} {S1:St} {Ec:BH} {ds:Nat -> List DV} {h:Nat -> DH} {ys:List (List DV)} {out:Option DV} {h':Nat -> DH} {T:DH} (hF:Cw Fence.wide P) (Au:CP ops=true) (hC:C.nv)
 (hr:Je P Γ ops l1 p S Aa=some (g,ds C.l,dst,S1,vs,Ec)) (hv:Bc vs) (H:YC P Γ pv g ds h ys out h') (hS:S1.h=h C.l++T) (hl:(h' C.l).length=(h C.l).length) (hc:(h C.l).all (MK (h C.l).length)=true) (hd:(ds C.l).all (C5 (h C.l).length)=true) (hi: ∃ rest,C.encs.drop i=ys++rest)
 (hk:match out with
  | some d=>DZ P Γ (C.K Γ L (i+ys.length) ρ0) ops l2 ⟨CX S1.fr dst d,h' C.l++T⟩ Q
  | none=>Q (.panic (pan pv)) ⟨MM S1.fr,h' C.l++T⟩ (C.K Γ L (i+ys.length) ρ0)):DZ P Γ (C.K Γ L i ρ0) ops (l1++p::l2) S Q:=fun N ρ a w R y m=>by
 unfold Je at hr;split at hr
 ·cases hr
 rename_i S2 Dq Fo h1;split at hr
 ·cases hr
 rename_i o ho;split at hr
 ·rename_i hw;split at hr
  ·rename_i c Ls;split at hr
   ·rename_i f Pm;split at hr
    ·rename_i g' m' cap hf;simp only [zA4,zD6] at hr;obtain ⟨rfl,e2,rfl,rfl,rfl,rfl⟩:=hr;rw [Rm];have e3:CE ops (p::l2)=o::CE ops l2:=by simp only [CE,ho]
     rw [e3];refine TL hF Au _ (PA l1) R h1 hv fun ρ1 a1 w1 R1 DG Nz=>?_
     obtain ⟨⟨G,R0,j1,y1⟩,Hq⟩:=(C.K Γ L i ρ0).st y R.hr R1.hr DG.st (fun k p _ hp=>DG.pl k p hp);obtain ⟨args,JK,TB⟩:=cq R1 o Ls Pm hf H.1;rw [e2] at TB;unfold wpListIn;rw [zAE (He R1 hw)];refine ⟨fun f _=>hF.fn f,?_⟩;rw [zEe _ _ _ (Gg Au ho),JK];refine ⟨fun hx=>(by cases hx),(YC.call H hC hi hS R1.hr hl hc hd TB j1 y1).mono ?_⟩;have Aw:a1.defers= []:=Nz.trans m;have CL: ∀ v,(a1.put o.dst v).defers=a1.defers:=fun v=>by cases ho:o.dst <;> simp [Act.put]
     rintro e w2 ⟨N2,ρ2,G2,R2,UL,j2,y2,j9,Nq,hO,_⟩;have OD:=R1.fr.out hO;have PP:B8 L ρ0 ρ2:=fun k p hk hp=>hO.pl k p (Hq k p hk hp)
     cases out with
     | none=>
      have he:e= .panicked (pan pv):=Nq;subst he;exact ⟨_,_,ρ2,N2,_,hk,OD.1,UL,⟨⟨G2,R2,j2,y2⟩,PP⟩,Aw⟩
     | some d=>
      obtain ⟨v,rfl,N4⟩:=Nq;exact hk N2 ρ2 _ w2 (GZ (S:=⟨S2.fr,h' C.l++T⟩) ⟨UL,OD⟩ o.dst N4) ⟨⟨G2,R2,j2,y2⟩,PP⟩ ((CL v).trans Aw)
    ·cases hr
   ·cases hr
  ·cases hr
 ·cases hr
theorem Tr.ordO {Y:BQ P Γ L} {id:Nat} {CS:List (List Nat×Nat)} {BL tail:List Nat} {S':St} {Bz:BH} (hF:Cw Fence.wide P) (hm:P.follows .mixedOrders=true) (hB:Av ops CS BL tail)
 (h:Lo P Γ ops S.h CS BL S Aa=some (S',vs,Bz)) (hv:Bc vs) (hk:DZ P Γ Y ops tail S' Q):Tr P Γ Fence.wide none L Y (.region id ops true) S Q:=fun N ρ a w R y m _=>by
 simp only [Av,zAN] at hB;obtain ⟨⟨h1,h2⟩,h3⟩:=hB;have hE:Aq w w.drew:=Aq.toDrew w;refine zEm (dj hF.fn CS BL tail hm (by simp only [zAN];exact ⟨h1,h2⟩) (WT (Q:=PO Q) hF h2 CS BL tail h3 (R.ext hE) (Ci.refl _ _ _) (Aq.refl _) h hv fun ρ' a' w' R' st Ca=>?_)) fun _ _ _=>PO.le
 exact hk N ρ' a' w' R' (Y.st y R.hr R'.hr ((A6.ext hE).trans st.st) fun k p _ hp=>st.pl k p hp) (Ca.trans m)
def X2 (P:Program) (Γ:Ar) (ops:Array Oper) (l:List Nat) (p:Nat) (S:St) (Aa:BH):Option (List DV×Nat×Option Tmp×St×List Prop×BH):=match DX P Γ ops (CE ops l) S Aa with
 | none=>none
 | some (S1,vs,Ec)=>match ops[p]? with
  | none=>none
  | some o=>match Iu ops S1 o with
   | some true=>match o.op with
    | .call c=>match c.callee with
     | .value f=>match AY S1.fr f with
      | .yl l=>match (c.args.toList.map (AY S1.fr)).all Eo with
       | true=>some (c.args.toList.map (AY S1.fr),l,o.dst,S1,vs,Ec)
       | false=>none
      | _=>none
     | _=>none
    | _=>none
   | _=>none
theorem DZ.yield {l1 l2:List Nat} {p:Nat} {x:List DV} {dst:Option Tmp} {S1:St} {Ec:BH} (hF:Cw Fence.wide P) (Au:CP ops=true) (hC:C.nv)
 (hr:X2 P Γ ops l1 p S Aa=some (x,C.l,dst,S1,vs,Ec)) (hv:Bc vs) (hx:C.encs[i]? =some x) (hk:DZ P Γ (C.K Γ L (i+1) ρ0) ops l2 ⟨CX S1.fr dst (.bool true),S1.h⟩ Q):DZ P Γ (C.K Γ L i ρ0) ops (l1++p::l2) S Q:=fun N ρ a w R y m=>by
 unfold X2 at hr;split at hr
 ·cases hr
 rename_i S2 Dq Fo h1;split at hr
 ·cases hr
 rename_i o ho;split at hr
 ·rename_i hw;split at hr
  ·rename_i c Ls;split at hr
   ·rename_i f Pm;split at hr
    ·rename_i l hl;split at hr
     ·rename_i Sn;simp only [zA4,zD6] at hr;obtain ⟨rfl,rfl,rfl,rfl,rfl,rfl⟩:=hr;rw [Rm];have e3:CE ops (p::l2)=o::CE ops l2:=by simp only [CE,ho]
      rw [e3];refine TL hF Au _ (PA l1) R h1 hv fun ρ1 a1 w1 R1 DG Nz=>?_
      obtain ⟨⟨G0,R0,y1,y2⟩,Hq⟩:=(C.K Γ L i ρ0).st y R.hr R1.hr DG.st (fun k p _ hp=>DG.pl k p hp);obtain ⟨R',z1,z2,z3,_⟩:=IY.part (C.hJ i) y1 y2;obtain ⟨fn,tmps,UA,body,hy,hR⟩:=C.hy i _ _ _ R' w1 hx (YV.of (g:=AY S2.fr) (f:=a1.eval) (fun x=>Bg R1 x) z3 Sn) z1 z2.sh;unfold wpListIn;rw [zAE (He R1 hw)]
      have bJ:a1.eval f= .func (.yield C.l) #[] #[]:=by
       have hr:=Bg R1 f;rw [hl] at hr;exact hr
      refine ⟨fun f _=>hF.fn f,?_⟩;rw [zEe _ _ _ (Gg Au ho),gq Ls Pm bJ rfl,hy];refine ⟨fun hx=>(by cases hx),hR.mono ?_⟩;have Aw:a1.defers= []:=Nz.trans m;have CL: ∀ v,(a1.put o.dst v).defers=a1.defers:=fun v=>by cases ho:o.dst <;> simp [Act.put]
      rintro e W' ⟨hu,hj⟩;obtain ⟨rfl,BT⟩:=hj.resolve_right fun h=>hC _ _ _ h.2
      obtain ⟨H',fo⟩:=z2.later R1.hr hu;exact hk _ ρ1 _ W' (GZ (S:=S2) ⟨H',R1.fr.out fo⟩ o.dst (d:=.bool true) (v:=.bool true) rfl) ⟨⟨_,_,BT,z2.sh.upd hu,z2.lo,fun _ h=>h,fun _=>Iff.rfl⟩,Hq⟩ ((CL _).trans Aw)
     ·cases hr
    ·cases hr
   ·cases hr
  ·cases hr
 ·cases hr
def OJ (ops:Array Oper) (p:Nat) (tail:List Nat):List Nat -> Array Bool -> Bool
 | [],AU=>(Region.ready .any ops AU== [p])&&Om ops tail (AU.setIfInBounds p true)&&((List.range ops.size).all fun j=>tail.contains j||(AU.setIfInBounds p true).getD j true)
 | r::Bh,AU=>O2 ops (fun j=>j==p) r AU&&((List.range ops.size).all fun j=>!tail.contains j||El ops ops.size j r)&&OJ ops p tail Bh (AU.setIfInBounds r true)
def RH (P:Program) (ops:Array Oper) (xs:List Nat):List Nat -> St -> List (Nat×DV) -> Option (St×List Prop×List (Nat×DV))
 | [],S,co=>some (S,[],co)
 | r::Bh,S,co=>match ops[r]? with
  | none=>none
  | some o=>match O4 P ops ⟨S.fr,kD xs S.h⟩ co o with
   | none=>none
   | some (S1,CG,Jf)=>match RH P ops xs Bh ⟨S1.fr,S.h⟩ Jf with
    | none=>none
    | some (S2,Dq,cc)=>some (S2,CG++Dq,cc)
theorem ZA {xs:List Nat} {p:Nat} {tail:List Nat} {Q':Exit -> Act -> World -> Prop} (hF:Cw Fence.wide P) (Au:CP ops=true) (hs:Region.noSelect ops=true) (hQ: ∀ c a d v w,Q' (.panic c) (Act.put a d v) w -> Q' (.panic c) a w) {N:Nat -> Prop} {ρ:List AI} {w:World} {g m:Nat}:
 ∀ (Bh:List Nat) {AU:Array Bool} {S:St} {a:Act} {co:List (Nat×DV)} {S':St} {vs:List Prop} {Cq:List (Nat×DV)},FT ops AU -> AS P Γ N S ρ a w -> OW xs S.h=true -> OJ ops p tail Bh AU=true -> RH P ops xs Bh S co=some (S',vs,Cq) -> Bc vs ->
  (∀ Z7 a',FT ops Z7 -> OJ ops p tail [] Z7=true -> AS P Γ N S' ρ a' w -> S'.h=S.h -> a'.defers=a.defers -> Hd Fence.wide 0 P ops Q' (RZ ops (fun j=>j==p) fun _ b=>N b∨Zs xs ρ w b) (fun j=>tail.contains j) g m Z7 a' w) ->
  Hd Fence.wide 0 P ops Q' (RZ ops (fun j=>j==p) fun _ b=>N b∨Zs xs ρ w b) (fun j=>tail.contains j) g (Bh.length+m) AU a w
 | [],AU,S,a,co,S',vs,Cq,A2,R,H3,hk,h,hv,hn=>by
  cases h;rw [zEE,zAs];exact hn AU a A2 hk R rfl rfl
 | r::Bh,AU,S,a,co,S',vs,Cq,A2,R,H3,hk,h,hv,hn=>by
  simp only [OJ,zAN] at hk;obtain ⟨⟨k1,k2⟩,k3⟩:=hk;simp only [RH] at h;split at h
  ·cases h
  rename_i o ho;split at h
  ·cases h
  rename_i S1 CG Jf h1;split at h
  ·cases h
  rename_i S2 Dq cc h2;cases h;obtain ⟨B0,B7⟩:=Cv.1 hv
  have hT: ∀ j,j<ops.size -> tail.contains j=true -> El ops ops.size j r=true:=fun j hj ht=>by
   have:=zAT.1 k2 j (zAi.2 hj);rw [ht] at this;simpa using this
  have D5: ∀ W,AP (fun b=>N b∨Zs xs ρ w b) w W -> Keep (fun b=>N b∨∃ k o q,(!xs.contains k)=false/\ S.h[k]? =some (some o)/\ ρ[k]? =some q/\ q.foot b) w W:=fun W hu b o u hb hc=>by
   have AO:b<w.heap.size:=zEH w ⟨b,o,none⟩ hc;refine (cm (hu.block b AO ?_)).trans hc;rintro (h | ⟨k,q,h1,h2,h3⟩ | h)
   ·exact hb (.inl h)
   ·have hk:k<S.h.length:=by rw [←R.hr.len];exact (zAS.1 h2).1
    have hx:=zAT.1 H3 k h1;simp only [zAz,zAx] at hx;rcases hx with hx | hx
    ·omega
    ·cases hg:S.h.getD k none with
     | none=>rw [hg] at hx;cases hx
     | some ob=>exact hb (.inr ⟨k,ob,q,by simp [h1],getD_some hg,h2,h3⟩)
   ·omega
  have KY:(Region.ready .any ops AU).contains r=true:=by
   simp only [O2,zAN] at k1;exact k1.1.1.1
  have CL: ∀ v,(a.put o.dst v).defers=a.defers:=fun v=>by cases ho:o.dst <;> simp [Act.put]
  obtain ⟨e1,Dg⟩:=Rf (R.sel (p:=fun k=>!xs.contains k)) h1 B0
  have back: ∀ {a':Act},AS P Γ (fun b=>N b∨∃ k o q,(!xs.contains k)=false/\ S.h[k]? =some (some o)/\ ρ[k]? =some q/\ q.foot b) S1 ρ a' w -> AS P Γ N ⟨S1.fr,S.h⟩ ρ a' w:=fun {a'} hr=>by
   have hr:=hr.fr;rw [e1] at hr;exact AS.unsel (p:=fun k=>!xs.contains k) R.hr hr
  rw [show (r::Bh).length+m=(Bh.length+m)+1 by simp;omega];rcases Dg with ⟨hw,v,g1,g2⟩ | ⟨hw,g2⟩
  ·refine VM (Zi:=fun b=>N b∨Zs xs ρ w b) hF.fn Au hs hQ ho A2 k1 (fun _ _ _ h=>h) hT (.inl ⟨hw,fun W hu=>g1 W (D5 W hu)⟩) ?_;exact ZA hF Au hs hQ Bh (T0 A2 KY) (back g2) H3 k3 h2 B7 fun l' a' q1 q2 q3 q4 q5=>hn l' a' q1 q2 q3 q4 (q5.trans (CL v))
  ·refine VM (Zi:=fun b=>N b∨Zs xs ρ w b) hF.fn Au hs (v:=undef) hQ ho A2 k1 (fun _ _ _ h=>h) hT (.inr ⟨hw,rfl⟩) ?_;exact ZA hF Au hs hQ Bh (T0 A2 KY) (back g2) H3 k3 h2 B7 fun l' a' q1 q2 q3 q4 q5=>hn l' a' q1 q2 q3 q4 (q5.trans (CL undef))
def lK (xs:List Nat) (K:Nat) (h:DH):Bool:=(List.range K).all fun k=>xs.contains k||(match h.getD k none with
 | some (.ro _)=>true
 | none=>true
 | _=>false)
theorem Tr.drawC {id p:Nat} {Bh tail xs:List Nat} {pv:Value} {g:FuncId} {dst:Option Tmp} {co Jf:List (Nat×DV)} {S1:St} {Ec:BH} {CG:List Prop} {ds:Nat -> List DV} {h:Nat -> DH} {ys:List (List DV)} {out:Option DV} {h':Nat -> DH} {T:DH} (hF:Cw Fence.wide P) (hm:P.follows .mixedOrders=true)
 (hB:(CP ops&&Region.noSelect ops&&(Bh.length+1+tail.length==ops.size)&&(tail.all fun t=>decide (t<ops.size))&&OJ ops p tail Bh (Array.replicate ops.size false)&&OW xs S.h&&lK xs (h C.l).length S.h)=true) (hC:C.nv)
 (hs:RH P ops xs Bh S co=some (S1,CG,Jf)) (B0:Bc CG) (hr:Je P Γ ops [] p S1 Aa=some (g,ds C.l,dst,S1,vs,Ec)) (H:YC P Γ pv g ds h ys out h') (hS:S.h=h C.l++T) (hl:(h' C.l).length=(h C.l).length) (hc:(h C.l).all (MK (h C.l).length)=true) (hd:(ds C.l).all (C5 (h C.l).length)=true) (hi: ∃ rest,C.encs.drop i=ys++rest)
 (hk:match out with
  | some d=>DZ P Γ (C.K Γ L (i+ys.length) ρ0) ops tail ⟨CX S1.fr dst d,h' C.l++T⟩ Q
  | none=>Q (.panic (pan pv)) ⟨MM S1.fr,h' C.l++T⟩ (C.K Γ L (i+ys.length) ρ0)):Tr P Γ Fence.wide none L (C.K Γ L i ρ0) (.region id ops true) S Q:=fun N ρ a w R y m _=>by
 simp only [zAN,zDu] at hB;obtain ⟨⟨⟨⟨⟨⟨b1,b2⟩,b3⟩,b4⟩,b5⟩,b6⟩,b7⟩:=hB;have hE:Aq w w.drew:=Aq.toDrew w;have Rd:=R.ext hE;have yd:=(C.K Γ L i ρ0).st y R.hr Rd.hr (A6.ext hE) fun _ _ _ h=>h
 refine zEm (X6 (Q:=PO Q) (m:=Bh.length+1) hm b3 (ZA (Q':=PO Q) hF b1 b2 (fun c a d v w h=>PO.put c a d v w h) Bh cd Rd b6 b5 hs B0 fun AU a1 A2 Wf R1 eh Nz=>?_)) fun _ _ _=>PO.le
 simp only [OJ,zAN,zDu] at Wf;obtain ⟨⟨c1,c2⟩,c3⟩:=Wf;refine ⟨fun h0=>(by rw [c1] at h0;cases h0),fun q hq=>?_⟩;rw [c1,zAu] at hq;subst hq;unfold Je at hr;split at hr
 ·cases hr
 rename_i S2 Dq Fo h1;simp only [CE,DX,zA4,zD6] at h1;obtain ⟨rfl,_,_⟩:=h1;split at hr
 ·cases hr
 rename_i o ho;split at hr
 ·rename_i hw;split at hr
  ·rename_i c Ls;split at hr
   ·rename_i f Pm;split at hr
    ·rename_i g' m' cap hf;simp only [zA4,zD6] at hr;obtain ⟨rfl,e2,rfl,_,_,_⟩:=hr;rw [←eh] at yd hS;obtain ⟨⟨G,R0,j1,y1⟩,Hq⟩:=yd;obtain ⟨args,JK,TB⟩:=cq R1 o Ls Pm hf H.1;rw [e2] at TB;have Aw:a1.defers= []:=Nz.trans m;have CL: ∀ v,(a1.put o.dst v).defers=a1.defers:=fun v=>by cases ho:o.dst <;> simp [Act.put]
     unfold wpOpIn;simp only [ho];rw [zAE (He R1 hw)];refine ⟨fun f _=>hF.fn f,?_⟩;rw [zEe _ _ _ (Gg b1 ho),JK];refine ⟨fun hx=>(by cases hx),(YC.call H hC hi hS R1.hr hl hc hd TB j1 y1).mono ?_⟩;rintro e w2 ⟨N2,ρ2,G2,R2,UL,j2,y2,j9,Nq,hO,hU⟩;have OD:=R1.fr.out hO;have PP:B8 L ρ0 ρ2:=fun k p hk hp=>hO.pl k p (Hq k p hk hp)
     cases out with
     | none=>
      have he:e= .panicked (pan pv):=Nq;subst he;exact ⟨_,_,ρ2,N2,_,hk,OD.1,UL,⟨⟨G2,R2,j2,y2⟩,PP⟩,Aw⟩
     | some d=>
      obtain ⟨v,rfl,N4⟩:=Nq;refine ⟨⟨fun hp=>?_,fun _=>hU.mono fun b _ hb=>?_⟩,fun j hj ht=>?_,YO tail _ _ _ c2 (YP tail _ _ (fun t ht=>by simpa using zAT.1 b4 t ht) (hk N2 ρ2 _ w2 (GZ (S:=⟨S1.fr,h' C.l++T⟩) ⟨UL,OD⟩ o.dst N4) ⟨⟨G2,R2,j2,y2⟩,PP⟩ ((CL v).trans Aw)))⟩
      ·simp [O9,ho,O7,Ls,Pm] at hp
      ·rcases hb with hb | ⟨k,ob,q,q1,q2,q3⟩ | hb
       ·exact .inl hb
       ·rw [zEC] at q2;split at q2
        ·rename_i CZ;have TG:S1.h[k]? =some (some ob):=by rw [hS,zAb CZ];exact q1
         have hx:=zAT.1 b7 k (zAi.2 CZ);rw [←eh,u8,TG] at hx;simp only [zAz] at hx;rcases hx with hx | hx
         ·exact .inr (.inl ⟨k,q,by simpa using hx,q2,q3⟩)
         ·obtain ⟨q',Lq,Cs⟩:=R1.hr.obj k _ TG;have eq:q'=q:=zAR (Lq.symm.trans q2);subst eq;cases ob <;> simp at hx;rw [Cs.1] at q3;exact q3.elim
        ·cases q2
       ·exact .inr (.inr hb)
      ·have:=zAT.1 c3 j (zAi.2 hj);have ht:tail.contains j=false:=ht;rw [ht] at this;simpa using this
    ·cases hr
   ·cases hr
  ·cases hr
 ·cases hr
end
end
end Go.Proofs.YtkjbblkieglmlaaGreatDoor
namespace Go.Proofs.YtkjbblkieglmlaaGreatDoor
open Go.RowKit
def DY:Value:=.iface 30 (.int .i64 280)
theorem zBk (w:World):CallsIn Fence.wide 0 Tryz.prog 57 #[.bool true] w fun e w'=>e= .returned (.tuple #[])/\ w'=w:=by
 refine callsIn_of_wp Tryz.func57 rfl trivial ?_ rfl;simp only [Tryz.ntmps57,zE5,zAw,zEE,Nat.reduceAdd,Nat.reduceSub,zF5,zF6,List.push_toArray,zF9,zEN,zFW]
 gi_wp2
 go_end0
 exact ⟨rfl,rfl⟩
theorem zBl (w:World):CallsIn Fence.wide 0 Tryz.prog 57 #[.bool false] w fun e w'=>e= .panicked (pan DY)/\ w'=w:=by
 refine callsIn_of_wp Tryz.func57 rfl trivial ?_ rfl;simp only [Tryz.ntmps57,zE5,zAw,zEE,Nat.reduceAdd,Nat.reduceSub,zF5,zF6,List.push_toArray,zF9,zEN,zFW]
 gi_wp2
 exact ⟨rfl,rfl,rfl⟩
theorem mi (b:Bool):YC Tryz.prog GG DY 57 (fun _=>[.bool b]) (fun _=>[]) [] (bif b then some (.tup 0 (fun j=>([]:List DV).getD j .any)) else none) (fun _=>[]):=by
 refine ⟨fun args W=>MB Tryz.func57 (by kernel_rfl) (by kernel_rfl) args W,fun C _ i _ N ρ args w G R HR fa hj y=>?_⟩
 have ha:args= #[.bool b]:=by
  obtain ⟨h1,h2⟩:=fa;have h:=h2 0 Nat.one_pos;have hs:args.size=1:=h1.symm;apply Array.ext
  ·simp [hs]
  ·intro j g1 g2;have:j=0:=by omega
   subst this;have h:args.getD 0 undef= .bool b:=h;rw [zAg,zA0 (by omega)] at h;exact h
 subst ha;cases b with
 | true=>
  refine (zBk w).mono ?_;rintro e w' ⟨rfl,rfl⟩;exact ⟨N,ρ,G,R,HR,hj,y,B8.refl _ _,.tuple #[],rfl,#[],rfl,rfl,fun j hj=>absurd hj (zAo j)⟩
 | false=>
  refine (zBl w).mono ?_;rintro e w' ⟨rfl,rfl⟩;exact ⟨N,ρ,G,R,HR,hj,y,B8.refl _ _,rfl⟩
end Go.Proofs.YtkjbblkieglmlaaGreatDoor
namespace Go.Proofs.YtkjbblkieglmlaaGreatDoor
open Go.RowKit
theorem AM.pl {M M':Nat -> Prop} {w:World} (hM: ∀ b,M' b -> M b) {ρ ρ':List AI} (hρ: ∀ (k:Nat) (p:AI),ρ[k]? =some p -> ∃ ft,ρ'[k]? =some { p with foot:=ft }): ∀ (d:DV) {v:Value},AM M w d ρ v -> AM M' w d ρ' v:=by
 have low: ∀ (d:DV) {v:Value},AM M w d [] v -> AM M' w d [] v:=fun d v h=>h.out d ⟨fun _ _ _ _=>rfl,fun b hb=>.inl (hM b hb),fun k p hk=>by simp at hk⟩
 intro d
 induction d with
 | any=>intro v _;trivial
 | nils=>intro v h;exact h
 | int k n=>intro v h;exact h
 | bool b=>intro v h;exact h
 | str s=>intro v h;exact h
 | ints l=>intro v h;exact low (.ints l) h
 | bools l=>intro v h;exact low (.bools l) h
 | sl m n f _=>intro v h;exact low (.sl m n f) h
 | fp m f _=>intro v h;exact low (.fp m f) h
 | agg m f ih=>rintro v ⟨cs,e,hs,h⟩;exact ⟨cs,e,hs,fun j hj=>let ⟨u,h1,h2⟩:=h j hj;⟨u,h1,ih j h2⟩⟩
 | tup m f ih=>rintro v ⟨cs,e,hs,h⟩;exact ⟨cs,e,hs,fun j hj=>let ⟨u,h1,h2⟩:=h j hj;⟨u,h1,ih j h2⟩⟩
 | fn g m c ih=>rintro v ⟨cs,e,hs,h⟩;exact ⟨cs,e,hs,fun j hj=>let ⟨u,h1,h2⟩:=h j hj;⟨u,h1,ih j h2⟩⟩
 | ref k j=>rintro v ⟨p,hp,e⟩;obtain ⟨ft,h⟩:=hρ k p hp;exact ⟨_,h,e⟩
 | msl k m off n=>rintro v ⟨p,cap,hp,r⟩;obtain ⟨ft,h⟩:=hρ k p hp;exact ⟨_,cap,h,r⟩
 | mp k m i j=>rintro v ⟨p,hp,e⟩;obtain ⟨ft,h⟩:=hρ k p hp;exact ⟨_,h,e⟩
 | it k=>rintro v ⟨p,hp,e⟩;obtain ⟨ft,h⟩:=hρ k p hp;exact ⟨_,h,e⟩
 | yl l=>intro v h;exact h
 | cst u=>intro v h;exact h
 | mri k i=>rintro v ⟨p,vs,hp,r⟩;obtain ⟨ft,h⟩:=hρ k p hp;exact ⟨_,vs,h,r⟩
 | mse k m off n=>rintro v ⟨p,a,cap,hp,r⟩;obtain ⟨ft,h⟩:=hρ k p hp;exact ⟨_,a,cap,h,r⟩
theorem Az.ro {L k:Nat} {S:St} {l:List DV} (hk:S.h[k]? =some (some (.cells l))) (hL:L<=k):Az L S ⟨S.fr,S.h.set k (some (.ro l))⟩:=fun P Γ N ρ a w R=>by
 obtain ⟨p,hp,hr⟩:=R.hr.obj k _ hk;have hr:AX w p l.length _:=hr;obtain ⟨lS,KX⟩:=hr;have D7:k<ρ.length:=(zAS.1 hp).1;have hkh:k<S.h.length:=(zAS.1 hk).1
 let p':AI:={ p with foot:=fun _=>False }
 have KW: ∀ (i:Nat) (q:AI),(ρ.set k p')[i]? =some q -> (i=k/\ q=p')∨(i≠k/\ ρ[i]? =some q):=fun i q h=>by
  rw [zAy] at h;split at h
  ·rename_i e;exact .inl ⟨e.symm,(zAR h).symm⟩
  ·rename_i e;exact .inr ⟨fun h=>e h.symm,h⟩
 have GS: ∀ (i:Nat) (q:AI),i≠k -> ρ[i]? =some q -> (ρ.set k p')[i]? =some q:=fun i q hi h=>by rw [zAy,zAU (fun e=>hi e.symm)];exact h
 have AJ:(ρ.set k p')[k]? =some p':=by rw [zAy,zAE rfl,zAE D7]
 have Eu: ∀ (i:Nat) (q:AI),ρ[i]? =some q -> ∃ ft,(ρ.set k p')[i]? =some { q with foot:=ft }:=fun i q h=>by
  by_cases e:i=k
  ·subst e;rw [hp] at h;cases h;exact ⟨_,AJ⟩
  ·exact ⟨q.foot,GS i q e h⟩
 have C8: ∀ (i:Nat) (o:DO),(S.h.set k (some (.ro l)))[i]? =some (some o) -> (i=k/\ o= .ro l)∨(i≠k/\ S.h[i]? =some (some o)):=fun i o h=>by
  rw [zAy] at h;split at h
  ·rename_i e;exact .inl ⟨e.symm,(zAR (zAR h)).symm⟩
  ·rename_i e;exact .inr ⟨fun h=>e h.symm,h⟩
 have JV: ∀ b,MO (S.h.set k (some (.ro l))) (ρ.set k p') b -> MO S.h ρ b/\ b≠p.blk:=by
  rintro b ⟨i,o,q,h1,h2,h3⟩;rcases KW i q h2 with ⟨rfl,rfl⟩ | ⟨hi,h2⟩
  ·exact h3.elim
  ·rcases C8 i o h1 with ⟨rfl,_⟩ | ⟨_,h1⟩
   ·exact absurd rfl hi
   ·exact ⟨⟨i,o,q,h1,h2,h3⟩,fun e=>R.hr.dis i k o _ q p b hi h1 hk h2 hp h3 (by rw [lS];exact e)⟩
 have hM: ∀ b,MS N (S.h.set k (some (.ro l))) (ρ.set k p') b -> MS N S.h ρ b:=fun b hb=>hb.imp id fun h=>(JV b h).1
 have zAf:=R.hr.cel k _ p p.blk hk hp (by rw [lS]);have rep: ∀ (d:DV) {v:Value},AM (MS N S.h ρ) w d ρ v -> AM (MS N (S.h.set k (some (.ro l))) (ρ.set k p')) w d (ρ.set k p') v:=fun d v h=>h.pl hM Eu
 refine ⟨ρ.set k p',⟨⟨by simp [R.hr.len],fun i o hi=>?_,fun i o q b g1 g2 g3=>?_,fun i i' o o' q q' b Am g1 g2 g3 g4 g5 g6=>?_,R.hr.nlt,R.hr.gi⟩,⟨R.fr.1,fun j hj=>rep _ (R.fr.2 j hj)⟩⟩,⟨AP.refl _ _,fun b hb=>.inl (JV b hb).1⟩,fun i q hi hq=>GS i q (by omega) hq⟩
 ·rcases C8 i o hi with ⟨rfl,rfl⟩ | ⟨Am,hi⟩
  ·refine ⟨p',AJ,rfl,fun hx=>hx.elim zAf.2.1 fun hx=>(JV _ hx).2 rfl,?_⟩;exact AX.out (R':=fun j u=>AM (MS N (S.h.set i (some (.ro l))) (ρ.set i p')) w (l.getD j .any) (ρ.set i p') u) (show AX w { p' with foot:=fun b=>b=p'.blk } l.length _ from ⟨rfl,KX⟩) rfl fun j u _ hu=>rep _ hu
  ·obtain ⟨q,hq,ho⟩:=R.hr.obj i o hi;refine ⟨q,GS i q Am hq,?_⟩;cases o with
   | cells l'=>exact AX.out ho rfl fun j u _ hu=>rep _ hu
   | ints l'=>exact AX.out ho rfl fun j u _ hu=>hu
   | bools l'=>exact AX.out ho rfl fun j u _ hu=>hu
   | arr m n f=>exact AX.out ho rfl fun j u _ hu=>AM.out _ ⟨fun _ _ _ _=>rfl,fun b hb=>.inl (hM b hb),fun _ _ h=>by simp at h⟩ hu
   | iter encs=>
    obtain ⟨gf,lb,Rd,q1,q2,q3,q4⟩:=ho;exact ⟨gf,lb,Rd,q1,q2,fun b hb=>⟨fun hm=>(q3 b hb).1 (hM b hm),(q3 b hb).2⟩,q4⟩
   | ro l'=>
    obtain ⟨r1,r2,r3⟩:=ho;exact ⟨r1,fun hm=>r2 (hM _ hm),AX.out r3 rfl fun j u _ hu=>rep _ hu⟩
   | mo x=>exact ho
 ·rcases KW i q g2 with ⟨rfl,rfl⟩ | ⟨hi,g2⟩
  ·exact g3.elim
  ·rcases C8 i o g1 with ⟨rfl,_⟩ | ⟨_,g1⟩
   ·exact absurd rfl hi
   ·exact R.hr.cel i o q b g1 g2 g3
 ·rcases KW i q g3 with ⟨rfl,rfl⟩ | ⟨hi,g3⟩
  ·exact g5.elim
  ·rcases KW i' q' g4 with ⟨rfl,rfl⟩ | ⟨BV,g4⟩
   ·exact g6.elim
   ·rcases C8 i o g1 with ⟨rfl,_⟩ | ⟨_,g1⟩
    ·exact absurd rfl hi
    ·rcases C8 i' o' g2 with ⟨rfl,_⟩ | ⟨_,g2⟩
     ·exact absurd rfl BV
     ·exact R.hr.dis i i' o o' q q' b Am g1 g2 g3 g4 g5 g6
end Go.Proofs.YtkjbblkieglmlaaGreatDoor
namespace Go.Proofs.YtkjbblkieglmlaaGreatDoor
open Go.RowKit
abbrev YR (X R O:Type):=List X×Option R×O
def yb {X R R' O:Type} (A:Option (YR X R' O)) (f:R' -> O -> Option (YR X R O)):Option (YR X R O):=A.bind fun a=>match a.2.1 with
 | none=>some (a.1,none,a.2.2)
 | some v=>(f v a.2.2).map fun b=>(a.1++b.1,b.2)
def yx {X R O:Type} (x:X) (A:Option (YR X R O)):Option (YR X R O):=A.map fun b=>(x::b.1,b.2)
theorem de {X R R' O:Type} {A:Option (YR X R' O)} {f:R' -> O -> Option (YR X R O)} {r:YR X R O} (h:yb A f=some r): ∃ a,A=some a/\ ((a.2.1=none/\ r=(a.1,none,a.2.2))∨∃ v b,a.2.1=some v/\ f v a.2.2=some b/\ r=(a.1++b.1,b.2)):=by
 obtain ⟨a,ha,h⟩:=FP h;refine ⟨a,ha,?_⟩;split at h
 ·rename_i e;cases h;exact .inl ⟨e,rfl⟩
 ·rename_i v e;obtain ⟨b,hb,rfl⟩:=KJ h;exact .inr ⟨v,b,e,hb,rfl⟩
def DR {X R O:Type} (C:Ba Tryz.prog) (enc:X -> List DV) (i:Nat) (r:YR X R O):Prop:=∃ rest,C.encs.drop i=r.1.map enc++rest
theorem m8 {α:Type} {l a b:List α} {i:Nat} (h:l.drop i=a++b):l.drop (i+a.length)=b:=by
 rw [←List.drop_drop,h,List.drop_left'];rfl
theorem DR.split {X R R' O:Type} {C:Ba Tryz.prog} {enc:X -> List DV} {i:Nat} {y:List X} {b:YR X R O} (h:DR C enc i ((y++b.1,b.2):YR X R O)):(∃ rest,C.encs.drop i=y.map enc++rest)/\ DR C enc (i+(y.map enc).length) b:=by
 obtain ⟨rest,h⟩:=h;have h:C.encs.drop i=y.map enc++(b.1.map enc++rest):=by rw [h,List.map_append,zE7]
 exact ⟨⟨_,h⟩,rest,m8 h⟩
theorem DR.cons {X R O:Type} {C:Ba Tryz.prog} {enc:X -> List DV} {i:Nat} {x:X} {b:YR X R O} (h:DR C enc i ((x::b.1,b.2):YR X R O)):C.encs[i]? =some (enc x)/\ DR C enc (i+1) b:=by
 obtain ⟨rest,h⟩:=h;have h:C.encs.drop i=enc x::(b.1.map enc++rest):=h;refine ⟨?_,rest,?_⟩
 ·have:=congrArg (·[0]?) h;simpa using this
 ·have:=m8 (a:=[enc x]) h;simpa using this
theorem XK {h1 h:DH} (hS:h1.take h.length=h):h1=h++h1.drop h.length:=by
 conv=>lhs;rw [←zFw h.length h1,hS]
section
variable {X R R' O:Type}
abbrev YF (C:Ba Tryz.prog) (pv:Value) (fn:Func) (L:Nat) (ρ0:List AI) (tD:R -> DV) (H':O -> DH) (i:Nat) (r:YR X R O):QY Tryz.prog GG L:=YQ C GG pv fn L (i+r.1.length) ρ0 (r.2.1.map tD) (H' r.2.2)
variable {C:Ba Tryz.prog} {pv:Value} {fn:Func} {L:Nat} {ρ0:List AI} {tD:R -> DV} {H':O -> DH} {i:Nat} {r:YR X R O} {enc:X -> List DV} {k K:List KI} {S:St} {ops:Array Oper}
 {c:List (DV×DH×Bool)} {o:List (Nat×DV)} {z:List (Nat×Fz)} {v:List Prop} {fr:List DV} {h h1:DH} {l l1 l2:List Nat} {p:Nat} {dst:Option Tmp}
abbrev TO (C:Ba Tryz.prog) (pv:Value) (fn:Func) (L:Nat) (ρ0:List AI) (tD:R -> DV) (H':O -> DH) (ops:Array Oper) (l:List Nat) (k:List KI) (i:Nat) (r:YR X R O) (S:St):Prop:=
 DZ Tryz.prog GG (C.K GG L i ρ0) ops l S (Da Tryz.prog GG Fence.wide none L (YF C pv fn L ρ0 tD H' i r) k)
abbrev TY (C:Ba Tryz.prog) (pv:Value) (fn:Func) (L:Nat) (ρ0:List AI) (tD:R -> DV) (H':O -> DH) (k:List KI) (i:Nat) (r:YR X R O) (S:St):Prop:=
 Ap Tryz.prog GG Fence.wide none L (C.K GG L i ρ0) (YF C pv fn L ρ0 tD H' i r) k S
theorem La {Y:BQ Tryz.prog GG L} {Q:QY Tryz.prog GG L} {e:List PanicEntry} (h:Q (.panic e) S Y): ∀ (k:List KI),Da Tryz.prog GG Fence.wide none L Q k (.panic e) S Y
 | []=>h
 | .blk _::k=>La h k
 | .code _::k=>La h k
 | .lend _::k=>La h k
 | .scp::k=>La h k
 | .loopN _ _::k=>La h k
def VU (L:Nat) (h:DH):DH:=(List.range L).map fun k=>Rb (List.range L) (h.getD k none)
theorem YF.pan {y:List X} {o:O} {fr:List DV} {h:DH} (hL:Nat.ble L h.length=true) (hp:VU L h=H' o) {j:Nat} (hj:j=i+y.length):YF C pv fn L ρ0 tD H' i ((y,none,o):YR X R O) (.panic (pan pv)) ⟨fr,h⟩ (C.K GG L j ρ0):=by
 subst hj;exact ⟨rfl,rfl,_,Az.compact (List.range L) ⟨fr,h⟩ List.nodup_range (fun k hk=>zAW (zAi.1 hk) (zD2 hL)) (fun k hk=>by simp [hk]),hp⟩
theorem YF.app {y:List X} {b:YR X R O} {j:Nat} (hj:j=i+y.length):YF C pv fn L ρ0 tD H' i ((y++b.1,b.2):YR X R O)=YF C pv fn L ρ0 tD H' j b:=by
 subst hj
 show YQ _ _ _ _ _ (i+(y++b.1).length) _ _ _=YQ _ _ _ _ _ (i+y.length+b.1.length) _ _ _
 rw [zAm,zDw]
theorem yO (hK:J6 K=some (ops,DF K):=by kernel_rfl) (hk:TO C pv fn L ρ0 tD H' ops (List.range ops.size) (DF K) i r S):TY C pv fn L ρ0 tD H' K i r S:=by
 unfold J6 at hK;split at hK
 ·rename_i id NL k;have e1:NL=ops:=congrArg Prod.fst (zAR hK);subst e1;exact Tr.ofO hk
 ·cases hK
def VJ:List KI -> Option (Array Oper×List KI)
 | .code (.region _ ops true)::k=>some (ops,k)
 | _=>none
def Vf (live:List Nat) (r:St×List Prop×BH):List DV×DH×List Prop:=(forget live r.1.fr,r.1.h,r.2.1)
theorem jB {live:List Nat} {x:Option (St×List Prop×BH)} (h:x.map (Vf live)=some (fr,h1,v)): ∃ f Aa,x=some (⟨f,h1⟩,v,Aa)/\ fr=forget live f:=by
 cases x with
 | none=>cases h
 | some q=>
  obtain ⟨⟨f,g⟩,w,Aa⟩:=q;simp only [zA2,Vf,zA4,zD6] at h;obtain ⟨rfl,rfl,rfl⟩:=h;exact ⟨f,Aa,rfl,rfl⟩
theorem DZ.weaken {Y:BQ Tryz.prog GG L} {Q:QY Tryz.prog GG L} {S':St} (hS:Az L S S') (hk:DZ Tryz.prog GG Y ops l S' Q):DZ Tryz.prog GG Y ops l S Q:=fun N ρ a w R y m=>by
 obtain ⟨ρ1,R1,s1,k1⟩:=hS Tryz.prog GG N ρ a w R;exact hk N ρ1 a w R1 (Y.st y R.hr R1.hr s1 k1) m
theorem Ux {live:List Nat} {f:List DV} {d:DV} (e0:fr=forget live f):Az L ⟨CX f dst d,h⟩ ⟨CX fr dst d,h⟩:=by
 subst e0;cases dst with
 | none=>exact Az.forget live f h
 | some t=>
  refine Az.fr (by simp [CX,TU]) fun j hj=>?_
  have hj:j<f.length:=by simpa [CX] using hj
  show AR ((f.set t d).getD j .any) (((forget live f).set t d).getD j .any)
  by_cases e:t=j
  ·subst e;have e1:(f.set t d).getD t .any=d:=by simp [hj]
   have e2:((forget live f).set t d).getD t .any=d:=by simp [TU,hj]
   rw [e1,e2];exact AR.refl _
  ·have e1:(f.set t d).getD j .any=f.getD j .any:=by simp only [u8,zAy,zAU e]
   have e2:((forget live f).set t d).getD j .any=(forget live f).getD j .any:=by simp only [u8,zAy,zAU e]
   rw [e1,e2,cD live f hj];split
   ·exact AR.refl _
   ·exact AR.any _
def Wj:List KI -> Bool
 | .code _::_=>true
 | .blk _::k=>Wj k
 | .scp::k=>Wj k
 | .loopN _ _::_=>true
 | _=>false
theorem Ap.leH {F:Fence} {B:Option Nat} {Y:BQ Tryz.prog GG L} {Q:QY Tryz.prog GG L} {S':St} (hS:Az L S S'): ∀ {k:List KI},Wj k=true -> Ap Tryz.prog GG F B L Y Q k S' -> Ap Tryz.prog GG F B L Y Q k S
 | .code _::_,_,h=>Tr.weaken hS h
 | .blk _::k,e,h=>Ap.leH (k:=k) hS e h
 | .scp::k,e,h=>Ap.leH (k:=k) hS e h
 | .loopN 0 _::_,_,h=>h.elim
 | .loopN (_+1) _::_,_,h=>Tr.weaken hS h
 | .lend _::_,e,_=>by cases e
 | [],e,_=>by cases e
theorem yD (CS:List (List Nat×Nat)) (BL tail:List Nat) (hl:HS c o z v) (fr:List DV) (h1:DH) (hk:TO C pv fn L ρ0 tD H' ops tail (DF K) i r ⟨fr,h1⟩)
 (hK:VJ K=some (ops,DF K):=by kernel_rfl) (hB:Av ops CS BL tail:=by unfold Av;kernel_rfl) (h:(Lo Tryz.prog GG ops S.h CS BL S ⟨c,o,z,[]⟩).map (Vf (Er 0 fr))=some (fr,h1,v):=by kernel_rfl):TY C pv fn L ρ0 tD H' K i r S:=by
 unfold VJ at hK;split at hK
 ·rename_i id NL k;have e1:NL=ops:=congrArg Prod.fst (zAR hK);subst e1;obtain ⟨f,Aa,h,e⟩:=jB h;refine Tr.ordO (HC.x (F:=Fence.wide)).f (HC.x (F:=Fence.wide)).m hB h hl.all (DZ.weaken (S':=⟨fr,h1⟩) ?_ hk);rw [e];exact Az.forget _ _ _
 ·cases hK
theorem y0 (hk:TY C pv fn L ρ0 tD H' k i r S):TO C pv fn L ρ0 tD H' ops [] k i r S:=fun N ρ _ _ R y m=>⟨S,ρ,N,_,hk,R,y,m,Bd.none⟩
theorem yE (hl:HS c o z v) (fr:List DV) (h1:DH) (hk:TY C pv fn L ρ0 tD H' k i r ⟨fr,h1⟩) (h:(DX Tryz.prog GG ops (CE ops l) S ⟨c,o,z,[]⟩).map (Vf (Er 0 fr))=some (fr,h1,v):=by kernel_rfl) (Au:CP ops=true:=by kernel_rfl) (hc:Wj k=true:=by kernel_rfl):TO C pv fn L ρ0 tD H' ops l k i r S:=by
 obtain ⟨f,Aa,h,e⟩:=jB h;refine DZ.done (HC.x (F:=Fence.wide)).f Au h hl.all (Ap.leH (S':=⟨fr,h1⟩) ?_ hc hk);rw [e];exact Az.forget _ _ _
def NK (live:List Nat) (r:FuncId×List DV×Option Tmp×St×List Prop×BH):FuncId×List DV×Option Tmp×List DV×DH×List Prop:=(r.1,r.2.1,r.2.2.1,forget live r.2.2.2.1.fr,r.2.2.2.1.h,r.2.2.2.2.1)
theorem Za {live:List Nat} {x:Option (FuncId×List DV×Option Tmp×St×List Prop×BH)} {g:FuncId} {ds:List DV} (h:x.map (NK live)=some (g,ds,dst,fr,h1,v)): ∃ f Aa,x=some (g,ds,dst,⟨f,h1⟩,v,Aa)/\ fr=forget live f:=by
 cases x with
 | none=>cases h
 | some q=>
  obtain ⟨g,ds,dst,⟨f,g'⟩,w,Aa⟩:=q;simp only [zA2,NK,zA4,zD6] at h;obtain ⟨rfl,rfl,rfl,rfl,rfl,rfl⟩:=h;exact ⟨f,Aa,rfl,rfl⟩
theorem yT (hn:C.nv) (l1 l2:List Nat) (p:Nat) (hl:HS c o z v) (fr:List DV) (h1:DH) (dst:Option Tmp) (hk:TO C DY fn L ρ0 tD H' ops l2 k i r ⟨CX fr dst Mf,h1⟩) (hr:DR C enc i r)
 (e:l=l1++p::l2:=by kernel_rfl) (h:(Je Tryz.prog GG ops l1 p S ⟨c,o,z,[]⟩).map (NK (Er 0 fr))=some (57,[.bool true],dst,fr,h1,v):=by kernel_rfl) (Au:CP ops=true:=by kernel_rfl):TO C DY fn L ρ0 tD H' ops l k i r S:=by
 subst e;obtain ⟨f,Aa,h,e0⟩:=Za h;exact DZ.call (T:=h1) (ds:=fun _=>[.bool true]) (h:=fun _=>[]) (h':=fun _=>[]) (ys:=[]) (HC.x (F:=Fence.wide)).f Au hn h hl.all (mi true) rfl rfl rfl rfl ⟨_,rfl⟩ (DZ.weaken (Ux e0) hk)
theorem yP {o':O} (hn:C.nv) (l1 l2:List Nat) (p:Nat) (hl:HS c o z v) (fr:List DV) (h1:DH) (dst:Option Tmp) (hp:VU L h1=H' o':=by kernel_rfl) (hL:Nat.ble L h1.length=true:=by kernel_rfl)
 (e:l=l1++p::l2:=by kernel_rfl) (h:(Je Tryz.prog GG ops l1 p S ⟨c,o,z,[]⟩).map (NK (Er 0 fr))=some (57,[.bool false],dst,fr,h1,v):=by kernel_rfl) (Au:CP ops=true:=by kernel_rfl):TO C DY fn L ρ0 tD H' ops l k i (([],none,o'):YR X R O) S:=by
 subst e;obtain ⟨f,Aa,h,_⟩:=Za h;exact DZ.call (T:=h1) (ds:=fun _=>[.bool false]) (h:=fun _=>[]) (h':=fun _=>[]) (ys:=[]) (HC.x (F:=Fence.wide)).f Au hn h hl.all (mi false) rfl rfl rfl rfl ⟨_,rfl⟩ (La (YF.pan hL hp rfl) k)
theorem yC {g:FuncId} {ds:Nat -> List DV} {h:Nat -> DH} {h':Nat -> O -> DH} {tD':R' -> DV} {A:Option (YR X R' O)} {f:R' -> O -> Option (YR X R O)} (hn:C.nv) (l1 l2:List Nat) (p:Nat) (hl:HS c o z v) (fr:List DV) (h1:DH) (dst:Option Tmp)
 (hA:yb A f=some r) (hr:DR C enc i r) (H: ∀ a,A=some a -> YC Tryz.prog GG pv g ds h (a.1.map enc) (a.2.1.map tD') (fun l=>h' l a.2.2))
 (hk: ∀ v' o' b i',f v' o'=some b -> DR C enc i' b -> TO C pv fn L ρ0 tD H' ops l2 k i' b ⟨CX fr dst (tD' v'),h' C.l o'++h1.drop (h C.l).length⟩)
 (e:l=l1++p::l2:=by kernel_rfl) (hc:(Je Tryz.prog GG ops l1 p S ⟨c,o,z,[]⟩).map (NK (Er 0 fr))=some (g,ds C.l,dst,fr,h1,v):=by kernel_rfl) (hS:h1.take (h C.l).length=h C.l:=by kernel_rfl) (Ao: ∀ o',(h' C.l o').length=(h C.l).length:=by intro;kernel_rfl)
 (A2:(h C.l).all (MK (h C.l).length)=true:=by kernel_rfl) (D8:(ds C.l).all (C5 (h C.l).length)=true:=by kernel_rfl) (hp: ∀ o',VU L (h' C.l o'++h1.drop (h C.l).length)=H' o':=by intro;kernel_rfl) (hL: ∀ o',Nat.ble L (h' C.l o'++h1.drop (h C.l).length).length=true:=by intro;kernel_rfl) (Au:CP ops=true:=by kernel_rfl):TO C pv fn L ρ0 tD H' ops l k i r S:=by
 subst e;obtain ⟨f1,Aa,hc,e0⟩:=Za hc;obtain ⟨a,ha,h⟩:=de hA;have H:=H a ha;rcases h with ⟨e1,rfl⟩ | ⟨v',b,e1,hb,rfl⟩
 ·rw [e1] at H;exact DZ.call (T:=h1.drop (h C.l).length) (HC.x (F:=Fence.wide)).f Au hn hc hl.all H (XK hS) (Ao _) A2 D8 hr (La (YF.pan (hL _) (hp _) (by rw [zAq])) k)
 ·rw [e1] at H;obtain ⟨d1,d2⟩:=DR.split (R':=R') hr;refine DZ.call (T:=h1.drop (h C.l).length) (HC.x (F:=Fence.wide)).f Au hn hc hl.all H (XK hS) (Ao _) A2 D8 d1 ?_;rw [YF.app (j:=i+(a.1.map enc).length) (by rw [zAq])];exact DZ.weaken (Ux e0) (hk _ _ _ _ hb d2)
def Zb (live:List Nat) (r:List DV×Nat×Option Tmp×St×List Prop×BH):List DV×Nat×Option Tmp×List DV×DH×List Prop:=(r.1,r.2.1,r.2.2.1,forget live r.2.2.2.1.fr,r.2.2.2.1.h,r.2.2.2.2.1)
theorem uk {live:List Nat} {x:Option (List DV×Nat×Option Tmp×St×List Prop×BH)} {g:List DV} {ds:Nat} (h:x.map (Zb live)=some (g,ds,dst,fr,h1,v)): ∃ f Aa,x=some (g,ds,dst,⟨f,h1⟩,v,Aa)/\ fr=forget live f:=by
 cases x with
 | none=>cases h
 | some q=>
  obtain ⟨g,ds,dst,⟨f,g'⟩,w,Aa⟩:=q;simp only [zA2,Zb,zA4,zD6] at h;obtain ⟨rfl,rfl,rfl,rfl,rfl,rfl⟩:=h;exact ⟨f,Aa,rfl,rfl⟩
theorem yY {x:X} {A:Option (YR X R O)} (hn:C.nv) (l1 l2:List Nat) (p:Nat) (hl:HS c o z v) (fr:List DV) (h1:DH) (dst:Option Tmp) (hA:yx x A=some r) (hr:DR C enc i r)
 (hk: ∀ b i',A=some b -> DR C enc i' b -> TO C pv fn L ρ0 tD H' ops l2 k i' b ⟨CX fr dst (.bool true),h1⟩)
 (e:l=l1++p::l2:=by kernel_rfl) (h:(X2 Tryz.prog GG ops l1 p S ⟨c,o,z,[]⟩).map (Zb (Er 0 fr))=some (enc x,C.l,dst,fr,h1,v):=by kernel_rfl) (Au:CP ops=true:=by kernel_rfl):TO C pv fn L ρ0 tD H' ops l k i r S:=by
 subst e;obtain ⟨b,hb,rfl⟩:=KJ hA;obtain ⟨d1,d2⟩:=DR.cons hr;obtain ⟨f1,Aa,hy,e0⟩:=uk h;refine DZ.yield (HC.x (F:=Fence.wide)).f Au hn hy hl.all d1 ?_;have e:YF C pv fn L ρ0 tD H' i ((x::b.1,b.2):YR X R O)=YF C pv fn L ρ0 tD H' (i+1) b:=YF.app (y:=[x]) rfl;rw [e];exact DZ.weaken (Ux e0) (hk _ _ hb d2)
theorem zCN {S1:St} {vs:List Prop} {Aa Ec:BH} {g:FuncId} {ds:List DV} (h:Je Tryz.prog GG ops [] p S Aa=some (g,ds,dst,S1,vs,Ec)):S1=S:=by
 unfold Je at h;simp only [CE,DX] at h;split at h
 ·cases h
 ·split at h
  ·split at h
   ·split at h
    ·split at h
     ·cases h;rfl
     ·cases h
    ·cases h
   ·cases h
  ·cases h
theorem yR {g:FuncId} {ds:Nat -> List DV} {hc:Nat -> DH} {h':Nat -> O -> DH} {tD':R' -> DV} {A:Option (YR X R' O)} {f:R' -> O -> Option (YR X R O)} (hn:C.nv) (Bh tail xs:List Nat) (p:Nat) (hl:HS [] o [] v) (fr:List DV) (h1:DH) (dst:Option Tmp)
 (hA:yb A f=some r) (hr:DR C enc i r) (H: ∀ a,A=some a -> YC Tryz.prog GG pv g ds hc (a.1.map enc) (a.2.1.map tD') (fun l=>h' l a.2.2))
 (hk: ∀ v' o' b i',f v' o'=some b -> DR C enc i' b -> TO C pv fn L ρ0 tD H' ops tail (DF K) i' b ⟨CX fr dst (tD' v'),h' C.l o'++h1.drop (hc C.l).length⟩)
 (hK:VJ K=some (ops,DF K):=by kernel_rfl) (hB:(CP ops&&Region.noSelect ops&&(Bh.length+1+tail.length==ops.size)&&(tail.all fun t=>decide (t<ops.size))&&OJ ops p tail Bh (Array.replicate ops.size false)&&OW xs S.h&&lK xs (hc C.l).length S.h)=true:=by kernel_rfl)
 (hs:(RH Tryz.prog ops xs Bh S o).bind (fun q=>(Je Tryz.prog GG ops [] p q.1 ⟨[],[],[],[]⟩).map fun x=>(NK (Er 0 fr) x,q.2.1,x.2.2.2.2.1))=some ((g,ds C.l,dst,fr,h1,[]),v,[]):=by kernel_rfl) (hS:h1.take (hc C.l).length=hc C.l:=by kernel_rfl) (TG:h1=S.h:=by kernel_rfl) (Ao: ∀ o',(h' C.l o').length=(hc C.l).length:=by intro;kernel_rfl)
 (A2:(hc C.l).all (MK (hc C.l).length)=true:=by kernel_rfl) (D8:(ds C.l).all (C5 (hc C.l).length)=true:=by kernel_rfl) (hp: ∀ o',VU L (h' C.l o'++h1.drop (hc C.l).length)=H' o':=by intro;kernel_rfl) (hL: ∀ o',Nat.ble L (h' C.l o'++h1.drop (hc C.l).length).length=true:=by intro;kernel_rfl):TY C pv fn L ρ0 tD H' K i r S:=by
 unfold VJ at hK;split at hK
 ·rename_i id NL k;have e1:NL=ops:=congrArg Prod.fst (zAR hK);subst e1;obtain ⟨q,hq,JU⟩:=FP hs;obtain ⟨⟨q1,q2⟩,q3,q4⟩:=q;obtain ⟨x,hx,e2⟩:=KJ JU;obtain ⟨g',m7,dst',⟨f2,h2⟩,v2,Aa⟩:=x;simp only [NK,zD6] at e2;obtain ⟨⟨rfl,e3,rfl,e0,rfl,rfl⟩,rfl,_⟩:=e2;have hs:=hq;have JU:=hx;rw [←e3] at JU;obtain ⟨rfl,rfl⟩:=St.mk.inj (zCN JU);obtain ⟨a,ha,h⟩:=de hA;have H:=H a ha;rcases h with ⟨e1,rfl⟩ | ⟨v',b,e1,hb,rfl⟩
  ·rw [e1] at H;exact Tr.drawC (T:=h1.drop (hc C.l).length) (HC.x (F:=Fence.wide)).f (HC.x (F:=Fence.wide)).m hB hn hs hl.all JU H (TG▸XK hS) (Ao _) A2 D8 hr (La (YF.pan (hL _) (hp _) (by rw [zAq])) k)
  ·rw [e1] at H;obtain ⟨d1,d2⟩:=DR.split (R':=R') hr;refine Tr.drawC (T:=h1.drop (hc C.l).length) (HC.x (F:=Fence.wide)).f (HC.x (F:=Fence.wide)).m hB hn hs hl.all JU H (TG▸XK hS) (Ao _) A2 D8 d1 ?_;rw [YF.app (j:=i+(a.1.map enc).length) (by rw [zAq])];exact DZ.weaken (Ux e0) (hk _ _ _ _ hb d2)
 ·cases hK
theorem yF {v':R} {o':O} (h:Be Tryz.prog GG Fence.wide none L (C.K GG L i ρ0) (DD Tryz.prog fn L (tD v') (H' o')) k S):TY C pv fn L ρ0 tD H' k i (([],some v',o'):YR X R O) S:=h
end
theorem YC.ofY {X R O:Type} {pv:Value} {f L:Nat} {fn:Func} {tD:R -> DV} {r:YR X R O} {enc:X -> List DV} {ds:Nat -> List DV} {h:Nat -> DH} {h':Nat -> O -> DH} (hf:Tryz.prog.funcs[f]? =some fn)
 (T: ∀ (C:Ba Tryz.prog) (i:Nat) (ρ0:List AI),C.nv -> DR C enc i r -> TY C pv fn L ρ0 tD (fun o=>h' C.l o) [.code (AW fn)] i r ⟨ds C.l++List.replicate (fn.ntmps-(ds C.l).length) .any,h C.l⟩)
 (hb:fn.body.isSome=true:=by kernel_rfl) (hn:(fn.name== "runtime.NumGoroutine")=false:=by kernel_rfl) (hL: ∀ l,(h l).length=L:=by intro;kernel_rfl):YC Tryz.prog GG pv f ds h (r.1.map enc) (r.2.1.map tD) (fun l=>h' l r.2.2):=
 YC.of hf hb hn hL fun C i ρ0 hv hr=>by
  rw [zAq];exact T C i ρ0 hv hr
def U7:List Nat -> DH -> Option DH
 | [],h=>some h
 | k::ks,h=>match h.getD k none with
  | some (.cells l)=>U7 ks (h.set k (some (.ro l)))
  | _=>none
theorem Az.ros {L:Nat} {fr:List DV}: ∀ (ks:List Nat) {h h':DH},U7 ks h=some h' -> (ks.all fun k=>Nat.ble L k)=true -> Az L ⟨fr,h⟩ ⟨fr,h'⟩
 | [],h,h',e,_=>by cases e;exact Az.refl _ _
 | k::ks,h,h',e,hk=>by
  simp only [zFf,zAN] at hk;simp only [U7] at e;split at e
  ·rename_i l hg;exact (Az.ro (S:=⟨fr,h⟩) (getD_some hg) (zD2 hk.1)).trans (Az.ros ks e hk.2)
  ·cases e
theorem dc {L:Nat} {Y:BQ Tryz.prog GG L} {Q:QY Tryz.prog GG L} {K:List KI} {F:Fence} {B:Option Nat} {fr:List DV} {h:DH} (ks:List Nat) (h':DH) (hk:Ap Tryz.prog GG F B L Y Q K ⟨fr,h'⟩) (e:U7 ks h=some h':=by kernel_rfl) (hL:(ks.all fun k=>Nat.ble L k)=true:=by kernel_rfl) (hc:Hr K=true:=by kernel_rfl):Ap Tryz.prog GG F B L Y Q K ⟨fr,h⟩:=
 Be.le (Az.ros ks e hL) hc hk
end Go.Proofs.YtkjbblkieglmlaaGreatDoor
namespace Go.Proofs.YtkjbblkieglmlaaGreatDoor
open Go.RowKit
section
variable {P:Program} {Γ:Ar} {N:Nat -> Prop} {ρ:List AI} {w:World} {hc T:DH}
def hid (K:Nat) (T:DH):DH:=List.replicate K none++T
theorem S8 {K k:Nat} {o:DO} (h:(hid K T)[k]? =some (some o)):K<=k/\ ∀ l:DH,l.length=K -> (l++T)[k]? =some (some o):=by
 rcases zBG k K with hk | hk
 ·unfold hid at h;rw [zAb (by simp [hk]),zEA,zAE hk] at h;cases h
 ·refine ⟨hk,fun l hl=>?_⟩;unfold hid at h;rw [zAd (by simp [hk]),zAl] at h;rw [zAd (by omega),hl];exact h
theorem MO.hid {b:Nat} (h:MO (hid hc.length T) ρ b):MT hc.length (hc++T) ρ b:=by
 obtain ⟨k,o,p,h1,h2,h3⟩:=h;obtain ⟨hk,Kj⟩:=S8 h1;exact ⟨k,o,p,hk,Kj hc rfl,h2,h3⟩
theorem MT.mo {h:DH} {K b:Nat} (x:MT K h ρ b):MO h ρ b:=by
 obtain ⟨k,o,p,_,h1,h2,h3⟩:=x;exact ⟨k,o,p,h1,h2,h3⟩
theorem A0.hide (H:A0 P Γ N (hc++T) ρ w):A0 P Γ (fun b=>N b∨MO hc (ρ.take hc.length) b) (hid hc.length T) ρ w:=by
 have sp: ∀ b,MO (hc++T) ρ b↔MO hc (ρ.take hc.length) b∨MT hc.length (hc++T) ρ b:=fun b=>by
  have:=MO.split (h:=hc++T) (ρ:=ρ) hc.length b
  rwa [zFh] at this
  rfl
 have dis: ∀ b,MO hc (ρ.take hc.length) b -> ¬ MT hc.length (hc++T) ρ b:=by
  rintro b ⟨k,o,p,q1,q2,q3⟩ ⟨k',o',p',g1,g2,g3,g4⟩;rw [zEC] at q2;split at q2
  ·rename_i hk;exact H.dis k k' o o' p p' b (by omega) (by rw [zAb (by omega)];exact q1) g2 q2 g3 q3 g4
  ·cases q2
 have ab: ∀ b,MS (fun b=>N b∨MO hc (ρ.take hc.length) b) (hid hc.length T) ρ b -> MS N (hc++T) ρ b:=fun b hb=>by
  rcases hb with (hb | hb) | hb
  ·exact .inl hb
  ·exact .inr ((sp b).2 (.inl hb))
  ·exact .inr (MO.hid hb).mo
 refine ⟨by rw [H.len];simp [hid],fun k o hk=>?_,fun k o p b g1 g2 g3=>?_,fun i i' o o' p p' b Am g1 g2 g3 g4 g5 g6=>H.dis i i' o o' p p' b Am ((S8 g1).2 hc rfl) ((S8 g2).2 hc rfl) g3 g4 g5 g6,fun b hb=>?_,H.gi⟩
 ·obtain ⟨p,hp,hr⟩:=H.obj k o ((S8 hk).2 hc rfl);exact ⟨p,hp,hr.out (C6 ab ρ) (S:=fun _=>False) (AP.refl _ _) (fun _ h=>h.elim) fun _ _ _ h=>h⟩
 ·obtain ⟨hk,mR⟩:=S8 g1;obtain ⟨c1,c2,c3⟩:=H.cel k o p b (mR hc rfl) g2 g3;exact ⟨c1,fun hb=>hb.elim c2 fun hb=>dis b hb ⟨k,o,p,hk,mR hc rfl,g2,g3⟩,c3⟩
 ·rcases hb with hb | hb
  ·exact H.nlt b hb
  ·obtain ⟨k,o,p,q1,q2,q3⟩:=(sp b).2 (.inl hb);obtain ⟨c1,_,c,t,z,c3⟩:=H.cel k o p b q1 q2 q3;exact ⟨(zAK.1 c3).1,c1⟩
variable {pv:Value} {gf m:Nat} {cap:Nat -> DV} {C1:DH} {ys:List (List DV)} {out:Option DV}
def zDx (P:Program) (Γ:Ar) (pv:Value) (C1:DH) (ρ0:List AI) (out:Option DV) (e:Ending) (G R:Nat -> Prop) (W:World):Prop:=
 ((∃ v,e= .returned v/\ out.isSome=true)∨(e= .panicked (pan pv)/\ out.isSome=false))/\ ∃ N' ρ',A0 P Γ N' C1 ρ' W/\ IY Γ N' G R C1 ρ' W/\ B8 ρ0.length ρ0 ρ'
theorem YC.iter (H:YC P Γ pv gf (fun l=>.yl l::(List.range m).map cap) (fun _=>hc) ys out (fun _=>C1)) (HR:A0 P Γ N (hc++T) ρ w) (A2:hc.all (MK hc.length)=true) (JU:((List.range m).map cap).all (C5 hc.length)=true)
 {lb:Array Value} (hs:lb.size=m) (Lv: ∀ j,j<m -> ∃ u,lb[j]? =some u/\ AM (MS N (hc++T) ρ) w (cap j) ρ u):
 UK True P gf lb YV ys (zDx P Γ pv C1 (ρ.take hc.length) out) (MO hc (ρ.take hc.length)) (fun b=>b<w.heap.size/\ ¬ MS N (hc++T) ρ b) w:=by
 intro l Jj Jx W hJ hJx hU hY bp Kb
 let C:Ba P:=⟨l,ys,Jj,Jx,hJ,hJx,hY⟩
 obtain ⟨Ob,hM⟩:=HR.take (K:=hc.length) (by simp) (by rw [zFh rfl];exact A2);rw [zFh rfl] at Ob hM;have Ct:Γ.ng<=w.heap.size:=Γ.lo _ HR.gi
 have hu:AP (fun b=>N b∨MT hc.length (hc++T) ρ b) w W:=hU.mono fun b AO hx=>by
  by_cases hm:MS N (hc++T) ρ b
  ·rcases (hM b).2 hm with hm | hm
   ·exact hm
   ·exact absurd (.inl hm) hx
  ·exact absurd (.inr ⟨AO,hm⟩) hx
 have lo: ∀ b,b<Γ.ng -> b<w.heap.size/\ ¬ MS N (hc++T) ρ b:=fun b hb=>⟨by omega,fun hx=>by
  have:=(HR.lt2 hx).2;omega⟩
 have AO: ∀ b,MO hc (ρ.take hc.length) b -> b<w.heap.size:=fun b hb=>(HR.lt2 ((hM b).1 (.inr hb))).1
 have mA: ∀ b,N b∨MT hc.length (hc++T) ρ b -> (N b∨MT hc.length (hc++T) ρ b)/\ Γ.ng<=b:=fun b hb=>⟨hb,(Ob.nlt b hb).2⟩
 have TH: ∀ b,(b<W.heap.size/\ ¬ MO hc (ρ.take hc.length) b/\ ¬ (b<w.heap.size/\ ¬ MS N (hc++T) ρ b)) -> (N b∨MT hc.length (hc++T) ρ b)∨w.heap.size<=b:=fun b ⟨_,q2,q3⟩=>by
  rcases zBG b w.heap.size with hx | hx
  ·by_cases hm:MS N (hc++T) ρ b
   ·exact .inl (((hM b).2 hm).resolve_right q2)
   ·exact absurd ⟨hx,hm⟩ q3
  ·exact .inr hx
 have HW:A0 P Γ (fun b=>b<W.heap.size/\ ¬ MO hc (ρ.take hc.length) b/\ ¬ (b<w.heap.size/\ ¬ MS N (hc++T) ρ b)) hc (ρ.take hc.length) W:=Ob.foreign hu mA TH fun b hb=>⟨hb.1,zEv fun hl=>hb.2.2 (lo b hl)⟩
 have cA:BC (MS (fun b=>N b∨MT hc.length (hc++T) ρ b) hc (ρ.take hc.length)) w (ρ.take hc.length) ((List.range m).map cap) lb:=by
  have e:MS (fun b=>N b∨MT hc.length (hc++T) ρ b) hc (ρ.take hc.length)=MS N (hc++T) ρ:=funext fun b=>propext (hM b)
  rw [e];refine BC.take ⟨by simp [hs],fun j hj=>?_⟩ JU;have BT:j<m:=by simpa using hj
  obtain ⟨u,q1,q2⟩:=Lv j BT;have e1:((List.range m).map cap).getD j .any=cap j:=by simp [BT]
  have e2:lb.getD j undef=u:=by rw [zAg,q1];rfl
  rw [e1,e2];exact q2
 have cC:=cA.out (BU.foreign (Γ:=Γ) hu mA TH)
 refine (H.2 C (Kb trivial) 0 ⟨[],by simp [C]⟩ _ _ _ W _ _ HW (BC.append (l:=[.yl C.l]) (t:=#[.func (.yield l) #[] #[]]) ⟨rfl,fun j hj=>by
  have:j=0:=Nat.lt_one_iff.1 hj;subst this;rfl⟩ cC) bp ⟨⟨fun b hb hr=>hr.2 ((hM b).1 (.inr hb)),fun b hb=>zAW (hb.elim (AO b) fun h=>h.1) hU.size⟩,lo,fun _ h=>h,fun _=>Iff.rfl⟩).mono ?_
 rintro e w' ⟨N',ρ',G',R',E4,j',y',kp,ho⟩;refine ⟨G',R',y'.sh,.inl ⟨?_,?_,N',ρ',E4,y',?_⟩⟩
 ·simpa [C] using j'
 ·cases out with
  | none=>exact .inr ⟨ho,rfl⟩
  | some d=>obtain ⟨v,rfl,_⟩:=ho;exact .inl ⟨v,rfl,rfl⟩
 ·have Ao:(ρ.take hc.length).length=hc.length:=by rw [zEw,HR.len];simp
  rw [Ao];exact kp
theorem t6 {fr:List DV} {a:Act} {g:Operand} {ps:Array Tmp} {assign body:Code} {J:Nat -> DH -> Prop} {KK:Nat} {Q:Exit -> Act -> World -> Prop} (R:AS P Γ N ⟨fr,hc++T⟩ ρ a w) (hg:AY fr g= .fn gf m cap)
 (H:YC P Γ pv gf (fun l=>.yl l::(List.range m).map cap) (fun _=>hc) ys out (fun _=>C1)) (hl:C1.length=hc.length) (A2:hc.all (MK hc.length)=true) (JU:((List.range m).map cap).all (C5 hc.length)=true)
 (D6: ∀ x∈ys,x.length=ps.size) (Ch:fr.all (C5 KK)=true) (hKK:hc.length<=KK) (h0:J 0 (hid hc.length T)) (hJ: ∀ i h,J i h -> ∃ T',h=hid hc.length T') (C7:Xv P Γ fr ps.toList assign body KK J (fun _ _=>False) ys)
 (hQ: ∀ (D:Nat) (T':DH) (ρ':List AI) (e:Ending) (w':World),J ys.length (hid hc.length T') -> AS P Γ N ⟨fr,C1++T'⟩ ρ' a w' -> A6 (hc++T) ρ w (C1++T') ρ' w' -> B8 KK ρ ρ' -> w'.heap[D]? =some (.deferred (some [])) -> w.heap.size<=D -> ((∃ v,e= .returned v/\ out.isSome=true)∨(e= .panicked (pan pv)/\ out.isSome=false)) ->
  match e with
  | .returned _=>Q .normal { a with defers:={ target:=.collected D,args:=#[] }::a.defers } w'
  | .panicked c=>Q (.panic c) { a with defers:={ target:=.collected D,args:=#[] }::a.defers } w'
  | .outgrown=>False):(Code.rangeFunc g ps assign body).wpIn Fence.wide 0 P Q a w:=by
 have hx:=Bg R g;rw [hg] at hx;obtain ⟨lb,hv,hs,Lv⟩:=hx;have HR:A0 P Γ N (hc++T) ρ w:=R.hr;have Ct:Γ.ng<=w.heap.size:=Γ.lo _ HR.gi
 have sp: ∀ b,MO (hc++T) ρ b↔MO hc (ρ.take hc.length) b∨MT hc.length (hc++T) ρ b:=fun b=>by
  have:=MO.split (h:=hc++T) (ρ:=ρ) hc.length b
  rwa [zFh] at this
  rfl
 have hN: ∀ b,N b -> b<w.heap.size/\ ¬ MO (hc++T) ρ b:=fun b hb=>⟨(HR.nlt b hb).1,fun ⟨k,o,p,q1,q2,q3⟩=>(HR.cel k o p b q1 q2 q3).2.1 hb⟩
 have AO: ∀ b,MO (hc++T) ρ b -> b<w.heap.size/\ Γ.ng<=b:=fun b hb=>HR.lt2 (.inr hb)
 have WS:EW (MO hc (ρ.take hc.length)) (fun b=>b<w.heap.size/\ ¬ MS N (hc++T) ρ b) w:=⟨fun b hb hr=>hr.2 (.inr ((sp b).2 (.inl hb))),fun b hb=>hb.elim (fun h=>(AO b ((sp b).2 (.inl h))).1) fun h=>h.1⟩
 have Wp:RJ P Γ N (hc++T) ρ w KK J 0 (MO hc (ρ.take hc.length)) (fun b=>b<w.heap.size/\ ¬ MS N (hc++T) ρ b) w:=
  ⟨_,ρ,h0,HR.hide,AP.refl _ _,fun b hb=>.inl (MO.hid hb).mo,fun b hb=>⟨(AO b ((sp b).2 (.inl hb))).2,.inl ((sp b).2 (.inl hb))⟩,fun b hb=>⟨fun hn=>hb.2 (.inl hn),fun hm=>hb.2 (.inr (MO.hid hm).mo)⟩,B8.refl _ _⟩
 have Dg: ∀ i,EL (RJ P Γ N (hc++T) ρ w KK J i):=fun i G R' G' R2 A C ⟨h,ρ',h1,h2⟩ q1 q2 q3 q4 q5 q6=>⟨h,ρ',h1,RI.stable Ct hN _ _ _ _ _ _ h2 q1 q2 q3 q4 q5 q6⟩
 have WR: ∀ c,EL (RX P Γ N (hc++T) ρ w KK (fun _ _=>False) c):=fun c G R' G' R2 A C ⟨e,he,h,ρ',h1,h2⟩ _ _ _ _ _ _=>h1.elim
 have eg: ∀ args w,(callFunc gf args).run P w= .ok (.enter gf args) w:=H.1;refine dk hv eg (H.iter HR A2 JU hs Lv) WS (fun x hx R W args h=>h.1.symm.trans (D6 x hx)) _ _ Dg WR (fun _ c G R W ⟨e,_,h,ρ',h1,_⟩=>h1.elim) Wp (ZG R hN (fun _ h=>h) Ch C7) ?_ ?_
 ·rintro D e G R1 own W W' ⟨he,N',ρ',E4,y',kp⟩ ⟨h,ρ1,h1,hR⟩ yH Pc Hw hD IW;obtain ⟨T',rfl⟩:=hJ _ _ h1;have Ao:(ρ.take hc.length).length=hc.length:=by rw [zEw,HR.len];simp
  rw [Ao] at kp;have Cs:ρ'.length=hc.length:=by rw [E4.len,hl]
  have JL:ρ1.length=hc.length+T'.length:=by rw [hR.hr.len];simp [hid]
  have cL: ∀ k,k<hc.length -> ∃ p,ρ'[k]? =some p/\ ρ1[k]? =some p:=fun k hk=>by
   have D7:k<ρ.length:=by rw [HR.len];simp;omega
   have e1:ρ[k]? =some ρ[k]:=zAM D7;exact ⟨ρ[k],kp k _ hk (by rw [zEC,zAE hk];exact e1),hR.kept k _ (by omega) e1⟩
  have jA: ∀ b,own b -> b<W.heap.size -> N' b:=fun b hb hl=>(y'.n b).2 ⟨hl,Pc b hb,fun hr=>yH.dis b (.inr hb) hr⟩
  have gN: ∀ b,N b -> ¬ G b:=fun b hb hg=>(hR.g b (.inl hg)).2.elim (hN b hb).2 (by have:=(hN b hb).1;omega)
  have Zw: ∀ {b},MO (C1++T') ρ1 b -> MO C1 ρ' b∨MO (hid hc.length T') ρ1 b:=by
   rintro b ⟨k,o,p,q1,q2,q3⟩;rcases zBG k hc.length with hk | hk
   ·obtain ⟨p',e1,e2⟩:=cL k hk;rw [e2] at q2;cases q2;exact .inl ⟨k,o,p,by rw [zAb (by omega)] at q1;exact q1,e1,q3⟩
   ·refine .inr ⟨k,o,p,?_,q2,q3⟩;rw [zAd (by omega),hl] at q1;unfold hid;rw [zAd (by simp [hk]),zAl];exact q1
  have fU: ∀ b,MS N (C1++T') ρ1 b -> MS (fun b=>N b∨(G b∨own b)) (hid hc.length T') ρ1 b:=fun b hb=>by
   rcases hb with hb | hb
   ·exact .inl (.inl hb)
   ·rcases Zw hb with hb | hb
    ·exact .inl (.inr (.inl (y'.own b hb)))
    ·exact .inr hb
  have jD:BU (MS N' C1 ρ') W ρ' (MS N (C1++T') ρ1) W' ρ1:=by
   refine ⟨fun b hb hm _=>Hw.block b hb fun ho=>hm (.inl (jA b ho hb)),fun b hb=>?_,fun k p hp=>?_⟩
   ·rcases zBG b W.heap.size with Wb | Wb
    ·rcases hb with hb | hb
     ·exact .inl (.inl ((y'.n b).2 ⟨Wb,gN b hb,fun hr=>(hR.r b hr).1 hb⟩))
     ·rcases Zw hb with hb | hb
      ·exact .inl (.inr hb)
      ·obtain ⟨_,_,q3⟩:=hR.off b hb;exact .inl (.inl ((y'.n b).2 ⟨Wb,fun hg=>q3 (.inl (.inl hg)),fun hr=>q3 (.inr hr)⟩))
    ·exact .inr Wb
   ·have hk:k<hc.length:=by rw [←Cs];exact (zAS.1 hp).1
    obtain ⟨p',e1,e2⟩:=cL k hk;rw [e1] at hp;cases hp;exact e2
  have left: ∀ {k:Nat} {o:DO},k<hc.length -> (C1++T')[k]? =some (some o) -> C1[k]? =some (some o):=fun {k o} hk h=>by rw [zAb (by omega)] at h;exact h
  have right: ∀ {k:Nat} {o:DO},hc.length<=k -> (C1++T')[k]? =some (some o) -> (hid hc.length T')[k]? =some (some o):=fun {k o} hk h=>by
   rw [zAd (by omega),hl] at h;unfold hid;rw [zAd (by simp [hk]),zAl];exact h
  have pl: ∀ {k:Nat} {p:AI},k<hc.length -> ρ1[k]? =some p -> ρ'[k]? =some p:=fun {k p} hk h=>by
   obtain ⟨p',e1,e2⟩:=cL k hk;rw [e2] at h;cases h;exact e1
  have HF:A0 P Γ N (C1++T') ρ1 W':=by
   refine ⟨by rw [JL];simp [hl],fun k o hk=>?_,fun k o p b g1 g2 g3=>?_,fun i i' o o' p p' b Am g1 g2 g3 g4 g5 g6=>?_,fun b hb=>hR.hr.nlt b (.inl hb),hR.hr.gi⟩
   ·rcases zBG k hc.length with C0 | C0
    ·obtain ⟨p,hp,hr⟩:=E4.obj k o (left C0 hk);exact ⟨p,jD.pl k p hp,hr.out jD (S:=fun b=>own b/\ b<W.heap.size) (Hw.mono fun b hb hx=>⟨hx,hb⟩) (fun b hb=>.inl (jA b hb.1 hb.2)) fun b _ hf hx=>Pc b hx.1 (y'.own b ⟨k,o,p,left C0 hk,hp,hf⟩)⟩
    ·obtain ⟨p,hp,hr⟩:=hR.hr.obj k o (right C0 hk);exact ⟨p,hp,hr.out (C6 fU ρ1) (S:=fun _=>False) (AP.refl _ _) (fun _ h=>h.elim) fun _ _ _ h=>h⟩
   ·rcases zBG k hc.length with C0 | C0
    ·have hg:=y'.own b ⟨k,o,p,left C0 g1,pl C0 g2,g3⟩;obtain ⟨c1,c2,c,t,z,c3⟩:=E4.cel k o p b (left C0 g1) (pl C0 g2) g3;exact ⟨c1,fun hn=>gN b hn hg,c,t,z,(Hw.block b (zAK.1 c3).1 fun ho=>Pc b ho hg).trans c3⟩
    ·obtain ⟨c1,c2,c3⟩:=hR.hr.cel k o p b (right C0 g1) g2 g3;exact ⟨c1,fun hn=>c2 (.inl hn),c3⟩
   ·have Fe: ∀ {i i':Nat} {o o':DO} {p p':AI},i<hc.length -> hc.length<=i' -> (C1++T')[i]? =some (some o) -> (C1++T')[i']? =some (some o') -> ρ1[i]? =some p -> ρ1[i']? =some p' -> p.foot b -> p'.foot b -> False:=fun {i i' o o' p p'} k1 k2 g1 g2 g3 g4 g5 g6=>
     (hR.off b ⟨i',o',p',right k2 g2,g4,g6⟩).2.2 (.inl (.inl (y'.own b ⟨i,o,p,left k1 g1,pl k1 g3,g5⟩)))
    rcases zBG i hc.length with FJ | FJ <;> rcases zBG i' hc.length with Ex | Ex
    ·exact E4.dis i i' o o' p p' b Am (left FJ g1) (left Ex g2) (pl FJ g3) (pl Ex g4) g5 g6
    ·exact Fe FJ Ex g1 g2 g3 g4 g5 g6
    ·exact Fe Ex FJ g2 g1 g4 g3 g6 g5
    ·exact hR.hr.dis i i' o o' p p' b Am (right FJ g1) (right Ex g2) g3 g4 g5 g6
  have OD:BC (MS N (C1++T') ρ1) W' ρ1 fr a.tmps:=((R.fr.take Ch).out (hR.outl.weak fun b hb=>hb)).out (C6 fU ρ1);exact hQ D T' ρ1 e W' h1 ⟨HF,OD⟩ ⟨hR.upd,fun b hb=>(Zw hb).elim (fun h=>(hR.g b (.inl (y'.own b h))).2) (hR.grow b)⟩ hR.kept hD IW he
 ·rintro D c G R1 W ⟨e,_,h,ρ',h1,_⟩;exact h1.elim
theorem sr {α σ:Type} {fr:List DV} {ps:List Tmp} {assign body:Code} {K:Nat} (enc:α -> List DV) (ys:List α) (f:α -> σ -> Option σ) (HH:σ -> DH) {sE:σ} (FR:α -> List DV)
 (C7: ∀ (l B:Nat) (N:BQ P Γ K) (x:α) (s r:σ),f x s=some r -> F1 P Γ (Fence.wide.inRound l) (some B) K N (Cd K [] 0 (HH r)) assign body ⟨FR x,HH s⟩) (Ch:(fun x=>IE fr ps (enc x))=FR):
 Xv P Γ fr ps assign body K (fun i h=>∃ s,Bl f (ys.drop i) s=some sE/\ h=HH s) (fun _ _=>False) (ys.map enc):=by
 subst Ch;rintro l' B' N' i x h hx ⟨s,hs,rfl⟩;rw [zA1] at hx;cases hy:ys[i]? with
 | none=>rw [hy] at hx;cases hx
 | some y=>
  rw [hy] at hx;cases hx;have AO:=(zAS.1 hy).1
  have hd:ys.drop i=y::ys.drop (i+1):=by
   rw [zBx AO]
   congr 1
   exact (zAS.1 hy).2
  rw [hd] at hs;obtain ⟨r,h1,h2⟩:=FP hs
  have fin: ∀ {e:Exit} {S2:St},Cd K [] 0 (HH r) e S2 -> UI K (fun h=>∃ s,Bl f (ys.drop (i+1)) s=some sE/\ h=HH s) (fun _ _=>False) e S2:=by
   rintro e S2 ⟨r1,S3,r2,r3⟩;cases r1;exact ⟨S3,r2,.inl ⟨rfl,r,h2,r3⟩⟩
  refine Tr.mono (C7 l' B' N' y s r h1) fun e S2 Y2 hq=>?_
  cases e with
  | normal=>exact ⟨hq.1,fun N2=>Tr.mono (show Tr P Γ (Fence.wide.inRound l') (some B') K N2 body S2 (stay N2 (Cd K [] 0 (HH r))) from hq.2 N2) fun e S3 Y3 h3=>⟨h3.1,fin h3.2⟩⟩
  | ret=>exact hq.elim
  | exit id=>exact hq.elim
  | goto t=>exact hq.elim
  | panic c=>exact hq.elim
  | outgrown=>exact hq.elim
end
end Go.Proofs.YtkjbblkieglmlaaGreatDoor
namespace Go.Proofs.YtkjbblkieglmlaaGreatDoor
open Go.RowKit
section
variable {P:Program} {Γ:Ar} {N:Nat -> Prop} {ρ:List AI} {a:Act} {w:World} {S:St} {Q:Exit -> Act -> World -> Prop} {fr:List DV} {h':DH} {c:List (DV×DH×Bool)} {o:List (Nat×DV)} {z:List (Nat×Fz)} {v v2:List Prop} {id:Nat} {ops:Array Oper}
def Vg (L:Nat) (live σ ks:List Nat) (r:St×List Prop×BH):Option (List DV×DH×List Prop×List Prop×Bool):=match frzL ks (comp live σ r.1) with
 | some (S,w)=>some (S.fr,S.h,r.2.1,w,Iy σ L r.1.h.length)
 | none=>none
theorem jC {L:Nat} {live σ ks:List Nat} {r:St×List Prop×BH} (h:Vg L live σ ks r=some (fr,h',v,v2,true)) (hz:Bc v2):r.2.1=v/\ Az L r.1 ⟨fr,h'⟩:=by
 unfold Vg at h;split at h
 ·rename_i S1 w1 hf;simp only [zA4,zD6] at h;obtain ⟨rfl,rfl,rfl,rfl,hs⟩:=h;exact ⟨rfl,(Az.comp live σ r.1 hs).trans (Az.frzL ks hf hz)⟩
 ·cases h
theorem wr {L:Nat} (hX:HX Fence.wide P) (live σ ks:List Nat) (hl:HS c o z v) (hz:HS [] [] [] v2) (fr:List DV) (h':DH) (R:AS P Γ N S ρ a w) (h:(DX P Γ ops ops.toList S ⟨c,o,z,[]⟩).bind (Vg L live σ ks)=some (fr,h',v,v2,true)) (Au:CP ops=true)
 (hk: ∀ ρ' a' w',AS P Γ N ⟨fr,h'⟩ ρ' a' w' -> A6 S.h ρ w h' ρ' w' -> a'.defers=a.defers -> B8 L ρ ρ' -> Q .normal a' w'):(Code.region id ops false).wpIn Fence.wide 0 P Q a w:=by
 obtain ⟨⟨S1,v1,o1⟩,hr,h⟩:=FP h;obtain ⟨rfl,hs⟩:=jC h hz.all;refine zFB (JY hX.f Au _ (fun o ho=>by simpa using ho) R hr hl.all fun ρ' a' w' R' st hd=>?_);obtain ⟨ρ2,R2,s2,k2⟩:=hs P Γ N ρ' a' w' R';exact hk ρ2 a' w' R2 (st.st.trans s2) hd (B8.trans (fun k p _ hp=>st.pl k p hp) k2)
theorem wt {L:Nat} (hX:HX Fence.wide P) (early:List Nat) (t:ST) (hB:Bp ops early t) (tg:List (List (Nat×Nat)×St)) (live σ ks:List Nat) (hl:HS c o z v) (hz:HS [] [] [] v2) (fr:List DV) (h':DH) (R:AS P Γ N S ρ a w) (h:(Qg P Γ ops early t S ⟨c,o,z,tg⟩).bind (Vg L live σ ks)=some (fr,h',v,v2,true))
 (hk: ∀ ρ' a' w',AS P Γ N ⟨fr,h'⟩ ρ' a' w' -> A6 S.h ρ w h' ρ' w' -> a'.defers=a.defers -> B8 L ρ ρ' -> Q .normal a' w'):(Code.region id ops true).wpIn Fence.wide 0 P Q a w:=by
 obtain ⟨⟨S1,v1,o1⟩,hr,h⟩:=FP h;obtain ⟨rfl,hs⟩:=jC h hz.all;simp only [Bp,zAN] at hB;obtain ⟨⟨h1,h2⟩,h3⟩:=hB;unfold Qg at hr;split at hr
 ·cases hr
 split at hr
 ·cases hr
 ·rename_i hV;cases hr;have hE:Aq w w.drew:=Aq.toDrew w;refine dl (X6 hX.m (zEu _) ((eA hX.f h3 h2 t ops.size _ cd (R.ext hE) hV hl.all fun ρ' a' w' R' st S5 Ca=>?_).1 h1));obtain ⟨ρ2,R2,s2,k2⟩:=hs P Γ N ρ' a' w' R';exact hk ρ2 a' w' R2 ((A6.ext hE).trans (st.trans s2)) Ca (B8.trans (fun k p _ hp=>S5 k p (by rw [←R.hr.len];exact (zAS.1 hp).1) hp) k2)
theorem zBB {h:DH} {ρ ρ':List AI} {w w':World} {d:DV} {v:Value} (h0:A0 P Γ N [] ρ w) (R:A0 P Γ N h ρ' w') (st:A6 [] ρ w h ρ' w') (hr:AM (MS N h ρ') w' d ρ' v) (hd:Eo d=true):CV P Γ N [] ρ w true d [] v w':=by
 have e:ρ= []:=List.length_eq_zero_iff.1 h0.len;subst e;have hx:=KD hd _ _ _ _ hr;have low: ∀ b,MO [] ([]:List AI) b -> False:=fun b ⟨k,_,_,q,_⟩=>by simp at q
 have hu:AP (fun _=>False) w w':=st.upd.mono fun b _ hb=>low b hb
 refine ⟨⟨[],⟨rfl,fun k o hk=>by simp at hk,fun k o p b hk=>by simp at hk,fun k k' o o' p p' b _ hk=>by simp at hk,R.nlt,R.gi⟩,?_,⟨hu.mono fun _ _ h=>h.elim,fun b hb=>(low b hb).elim⟩,fun k p hk=>by simp at hk⟩,fun _=>hu.toExt fun _ _ h=>h⟩;exact hx.out _ ⟨fun _ _ _ _=>rfl,fun b hb=>.inl (hb.imp id fun h=>(low b h).elim),fun k p hk=>by simp at hk⟩
end
theorem og {P:Program} {Q:Exit -> Act -> World -> Prop} {a:Act} {w:World} {ops:Array Oper} {id t g:Nat} {o0 o1:Oper} {GW:Array Operand} {tp:Array TypeId} (hl:ops.toList= [o0,o1]) (h0:o0.op= .makeFunc (.func g) #[] GW) (Wk:o0.dst=some t) (Wi:o0.guard=none) (h1:o1.op= .defer { callee:=.value (.tmp t),args:=#[],argTypes:=tp }) (HP:o1.dst=none) (hg1:o1.guard=none) (ht:t<a.tmps.size)
 (hQ: ∀ a',a'.tmps=a.tmps.setIfInBounds t (.func (.func g) #[] (GW.map a.eval)) -> a'.defers= { target:=.fn (.func g) (GW.map a.eval),args:=#[] }::a.defers -> Q .normal a' w):(Code.region id ops false).wpIn Fence.wide 0 P Q a w:=by
 refine zFB ?_;rw [hl];simp only [wpListIn,Oper.wpIn,Region.wanted,Wi,hg1,zEL];refine ⟨fun _ _=>trivial,?_⟩
 have e0:(o0.semAt Fence.wide.round a.eval).run P w= .ok (.value (.func (.func g) #[] (GW.map a.eval))) w:=by
  rw [zEe _ _ _ (by rw [h0];intro c e;cases e)];unfold execOp;rw [h0];simp only [zAr,Array.map_empty];simp [go_sem]
 rw [e0,Oper.uponIn_value];refine ⟨fun _ _=>trivial,?_⟩;obtain ⟨a2,bY⟩: ∃ a2,a2=a.put o0.dst (.func (.func g) #[] (GW.map a.eval)):=⟨_,rfl⟩;rw [←bY]
 have ev:a2.eval (.tmp t)= .func (.func g) #[] (GW.map a.eval):=by
  rw [bY,Wk];simp [Act.eval,Act.put,ht]
 have e1:(o1.semAt Fence.wide.round a2.eval).run P w= .ok (.defer { target:=.fn (.func g) (GW.map a.eval),args:=#[] }) w:=by
  show (o1.semAt none a2.eval).run P w=_
  rw [Oper.semAt_none];unfold execOp;rw [h1];simp only [resolve,ev];simp [Deferred.ofValue,go_sem]
 rw [e1,Oper.uponIn_defer,HP]
 have:Act.put { a2 with defers:={ target:=.fn (.func g) (GW.map a.eval),args:=#[] }::a2.defers } none undef= { tmps:=a.tmps.setIfInBounds t (.func (.func g) #[] (GW.map a.eval)),defers:={ target:=.fn (.func g) (GW.map a.eval),args:=#[] }::a.defers }:=by
  rw [bY,Wk];rfl
 rw [this];exact hQ _ rfl rfl
theorem AS.idle {P:Program} {Γ:Ar} {N:Nat -> Prop} {fr:List DV} {h:DH} {ρ:List AI} {a a':Act} {w:World} (R:AS P Γ N ⟨fr,h⟩ ρ a w) (t:Nat) {v:Value} (ha:a'.tmps=a.tmps.setIfInBounds t v) (e:fr.set t .any=fr):AS P Γ N ⟨fr,h⟩ ρ a' w:=by
 refine ⟨R.hr,?_⟩;have:=R.fr.set t (d:=.any) (v:=v) trivial;rw [ha]
 show BC _ _ _ fr _
 have e':BC (MS N h ρ) w ρ (fr.set t .any) (a.tmps.setIfInBounds t v):=this
 rwa [e] at e'
theorem nD {P:Program} {Γ:Ar} {N:Nat -> Prop} {h h':DH} {ρ ρ':List AI} {w w':World} {D:Nat} (H:A0 P Γ N h ρ w) (st:A6 h ρ w h' ρ' w') (hD:w.heap[D]? =some (.deferred (some []))):w'.heap[D]? =some (.deferred (some [])):=by
 refine (st.upd.block D (zAK.1 hD).1 ?_).trans hD;rintro ⟨k,o,p,h1,h2,h3⟩;obtain ⟨_,_,c,t,z,h4⟩:=H.cel k o p D h1 h2 h3;rw [hD] at h4;cases h4;cases t
theorem V2 {P:Program} {fn:Func} {tmps:Array Value} {R:Ending -> World -> Prop} {D g:Nat} {GW:Array Value} {u:FrameMode} {w:World} (hu:u≠.run) (hD:w.heap[D]? =some (.deferred (some []))) (eg: ∀ args W,(callFunc g args).run P W= .ok (.enter g args) W)
 (h: ∀ W,OX D w W -> CallsDIn Fence.wide (0-1) P g GW u W fun
  | .returned _,u',w'=>LeavesIn Fence.wide 0 P fn tmps R [] (settle u') w'
  | .panicked zC1,u',w'=>LeavesIn Fence.wide 0 P fn tmps R [] (raised u' zC1) w'
  | .outgrown,_,w'=>R .outgrown w'):LeavesInM Fence.wide 0 P fn tmps R [{ target:=.collected D,args:=#[] },{ target:=.fn (.func g) GW,args:=#[] }] u w:=by
 refine ⟨hu,.inl ⟨D,_,rfl,run_takeDeferred hD,hu,.inr ⟨fun h=>(by cases h),.func g,GW,g,#[]++GW,rfl,?_,fun _ _=>trivial,?_⟩⟩⟩
 ·simp [invoke,go_sem,eg]
 ·have hs:OX D w (w.putObj D (.deferred none)):=((AP.refl (fun k=>k=D) w).putObj (fun _=>rfl) _).mono fun i _ e=>by cases e;exact ⟨zAp _,hD⟩
  have:=h _ hs;rw [Array.empty_append];exact this.mono fun e u' w' hq=>by cases e <;> exact hq
theorem BC.split {M:Nat -> Prop} {w:World} {ρ:List AI} {fr l:List DV} {t u:Array Value} (F:BC M w ρ (fr++l) (t++u)) (hl:fr.length=t.size):BC M w ρ fr t/\ BC M w ρ l u:=by
 have hs:fr.length+l.length=t.size+u.size:=by simpa using F.1
 refine ⟨⟨hl,fun j hj=>?_⟩,⟨by omega,fun j hj=>?_⟩⟩
 ·have h:=F.2 j (by simp;omega);have e1:(fr++l).getD j .any=fr.getD j .any:=by simp only [u8,zAb hj]
  have e2:(t++u).getD j undef=t.getD j undef:=by simp only [zAg,zEX (show j<t.size by omega)]
  rwa [e1,e2] at h
 ·have h:=F.2 (fr.length+j) (by simp;omega);have e1:(fr++l).getD (fr.length+j) .any=l.getD j .any:=by simp only [u8];rw [zAd (by omega)];congr 2;omega
  have e2:(t++u).getD (fr.length+j) undef=u.getD j undef:=by simp only [zAg];rw [Array.getElem?_append_right (by omega)];congr 2;omega
  rwa [e1,e2] at h
theorem Az.both {L:Nat} {P:Program} {Γ:Ar} {N:Nat -> Prop} {fr l Gp l':List DV} {h h':DH} {ρ:List AI} {a:Act} {w:World} {u:Array Value} (hS:Az L ⟨fr++l,h⟩ ⟨Gp++l',h'⟩) (hl:Gp.length=fr.length) (R:AS P Γ N ⟨fr,h⟩ ρ a w) (F:BC (MS N h ρ) w ρ l u): ∃ ρ',AS P Γ N ⟨Gp,h'⟩ ρ' a w/\ BC (MS N h' ρ') w ρ' l' u/\ A6 h ρ w h' ρ' w/\ B8 L ρ ρ':=by
 obtain ⟨ρ',R',s,k⟩:=hS P Γ N ρ { a with tmps:=a.tmps++u } w ⟨R.hr,BC.append R.fr F⟩;obtain ⟨f1,f2⟩:=BC.split R'.fr (hl.trans R.fr.1);exact ⟨ρ',⟨R'.hr,f1⟩,f2,s,k⟩
theorem AS.forg {P:Program} {Γ:Ar} {N:Nat -> Prop} {fr Gp:List DV} {h:DH} {ρ:List AI} {a a':Act} {w:World} (live:List Nat) (R:AS P Γ N ⟨fr,h⟩ ρ a w) (ha:a'.tmps=a.tmps) (e:forget live fr=Gp):AS P Γ N ⟨Gp,h⟩ ρ a' w:=by
 subst e;refine ⟨R.hr,?_⟩;rw [ha];refine ⟨(TU live fr).trans R.fr.1,fun i hi=>?_⟩;have hi:i<fr.length:=by rw [←TU live fr];exact hi
 show AM _ _ ((forget live fr).getD i .any) _ _
 rw [cD live fr hi];split
 ·exact R.fr.2 i hi
 ·trivial
theorem TT {P:Program} {Γ:Ar} {N:Nat -> Prop} {h h':DH} {ρ ρ':List AI} {w w':World} {L:Nat} {fr:List DV} {t:Array Value} (F:BC (MS N h ρ) w ρ fr t) (Ch:fr.all (C5 L)=true) (H':A0 P Γ N h' ρ' w') (st:A6 h ρ w h' ρ' w') (kp:B8 L ρ ρ'):BC (MS N h' ρ') w' ρ' fr t:=
 (F.take Ch).out ⟨fun b hb hm _=>st.upd.block b hb fun hx=>hm (.inr hx),fun b hb=>hb.elim (fun h=>.inl (.inl h)) fun h=>(st.grow b h).imp .inr id,fun k p hp=>by
  rw [zEC] at hp;split at hp
  ·rename_i hk;exact kp k p hk hp
  ·cases hp⟩
theorem XB {P:Program} {Γ:Ar} {N:Nat -> Prop} {S:St} {ρ ρ0:List AI} {a:Act} {w0 W:World} {fn:Func} (R:AS P Γ N S ρ a W) (h0:A0 P Γ N [] ρ0 w0) (st:A6 [] ρ0 w0 S.h ρ W) (ks:List Nat) {ws:List Prop} (hz:HS [] [] [] ws) (rs:List DV) {d:DV} (hd:AR (G9 rs) d)
 (hf:(frzL ks S).bind (fun q=>(LW P q.1 fn.results.toList).map fun r=>(r,q.2))=some (rs,ws)) (hn:Eo d=true): ∃ v,(results fn a.tmps).run P W= .ok v W/\ CV P Γ N [] ρ0 w0 true d [] v W:=by
 obtain ⟨⟨S2,w2⟩,h1,h2⟩:=FP hf;obtain ⟨r,h3,h4⟩:=KJ h2;cases h4;obtain ⟨ρ2,R2,s2,_⟩:=Az.frzL (L:=0) ks h1 hz.all P Γ N ρ a W R;obtain ⟨v,g1,g2⟩:=VG R2 h3;exact ⟨v,g1,zBB h0 R2.hr (st.trans s2) (hd _ _ _ _ g2) hn⟩
end Go.Proofs.YtkjbblkieglmlaaGreatDoor
namespace Go.Proofs.YtkjbblkieglmlaaGreatDoor
open Go.RowKit
set_option maxRecDepth 100000
set_option maxHeartbeats 40000000
def Jc (x:(List Int)×(List Int)×Int):List DV:=[.agg 3 (L1 [.ints x.1,.ints x.2.1,.i x.2.2])]
abbrev An:=(List Int)×(List Int)×Int
def Vr (pos:List Int) (AF depth:Int):Nat -> List DV:=fun _=>[.ref 5 0,.ints pos,.i AF,.i depth]
def Cz (AN:List Int) (q:AA) (tree:List (Int×Int)) (ln:Nat) (pos0:List Int):Nat -> DH:=fun l=>[some (.ints AN),some (.ro (AD q)),some (.ro [.sl 2 tree.length (AQ BD tree)]),some (.ro [.msl 0 1 0 ln]),some (.ro [.ints pos0]),some (.ro (AD q++[.sl 2 tree.length (AQ BD tree),.msl 0 1 0 ln,.yl l]))]
def SG (y:Int):DV:=.i y
abbrev D4:=(List Int) -> Int -> Int -> (List Int) -> AA -> (List (Int×Int)) -> Nat -> (List Int) -> Option (YR An Int (List Int))
def IU (f:D4):Prop:=∀ (pos:List Int) (AF depth:Int) (AN:List Int) (q:AA) (tree:List (Int×Int)) (ln:Nat) (pos0:List Int) (r:YR An Int (List Int)),f pos AF depth AN q tree ln pos0=some r -> YC Tryz.prog GG DY 58 (Vr pos AF depth) (Cz AN q tree ln pos0) (r.1.map Jc) (r.2.1.map SG) (Cz r.2.2 q tree ln pos0)
def iW:Nat -> List DV:=fun _=>[.ref 6 0,.ref 10 0,.ref 7 0,.ref 8 0,.ref 9 0]
def Hm (AN:List Int) (q:AA) (tree:List (Int×Int)) (ln:Nat) (pos0 pos:List Int) (AF depth:Int) (nd:Int×Int):Nat -> DH:=fun l=>[some (.ints AN),some (.ro (AD q)),some (.ro [.sl 2 tree.length (AQ BD tree)]),some (.ro [.msl 0 1 0 ln]),some (.ro [.ints pos0]),some (.ro (AD q++[.sl 2 tree.length (AQ BD tree),.msl 0 1 0 ln,.yl l])),some (.ro [.ref 5 0]),some (.ro [.ints pos]),some (.ro [.i AF]),some (.ro [.i depth]),some (.ro [.i nd.1,.i nd.2])]
def iX (y:Int):DV:=.i y
abbrev uI:=(List Int) -> AA -> (List (Int×Int)) -> Nat -> (List Int) -> (List Int) -> Int -> Int -> (Int×Int) -> Option (YR An Int (List Int))
def uH (f:uI):Prop:=∀ (AN:List Int) (q:AA) (tree:List (Int×Int)) (ln:Nat) (pos0 pos:List Int) (AF depth:Int) (nd:Int×Int) (r:YR An Int (List Int)),f AN q tree ln pos0 pos AF depth nd=some r -> YC Tryz.prog GG DY 81 (iW) (Hm AN q tree ln pos0 pos AF depth nd) (r.1.map Jc) (r.2.1.map iX) (Hm r.2.2 q tree ln pos0 pos AF depth nd)
theorem rG:Av (Ah Tryz.f81 1) [([0,1,2,3,4,5,6],7)] [8,9,10,11,12] []:=by unfold Av;kernel_rfl
def Yn:Bi:=fun i=>match i with
 | 1=>.ord [([0,1,2,3,4,5,6],7)] [8,9,10,11,12] []
 | _=>.no
def ZP (n:Nat) (Aj:D4) (AN:List Int) (q:AA) (tree:List (Int×Int)) (ln:Nat) (pos0 pos:List Int) (AF depth:Int) (nd:Int×Int):Option (YR An Int (List Int)):=
 (O5 n q nd.2 pos).bind fun y1=>
  bif (y1.2==0) then
   if AL (AF+1) then
    yb (Aj y1.1 (AF+1) depth AN q tree ln pos0) fun y2 o2=>
     some ([],some y2,o2)
   else none
  else
   some ([],none,AN)
def ZQ (n:Nat) (Aj:D4) (AN:List Int) (q:AA) (tree:List (Int×Int)) (ln:Nat) (pos0 pos:List Int) (AF depth:Int) (nd:Int×Int):Option (YR An Int (List Int)):=ZP n Aj AN q tree ln pos0 pos AF depth nd
theorem uG {n:Nat} {Aj:D4} (CD:IU Aj):uH (ZQ n Aj):=fun AN q tree ln pos0 pos AF depth nd r h=>YC.ofY (L:=11) (h':=fun l o=>Hm o q tree ln pos0 pos AF depth nd l) Tryz.func81 (fun C i ρ0 hn hd=>by
 replace h:ZP n Aj AN q tree ln pos0 pos AF depth nd=some r:=h;unfold ZP at h;obtain ⟨y1,A8,h⟩:=FP h;have p:=H0.g rG |>.c (fb (uJ A8) (Hm AN q tree ln pos0 pos AF depth nd C.l))
 refine gs (AV 3 (AV 2 Yn)) [0,1,2,3,4,5,6,7,8,9,10] p (Cc (AW Tryz.f81) 2 []) (AG 28 [(0,.ref 6 0),(3,.ref 8 0),(4,.ref 9 0),(6,.ints y1.1),(7,.i y1.2)]) (Hm AN q tree ln pos0 pos AF depth nd C.l) ?_;rcases Br h with ⟨c0,h⟩ | ⟨c0,h⟩
 ·refine yO (ops:=Ah Tryz.f81 2) (by kernel_rfl) ?_;refine yT hn [0,1] [] 2 ((H0.b 20 c0)) (AG 28 [(0,.ref 6 0),(3,.ref 8 0),(4,.ref 9 0),(6,.ints y1.1)]) (Hm AN q tree ln pos0 pos AF depth nd C.l) (some 21) ?_ hd;refine y0 ?_;have p:=H0;refine gs (AV 3 (AV 2 Yn)) [0,1,2,3,4,5,6,7,8,9,10] p (Cc (AW Tryz.f81) 3 []) (AG 28 [(0,.ref 6 0),(3,.ref 8 0),(4,.ref 9 0),(6,.ints y1.1)]) (Hm AN q tree ln pos0 pos AF depth nd C.l) ?_;obtain ⟨g0,h⟩:=Bs h;refine yO (ops:=Ah Tryz.f81 3) (by kernel_rfl) ?_;refine yC (ds:=Vr y1.1 (AF+1) depth) (h:=Cz AN q tree ln pos0) (h':=fun l o=>Cz o q tree ln pos0 l) (tD':=SG) hn [0,1,2,3,4] [6] 5 ((H0.w 25 g0)) (AG 28 []) (Hm AN q tree ln pos0 pos AF depth nd C.l) (some 27) h hd (fun a ha=>CD _ _ _ _ _ _ _ _ a ha) (fun y2 o2 r i h hd=>?_);refine yE H0 (AG 28 [(5,.i y2)]) (Hm o2 q tree ln pos0 pos AF depth nd C.l) ?_;have p:=H0;cases h;exact yF (ee (AV 3 (AV 2 Yn)) [5] [0,1,2,3,4,5,6,7,8,9,10] p)
 ·cases h;refine yO (ops:=Ah Tryz.f81 2) (by kernel_rfl) ?_;exact yP hn [0,1] [] 2 ((H0.b 20 c0)) (AG 28 [(0,.ref 6 0),(3,.ref 8 0),(4,.ref 9 0),(6,.ints y1.1)]) (Hm AN q tree ln pos0 pos AF depth nd C.l) (some 21))
def fg:Nat -> List DV:=fun _=>[.ref 10 0,.ref 7 0,.ref 8 0,.ref 6 0,.ref 9 0]
def Ds (AN:List Int) (q:AA) (tree:List (Int×Int)) (ln:Nat) (pos0 pos:List Int) (AF depth:Int) (nd:Int×Int):Nat -> DH:=fun l=>[some (.ints AN),some (.ro (AD q)),some (.ro [.sl 2 tree.length (AQ BD tree)]),some (.ro [.msl 0 1 0 ln]),some (.ro [.ints pos0]),some (.ro (AD q++[.sl 2 tree.length (AQ BD tree),.msl 0 1 0 ln,.yl l])),some (.ro [.ref 5 0]),some (.ro [.ints pos]),some (.ro [.i AF]),some (.ro [.i depth]),some (.ro [.i nd.1,.i nd.2])]
def YZ (y:Int):DV:=.i y
abbrev p5:=(List Int) -> AA -> (List (Int×Int)) -> Nat -> (List Int) -> (List Int) -> Int -> Int -> (Int×Int) -> Option (YR An Int (List Int))
def pz (f:p5):Prop:=∀ (AN:List Int) (q:AA) (tree:List (Int×Int)) (ln:Nat) (pos0 pos:List Int) (AF depth:Int) (nd:Int×Int) (r:YR An Int (List Int)),f AN q tree ln pos0 pos AF depth nd=some r -> YC Tryz.prog GG DY 83 (fg) (Ds AN q tree ln pos0 pos AF depth nd) (r.1.map Jc) (r.2.1.map YZ) (Ds r.2.2 q tree ln pos0 pos AF depth nd)
theorem qu:Av (Ah Tryz.f83 7) [([0,1,2,3,4,5,6,7],8)] [9,10,11,12,13] []:=by unfold Av;kernel_rfl
def Mv:Bi:=fun i=>match i with
 | 7=>.ord [([0,1,2,3,4,5,6,7],8)] [9,10,11,12,13] []
 | _=>.no
inductive Ou where
 | l1 (x6 Dc:Int) (o0:List Int)
def Mo (n:Nat) (Aj:D4) (self:Ou -> Option (YR An Int (List Int))) (AN:List Int) (q:AA) (tree:List (Int×Int)) (ln:Nat) (pos0 pos:List Int) (AF depth:Int) (nd:Int×Int) (x6 Dc:Int) (o0:List Int):Option (YR An Int (List Int)):=
 bif (decide (Dc<q.symbols)) then
  if (0<=nd.2/\ nd.2<(pos.length:Int))/\ (0<=Dc/\ Dc<=(IntKind.i64.bits:Int)) then
   bif ((bits .and .i64 ((pos.getD ((nd.2).toNat) 0)/2 ^ (Dc).toNat) 1)==1) then
    (OE n q pos nd.2 Dc).bind fun y1=>
     bif (y1.2==0) then
      if AL (depth+1) then
       yb (Aj y1.1 x6 (depth+1) o0 q tree ln pos0) fun y2 o2=>
        if AL (Dc+1) then
         self (.l1 y2 (Dc+1) o2)
        else none
      else none
     else
      some ([],none,o0)
   else
    if AL (Dc+1) then
     self (.l1 x6 (Dc+1) o0)
    else none
  else none
 else
  some ([],some x6,o0)
def LE (n:Nat) (Aj:D4) (self:Ou -> Option (YR An Int (List Int))) (AN:List Int) (q:AA) (tree:List (Int×Int)) (ln:Nat) (pos0 pos:List Int) (AF depth:Int) (nd:Int×Int):Option (YR An Int (List Int)):=
 bif (decide (nd.2>=0)) then
  bif (decide (nd.2<(pos.length:Int))) then
   (JI n pos).bind fun y1=>
    bif (!y1) then
     if 0<=nd.2/\ nd.2<(pos.length:Int) then
      (Q2 n (pos.getD ((nd.2).toNat) 0)).bind fun y2=>
       bif (decide (y2>1)) then
        if AL (AF+1) then
         self (.l1 (AF+1) 0 AN)
        else none
       else
        some ([],none,AN)
     else none
    else
     some ([],none,AN)
  else
   some ([],none,AN)
 else
  some ([],none,AN)
def HA (Aj:D4) (AN:List Int) (q:AA) (tree:List (Int×Int)) (ln:Nat) (pos0 pos:List Int) (AF depth:Int) (nd:Int×Int):Nat -> Ou -> Option (YR An Int (List Int))
 | 0,_=>none
 | n+1,.l1 x6 Dc o0=>Mo n Aj (HA Aj AN q tree ln pos0 pos AF depth nd n) AN q tree ln pos0 pos AF depth nd x6 Dc o0
def YY (C:Ba Tryz.prog) (ρ0:List AI) (n:Nat) (AN:List Int) (q:AA) (tree:List (Int×Int)) (ln:Nat) (pos0 pos:List Int) (AF depth:Int) (nd:Int×Int) (r:YR An Int (List Int)):Ou -> Prop
 | .l1 x6 Dc o0=>∀ m0:Nat,n<=m0 -> ∀ i:Nat,DR C Jc i r -> TY C DY Tryz.f83 11 ρ0 YZ (fun o=>Ds o q tree ln pos0 pos AF depth nd C.l) (A3 m0 (BB (AW Tryz.f83) 0 [])) i r ⟨AG 77 [(0,.ref 10 0),(1,.ref 7 0),(3,.ref 6 0),(4,.ref 9 0),(6,.i x6),(41,.i q.symbols),(42,.i Dc)],[some (.ints o0),some (.ro (AD q)),some (.ro [.sl 2 tree.length (AQ BD tree)]),some (.ro [.msl 0 1 0 ln]),some (.ro [.ints pos0]),some (.ro (AD q++[.sl 2 tree.length (AQ BD tree),.msl 0 1 0 ln,.yl C.l])),some (.ro [.ref 5 0]),some (.ro [.ints pos]),some (.ro [.i AF]),some (.ro [.i depth]),some (.ro [.i nd.1,.i nd.2])]⟩
theorem py (C:Ba Tryz.prog) (hn:C.nv) (ρ0:List AI) (n:Nat) (Aj:D4) (CD:IU Aj) (self:Ou -> Option (YR An Int (List Int))) (AN:List Int) (q:AA) (tree:List (Int×Int)) (ln:Nat) (pos0 pos:List Int) (AF depth:Int) (nd:Int×Int) (AJ: ∀ pt r,self pt=some r -> YY C ρ0 n AN q tree ln pos0 pos AF depth nd r pt) (x6 Dc:Int) (o0:List Int) (r:YR An Int (List Int)) (h:Mo n Aj self AN q tree ln pos0 pos AF depth nd x6 Dc o0=some r):YY C ρ0 (n+1) AN q tree ln pos0 pos AF depth nd r (.l1 x6 Dc o0):=by
 intro m0 AE;intro i hd;refine rd AE fun m0 AE=>?_
 unfold Mo at h;have p:=H0;rcases Br h with ⟨c0,h⟩ | ⟨c0,h⟩
 ·obtain ⟨⟨g0,g1⟩,h⟩:=Bs h;have p:=H0.b 43 c0 |>.g g0 |>.g g1
  rcases Br h with ⟨c1,h⟩ | ⟨c1,h⟩
  ·obtain ⟨y1,A8,h⟩:=FP h;have p:=p.b 53 c1 |>.g qu |>.c (fb (zBT A8) (Ds o0 q tree ln pos0 pos AF depth nd C.l))
   refine gs (AV 9 (AV 8 (AV 1 Mv))) [0,1,2,3,4,5,6,7,8,9,10] p (Cc (AW Tryz.f83) 8 [m0]) (AG 77 [(0,.ref 10 0),(1,.ref 7 0),(3,.ref 6 0),(4,.ref 9 0),(6,.i x6),(8,.ints y1.1),(9,.i y1.2),(41,.i q.symbols),(42,.i Dc)]) (Ds o0 q tree ln pos0 pos AF depth nd C.l) ?_;rcases Br h with ⟨c0,h⟩ | ⟨c0,h⟩
   ·refine yO (ops:=Ah Tryz.f83 8) (by kernel_rfl) ?_;refine yT hn [0,1] [] 2 ((H0.b 67 c0)) (AG 77 [(0,.ref 10 0),(1,.ref 7 0),(3,.ref 6 0),(4,.ref 9 0),(6,.i x6),(8,.ints y1.1),(41,.i q.symbols),(42,.i Dc)]) (Ds o0 q tree ln pos0 pos AF depth nd C.l) (some 68) ?_ hd;refine y0 ?_;have p:=H0;refine gs (AV 9 (AV 8 (AV 1 Mv))) [0,1,2,3,4,5,6,7,8,9,10] p (Cc (AW Tryz.f83) 9 [m0]) (AG 77 [(0,.ref 10 0),(1,.ref 7 0),(3,.ref 6 0),(4,.ref 9 0),(6,.i x6),(8,.ints y1.1),(41,.i q.symbols),(42,.i Dc)]) (Ds o0 q tree ln pos0 pos AF depth nd C.l) ?_;obtain ⟨g2,h⟩:=Bs h;refine yO (ops:=Ah Tryz.f83 9) (by kernel_rfl) ?_;refine yC (ds:=Vr y1.1 x6 (depth+1)) (h:=Cz o0 q tree ln pos0) (h':=fun l o=>Cz o q tree ln pos0 l) (tD':=SG) hn [0,1,2,3,4] [6] 5 ((H0.w 73 g2)) (AG 77 [(0,.ref 10 0),(1,.ref 7 0),(3,.ref 6 0),(4,.ref 9 0),(6,.i x6),(41,.i q.symbols),(42,.i Dc)]) (Ds o0 q tree ln pos0 pos AF depth nd C.l) (some 74) h hd (fun a ha=>CD _ _ _ _ _ _ _ _ a ha) (fun y2 o2 r i h hd=>?_);refine yE H0 (AG 77 [(0,.ref 10 0),(1,.ref 7 0),(3,.ref 6 0),(4,.ref 9 0),(6,.i y2),(41,.i q.symbols),(42,.i Dc)]) (Ds o2 q tree ln pos0 pos AF depth nd C.l) ?_;obtain ⟨g3,h⟩:=Bs h;have p:=H0.w 75 g3;exact gg (AV 9 (AV 8 (AV 1 Mv))) [0,1,2,3,4,5,6,7,8,9,10] p (AJ _ _ h m0 AE i hd)
   ·cases h;refine yO (ops:=Ah Tryz.f83 8) (by kernel_rfl) ?_;exact yP hn [0,1] [] 2 ((H0.b 67 c0)) (AG 77 [(0,.ref 10 0),(1,.ref 7 0),(3,.ref 6 0),(4,.ref 9 0),(6,.i x6),(8,.ints y1.1),(41,.i q.symbols),(42,.i Dc)]) (Ds o0 q tree ln pos0 pos AF depth nd C.l) (some 68)
  ·obtain ⟨g2,h⟩:=Bs h;have p:=p.b 53 c1 |>.w 75 g2
   exact gg (AV 9 (AV 8 (AV 1 Mv))) [0,1,2,3,4,5,6,7,8,9,10] p (AJ _ _ h m0 AE i hd)
 ·have p:=H0.b 43 c0;cases h;exact yF (ee (AV 9 (AV 8 (AV 1 Mv))) [5] [0,1,2,3,4,5,6,7,8,9,10] p)
theorem fh (C:Ba Tryz.prog) (hn:C.nv) (ρ0:List AI) (Aj:D4) (CD:IU Aj) (AN:List Int) (q:AA) (tree:List (Int×Int)) (ln:Nat) (pos0 pos:List Int) (AF depth:Int) (nd:Int×Int): ∀ (n:Nat) (pt:Ou) (r:YR An Int (List Int)),HA Aj AN q tree ln pos0 pos AF depth nd n pt=some r -> YY C ρ0 n AN q tree ln pos0 pos AF depth nd r pt
 | 0,_,_,h=>by cases h
 | n+1,.l1 x6 Dc o0,r,h=>py C hn ρ0 n Aj CD (HA Aj AN q tree ln pos0 pos AF depth nd n) AN q tree ln pos0 pos AF depth nd (fh C hn ρ0 Aj CD AN q tree ln pos0 pos AF depth nd n) x6 Dc o0 r h
def LF (n:Nat) (Aj:D4) (AN:List Int) (q:AA) (tree:List (Int×Int)) (ln:Nat) (pos0 pos:List Int) (AF depth:Int) (nd:Int×Int):Option (YR An Int (List Int)):=LE n Aj (HA Aj AN q tree ln pos0 pos AF depth nd n) AN q tree ln pos0 pos AF depth nd
theorem px {n:Nat} {Aj:D4} (CD:IU Aj):pz (LF n Aj):=fun AN q tree ln pos0 pos AF depth nd r h=>YC.ofY (L:=11) (h':=fun l o=>Ds o q tree ln pos0 pos AF depth nd l) Tryz.func83 (fun C i ρ0 hn hd=>by
 replace h:LE n Aj (HA Aj AN q tree ln pos0 pos AF depth nd n) AN q tree ln pos0 pos AF depth nd=some r:=h;have AJ:=(fh C hn ρ0 Aj CD AN q tree ln pos0 pos AF depth nd n);unfold LE at h
 generalize HA Aj AN q tree ln pos0 pos AF depth nd n=self at h AJ
 have p:=H0;refine gs (AV 9 (AV 8 (AV 1 Mv))) [0,1,2,3,4,5,6,7,8,9,10] p (Cc (AW Tryz.f83) 1 []) (AG 77 [(0,.ref 10 0),(1,.ref 7 0),(2,.ref 8 0),(3,.ref 6 0),(4,.ref 9 0)]) (Ds AN q tree ln pos0 pos AF depth nd C.l) ?_;rcases Br h with ⟨c0,h⟩ | ⟨c0,h⟩
 ·rcases Br h with ⟨c1,h⟩ | ⟨c1,h⟩
  ·obtain ⟨y1,A8,h⟩:=FP h;rcases Br h with ⟨c2,h⟩ | ⟨c2,h⟩
   ·obtain ⟨g0,h⟩:=Bs h;obtain ⟨y2,Bx,h⟩:=FP h;rcases Br h with ⟨c3,h⟩ | ⟨c3,h⟩
    ·refine yO (ops:=Ah Tryz.f83 1) (by kernel_rfl) ?_;refine yT hn [0,1,2,3,4,5,6,7,8,9,10,11,12,13,14,15,16,17,18,19,20,21,22,23] [] 24 ((H0.b 12 c0 |>.b 18 c1 |>.c (fb (Nc A8) (Ds AN q tree ln pos0 pos AF depth nd C.l)) |>.b 23 c2 |>.g g0 |>.c (fb (gA Bx) (Ds AN q tree ln pos0 pos AF depth nd C.l)) |>.b 32 c3)) (AG 77 [(0,.ref 10 0),(1,.ref 7 0),(2,.ref 8 0),(3,.ref 6 0),(4,.ref 9 0)]) (Ds AN q tree ln pos0 pos AF depth nd C.l) (some 34) ?_ hd;refine y0 ?_;obtain ⟨g1,h⟩:=Bs h;have p:=H0.w 36 g1;exact gg (AV 9 (AV 8 (AV 1 Mv))) [0,1,2,3,4,5,6,7,8,9,10] p (en n (AJ _ _ h n Nat.le.refl i hd))
    ·cases h;refine yO (ops:=Ah Tryz.f83 1) (by kernel_rfl) ?_;exact yP hn [0,1,2,3,4,5,6,7,8,9,10,11,12,13,14,15,16,17,18,19,20,21,22,23] [] 24 ((H0.b 12 c0 |>.b 18 c1 |>.c (fb (Nc A8) (Ds AN q tree ln pos0 pos AF depth nd C.l)) |>.b 23 c2 |>.g g0 |>.c (fb (gA Bx) (Ds AN q tree ln pos0 pos AF depth nd C.l)) |>.b 32 c3)) (AG 77 [(0,.ref 10 0),(1,.ref 7 0),(2,.ref 8 0),(3,.ref 6 0),(4,.ref 9 0)]) (Ds AN q tree ln pos0 pos AF depth nd C.l) (some 34)
   ·cases h;refine yO (ops:=Ah Tryz.f83 1) (by kernel_rfl) ?_;exact yP hn [0,1,2,3,4,5,6,7,8,9,10,11,12,13,14,15,16,17,18,19,20,21,22,23] [] 24 ((H0.b 12 c0 |>.b 18 c1 |>.c (fb (Nc A8) (Ds AN q tree ln pos0 pos AF depth nd C.l)) |>.b 23 c2)) (AG 77 [(0,.ref 10 0),(1,.ref 7 0),(2,.ref 8 0),(3,.ref 6 0),(4,.ref 9 0)]) (Ds AN q tree ln pos0 pos AF depth nd C.l) (some 34)
  ·cases h;refine yO (ops:=Ah Tryz.f83 1) (by kernel_rfl) ?_;exact yP hn [0,1,2,3,4,5,6,7,8,9,10,11,12,13,14,15,16,17,18,19,20,21,22,23] [] 24 ((H0.b 12 c0 |>.b 18 c1)) (AG 77 [(0,.ref 10 0),(1,.ref 7 0),(2,.ref 8 0),(3,.ref 6 0),(4,.ref 9 0)]) (Ds AN q tree ln pos0 pos AF depth nd C.l) (some 34)
 ·cases h;refine yO (ops:=Ah Tryz.f83 1) (by kernel_rfl) ?_;exact yP hn [0,1,2,3,4,5,6,7,8,9,10,11,12,13,14,15,16,17,18,19,20,21,22,23] [] 24 ((H0.b 12 c0)) (AG 77 [(0,.ref 10 0),(1,.ref 7 0),(2,.ref 8 0),(3,.ref 6 0),(4,.ref 9 0)]) (Ds AN q tree ln pos0 pos AF depth nd C.l) (some 34))
def nE:Nat -> List DV:=fun _=>[.ref 10 0,.ref 7 0,.ref 6 0,.ref 9 0,.ref 8 0]
def Gv (AN:List Int) (q:AA) (tree:List (Int×Int)) (ln:Nat) (pos0 pos:List Int) (AF depth:Int) (nd:Int×Int):Nat -> DH:=fun l=>[some (.ints AN),some (.ro (AD q)),some (.ro [.sl 2 tree.length (AQ BD tree)]),some (.ro [.msl 0 1 0 ln]),some (.ro [.ints pos0]),some (.ro (AD q++[.sl 2 tree.length (AQ BD tree),.msl 0 1 0 ln,.yl l])),some (.ro [.ref 5 0]),some (.ro [.ints pos]),some (.ro [.i AF]),some (.ro [.i depth]),some (.ro [.i nd.1,.i nd.2])]
def nF (y:Int):DV:=.i y
abbrev zCJ:=(List Int) -> AA -> (List (Int×Int)) -> Nat -> (List Int) -> (List Int) -> Int -> Int -> (Int×Int) -> Option (YR An Int (List Int))
def zCI (f:zCJ):Prop:=∀ (AN:List Int) (q:AA) (tree:List (Int×Int)) (ln:Nat) (pos0 pos:List Int) (AF depth:Int) (nd:Int×Int) (r:YR An Int (List Int)),f AN q tree ln pos0 pos AF depth nd=some r -> YC Tryz.prog GG DY 87 (nE) (Gv AN q tree ln pos0 pos AF depth nd) (r.1.map Jc) (r.2.1.map nF) (Gv r.2.2 q tree ln pos0 pos AF depth nd)
def QC (n:Nat) (Aj:D4) (AN:List Int) (q:AA) (tree:List (Int×Int)) (ln:Nat) (pos0 pos:List Int) (AF depth:Int) (nd:Int×Int):Option (YR An Int (List Int)):=
 bif (nd.2==0) then
  (JI n pos).bind fun y1=>
   bif y1 then
    if pos.length=(List.replicate pos.length (0:Int)).length/\ (((pos.length:Int):Int)=(pos.length:Int)/\ 0<=(pos.length:Int)/\ ((pos.length:Int):Int)<=1000000000000) then
     yx (List.replicate pos.length (0:Int),([]:List Int),depth) (
      if AL (AF+1) then
       some ([],some (AF+1),AN)
      else none)
    else none
   else
    some ([],none,AN)
 else
  some ([],none,AN)
def QD (n:Nat) (Aj:D4) (AN:List Int) (q:AA) (tree:List (Int×Int)) (ln:Nat) (pos0 pos:List Int) (AF depth:Int) (nd:Int×Int):Option (YR An Int (List Int)):=QC n Aj AN q tree ln pos0 pos AF depth nd
theorem zCH {n:Nat} {Aj:D4} (CD:IU Aj):zCI (QD n Aj):=fun AN q tree ln pos0 pos AF depth nd r h=>YC.ofY (L:=11) (h':=fun l o=>Gv o q tree ln pos0 pos AF depth nd l) Tryz.func87 (fun C i ρ0 hn hd=>by
 replace h:QC n Aj AN q tree ln pos0 pos AF depth nd=some r:=h;unfold QC at h;have p:=H0;refine gs (AV 2 (AV 1 AB)) [0,1,2,3,4,5,6,7,8,9,10] p (Cc (AW Tryz.f87) 1 []) (AG 26 [(0,.ref 10 0),(1,.ref 7 0),(2,.ref 6 0),(3,.ref 9 0),(4,.ref 8 0)]) (Gv AN q tree ln pos0 pos AF depth nd C.l) ?_;rcases Br h with ⟨c0,h⟩ | ⟨c0,h⟩
 ·obtain ⟨y1,A8,h⟩:=FP h;rcases Br h with ⟨c1,h⟩ | ⟨c1,h⟩
  ·refine yO (ops:=Ah Tryz.f87 1) (by kernel_rfl) ?_;refine yT hn [0,1,2,3,4,5,6] [] 7 ((H0.b 8 c0 |>.c (fb (Nc A8) (Gv AN q tree ln pos0 pos AF depth nd C.l)) |>.b 11 c1)) (AG 26 [(1,.ref 7 0),(2,.ref 6 0),(3,.ref 9 0),(4,.ref 8 0)]) (Gv AN q tree ln pos0 pos AF depth nd C.l) (some 13) ?_ hd;refine y0 ?_;have p:=H0;refine gs (AV 2 (AV 1 AB)) [0,1,2,3,4,5,6,7,8,9,10] p (Cc (AW Tryz.f87) 2 []) (AG 26 [(1,.ref 7 0),(2,.ref 6 0),(3,.ref 9 0),(4,.ref 8 0)]) (Gv AN q tree ln pos0 pos AF depth nd C.l) ?_;obtain ⟨⟨g0,g1⟩,h⟩:=Bs h;refine yD (ops:=Ah Tryz.f87 2) [([0,1,2,3,4,5,7],6)] [8] [9] ((H0.g g1 |>.z 20 11 |>.g g0 |>.o 22 (AR.aggL (l:=[.ints (List.replicate pos.length (0:Int)),.nils,.i depth]) (l':=[.ints (List.replicate pos.length (0:Int)),.ints ([]:List Int),.i depth]) rfl ⟨A5,AR.ints_nil,A5,trivial⟩))) (AG 26 [(4,.ref 8 0),(17,.yl C.l),(22,.agg 3 (L1 [.ints (List.replicate pos.length (0:Int)),.ints ([]:List Int),.i depth]))]) (Gv AN q tree ln pos0 pos AF depth nd C.l++[none]) ?_;refine yY hn [] [] 9 H0 (AG 26 [(4,.ref 8 0)]) (Gv AN q tree ln pos0 pos AF depth nd C.l++[none]) (some 23) h hd fun r i h hd=>?_
   refine y0 ?_;obtain ⟨g2,h⟩:=Bs h;have p:=H0.w 25 g2;cases h;exact yF (ee (AV 2 (AV 1 AB)) [5] [0,1,2,3,4,5,6,7,8,9,10] p)
  ·cases h;refine yO (ops:=Ah Tryz.f87 1) (by kernel_rfl) ?_;exact yP hn [0,1,2,3,4,5,6] [] 7 ((H0.b 8 c0 |>.c (fb (Nc A8) (Gv AN q tree ln pos0 pos AF depth nd C.l)) |>.b 11 c1)) (AG 26 [(1,.ref 7 0),(2,.ref 6 0),(3,.ref 9 0),(4,.ref 8 0)]) (Gv AN q tree ln pos0 pos AF depth nd C.l) (some 13)
 ·cases h;refine yO (ops:=Ah Tryz.f87 1) (by kernel_rfl) ?_;exact yP hn [0,1,2,3,4,5,6] [] 7 ((H0.b 8 c0)) (AG 26 [(1,.ref 7 0),(2,.ref 6 0),(3,.ref 9 0),(4,.ref 8 0)]) (Gv AN q tree ln pos0 pos AF depth nd C.l) (some 13))
def m9:Nat -> List DV:=fun _=>[.ref 7 0,.ref 10 0,.ref 6 0,.ref 9 0,.ref 8 0]
def FN (AN:List Int) (q:AA) (tree:List (Int×Int)) (ln:Nat) (pos0 pos:List Int) (AF depth:Int) (nd:Int×Int):Nat -> DH:=fun l=>[some (.ints AN),some (.ro (AD q)),some (.ro [.sl 2 tree.length (AQ BD tree)]),some (.ro [.msl 0 1 0 ln]),some (.ro [.ints pos0]),some (.ro (AD q++[.sl 2 tree.length (AQ BD tree),.msl 0 1 0 ln,.yl l])),some (.ro [.ref 5 0]),some (.ro [.ints pos]),some (.ro [.i AF]),some (.ro [.i depth]),some (.ro [.i nd.1,.i nd.2])]
def nA (y:Int):DV:=.i y
abbrev zB1:=(List Int) -> AA -> (List (Int×Int)) -> Nat -> (List Int) -> (List Int) -> Int -> Int -> (Int×Int) -> Option (YR An Int (List Int))
def zB0 (f:zB1):Prop:=∀ (AN:List Int) (q:AA) (tree:List (Int×Int)) (ln:Nat) (pos0 pos:List Int) (AF depth:Int) (nd:Int×Int) (r:YR An Int (List Int)),f AN q tree ln pos0 pos AF depth nd=some r -> YC Tryz.prog GG DY 88 (m9) (FN AN q tree ln pos0 pos AF depth nd) (r.1.map Jc) (r.2.1.map nA) (FN r.2.2 q tree ln pos0 pos AF depth nd)
def ME (n:Nat) (Aj:D4) (AN:List Int) (q:AA) (tree:List (Int×Int)) (ln:Nat) (pos0 pos:List Int) (AF depth:Int) (nd:Int×Int):Option (YR An Int (List Int)):=
 (Us n pos).bind fun y1=>
  bif (nd.2==0) then
   bif y1.2 then
    (LG n q y1.1).bind fun y2=>
     bif (y2.2==0) then
      bif y2.1 then
       yx (pos,y1.1,depth) (
        if AL (AF+1) then
         some ([],some (AF+1),AN)
        else none)
      else
       some ([],none,AN)
     else
      some ([],none,AN)
   else
    some ([],none,AN)
  else
   some ([],none,AN)
def MF (n:Nat) (Aj:D4) (AN:List Int) (q:AA) (tree:List (Int×Int)) (ln:Nat) (pos0 pos:List Int) (AF depth:Int) (nd:Int×Int):Option (YR An Int (List Int)):=ME n Aj AN q tree ln pos0 pos AF depth nd
theorem zBz {n:Nat} {Aj:D4} (CD:IU Aj):zB0 (MF n Aj):=fun AN q tree ln pos0 pos AF depth nd r h=>YC.ofY (L:=11) (h':=fun l o=>FN o q tree ln pos0 pos AF depth nd l) Tryz.func88 (fun C i ρ0 hn hd=>by
 replace h:ME n Aj AN q tree ln pos0 pos AF depth nd=some r:=h;unfold ME at h;obtain ⟨y1,A8,h⟩:=FP h;have p:=H0.c (fb (qC A8) (FN AN q tree ln pos0 pos AF depth nd C.l));refine gs (AV 5 (AV 4 (AV 2 AB))) [0,1,2,3,4,5,6,7,8,9,10] p (Cc (AW Tryz.f88) 2 []) (AG 48 [(0,.ref 7 0),(1,.ref 10 0),(2,.ref 6 0),(3,.ref 9 0),(4,.ref 8 0),(6,.ints y1.1),(7,.bool y1.2)]) (FN AN q tree ln pos0 pos AF depth nd C.l) ?_;rcases Br h with ⟨c0,h⟩ | ⟨c0,h⟩
 ·rcases Br h with ⟨c1,h⟩ | ⟨c1,h⟩
  ·rw [c1];refine yO (ops:=Ah Tryz.f88 2) (by kernel_rfl) ?_;refine yT hn [0,1,2,3,4,5] [] 6 ((H0.b 17 c0)) (AG 48 [(0,.ref 7 0),(2,.ref 6 0),(3,.ref 9 0),(4,.ref 8 0),(6,.ints y1.1)]) (FN AN q tree ln pos0 pos AF depth nd C.l) (some 21) ?_ hd;refine y0 ?_;obtain ⟨y2,Bx,h⟩:=FP h;have p:=H0.c (fb (qA Bx) (FN AN q tree ln pos0 pos AF depth nd C.l));refine gs (AV 5 (AV 4 (AV 2 AB))) [0,1,2,3,4,5,6,7,8,9,10] p (Cc (AW Tryz.f88) 4 []) (AG 48 [(0,.ref 7 0),(2,.ref 6 0),(3,.ref 9 0),(4,.ref 8 0),(6,.ints y1.1),(8,.bool y2.1),(9,.i y2.2)]) (FN AN q tree ln pos0 pos AF depth nd C.l) ?_;rcases Br h with ⟨c0,h⟩ | ⟨c0,h⟩
   ·rcases Br h with ⟨c1,h⟩ | ⟨c1,h⟩
    ·rw [c1];refine yO (ops:=Ah Tryz.f88 4) (by kernel_rfl) ?_;refine yT hn [0,1,2,3,4] [] 5 ((H0.b 32 c0)) (AG 48 [(0,.ref 7 0),(2,.ref 6 0),(3,.ref 9 0),(4,.ref 8 0),(6,.ints y1.1)]) (FN AN q tree ln pos0 pos AF depth nd C.l) (some 36) ?_ hd;refine y0 ?_;have p:=H0;refine gs (AV 5 (AV 4 (AV 2 AB))) [0,1,2,3,4,5,6,7,8,9,10] p (Cc (AW Tryz.f88) 5 []) (AG 48 [(0,.ref 7 0),(2,.ref 6 0),(3,.ref 9 0),(4,.ref 8 0),(6,.ints y1.1)]) (FN AN q tree ln pos0 pos AF depth nd C.l) ?_;refine yD (ops:=Ah Tryz.f88 5) [] [0,1,2,3,4,5,6,7] [8] H0 (AG 48 [(4,.ref 8 0),(40,.yl C.l),(44,.agg 3 (L1 [.ints pos,.ints y1.1,.i depth]))]) (FN AN q tree ln pos0 pos AF depth nd C.l) ?_;refine yY hn [] [] 8 H0 (AG 48 [(4,.ref 8 0)]) (FN AN q tree ln pos0 pos AF depth nd C.l) (some 45) h hd fun r i h hd=>?_
     refine y0 ?_;obtain ⟨g0,h⟩:=Bs h;have p:=H0.w 47 g0;cases h;exact yF (ee (AV 5 (AV 4 (AV 2 AB))) [5] [0,1,2,3,4,5,6,7,8,9,10] p)
    ·rw [c1];cases h;refine yO (ops:=Ah Tryz.f88 4) (by kernel_rfl) ?_;exact yP hn [0,1,2,3,4] [] 5 ((H0.b 32 c0)) (AG 48 [(0,.ref 7 0),(2,.ref 6 0),(3,.ref 9 0),(4,.ref 8 0),(6,.ints y1.1)]) (FN AN q tree ln pos0 pos AF depth nd C.l) (some 36)
   ·cases h;refine yO (ops:=Ah Tryz.f88 4) (by kernel_rfl) ?_;exact yP hn [0,1,2,3,4] [] 5 ((H0.b 32 c0)) (AG 48 [(0,.ref 7 0),(2,.ref 6 0),(3,.ref 9 0),(4,.ref 8 0),(6,.ints y1.1)]) (FN AN q tree ln pos0 pos AF depth nd C.l) (some 36)
  ·rw [c1];cases h;refine yO (ops:=Ah Tryz.f88 2) (by kernel_rfl) ?_;exact yP hn [0,1,2,3,4,5] [] 6 ((H0.b 17 c0)) (AG 48 [(0,.ref 7 0),(2,.ref 6 0),(3,.ref 9 0),(4,.ref 8 0),(6,.ints y1.1)]) (FN AN q tree ln pos0 pos AF depth nd C.l) (some 21)
 ·cases h;refine yO (ops:=Ah Tryz.f88 2) (by kernel_rfl) ?_;exact yP hn [0,1,2,3,4,5] [] 6 ((H0.b 17 c0)) (AG 48 [(0,.ref 7 0),(2,.ref 6 0),(3,.ref 9 0),(4,.ref 8 0),(6,.ints y1.1)]) (FN AN q tree ln pos0 pos AF depth nd C.l) (some 21))
theorem rW:Av (Ah Tryz.f58 2) [([0,1,2,3,4,5,6],7)] [] [8]:=by unfold Av;kernel_rfl
theorem rV:Av (Ah Tryz.f58 6) [] (List.range 8) []:=by unfold Av;kernel_rfl
def LM:Bi:=fun i=>match i with
 | 2=>.ord [([0,1,2,3,4,5,6],7)] [] [8]
 | 6=>.ord [] (List.range 8) []
 | _=>.no
inductive PF where
 | l1 (o0:List Int)
def SE (n:Nat) (Aj:D4) (self:PF -> Option (YR An Int (List Int))) (pos:List Int) (AF depth:Int) (AN:List Int) (q:AA) (tree:List (Int×Int)) (ln:Nat) (pos0:List Int) (o0:List Int):Option (YR An Int (List Int)):=
 if (0<=AF/\ AF<(ln:Int))/\ 0+((AF).toNat)<o0.length then
  some ([],some (o0.getD (0+((AF).toNat)) 0),o0)
 else none
def FG (n:Nat) (Aj:D4) (self:PF -> Option (YR An Int (List Int))) (pos:List Int) (AF depth:Int) (AN:List Int) (q:AA) (tree:List (Int×Int)) (ln:Nat) (pos0:List Int):Option (YR An Int (List Int)):=
 bif (decide (AF<(tree.length:Int))) then
  if 0<=AF/\ AF<(tree.length:Int) then
   bif (decide (((tree.getD ((AF).toNat) default).1)>=1)) then
    bif (decide (((tree.getD ((AF).toNat) default).1)<=4)) then
     bif (((tree.getD ((AF).toNat) default).1)==0) then
      none
     else
      bif (((tree.getD ((AF).toNat) default).1)==1) then
       yb (ZQ n Aj AN q tree ln pos0 pos AF depth (tree.getD ((AF).toNat) default)) fun y1 o1=>
        if (0<=AF/\ AF<(ln:Int))/\ 0+((AF).toNat)<o1.length then
         self (.l1 (o1.set (0+((AF).toNat)) y1))
        else none
      else
       bif (((tree.getD ((AF).toNat) default).1)==2) then
        yb (LF n Aj AN q tree ln pos0 pos AF depth (tree.getD ((AF).toNat) default)) fun y1 o1=>
         if (0<=AF/\ AF<(ln:Int))/\ 0+((AF).toNat)<o1.length then
          self (.l1 (o1.set (0+((AF).toNat)) y1))
         else none
       else
        bif (((tree.getD ((AF).toNat) default).1)==3) then
         yb (QD n Aj AN q tree ln pos0 pos AF depth (tree.getD ((AF).toNat) default)) fun y1 o1=>
          if (0<=AF/\ AF<(ln:Int))/\ 0+((AF).toNat)<o1.length then
           self (.l1 (o1.set (0+((AF).toNat)) y1))
          else none
        else
         bif (((tree.getD ((AF).toNat) default).1)==4) then
          yb (MF n Aj AN q tree ln pos0 pos AF depth (tree.getD ((AF).toNat) default)) fun y1 o1=>
           if (0<=AF/\ AF<(ln:Int))/\ 0+((AF).toNat)<o1.length then
            self (.l1 (o1.set (0+((AF).toNat)) y1))
           else none
         else
          none
    else
     some ([],none,AN)
   else
    some ([],none,AN)
  else none
 else
  some ([],none,AN)
def Fq (Aj:D4) (pos:List Int) (AF depth:Int) (AN:List Int) (q:AA) (tree:List (Int×Int)) (ln:Nat) (pos0:List Int):Nat -> PF -> Option (YR An Int (List Int))
 | 0,_=>none
 | n+1,.l1 o0=>SE n Aj (Fq Aj pos AF depth AN q tree ln pos0 n) pos AF depth AN q tree ln pos0 o0
def Zr (C:Ba Tryz.prog) (ρ0:List AI) (n:Nat) (pos:List Int) (AF depth:Int) (AN:List Int) (q:AA) (tree:List (Int×Int)) (ln:Nat) (pos0:List Int) (r:YR An Int (List Int)):PF -> Prop
 | .l1 o0=>∀ i:Nat,DR C Jc i r -> TY C DY Tryz.f58 6 ρ0 SG (fun o=>Cz o q tree ln pos0 C.l) (Cc (AW Tryz.f58) 6 []) i r ⟨AG 58 [(4,.ref 6 0),(6,.ref 7 0)],[some (.ints o0),some (.ro (AD q)),some (.ro [.sl 2 tree.length (AQ BD tree)]),some (.ro [.msl 0 1 0 ln]),some (.ro [.ints pos0]),some (.ro (AD q++[.sl 2 tree.length (AQ BD tree),.msl 0 1 0 ln,.yl C.l])),some (.ro [.ref 5 0]),some (.ro [.i AF])]⟩
theorem vI (C:Ba Tryz.prog) (hn:C.nv) (ρ0:List AI) (n:Nat) (Aj:D4) (CD:IU Aj) (self:PF -> Option (YR An Int (List Int))) (pos:List Int) (AF depth:Int) (AN:List Int) (q:AA) (tree:List (Int×Int)) (ln:Nat) (pos0:List Int) (AJ: ∀ pt r,self pt=some r -> Zr C ρ0 n pos AF depth AN q tree ln pos0 r pt) (o0:List Int) (r:YR An Int (List Int)) (h:SE n Aj self pos AF depth AN q tree ln pos0 o0=some r):Zr C ρ0 (n+1) pos AF depth AN q tree ln pos0 r (.l1 o0):=by
 intro i hd;unfold SE at h;obtain ⟨⟨g0,g1⟩,h⟩:=Bs h;have p:=H0.g rV |>.g g0 |>.g g1
 cases h;exact yF (ee (AV 5 (AV 4 (AV 1 LM))) [8] [0,1,2,3,4,5] p)
theorem jM (C:Ba Tryz.prog) (hn:C.nv) (ρ0:List AI) (Aj:D4) (CD:IU Aj) (pos:List Int) (AF depth:Int) (AN:List Int) (q:AA) (tree:List (Int×Int)) (ln:Nat) (pos0:List Int): ∀ (n:Nat) (pt:PF) (r:YR An Int (List Int)),Fq Aj pos AF depth AN q tree ln pos0 n pt=some r -> Zr C ρ0 n pos AF depth AN q tree ln pos0 r pt
 | 0,_,_,h=>by cases h
 | n+1,.l1 o0,r,h=>vI C hn ρ0 n Aj CD (Fq Aj pos AF depth AN q tree ln pos0 n) pos AF depth AN q tree ln pos0 (jM C hn ρ0 Aj CD pos AF depth AN q tree ln pos0 n) o0 r h
def B2:Nat -> (List Int) -> Int -> Int -> (List Int) -> AA -> (List (Int×Int)) -> Nat -> (List Int) -> Option (YR An Int (List Int))
 | 0,_,_,_,_,_,_,_,_=>none
 | n+1,pos,AF,depth,AN,q,tree,ln,pos0=>FG n (B2 n) (Fq (B2 n) pos AF depth AN q tree ln pos0 n) pos AF depth AN q tree ln pos0
theorem vH {n:Nat} {Aj:D4} (CD:IU Aj):IU (fun pos AF depth AN q tree ln pos0=>FG n Aj (Fq Aj pos AF depth AN q tree ln pos0 n) pos AF depth AN q tree ln pos0):=fun pos AF depth AN q tree ln pos0 r h=>YC.ofY (L:=6) (h':=fun l o=>Cz o q tree ln pos0 l) Tryz.func58 (fun C i ρ0 hn hd=>by
 replace h:FG n Aj (Fq Aj pos AF depth AN q tree ln pos0 n) pos AF depth AN q tree ln pos0=some r:=h;have AJ:=(jM C hn ρ0 Aj CD pos AF depth AN q tree ln pos0 n);unfold FG at h
 generalize Fq Aj pos AF depth AN q tree ln pos0 n=self at h AJ
 have p:=H0;refine gs (AV 6 (AV 5 (AV 4 (AV 1 LM)))) [0,1,2,3,4,5,6,7,8,9] p (Cc (AW Tryz.f58) 1 []) (AG 58 [(4,.ref 6 0),(5,.ref 7 0),(6,.ref 8 0),(7,.ref 9 0)]) (Cz AN q tree ln pos0 C.l++[some (.cells [.ref 5 0]),some (.cells [.ints pos]),some (.cells [.i AF]),some (.cells [.i depth])]) ?_;rcases Br h with ⟨c0,h⟩ | ⟨c0,h⟩
 ·refine yD (ops:=Ah Tryz.f58 1) [] [0,1,2,3,4,5,6] [7] ((H0.b 17 c0)) (AG 58 [(4,.ref 6 0),(5,.ref 7 0),(6,.ref 8 0),(7,.ref 9 0),(17,.bool true)]) (Cz AN q tree ln pos0 C.l++[some (.cells [.ref 5 0]),some (.cells [.ints pos]),some (.cells [.i AF]),some (.cells [.i depth])]) ?_;refine yT hn [] [] 7 H0 (AG 58 [(4,.ref 6 0),(5,.ref 7 0),(6,.ref 8 0),(7,.ref 9 0)]) (Cz AN q tree ln pos0 C.l++[some (.cells [.ref 5 0]),some (.cells [.ints pos]),some (.cells [.i AF]),some (.cells [.i depth])]) (some 18) ?_ hd;refine y0 ?_;obtain ⟨g0,h⟩:=Bs h;have p:=H0.g rW |>.g g0 |>.t |>.t
  refine gs (AV 6 (AV 5 (AV 4 (AV 1 LM)))) [0,1,2,3,4,5,6,7,8,9,10,11] p (Cc (AW Tryz.f58) 4 []) (AG 58 [(4,.ref 6 0),(6,.ref 8 0),(9,.ref 10 0),(10,.ref 11 0)]) (Cz AN q tree ln pos0 C.l++[some (.cells [.ref 5 0]),some (.cells [.ints pos]),some (.cells [.i AF]),some (.cells [.i depth]),some (.cells [.i ((tree.getD ((AF).toNat) default).1),.i ((tree.getD ((AF).toNat) default).2)]),some (.cells [.cst .nilFunc,.fn 81 5 (L1 [.ref 6 0,.ref 10 0,.ref 7 0,.ref 8 0,.ref 9 0]),.fn 83 5 (L1 [.ref 10 0,.ref 7 0,.ref 8 0,.ref 6 0,.ref 9 0]),.fn 87 5 (L1 [.ref 10 0,.ref 7 0,.ref 6 0,.ref 9 0,.ref 8 0]),.fn 88 5 (L1 [.ref 7 0,.ref 10 0,.ref 6 0,.ref 9 0,.ref 8 0])])]) ?_;rcases Br h with ⟨c0,h⟩ | ⟨c0,h⟩
  ·rcases Br h with ⟨c1,h⟩ | ⟨c1,h⟩
   ·refine yO (ops:=Ah Tryz.f58 4) (by kernel_rfl) ?_;refine yT hn [0,1,2,3,4,5,6,7] [] 8 ((H0.b 33 c0 |>.b 37 c1)) (AG 58 [(4,.ref 6 0),(6,.ref 8 0),(9,.ref 10 0),(10,.ref 11 0)]) (Cz AN q tree ln pos0 C.l++[some (.cells [.ref 5 0]),some (.cells [.ints pos]),some (.cells [.i AF]),some (.cells [.i depth]),some (.cells [.i ((tree.getD ((AF).toNat) default).1),.i ((tree.getD ((AF).toNat) default).2)]),some (.cells [.cst .nilFunc,.fn 81 5 (L1 [.ref 6 0,.ref 10 0,.ref 7 0,.ref 8 0,.ref 9 0]),.fn 83 5 (L1 [.ref 10 0,.ref 7 0,.ref 8 0,.ref 6 0,.ref 9 0]),.fn 87 5 (L1 [.ref 10 0,.ref 7 0,.ref 6 0,.ref 9 0,.ref 8 0]),.fn 88 5 (L1 [.ref 7 0,.ref 10 0,.ref 6 0,.ref 9 0,.ref 8 0])])]) (some 39) ?_ hd;refine y0 ?_;have p:=H0;refine gs (AV 6 (AV 5 (AV 4 (AV 1 LM)))) [0,1,2,3,4,5,6,7,8,9,10,11] p (Cc (AW Tryz.f58) 5 []) (AG 58 [(4,.ref 6 0),(6,.ref 8 0),(9,.ref 10 0),(10,.ref 11 0)]) (Cz AN q tree ln pos0 C.l++[some (.cells [.ref 5 0]),some (.cells [.ints pos]),some (.cells [.i AF]),some (.cells [.i depth]),some (.cells [.i ((tree.getD ((AF).toNat) default).1),.i ((tree.getD ((AF).toNat) default).2)]),some (.cells [.cst .nilFunc,.fn 81 5 (L1 [.ref 6 0,.ref 10 0,.ref 7 0,.ref 8 0,.ref 9 0]),.fn 83 5 (L1 [.ref 10 0,.ref 7 0,.ref 8 0,.ref 6 0,.ref 9 0]),.fn 87 5 (L1 [.ref 10 0,.ref 7 0,.ref 6 0,.ref 9 0,.ref 8 0]),.fn 88 5 (L1 [.ref 7 0,.ref 10 0,.ref 6 0,.ref 9 0,.ref 8 0])])]) ?_;refine dc [6,7,8,9,10,11] (Cz AN q tree ln pos0 C.l++[some (.ro [.ref 5 0]),some (.ro [.ints pos]),some (.ro [.i AF]),some (.ro [.i depth]),some (.ro [.i ((tree.getD ((AF).toNat) default).1),.i ((tree.getD ((AF).toNat) default).2)]),some (.ro [.cst .nilFunc,.fn 81 5 (L1 [.ref 6 0,.ref 10 0,.ref 7 0,.ref 8 0,.ref 9 0]),.fn 83 5 (L1 [.ref 10 0,.ref 7 0,.ref 8 0,.ref 6 0,.ref 9 0]),.fn 87 5 (L1 [.ref 10 0,.ref 7 0,.ref 6 0,.ref 9 0,.ref 8 0]),.fn 88 5 (L1 [.ref 7 0,.ref 10 0,.ref 6 0,.ref 9 0,.ref 8 0])])]) ?_;rcases Br h with ⟨c0,h⟩ | ⟨c0,h⟩
    ·cases h
    ·rcases Br h with ⟨c2,h⟩ | ⟨c2,h⟩
     ·refine yR (ops:=Ah Tryz.f58 5) (ds:=iW) (hc:=Hm AN q tree ln pos0 pos AF depth (tree.getD ((AF).toNat) default)) (h':=fun l o=>Hm o q tree ln pos0 pos AF depth (tree.getD ((AF).toNat) default) l) (tD':=iX) hn [0,1,2,3,4,5,6,7,8] [10,11] [0] 9 ((H0.o 46 (AR.int (k:=.i64) (eq_of_beq c2)) |>.g (by decide:(0:Int)<=1/\ 1<((5:Nat):Int)))) (AG 58 [(4,.ref 6 0),(6,.ref 8 0),(43,.msl 0 1 0 ln),(44,.i AF)]) (Cz AN q tree ln pos0 C.l++[some (.ro [.ref 5 0]),some (.ro [.ints pos]),some (.ro [.i AF]),some (.ro [.i depth]),some (.ro [.i ((tree.getD ((AF).toNat) default).1),.i ((tree.getD ((AF).toNat) default).2)]),some (.ro [.cst .nilFunc,.fn 81 5 (L1 [.ref 6 0,.ref 10 0,.ref 7 0,.ref 8 0,.ref 9 0]),.fn 83 5 (L1 [.ref 10 0,.ref 7 0,.ref 8 0,.ref 6 0,.ref 9 0]),.fn 87 5 (L1 [.ref 10 0,.ref 7 0,.ref 6 0,.ref 9 0,.ref 8 0]),.fn 88 5 (L1 [.ref 7 0,.ref 10 0,.ref 6 0,.ref 9 0,.ref 8 0])])]) (some 49) h hd (fun a ha=>uG CD _ _ _ _ _ _ _ _ _ a ha) (fun y1 o1 r i h hd=>?_);obtain ⟨⟨g1,g2⟩,h⟩:=Bs h;refine yE ((H0.g g1 |>.g g2)) (AG 58 [(4,.ref 6 0),(6,.ref 8 0)]) (Cz (o1.set (0+((AF).toNat)) y1) q tree ln pos0 C.l++[some (.ro [.ref 5 0]),some (.ro [.ints pos]),some (.ro [.i AF]),some (.ro [.i depth]),some (.ro [.i ((tree.getD ((AF).toNat) default).1),.i ((tree.getD ((AF).toNat) default).2)]),some (.ro [.cst .nilFunc,.fn 81 5 (L1 [.ref 6 0,.ref 10 0,.ref 7 0,.ref 8 0,.ref 9 0]),.fn 83 5 (L1 [.ref 10 0,.ref 7 0,.ref 8 0,.ref 6 0,.ref 9 0]),.fn 87 5 (L1 [.ref 10 0,.ref 7 0,.ref 6 0,.ref 9 0,.ref 8 0]),.fn 88 5 (L1 [.ref 7 0,.ref 10 0,.ref 6 0,.ref 9 0,.ref 8 0])])]) ?_;have p:=H0;exact gg (AV 6 (AV 5 (AV 4 (AV 1 LM)))) [0,1,2,3,4,5,6,8] p (AJ _ _ h i hd)
     ·rcases Br h with ⟨c4,h⟩ | ⟨c4,h⟩
      ·refine yR (ops:=Ah Tryz.f58 5) (ds:=fg) (hc:=Ds AN q tree ln pos0 pos AF depth (tree.getD ((AF).toNat) default)) (h':=fun l o=>Ds o q tree ln pos0 pos AF depth (tree.getD ((AF).toNat) default) l) (tD':=YZ) hn [0,1,2,3,4,5,6,7,8] [10,11] [0] 9 ((H0.o 46 (AR.int (k:=.i64) (eq_of_beq c4)) |>.g (by decide:(0:Int)<=2/\ 2<((5:Nat):Int)))) (AG 58 [(4,.ref 6 0),(6,.ref 8 0),(43,.msl 0 1 0 ln),(44,.i AF)]) (Cz AN q tree ln pos0 C.l++[some (.ro [.ref 5 0]),some (.ro [.ints pos]),some (.ro [.i AF]),some (.ro [.i depth]),some (.ro [.i ((tree.getD ((AF).toNat) default).1),.i ((tree.getD ((AF).toNat) default).2)]),some (.ro [.cst .nilFunc,.fn 81 5 (L1 [.ref 6 0,.ref 10 0,.ref 7 0,.ref 8 0,.ref 9 0]),.fn 83 5 (L1 [.ref 10 0,.ref 7 0,.ref 8 0,.ref 6 0,.ref 9 0]),.fn 87 5 (L1 [.ref 10 0,.ref 7 0,.ref 6 0,.ref 9 0,.ref 8 0]),.fn 88 5 (L1 [.ref 7 0,.ref 10 0,.ref 6 0,.ref 9 0,.ref 8 0])])]) (some 49) h hd (fun a ha=>px CD _ _ _ _ _ _ _ _ _ a ha) (fun y1 o1 r i h hd=>?_);obtain ⟨⟨g1,g2⟩,h⟩:=Bs h;refine yE ((H0.g g1 |>.g g2)) (AG 58 [(4,.ref 6 0),(6,.ref 8 0)]) (Cz (o1.set (0+((AF).toNat)) y1) q tree ln pos0 C.l++[some (.ro [.ref 5 0]),some (.ro [.ints pos]),some (.ro [.i AF]),some (.ro [.i depth]),some (.ro [.i ((tree.getD ((AF).toNat) default).1),.i ((tree.getD ((AF).toNat) default).2)]),some (.ro [.cst .nilFunc,.fn 81 5 (L1 [.ref 6 0,.ref 10 0,.ref 7 0,.ref 8 0,.ref 9 0]),.fn 83 5 (L1 [.ref 10 0,.ref 7 0,.ref 8 0,.ref 6 0,.ref 9 0]),.fn 87 5 (L1 [.ref 10 0,.ref 7 0,.ref 6 0,.ref 9 0,.ref 8 0]),.fn 88 5 (L1 [.ref 7 0,.ref 10 0,.ref 6 0,.ref 9 0,.ref 8 0])])]) ?_;have p:=H0;exact gg (AV 6 (AV 5 (AV 4 (AV 1 LM)))) [0,1,2,3,4,5,6,8] p (AJ _ _ h i hd)
      ·rcases Br h with ⟨c6,h⟩ | ⟨c6,h⟩
       ·refine yR (ops:=Ah Tryz.f58 5) (ds:=nE) (hc:=Gv AN q tree ln pos0 pos AF depth (tree.getD ((AF).toNat) default)) (h':=fun l o=>Gv o q tree ln pos0 pos AF depth (tree.getD ((AF).toNat) default) l) (tD':=nF) hn [0,1,2,3,4,5,6,7,8] [10,11] [0] 9 ((H0.o 46 (AR.int (k:=.i64) (eq_of_beq c6)) |>.g (by decide:(0:Int)<=3/\ 3<((5:Nat):Int)))) (AG 58 [(4,.ref 6 0),(6,.ref 8 0),(43,.msl 0 1 0 ln),(44,.i AF)]) (Cz AN q tree ln pos0 C.l++[some (.ro [.ref 5 0]),some (.ro [.ints pos]),some (.ro [.i AF]),some (.ro [.i depth]),some (.ro [.i ((tree.getD ((AF).toNat) default).1),.i ((tree.getD ((AF).toNat) default).2)]),some (.ro [.cst .nilFunc,.fn 81 5 (L1 [.ref 6 0,.ref 10 0,.ref 7 0,.ref 8 0,.ref 9 0]),.fn 83 5 (L1 [.ref 10 0,.ref 7 0,.ref 8 0,.ref 6 0,.ref 9 0]),.fn 87 5 (L1 [.ref 10 0,.ref 7 0,.ref 6 0,.ref 9 0,.ref 8 0]),.fn 88 5 (L1 [.ref 7 0,.ref 10 0,.ref 6 0,.ref 9 0,.ref 8 0])])]) (some 49) h hd (fun a ha=>zCH CD _ _ _ _ _ _ _ _ _ a ha) (fun y1 o1 r i h hd=>?_);obtain ⟨⟨g1,g2⟩,h⟩:=Bs h;refine yE ((H0.g g1 |>.g g2)) (AG 58 [(4,.ref 6 0),(6,.ref 8 0)]) (Cz (o1.set (0+((AF).toNat)) y1) q tree ln pos0 C.l++[some (.ro [.ref 5 0]),some (.ro [.ints pos]),some (.ro [.i AF]),some (.ro [.i depth]),some (.ro [.i ((tree.getD ((AF).toNat) default).1),.i ((tree.getD ((AF).toNat) default).2)]),some (.ro [.cst .nilFunc,.fn 81 5 (L1 [.ref 6 0,.ref 10 0,.ref 7 0,.ref 8 0,.ref 9 0]),.fn 83 5 (L1 [.ref 10 0,.ref 7 0,.ref 8 0,.ref 6 0,.ref 9 0]),.fn 87 5 (L1 [.ref 10 0,.ref 7 0,.ref 6 0,.ref 9 0,.ref 8 0]),.fn 88 5 (L1 [.ref 7 0,.ref 10 0,.ref 6 0,.ref 9 0,.ref 8 0])])]) ?_;have p:=H0;exact gg (AV 6 (AV 5 (AV 4 (AV 1 LM)))) [0,1,2,3,4,5,6,8] p (AJ _ _ h i hd)
       ·rcases Br h with ⟨c8,h⟩ | ⟨c8,h⟩
        ·refine yR (ops:=Ah Tryz.f58 5) (ds:=m9) (hc:=FN AN q tree ln pos0 pos AF depth (tree.getD ((AF).toNat) default)) (h':=fun l o=>FN o q tree ln pos0 pos AF depth (tree.getD ((AF).toNat) default) l) (tD':=nA) hn [0,1,2,3,4,5,6,7,8] [10,11] [0] 9 ((H0.o 46 (AR.int (k:=.i64) (eq_of_beq c8)) |>.g (by decide:(0:Int)<=4/\ 4<((5:Nat):Int)))) (AG 58 [(4,.ref 6 0),(6,.ref 8 0),(43,.msl 0 1 0 ln),(44,.i AF)]) (Cz AN q tree ln pos0 C.l++[some (.ro [.ref 5 0]),some (.ro [.ints pos]),some (.ro [.i AF]),some (.ro [.i depth]),some (.ro [.i ((tree.getD ((AF).toNat) default).1),.i ((tree.getD ((AF).toNat) default).2)]),some (.ro [.cst .nilFunc,.fn 81 5 (L1 [.ref 6 0,.ref 10 0,.ref 7 0,.ref 8 0,.ref 9 0]),.fn 83 5 (L1 [.ref 10 0,.ref 7 0,.ref 8 0,.ref 6 0,.ref 9 0]),.fn 87 5 (L1 [.ref 10 0,.ref 7 0,.ref 6 0,.ref 9 0,.ref 8 0]),.fn 88 5 (L1 [.ref 7 0,.ref 10 0,.ref 6 0,.ref 9 0,.ref 8 0])])]) (some 49) h hd (fun a ha=>zBz CD _ _ _ _ _ _ _ _ _ a ha) (fun y1 o1 r i h hd=>?_);obtain ⟨⟨g1,g2⟩,h⟩:=Bs h;refine yE ((H0.g g1 |>.g g2)) (AG 58 [(4,.ref 6 0),(6,.ref 8 0)]) (Cz (o1.set (0+((AF).toNat)) y1) q tree ln pos0 C.l++[some (.ro [.ref 5 0]),some (.ro [.ints pos]),some (.ro [.i AF]),some (.ro [.i depth]),some (.ro [.i ((tree.getD ((AF).toNat) default).1),.i ((tree.getD ((AF).toNat) default).2)]),some (.ro [.cst .nilFunc,.fn 81 5 (L1 [.ref 6 0,.ref 10 0,.ref 7 0,.ref 8 0,.ref 9 0]),.fn 83 5 (L1 [.ref 10 0,.ref 7 0,.ref 8 0,.ref 6 0,.ref 9 0]),.fn 87 5 (L1 [.ref 10 0,.ref 7 0,.ref 6 0,.ref 9 0,.ref 8 0]),.fn 88 5 (L1 [.ref 7 0,.ref 10 0,.ref 6 0,.ref 9 0,.ref 8 0])])]) ?_;have p:=H0;exact gg (AV 6 (AV 5 (AV 4 (AV 1 LM)))) [0,1,2,3,4,5,6,8] p (AJ _ _ h i hd)
        ·cases h
   ·cases h;refine yO (ops:=Ah Tryz.f58 4) (by kernel_rfl) ?_;exact yP hn [0,1,2,3,4,5,6,7] [] 8 ((H0.b 33 c0 |>.b 37 c1)) (AG 58 [(4,.ref 6 0),(6,.ref 8 0),(9,.ref 10 0),(10,.ref 11 0)]) (Cz AN q tree ln pos0 C.l++[some (.cells [.ref 5 0]),some (.cells [.ints pos]),some (.cells [.i AF]),some (.cells [.i depth]),some (.cells [.i ((tree.getD ((AF).toNat) default).1),.i ((tree.getD ((AF).toNat) default).2)]),some (.cells [.cst .nilFunc,.fn 81 5 (L1 [.ref 6 0,.ref 10 0,.ref 7 0,.ref 8 0,.ref 9 0]),.fn 83 5 (L1 [.ref 10 0,.ref 7 0,.ref 8 0,.ref 6 0,.ref 9 0]),.fn 87 5 (L1 [.ref 10 0,.ref 7 0,.ref 6 0,.ref 9 0,.ref 8 0]),.fn 88 5 (L1 [.ref 7 0,.ref 10 0,.ref 6 0,.ref 9 0,.ref 8 0])])]) (some 39)
  ·cases h;refine yO (ops:=Ah Tryz.f58 4) (by kernel_rfl) ?_;exact yP hn [0,1,2,3,4,5,6,7] [] 8 ((H0.b 33 c0)) (AG 58 [(4,.ref 6 0),(6,.ref 8 0),(9,.ref 10 0),(10,.ref 11 0)]) (Cz AN q tree ln pos0 C.l++[some (.cells [.ref 5 0]),some (.cells [.ints pos]),some (.cells [.i AF]),some (.cells [.i depth]),some (.cells [.i ((tree.getD ((AF).toNat) default).1),.i ((tree.getD ((AF).toNat) default).2)]),some (.cells [.cst .nilFunc,.fn 81 5 (L1 [.ref 6 0,.ref 10 0,.ref 7 0,.ref 8 0,.ref 9 0]),.fn 83 5 (L1 [.ref 10 0,.ref 7 0,.ref 8 0,.ref 6 0,.ref 9 0]),.fn 87 5 (L1 [.ref 10 0,.ref 7 0,.ref 6 0,.ref 9 0,.ref 8 0]),.fn 88 5 (L1 [.ref 7 0,.ref 10 0,.ref 6 0,.ref 9 0,.ref 8 0])])]) (some 39)
 ·refine yD (ops:=Ah Tryz.f58 1) [] [0,1,2,3,4,5,6] [7] ((H0.b 17 c0)) (AG 58 [(4,.ref 6 0),(5,.ref 7 0),(6,.ref 8 0),(7,.ref 9 0),(17,.bool false)]) (Cz AN q tree ln pos0 C.l++[some (.cells [.ref 5 0]),some (.cells [.ints pos]),some (.cells [.i AF]),some (.cells [.i depth])]) ?_;cases h;exact yP hn [] [] 7 H0 (AG 58 [(4,.ref 6 0),(5,.ref 7 0),(6,.ref 8 0),(7,.ref 9 0)]) (Cz AN q tree ln pos0 C.l++[some (.cells [.ref 5 0]),some (.cells [.ints pos]),some (.cells [.i AF]),some (.cells [.i depth])]) (some 18))
theorem jL: ∀ n,IU (B2 n)
 | 0=>fun _ _ _ _ _ _ _ _ r h=>by cases h
 | n+1=>vH (jL n)
def v8:Nat -> List DV:=fun l=>[.yl l,.ref 1 0,.ref 2 0,.ref 3 0,.ref 4 0]
def Bm (AN:List Int) (q:AA) (tree:List (Int×Int)) (ln:Nat) (pos0:List Int):Nat -> DH:=fun l=>[some (.ints AN),some (.ro (AD q)),some (.ro [.sl 2 tree.length (AQ BD tree)]),some (.ro [.msl 0 1 0 ln]),some (.ro [.ints pos0])]
def jp (_:Unit):DV:=Mf
abbrev wB:=(List Int) -> AA -> (List (Int×Int)) -> Nat -> (List Int) -> Option (YR An Unit (List Int))
def wA (f:wB):Prop:=∀ (AN:List Int) (q:AA) (tree:List (Int×Int)) (ln:Nat) (pos0:List Int) (r:YR An Unit (List Int)),f AN q tree ln pos0=some r -> YC Tryz.prog GG DY 56 (v8) (Bm AN q tree ln pos0) (r.1.map Jc) (r.2.1.map jp) (Bm r.2.2 q tree ln pos0)
def PL (n:Nat) (AN:List Int) (q:AA) (tree:List (Int×Int)) (ln:Nat) (pos0:List Int):Option (YR An Unit (List Int)):=
 yb (B2 n pos0 0 0 AN q tree ln pos0) fun y1 o1=>
  bif (y1==(tree.length:Int)) then
   some ([],some (),o1)
  else
   some ([],none,o1)
def Li (n:Nat) (AN:List Int) (q:AA) (tree:List (Int×Int)) (ln:Nat) (pos0:List Int):Option (YR An Unit (List Int)):=PL n AN q tree ln pos0
theorem v7 {n:Nat}:wA (Li n):=fun AN q tree ln pos0 r h=>YC.ofY (L:=5) (h':=fun l o=>Bm o q tree ln pos0 l) Tryz.func56 (fun C i ρ0 hn hd=>by
 replace h:PL n AN q tree ln pos0=some r:=h;unfold PL at h;have p:=H0;refine gs (AV 1 AB) [0,1,2,3,4,5] p (Cc (AW Tryz.f56) 1 []) (AG 20 [(2,.ref 2 0),(4,.ref 4 0),(6,.ref 5 0)]) (Bm AN q tree ln pos0 C.l++[some (.cells (AD q++[.sl 2 tree.length (AQ BD tree),.msl 0 1 0 ln,.yl C.l]))]) ?_;refine dc [5] (Bm AN q tree ln pos0 C.l++[some (.ro (AD q++[.sl 2 tree.length (AQ BD tree),.msl 0 1 0 ln,.yl C.l]))]) ?_;refine yR (ops:=Ah Tryz.f56 1) (ds:=Vr pos0 0 0) (hc:=Cz AN q tree ln pos0) (h':=fun l o=>Cz o q tree ln pos0 l) (tD':=SG) hn [0,1,3,4] [5,6] [0] 2 H0 (AG 20 [(17,.i (tree.length:Int))]) (Bm AN q tree ln pos0 C.l++[some (.ro (AD q++[.sl 2 tree.length (AQ BD tree),.msl 0 1 0 ln,.yl C.l]))]) (some 15) h hd (fun a ha=>jL n _ _ _ _ _ _ _ _ a ha) (fun y1 o1 r i h hd=>?_);rcases Br h with ⟨c0,h⟩ | ⟨c0,h⟩
 ·refine yT hn [5] [] 6 ((H0.b 18 c0)) (AG 20 []) (Bm o1 q tree ln pos0 C.l++[some (.ro (AD q++[.sl 2 tree.length (AQ BD tree),.msl 0 1 0 ln,.yl C.l]))]) (some 19) ?_ hd;refine y0 ?_;have p:=H0;cases h;exact yF (ee (AV 1 AB) [] [0,1,2,3,4] p)
 ·cases h;exact yP hn [5] [] 6 ((H0.b 18 c0)) (AG 20 []) (Bm o1 q tree ln pos0 C.l++[some (.ro (AD q++[.sl 2 tree.length (AQ BD tree),.msl 0 1 0 ln,.yl C.l]))]) (some 19))
end Go.Proofs.YtkjbblkieglmlaaGreatDoor
namespace Go.Proofs.YtkjbblkieglmlaaGreatDoor
open Go.RowKit
set_option maxRecDepth 100000
set_option maxHeartbeats 40000000
def wG (n:Nat) (q:AA) (pos:List Int) (tree:List (Int×Int)) (ln:Nat) (AN:List Int):Option Unit:=
 some ()
def jr (n:Nat) (q:AA) (pos:List Int) (tree:List (Int×Int)) (ln:Nat) (AN:List Int):Option Unit:=wG n q pos tree ln AN
theorem wF {n:Nat} (q:AA) (pos:List Int) (tree:List (Int×Int)) (ln:Nat) (AN:List Int) {r:Unit} (h:jr n q pos tree ln AN=some r):EQ 37 [.agg 5 (L1 (AD q)),.ints pos,.sl 2 tree.length (AQ BD tree),.msl 0 1 0 ln] [some (.ints AN)] (.fn 56 4 (L1 [.ref 1 0,.ref 2 0,.ref 3 0,.ref 4 0])) [some (.ints AN),some (.cells (AD q)),some (.cells [.sl 2 tree.length (AQ BD tree)]),some (.cells [.msl 0 1 0 ln]),some (.cells [.ints pos])] false:=by
 refine ot Tryz.func37 fun B N=>?_
 revert r;apply gO;exact lE AB [8] [0,1,3,4,2]
def fM:ST:=.rd 0 (.ef 1 (.ef 2 (.ef 3 (.fin [] [6,7,8]) (.no)) (.no)) (.no))
theorem rp:Bp (Ah Tryz.f26 3) [1,2] fM:=by unfold Bp;kernel_rfl
def qZ:Bi:=fun i=>match i with
 | 3=>.tre [1,2] fM
 | _=>.no
def eU (q:AA) (y1:Int):St:=⟨(AG 33 [(6,.ref 1 0),(7,.ref 2 0),(8,.ref 3 0)]),([some (.cells (AD q)),some (.cells [.nils]),some (.cells [.nils]),some (.cells [.i y1])]:DH)⟩
def cE (n:Nat) (q:AA) (pos:List Int) (tree:List (Int×Int)):Option ((List ((List Int)×(List Int)×Int))×(List Int)×Int):=
 (Iv n q pos tree).bind fun y1=>
  bif (y1 != 0) then
   some (([]:List ((List Int)×(List Int)×Int)),([]:List Int),y1)
  else
   none
def cF (n:Nat) (q:AA) (pos:List Int) (tree:List (Int×Int)):Option ((List ((List Int)×(List Int)×Int))×(List Int)×Int):=cE n q pos tree
theorem zBM {n:Nat} {q:AA} {pos:List Int} {tree:List (Int×Int)} {r:(List ((List Int)×(List Int)×Int))×(List Int)×Int} (h:cF n q pos tree=some r):EQ 26 [.agg 5 (L1 (AD q)),.ints pos,.sl 2 tree.length (AQ BD tree)] [] (.tup 3 (L1 [.sl 3 r.1.length (AQ (fun (x:(List Int)×(List Int)×Int)=>[.ints x.1,.ints x.2.1,.i x.2.2]) r.1),.ints r.2.1,.i r.2.2])) [] true:=by
 unfold cF cE at h;refine ot Tryz.func26 fun B N=>?_
 revert r;apply gO;exact cf d4 [some (.cells (AD q)),some (.cells [.nils]),some (.cells [.nils]),some (.cells [.i 0])] fun y1=>jt (bi 15 (jg rp (jt (jt (jt (jg (Eq.refl (eU q y1)) (lF fun p=>el (tg:=[([(1,1),(2,2)],(eU q y1))]) qZ [6,7,8] [1,2,3] p [] H0 [.nils,.nils,.i y1] (AR.tupL (l:=[.nils,.nils,.i y1]) (l':=[.sl 3 (([]:List ((List Int)×(List Int)×Int)).length) (AQ (fun (x:(List Int)×(List Int)×Int)=>[.ints x.1,.ints x.2.1,.i x.2.2]) ([]:List ((List Int)×(List Int)×Int))),.ints ([]:List Int),.i y1]) rfl ⟨(AR.sl_nil _ _),AR.ints_nil,A5,trivial⟩))))))) nO)
def zl (ln:Nat) (BG:An):DH:=[none,none,none,none,none,some (.cells [.nils]),some (.cells [.msl 0 1 0 ln]),some (.cells [.i 0]),some (.cells [.ints BG.1,.ints BG.2.1,.i BG.2.2])]
def zk (I6 ln:Nat) (Fn:List ((List Int)×(List Int)×Int)) (BG:An):DH:=[none,none,none,none,none,some (.cells [.msl 8 3 0 I6]),some (.cells [.msl 0 1 0 ln]),some (.cells [.i 0]),some (.arr 3 Fn.length (AQ (fun (x:(List Int)×(List Int)×Int)=>[.ints x.1,.ints x.2.1,.i x.2.2]) Fn)),some (.cells [.ints BG.1,.ints BG.2.1,.i BG.2.2])]
inductive Jb where
 | s0
 | s1 (I6:Nat) (Fn:List ((List Int)×(List Int)×Int))
def Pz (ln:Nat):Jb -> DH
 | .s0=>[none,none,none,none,none,some (.cells [.nils]),some (.cells [.msl 0 1 0 ln]),some (.cells [.i 0])]
 | .s1 I6 Fn=>[none,none,none,none,none,some (.cells [.msl 8 3 0 I6]),some (.cells [.msl 0 1 0 ln]),some (.cells [.i 0]),some (.arr 3 Fn.length (AQ (fun (x:(List Int)×(List Int)×Int)=>[.ints x.1,.ints x.2.1,.i x.2.2]) Fn))]
def zBP (n:Nat) (ln:Nat) (BG:An):Option Jb:=
 some (.s1 (([(BG.1,BG.2.1,BG.2.2)]:List ((List Int)×(List Int)×Int)).length) ([(BG.1,BG.2.1,BG.2.2)]:List ((List Int)×(List Int)×Int)))
def cG (n:Nat) (ln:Nat) (BG:An) (I6:Nat) (Fn:List ((List Int)×(List Int)×Int)):Option Jb:=
 if I6=Fn.length/\ Fn.length+([(BG.1,BG.2.1,BG.2.2)]:List ((List Int)×(List Int)×Int)).length<=BA then
  some (.s1 (Fn.length+([(BG.1,BG.2.1,BG.2.2)]:List ((List Int)×(List Int)×Int)).length) (Fn++([(BG.1,BG.2.1,BG.2.2)]:List ((List Int)×(List Int)×Int))))
 else none
def zBO (n:Nat) (ln:Nat) (BG:An):Jb -> Option Jb
 | .s0=>zBP n ln BG
 | .s1 I6 Fn=>cG n ln BG I6 Fn
def P0 (n:Nat) (ln:Nat) (BG:An) (s:Jb):Option Jb:=zBO n ln BG s
theorem zBN (n:Nat) (ln:Nat) (l B:Nat) (N:Yd 8) (BG:An) (s:Jb) (r:Jb) (h:P0 n ln BG s=some r):TA l B N (Cd 8 [] 0 (Pz ln r)) Tryz.f26 25 ⟨AG 33 [(6,.ref 5 0),(7,.ref 6 0),(8,.ref 7 0),(25,.fn 56 4 (L1 [.ref 1 0,.ref 2 0,.ref 3 0,.ref 4 0])),(26,.agg 3 (L1 [.ints BG.1,.ints BG.2.1,.i BG.2.2]))],Pz ln s⟩:=by
 cases s with
 | s0=>
  refine ag AB [0,1,2,3,4,5,6,7,8] (H0.t) (AG 33 [(6,.ref 5 0),(7,.ref 6 0),(8,.ref 7 0),(9,.ref 8 0)]) (zl ln BG) fun N=>?_
  revert r;apply gO;exact ja 29 9 3 (Fj (c:=(fun (x:(List Int)×(List Int)×Int)=>[.ints x.1,.ints x.2.1,.i x.2.2])) (L:=([(BG.1,BG.2.1,BG.2.2)]:List ((List Int)×(List Int)×Int))) (vals:=[.agg 3 (L1 [.ints BG.1,.ints BG.2.1,.i BG.2.2])]) rfl ⟨⟨_,rfl,⟨A5,A5,A5,trivial⟩⟩,trivial⟩) (jg (And.intro (And.intro (And.intro (Eq.refl 0) (Eq.refl 1)) (Vj (fun (x:(List Int)×(List Int)×Int)=>[.ints x.1,.ints x.2.1,.i x.2.2]) ([(BG.1,BG.2.1,BG.2.2)]:List ((List Int)×(List Int)×Int)) (([(BG.1,BG.2.1,BG.2.2)]:List ((List Int)×(List Int)×Int)).length) 3 fun _=>⟨rfl,rfl⟩)) (And.intro (by decide:0<1) (by decide:1<=BA))) (jt (lF fun p=>rr AB [0,1,2,3,4,5,6,7,10] rfl p)))
 | s1 I6 Fn=>
  refine ag AB [0,1,2,3,4,5,6,7,8,9] (H0.t) (AG 33 [(6,.ref 5 0),(7,.ref 6 0),(8,.ref 7 0),(9,.ref 9 0)]) (zk I6 ln Fn BG) fun N=>?_
  revert r;apply gO;exact ja 29 10 3 (Fj (c:=(fun (x:(List Int)×(List Int)×Int)=>[.ints x.1,.ints x.2.1,.i x.2.2])) (L:=([(BG.1,BG.2.1,BG.2.2)]:List ((List Int)×(List Int)×Int))) (vals:=[.agg 3 (L1 [.ints BG.1,.ints BG.2.1,.i BG.2.2])]) rfl ⟨⟨_,rfl,⟨A5,A5,A5,trivial⟩⟩,trivial⟩) (gc (gn fun zDT=>gn fun zDS=>jg (And.intro (And.intro (And.intro (Eq.refl 0) (Eq.refl 1)) (Vj (fun (x:(List Int)×(List Int)×Int)=>[.ints x.1,.ints x.2.1,.i x.2.2]) ([(BG.1,BG.2.1,BG.2.2)]:List ((List Int)×(List Int)×Int)) (([(BG.1,BG.2.1,BG.2.2)]:List ((List Int)×(List Int)×Int)).length) 3 fun _=>⟨rfl,rfl⟩)) (And.intro (And.intro (Eq.refl 0) zDT) zDS)) (ja 30 11 3 (gv (enc:=(m4 (fun (x:(List Int)×(List Int)×Int)=>[.ints x.1,.ints x.2.1,.i x.2.2]))) (L:=Fn) (L':=([(BG.1,BG.2.1,BG.2.2)]:List ((List Int)×(List Int)×Int))) rfl rfl fun _ _ _ _=>A5) (jt (lF fun p=>rr AB [0,1,2,3,4,5,6,7,11] rfl p)))))
end Go.Proofs.YtkjbblkieglmlaaGreatDoor
namespace Go.Proofs.YtkjbblkieglmlaaGreatDoor
abbrev zFu:=@Go.wpSIn_region
end Go.Proofs.YtkjbblkieglmlaaGreatDoor
namespace Go.Proofs.YtkjbblkieglmlaaGreatDoor
open Go.RowKit
set_option maxRecDepth 100000
set_option maxHeartbeats 40000000
def fQ:ST:=.rd 0 (.rd 1 (.ef 2 (.ef 3 (.ef 4 (.fin [] []) (.no)) (.no)) (.no)))
theorem sC:Bp (Ah Tryz.f36 2) [2,3] fQ:=by unfold Bp;kernel_rfl
def eY (o:List Int) (q:AA) (tree:List (Int×Int)) (pos:List Int):St:=⟨(AG 9 []),(Bm o q tree tree.length pos 0++[some (.cells [.nils]),some (.cells [.nils]),some (.cells [.i 280])])⟩
theorem zC5 {q:AA} {pos:List Int} {tree:List (Int×Int)} {o:List Int} {N:Nat -> Prop} {ρ0:List AI} {w0:World} {p1 p2 p3:Value} (HR:A0 Tryz.prog GG N (Bm o q tree tree.length pos 0++[some (.cells [.nils]),some (.cells [.msl 0 1 0 tree.length]),some (.cells [.i 0])]) ρ0 w0) (e1:AM (MS N (Bm o q tree tree.length pos 0++[some (.cells [.nils]),some (.cells [.msl 0 1 0 tree.length]),some (.cells [.i 0])]) ρ0) w0 (.ref 5 0) ρ0 p1) (e2:AM (MS N (Bm o q tree tree.length pos 0++[some (.cells [.nils]),some (.cells [.msl 0 1 0 tree.length]),some (.cells [.i 0])]) ρ0) w0 (.ref 6 0) ρ0 p2) (e3:AM (MS N (Bm o q tree tree.length pos 0++[some (.cells [.nils]),some (.cells [.msl 0 1 0 tree.length]),some (.cells [.i 0])]) ρ0) w0 (.ref 7 0) ρ0 p3):
 CallsDIn Fence.wide (0-1) Tryz.prog 36 #[p1,p2,p3] (.panicking (pan DY)) w0 fun e u' w'=>(∃ v,e= .returned v)/\ u'= .panicking [{ v:=DY,recovered:=true }]/\ ∃ ρ',A0 Tryz.prog GG N (Bm o q tree tree.length pos 0++[some (.cells [.nils]),some (.cells [.nils]),some (.cells [.i 280])]) ρ' w'/\ A6 (Bm o q tree tree.length pos 0++[some (.cells [.nils]),some (.cells [.msl 0 1 0 tree.length]),some (.cells [.i 0])]) ρ0 w0 (Bm o q tree tree.length pos 0++[some (.cells [.nils]),some (.cells [.nils]),some (.cells [.i 280])]) ρ' w'/\ B8 8 ρ0 ρ':=by
 refine callsDIn_of_wpSIn Tryz.func36 rfl trivial fun c₀ cs hu=>?_
 apply wpSIn_seq;apply zFu;simp [wpOpsSIn,go_sem,recoverD,hu,Tryz.ntmps36,Exit.thenS,Fence.wide,pan,DY];apply wpSIn_seq;apply zFu;simp [wpOpsSIn,go_sem,Exit.thenS];refine wpSIn_cond (t:=true) (by simp [Act.eval,Array.replicate]) ?_;simp only [zEL];refine wpSIn_of_wpIn rfl ?_
 have R0:AS Tryz.prog GG N ⟨AG 9 [(0,.ref 5 0),(1,.ref 6 0),(2,.ref 7 0),(3,.cst DY)],(Bm o q tree tree.length pos 0++[some (.cells [.nils]),some (.cells [.msl 0 1 0 tree.length]),some (.cells [.i 0])])⟩ ρ0 { tmps:=#[p1,p2,p3]++((((Array.replicate 6 undef).setIfInBounds 1 (Value.iface 30 (Value.int IntKind.i64 280))).setIfInBounds 0 (Value.iface 30 (Value.int IntKind.i64 280))).setIfInBounds 2 (Value.iface 30 (Value.int IntKind.i64 280))).setIfInBounds 3 (Value.bool true),defers:=[] } w0:=by
  refine ⟨HR,rfl,fun j hj=>?_⟩;have hj:j<9:=hj
  match j,hj with
  | 0,_=>exact e1
  | 1,_=>exact e2
  | 2,_=>exact e3
  | 3,_=>exact ⟨rfl,rfl⟩
  | 4,_=>trivial
  | 5,_=>trivial
  | 6,_=>trivial
  | 7,_=>trivial
  | 8,_=>trivial
  | j+9,hj=>exact absurd hj (by omega)
 refine wt (L:=8) HC.x [2,3] fQ sC [([(2,5),(3,6)],(eY o q tree pos))] [] [0,1,2,3,4,5,6,7] [] ((H0.t |>.t |>.t |>.t |>.g (Eq.refl (eY o q tree pos)))) H0 (AG 9 []) (Bm o q tree tree.length pos 0++[some (.cells [.nils]),some (.cells [.nils]),some (.cells [.i 280])]) R0 (by kernel_rfl) fun ρ1 a1 w1 R1 DG HP Hq=>?_
 simp [bodyPostS,results,Tryz.results36,HP,go_sem,DY];exact ⟨ρ1,R1.hr,DG,Hq⟩
def fP:ST:=.rd 0 (.rd 1 (.ef 2 (.ef 3 (.ef 4 (.fin [] []) (.no)) (.no)) (.no)))
theorem sB:Bp (Ah Tryz.f36 2) [2,3] fP:=by unfold Bp;kernel_rfl
def eX (o:List Int) (q:AA) (tree:List (Int×Int)) (pos:List Int) (x:An) (t:List An):St:=⟨(AG 9 []),(Bm o q tree tree.length pos 0++[some (.cells [.nils]),some (.cells [.nils]),some (.cells [.i 280]),some (.arr 3 ((x::t).length) (AQ (fun (x:(List Int)×(List Int)×Int)=>[.ints x.1,.ints x.2.1,.i x.2.2]) (x::t)))])⟩
theorem zC4 {q:AA} {pos:List Int} {tree:List (Int×Int)} {o:List Int} {x:An} {t:List An} {N:Nat -> Prop} {ρ0:List AI} {w0:World} {p1 p2 p3:Value} (HR:A0 Tryz.prog GG N (Bm o q tree tree.length pos 0++[some (.cells [.msl 8 3 0 ((x::t).length)]),some (.cells [.msl 0 1 0 tree.length]),some (.cells [.i 0]),some (.arr 3 ((x::t).length) (AQ (fun (x:(List Int)×(List Int)×Int)=>[.ints x.1,.ints x.2.1,.i x.2.2]) (x::t)))]) ρ0 w0) (e1:AM (MS N (Bm o q tree tree.length pos 0++[some (.cells [.msl 8 3 0 ((x::t).length)]),some (.cells [.msl 0 1 0 tree.length]),some (.cells [.i 0]),some (.arr 3 ((x::t).length) (AQ (fun (x:(List Int)×(List Int)×Int)=>[.ints x.1,.ints x.2.1,.i x.2.2]) (x::t)))]) ρ0) w0 (.ref 5 0) ρ0 p1) (e2:AM (MS N (Bm o q tree tree.length pos 0++[some (.cells [.msl 8 3 0 ((x::t).length)]),some (.cells [.msl 0 1 0 tree.length]),some (.cells [.i 0]),some (.arr 3 ((x::t).length) (AQ (fun (x:(List Int)×(List Int)×Int)=>[.ints x.1,.ints x.2.1,.i x.2.2]) (x::t)))]) ρ0) w0 (.ref 6 0) ρ0 p2) (e3:AM (MS N (Bm o q tree tree.length pos 0++[some (.cells [.msl 8 3 0 ((x::t).length)]),some (.cells [.msl 0 1 0 tree.length]),some (.cells [.i 0]),some (.arr 3 ((x::t).length) (AQ (fun (x:(List Int)×(List Int)×Int)=>[.ints x.1,.ints x.2.1,.i x.2.2]) (x::t)))]) ρ0) w0 (.ref 7 0) ρ0 p3):
 CallsDIn Fence.wide (0-1) Tryz.prog 36 #[p1,p2,p3] (.panicking (pan DY)) w0 fun e u' w'=>(∃ v,e= .returned v)/\ u'= .panicking [{ v:=DY,recovered:=true }]/\ ∃ ρ',A0 Tryz.prog GG N (Bm o q tree tree.length pos 0++[some (.cells [.nils]),some (.cells [.nils]),some (.cells [.i 280]),some (.arr 3 ((x::t).length) (AQ (fun (x:(List Int)×(List Int)×Int)=>[.ints x.1,.ints x.2.1,.i x.2.2]) (x::t)))]) ρ' w'/\ A6 (Bm o q tree tree.length pos 0++[some (.cells [.msl 8 3 0 ((x::t).length)]),some (.cells [.msl 0 1 0 tree.length]),some (.cells [.i 0]),some (.arr 3 ((x::t).length) (AQ (fun (x:(List Int)×(List Int)×Int)=>[.ints x.1,.ints x.2.1,.i x.2.2]) (x::t)))]) ρ0 w0 (Bm o q tree tree.length pos 0++[some (.cells [.nils]),some (.cells [.nils]),some (.cells [.i 280]),some (.arr 3 ((x::t).length) (AQ (fun (x:(List Int)×(List Int)×Int)=>[.ints x.1,.ints x.2.1,.i x.2.2]) (x::t)))]) ρ' w'/\ B8 8 ρ0 ρ':=by
 refine callsDIn_of_wpSIn Tryz.func36 rfl trivial fun c₀ cs hu=>?_
 apply wpSIn_seq;apply zFu;simp [wpOpsSIn,go_sem,recoverD,hu,Tryz.ntmps36,Exit.thenS,Fence.wide,pan,DY];apply wpSIn_seq;apply zFu;simp [wpOpsSIn,go_sem,Exit.thenS];refine wpSIn_cond (t:=true) (by simp [Act.eval,Array.replicate]) ?_;simp only [zEL];refine wpSIn_of_wpIn rfl ?_
 have R0:AS Tryz.prog GG N ⟨AG 9 [(0,.ref 5 0),(1,.ref 6 0),(2,.ref 7 0),(3,.cst DY)],(Bm o q tree tree.length pos 0++[some (.cells [.msl 8 3 0 ((x::t).length)]),some (.cells [.msl 0 1 0 tree.length]),some (.cells [.i 0]),some (.arr 3 ((x::t).length) (AQ (fun (x:(List Int)×(List Int)×Int)=>[.ints x.1,.ints x.2.1,.i x.2.2]) (x::t)))])⟩ ρ0 { tmps:=#[p1,p2,p3]++((((Array.replicate 6 undef).setIfInBounds 1 (Value.iface 30 (Value.int IntKind.i64 280))).setIfInBounds 0 (Value.iface 30 (Value.int IntKind.i64 280))).setIfInBounds 2 (Value.iface 30 (Value.int IntKind.i64 280))).setIfInBounds 3 (Value.bool true),defers:=[] } w0:=by
  refine ⟨HR,rfl,fun j hj=>?_⟩;have hj:j<9:=hj
  match j,hj with
  | 0,_=>exact e1
  | 1,_=>exact e2
  | 2,_=>exact e3
  | 3,_=>exact ⟨rfl,rfl⟩
  | 4,_=>trivial
  | 5,_=>trivial
  | 6,_=>trivial
  | 7,_=>trivial
  | 8,_=>trivial
  | j+9,hj=>exact absurd hj (by omega)
 refine wt (L:=8) HC.x [2,3] fP sB [([(2,5),(3,6)],(eX o q tree pos x t))] [] [0,1,2,3,4,5,6,7,8] [] ((H0.t |>.t |>.t |>.t |>.g (Eq.refl (eX o q tree pos x t)))) H0 (AG 9 []) (Bm o q tree tree.length pos 0++[some (.cells [.nils]),some (.cells [.nils]),some (.cells [.i 280]),some (.arr 3 ((x::t).length) (AQ (fun (x:(List Int)×(List Int)×Int)=>[.ints x.1,.ints x.2.1,.i x.2.2]) (x::t)))]) R0 (by kernel_rfl) fun ρ1 a1 w1 R1 DG HP Hq=>?_
 simp [bodyPostS,results,Tryz.results36,HP,go_sem,DY];exact ⟨ρ1,R1.hr,DG,Hq⟩
theorem nT (p1 p2 p3:Value) (w0:World):CallsDIn Fence.wide (0-1) Tryz.prog 36 #[p1,p2,p3] .returning w0 fun e u' w'=>(∃ v,e= .returned v)/\ u'= .returning/\ w'=w0:=by
 refine callsDIn_of_wpSIn Tryz.func36 rfl trivial fun c₀ cs hu=>?_
 apply wpSIn_seq;apply zFu;simp [wpOpsSIn,go_sem,recoverD,hu,Tryz.ntmps36,Exit.thenS,Fence.wide];apply wpSIn_seq;apply zFu;simp [wpOpsSIn,go_sem,Exit.thenS];refine wpSIn_cond (t:=false) (by simp [Act.eval,Array.replicate]) ?_;simp only [zDJ,zEr];refine wpSIn_of_wpIn rfl (wpIn_skip ?_);cases c₀
 simp_all [bodyPostS,results,Tryz.results36,go_sem]
def fL:ST:=.rd 0 (.rd 1 (.ef 2 (.ef 3 (.ef 4 (.fin [] [6,7,8]) (.no)) (.no)) (.no)))
theorem rn:Bp (Ah Tryz.f26 9) [2] fL:=by unfold Bp;kernel_rfl
def eS (o:List Int) (q:AA) (tree:List (Int×Int)) (pos:List Int):St:=⟨(AG 33 [(6,.ref 5 0),(7,.ref 6 0),(8,.ref 7 0)]),(Bm o q tree tree.length pos 0++[some (.cells [.nils]),some (.cells [.msl 0 1 0 tree.length]),some (.cells [.i 0])])⟩
theorem tP {q:AA} {pos:List Int} {tree:List (Int×Int)} {o:List Int} {N:Nat -> Prop} {ρs ρ0:List AI} {ws w0:World} {a0:Act} {D:Nat} {p1 p2 p3:Value} (Oa:A0 Tryz.prog GG N [] ρs ws) (Jy:A6 [] ρs ws (Bm o q tree tree.length pos 0++[some (.cells [.nils]),some (.cells [.msl 0 1 0 tree.length]),some (.cells [.i 0])]) ρ0 w0) (R0:AS Tryz.prog GG N ⟨AG 33 [(6,.ref 5 0),(7,.ref 6 0),(8,.ref 7 0)],(Bm o q tree tree.length pos 0++[some (.cells [.nils]),some (.cells [.msl 0 1 0 tree.length]),some (.cells [.i 0])])⟩ ρ0 a0 w0) (hD:w0.heap[D]? =some (.deferred (some []))) (Ct:GG.ng<=D) (Hy:ws.heap.size<=D) (g2:tree.length=o.length) (Ca:a0.defers= [{ target:=.collected D,args:=#[] },{ target:=.fn (.func 36) #[p1,p2,p3],args:=#[] }]):
 (Code.seq (.region 9 (Ah Tryz.f26 9) true) .ret).wpIn Fence.wide 0 Tryz.prog (bodyPostM Fence.wide 0 Tryz.prog Tryz.f26 fun e w'=>∃ v,e= .returned v/\ CV Tryz.prog GG N [] ρs ws true (.tup 3 (L1 [.sl 3 (([]:List An).length) (AQ (fun (x:(List Int)×(List Int)×Int)=>[.ints x.1,.ints x.2.1,.i x.2.2]) ([]:List An)),.ints o,.i 0])) [] v w') a0 w0:=by
 refine zFe ?_;refine wt (L:=0) HC.x [2] fL rn [([(2,5)],(eS o q tree pos))] [6,7,8] [0,5,6,7] [] ((H0.t |>.t |>.t |>.g (Eq.refl (eS o q tree pos)))) H0 (AG 33 [(6,.ref 1 0),(7,.ref 2 0),(8,.ref 3 0)]) ([some (.ints o),some (.cells [.nils]),some (.cells [.msl 0 1 0 tree.length]),some (.cells [.i 0])]:DH) R0 (by kernel_rfl) fun ρ1 a1 w1 R1 DG HP Hq=>?_
 refine wpIn_ret ?_
 show LeavesInM _ _ _ _ _ _ a1.defers .returning w1
 rw [HP,Ca];refine V2 (by simp) (nD R0.hr DG hD) (fun args W=>MB Tryz.func36 (by kernel_rfl) (by kernel_rfl) args W) fun W hs=>?_
 refine (nT p1 p2 p3 W).mono ?_;rintro e u' w' ⟨⟨v,rfl⟩,rfl,rfl⟩;have R2:=R1.shut (NR (by kernel_rfl)) Ct hs;obtain ⟨v,h1,h2⟩:=XB (fn:=Tryz.f26) R2 Oa ((Jy.trans DG).shut (hs.mono fun _ _ h=>⟨zAt Hy h.1,h.2⟩)) [0] (H0.g g2) [.nils,.ints o,.i 0] (AR.tupL (l:=[.nils,.ints o,.i 0]) (l':=[.sl 3 (([]:List An).length) (AQ (fun (x:(List Int)×(List Int)×Int)=>[.ints x.1,.ints x.2.1,.i x.2.2]) ([]:List An)),.ints o,.i 0]) rfl ⟨(AR.sl_nil _ _),A5,A5,trivial⟩) (by kernel_rfl) (by kernel_rfl);exact ⟨v,h1,v,rfl,h2⟩
theorem uZ {q:AA} {pos:List Int} {tree:List (Int×Int)} {o:List Int} {N:Nat -> Prop} {ρs ρ0:List AI} {ws w0:World} {a0:Act} {D:Nat} {p1 p2 p3:Value} (Oa:A0 Tryz.prog GG N [] ρs ws) (Jy:A6 [] ρs ws (Bm o q tree tree.length pos 0++[some (.cells [.nils]),some (.cells [.msl 0 1 0 tree.length]),some (.cells [.i 0])]) ρ0 w0) (R0:AS Tryz.prog GG N ⟨AG 33 [(6,.ref 5 0),(7,.ref 6 0),(8,.ref 7 0)],(Bm o q tree tree.length pos 0++[some (.cells [.nils]),some (.cells [.msl 0 1 0 tree.length]),some (.cells [.i 0])])⟩ ρ0 a0 w0) (hD:w0.heap[D]? =some (.deferred (some []))) (Ct:GG.ng<=D) (Hy:ws.heap.size<=D) (F0:BC (MS N (Bm o q tree tree.length pos 0++[some (.cells [.nils]),some (.cells [.msl 0 1 0 tree.length]),some (.cells [.i 0])]) ρ0) w0 ρ0 [.ref 5 0,.ref 6 0,.ref 7 0] #[p1,p2,p3]):
 LeavesInM Fence.wide 0 Tryz.prog Tryz.f26 a0.tmps (fun e w'=>∃ v,e= .returned v/\ CV Tryz.prog GG N [] ρs ws true (.tup 3 (L1 [.sl 3 (([]:List An).length) (AQ (fun (x:(List Int)×(List Int)×Int)=>[.ints x.1,.ints x.2.1,.i x.2.2]) ([]:List An)),.ints ([]:List Int),.i 280])) [] v w') [{ target:=.collected D,args:=#[] },{ target:=.fn (.func 36) #[p1,p2,p3],args:=#[] }] (.panicking (pan DY)) w0:=by
 refine V2 (by simp) hD (fun args W=>MB Tryz.func36 (by kernel_rfl) (by kernel_rfl) args W) fun W hs=>?_
 have Rx:AS Tryz.prog GG N ⟨AG 33 [(6,.ref 5 0),(7,.ref 6 0),(8,.ref 7 0)]++[.ref 5 0,.ref 6 0,.ref 7 0],(Bm o q tree tree.length pos 0++[some (.cells [.nils]),some (.cells [.msl 0 1 0 tree.length]),some (.cells [.i 0])])⟩ ρ0 { a0 with tmps:=a0.tmps++#[p1,p2,p3] } w0:=⟨R0.hr,BC.append R0.fr F0⟩;have Ry:=Rx.shut (NR (by kernel_rfl)) Ct hs;obtain ⟨f1,f2⟩:=BC.split Ry.fr R0.fr.1;have R2:AS Tryz.prog GG N ⟨AG 33 [(6,.ref 5 0),(7,.ref 6 0),(8,.ref 7 0)],(Bm o q tree tree.length pos 0++[some (.cells [.nils]),some (.cells [.msl 0 1 0 tree.length]),some (.cells [.i 0])])⟩ ρ0 a0 W:=⟨Ry.hr,f1⟩;refine (zC5 R2.hr (f2.at 0) (f2.at 1) (f2.at 2)).mono ?_;rintro e u' w' ⟨⟨v,rfl⟩,rfl,ρ',E4,C4,aE⟩;have R3:AS Tryz.prog GG N ⟨AG 33 [(6,.ref 5 0),(7,.ref 6 0),(8,.ref 7 0)],(Bm o q tree tree.length pos 0++[some (.cells [.nils]),some (.cells [.nils]),some (.cells [.i 280])])⟩ ρ' a0 w':=⟨E4,TT (L:=8) R2.fr (by kernel_rfl) E4 C4 aE⟩;obtain ⟨v,h1,h2⟩:=XB (fn:=Tryz.f26) R3 Oa ((Jy.shut (hs.mono fun _ _ h=>⟨zAt Hy h.1,h.2⟩)).trans C4) [] H0 [.nils,.nils,.i 280] (AR.tupL (l:=[.nils,.nils,.i 280]) (l':=[.sl 3 (([]:List An).length) (AQ (fun (x:(List Int)×(List Int)×Int)=>[.ints x.1,.ints x.2.1,.i x.2.2]) ([]:List An)),.ints ([]:List Int),.i 280]) rfl ⟨(AR.sl_nil _ _),AR.ints_nil,A5,trivial⟩) (by kernel_rfl) (by kernel_rfl);exact ⟨v,h1,v,rfl,h2⟩
def fK:ST:=.rd 0 (.rd 1 (.ef 2 (.ef 3 (.ef 4 (.fin [] [6,7,8]) (.no)) (.no)) (.no)))
theorem rj:Bp (Ah Tryz.f26 9) [2] fK:=by unfold Bp;kernel_rfl
def eQ (o:List Int) (q:AA) (tree:List (Int×Int)) (pos:List Int) (x:An) (t:List An):St:=⟨(AG 33 [(6,.ref 5 0),(7,.ref 6 0),(8,.ref 7 0)]),(Bm o q tree tree.length pos 0++[some (.cells [.msl 8 3 0 ((x::t).length)]),some (.cells [.msl 0 1 0 tree.length]),some (.cells [.i 0]),some (.arr 3 ((x::t).length) (AQ (fun (x:(List Int)×(List Int)×Int)=>[.ints x.1,.ints x.2.1,.i x.2.2]) (x::t)))])⟩
theorem tO {q:AA} {pos:List Int} {tree:List (Int×Int)} {o:List Int} (x:An) (t:List An) {N:Nat -> Prop} {ρs ρ0:List AI} {ws w0:World} {a0:Act} {D:Nat} {p1 p2 p3:Value} (Oa:A0 Tryz.prog GG N [] ρs ws) (Jy:A6 [] ρs ws (Bm o q tree tree.length pos 0++[some (.cells [.msl 8 3 0 ((x::t).length)]),some (.cells [.msl 0 1 0 tree.length]),some (.cells [.i 0]),some (.arr 3 ((x::t).length) (AQ (fun (x:(List Int)×(List Int)×Int)=>[.ints x.1,.ints x.2.1,.i x.2.2]) (x::t)))]) ρ0 w0) (R0:AS Tryz.prog GG N ⟨AG 33 [(6,.ref 5 0),(7,.ref 6 0),(8,.ref 7 0)],(Bm o q tree tree.length pos 0++[some (.cells [.msl 8 3 0 ((x::t).length)]),some (.cells [.msl 0 1 0 tree.length]),some (.cells [.i 0]),some (.arr 3 ((x::t).length) (AQ (fun (x:(List Int)×(List Int)×Int)=>[.ints x.1,.ints x.2.1,.i x.2.2]) (x::t)))])⟩ ρ0 a0 w0) (hD:w0.heap[D]? =some (.deferred (some []))) (Ct:GG.ng<=D) (Hy:ws.heap.size<=D) (g2:tree.length=o.length) (Ca:a0.defers= [{ target:=.collected D,args:=#[] },{ target:=.fn (.func 36) #[p1,p2,p3],args:=#[] }]):
 (Code.seq (.region 9 (Ah Tryz.f26 9) true) .ret).wpIn Fence.wide 0 Tryz.prog (bodyPostM Fence.wide 0 Tryz.prog Tryz.f26 fun e w'=>∃ v,e= .returned v/\ CV Tryz.prog GG N [] ρs ws true (.tup 3 (L1 [.sl 3 ((x::t).length) (AQ (fun (x:(List Int)×(List Int)×Int)=>[.ints x.1,.ints x.2.1,.i x.2.2]) (x::t)),.ints o,.i 0])) [] v w') a0 w0:=by
 refine zFe ?_;refine wt (L:=0) HC.x [2] fK rj [([(2,5)],(eQ o q tree pos x t))] [6,7,8] [0,5,6,7,8] [] ((H0.t |>.t |>.t |>.g (Eq.refl (eQ o q tree pos x t)))) H0 (AG 33 [(6,.ref 1 0),(7,.ref 2 0),(8,.ref 3 0)]) ([some (.ints o),some (.cells [.msl 4 3 0 ((x::t).length)]),some (.cells [.msl 0 1 0 tree.length]),some (.cells [.i 0]),some (.arr 3 ((x::t).length) (AQ (fun (x:(List Int)×(List Int)×Int)=>[.ints x.1,.ints x.2.1,.i x.2.2]) (x::t)))]:DH) R0 (by kernel_rfl) fun ρ1 a1 w1 R1 DG HP Hq=>?_
 refine wpIn_ret ?_
 show LeavesInM _ _ _ _ _ _ a1.defers .returning w1
 rw [HP,Ca];refine V2 (by simp) (nD R0.hr DG hD) (fun args W=>MB Tryz.func36 (by kernel_rfl) (by kernel_rfl) args W) fun W hs=>?_
 refine (nT p1 p2 p3 W).mono ?_;rintro e u' w' ⟨⟨v,rfl⟩,rfl,rfl⟩;have R2:=R1.shut (NR (by kernel_rfl)) Ct hs;obtain ⟨v,h1,h2⟩:=XB (fn:=Tryz.f26) R2 Oa ((Jy.trans DG).shut (hs.mono fun _ _ h=>⟨zAt Hy h.1,h.2⟩)) [0,4] (H0.g g2 |>.g (Eq.refl ((x::t).length))) [.sl 3 ((x::t).length) (AQ (fun (x:(List Int)×(List Int)×Int)=>[.ints x.1,.ints x.2.1,.i x.2.2]) (x::t)),.ints o,.i 0] (AR.tupL (l:=[.sl 3 ((x::t).length) (AQ (fun (x:(List Int)×(List Int)×Int)=>[.ints x.1,.ints x.2.1,.i x.2.2]) (x::t)),.ints o,.i 0]) (l':=[.sl 3 ((x::t).length) (AQ (fun (x:(List Int)×(List Int)×Int)=>[.ints x.1,.ints x.2.1,.i x.2.2]) (x::t)),.ints o,.i 0]) rfl ⟨A5,A5,A5,trivial⟩) (by kernel_rfl) (by kernel_rfl);exact ⟨v,h1,v,rfl,h2⟩
theorem uY {q:AA} {pos:List Int} {tree:List (Int×Int)} {o:List Int} (x:An) (t:List An) {N:Nat -> Prop} {ρs ρ0:List AI} {ws w0:World} {a0:Act} {D:Nat} {p1 p2 p3:Value} (Oa:A0 Tryz.prog GG N [] ρs ws) (Jy:A6 [] ρs ws (Bm o q tree tree.length pos 0++[some (.cells [.msl 8 3 0 ((x::t).length)]),some (.cells [.msl 0 1 0 tree.length]),some (.cells [.i 0]),some (.arr 3 ((x::t).length) (AQ (fun (x:(List Int)×(List Int)×Int)=>[.ints x.1,.ints x.2.1,.i x.2.2]) (x::t)))]) ρ0 w0) (R0:AS Tryz.prog GG N ⟨AG 33 [(6,.ref 5 0),(7,.ref 6 0),(8,.ref 7 0)],(Bm o q tree tree.length pos 0++[some (.cells [.msl 8 3 0 ((x::t).length)]),some (.cells [.msl 0 1 0 tree.length]),some (.cells [.i 0]),some (.arr 3 ((x::t).length) (AQ (fun (x:(List Int)×(List Int)×Int)=>[.ints x.1,.ints x.2.1,.i x.2.2]) (x::t)))])⟩ ρ0 a0 w0) (hD:w0.heap[D]? =some (.deferred (some []))) (Ct:GG.ng<=D) (Hy:ws.heap.size<=D) (F0:BC (MS N (Bm o q tree tree.length pos 0++[some (.cells [.msl 8 3 0 ((x::t).length)]),some (.cells [.msl 0 1 0 tree.length]),some (.cells [.i 0]),some (.arr 3 ((x::t).length) (AQ (fun (x:(List Int)×(List Int)×Int)=>[.ints x.1,.ints x.2.1,.i x.2.2]) (x::t)))]) ρ0) w0 ρ0 [.ref 5 0,.ref 6 0,.ref 7 0] #[p1,p2,p3]):
 LeavesInM Fence.wide 0 Tryz.prog Tryz.f26 a0.tmps (fun e w'=>∃ v,e= .returned v/\ CV Tryz.prog GG N [] ρs ws true (.tup 3 (L1 [.sl 3 (([]:List An).length) (AQ (fun (x:(List Int)×(List Int)×Int)=>[.ints x.1,.ints x.2.1,.i x.2.2]) ([]:List An)),.ints ([]:List Int),.i 280])) [] v w') [{ target:=.collected D,args:=#[] },{ target:=.fn (.func 36) #[p1,p2,p3],args:=#[] }] (.panicking (pan DY)) w0:=by
 refine V2 (by simp) hD (fun args W=>MB Tryz.func36 (by kernel_rfl) (by kernel_rfl) args W) fun W hs=>?_
 have Rx:AS Tryz.prog GG N ⟨AG 33 [(6,.ref 5 0),(7,.ref 6 0),(8,.ref 7 0)]++[.ref 5 0,.ref 6 0,.ref 7 0],(Bm o q tree tree.length pos 0++[some (.cells [.msl 8 3 0 ((x::t).length)]),some (.cells [.msl 0 1 0 tree.length]),some (.cells [.i 0]),some (.arr 3 ((x::t).length) (AQ (fun (x:(List Int)×(List Int)×Int)=>[.ints x.1,.ints x.2.1,.i x.2.2]) (x::t)))])⟩ ρ0 { a0 with tmps:=a0.tmps++#[p1,p2,p3] } w0:=⟨R0.hr,BC.append R0.fr F0⟩;have Ry:=Rx.shut (NR (by kernel_rfl)) Ct hs;obtain ⟨f1,f2⟩:=BC.split Ry.fr R0.fr.1;have R2:AS Tryz.prog GG N ⟨AG 33 [(6,.ref 5 0),(7,.ref 6 0),(8,.ref 7 0)],(Bm o q tree tree.length pos 0++[some (.cells [.msl 8 3 0 ((x::t).length)]),some (.cells [.msl 0 1 0 tree.length]),some (.cells [.i 0]),some (.arr 3 ((x::t).length) (AQ (fun (x:(List Int)×(List Int)×Int)=>[.ints x.1,.ints x.2.1,.i x.2.2]) (x::t)))])⟩ ρ0 a0 W:=⟨Ry.hr,f1⟩;refine (zC4 R2.hr (f2.at 0) (f2.at 1) (f2.at 2)).mono ?_;rintro e u' w' ⟨⟨v,rfl⟩,rfl,ρ',E4,C4,aE⟩;have R3:AS Tryz.prog GG N ⟨AG 33 [(6,.ref 5 0),(7,.ref 6 0),(8,.ref 7 0)],(Bm o q tree tree.length pos 0++[some (.cells [.nils]),some (.cells [.nils]),some (.cells [.i 280]),some (.arr 3 ((x::t).length) (AQ (fun (x:(List Int)×(List Int)×Int)=>[.ints x.1,.ints x.2.1,.i x.2.2]) (x::t)))])⟩ ρ' a0 w':=⟨E4,TT (L:=8) R2.fr (by kernel_rfl) E4 C4 aE⟩;obtain ⟨v,h1,h2⟩:=XB (fn:=Tryz.f26) R3 Oa ((Jy.shut (hs.mono fun _ _ h=>⟨zAt Hy h.1,h.2⟩)).trans C4) [] H0 [.nils,.nils,.i 280] (AR.tupL (l:=[.nils,.nils,.i 280]) (l':=[.sl 3 (([]:List An).length) (AQ (fun (x:(List Int)×(List Int)×Int)=>[.ints x.1,.ints x.2.1,.i x.2.2]) ([]:List An)),.ints ([]:List Int),.i 280]) rfl ⟨(AR.sl_nil _ _),AR.ints_nil,A5,trivial⟩) (by kernel_rfl) (by kernel_rfl);exact ⟨v,h1,v,rfl,h2⟩
def zj (q:AA) (tree:List (Int×Int)):DH:=[some (.cells (AD q)),some (.cells [.nils]),some (.cells [.msl 4 1 0 tree.length]),some (.cells [.i 0]),some (.ints (List.replicate tree.length (0:Int)))]
def V3 (l:List An):Jb:=match l with
 | []=>.s0
 | x::t=>.s1 (x::t).length (x::t)
theorem mW {n ln:Nat}: ∀ (l a:List An),a.length+l.length<=BA -> Bl (P0 n ln) l (.s1 a.length a)=some (.s1 (a++l).length (a++l))
 | [],a,_=>by simp [Bl]
 | x::l,a,h=>by
  have h1:P0 n ln x (.s1 a.length a)=some (.s1 (a++[x]).length (a++[x])):=by
   have hl:a.length+1<=BA:=by simp at h;omega
   show cG n ln x a.length a=_
   unfold cG;rw [zAE ⟨rfl,hl⟩];simp
  simp only [Bl,h1,zAF];rw [mW l (a++[x]) (by simp at h ⊢;omega)];simp
theorem zBQ {n ln:Nat} {l:List An} (h:l.length<=BA):Bl (P0 n ln) (l.drop 0) .s0=some (V3 l):=by
 rw [zFD];cases l with
 | nil=>rfl
 | cons x t=>exact mW (n:=n) (ln:=ln) t [x] (by simp at h ⊢;omega)
theorem zBL {n:Nat} {q:AA} {pos:List Int} {tree:List (Int×Int)} {l:List An} {out:Option Unit} {o:List Int} (A8:Iv n q pos tree=some 0) (g0:((tree.length:Int):Int)=(tree.length:Int)/\ 0<=(tree.length:Int)/\ ((tree.length:Int):Int)<=1000000000000) (hy:Li n (List.replicate tree.length (0:Int)) q tree tree.length pos=some (l,out,o)) (g1:tree.length=o.length) (g2:l.length<=BA)
 {N:Nat -> Prop} {ρ0:List AI} {a0:Act} {w0:World} (R0:AS Tryz.prog GG N ⟨AG 33 [(0,.agg 5 (L1 (AD q))),(1,.ints pos),(2,.sl 2 tree.length (AQ BD tree))],[]⟩ ρ0 a0 w0) (Wk:a0.defers= []):
 (AW Tryz.f26).wpIn Fence.wide 0 Tryz.prog (bodyPostM Fence.wide 0 Tryz.prog Tryz.f26 fun e w'=>∃ v,e= .returned v/\ CV Tryz.prog GG N [] ρ0 w0 true (.tup 3 (L1 [.sl 3 ((if out.isSome then l else []).length) (AQ (fun (x:(List Int)×(List Int)×Int)=>[.ints x.1,.ints x.2.1,.i x.2.2]) (if out.isSome then l else [])),.ints (if out.isSome then o else []),.i (if out.isSome then 0 else 280)])) [] v w') a0 w0:=by
 refine zFe ?_;refine wr (L:=0) HC.x [1,2,3,6,7,8] [0,1,2,3] [] H0 H0 (AG 33 [(1,.ints pos),(2,.sl 2 tree.length (AQ BD tree)),(3,.ref 0 0),(6,.ref 1 0),(7,.ref 2 0),(8,.ref 3 0)]) ([some (.cells (AD q)),some (.cells [.nils]),some (.cells [.nils]),some (.cells [.i 0])]:DH) R0 (by kernel_rfl) (by kernel_rfl) fun ρ1 a1 w1 R1 DG HP Hq=>?_
 refine zFe (zFe ?_);refine wr (L:=0) HC.x [1,2,3,6,7,8] [0,1,2,3] [] ((H0.c (fb (d4 A8) [some (.cells (AD q)),some (.cells [.nils]),some (.cells [.nils]),some (.cells [.i 0])]) |>.t)) H0 (AG 33 [(1,.ints pos),(2,.sl 2 tree.length (AQ BD tree)),(3,.ref 0 0),(6,.ref 1 0),(7,.ref 2 0),(8,.ref 3 0)]) ([some (.cells (AD q)),some (.cells [.nils]),some (.cells [.nils]),some (.cells [.i 0])]:DH) R1 (by kernel_rfl) (by kernel_rfl) fun ρ2 a2 w2 R2 Iw TE j9=>?_
 refine zFe ?_;refine wr (L:=0) HC.x [1,2,3,6,7,8,15] [0,1,2,3] [] H0 H0 (AG 33 [(1,.ints pos),(2,.sl 2 tree.length (AQ BD tree)),(3,.ref 0 0),(6,.ref 1 0),(7,.ref 2 0),(8,.ref 3 0),(15,.bool false)]) ([some (.cells (AD q)),some (.cells [.nils]),some (.cells [.nils]),some (.cells [.i 0])]:DH) R2 (by kernel_rfl) (by kernel_rfl) fun ρ3 a3 w3 R3 FW hd3 PP=>?_
 refine wpIn_cond_false (Bg R3 (.tmp 15)) (wpIn_skip ?_);have Ay:a3.tmps.size=33:=by simpa [AG] using R3.fr.1.symm
 refine zFe (og (o0:=_) (o1:=_) rfl rfl rfl rfl rfl rfl rfl (by rw [Ay];decide) fun a4 xu Ke=>?_);have R4:=R3.idle 17 xu (by kernel_rfl);have F4:BC (MS N [some (.cells (AD q)),some (.cells [.nils]),some (.cells [.nils]),some (.cells [.i 0])] ρ3) w3 ρ3 [.ref 1 0,.ref 2 0,.ref 3 0] #[a3.tmps.getD 6 undef,a3.tmps.getD 7 undef,a3.tmps.getD 8 undef]:=⟨rfl,fun j hj=>match j,hj with | 0,_=>R3.fr.at 6 | 1,_=>R3.fr.at 7 | 2,_=>R3.fr.at 8 | j+3,hj=>absurd hj (by simp)⟩;refine zFe ?_;refine wr (L:=4) HC.x [1,2,3,6,7,8] [0,1,2,3,4] [] ((H0.g g0 |>.t)) H0 (AG 33 [(1,.ints pos),(2,.sl 2 tree.length (AQ BD tree)),(3,.ref 0 0),(6,.ref 1 0),(7,.ref 2 0),(8,.ref 3 0)]) ([some (.cells (AD q)),some (.cells [.nils]),some (.cells [.msl 4 1 0 tree.length]),some (.cells [.i 0]),some (.ints (List.replicate tree.length (0:Int)))]:DH) R4 (by kernel_rfl) (by kernel_rfl) fun ρ5 a5 w5 R5 YX hd5 wd=>?_
 have F5:=TT (L:=4) F4 (by kernel_rfl) R5.hr YX wd;refine zFe (zFe ?_);refine wr (L:=4) HC.x [6,7,8,25] [0,1,2,3,4,5,6,7,8] [] ((H0.c (em (wF q pos tree tree.length (List.replicate tree.length (0:Int)) (rfl:jr n q pos tree tree.length (List.replicate tree.length (0:Int))=some ())) [4] (zj q tree)))) H0 (AG 33 [(6,.ref 1 0),(7,.ref 2 0),(8,.ref 3 0),(25,.fn 56 4 (L1 [.ref 5 0,.ref 6 0,.ref 7 0,.ref 8 0]))]) ([some (.cells (AD q)),some (.cells [.nils]),some (.cells [.msl 4 1 0 tree.length]),some (.cells [.i 0]),some (.ints (List.replicate tree.length (0:Int))),some (.cells (AD q)),some (.cells [.sl 2 tree.length (AQ BD tree)]),some (.cells [.msl 4 1 0 tree.length]),some (.cells [.ints pos])]:DH) R5 (by kernel_rfl) (by kernel_rfl) fun ρ6 a6 w6 R6 YW TD wc=>?_
 have F6:=TT (L:=4) F5 (by kernel_rfl) R6.hr YW wc
 have s7:Az 0 ⟨AG 33 [(6,.ref 1 0),(7,.ref 2 0),(8,.ref 3 0),(25,.fn 56 4 (L1 [.ref 5 0,.ref 6 0,.ref 7 0,.ref 8 0]))]++[.ref 1 0,.ref 2 0,.ref 3 0],[some (.cells (AD q)),some (.cells [.nils]),some (.cells [.msl 4 1 0 tree.length]),some (.cells [.i 0]),some (.ints (List.replicate tree.length (0:Int))),some (.cells (AD q)),some (.cells [.sl 2 tree.length (AQ BD tree)]),some (.cells [.msl 4 1 0 tree.length]),some (.cells [.ints pos])]⟩ ⟨AG 33 [(6,.ref 5 0),(7,.ref 6 0),(8,.ref 7 0),(25,.fn 56 4 (L1 [.ref 1 0,.ref 2 0,.ref 3 0,.ref 4 0]))]++[.ref 5 0,.ref 6 0,.ref 7 0],[some (.ints (List.replicate tree.length (0:Int))),some (.cells (AD q)),some (.cells [.sl 2 tree.length (AQ BD tree)]),some (.cells [.msl 0 1 0 tree.length]),some (.cells [.ints pos]),some (.cells [.nils]),some (.cells [.msl 0 1 0 tree.length]),some (.cells [.i 0])]⟩:=by
  have e:E2 [4,5,6,7,8,1,2,3] ⟨AG 33 [(6,.ref 1 0),(7,.ref 2 0),(8,.ref 3 0),(25,.fn 56 4 (L1 [.ref 5 0,.ref 6 0,.ref 7 0,.ref 8 0]))]++[.ref 1 0,.ref 2 0,.ref 3 0],[some (.cells (AD q)),some (.cells [.nils]),some (.cells [.msl 4 1 0 tree.length]),some (.cells [.i 0]),some (.ints (List.replicate tree.length (0:Int))),some (.cells (AD q)),some (.cells [.sl 2 tree.length (AQ BD tree)]),some (.cells [.msl 4 1 0 tree.length]),some (.cells [.ints pos])]⟩=⟨AG 33 [(6,.ref 5 0),(7,.ref 6 0),(8,.ref 7 0),(25,.fn 56 4 (L1 [.ref 1 0,.ref 2 0,.ref 3 0,.ref 4 0]))]++[.ref 5 0,.ref 6 0,.ref 7 0],[some (.ints (List.replicate tree.length (0:Int))),some (.cells (AD q)),some (.cells [.sl 2 tree.length (AQ BD tree)]),some (.cells [.msl 0 1 0 tree.length]),some (.cells [.ints pos]),some (.cells [.nils]),some (.cells [.msl 0 1 0 tree.length]),some (.cells [.i 0])]⟩:=by kernel_rfl
  rw [←e];exact Az.compE [4,5,6,7,8,1,2,3] (by kernel_rfl)
 obtain ⟨ρx,Rx,Fx,fV,_⟩:=Az.both s7 (by kernel_rfl) R6 F6;obtain ⟨ρ7,R7,F7,fc,_⟩:=Az.both (Az.ros (L:=0) (fr:=AG 33 [(6,.ref 5 0),(7,.ref 6 0),(8,.ref 7 0),(25,.fn 56 4 (L1 [.ref 1 0,.ref 2 0,.ref 3 0,.ref 4 0]))]++[.ref 5 0,.ref 6 0,.ref 7 0]) (h:=[some (.ints (List.replicate tree.length (0:Int))),some (.cells (AD q)),some (.cells [.sl 2 tree.length (AQ BD tree)]),some (.cells [.msl 0 1 0 tree.length]),some (.cells [.ints pos]),some (.cells [.nils]),some (.cells [.msl 0 1 0 tree.length]),some (.cells [.i 0])]) (h':=Bm (List.replicate tree.length (0:Int)) q tree tree.length pos 0++[some (.cells [.nils]),some (.cells [.msl 0 1 0 tree.length]),some (.cells [.i 0])]) [1,2,3,4] (by kernel_rfl) (by kernel_rfl)) rfl Rx Fx;refine wpIn_block ?_;have HY:YC Tryz.prog GG DY 56 (fun l=>.yl l::(List.range 4).map (L1 [.ref 1 0,.ref 2 0,.ref 3 0,.ref 4 0])) (fun _=>Bm (List.replicate tree.length (0:Int)) q tree tree.length pos 0) (l.map Jc) (out.map jp) (fun _=>Bm o q tree tree.length pos 0):=v7 _ _ _ _ _ (l,out,o) hy;refine t6 (KK:=8) (T:=[some (.cells [.nils]),some (.cells [.msl 0 1 0 tree.length]),some (.cells [.i 0])]) (J:=fun i h=>∃ s,Bl (P0 n tree.length) (l.drop i) s=some (V3 l)/\ h=Pz tree.length s) R7 (by kernel_rfl) HY rfl (by kernel_rfl) (by kernel_rfl) (fun x hx=>by obtain ⟨z,_,rfl⟩:=zEI.1 hx;rfl) (by kernel_rfl) (show 5<=8 by decide) ⟨.s0,zBQ g2,rfl⟩ (fun i h=>by rintro ⟨s,_,rfl⟩;cases s <;> exact ⟨_,rfl⟩) (sr Jc l (P0 n tree.length) (Pz tree.length) (fun BG=>AG 33 [(6,.ref 5 0),(7,.ref 6 0),(8,.ref 7 0),(25,.fn 56 4 (L1 [.ref 1 0,.ref 2 0,.ref 3 0,.ref 4 0])),(26,.agg 3 (L1 [.ints BG.1,.ints BG.2.1,.i BG.2.2]))]) (fun l B N x s r h=>zBN n tree.length l B N x s r h) (by kernel_rfl)) fun D T' ρ8 e w8 hj R8 fZ wb hD IW he=>?_
 obtain ⟨s,hs,hT⟩:=hj;rw [zAq,zF1] at hs;cases hs;have eT:T'=(Pz tree.length (V3 l)).drop 5:=by rw [←hT];rfl
 subst eT;have Uq:=(((((((DG.trans Iw).trans FW).trans YX).trans YW).trans fV).trans fc).trans fZ);have Ct:GG.ng<=D:=zAt (GG.lo _ R7.hr.gi) IW;have Hy:w0.heap.size<=D:=zAt (((((((DG.trans Iw).trans FW).trans YX).trans YW).trans fV).trans fc).upd.size) IW;have TD:a6.defers= [{ target:=.fn (.func 36) #[a3.tmps.getD 6 undef,a3.tmps.getD 7 undef,a3.tmps.getD 8 undef],args:=#[] }]:=by rw [TD,hd5,Ke,hd3,TE,HP,Wk];simp [Act.eval]
 have R9:AS Tryz.prog GG N ⟨AG 33 [(6,.ref 5 0),(7,.ref 6 0),(8,.ref 7 0)],Bm o q tree tree.length pos 0++(Pz tree.length (V3 l)).drop 5⟩ ρ8 { a6 with defers:={ target:=.collected D,args:=#[] }::a6.defers } w8:=R8.forg [6,7,8] rfl (by kernel_rfl);have F9:=TT (L:=8) F7 (by kernel_rfl) R8.hr fZ wb;rcases he with ⟨v,rfl,ho⟩ | ⟨rfl,ho⟩
 ·have ho:out.isSome=true:=by simpa using ho
  simp only [ho,zEL];cases l with
  | nil=>exact tP R0.hr Uq R9 hD Ct Hy g1 (by show _::a6.defers=_;rw [TD])
  | cons x t=>exact tO x t R0.hr Uq R9 hD Ct Hy g1 (by show _::a6.defers=_;rw [TD])
 ·have ho:out.isSome=false:=by simpa using ho
  simp only [ho,zDJ,zEr]
  show LeavesInM _ _ _ _ _ _ (_::a6.defers) _ _
  rw [TD];cases l with
  | nil=>exact uZ R0.hr Uq ⟨R9.hr,R9.fr⟩ hD Ct Hy F9
  | cons x t=>exact uY x t R0.hr Uq ⟨R9.hr,R9.fr⟩ hD Ct Hy F9
def Fy (n:Nat) (q:AA) (pos:List Int) (tree:List (Int×Int)):Option ((List ((List Int)×(List Int)×Int))×(List Int)×Int):=
 (Iv n q pos tree).bind fun y1=>
  bif (y1 != 0) then
   some ([],[],y1)
  else
   if ((tree.length:Int):Int)=(tree.length:Int)/\ 0<=(tree.length:Int)/\ ((tree.length:Int):Int)<=1000000000000 then
    (Li n (List.replicate tree.length (0:Int)) q tree tree.length pos).bind fun y=>
     if tree.length=y.2.2.length/\ y.1.length<=BA then
      some (if y.2.1.isSome then y.1 else [],if y.2.1.isSome then y.2.2 else [],if y.2.1.isSome then 0 else 280)
     else none
   else none
theorem W5 {n:Nat} {q:AA} {pos:List Int} {tree:List (Int×Int)} {r:(List ((List Int)×(List Int)×Int))×(List Int)×Int} (h:Fy n q pos tree=some r):EQ 26 [.agg 5 (L1 (AD q)),.ints pos,.sl 2 tree.length (AQ BD tree)] [] (.tup 3 (L1 [.sl 3 r.1.length (AQ (fun (x:(List Int)×(List Int)×Int)=>[.ints x.1,.ints x.2.1,.i x.2.2]) r.1),.ints r.2.1,.i r.2.2])) [] true:=by
 unfold Fy at h;obtain ⟨y1,A8,h⟩:=FP h;rcases Br h with ⟨c0,h⟩ | ⟨c0,h⟩
 ·refine zBM (n:=n) ?_;unfold cF cE;rw [A8]
  show (bif (y1 != 0) then _ else _)=_
  rw [c0];exact h
 ·have e0:y1=0:=by simpa using c0
  subst e0;obtain ⟨g0,h⟩:=Bs h;obtain ⟨⟨l,out,o⟩,hy,h⟩:=FP h;obtain ⟨⟨g1,g2⟩,h⟩:=Bs h;cases h;have bA:(Tryz.f26.name== "runtime.NumGoroutine")=false:=by kernel_rfl
  refine ⟨⟨Tryz.f26,Tryz.func26,by simpa using bA,by kernel_rfl⟩,fun N ρ w args HR Cb=>(zGB (n:=0)).1 (callsIn_of_wp_marks (c:=AW Tryz.f26) Tryz.func26 (by kernel_rfl) trivial ?_)⟩;refine zBL A8 g0 hy g1 g2 (N:=N) (ρ0:=ρ) ⟨HR,?_⟩ rfl;have Ao:([.agg 5 (L1 (AD q)),.ints pos,.sl 2 tree.length (AQ BD tree)]:List DV).length=args.size:=Cb.1;have e:([.agg 5 (L1 (AD q)),.ints pos,.sl 2 tree.length (AQ BD tree)]:List DV)++List.replicate (Tryz.f26.ntmps-([.agg 5 (L1 (AD q)),.ints pos,.sl 2 tree.length (AQ BD tree)]:List DV).length) .any=AG 33 [(0,.agg 5 (L1 (AD q))),(1,.ints pos),(2,.sl 2 tree.length (AQ BD tree))]:=by kernel_rfl
  rw [←e,Ao];exact BC.append Cb (BC.anys _ _ _ _)
end Go.Proofs.YtkjbblkieglmlaaGreatDoor
namespace Go.Proofs.YtkjbblkieglmlaaGreatDoor
open Go.RowKit
def ut (q:AA) (g:List Int):Prop:=Gd q g/\ dX q g
inductive Tk (q:AA) (tree:List (Int×Int)):Option (Nat×List Nat) -> List Int -> Nat -> Nat -> List Int -> Nat -> List An -> List Int -> Prop
 | prune {pos p2:List Int} {a d:Nat} {e:List Int} {v:Nat} {l:List An} {e2:List Int}:a<tree.length -> (tree.getD a default).1=1 -> B4 q (tree.getD a default).2 pos -> PR q (con q (tree.getD a default).2) pos p2 -> Tk q tree none p2 (a+1) d e v l e2 -> Tk q tree none pos a d e v l (e2.set a (v:Int))
 | split {pos:List Int} {a d:Nat} {e:List Int} {v:Nat} {l:List An} {e2:List Int} {c:Nat}:posOk q pos=true -> a<tree.length -> tree.getD a default=(2,(c:Int)) -> c<pos.length -> EV pos=false -> 2<=(CM (pos.getD c 0) 0).length -> Tk q tree (some (c,CM (pos.getD c 0) 0)) pos (a+1) (d+1) e v l e2 -> Tk q tree none pos a d e v l (e2.set a (v:Int))
 | dead {pos:List Int} {a d:Nat} {e:List Int}:posOk q pos=true -> a<tree.length -> tree.getD a default=(3,0) -> EV pos=true -> Tk q tree none pos a d e (a+1) [(List.replicate pos.length 0,[],(d:Int))] (e.set a ((a+1:Nat):Int))
 | done {pos:List Int} {a d:Nat} {e g:List Int}:posOk q pos=true -> a<tree.length -> tree.getD a default=(4,0) -> Hg pos=some g -> ut q g -> Tk q tree none pos a d e (a+1) [(pos,g,(d:Int))] (e.set a ((a+1:Nat):Int))
 | nil {pos:List Int} {a d:Nat} {e:List Int} {c:Nat}:Tk q tree (some (c,[])) pos a d e a [] e
 | cons {pos:List Int} {a d:Nat} {e:List Int} {c s v w:Nat} {ss:List Nat} {l l2:List An} {e2 e3:List Int}:Tk q tree none (Ja pos c s) a d e v l e2 -> Tk q tree (some (c,ss)) pos v d e2 w l2 e3 -> Tk q tree (some (c,s::ss)) pos a d e w (l++l2) e3
def RP (L a:Nat) (T:Nat -> List An -> List Int -> Prop) (r:YR An Int (List Int)):Prop:=
 r.2.2.length=L/\ r.1.length+a<=L/\ ∀ x,r.2.1=some x -> ∃ v:Nat,x=(v:Int)/\ a<=v/\ v<=L/\ r.1.length+a<=v/\ T v r.1 r.2.2
theorem RP.fail {L a:Nat} {T:Nat -> List An -> List Int -> Prop} {l:List An} {o:List Int} (ho:o.length=L) (hl:l.length+a<=L):RP L a T (l,none,o):=⟨ho,hl,fun x h=>by cases h⟩
theorem gG {x:Int} {k:Nat} (h:Sm k x) (hk:k<=62):CM x k= []:=by
 unfold CM;rw [zFs];intro s hs;have:=zFt.1 hs;rw [h.hi this.1];decide
theorem f5 {k x:Int} (h1:1<=k/\ k<=16) (h:Sm k.toNat x):Sm 16 x:=
 Q0 (by decide) (h.in64 (by omega)) fun i hi _=>h.hi (by omega)
section
variable {q:AA} {tree:List (Int×Int)} {pos0:List Int} {pos e:List Int} {a d:Nat}
theorem Vq {A:Nat -> Option (YR An Int (List Int))} {r0:YR An Int (List Int)} (ha:a<tree.length) (h1:Ev A r0) (h2:RP tree.length a (fun v l o=>a<v/\ Tk q tree none pos a d e v l (o.set a (v:Int))) r0): ∃ r,Ev (fun n=>yb (A n) fun y1 o1=>if (0<=(a:Int)/\ (a:Int)<(tree.length:Int))/\ 0+((a:Int).toNat)<o1.length then Fq (B2 n) pos a d e q tree tree.length pos0 n (.l1 (o1.set (0+((a:Int).toNat)) y1)) else none) r/\ RP tree.length a (fun v l o=>a<v/\ Tk q tree none pos a d e v l o) r:=by
 obtain ⟨l,out,o⟩:=r0;obtain ⟨N,hN⟩:=h1;obtain ⟨g1,g2,g3⟩:=h2;cases out with
 | none=>
  refine ⟨(l,none,o),⟨N,fun n hn=>?_⟩,RP.fail g1 g2⟩
  show yb (A n) _=_
  rw [hN n hn];rfl
 | some x=>
  obtain ⟨v,rfl,v1,v2,v3,v4,v5⟩:=g3 x rfl;have g1:o.length=tree.length:=g1;refine ⟨(l,some (v:Int),o.set a (v:Int)),⟨N+1,fun n hn=>?_⟩,by rw [zAn];exact g1,g2,fun x hx=>?_⟩
  ·obtain ⟨k,rfl⟩: ∃ k,n=k+1:=⟨n-1,by omega⟩
   show yb (A (k+1)) _=_
   rw [hN (k+1) (by omega)]
   show (if _ then _ else none).map _=_
   rw [zAE ⟨by omega,by omega⟩,zAL,zAs]
   show (SE k (B2 (k+1)) (Fq (B2 (k+1)) pos a d e q tree tree.length pos0 k) pos a d e q tree tree.length pos0 (o.set a (v:Int))).map _=_
   unfold SE;rw [zAE ⟨by omega,by rw [zAn];omega⟩,zAL,zAs,Fw (by omega)];simp
  ·cases hx;exact ⟨v,rfl,v1,v2,v3,v4,v5⟩
theorem pu (hF:EA q) (hv:CR q=true) (hp:posOk q pos=true) {nd:Int×Int} {c:Nat} (hc:nd.2=(c:Int)) (A2:c<pos.length) (hd:d<=65536)
 (ih: ∀ (p:List Int) (b:Nat) (o:List Int),posOk q p=true -> a<b -> b<=tree.length -> o.length=tree.length -> ∃ r,Ev (fun n=>B2 n p b ((d+1:Nat):Int) o q tree tree.length pos0) r/\ RP tree.length b (fun v l o2=>b<v/\ Tk q tree none p b (d+1) o v l o2) r):
 ∀ (k j b:Nat) (o:List Int),j+k=q.symbols.toNat -> a<b -> b<=tree.length -> o.length=tree.length -> ∃ r,(∃ N,∀ n m,N<=n -> N<=m -> HA (B2 m) e q tree tree.length pos0 pos a d nd n (.l1 (b:Int) (j:Int) o)=some r)/\ RP tree.length b (fun v l o2=>Tk q tree (some (c,CM (pos.getD c 0) j)) pos b (d+1) o v l o2) r:=by
 obtain ⟨h1,h2⟩:=(IL hv).1 hp;obtain ⟨_,IZ,_⟩:=E8 hv;have hx:=h2 c A2;intro k
 induction k with
 | zero=>
  intro j b o ej hb N8 ho;refine ⟨([],some (b:Int),o),⟨1,fun n m hn _=>?_⟩,ho,by simpa using N8,fun x Ln=>?_⟩
  ·obtain ⟨n,rfl⟩: ∃ k,n=k+1:=⟨n-1,by omega⟩
   show Mo n (B2 m) (HA (B2 m) e q tree tree.length pos0 pos a d nd n) e q tree tree.length pos0 pos a d nd (b:Int) (j:Int) o=_
   unfold Mo;rw [zAC (by omega),zAH]
  ·cases Ln
   have:CM (pos.getD c 0) j= []:=by
    have:j=q.symbols.toNat:=by omega
    rw [this];exact gG hx (by omega)
   rw [this];exact ⟨b,rfl,zAp _,N8,by simp,.nil⟩
 | succ k hk=>
  intro j b o ej hb N8 ho
  have step: ∀ n m,HA (B2 m) e q tree tree.length pos0 pos a d nd (n+1) (.l1 (b:Int) (j:Int) o)=bif tb (pos.getD c 0) j then (OE n q pos c j).bind (fun y1=>bif (y1.2==0) then yb (B2 m y1.1 b ((d+1:Nat):Int) o q tree tree.length pos0) (fun y2 o2=>HA (B2 m) e q tree tree.length pos0 pos a d nd n (.l1 y2 ((j+1:Nat):Int) o2)) else some ([],none,o)) else HA (B2 m) e q tree tree.length pos0 pos a d nd n (.l1 (b:Int) ((j+1:Nat):Int) o):=by
   intro n m
   show Mo n (B2 m) (HA (B2 m) e q tree tree.length pos0 pos a d nd n) e q tree tree.length pos0 pos a d nd (b:Int) (j:Int) o=_
   unfold Mo;have r1:AL ((j:Int)+1):=As.2 ⟨by omega,by omega⟩;have r2:AL ((d:Int)+1):=As.2 ⟨by omega,by omega⟩;rw [zAJ (by omega),zAI,zAE ⟨by omega,by omega,by show (j:Int)<=((64:Nat):Int);omega⟩,hc,zAL,zAL,Yh hx (by omega) (by omega)];simp only [zAE r1,zAE r2];rfl
  have KW:CM (pos.getD c 0) j=if tb (pos.getD c 0) j then j::CM (pos.getD c 0) (j+1) else CM (pos.getD c 0) (j+1):=Yk (by omega)
  cases TF:tb (pos.getD c 0) j with
  | false=>
   obtain ⟨r,⟨N,hN⟩,hr⟩:=hk (j+1) b o (by omega) hb N8 ho;rw [KW,TF];refine ⟨r,⟨N+1,fun n m hn hm=>?_⟩,hr⟩;obtain ⟨n,rfl⟩: ∃ k,n=k+1:=⟨n-1,by omega⟩;rw [step,TF,zAH];exact hN n m (by omega) (by omega)
  | true=>
   obtain ⟨⟨l,out,o1⟩,⟨N,hN⟩,g1,g2,g3⟩:=ih (Ja pos c j) b o (zBI hv hp A2 (by omega)) hb N8 ho;have TI: ∀ n,N<=n -> B2 n (Ja pos c j,(0:Int)).1 b ((d+1:Nat):Int) o q tree tree.length pos0=some (l,out,o1):=hN;have fx: ∀ n,FA q+300<=n -> OE n q pos c j=some (Ja pos c j,0):=fun n hn=>zBS hF hv hp A2 (by omega) hn
   rw [KW,TF];cases out with
   | none=>
    refine ⟨(l,none,o1),⟨N+FA q+301,fun n m hn hm=>?_⟩,RP.fail g1 g2⟩;obtain ⟨n,rfl⟩: ∃ k,n=k+1:=⟨n-1,by omega⟩;rw [step,TF,zAI,fx n (by omega),zAF];rw [show ((Ja pos c j,(0:Int)).2==0)=true from rfl,zAI,TI m (by omega)];rfl
   | some x=>
    obtain ⟨v,rfl,v1,v2,v3,v4,v5⟩:=g3 x rfl;obtain ⟨⟨l2,IQ,o2⟩,⟨M,hM⟩,w1,w2,w3⟩:=hk (j+1) v o1 (by omega) (by omega) v2 g1;have v3:l.length+b<=v:=v3;have w2:l2.length+v<=tree.length:=w2;refine ⟨(l++l2,IQ,o2),⟨N+M+FA q+301,fun n m hn hm=>?_⟩,w1,by rw [zAm];omega,fun y hy=>?_⟩
    ·obtain ⟨n,rfl⟩: ∃ k,n=k+1:=⟨n-1,by omega⟩;rw [step,TF,zAI,fx n (by omega),zAF];rw [show ((Ja pos c j,(0:Int)).2==0)=true from rfl,zAI,TI m (by omega)]
     show (HA _ _ _ _ _ _ _ _ _ _ _ _).map _=_
     rw [hM n m (by omega) (by omega)];rfl
    ·obtain ⟨w,rfl,u1,u2,u3,u4⟩:=w3 y hy;have u3:l2.length+v<=w:=u3;exact ⟨w,rfl,by omega,u2,by rw [zAm];omega,.cons v5 u4⟩
theorem vE (hF:EA q) (hv:CR q=true) (hT:tree.length<=65536): ∀ (m a d:Nat) (pos e:List Int),tree.length<=a+m -> posOk q pos=true -> e.length=tree.length -> d<=a -> a<=tree.length -> ∃ r,Ev (fun n=>B2 n pos a d e q tree tree.length pos0) r/\ RP tree.length a (fun v l o=>a<v/\ Tk q tree none pos a d e v l o) r:=by
 intro m
 induction m with
 | zero=>
  intro a d pos e hm hp he hda ha;refine ⟨([],none,e),Ev.step 1 (fun n=>(rfl:_=FG n (B2 n) (Fq (B2 n) pos a d e q tree tree.length pos0 n) pos a d e q tree tree.length pos0)) (Ev.now fun n=>?_),RP.fail he (by simpa using ha)⟩;unfold FG;rw [zAC (by omega),zAH]
 | succ m ih=>
  intro a d pos e hm hp he hda ha
  by_cases AO:a<tree.length
  rotate_left
  ·refine ⟨([],none,e),Ev.step 1 (fun n=>(rfl:_=FG n (B2 n) (Fq (B2 n) pos a d e q tree tree.length pos0 n) pos a d e q tree tree.length pos0)) (Ev.now fun n=>?_),RP.fail he (by simpa using ha)⟩;unfold FG;rw [zAC (by omega),zAH]
  obtain ⟨Ao,CT⟩:=(IL hv).1 hp;obtain ⟨lh,IZ,_⟩:=E8 hv;have lb:(256:Nat)<=LB:=by decide
  have r1:AL ((a:Int)+1):=As.2 ⟨by omega,by omega⟩;have failed: ∃ r,Ev (fun _=>some (([],none,e):YR An Int (List Int))) r/\ RP tree.length a (fun v l o=>a<v/\ Tk q tree none pos a d e v l (o.set a (v:Int))) r:=⟨_,Ev.now fun n=>rfl,RP.fail he (by simpa using ha)⟩
  by_cases k1:(tree.getD a default).1=1
  ·have h1: ∃ r,Ev (fun n=>ZQ n (B2 n) e q tree tree.length pos0 pos a d (tree.getD a default)) r/\ RP tree.length a (fun v l o=>a<v/\ Tk q tree none pos a d e v l (o.set a (v:Int))) r:=by
    by_cases N6:Gw q (tree.getD a default).2 pos=0
    ·have C:=B4.of hF N6;obtain ⟨x,KU,Nh⟩:=uE C;obtain ⟨⟨l,out,o⟩,hr,g1,g2,g3⟩:=ih (a+1) d x e (by omega) (Nh.posOk C) he (by omega) (by omega);refine ⟨(l,out,o),Ev.eq (Ev.bind KU (b:=fun n y1=>bif (y1.2==0) then if AL ((a:Int)+1) then yb (B2 n y1.1 ((a:Int)+1) d e q tree tree.length pos0) (fun y2 o2=>some ([],some y2,o2)) else none else some ([],none,e)) ?_) (fun n=>rfl),g1,by have g2:l.length+(a+1)<=tree.length:=g2;show l.length+a<=_;omega,fun y hy=>?_⟩
     ·obtain ⟨N,hN⟩:=hr;refine ⟨N,fun n hn=>?_⟩;have:B2 n x ((a+1:Nat):Int) d e q tree tree.length pos0=_:=hN n hn;rw [show ((a+1:Nat):Int)=(a:Int)+1 by omega] at this
      show (if AL ((a:Int)+1) then yb (B2 n x ((a:Int)+1) d e q tree tree.length pos0) (fun y2 o2=>some ([],some y2,o2)) else none)=_
      rw [zAE r1,this];cases out <;> simp [yb]
     ·obtain ⟨v,rfl,v1,v2,v3,v4,v5⟩:=g3 y hy;have v3:l.length+(a+1)<=v:=v3;exact ⟨v,rfl,by omega,v2,by show l.length+a<=v;omega,by omega,.prune AO k1 C Nh v5⟩
    ·obtain ⟨e',GV,h1⟩:=uF (a:=pos) hF (by omega) N6;refine ⟨([],none,e),Ev.eq (Ev.bind h1 (b:=fun n y1=>bif (y1.2==0) then if AL ((a:Int)+1) then yb (B2 n y1.1 ((a:Int)+1) d e q tree tree.length pos0) (fun y2 o2=>some ([],some y2,o2)) else none else some ([],none,e)) (Ev.now fun n=>?_)) (fun n=>rfl),RP.fail he (by simpa using ha)⟩
     show (bif (e'==0) then _ else _)=_
     rw [zBj.2 GV,zAH]
   obtain ⟨r0,e0,p0⟩:=h1;obtain ⟨r,e1,p1⟩:=Vq (pos0:=pos0) AO e0 p0;refine ⟨r,Ev.step 1 (fun n=>(rfl:_=FG n (B2 n) (Fq (B2 n) pos a d e q tree tree.length pos0 n) pos a d e q tree tree.length pos0)) (Ev.eq e1 fun n=>?_),p1⟩;unfold FG;rw [zAJ (by omega),zAI,zAE ⟨by omega,by omega⟩];simp only [zAL,k1];rfl
  by_cases k2:(tree.getD a default).1=2
  ·have h1: ∃ r,Ev (fun n=>LF n (B2 n) e q tree tree.length pos0 pos a d (tree.getD a default)) r/\ RP tree.length a (fun v l o=>a<v/\ Tk q tree none pos a d e v l (o.set a (v:Int))) r:=by
    by_cases c0:(tree.getD a default).2>=0
    rotate_left
    ·refine ⟨([],none,e),Ev.now fun n=>?_,RP.fail he (by simpa using ha)⟩;unfold LF LE;rw [zAC c0,zAH]
    by_cases c1:(tree.getD a default).2<(pos.length:Int)
    rotate_left
    ·refine ⟨([],none,e),Ev.now fun n=>?_,RP.fail he (by simpa using ha)⟩;unfold LF LE;rw [zAJ c0,zAI,zAC c1,zAH]
    have Pk: ∀ n,pos.length<n -> JI n pos=some (EV pos):=fun n hn=>Sd (by omega) hn
    obtain ⟨c,hc⟩: ∃ c:Nat,(tree.getD a default).2=(c:Int):=⟨(tree.getD a default).2.toNat,by omega⟩;cases JT:EV pos with
    | true=>
     refine ⟨([],none,e),Ev.from (pos.length+1) fun n hn=>?_,RP.fail he (by simpa using ha)⟩;unfold LF LE;rw [zAJ c0,zAI,zAJ c1,zAI,Pk n (by omega),zAF,JT];rfl
    | false=>
     have A2:c<pos.length:=by omega
     obtain ⟨N,hN⟩:=qP (f5 IZ (CT c A2));have hN: ∀ n,N<=n -> Q2 n (pos.getD c 0)=_:=hN
     by_cases h2:2<=(CM (pos.getD c 0) 0).length
     ·obtain ⟨r,⟨M,hM⟩,g1,g2,g3⟩:=pu (pos0:=pos0) (a:=a) (d:=d) (e:=e) (tree:=tree) hF hv hp hc A2 (by omega) (fun p b o hp hb N8 ho=>ih b (d+1) p o (by omega) hp ho (by omega) N8) q.symbols.toNat 0 (a+1) e (by omega) (by omega) (by omega) he;refine ⟨r,Ev.from (N+M+pos.length+1) fun n hn=>?_,g1,by omega,fun x hx=>?_⟩
      ·unfold LF LE;have hN:=hN n (by omega);rw [zAJ c0,zAI,zAJ c1,zAI,Pk n (by omega),zAF,JT,zEG,zAI,zAE ⟨c0,c1⟩,hc,zAL,hN,zAF,zAJ (by omega),zAI,zAE r1];exact hM n n (by omega) (by omega)
      ·obtain ⟨v,rfl,v1,v2,v3,v4⟩:=g3 x hx;exact ⟨v,rfl,by omega,v2,by omega,by omega,.split hp AO (Prod.ext k2 hc) A2 JT h2 v4⟩
     ·refine ⟨([],none,e),Ev.from (N+pos.length+1) fun n hn=>?_,RP.fail he (by simpa using ha)⟩;unfold LF LE;have hN:=hN n (by omega);rw [zAJ c0,zAI,zAJ c1,zAI,Pk n (by omega),zAF,JT,zEG,zAI,zAE ⟨c0,c1⟩,hc,zAL,hN,zAF,zAC (by omega),zAH]
   obtain ⟨r0,e0,p0⟩:=h1;obtain ⟨r,e1,p1⟩:=Vq (pos0:=pos0) AO e0 p0;refine ⟨r,Ev.step 1 (fun n=>(rfl:_=FG n (B2 n) (Fq (B2 n) pos a d e q tree tree.length pos0 n) pos a d e q tree tree.length pos0)) (Ev.eq e1 fun n=>?_),p1⟩;unfold FG;rw [zAJ (by omega),zAI,zAE ⟨by omega,by omega⟩];simp only [zAL,k2];rfl
  by_cases k3:(tree.getD a default).1=3
  ·have h1: ∃ r,Ev (fun n=>QD n (B2 n) e q tree tree.length pos0 pos a d (tree.getD a default)) r/\ RP tree.length a (fun v l o=>a<v/\ Tk q tree none pos a d e v l (o.set a (v:Int))) r:=by
    by_cases c0:(tree.getD a default).2=0
    rotate_left
    ·refine ⟨([],none,e),Ev.now fun n=>?_,RP.fail he (by simpa using ha)⟩;unfold QD QC;rw [zBj.2 c0,zAH]
    have Pk: ∀ n,pos.length<n -> JI n pos=some (EV pos):=fun n hn=>Sd (by omega) hn
    cases JT:EV pos with
    | false=>
     refine ⟨([],none,e),Ev.from (pos.length+1) fun n hn=>?_,RP.fail he (by simpa using ha)⟩;unfold QD QC;rw [c0,zEU,zAI,Pk n (by omega),zAF,JT,zAH]
    | true=>
     refine ⟨([(List.replicate pos.length 0,[],(d:Int))],some ((a:Int)+1),e),Ev.from (pos.length+1) fun n hn=>?_,he,by simp;omega,fun x hx=>?_⟩
     ·unfold QD QC;rw [c0,zEU,zAI,Pk n (by omega),zAF,JT,zAI,zAE ⟨by simp,rfl,by omega,by omega⟩,zAE r1];rfl
     ·cases hx;exact ⟨a+1,by omega,by omega,by omega,by simp;omega,by omega,.dead hp AO (Prod.ext k3 c0) JT⟩
   obtain ⟨r0,e0,p0⟩:=h1;obtain ⟨r,e1,p1⟩:=Vq (pos0:=pos0) AO e0 p0;refine ⟨r,Ev.step 1 (fun n=>(rfl:_=FG n (B2 n) (Fq (B2 n) pos a d e q tree tree.length pos0 n) pos a d e q tree tree.length pos0)) (Ev.eq e1 fun n=>?_),p1⟩;unfold FG;rw [zAJ (by omega),zAI,zAE ⟨by omega,by omega⟩];simp only [zAL,k3];rfl
  by_cases k4:(tree.getD a default).1=4
  ·have h1: ∃ r,Ev (fun n=>MF n (B2 n) e q tree tree.length pos0 pos a d (tree.getD a default)) r/\ RP tree.length a (fun v l o=>a<v/\ Tk q tree none pos a d e v l (o.set a (v:Int))) r:=by
    obtain ⟨N,hS⟩:=qK (pos:=pos) (fun j hj=>f5 IZ (CT j hj)) (by omega);have hS: ∀ n,N<=n -> Us n pos=_:=hS
    by_cases c0:(tree.getD a default).2=0
    rotate_left
    ·refine ⟨([],none,e),Ev.from N fun n hn=>?_,RP.fail he (by simpa using ha)⟩;unfold MF ME;rw [hS n hn,zAF,zBj.2 c0,zAH]
    cases hg:Hg pos with
    | none=>
     refine ⟨([],none,e),Ev.from N fun n hn=>?_,RP.fail he (by simpa using ha)⟩;unfold MF ME;rw [hS n hn,zAF,c0,zEU,zAI,hg];rfl
    | some g=>
     obtain ⟨⟨b,er⟩,⟨M,hM⟩,s1,s2⟩:=qB (q:=q) (g:=g) hF (by have:=fy hg;omega);have hM: ∀ n,M<=n -> LG n q g=some (b,er):=hM
     by_cases lY:er=0
     rotate_left
     ·refine ⟨([],none,e),Ev.from (N+M) fun n hn=>?_,RP.fail he (by simpa using ha)⟩;unfold MF ME;rw [hS n (by omega),zAF,c0,zEU,zAI,hg]
      show (LG n q g).bind _=_
      rw [hM n (by omega),zAF,zBj.2 lY,zAH]
     subst lY;cases b with
     | false=>
      refine ⟨([],none,e),Ev.from (N+M) fun n hn=>?_,RP.fail he (by simpa using ha)⟩;unfold MF ME;rw [hS n (by omega),zAF,c0,zEU,zAI,hg]
      show (LG n q g).bind _=_
      rw [hM n (by omega),zAF];rfl
     | true=>
      refine ⟨([(pos,g,(d:Int))],some ((a:Int)+1),e),Ev.from (N+M) fun n hn=>?_,he,by simp;omega,fun x hx=>?_⟩
      ·unfold MF ME;rw [hS n (by omega),zAF,c0,zEU,zAI,hg]
       show (LG n q g).bind _=_
       rw [hM n (by omega),zAF]
       show yx _ (if _ then _ else none)=_
       rw [zAE r1];rfl
      ·cases hx;exact ⟨a+1,by omega,by omega,by omega,by simp;omega,by omega,.done hp AO (Prod.ext k4 c0) hg ⟨(s1.1 rfl).2,(s2 rfl).1 rfl⟩⟩
   obtain ⟨r0,e0,p0⟩:=h1;obtain ⟨r,e1,p1⟩:=Vq (pos0:=pos0) AO e0 p0;refine ⟨r,Ev.step 1 (fun n=>(rfl:_=FG n (B2 n) (Fq (B2 n) pos a d e q tree tree.length pos0 n) pos a d e q tree tree.length pos0)) (Ev.eq e1 fun n=>?_),p1⟩;unfold FG;rw [zAJ (by omega),zAI,zAE ⟨by omega,by omega⟩];simp only [zAL,k4];rfl
  ·refine ⟨([],none,e),Ev.step 1 (fun n=>(rfl:_=FG n (B2 n) (Fq (B2 n) pos a d e q tree tree.length pos0 n) pos a d e q tree tree.length pos0)) (Ev.now fun n=>?_),RP.fail he (by simpa using ha)⟩;unfold FG;rw [zAJ (by omega),zAI,zAE ⟨by omega,by omega⟩,zAL]
   by_cases k0:(tree.getD a default).1>=1
   ·rw [zAJ k0,zAI,zAC (by omega),zAH]
   ·rw [zAC k0,zAH]
end
end Go.Proofs.YtkjbblkieglmlaaGreatDoor
namespace Go.Proofs.YtkjbblkieglmlaaGreatDoor
open Go.RowKit
set_option maxRecDepth 100000
set_option maxHeartbeats 40000000
def zp (FV:List ((List Int)×(List Int)×Int)) (Ea:Int):DH:=[some (.cells [.ints ((FV.getD ((Ea).toNat) default).1),.ints ((FV.getD ((Ea).toNat) default).2.1),.i ((FV.getD ((Ea).toNat) default).2.2)])]
inductive Xi where
 | l1 (A4:Int) (FV:List ((List Int)×(List Int)×Int)) (Jo Ea:Int)
def zCu (n:Nat) (self:Xi -> Option (Bool×Int)) (q:AA) (pos:List Int) (tree:List (Int×Int)) (AH:List Int) (A4:Int) (FV:List ((List Int)×(List Int)×Int)) (Jo Ea:Int):Option (Bool×Int):=
 bif (decide (Ea<Jo)) then
  if 0<=Ea/\ Ea<(FV.length:Int) then
   bif (decide (((((FV.getD ((Ea).toNat) default).2.1).length:Nat):Int)>0)) then
    if AL (A4+1) then
     (P8 n ((FV.getD ((Ea).toNat) default).2.1) AH).bind fun y1=>
      bif (!y1) then
       some (false,0)
      else
       if AL (Ea+1) then
        self (.l1 (A4+1) FV Jo (Ea+1))
       else none
    else none
   else
    if AL (Ea+1) then
     self (.l1 A4 FV Jo (Ea+1))
    else none
  else none
 else
  some ((A4==(if (AH.length:Int)<1 then (AH.length:Int) else 1)),0)
def zCv (n:Nat) (self:Xi -> Option (Bool×Int)) (q:AA) (pos:List Int) (tree:List (Int×Int)) (AH:List Int):Option (Bool×Int):=
 (Fy n q pos tree).bind fun y1=>
  bif (y1.2.2==280) then
   some (false,0)
  else
   bif (y1.2.2 != 0) then
    some (false,y1.2.2)
   else
    self (.l1 0 y1.1 (y1.1.length:Int) 0)
def ci (q:AA) (pos:List Int) (tree:List (Int×Int)) (AH:List Int):Nat -> Xi -> Option (Bool×Int)
 | 0,_=>none
 | n+1,.l1 A4 FV Jo Ea=>zCu n (ci q pos tree AH n) q pos tree AH A4 FV Jo Ea
def QL (n:Nat) (q:AA) (pos:List Int) (tree:List (Int×Int)) (AH:List Int):Option (Bool×Int):=zCv n (ci q pos tree AH n) q pos tree AH
def zCw (n B:Nat) (N:Yd 0) (q:AA) (pos:List Int) (tree:List (Int×Int)) (AH:List Int) (r:Bool×Int):Xi -> Prop
 | .l1 A4 FV Jo Ea=>∀ m0:Nat,n<=m0 -> TW B N (FQ Tryz.f12 0 (.tup 2 (L1 [.bool r.1,.i r.2])) []) (A3 m0 (BB (AW Tryz.f12) 0 [])) ⟨AG 51 [(3,.ints AH),(12,.i A4),(28,.sl 3 FV.length (AQ (fun (x:(List Int)×(List Int)×Int)=>[.ints x.1,.ints x.2.1,.i x.2.2]) FV)),(29,.i Jo),(30,.i Ea)],[]⟩
theorem zCx (B:Nat) (N:Yd 0) (q:AA) (pos:List Int) (tree:List (Int×Int)) (AH:List Int):Al (ci q pos tree AH) (zCw · B N q pos tree AH):=ia (fun _=>rfl) fun n AJ pt r h=>by
 cases pt
 case l1 A4 FV Jo Ea=>
  intro m0 AE;refine rd AE fun m0 AE=>?_
  revert r;apply gO;exact bi 31 (gi (jt (bi 37 (gw 39 (cf mj (zp FV Ea) fun _=>bi 44 (lE AB [8,9] []) (gw 45 (lG AB [] (AJ _ _ · m0 AE))))) (gw 45 (lG AB [] (AJ _ _ · m0 AE)))))) (lE AB [8,9] [])
theorem T3 {n:Nat} {q:AA} {pos:List Int} {tree:List (Int×Int)} {AH:List Int} {r:Bool×Int} (h:QL n q pos tree AH=some r):EQ 12 [.agg 5 (L1 (AD q)),.ints pos,.sl 2 tree.length (AQ BD tree),.ints AH] [] (.tup 2 (L1 [.bool r.1,.i r.2])) [] true:=by
 refine ot Tryz.func12 fun B N=>?_
 revert r;apply gO;exact cf W5 [some (.cells (AD q))] fun _=>bi 24 (lE AB [8,9] []) (bi 26 (lE AB [8,9] []) (lN AB [] ((zCx B N q pos tree AH n) _ _ · n Nat.le.refl)))
inductive SS where
 | l1 (x7:Int) (x20:List ((List Int)×(List Int)×Int)) (x21:Int)
 | l2 (x6:Nat) (x7:Int) (x20:List ((List Int)×(List Int)×Int)) (x21 CW:Int) (o0:List (List Int))
def V1 (n:Nat) (self:SS -> Option ((List (List Int))×Int)) (q:AA) (pos:List Int) (tree:List (Int×Int)) (x7:Int) (x20:List ((List Int)×(List Int)×Int)) (x21:Int):Option ((List (List Int))×Int):=
 bif (decide (0<x21)) then
  if (0:Int)<=0/\ 0<(x20.length:Int) then
   self (.l2 (([(x20.getD 0 default).1]:List (List Int)).length) x7 x20 x21 1 ([(x20.getD 0 default).1]:List (List Int)))
  else none
 else
  some (([]:List (List Int)),x7)
def SR (n:Nat) (self:SS -> Option ((List (List Int))×Int)) (q:AA) (pos:List Int) (tree:List (Int×Int)) (x6:Nat) (x7:Int) (x20:List ((List Int)×(List Int)×Int)) (x21 CW:Int) (o0:List (List Int)):Option ((List (List Int))×Int):=
 bif (decide (CW<x21)) then
  if (0<=CW/\ CW<(x20.length:Int))/\ x6=o0.length/\ o0.length+([(x20.getD ((CW).toNat) default).1]:List (List Int)).length<=BA/\ AL (CW+1) then
   self (.l2 (o0.length+([(x20.getD ((CW).toNat) default).1]:List (List Int)).length) x7 x20 x21 (CW+1) (o0++([(x20.getD ((CW).toNat) default).1]:List (List Int))))
  else none
 else
  if x6=o0.length then
   some (o0,x7)
  else none
def wC (n:Nat) (self:SS -> Option ((List (List Int))×Int)) (q:AA) (pos:List Int) (tree:List (Int×Int)):Option ((List (List Int))×Int):=
 (Fy n q pos tree).bind fun y1=>
  self (.l1 y1.2.2 y1.1 (y1.1.length:Int))
def JG (q:AA) (pos:List Int) (tree:List (Int×Int)):Nat -> SS -> Option ((List (List Int))×Int)
 | 0,_=>none
 | n+1,.l1 x7 x20 x21=>V1 n (JG q pos tree n) q pos tree x7 x20 x21
 | n+1,.l2 x6 x7 x20 x21 CW o0=>SR n (JG q pos tree n) q pos tree x6 x7 x20 x21 CW o0
def KM (n:Nat) (q:AA) (pos:List Int) (tree:List (Int×Int)):Option ((List (List Int))×Int):=wC n (JG q pos tree n) q pos tree
def wD (n B:Nat) (N:Yd 0) (q:AA) (pos:List Int) (tree:List (Int×Int)) (r:(List (List Int))×Int):SS -> Prop
 | .l1 x7 x20 x21=>∀ m0:Nat,n<=m0 -> TW B N (FQ Tryz.f14 0 (.tup 2 (L1 [.sl 1 r.1.length (AQ BS r.1),.i r.2])) []) (A3 m0 (BB (AW Tryz.f14) 0 [])) ⟨AG 34 [(6,.nils),(7,.i x7),(20,.sl 3 x20.length (AQ (fun (x:(List Int)×(List Int)×Int)=>[.ints x.1,.ints x.2.1,.i x.2.2]) x20)),(21,.i x21),(22,.i 0)],[]⟩
 | .l2 x6 x7 x20 x21 CW o0=>∀ m0:Nat,n<=m0 -> TW B N (FQ Tryz.f14 0 (.tup 2 (L1 [.sl 1 r.1.length (AQ BS r.1),.i r.2])) []) (A3 m0 (BB (AW Tryz.f14) 0 [])) ⟨AG 34 [(6,.msl 0 1 0 x6),(7,.i x7),(20,.sl 3 x20.length (AQ (fun (x:(List Int)×(List Int)×Int)=>[.ints x.1,.ints x.2.1,.i x.2.2]) x20)),(21,.i x21),(22,.i CW)],[some (.arr 1 o0.length (AQ BS o0))]⟩
theorem wE (B:Nat) (N:Yd 0) (q:AA) (pos:List Int) (tree:List (Int×Int)):Al (JG q pos tree) (wD · B N q pos tree):=ia (fun _=>rfl) fun n AJ pt r h=>by
 cases pt
 case l1 x7 x20 x21=>
  intro m0 AE;refine rd AE fun m0 AE=>?_
  revert r;apply gO;exact bi 23 (gi (jt (ja 29 1 1 (Fj (c:=BS) (L:=([(x20.getD 0 default).1]:List (List Int))) (vals:=[.ints ((x20.getD 0 default).1)]) rfl ⟨⟨_,rfl,⟨A5,trivial⟩⟩,trivial⟩) (jg (And.intro (And.intro (And.intro (Eq.refl 0) (Eq.refl 1)) (Vj BS ([(x20.getD 0 default).1]:List (List Int)) (([(x20.getD 0 default).1]:List (List Int)).length) 1 fun _=>⟨rfl,rfl⟩)) (And.intro (by decide:0<1) (by decide:1<=BA))) (lG AB [2] (AJ _ _ · m0 AE)))))) (lF fun p=>el AB [6,7] [] p [] H0 [.nils,.i x7] (AR.tupL (l:=[.nils,.i x7]) (l':=[.sl 1 (([]:List (List Int)).length) (AQ BS ([]:List (List Int))),.i x7]) rfl ⟨(AR.sl_nil _ _),A5,trivial⟩))
 case l2 x6 x7 x20 x21 CW o0=>
  intro m0 AE;refine rd AE fun m0 AE=>?_
  revert r;apply gO;exact bi 23 (gc (gi (jt (ja 29 2 1 (Fj (c:=BS) (L:=([(x20.getD ((CW).toNat) default).1]:List (List Int))) (vals:=[.ints ((x20.getD ((CW).toNat) default).1)]) rfl ⟨⟨_,rfl,⟨A5,trivial⟩⟩,trivial⟩) (gc (gn fun g1=>gc (gn fun g2=>jg (And.intro (And.intro (And.intro (Eq.refl 0) (Eq.refl 1)) (Vj BS ([(x20.getD ((CW).toNat) default).1]:List (List Int)) (([(x20.getD ((CW).toNat) default).1]:List (List Int)).length) 1 fun _=>⟨rfl,rfl⟩)) (And.intro (And.intro (Eq.refl 0) g1) g2)) (ja 30 3 1 (gv (enc:=(m4 BS)) (L:=o0) (L':=([(x20.getD ((CW).toNat) default).1]:List (List Int))) rfl rfl fun _ _ _ _=>A5) (gw 31 (lG AB [3] (AJ _ _ · m0 AE))))))))))) (gn fun g0=>lF fun p=>ez AB [6,7] [0] p [0] (H0.g g0))
theorem SQ {n:Nat} {q:AA} {pos:List Int} {tree:List (Int×Int)} {r:(List (List Int))×Int} (h:KM n q pos tree=some r):EQ 14 [.agg 5 (L1 (AD q)),.ints pos,.sl 2 tree.length (AQ BD tree)] [] (.tup 2 (L1 [.sl 1 r.1.length (AQ BS r.1),.i r.2])) [] true:=by
 refine ot Tryz.func14 fun B N=>?_
 revert r;apply gO;exact cf W5 [some (.cells (AD q))] fun _=>lN AB [] ((wE B N q pos tree n) _ _ · n Nat.le.refl)
def jO (n:Nat) (q:AA) (pos:List Int) (tree:List (Int×Int)) (AF:Int):Option (Int×Int):=
 (Fy n q pos tree).bind fun y1=>
  bif (y1.2.2 != 0) then
   some (0,y1.2.2)
  else
   bif (decide (AF<0)) then
    some (0,1)
   else
    bif (decide (AF>=(y1.2.1.length:Int))) then
     some (0,1)
    else
     if 0<=AF/\ AF<(y1.2.1.length:Int) then
      some (y1.2.1.getD ((AF).toNat) 0,0)
     else none
def KE (n:Nat) (q:AA) (pos:List Int) (tree:List (Int×Int)) (AF:Int):Option (Int×Int):=jO n q pos tree AF
theorem Zt {n:Nat} {q:AA} {pos:List Int} {tree:List (Int×Int)} {AF:Int} {r:Int×Int} (h:KE n q pos tree AF=some r):EQ 16 [.agg 5 (L1 (AD q)),.ints pos,.sl 2 tree.length (AQ BD tree),.i AF] [] (.tup 2 (L1 [.i r.1,.i r.2])) [] true:=by
 unfold KE jO at h;refine ot Tryz.func16 fun B N=>?_
 revert r;apply gO;exact cf W5 [some (.cells (AD q))] fun _=>bi 21 (lE AB [8,9] []) (bi 24 (lE AB [8,9] []) (bi 29 (lE AB [8,9] []) (gi (lE AB [8,9] []))))
inductive XP where
 | l1 (x6 x7:Int) (x20:List ((List Int)×(List Int)×Int)) (x21 CW:Int)
def Tm (n:Nat) (self:XP -> Option (Int×Int)) (q:AA) (pos:List Int) (tree:List (Int×Int)) (x6 x7:Int) (x20:List ((List Int)×(List Int)×Int)) (x21 CW:Int):Option (Int×Int):=
 bif (decide (CW<x21)) then
  if (0<=CW/\ CW<(x20.length:Int))/\ AL (CW+1) then
   self (.l1 (if ((x20.getD ((CW).toNat) default).2.2)>x6 then ((x20.getD ((CW).toNat) default).2.2) else x6) x7 x20 x21 (CW+1))
  else none
 else
  some (x6,x7)
def zCC (n:Nat) (self:XP -> Option (Int×Int)) (q:AA) (pos:List Int) (tree:List (Int×Int)):Option (Int×Int):=
 (Fy n q pos tree).bind fun y1=>
  self (.l1 0 y1.2.2 y1.1 (y1.1.length:Int) 0)
def OI (q:AA) (pos:List Int) (tree:List (Int×Int)):Nat -> XP -> Option (Int×Int)
 | 0,_=>none
 | n+1,.l1 x6 x7 x20 x21 CW=>Tm n (OI q pos tree n) q pos tree x6 x7 x20 x21 CW
def Tn (n:Nat) (q:AA) (pos:List Int) (tree:List (Int×Int)):Option (Int×Int):=zCC n (OI q pos tree n) q pos tree
def zCE (n B:Nat) (N:Yd 0) (q:AA) (pos:List Int) (tree:List (Int×Int)) (r:Int×Int):XP -> Prop
 | .l1 x6 x7 x20 x21 CW=>∀ m0:Nat,n<=m0 -> TW B N (FQ Tryz.f18 0 (.tup 2 (L1 [.i r.1,.i r.2])) []) (A3 m0 (BB (AW Tryz.f18) 0 [])) ⟨AG 33 [(6,.i x6),(7,.i x7),(20,.sl 3 x20.length (AQ (fun (x:(List Int)×(List Int)×Int)=>[.ints x.1,.ints x.2.1,.i x.2.2]) x20)),(21,.i x21),(22,.i CW)],[]⟩
theorem zCF (B:Nat) (N:Yd 0) (q:AA) (pos:List Int) (tree:List (Int×Int)):Al (OI q pos tree) (zCE · B N q pos tree):=ia (fun _=>rfl) fun n AJ pt r h=>by
 cases pt
 case l1 x6 x7 x20 x21 CW=>
  intro m0 AE;refine rd AE fun m0 AE=>?_
  revert r;apply gO;exact bi 23 (gc (gi (jt (gw 30 (lG AB [] (AJ _ _ · m0 AE)))))) (lE AB [6,7] [])
theorem nC {n:Nat} {q:AA} {pos:List Int} {tree:List (Int×Int)} {r:Int×Int} (h:Tn n q pos tree=some r):EQ 18 [.agg 5 (L1 (AD q)),.ints pos,.sl 2 tree.length (AQ BD tree)] [] (.tup 2 (L1 [.i r.1,.i r.2])) [] true:=by
 refine ot Tryz.func18 fun B N=>?_
 revert r;apply gO;exact cf W5 [some (.cells (AD q))] fun _=>lN AB [] ((zCF B N q pos tree n) _ _ · n Nat.le.refl)
end Go.Proofs.YtkjbblkieglmlaaGreatDoor
namespace Go.Proofs.YtkjbblkieglmlaaGreatDoor
open Go.RowKit
set_option maxRecDepth 100000
set_option maxHeartbeats 40000000
theorem qw:Av (Ah Tryz.f23 6) [] (List.range 9) []:=by unfold Av;kernel_rfl
def Q7:Bi:=fun i=>match i with
 | 6=>.ord [] (List.range 9) []
 | _=>.no
inductive U4 where
 | l1 (x5:Int)
def qj (n:Nat) (self:U4 -> Option Bool) (a b_:List Int) (x5:Int):Option Bool:=
 bif (decide (x5<(a.length:Int))) then
  if (0<=x5/\ x5<(a.length:Int))/\ (0<=x5/\ x5<(b_.length:Int)) then
   bif ((a.getD ((x5).toNat) 0) != (b_.getD ((x5).toNat) 0)) then
    some false
   else
    if AL (x5+1) then
     self (.l1 (x5+1))
    else none
  else none
 else
  some true
def qk (n:Nat) (self:U4 -> Option Bool) (a b_:List Int):Option Bool:=
 bif ((a.length:Int) != (b_.length:Int)) then
  some false
 else
  self (.l1 0)
def Yq (a b_:List Int):Nat -> U4 -> Option Bool
 | 0,_=>none
 | n+1,.l1 x5=>qj n (Yq a b_ n) a b_ x5
def gR (n:Nat) (a b_:List Int):Option Bool:=qk n (Yq a b_ n) a b_
def ql (n B:Nat) (N:Yd 0) (a b_:List Int) (r:Bool):U4 -> Prop
 | .l1 x5=>∀ m0:Nat,n<=m0 -> TW B N (FQ Tryz.f23 0 (.bool r) []) (A3 m0 (BB (AW Tryz.f23) 0 [])) ⟨AG 26 [(0,.ints a),(1,.ints b_),(5,.i x5)],[]⟩
theorem qm (B:Nat) (N:Yd 0) (a b_:List Int):Al (Yq a b_) (ql · B N a b_):=ia (fun _=>rfl) fun n AJ pt r h=>by
 cases pt
 case l1 x5=>
  intro m0 AE;refine rd AE fun m0 AE=>?_
  revert r;apply gO;exact bi 14 (jg qw (gc (gi (gi (bi 25 (lE Q7 [4] []) (gw 16 (lG Q7 [] (AJ _ _ · m0 AE)))))))) (lE Q7 [4] [])
theorem qi {n:Nat} {a b_:List Int} {r:Bool} (h:gR n a b_=some r):EQ 23 [.ints a,.ints b_] [] (.bool r) [] true:=by
 refine ot Tryz.func23 fun B N=>?_
 revert r;apply gO;exact bi 10 (lE Q7 [4] []) (lN Q7 [] ((qm B N a b_ n) _ _ · n Nat.le.refl))
theorem qv:Av (Ah Tryz.f20 6) [([0,1,2,3,4,5,6,7],8)] [9] []:=by unfold Av;kernel_rfl
def Q6:Bi:=fun i=>match i with
 | 6=>.ord [([0,1,2,3,4,5,6,7],8)] [9] []
 | _=>.no
inductive U3 where
 | l1 (x5:Int)
def qe (n:Nat) (self:U3 -> Option Bool) (a b_:List (List Int)) (x5:Int):Option Bool:=
 bif (decide (x5<(a.length:Int))) then
  if (0<=x5/\ x5<(a.length:Int))/\ (0<=x5/\ x5<(b_.length:Int)) then
   (gR n (a.getD ((x5).toNat) []) (b_.getD ((x5).toNat) [])).bind fun y1=>
    bif (!y1) then
     some false
    else
     if AL (x5+1) then
      self (.l1 (x5+1))
     else none
  else none
 else
  some true
def qf (n:Nat) (self:U3 -> Option Bool) (a b_:List (List Int)):Option Bool:=
 bif ((a.length:Int) != (b_.length:Int)) then
  some false
 else
  self (.l1 0)
def Yp (a b_:List (List Int)):Nat -> U3 -> Option Bool
 | 0,_=>none
 | n+1,.l1 x5=>qe n (Yp a b_ n) a b_ x5
def gQ (n:Nat) (a b_:List (List Int)):Option Bool:=qf n (Yp a b_ n) a b_
def qg (n B:Nat) (N:Yd 0) (a b_:List (List Int)) (r:Bool):U3 -> Prop
 | .l1 x5=>∀ m0:Nat,n<=m0 -> TW B N (FQ Tryz.f20 0 (.bool r) []) (A3 m0 (BB (AW Tryz.f20) 0 [])) ⟨AG 27 [(0,.sl 1 a.length (AQ BS a)),(1,.sl 1 b_.length (AQ BS b_)),(5,.i x5)],[]⟩
theorem qh (B:Nat) (N:Yd 0) (a b_:List (List Int)):Al (Yp a b_) (qg · B N a b_):=ia (fun _=>rfl) fun n AJ pt r h=>by
 cases pt
 case l1 x5=>
  intro m0 AE;refine rd AE fun m0 AE=>?_
  revert r;apply gO;exact bi 14 (jg qv (gc (gi (gi (cf qi [] fun _=>bi 26 (lE Q6 [4] []) (gw 16 (lG Q6 [] (AJ _ _ · m0 AE)))))))) (lE Q6 [4] [])
theorem qd {n:Nat} {a b_:List (List Int)} {r:Bool} (h:gQ n a b_=some r):EQ 20 [.sl 1 a.length (AQ BS a),.sl 1 b_.length (AQ BS b_)] [] (.bool r) [] true:=by
 refine ot Tryz.func20 fun B N=>?_
 revert r;apply gO;exact bi 10 (lE Q6 [4] []) (lN Q6 [] ((qh B N a b_ n) _ _ · n Nat.le.refl))
def XH (n:Nat) (q:AA) (pos:List Int) (tree:List (Int×Int)):Option Bool:=
 (XG n q).bind fun y1=>
  bif y1 then
   bif (decide ((pos.length:Int)<=20)) then
    some (decide ((tree.length:Int)<=400))
   else
    some false
  else
   some false
def Kn (n:Nat) (q:AA) (pos:List Int) (tree:List (Int×Int)):Option Bool:=XH n q pos tree
theorem mf {n:Nat} {q:AA} {pos:List Int} {tree:List (Int×Int)} {r:Bool} (h:Kn n q pos tree=some r):EQ 11 [.agg 5 (L1 (AD q)),.ints pos,.sl 2 tree.length (AQ BD tree)] [] (.bool r) [] true:=by
 unfold Kn XH at h;refine ot Tryz.func11 fun B N=>?_
 revert r;apply gO;exact cf zBg [some (.cells (AD q))] fun _=>bi 8 (bi 12 (lE AB [6] []) (lE AB [6] [])) (lE AB [6] [])
def pH (n:Nat):Option AA:=
 some (⟨2,2,([1,2]:List Int),([([1]:List Int),([0]:List Int)]:List (List Int)),([(⟨1,([0,1]:List Int),0,0,0,0,([]:List Int),0,0⟩:AC)]:List AC)⟩:AA)
def d8 (n:Nat):Option AA:=pH n
theorem pG {n:Nat} {r:AA} (h:d8 n=some r):EQ 24 [] [] (.agg 5 (L1 (AD r))) [] true:=by
 refine ot Tryz.func24 fun B N=>?_
 revert r;apply gO;exact jz 2 2 (jg (by decide:1=([1]:List Int).length) (jz 3 3 (jg (by decide:1=([0]:List Int).length) (ja 4 4 1 (Fj (c:=BS) (L:=([([1]:List Int),([0]:List Int)]:List (List Int))) (vals:=[.ints ([1]:List Int),.ints ([0]:List Int)]) rfl ⟨⟨_,rfl,⟨A5,trivial⟩⟩,⟨_,rfl,⟨A5,trivial⟩⟩,trivial⟩) (jz 5 5 (jg (by decide:2=([0,1]:List Int).length) (ja 7 6 9 (Fj (c:=AK) (L:=([(⟨1,([0,1]:List Int),0,0,0,0,([]:List Int),0,0⟩:AC)]:List AC)) (vals:=[.agg 9 (L1 [.i 1,.ints ([0,1]:List Int),.i 0,.i 0,.i 0,.i 0,.nils,.i 0,.i 0])]) rfl ⟨⟨_,rfl,⟨A5,A5,A5,A5,A5,A5,AR.ints_nil,A5,A5,trivial⟩⟩,trivial⟩) (jt (lF fun p=>ez AB [0] [0,1,4,6] p [1,2,3] (H0.g (by decide:2=([1,2]:List Int).length) |>.g (by decide:2=([([1]:List Int),([0]:List Int)]:List (List Int)).length) |>.g (Eq.refl 1)))))))))))
def yw (y1:AA):DH:=[some (.cells (AD y1)),some (.ints ([0,0]:List Int)),none,some (.ints ([3,3]:List Int)),some (.ints ([1,2]:List Int)),none,some (.ints ([0,1]:List Int))]
def yu (y1:AA):DH:=[some (.cells (AD y1)),some (.ints ([0,0]:List Int)),none,some (.ints ([3,3]:List Int)),some (.ints ([1,2]:List Int)),none,some (.ints ([0,1]:List Int)),some (.ints ([1,2]:List Int)),none]
def yt (y1:AA):DH:=[some (.cells (AD y1)),none,none,some (.ints ([3,1]:List Int)),some (.ints ([3,1]:List Int)),some (.ints ([3,1]:List Int)),some (.ints ([1,0]:List Int))]
def yq (y1:AA):DH:=[some (.cells (AD y1)),none,none,some (.ints ([3,1]:List Int)),some (.ints ([3,1]:List Int)),some (.ints ([3,1]:List Int)),some (.ints ([1,0]:List Int)),none]
def yp (y1:AA):DH:=[some (.cells (AD y1)),none,none,some (.ints ([3,1]:List Int)),some (.ints ([3,1]:List Int)),some (.ints ([3,1]:List Int)),some (.ints ([1,0]:List Int)),none,none,none,none]
def gP (n:Nat):Option Bool:=
 (d8 n).bind fun y1=>
  (QL n y1 ([0,0]:List Int) ([(3,0)]:List (Int×Int)) ([]:List Int)).bind fun y2=>
   (QL n y1 ([3,3]:List Int) ([]:List (Int×Int)) ([]:List Int)).bind fun y3=>
    (QL n y1 ([1,2]:List Int) ([(4,0)]:List (Int×Int)) ([0,1]:List Int)).bind fun y4=>
     (QL n y1 ([1,2]:List Int) ([(4,0)]:List (Int×Int)) ([]:List Int)).bind fun y5=>
      (KM n y1 ([3,1]:List Int) ([(2,0),(3,0),(4,0)]:List (Int×Int))).bind fun y6=>
       (KM n y1 ([3,1]:List Int) ([(2,0),(1,0),(3,0),(4,0)]:List (Int×Int))).bind fun y7=>
        (Tn n y1 ([3,1]:List Int) ([(2,0),(1,0),(3,0),(4,0)]:List (Int×Int))).bind fun y8=>
         (KE n y1 ([3,1]:List Int) ([(2,0),(1,0),(3,0),(4,0)]:List (Int×Int)) 1).bind fun y9=>
          (QL n y1 ([3,1]:List Int) ([(2,0),(1,0),(3,0),(4,0)]:List (Int×Int)) ([1,0]:List Int)).bind fun X4=>
           (KM n y1 ([3,3]:List Int) ([]:List (Int×Int))).bind fun df=>
            bif (y2.2 != 0) then
             some false
            else
             bif (y3.2 != 0) then
              some false
             else
              bif (y4.2 != 0) then
               some false
              else
               bif (y5.2 != 0) then
                some false
               else
                bif (y6.2 != 280) then
                 some false
                else
                 bif (y7.2 != 0) then
                  some false
                 else
                  bif (y8.2 != 0) then
                   some false
                  else
                   bif (y9.2 != 0) then
                    some false
                   else
                    bif (X4.2 != 0) then
                     some false
                    else
                     bif (df.2 != 280) then
                      some false
                     else
                      bif y2.1 then
                       bif (!y3.1) then
                        bif y4.1 then
                         bif (!y5.1) then
                          (gQ n y7.1 ([([0,0]:List Int),([2,1]:List Int)]:List (List Int))).bind fun oS=>
                           bif oS then
                            bif (y8.1==1) then
                             bif (y9.1==3) then
                              some X4.1
                             else
                              some false
                            else
                             some false
                           else
                            some false
                         else
                          some false
                        else
                         some false
                       else
                        some false
                      else
                       some false
def Mw (n:Nat):Option Bool:=gP n
theorem gM {n:Nat} {r:Bool} (h:Mw n=some r):EQ 10 [] [] (.bool r) [] true:=by
 unfold Mw gP at h;refine ot Tryz.func10 fun B N=>?_
 revert r;apply gO
 exact cf pG [] fun y1=>jt (ja 29 2 2 (Fj (c:=BD) (L:=([(3,0)]:List (Int×Int))) (vals:=[.agg 2 (L1 [.i 3,.i 0])]) rfl ⟨⟨_,rfl,⟨A5,A5,trivial⟩⟩,trivial⟩) (jz 29 2 (jg (by decide:1=([(3,0)]:List (Int×Int)).length) (cn fun y2 Bx=>jc (sb [.agg 5 (L1 (AD y1)),.msl 1 1 0 2,.sl 2 (([(3,0)]:List (Int×Int)).length) (AQ BD ([(3,0)]:List (Int×Int))),.nils] (T3 Bx) [some (.cells (AD y1)),some (.ints ([0,0]:List Int)),none] ⟨Ac.plain (by kernel_rfl),Ac.ints rfl (by decide:2=([0,0]:List Int).length),Ac.plain (by kernel_rfl),Ac.nils,trivial⟩) (cn fun y3 aX=>jc (sb [.agg 5 (L1 (AD y1)),.msl 3 1 0 2,.nils,.nils] (T3 aX) [some (.cells (AD y1)),some (.ints ([0,0]:List Int)),none,some (.ints ([3,3]:List Int))] ⟨Ac.plain (by kernel_rfl),Ac.ints rfl (by decide:2=([3,3]:List Int).length),(Ac.dle (by kernel_rfl) (AR.sl_nil _ _)),Ac.nils,trivial⟩) (ja 43 5 2 (Fj (c:=BD) (L:=([(4,0)]:List (Int×Int))) (vals:=[.agg 2 (L1 [.i 4,.i 0])]) rfl ⟨⟨_,rfl,⟨A5,A5,trivial⟩⟩,trivial⟩) (jz 43 5 (jg (by decide:1=([(4,0)]:List (Int×Int)).length) (cn fun y4 aW=>jc (sb [.agg 5 (L1 (AD y1)),.msl 4 1 0 2,.sl 2 (([(4,0)]:List (Int×Int)).length) (AQ BD ([(4,0)]:List (Int×Int))),.msl 6 1 0 2] (T3 aW) (yw y1) ⟨Ac.plain (by kernel_rfl),Ac.ints rfl (by decide:2=([1,2]:List Int).length),Ac.plain (by kernel_rfl),Ac.ints rfl (by decide:2=([0,1]:List Int).length),trivial⟩) (ja 52 8 2 (Fj (c:=BD) (L:=([(4,0)]:List (Int×Int))) (vals:=[.agg 2 (L1 [.i 4,.i 0])]) rfl ⟨⟨_,rfl,⟨A5,A5,trivial⟩⟩,trivial⟩) (jz 52 8 (jg (by decide:1=([(4,0)]:List (Int×Int)).length) (cn fun y5 aV=>jc (sb [.agg 5 (L1 (AD y1)),.msl 7 1 0 2,.sl 2 (([(4,0)]:List (Int×Int)).length) (AQ BD ([(4,0)]:List (Int×Int))),.nils] (T3 aV) (yu y1) ⟨Ac.plain (by kernel_rfl),Ac.ints rfl (by decide:2=([1,2]:List Int).length),Ac.plain (by kernel_rfl),Ac.nils,trivial⟩) (ja 59 9 2 (Fj (c:=BD) (L:=([(2,0),(3,0),(4,0)]:List (Int×Int))) (vals:=[.agg 2 (L1 [.i 2,.i 0]),.agg 2 (L1 [.i 3,.i 0]),.agg 2 (L1 [.i 4,.i 0])]) rfl ⟨⟨_,rfl,⟨A5,A5,trivial⟩⟩,⟨_,rfl,⟨A5,A5,trivial⟩⟩,⟨_,rfl,⟨A5,A5,trivial⟩⟩,trivial⟩) (fun p r h=>by
  refine gz (AV 7 AB) [0,9] p [1] (H0.g (by decide:3=([(2,0),(3,0),(4,0)]:List (Int×Int)).length)) (Cc (AW Tryz.f10) 7 []) (AG 175 [(1,.ref 0 0),(2,.bool y2.1),(3,.i y2.2),(4,.bool y3.1),(5,.i y3.2),(6,.bool y4.1),(7,.i y4.2),(8,.bool y5.1),(9,.i y5.2),(10,.sl 2 (([(2,0),(3,0),(4,0)]:List (Int×Int)).length) (AQ BD ([(2,0),(3,0),(4,0)]:List (Int×Int))))]) [some (.cells (AD y1)),none] ?_;revert r;apply gO
  exact jz 62 2 (jg (by decide:2=([3,1]:List Int).length) (cf SQ [some (.cells (AD y1)),none,none] fun y6=>ja 71 3 2 (Fj (c:=BD) (L:=([(2,0),(1,0),(3,0),(4,0)]:List (Int×Int))) (vals:=[.agg 2 (L1 [.i 2,.i 0]),.agg 2 (L1 [.i 1,.i 0]),.agg 2 (L1 [.i 3,.i 0]),.agg 2 (L1 [.i 4,.i 0])]) rfl ⟨⟨_,rfl,⟨A5,A5,trivial⟩⟩,⟨_,rfl,⟨A5,A5,trivial⟩⟩,⟨_,rfl,⟨A5,A5,trivial⟩⟩,⟨_,rfl,⟨A5,A5,trivial⟩⟩,trivial⟩) (fun p r h=>by
   refine gz (AV 9 AB) [0,3] p [1] (H0.g (by decide:4=([(2,0),(1,0),(3,0),(4,0)]:List (Int×Int)).length)) (Cc (AW Tryz.f10) 9 []) (AG 175 [(1,.ref 0 0),(2,.bool y2.1),(3,.i y2.2),(4,.bool y3.1),(5,.i y3.2),(6,.bool y4.1),(7,.i y4.2),(8,.bool y5.1),(9,.i y5.2),(12,.i y6.2),(13,.sl 2 (([(2,0),(1,0),(3,0),(4,0)]:List (Int×Int)).length) (AQ BD ([(2,0),(1,0),(3,0),(4,0)]:List (Int×Int))))]) [some (.cells (AD y1)),none] ?_;revert r;apply gO;exact jz 74 2 (jg (by decide:2=([3,1]:List Int).length) (cf SQ [some (.cells (AD y1)),none,none] fun _=>cn fun y8 xZ=>jc (sb [.agg 5 (L1 (AD y1)),.msl 3 1 0 2,.sl 2 (([(2,0),(1,0),(3,0),(4,0)]:List (Int×Int)).length) (AQ BD ([(2,0),(1,0),(3,0),(4,0)]:List (Int×Int)))] (nC xZ) [some (.cells (AD y1)),none,none,some (.ints ([3,1]:List Int))] ⟨Ac.plain (by kernel_rfl),Ac.ints rfl (by decide:2=([3,1]:List Int).length),Ac.plain (by kernel_rfl),trivial⟩) (cn fun y9 xY=>jc (sb [.agg 5 (L1 (AD y1)),.msl 4 1 0 2,.sl 2 (([(2,0),(1,0),(3,0),(4,0)]:List (Int×Int)).length) (AQ BD ([(2,0),(1,0),(3,0),(4,0)]:List (Int×Int))),.i 1] (Zt xY) [some (.cells (AD y1)),none,none,some (.ints ([3,1]:List Int)),some (.ints ([3,1]:List Int))] ⟨Ac.plain (by kernel_rfl),Ac.ints rfl (by decide:2=([3,1]:List Int).length),Ac.plain (by kernel_rfl),Ac.plain (by kernel_rfl),trivial⟩) (cn fun X4 xb=>jc (sb [.agg 5 (L1 (AD y1)),.msl 5 1 0 2,.sl 2 (([(2,0),(1,0),(3,0),(4,0)]:List (Int×Int)).length) (AQ BD ([(2,0),(1,0),(3,0),(4,0)]:List (Int×Int))),.msl 6 1 0 2] (T3 xb) (yt y1) ⟨Ac.plain (by kernel_rfl),Ac.ints rfl (by decide:2=([3,1]:List Int).length),Ac.plain (by kernel_rfl),Ac.ints rfl (by decide:2=([1,0]:List Int).length),trivial⟩) (jz 103 7 (jg (by decide:2=([3,3]:List Int).length) (cn fun df xa=>jc (fb (ES.argsLe (ds:=[.agg 5 (L1 (AD y1)),.ints ([3,3]:List Int),.nils]) (SQ xa) ⟨A5,A5,(AR.sl_nil _ _),trivial⟩) (yq y1)) (bi 108 (lE AB [0] []) (bi 111 (lE AB [0] []) (bi 115 (lE AB [0] []) (bi 119 (lE AB [0] []) (bi 123 (lE AB [0] []) (bi 127 (lE AB [0] []) (bi 131 (lE AB [0] []) (bi 135 (lE AB [0] []) (bi 139 (lE AB [0] []) (bi 143 (lE AB [0] []) (bi 145 (bi 148 (bi 151 (bi 155 (jz 159 8 (jg (by decide:2=([0,0]:List Int).length) (jz 160 9 (jg (by decide:2=([2,1]:List Int).length) (ja 161 10 1 (Fj (c:=BS) (L:=([([0,0]:List Int),([2,1]:List Int)]:List (List Int))) (vals:=[.ints ([0,0]:List Int),.ints ([2,1]:List Int)]) rfl ⟨⟨_,rfl,⟨A5,trivial⟩⟩,⟨_,rfl,⟨A5,trivial⟩⟩,trivial⟩) (jz 161 10 (jg (by decide:2=([([0,0]:List Int),([2,1]:List Int)]:List (List Int)).length) (cf qd (yp y1) fun _=>bi 162 (bi 166 (bi 170 (lE AB [0] []) (lE AB [0] [])) (lE AB [0] [])) (lE AB [0] []))))))))) (lE AB [0] [])) (lE AB [0] [])) (lE AB [0] [])) (lE AB [0] [])))))))))))))))))))))))))))))))))))))
inductive PM where
 | l1 (x7:List (List Int))
 | l2 (x7:List (List Int)) (x9:Nat) (x10 Ad A4 DQ:Int) (o1:List Int)
 | l3 (x7:List (List Int)) (x9:Nat) (x10 Ad:Int) (o1:List Int)
def aB (n:Nat) (self:PM -> Option Bool) (q:AA) (pos:List Int) (tree:List (Int×Int)) (x7:List (List Int)):Option Bool:=
 bif (decide (0<(tree.length:Int))) then
  (KE n q pos tree 0).bind fun y1=>
   bif (y1.2 != 0) then
    some false
   else
    bif (decide (y1.1<=0)) then
     some false
    else
     bif (decide (y1.1>(tree.length:Int))) then
      some false
     else
      bif (y1.1 != (tree.length:Int)) then
       some false
      else
       if (0=0/\ 1=([y1.1]:List Int).length)/\ 0<([y1.1]:List Int).length/\ ([y1.1]:List Int).length<=BA then
        bif (y1.1==1) then
         self (.l2 x7 (([y1.1]:List Int).length) 1 0 y1.1 0 ([y1.1]:List Int))
        else
         self (.l2 x7 (([y1.1]:List Int).length) 0 0 y1.1 0 ([y1.1]:List Int))
       else none
 else
  some (0==(x7.length:Int))
def SV (n:Nat) (self:PM -> Option Bool) (q:AA) (pos:List Int) (tree:List (Int×Int)) (x7:List (List Int)) (x9:Nat) (x10 Ad A4 DQ:Int) (o1:List Int):Option Bool:=
 bif (decide (DQ<Ad)) then
  if (0<=DQ/\ DQ<(x9:Int))/\ 0+((DQ).toNat)<o1.length then
   bif (decide ((o1.getD (0+((DQ).toNat)) 0)>Ad)) then
    bif (decide ((o1.getD (0+((DQ).toNat)) 0)<A4)) then
     some false
    else
     if AL (DQ+1) then
      self (.l2 x7 x9 x10 Ad A4 (DQ+1) o1)
     else none
   else
    if AL (DQ+1) then
     self (.l2 x7 x9 x10 Ad A4 (DQ+1) o1)
    else none
  else none
 else
  if AL (Ad+1) then
   self (.l3 x7 x9 x10 (Ad+1) o1)
  else none
def SU (n:Nat) (self:PM -> Option Bool) (q:AA) (pos:List Int) (tree:List (Int×Int)) (x7:List (List Int)) (x9:Nat) (x10 Ad:Int) (o1:List Int):Option Bool:=
 bif (decide (Ad<(tree.length:Int))) then
  (KE n q pos tree Ad).bind fun y1=>
   bif (y1.2 != 0) then
    some false
   else
    bif (decide (y1.1<=Ad)) then
     some false
    else
     bif (decide (y1.1>(tree.length:Int))) then
      some false
     else
      bif (Ad==0) then
       bif (y1.1 != (tree.length:Int)) then
        some false
       else
        if ((0=0/\ 1=([y1.1]:List Int).length)/\ (0=0/\ x9=o1.length)/\ o1.length+([y1.1]:List Int).length<=BA)/\ AL (Ad+1) then
         bif (y1.1==(Ad+1)) then
          if AL (x10+1) then
           self (.l2 x7 (o1.length+([y1.1]:List Int).length) (x10+1) Ad y1.1 0 (o1++([y1.1]:List Int)))
          else none
         else
          self (.l2 x7 (o1.length+([y1.1]:List Int).length) x10 Ad y1.1 0 (o1++([y1.1]:List Int)))
        else none
      else
       if ((0=0/\ 1=([y1.1]:List Int).length)/\ (0=0/\ x9=o1.length)/\ o1.length+([y1.1]:List Int).length<=BA)/\ AL (Ad+1) then
        bif (y1.1==(Ad+1)) then
         if AL (x10+1) then
          self (.l2 x7 (o1.length+([y1.1]:List Int).length) (x10+1) Ad y1.1 0 (o1++([y1.1]:List Int)))
         else none
        else
         self (.l2 x7 (o1.length+([y1.1]:List Int).length) x10 Ad y1.1 0 (o1++([y1.1]:List Int)))
       else none
 else
  some (x10==(x7.length:Int))
def wJ (n:Nat) (self:PM -> Option Bool) (q:AA) (pos:List Int) (tree:List (Int×Int)):Option Bool:=
 (Mw n).bind fun y1=>
  bif (!y1) then
   some false
  else
   (Kn n q pos tree).bind fun y2=>
    bif (!y2) then
     some true
    else
     bif (decide ((tree.length:Int)>60)) then
      some true
     else
      (KM n q pos tree).bind fun y3=>
       bif (y3.2 != 0) then
        some true
       else
        self (.l1 y3.1)
def Gh (q:AA) (pos:List Int) (tree:List (Int×Int)):Nat -> PM -> Option Bool
 | 0,_=>none
 | n+1,.l1 x7=>aB n (Gh q pos tree n) q pos tree x7
 | n+1,.l2 x7 x9 x10 Ad A4 DQ o1=>SV n (Gh q pos tree n) q pos tree x7 x9 x10 Ad A4 DQ o1
 | n+1,.l3 x7 x9 x10 Ad o1=>SU n (Gh q pos tree n) q pos tree x7 x9 x10 Ad o1
def jx (n:Nat) (q:AA) (pos:List Int) (tree:List (Int×Int)):Option Bool:=wJ n (Gh q pos tree n) q pos tree
def wK (n B:Nat) (N:Yd 0) (q:AA) (pos:List Int) (tree:List (Int×Int)) (r:Bool):PM -> Prop
 | .l1 x7=>∀ m0:Nat,n<=m0 -> TW B N (FQ Tryz.f8 0 (.bool r) []) (A3 m0 (BB (AW Tryz.f8) 0 [])) ⟨AG 106 [(1,.ints pos),(2,.sl 2 tree.length (AQ BD tree)),(3,.ref 0 0),(7,.sl 1 x7.length (AQ BS x7)),(9,.nils),(10,.i 0),(11,.i 0)],[some (.cells (AD q))]⟩
 | .l2 x7 x9 x10 Ad A4 DQ o1=>∀ m0 m1:Nat,n<=m0 -> n<=m1 -> TW B N (FQ Tryz.f8 0 (.bool r) []) (A3 m1 (BB (AW Tryz.f8) 2 [m0])) ⟨AG 106 [(1,.ints pos),(2,.sl 2 tree.length (AQ BD tree)),(3,.ref 0 0),(7,.sl 1 x7.length (AQ BS x7)),(9,.msl 1 1 0 x9),(10,.i x10),(11,.i Ad),(12,.i A4),(14,.i DQ)],[some (.cells (AD q)),some (.ints o1)]⟩
 | .l3 x7 x9 x10 Ad o1=>∀ m0:Nat,n<=m0 -> TW B N (FQ Tryz.f8 0 (.bool r) []) (A3 m0 (BB (AW Tryz.f8) 0 [])) ⟨AG 106 [(1,.ints pos),(2,.sl 2 tree.length (AQ BD tree)),(3,.ref 0 0),(7,.sl 1 x7.length (AQ BS x7)),(9,.msl 1 1 0 x9),(10,.i x10),(11,.i Ad)],[some (.cells (AD q)),some (.ints o1)]⟩
theorem wL (B:Nat) (N:Yd 0) (q:AA) (pos:List Int) (tree:List (Int×Int)):Al (Gh q pos tree) (wK · B N q pos tree):=ia (fun _=>rfl) fun n AJ pt r h=>by
 cases pt
 case l1 x7=>
  intro m0 AE;refine rd AE fun m0 AE=>?_
  revert r;apply gO;exact bi 39 (cf Zt [some (.cells (AD q))] fun _=>bi 51 (lE AB [6] []) (bi 55 (lE AB [6] []) (bi 61 (lE AB [6] []) (bi 70 (lE AB [6] []) (gi (bi 80 (lN AB [0,2] (AJ _ _ · m0 n AE Nat.le.refl)) (lN AB [0,2] (AJ _ _ · m0 n AE Nat.le.refl)))))))) (lE AB [6] [])
 case l2 x7 x9 x10 Ad A4 DQ o1=>
  intro m0 m1 AE Aw;have AE:=zEB AE;refine rd Aw fun m1 Aw=>?_
  revert r;apply gO;exact bi 85 (gc (gn fun g0=>jg g0 (gn fun g1=>jg g1 (bi 93 (jg g0 (jg g1 (bi 100 (lE AB [6] []) (gw 87 (lG AB [0,1] (AJ _ _ · m0 m1 AE Aw)))))) (gw 87 (lG AB [0,1] (AJ _ _ · m0 m1 AE Aw))))))) (gw 41 (lG AB [0,1] (AJ _ _ · m0 AE)))
 case l3 x7 x9 x10 Ad o1=>
  intro m0 AE;refine rd AE fun m0 AE=>?_
  revert r;apply gO;exact bi 39 (cf Zt [some (.cells (AD q)),some (.ints o1)] fun _=>bi 51 (lE AB [6] []) (bi 55 (lE AB [6] []) (bi 61 (lE AB [6] []) (bi 65 (bi 70 (lE AB [6] []) (gc (gi (gw 79 (bi 80 (gw 82 (lN AB [0,3] (AJ _ _ · m0 n AE Nat.le.refl))) (lN AB [0,3] (AJ _ _ · m0 n AE Nat.le.refl))))))) (gc (gi (gw 79 (bi 80 (gw 82 (lN AB [0,3] (AJ _ _ · m0 n AE Nat.le.refl))) (lN AB [0,3] (AJ _ _ · m0 n AE Nat.le.refl)))))))))) (lE AB [6] [])
theorem wI {n:Nat} {q:AA} {pos:List Int} {tree:List (Int×Int)} {r:Bool} (h:jx n q pos tree=some r):EQ 8 [.agg 5 (L1 (AD q)),.ints pos,.sl 2 tree.length (AQ BD tree)] [] (.bool r) [] true:=by
 refine ot Tryz.func8 fun B N=>?_
 revert r;apply gO;exact cf gM [some (.cells (AD q))] fun _=>bi 16 (lE AB [6] []) (cf mf [some (.cells (AD q))] fun _=>bi 21 (lE AB [6] []) (bi 25 (lE AB [6] []) (cf SQ [some (.cells (AD q))] fun _=>bi 35 (lE AB [6] []) (lN AB [0] ((wL B N q pos tree n) _ _ · n Nat.le.refl)))))
inductive SX where
 | l1 (x7:Int) (x9:List (List Int)) (Ad A4:Int)
 | l2 (x7:Int) (x9:List (List Int)) (Ad x13 DQ:Int)
def SW (n:Nat) (self:SX -> Option Bool) (q:AA) (pos:List Int) (tree:List (Int×Int)) (x7:Int) (x9:List (List Int)) (Ad A4:Int):Option Bool:=
 bif (decide (A4<(tree.length:Int))) then
  if 0<=A4/\ A4<(tree.length:Int) then
   bif (((tree.getD ((A4).toNat) default).1)==2) then
    if AL (Ad+1)/\ AL (A4+1) then
     self (.l1 x7 x9 (Ad+1) (A4+1))
    else none
   else
    if AL (A4+1) then
     self (.l1 x7 x9 Ad (A4+1))
    else none
  else none
 else
  self (.l2 x7 x9 Ad 1 0)
def NY (n:Nat) (self:SX -> Option Bool) (q:AA) (pos:List Int) (tree:List (Int×Int)) (x7:Int) (x9:List (List Int)) (Ad x13 DQ:Int):Option Bool:=
 bif (decide (DQ<x7)) then
  bif (decide (x13<(x9.length:Int))) then
   if AL (x13*(if q.symbols>1 then q.symbols else 1))/\ AL (DQ+1) then
    self (.l2 x7 x9 Ad (x13*(if q.symbols>1 then q.symbols else 1)) (DQ+1))
   else none
  else
   bif (decide (x7>=0)) then
    bif (decide (x7<=Ad)) then
     bif (decide ((x9.length:Int)>x7)) then
      bif (decide ((x9.length:Int)<=x13)) then
       some ((decide (Ad>0))==(decide (x7>0)))
      else
       some false
     else
      some false
    else
     some false
   else
    some false
 else
  bif (decide (x7>=0)) then
   bif (decide (x7<=Ad)) then
    bif (decide ((x9.length:Int)>x7)) then
     bif (decide ((x9.length:Int)<=x13)) then
      some ((decide (Ad>0))==(decide (x7>0)))
     else
      some false
    else
     some false
   else
    some false
  else
   some false
def wO (n:Nat) (self:SX -> Option Bool) (q:AA) (pos:List Int) (tree:List (Int×Int)):Option Bool:=
 (Mw n).bind fun y1=>
  bif (!y1) then
   some false
  else
   (Kn n q pos tree).bind fun y2=>
    bif (!y2) then
     some true
    else
     (Tn n q pos tree).bind fun y3=>
      (KM n q pos tree).bind fun y4=>
       bif (y3.2 != 0) then
        bif (y3.1==0) then
         bif ((y4.1.length:Int)==0) then
          some (y3.2==y4.2)
         else
          some false
        else
         some false
       else
        bif (y4.2 != 0) then
         bif (y3.1==0) then
          bif ((y4.1.length:Int)==0) then
           some (y3.2==y4.2)
          else
           some false
         else
          some false
        else
         self (.l1 y3.1 y4.1 0 0)
def Gi (q:AA) (pos:List Int) (tree:List (Int×Int)):Nat -> SX -> Option Bool
 | 0,_=>none
 | n+1,.l1 x7 x9 Ad A4=>SW n (Gi q pos tree n) q pos tree x7 x9 Ad A4
 | n+1,.l2 x7 x9 Ad x13 DQ=>NY n (Gi q pos tree n) q pos tree x7 x9 Ad x13 DQ
def jy (n:Nat) (q:AA) (pos:List Int) (tree:List (Int×Int)):Option Bool:=wO n (Gi q pos tree n) q pos tree
def wP (n B:Nat) (N:Yd 0) (q:AA) (pos:List Int) (tree:List (Int×Int)) (r:Bool):SX -> Prop
 | .l1 x7 x9 Ad A4=>∀ m0:Nat,n<=m0 -> TW B N (FQ Tryz.f9 0 (.bool r) []) (A3 m0 (BB (AW Tryz.f9) 0 [])) ⟨AG 110 [(2,.sl 2 tree.length (AQ BD tree)),(3,.ref 0 0),(7,.i x7),(9,.sl 1 x9.length (AQ BS x9)),(11,.i Ad),(12,.i A4)],[some (.cells (AD q))]⟩
 | .l2 x7 x9 Ad x13 DQ=>∀ m0:Nat,n<=m0 -> TW B N (FQ Tryz.f9 0 (.bool r) []) (A3 m0 (BB (AW Tryz.f9) 2 [])) ⟨AG 110 [(3,.ref 0 0),(7,.i x7),(9,.sl 1 x9.length (AQ BS x9)),(11,.i Ad),(13,.i x13),(14,.i DQ)],[some (.cells (AD q))]⟩
theorem wQ (B:Nat) (N:Yd 0) (q:AA) (pos:List Int) (tree:List (Int×Int)):Al (Gi q pos tree) (wP · B N q pos tree):=ia (fun _=>rfl) fun n AJ pt r h=>by
 cases pt
 case l1 x7 x9 Ad A4=>
  intro m0 AE;refine rd AE fun m0 AE=>?_
  revert r;apply gO;exact bi 57 (gi (bi 65 (gc (gw 67 (gw 59 (lG AB [0] (AJ _ _ · m0 AE))))) (gw 59 (lG AB [0] (AJ _ _ · m0 AE))))) (lN AB [0] (AJ _ _ · n Nat.le.refl))
 case l2 x7 x9 Ad x13 DQ=>
  intro m0 AE;refine rd AE fun m0 AE=>?_
  revert r;apply gO;exact bi 70 (bi 75 (gc (gw 83 (gw 78 (lG AB [0] (AJ _ _ · m0 AE))))) (bi 85 (bi 89 (bi 95 (bi 101 (lE AB [6] []) (lE AB [6] [])) (lE AB [6] [])) (lE AB [6] [])) (lE AB [6] []))) (bi 85 (bi 89 (bi 95 (bi 101 (lE AB [6] []) (lE AB [6] [])) (lE AB [6] [])) (lE AB [6] [])) (lE AB [6] []))
theorem wN {n:Nat} {q:AA} {pos:List Int} {tree:List (Int×Int)} {r:Bool} (h:jy n q pos tree=some r):EQ 9 [.agg 5 (L1 (AD q)),.ints pos,.sl 2 tree.length (AQ BD tree)] [] (.bool r) [] true:=by
 refine ot Tryz.func9 fun B N=>?_
 revert r;apply gO;exact cf gM [some (.cells (AD q))] fun _=>bi 16 (lE AB [6] []) (cf mf [some (.cells (AD q))] fun _=>bi 21 (lE AB [6] []) (cf nC [some (.cells (AD q))] fun _=>cf SQ [some (.cells (AD q))] fun _=>bi 37 (bi 43 (bi 47 (lE AB [6] []) (lE AB [6] [])) (lE AB [6] [])) (bi 40 (bi 43 (bi 47 (lE AB [6] []) (lE AB [6] [])) (lE AB [6] [])) (lN AB [0] ((wQ B N q pos tree n) _ _ · n Nat.le.refl)))))
end Go.Proofs.YtkjbblkieglmlaaGreatDoor
