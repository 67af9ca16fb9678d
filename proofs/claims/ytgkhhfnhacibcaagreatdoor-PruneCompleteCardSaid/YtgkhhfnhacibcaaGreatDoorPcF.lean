/- Part 6 of 6 of what the proofs of these laws stand on. -/
import Derived.Test.YtgkhhfnhacibcaaGreatDoorPcE
import Derived.Test.YtgkhhfnhacibcaaGreatDoorRows
import Derived.ProofKit
import Derived.OpenShut
import Derived.Deep.DeepHandedRow
import Derived.Lib.LaidTab
import Derived.Deep.Slices
import Derived.Stop.LaidErr
import Derived.Test.YtgkhhfnhacibcaaGreatDoorCards
import Derived.Test.YtgkhhfnhacibcaaGreatDoorTie
set_option linter.all false
namespace Go.Proofs.YtgkhhfnhacibcaaGreatDoor
abbrev zAg:=@forall_congr'
end Go.Proofs.YtgkhhfnhacibcaaGreatDoor
namespace Go.Proofs.YtgkhhfnhacibcaaGreatDoor
open Go.RowKit
section
variable {q:AA} {i:Int} {g:List Int} {c:AB}
def RY (c:AB) (b:Nat -> Bool):Nat -> Int×Int -> Prop
 | 0,t=>RV c t
 | m+1,s=>∃ u,nx c s.1 s.2 (b (c.cells.length-1-m))=some u/\ RY c b m u
theorem aW (S:Sv q c g) {a:Nat} (ha:a<c.cells.length) {inn:Bool}:kd c (Af g) a inn=true↔inn=tb c.set (AP c g a):=by
 have hs:AP c g a<64:=by have:=S.lt ha;omega
 unfold kd;rw [S.set ha];cases inn
 ·rw [yO,bne,Sh hs];cases tb c.set (AP c g a) <;> simp
 ·rw [yV,Si hs];cases tb c.set (AP c g a) <;> simp
theorem Vh (S:Sv q c g) {a:Nat} {inn:Bool} (ha:a<c.cells.length): ∀ (m:Nat) (s:Int×Int),m<=c.cells.length -> (RX c (Af g) a inn m s↔RY c (fun a=>tb c.set (AP c g a)) m s/\ (c.cells.length<=a+m -> inn=tb c.set (AP c g a)))
 | 0,s,_=>⟨fun h=>⟨h,fun h=>by omega⟩,fun h=>h.1⟩
 | m+1,s,hm=>by
  constructor
  ·rintro ⟨b,u,h1,h2,h3,h4⟩;obtain rfl:=(aW S (by omega)).1 h1;obtain ⟨h5,h6⟩:=(Vh S ha m u (by omega)).1 h4;refine ⟨⟨u,h3,h5⟩,fun h=>?_⟩
   by_cases e:c.cells.length-1-m=a
   ·rw [←h2 e,e]
   ·exact h6 (by omega)
  ·rintro ⟨⟨u,h3,h5⟩,h6⟩;refine ⟨tb c.set (AP c g (c.cells.length-1-m)),u,(aW S (by omega)).2 rfl,fun e=>?_,h3,(Vh S ha m u (by omega)).2 ⟨h5,fun h=>h6 (by omega)⟩⟩;rw [h6 (by omega),e]
theorem gb (S:Sv q c g) {a:Nat} {inn:Bool} (ha:a<c.cells.length):IM c (Af g) a inn↔RY c (fun a=>tb c.set (AP c g a)) c.cells.length (0,0)/\ inn=tb c.set (AP c g a):=by
 rw [xG ha,Vh S ha _ _ (ym _)];exact ⟨fun h=>⟨h.1,h.2 (by omega)⟩,fun h=>⟨h.1,fun _=>h.2⟩⟩
theorem bG {b:Nat -> Bool} {n:Nat}: ∀ (m:Nat) (l:Int),0<l -> ∃ x r,rl b n m l=x::r/\ l<=x
 | 0,l,h=>⟨l,[],by unfold rl;rw [yP h],zO _⟩
 | m+1,l,h=>by
  unfold rl;cases b (n-1-m)
  ·rw [yO,yP h];exact ⟨l,_,rfl,zO _⟩
  ·rw [yV];obtain ⟨x,r,h1,h2⟩:=bG m (l+1) (by omega);exact ⟨x,r,h1,by omega⟩
theorem gJ {l:List Int} {d:Nat}:l.drop d= []↔l.length<=d:=List.drop_eq_nil_iff
theorem YX {l:List Int} {d:Nat} (h:d<l.length):l.drop d=l.getD d 0::l.drop (d+1):=by
 rw [zF h,u8,yQ h];rfl
theorem SG {b:Nat -> Bool} (h1: ∀ x∈c.runs,1<=x): ∀ (m:Nat) (d l:Int),KG c d l -> (RY c b m (d,l)↔rl b c.cells.length m l=c.runs.drop d.toNat)
 | 0,d,l,h=>by
  obtain ⟨d0,d1,l0,ho⟩:=h;have pos: ∀ j,j<c.runs.length -> 1<=c.runs.getD j 0:=fun j hj=>h1 _ (by rw [u8,yQ hj];exact yw hj)
  show RV c (d,l)↔_
  unfold RV rl;simp only [zv]
  by_cases hl:l>0
  ·obtain ⟨o1,o2⟩:=ho hl;rw [yP hl,YX (by omega)];constructor
   ·rintro (⟨_,e⟩ | ⟨_,e1,e2⟩)
    ·omega
    ·rw [show d.toNat=c.runs.length-1 by omega,←e2,zc (by omega)]
   ·intro e;injection e with e1 e2
    have:=gJ.1 e2.symm;exact .inr ⟨by omega,by omega,by rw [e1,show d.toNat=c.runs.length-1 by omega]⟩
  ·have:l=0:=by omega
   subst this;rw [yb hl,@eq_comm _ ([]:List Int),gJ];constructor
   ·rintro (⟨e,_⟩ | ⟨e0,e1,e2⟩)
    ·omega
    ·have:=pos (c.runs.length-1) (by omega);omega
   ·intro e;exact .inl ⟨by omega,rfl⟩
 | m+1,d,l,h=>by
  have h':=h;obtain ⟨d0,d1,l0,ho⟩:=h;have pos: ∀ j,j<c.runs.length -> 1<=c.runs.getD j 0:=fun j hj=>h1 _ (by rw [u8,yQ hj];exact yw hj)
  show (∃ u,nx c d l (b (c.cells.length-1-m))=some u/\ RY c b m u)↔_
  unfold rl;cases hb:b (c.cells.length-1-m) with
  | true=>
   rw [yV];unfold nx;rw [yV]
   by_cases e:d<(c.runs.length:Int)/\ l<c.runs.getD d.toNat 0
   ·rw [yP e,←SG h1 m d (l+1) ⟨d0,d1,by omega,fun _=>⟨e.1,by omega⟩⟩];exact ⟨fun ⟨u,e1,e2⟩=>by cases e1;exact e2,fun h=>⟨_,rfl,h⟩⟩
   ·rw [yb e];refine ⟨fun ⟨u,e1,_⟩=>by (cases e1),fun hx=>?_⟩;obtain ⟨x,r,e1,e2⟩:=bG (b:=b) (n:=c.cells.length) m (l+1) (by omega);rw [e1] at hx
    by_cases hd:d.toNat<c.runs.length
    ·rw [YX hd] at hx;injection hx with hx _
     exact absurd ⟨by omega,by omega⟩ e
    ·rw [zc (by omega)] at hx;cases hx
  | false=>
   rw [yO];unfold nx;rw [yO]
   by_cases hl:l>0
   ·obtain ⟨o1,o2⟩:=ho hl;rw [yb (by omega),yP hl,YX (by omega)]
    by_cases e:l=c.runs.getD d.toNat 0
    ·rw [yP e,←e];have:=SG (b:=b) h1 m (d+1) 0 ⟨by omega,by omega,zO _,fun h=>by omega⟩;rw [show (d+1).toNat=d.toNat+1 by omega] at this;constructor
     ·rintro ⟨u,e1,e2⟩;cases e1;rw [this.1 e2]
     ·intro hx;injection hx with _ hx
      exact ⟨_,rfl,this.2 hx⟩
    ·rw [yb e];refine ⟨fun ⟨u,e1,_⟩=>by (cases e1),fun hx=>?_⟩;injection hx with hx _
     exact absurd hx e
   ·have:l=0:=by omega
    subst this;rw [yP rfl,yb hl,←SG h1 m d 0 h'];exact ⟨fun ⟨u,e1,e2⟩=>by cases e1;exact e2,fun h=>⟨_,rfl,h⟩⟩
theorem kH (S:Sv q c g) (h1: ∀ x∈c.runs,1<=x) (hk:c.kind=5):Bx q c g↔CO q c (Af g)/\ ∀ a,a<c.cells.length -> ¬ BU q c (Af g) a (AP c g a):=by
 have key:=SG (b:=fun a=>tb c.set (AP c g a)) h1 c.cells.length 0 0 ⟨zO _,by omega,zO _,fun h=>by omega⟩;refine TD (M:=rl (fun a=>tb c.set (AP c g a)) c.cells.length c.cells.length 0=c.runs) (A:=Ie c=true) (B:=RY c (fun a=>tb c.set (AP c g a)) c.cells.length (0,0)) hk ?_ ?_ (fun a ha=>?_) ?_
 ·unfold Bx;rw [hk];simp
 ·unfold CO;rw [hk];simp
 ·have e:BU q c (Af g) a (AP c g a)↔Hs c (Af g) a (AP c g a):=by unfold BU;rw [hk];simp
  rw [e];unfold Hs;rw [gb S ha,gb S ha];cases tb c.set (AP c g a) <;> simp
 ·rw [key];unfold Ie
  show _↔_/\ (_ -> rl _ _ _ _=c.runs.drop 0)
  rw [zAr];rcases zAD c.cells.length with e | e
  ·rw [e]
   show ([]:List Int)=c.runs↔(c.runs.length==0)=true/\ _
   rw [yo,List.length_eq_zero_iff];exact ⟨fun h=>⟨h.symm,fun h=>absurd h (Nat.lt_irrefl 0)⟩,fun h=>h.1.symm⟩
  ·rw [zl.2 (by omega:c.cells.length≠0)];exact ⟨fun h=>⟨rfl,fun _=>h⟩,fun h=>h.2 e⟩
theorem VX (S:Sv q c g):pB c (Af g)=B7 c g/\ cB c (Af g)=B7 c g:=by
 have h: ∀ s∈g,s.toNat<64:=fun s hs=>by
  obtain ⟨j,hj,rfl⟩:=zk hs;have:=S.G.lt S.v hj;rw [u8,yQ hj] at this;have:g[j].toNat<16:=this.2;omega
 unfold pB cB B7 Af;rw [List.map_map,List.map_map];exact ⟨List.map_congr_left fun s hs=>Si (h s hs) _,List.map_congr_left fun s hs=>Sh (h s hs) _⟩
theorem ii (W:EE c q (Af g)) {a:Nat} (ha:a<g.length):AP c g a=(g.getD a 0).toNat:=by
 unfold AP;rw [W.id a (by rw [Dn];exact ha),yU]
theorem fx (S:Sv q c g) (W:EE c q (Af g)):(∀ a,a<c.cells.length -> ¬ El c q (Af g) a (AP c g a))↔G7 q.nbrs (B7 c g):=by
 obtain ⟨m1,m2⟩:=VX S;have hl:=W.len;have DB:=W.gl;have hG:=W.g.gr;rw [Dn] at hl DB;unfold El;rw [m1,m2];constructor
 ·intro h u v hu hv mu mv;obtain ⟨r,_,hr⟩:=QL (l:=B7 c g) (by rw [Nk];have:=W.l1;rw [Dn] at this;exact this);have Cz:=hr;rcases hr with ⟨_,h0⟩ | ⟨h0,h1,h2,_⟩
  ·have:=h0 u (by rw [Nk];omega);rw [mu] at this;cases this
  ·rw [Nk] at h1;have go: ∀ w:Nat,w<q.nbrs.length -> (B7 c g).getD w false=true -> Rc q.nbrs (B7 c g) r w:=fun w hw mw=>Classical.byContradiction fun hn=>h w (by omega) ⟨mw,by rw [ii W (by omega),←Wb (by omega)];exact mw,r,h0,Cz,hn⟩
   exact ((go u hu mu).symm hG h0 (by omega) h2).trans (go v hv mv)
 ·rintro h a ha ⟨h1,_,r,h0,hr,hn⟩;rcases hr with ⟨e,_⟩ | ⟨_,r1,r2,_⟩
  ·omega
  ·rw [Nk] at r1;have:=h r.toNat a (by omega) (by omega) r2 h1;rw [show ((r.toNat:Nat):Int)=r by omega] at this;exact hn this
theorem kP (S:Sv q c g) (W:EE c q (Af g)) (hk:c.kind=8):Bx q c g↔CO q c (Af g)/\ ∀ a,a<c.cells.length -> ¬ BU q c (Af g) a (AP c g a):=by
 obtain ⟨m1,m2⟩:=VX S;have hM:Bx q c g↔G7 q.nbrs (B7 c g):=by unfold Bx;rw [hk];simp
 have hO:CO q c (Af g):=by unfold CO;rw [hk];simp
 rw [hM,←fx S W,and_iff_right hO];refine zAg fun a=>zAg fun ha=>not_congr ?_
 have e:BU q c (Af g) a (AP c g a)↔Gz c q (Af g) a (AP c g a):=by unfold BU;rw [hk];simp
 rw [e];unfold Gz;refine ⟨.inl,fun h=>h.elim id fun ⟨h1,h2,_⟩=>?_⟩;rw [m1] at h1;rw [m2,h1] at h2;cases h2
theorem kL (S:Sv q c g) (W:EE c q (Af g)) (hk:c.kind=9):Bx q c g↔CO q c (Af g)/\ ∀ a,a<c.cells.length -> ¬ BU q c (Af g) a (AP c g a):=by
 obtain ⟨m1,m2⟩:=VX S;have hl:=W.len;rw [Dn] at hl;have hM:Bx q c g↔G7 q.nbrs (B7 c g)/\ ∀ v,v<g.length -> (B7 c g).getD v false=true -> CE q.nbrs (B7 c g) v=2:=by unfold Bx;rw [hk];simp
 have hO:CO q c (Af g)↔∀ v,v<g.length -> (B7 c g).getD v false=true -> CE q.nbrs (B7 c g) v=2:=by
  have:CO q c (Af g)↔MG c q (Af g):=by unfold CO;rw [hk];simp
  rw [this];unfold MG;rw [m1,m2,Dn];refine zAg fun v=>zAg fun _=>zAg fun _=>by omega
 rw [hM,hO,←fx S W,and_comm];refine and_congr Iff.rfl (zAg fun a=>zAg fun ha=>not_congr ?_);have e:BU q c (Af g) a (AP c g a)↔Kw c q (Af g) a (AP c g a):=by unfold BU;rw [hk];simp
 rw [e];unfold Kw WZ;refine ⟨.inl,fun h=>h.elim id ?_⟩;rintro ⟨v,_,_,_,h1,⟨_,h2⟩ | ⟨_,h2,_⟩⟩
 ·rw [m1,Wb (by omega),←ii W (by omega),h2] at h1;cases h1
 ·rw [m1] at h1;rw [m2,h1] at h2;cases h2
theorem Wd (C:Bj q i (Af g)) (G:Gd q g):(Bx q (con q i) g -> GE q (con q i) (Af g)/\ PR q (con q i) (Af g) (Af g))/\ (¬ Bx q (con q i) g -> ¬ GE q (con q i) (Af g)):=by
 have S:=C.sv G;have hd:GA (Af g)=false:=JE.2 S.nz;refine kM S ?_;rcases ML (MK C.kind) with hk | hk | hk | hk | hk | hk | hk | hk | hk
 ·exact kN S hk
 ·exact kO S hk
 ·exact kG S C.vals hk
 ·exact kI S C.work C.vals hk
 ·refine kH S (fun x hx=>?_) hk;have h:=C.fine;unfold Ek at h;simp only [yT,ye] at h;exact (Rf.1 h.2 x hx).1
 ·exact kQ S (C.two (.inl hk)) hk
 ·exact kJ S (C.two (.inr hk)) hk
 ·exact kP S (C.all (.inl hk) hd) hk
 ·exact kL S (C.all (.inr hk) hd) hk
end
end Go.Proofs.YtgkhhfnhacibcaaGreatDoor
namespace Go.Proofs.YtgkhhfnhacibcaaGreatDoor
open Go.RowKit
section
variable {g:List (List Int)} {inn:List Bool}
def yN (g:List (List Int)) (inn:List Bool) (r:List (List Int)×Int):Prop:=r.2=0/\ (r.1.length=0↔∀ v,v<g.length -> inn.getD v false=false)/\ (r.1.length<=1↔G7 g inn)
theorem V8 {part:List Int} {Bp:Int} (h:Pt g inn g.length part Bp):(Bp=0↔∀ v,v<g.length -> inn.getD v false=false)/\ (Bp<=1↔G7 g inn):=by
 have m0:=h.m0;constructor
 ·constructor
  ·intro e v hv;cases hb:inn.getD v false with
   | false=>rfl
   | true=>
    have:=h.all v hv hv hb;have:=(h.lo v hv).2;omega
  ·intro hn;refine Classical.byContradiction fun Ap=>?_
   obtain ⟨v,h1,h2⟩:=h.sur 1 (by decide) (by omega);have:=h.isIn v h1 (by omega);rw [hn v h1] at this;cases this
 ·constructor
  ·intro e u v hu hv mu mv;have a1:=h.all u hu hu mu;have a2:=h.all v hv hv mv;have b1:=(h.lo u hu).2;have b2:=(h.lo v hv).2;exact h.con u v hu hv a1 (by omega)
  ·intro hC;refine Classical.byContradiction fun Ap=>?_
   obtain ⟨u,u1,u2⟩:=h.sur 1 (by decide) (by omega);obtain ⟨v,v1,v2⟩:=h.sur 2 (by decide) (by omega);have:=h.same u v u1 v1 (by omega) (hC u v u1 v1 (h.isIn u u1 (by omega)) (h.isIn v v1 (by omega)));omega
theorem Yh (G:Gr g) {part:List Int} {Bp:Int} (hP:Pt g inn g.length part Bp): ∀ (k j:Nat) (o:List (List Int)) (n:Nat),j+k=part.length -> o.length=Bp.toNat -> (∀ r,(o.getD r default).length<=j) -> k+1<=n ->
 ∃ o',KC g inn n (.l1 Bp.toNat part (part.length:Int) (j:Int) o)=some (o',0)/\ o'.length=Bp.toNat
 | 0,j,o,n,e,ho,hr,hn=>by
  obtain ⟨n,rfl⟩: ∃ k,n=k+1:=⟨n-1,by omega⟩;refine ⟨o,?_,ho⟩
  show Mz n (KC g inn n) g inn Bp.toNat part (part.length:Int) (j:Int) o=_
  unfold Mz;rw [yS (by omega),yO,yP ho.symm]
 | k+1,j,o,n,e,ho,hr,hn=>by
  obtain ⟨n,rfl⟩: ∃ k,n=k+1:=⟨n-1,by omega⟩;have Ay:=hP.len;have hG:=G.len;have hlo:=hP.lo j (by omega);have L:(1000000000000:Nat)=Ax:=rfl;have r1:AL ((j:Int)+1):=A2.2 ⟨by omega,by omega⟩;have hm:=hP.m1
  by_cases h0:part.getD j 0>0
  ·have hrj:=hr (0+(part.getD j 0-1).toNat)
   have key:=Yh G hP k (j+1) (o.set (0+(part.getD j 0-1).toNat) (o.getD (0+(part.getD j 0-1).toNat) default++[(j:Int)])) n (by omega) (by rw [yu];exact ho) (fun r=>by
    by_cases er:0+(part.getD j 0-1).toNat=r
    ·subst er;rw [u8,zd (by omega),z8,yz,zE];omega
    ·have:=hr r;rw [u8,zU er,←u8];omega) (by omega)
   obtain ⟨o',h1,h2⟩:=key;refine ⟨o',?_,h2⟩;rw [←h1]
   show Mz n (KC g inn n) g inn Bp.toNat part (part.length:Int) (j:Int) o=_
   unfold Mz;rw [yW (by omega),yV,yP ⟨by omega,by omega⟩,yU,yW h0,yV,yP ⟨A2.2 ⟨by omega,by omega⟩,⟨by omega,by omega⟩,by omega,by rw [zE,←L];omega,r1⟩,show ((j+1:Nat):Int)=(j:Int)+1 by omega]
  ·obtain ⟨o',h1,h2⟩:=Yh G hP k (j+1) o n (by omega) ho (fun r=>by have:=hr r;omega) (by omega);refine ⟨o',?_,h2⟩;rw [←h1]
   show Mz n (KC g inn n) g inn Bp.toNat part (part.length:Int) (j:Int) o=_
   unfold Mz;rw [yW (by omega),yV,yP ⟨by omega,by omega⟩,yU,yS h0,yO,yP r1,show ((j+1:Nat):Int)=(j:Int)+1 by omega]
theorem wz (G:Hh g) (hI:inn.length=g.length):Ae (fun n=>Ui n g inn) (yN g inn):=by
 have hG:=G.gr.len;have h0:=T7 G (sets:=[inn]) (fun x hx=>by rw [yp] at hx;rw [hx,hI]) (by simp);refine Ae.bind h0 (b:=fun n y1=>bif (y1 != 0) then some (([]:List (List Int)),y1) else (parts n g inn).bind fun y2=>if (y2.2:Int)=y2.2/\ 0<=y2.2/\ (y2.2:Int)<=1000000000000 then KC g inn n (.l1 y2.2.toNat y2.1 (y2.1.length:Int) 0 (List.replicate y2.2.toNat [])) else none) ?_;refine Ae.bindU (WH G.gr hI) (b:=fun n y2=>if (y2.2:Int)=y2.2/\ 0<=y2.2/\ (y2.2:Int)<=1000000000000 then KC g inn n (.l1 y2.2.toNat y2.1 (y2.1.length:Int) 0 (List.replicate y2.2.toNat [])) else none) ⟨g.length+1,fun n hn r hP=>?_⟩;obtain ⟨part,Bp⟩:=r;have hP:Pt g inn g.length part Bp:=hP;have m0:=hP.m0;have m1:=hP.m1;have Ay:=hP.len
 obtain ⟨o',h1,h2⟩:=Yh G.gr hP part.length 0 (List.replicate Bp.toNat []) n (by omega) yi (fun r=>by
  rw [u8,zj];split <;> exact ym 0) (by omega)
 refine ⟨(o',0),?_,rfl,?_,?_⟩
 ·rw [yP ⟨rfl,m0,by show Bp<=_;omega⟩];exact h1
 ·rw [←(V8 hP).1,h2];omega
 ·rw [←(V8 hP).2,h2];omega
/-! ### Rings-/
theorem pP (G:Hh g) {v:Nat} (hv:v<g.length):(nb g v).Pairwise (· < ·)/\ (v:Int)∉nb g v:=by
 have h:=G.ok;unfold J5 at h;rw [yT,ya] at h;have hr:=h.2 v (yh.2 hv);unfold Ih at hr;rw [ya] at hr;have e:nb g v=g.getD v []:=by unfold nb;rw [yU]
 rw [e]
 generalize g.getD v []=l at hr
 have Ba: ∀ k,k<l.length -> l.getD k 0≠v/\ (0<k -> l.getD (k-1) 0<l.getD k 0):=fun k hk=>by
  have:=hr k (yh.2 hk);unfold Gm at this;simp only [yT,zl,ne_eq,yk,zM,za,ye] at this;exact ⟨this.1.1.2,fun h=>this.1.2.resolve_left fun hn=>hn h⟩
 have rN: ∀ d i,i+d+1<l.length -> l.getD i 0<l.getD (i+d+1) 0:=by
  intro d
  induction d with
  | zero=>intro i hi;exact (Ba (i+1) hi).2 (by omega)
  | succ d ih=>
   intro i hi;have h1:=ih i (by omega);have h2:=(Ba (i+(d+1)+1) hi).2 (by omega);rw [show i+(d+1)+1-1=i+d+1 by omega] at h2;omega
 constructor
 ·rw [zA0];intro i j hi hj OD;have:=rN (j-i-1) i (by omega);rw [show i+(j-i-1)+1=j by omega] at this;simpa [u8,hi,hj] using this
 ·intro hm;obtain ⟨k,hk,e⟩:=zk hm;refine (Ba k hk).1 ?_;rw [u8,yQ hk];exact e
theorem jT (G:Hh g) {v:Nat} (hv:v<g.length) (mv:inn.getD v false=true) (hd:CE g inn v=2):3<=(List.range g.length).countP fun x=>inn.getD x false:=by
 obtain ⟨hs,hn⟩:=pP G hv;have hr:=G.gr.rng v (by omega) (by omega);have dP:((nb g v).filter fun x=>inn.getD x.toNat false).length=2:=by rw [←List.countP_eq_length_filter];exact hd
 have Ju:=hs.filter (fun x=>inn.getD x.toNat false);have hm: ∀ x∈(nb g v).filter fun x=>inn.getD x.toNat false,x∈nb g v/\ inn.getD x.toNat false=true:=fun x hx=>zAQ.1 hx
 generalize ((nb g v).filter fun x=>inn.getD x.toNat false)=F at dP Ju hm
 match F,dP with
 | [x,y],_=>
  have Tg:x<y:=by
   rw [zA6] at Ju;exact Ju.1 y (by simp)
  obtain ⟨x1,x2⟩:=hm x (by simp);obtain ⟨y1,y2⟩:=hm y (by simp);have xr:=hr x x1;have yr:=hr y y1;have xv:x≠v:=fun e=>hn (e▸x1)
  have yv:y≠v:=fun e=>hn (e▸y1)
  have a1:=My (f:=fun z=>inn.getD z false&&!(z==v)) (g:=fun z=>inn.getD z false) (a:=v) (by simp) mv (List.range g.length) (fun z _ hz=>by rw [yT] at hz;exact hz.1) (yh.2 hv);have a2:=My (f:=fun z=>(inn.getD z false&&!(z==v))&&!(z==x.toNat)) (g:=fun z=>inn.getD z false&&!(z==v)) (a:=x.toNat) (by simp) (by rw [x2];simp;omega) (List.range g.length) (fun z _ hz=>by rw [yT] at hz;exact hz.1) (yh.2 (by omega));have a3:=My (f:=fun z=>((inn.getD z false&&!(z==v))&&!(z==x.toNat))&&!(z==y.toNat)) (g:=fun z=>(inn.getD z false&&!(z==v))&&!(z==x.toNat)) (a:=y.toNat) (by simp) (by rw [y2];simp;omega) (List.range g.length) (fun z _ hz=>by rw [yT] at hz;exact hz.1) (yh.2 (by omega));omega
def ir (g:List (List Int)) (inn:List Bool) (r:Bool×Int):Prop:=r.2=0/\ (r.1=true↔(∀ v,v<g.length -> inn.getD v false=true -> CE g inn v=2)/\ (∃ v,v<g.length/\ inn.getD v false=true)/\ G7 g inn)
theorem bT (hI:inn.length=g.length) {x6 x23:Int} {row:List Int} (hr: ∀ u∈row,0<=u/\ u<(g.length:Int)) (hl:row.length<=256): ∀ (k j:Nat),j+k=row.length -> Bz (Gg g inn) (.l2 x6 (((row.take j).countP fun x=>inn.getD x.toNat false:Nat):Int) x23 row (row.length:Int) (j:Int)) (.l2 x6 ((row.countP fun x=>inn.getD x.toNat false:Nat):Int) x23 row (row.length:Int) (row.length:Int))
 | 0,j,e=>by
  have:j=row.length:=by omega
  subst this;rw [List.take_length];exact Bz.refl
 | k+1,j,e=>by
  have hj:j<row.length:=by omega
  have hm:=hr (row.getD j 0) (by rw [u8,yQ hj];exact yw hj);have hc:=zAk (p:=fun x:Int=>inn.getD x.toNat false) (l:=row.take j);rw [List.length_take] at hc;have tk:row.take (j+1)=row.take j++[row.getD j 0]:=by rw [zAU hj];simp [hj]
  have ih:=bT hI (x6:=x6) (x23:=x23) hr hl k (j+1) (by omega);rw [tk,List.countP_append,zBK] at ih;refine Bz.trans (Bz.one fun n=>?_) ih
  show Lu n (Gg g inn n) g inn x6 _ x23 row (row.length:Int) (j:Int)=_
  unfold Lu;rw [yW (by omega),yV,yU,yP ⟨⟨by omega,by omega⟩,hm.1,by omega⟩,show ((j+1:Nat):Int)=(j:Int)+1 by omega];cases inn.getD (row.getD j 0).toNat false
  ·rw [yO,yP (A2.2 ⟨by omega,by omega⟩)];simp
  ·rw [yV,yP ⟨A2.2 ⟨by omega,by omega⟩,A2.2 ⟨by omega,by omega⟩⟩];simp
theorem Vv (G:Hh g) (hI:inn.length=g.length): ∀ (k v:Nat),v+k=g.length -> (∀ u,u<v -> inn.getD u false=true -> CE g inn u=2) -> Ae (fun n=>Gg g inn n (.l1 (((List.range v).countP fun x=>inn.getD x false:Nat):Int) (v:Int))) (ir g inn)
 | 0,v,e,hd=>by
  have:v=g.length:=by omega
  subst this;refine Ae.step 1 (g:=fun n=>(parts n g inn).bind fun y1=>bif decide ((((List.range g.length).countP fun x=>inn.getD x false:Nat):Int)>=3) then some ((y1.2==1),(0:Int)) else some (false,0)) (fun n=>?_) ?_
  ·show Lv n (Gg g inn n) g inn _ (g.length:Int)=_
   unfold Lv;rw [yS (by omega),yO]
  ·refine Ae.bindU (WH G.gr hI) (b:=fun n y1=>bif decide ((((List.range g.length).countP fun x=>inn.getD x false:Nat):Int)>=3) then some ((y1.2==1),(0:Int)) else some (false,0)) ⟨0,fun n _ r hP=>?_⟩;obtain ⟨part,Bp⟩:=r;obtain ⟨p1,p2⟩:=V8 hP;have m0:=hP.m0
   by_cases h3:(((List.range g.length).countP fun x=>inn.getD x false:Nat):Int)>=3
   ·rw [yW h3,yV];refine ⟨_,rfl,rfl,?_⟩
    show (Bp==1)=true↔_
    rw [yo];constructor
    ·intro e1;refine ⟨hd,?_,p2.1 (by omega)⟩;refine Classical.byContradiction fun hn=>?_
     have:=p1.2 fun v hv=>by
      cases hb:inn.getD v false with
      | false=>rfl
      | true=>exact absurd ⟨v,hv,hb⟩ hn
     have m0:0<=Bp:=m0;have:Bp=0:=this;omega
    ·rintro ⟨_,⟨v,hv,mv⟩,hC⟩;have h1:=p2.2 hC
     have h0: ¬ Bp=0:=fun e=>by
      have:=p1.1 e v hv;rw [mv] at this;cases this
     have m0:0<=Bp:=m0;have h1:Bp<=1:=h1;omega
   ·rw [yS h3,yO];refine ⟨_,rfl,rfl,?_⟩;refine zAV (by decide) ?_;rintro ⟨uh,⟨v,hv,mv⟩,_⟩;have:=jT G hv mv (uh v hv mv);omega
 | k+1,v,e,hd=>by
  have hv:v<g.length:=by omega
  have hG:=G.gr.len;have r1:AL ((v:Int)+1):=A2.2 ⟨by omega,by omega⟩
  have ec:(((List.range (v+1)).countP fun x=>inn.getD x false:Nat):Int)=(((List.range v).countP fun x=>inn.getD x false:Nat):Int)+(if inn.getD v false then 1 else 0):=by
   rw [List.range_succ,List.countP_append,zBK];split <;> simp
  have Bo:=zAk (p:=fun x=>inn.getD x false) (l:=List.range v);rw [zAl] at Bo;cases hb:inn.getD v false with
  | false=>
   have ih:=Vv G hI k (v+1) (by omega) fun u hu mu=>by
    rcases yd.1 hu with hu | rfl
    ·exact hd u hu mu
    ·rw [hb] at mu;cases mu
   rw [ec,hb] at ih;refine Bz.pev (Bz.one fun n=>?_) ih
   show Lv n (Gg g inn n) g inn _ (v:Int)=_
   unfold Lv;rw [yW (by omega),yV,yP ⟨⟨by omega,by omega⟩,by omega,by omega⟩,yU,hb,zg,yV,yP r1,show ((v+1:Nat):Int)=(v:Int)+1 by omega];simp
  | true=>
   have MY:=G.gr.row v (by omega) (by omega);have Nz:=G.gr.rng v (by omega) (by omega);have en:nb g v=g.getD v []:=by unfold nb;rw [yU]
   refine Bz.pev (Bz.one (b:=.l2 ((((List.range v).countP fun x=>inn.getD x false:Nat):Int)+1) 0 (v:Int) (nb g v) ((nb g v).length:Int) 0) fun n=>?_) ?_
   ·show Lv n (Gg g inn n) g inn _ (v:Int)=_
    unfold Lv;rw [yW (by omega),yV,yP ⟨⟨by omega,by omega⟩,by omega,by omega⟩,yU,hb,zS,yO,yP (A2.2 ⟨by omega,by omega⟩),en]
   ·have fG:=bT hI (x6:=(((List.range v).countP fun x=>inn.getD x false:Nat):Int)+1) (x23:=(v:Int)) Nz MY (nb g v).length 0 (by omega);rw [List.take_zero,List.countP_nil] at fG;refine Bz.pev fG ?_
    by_cases h2:CE g inn v=2
    ·have ih:=Vv G hI k (v+1) (by omega) fun u hu mu=>by
      rcases yd.1 hu with hu | rfl
      ·exact hd u hu mu
      ·exact h2
     rw [ec,hb,yP rfl] at ih;refine Bz.pev (Bz.one fun n=>?_) ih
     show Lu n (Gg g inn n) g inn _ ((CE g inn v:Nat):Int) (v:Int) (nb g v) ((nb g v).length:Int) ((nb g v).length:Int)=_
     unfold Lu;rw [yS (by omega),yO,h2]
     show (if AL ((v:Int)+1) then _ else _)=_
     rw [yP r1,show ((v+1:Nat):Int)=(v:Int)+1 by omega]
    ·refine Ev.p (Ev.one (r:=(false,0)) fun n=>?_) ⟨rfl,zAV (by decide) fun h=>h2 (h.1 v hv hb)⟩
     show Lu n (Gg g inn n) g inn _ ((CE g inn v:Nat):Int) (v:Int) (nb g v) ((nb g v).length:Int) ((nb g v).length:Int)=_
     unfold Lu;rw [yS (by omega),yO,zl.2 (by omega:((CE g inn v:Nat):Int)≠2),yV]
theorem nT (G:Hh g) (hI:inn.length=g.length):Ae (fun n=>NW n g inn) (ir g inn):=by
 have h0:=T7 G (sets:=[inn]) (fun x hx=>by rw [yp] at hx;rw [hx,hI]) (by simp);refine Ae.bind h0 (b:=fun n y1=>bif (y1 != 0) then some (false,y1) else Gg g inn n (.l1 0 0)) ?_;exact Vv G hI g.length 0 (by omega) fun u hu=>absurd hu (yg u)
end
end Go.Proofs.YtgkhhfnhacibcaaGreatDoor
namespace Go.Proofs.YtgkhhfnhacibcaaGreatDoor
open Go.RowKit
section
variable {q:AA} {U:Int -> Prop} {p x y z:List Int} {i TL:Int}
end
end Go.Proofs.YtgkhhfnhacibcaaGreatDoor
namespace Go.Proofs.YtgkhhfnhacibcaaGreatDoor
open Go.RowKit
set_option maxRecDepth 100000
set_option maxHeartbeats 40000000
def eH (Cn Bn:Int) (F1:List Int) (Ee:List (List Int)) (Ed:List AB):DH:=[some (.cells [.i Cn,.i Bn,.ints F1,.sl 1 Ee.length (Aq At Ee),.sl 9 Ed.length (Aq AG Ed)]),some (.ints ([1,3,7]:List Int)),some (.ints ([1,2,6]:List Int))]
def si (Cn Bn:Int) (F1:List Int) (Ee:List (List Int)) (Ed:List AB):DH:=[some (.cells [.i Cn,.i Bn,.ints F1,.sl 1 Ee.length (Aq At Ee),.sl 9 Ed.length (Aq AG Ed)]),some (.ints ([1,3,7]:List Int)),some (.ints ([1,2,6]:List Int)),some (.ints ([2,3,3]:List Int)),some (.ints ([2,1,1]:List Int))]
def sh:DH:=[some (.ints ([1,3,3]:List Int)),some (.ints ([1,2,2]:List Int)),some (.ints ([2,2,3]:List Int)),some (.ints ([0,0,0]:List Int))]
def sf:DH:=[some (.ints ([7,7]:List Int)),some (.ints ([3,3]:List Int)),some (.ints ([7,7]:List Int)),some (.ints ([3,6]:List Int))]
def se:DH:=[none,some (.ints ([3,3,3]:List Int)),some (.ints ([3,2,3]:List Int)),some (.ints ([7,7]:List Int)),some (.ints ([5,5]:List Int))]
def sd:DH:=[some (.ints ([1,3]:List Int)),some (.ints ([1,2]:List Int)),some (.ints ([2,3,2]:List Int)),some (.ints ([2,2,2]:List Int))]
def sc:DH:=[some (.ints ([3,2,3]:List Int)),some (.ints ([2,2,2]:List Int)),some (.ints ([2,2,2]:List Int)),some (.ints ([0,0,0]:List Int))]
inductive Id where
 | l1 (Cn Bn:Int) (F1:List Int) (Ee:List (List Int)) (Ed:List AB)
 | l2 (Ah:Bool)
 | l3 (Ah An:Bool)
 | l4 (Ah An A3:Bool)
 | l5 (Ah An A3 x13:Bool)
 | l6 (Ah An A3 x13 CG:Bool)
 | l7 (Ah An A3 x13 CG BX:Bool)
def kn (n:Nat) (self:Id -> Option Bool) (Cn Bn:Int) (F1:List Int) (Ee:List (List Int)) (Ed:List AB):Option Bool:=
 (GW n (⟨Cn,Bn,F1,Ee,Ed⟩:AA) ([1,3,7]:List Int) ([1,2,6]:List Int)).bind fun y1=>
  bif y1 then
   (GM n 3 2 2 2 0 1 1 ([]:List Int) 0 0).bind fun y2=>
    (GW n y2 ([2,3,3]:List Int) ([2,1,1]:List Int)).bind fun y3=>
     self (.l2 y3)
  else
   self (.l2 false)
def km (n:Nat) (self:Id -> Option Bool) (Ah:Bool):Option Bool:=
 (GM n 3 2 2 2 0 2 3 ([]:List Int) 0 0).bind fun y1=>
  (GW n y1 ([1,3,3]:List Int) ([1,2,2]:List Int)).bind fun y2=>
   bif y2 then
    (GM n 3 2 2 2 0 0 1 ([]:List Int) 0 0).bind fun y3=>
     (GW n y3 ([2,2,3]:List Int) ([0,0,0]:List Int)).bind fun y4=>
      self (.l3 Ah y4)
   else
    self (.l3 Ah false)
def kj (n:Nat) (self:Id -> Option Bool) (Ah An:Bool):Option Bool:=
 (GM n 2 3 3 0 0 0 3 ([]:List Int) 0 0).bind fun y1=>
  (GW n y1 ([7,7]:List Int) ([3,3]:List Int)).bind fun y2=>
   bif y2 then
    (GM n 2 3 4 0 0 0 0 ([]:List Int) 0 0).bind fun y3=>
     (GW n y3 ([7,7]:List Int) ([3,6]:List Int)).bind fun y4=>
      self (.l4 Ah An y4)
   else
    self (.l4 Ah An false)
def ki (n:Nat) (self:Id -> Option Bool) (Ah An A3:Bool):Option Bool:=
 (GM n 3 2 5 2 0 0 0 ([2]:List Int) 0 0).bind fun y1=>
  (GW n y1 ([3,3,3]:List Int) ([3,2,3]:List Int)).bind fun y2=>
   bif y2 then
    (GM n 2 3 6 0 0 2 0 ([]:List Int) 0 0).bind fun y3=>
     (GW n y3 ([7,7]:List Int) ([5,5]:List Int)).bind fun y4=>
      self (.l5 Ah An A3 y4)
   else
    self (.l5 Ah An A3 false)
def kg (n:Nat) (self:Id -> Option Bool) (Ah An A3 x13:Bool):Option Bool:=
 (GM n 2 2 7 1 1 0 0 ([]:List Int) 0 0).bind fun y1=>
  (GW n y1 ([1,3]:List Int) ([1,2]:List Int)).bind fun y2=>
   bif y2 then
    (GM n 3 2 8 2 0 0 0 ([]:List Int) 0 0).bind fun y3=>
     (GW n y3 ([2,3,2]:List Int) ([2,2,2]:List Int)).bind fun y4=>
      self (.l6 Ah An A3 x13 y4)
   else
    self (.l6 Ah An A3 x13 false)
def kf (n:Nat) (self:Id -> Option Bool) (Ah An A3 x13 CG:Bool):Option Bool:=
 (GM n 3 2 9 2 0 0 0 ([]:List Int) 0 0).bind fun y1=>
  (GW n y1 ([3,2,3]:List Int) ([2,2,2]:List Int)).bind fun y2=>
   bif y2 then
    (GM n 3 2 9 2 0 0 0 ([]:List Int) 0 0).bind fun y3=>
     (GW n y3 ([2,2,2]:List Int) ([0,0,0]:List Int)).bind fun y4=>
      self (.l7 Ah An A3 x13 CG y4)
   else
    self (.l7 Ah An A3 x13 CG false)
def ke (n:Nat) (self:Id -> Option Bool) (Ah An A3 x13 CG BX:Bool):Option Bool:=
 bif Ah then
  bif An then
   bif A3 then
    bif x13 then
     bif CG then
      some BX
     else
      some false
    else
     some false
   else
    some false
  else
   some false
 else
  some false
def ko (n:Nat) (self:Id -> Option Bool):Option Bool:=
 (GM n 3 3 1 0 0 0 0 ([]:List Int) 0 0).bind fun y1=>
  (dE n y1 0 ([1,3,7]:List Int)).bind fun y2=>
   (GM n 2 3 3 0 0 0 3 ([]:List Int) 0 0).bind fun y3=>
    (MJ n y3 0).bind fun y4=>
     (Hv n y1 1 ([1,3,7]:List Int)).bind fun y5=>
      (MJ n (⟨0,0,([]:List Int),([]:List (List Int)),([]:List AB)⟩:AA) 0).bind fun y6=>
       bif (y2.2 != 0) then
        some false
       else
        bif (y4.2 != 0) then
         some false
        else
         bif (y4.1 != 2) then
          some false
         else
          bif (y5.2 != 260) then
           some false
          else
           bif (y6.2 != 191) then
            some false
           else
            (ao n y2.1 ([(1,0),(2,0)]:List (Int×Int))).bind fun y7=>
             bif (!y7) then
              some false
             else
              self (.l1 y1.cells y1.symbols y1.values y1.nbrs y1.cons)
def Ja:Nat -> Id -> Option Bool
 | 0,_=>none
 | n+1,.l1 Cn Bn F1 Ee Ed=>kn n (Ja n) Cn Bn F1 Ee Ed
 | n+1,.l2 Ah=>km n (Ja n) Ah
 | n+1,.l3 Ah An=>kj n (Ja n) Ah An
 | n+1,.l4 Ah An A3=>ki n (Ja n) Ah An A3
 | n+1,.l5 Ah An A3 x13=>kg n (Ja n) Ah An A3 x13
 | n+1,.l6 Ah An A3 x13 CG=>kf n (Ja n) Ah An A3 x13 CG
 | n+1,.l7 Ah An A3 x13 CG BX=>ke n (Ja n) Ah An A3 x13 CG BX
def NO (n:Nat):Option Bool:=ko n (Ja n)
def kr (n B:Nat) (N:Yd 0) (r:Bool):Id -> Prop
 | .l1 Cn Bn F1 Ee Ed=>TW B N (FQ Tryz.f22 0 (.bool r) []) (CW (Ab Tryz.f22) 8 []) ⟨AM 155 [(1,.ref 0 0)],[some (.cells [.i Cn,.i Bn,.ints F1,.sl 1 Ee.length (Aq At Ee),.sl 9 Ed.length (Aq AG Ed)])]⟩
 | .l2 Ah=>TW B N (FQ Tryz.f22 0 (.bool r) []) (CW (Ab Tryz.f22) 9 []) ⟨AM 155 [(10,.bool Ah)],[]⟩
 | .l3 Ah An=>TW B N (FQ Tryz.f22 0 (.bool r) []) (CW (Ab Tryz.f22) 10 []) ⟨AM 155 [(10,.bool Ah),(11,.bool An)],[]⟩
 | .l4 Ah An A3=>TW B N (FQ Tryz.f22 0 (.bool r) []) (CW (Ab Tryz.f22) 11 []) ⟨AM 155 [(10,.bool Ah),(11,.bool An),(12,.bool A3)],[]⟩
 | .l5 Ah An A3 x13=>TW B N (FQ Tryz.f22 0 (.bool r) []) (CW (Ab Tryz.f22) 12 []) ⟨AM 155 [(10,.bool Ah),(11,.bool An),(12,.bool A3),(13,.bool x13)],[]⟩
 | .l6 Ah An A3 x13 CG=>TW B N (FQ Tryz.f22 0 (.bool r) []) (CW (Ab Tryz.f22) 13 []) ⟨AM 155 [(10,.bool Ah),(11,.bool An),(12,.bool A3),(13,.bool x13),(14,.bool CG)],[]⟩
 | .l7 Ah An A3 x13 CG BX=>TW B N (FQ Tryz.f22 0 (.bool r) []) (CW (Ab Tryz.f22) 14 []) ⟨AM 155 [(10,.bool Ah),(11,.bool An),(12,.bool A3),(13,.bool x13),(14,.bool CG),(15,.bool BX)],[]⟩
theorem kw (B:Nat) (N:Yd 0):Al (Ja) (kr · B N):=ia (fun _=>rfl) fun n AH pt r h=>by
 cases pt
 case l1 Cn Bn F1 Ee Ed=>
  revert r;apply gO;exact cn fun y1 BB=>jc (sb [.agg 5 (L1 [.i Cn,.i Bn,.ints F1,.sl 1 Ee.length (Aq At Ee),.sl 9 Ed.length (Aq AG Ed)]),.msl 1 1 0 3,.msl 2 1 0 3] (Ha BB) (eH Cn Bn F1 Ee Ed) ⟨Aa.plain (by kernel_rfl),Aa.ints rfl (by decide:3=([1,3,7]:List Int).length),Aa.ints rfl (by decide:3=([1,2,6]:List Int).length),trivial⟩) (bi 70 (cn fun y2 Bq=>jc (fb (ES.argsLe (ds:=[.i 3,.i 2,.agg 9 (L1 [.i 2,.nils,.i 2,.i 0,.i 1,.i 1,.nils,.i 0,.i 0])]) (Gp Bq) ⟨AK,AK,(AS.aggL (l:=[.i 2,.nils,.i 2,.i 0,.i 1,.i 1,.nils,.i 0,.i 0]) (l':=[.i 2,.nils,.i 2,.i 0,.i 1,.i 1,.ints ([]:List Int),.i 0,.i 0]) rfl ⟨AK,AK,AK,AK,AK,AK,AS.ints_nil,AK,AK,trivial⟩),trivial⟩) (eH Cn Bn F1 Ee Ed)) (cn fun y3 F3=>jc (sb [.agg 5 (L1 (AE y2)),.msl 3 1 0 3,.msl 4 1 0 3] (Ha F3) (si Cn Bn F1 Ee Ed) ⟨Aa.plain (by kernel_rfl),Aa.ints rfl (by decide:3=([2,3,3]:List Int).length),Aa.ints rfl (by decide:3=([2,1,1]:List Int).length),trivial⟩) (lG (AI 14 (AI 13 (AI 12 (AI 11 (AI 10 (AI 9 AF)))))) [] (AH _ _ ·)))) (lG (AI 14 (AI 13 (AI 12 (AI 11 (AI 10 (AI 9 AF)))))) [] (AH _ _ ·)))
 case l2 Ah=>
  revert r;apply gO;exact cn fun y1 BB=>jc (fb (ES.argsLe (ds:=[.i 3,.i 2,.agg 9 (L1 [.i 2,.nils,.i 2,.i 0,.i 2,.i 3,.nils,.i 0,.i 0])]) (Gp BB) ⟨AK,AK,(AS.aggL (l:=[.i 2,.nils,.i 2,.i 0,.i 2,.i 3,.nils,.i 0,.i 0]) (l':=[.i 2,.nils,.i 2,.i 0,.i 2,.i 3,.ints ([]:List Int),.i 0,.i 0]) rfl ⟨AK,AK,AK,AK,AK,AK,AS.ints_nil,AK,AK,trivial⟩),trivial⟩) []) (cn fun y2 Bq=>jc (sb [.agg 5 (L1 (AE y1)),.msl 0 1 0 3,.msl 1 1 0 3] (Ha Bq) [some (.ints ([1,3,3]:List Int)),some (.ints ([1,2,2]:List Int))] ⟨Aa.plain (by kernel_rfl),Aa.ints rfl (by decide:3=([1,3,3]:List Int).length),Aa.ints rfl (by decide:3=([1,2,2]:List Int).length),trivial⟩) (bi 82 (cn fun y3 F3=>jc (fb (ES.argsLe (ds:=[.i 3,.i 2,.agg 9 (L1 [.i 2,.nils,.i 2,.i 0,.i 0,.i 1,.nils,.i 0,.i 0])]) (Gp F3) ⟨AK,AK,(AS.aggL (l:=[.i 2,.nils,.i 2,.i 0,.i 0,.i 1,.nils,.i 0,.i 0]) (l':=[.i 2,.nils,.i 2,.i 0,.i 0,.i 1,.ints ([]:List Int),.i 0,.i 0]) rfl ⟨AK,AK,AK,AK,AK,AK,AS.ints_nil,AK,AK,trivial⟩),trivial⟩) [some (.ints ([1,3,3]:List Int)),some (.ints ([1,2,2]:List Int))]) (cn fun y4 H6=>jc (sb [.agg 5 (L1 (AE y3)),.msl 2 1 0 3,.msl 3 1 0 3] (Ha H6) sh ⟨Aa.plain (by kernel_rfl),Aa.ints rfl (by decide:3=([2,2,3]:List Int).length),Aa.ints rfl (by decide:3=([0,0,0]:List Int).length),trivial⟩) (lG (AI 14 (AI 13 (AI 12 (AI 11 (AI 10 (AI 8 AF)))))) [] (AH _ _ ·)))) (lG (AI 14 (AI 13 (AI 12 (AI 11 (AI 10 (AI 8 AF)))))) [] (AH _ _ ·))))
 case l3 Ah An=>
  revert r;apply gO;exact cn fun y1 BB=>jc (fb (ES.argsLe (ds:=[.i 2,.i 3,.agg 9 (L1 [.i 3,.nils,.i 0,.i 0,.i 0,.i 3,.nils,.i 0,.i 0])]) (Gp BB) ⟨AK,AK,(AS.aggL (l:=[.i 3,.nils,.i 0,.i 0,.i 0,.i 3,.nils,.i 0,.i 0]) (l':=[.i 3,.nils,.i 0,.i 0,.i 0,.i 3,.ints ([]:List Int),.i 0,.i 0]) rfl ⟨AK,AK,AK,AK,AK,AK,AS.ints_nil,AK,AK,trivial⟩),trivial⟩) []) (cn fun y2 Bq=>jc (sb [.agg 5 (L1 (AE y1)),.msl 0 1 0 2,.msl 1 1 0 2] (Ha Bq) [some (.ints ([7,7]:List Int)),some (.ints ([3,3]:List Int))] ⟨Aa.plain (by kernel_rfl),Aa.ints rfl (by decide:2=([7,7]:List Int).length),Aa.ints rfl (by decide:2=([3,3]:List Int).length),trivial⟩) (bi 94 (cn fun y3 F3=>jc (fb (ES.argsLe (ds:=[.i 2,.i 3,.agg 9 (L1 [.i 4,.nils,.i 0,.i 0,.i 0,.i 0,.nils,.i 0,.i 0])]) (Gp F3) ⟨AK,AK,(AS.aggL (l:=[.i 4,.nils,.i 0,.i 0,.i 0,.i 0,.nils,.i 0,.i 0]) (l':=[.i 4,.nils,.i 0,.i 0,.i 0,.i 0,.ints ([]:List Int),.i 0,.i 0]) rfl ⟨AK,AK,AK,AK,AK,AK,AS.ints_nil,AK,AK,trivial⟩),trivial⟩) [some (.ints ([7,7]:List Int)),some (.ints ([3,3]:List Int))]) (cn fun y4 H6=>jc (sb [.agg 5 (L1 (AE y3)),.msl 2 1 0 2,.msl 3 1 0 2] (Ha H6) sf ⟨Aa.plain (by kernel_rfl),Aa.ints rfl (by decide:2=([7,7]:List Int).length),Aa.ints rfl (by decide:2=([3,6]:List Int).length),trivial⟩) (lG (AI 14 (AI 13 (AI 12 (AI 11 (AI 9 (AI 8 AF)))))) [] (AH _ _ ·)))) (lG (AI 14 (AI 13 (AI 12 (AI 11 (AI 9 (AI 8 AF)))))) [] (AH _ _ ·))))
 case l4 Ah An A3=>
  revert r;apply gO;exact jz 102 0 (jg (by decide:1=([2]:List Int).length) (cf Gp [none] fun y1=>cn fun y2 Bq=>jc (sb [.agg 5 (L1 (AE y1)),.msl 1 1 0 3,.msl 2 1 0 3] (Ha Bq) [none,some (.ints ([3,3,3]:List Int)),some (.ints ([3,2,3]:List Int))] ⟨Aa.plain (by kernel_rfl),Aa.ints rfl (by decide:3=([3,3,3]:List Int).length),Aa.ints rfl (by decide:3=([3,2,3]:List Int).length),trivial⟩) (bi 107 (cn fun y3 F3=>jc (fb (ES.argsLe (ds:=[.i 2,.i 3,.agg 9 (L1 [.i 6,.nils,.i 0,.i 0,.i 2,.i 0,.nils,.i 0,.i 0])]) (Gp F3) ⟨AK,AK,(AS.aggL (l:=[.i 6,.nils,.i 0,.i 0,.i 2,.i 0,.nils,.i 0,.i 0]) (l':=[.i 6,.nils,.i 0,.i 0,.i 2,.i 0,.ints ([]:List Int),.i 0,.i 0]) rfl ⟨AK,AK,AK,AK,AK,AK,AS.ints_nil,AK,AK,trivial⟩),trivial⟩) [none,some (.ints ([3,3,3]:List Int)),some (.ints ([3,2,3]:List Int))]) (cn fun y4 H6=>jc (sb [.agg 5 (L1 (AE y3)),.msl 3 1 0 2,.msl 4 1 0 2] (Ha H6) se ⟨Aa.plain (by kernel_rfl),Aa.ints rfl (by decide:2=([7,7]:List Int).length),Aa.ints rfl (by decide:2=([5,5]:List Int).length),trivial⟩) (lG (AI 14 (AI 13 (AI 12 (AI 10 (AI 9 (AI 8 AF)))))) [] (AH _ _ ·)))) (lG (AI 14 (AI 13 (AI 12 (AI 10 (AI 9 (AI 8 AF)))))) [] (AH _ _ ·)))))
 case l5 Ah An A3 x13=>
  revert r;apply gO;exact cn fun y1 BB=>jc (fb (ES.argsLe (ds:=[.i 2,.i 2,.agg 9 (L1 [.i 7,.nils,.i 1,.i 1,.i 0,.i 0,.nils,.i 0,.i 0])]) (Gp BB) ⟨AK,AK,(AS.aggL (l:=[.i 7,.nils,.i 1,.i 1,.i 0,.i 0,.nils,.i 0,.i 0]) (l':=[.i 7,.nils,.i 1,.i 1,.i 0,.i 0,.ints ([]:List Int),.i 0,.i 0]) rfl ⟨AK,AK,AK,AK,AK,AK,AS.ints_nil,AK,AK,trivial⟩),trivial⟩) []) (cn fun y2 Bq=>jc (sb [.agg 5 (L1 (AE y1)),.msl 0 1 0 2,.msl 1 1 0 2] (Ha Bq) [some (.ints ([1,3]:List Int)),some (.ints ([1,2]:List Int))] ⟨Aa.plain (by kernel_rfl),Aa.ints rfl (by decide:2=([1,3]:List Int).length),Aa.ints rfl (by decide:2=([1,2]:List Int).length),trivial⟩) (bi 119 (cn fun y3 F3=>jc (fb (ES.argsLe (ds:=[.i 3,.i 2,.agg 9 (L1 [.i 8,.nils,.i 2,.i 0,.i 0,.i 0,.nils,.i 0,.i 0])]) (Gp F3) ⟨AK,AK,(AS.aggL (l:=[.i 8,.nils,.i 2,.i 0,.i 0,.i 0,.nils,.i 0,.i 0]) (l':=[.i 8,.nils,.i 2,.i 0,.i 0,.i 0,.ints ([]:List Int),.i 0,.i 0]) rfl ⟨AK,AK,AK,AK,AK,AK,AS.ints_nil,AK,AK,trivial⟩),trivial⟩) [some (.ints ([1,3]:List Int)),some (.ints ([1,2]:List Int))]) (cn fun y4 H6=>jc (sb [.agg 5 (L1 (AE y3)),.msl 2 1 0 3,.msl 3 1 0 3] (Ha H6) sd ⟨Aa.plain (by kernel_rfl),Aa.ints rfl (by decide:3=([2,3,2]:List Int).length),Aa.ints rfl (by decide:3=([2,2,2]:List Int).length),trivial⟩) (lG (AI 14 (AI 13 (AI 11 (AI 10 (AI 9 (AI 8 AF)))))) [] (AH _ _ ·)))) (lG (AI 14 (AI 13 (AI 11 (AI 10 (AI 9 (AI 8 AF)))))) [] (AH _ _ ·))))
 case l6 Ah An A3 x13 CG=>
  revert r;apply gO;exact cn fun y1 BB=>jc (fb (ES.argsLe (ds:=[.i 3,.i 2,.agg 9 (L1 [.i 9,.nils,.i 2,.i 0,.i 0,.i 0,.nils,.i 0,.i 0])]) (Gp BB) ⟨AK,AK,(AS.aggL (l:=[.i 9,.nils,.i 2,.i 0,.i 0,.i 0,.nils,.i 0,.i 0]) (l':=[.i 9,.nils,.i 2,.i 0,.i 0,.i 0,.ints ([]:List Int),.i 0,.i 0]) rfl ⟨AK,AK,AK,AK,AK,AK,AS.ints_nil,AK,AK,trivial⟩),trivial⟩) []) (cn fun y2 Bq=>jc (sb [.agg 5 (L1 (AE y1)),.msl 0 1 0 3,.msl 1 1 0 3] (Ha Bq) [some (.ints ([3,2,3]:List Int)),some (.ints ([2,2,2]:List Int))] ⟨Aa.plain (by kernel_rfl),Aa.ints rfl (by decide:3=([3,2,3]:List Int).length),Aa.ints rfl (by decide:3=([2,2,2]:List Int).length),trivial⟩) (bi 131 (cn fun y3 F3=>jc (fb (ES.argsLe (ds:=[.i 3,.i 2,.agg 9 (L1 [.i 9,.nils,.i 2,.i 0,.i 0,.i 0,.nils,.i 0,.i 0])]) (Gp F3) ⟨AK,AK,(AS.aggL (l:=[.i 9,.nils,.i 2,.i 0,.i 0,.i 0,.nils,.i 0,.i 0]) (l':=[.i 9,.nils,.i 2,.i 0,.i 0,.i 0,.ints ([]:List Int),.i 0,.i 0]) rfl ⟨AK,AK,AK,AK,AK,AK,AS.ints_nil,AK,AK,trivial⟩),trivial⟩) [some (.ints ([3,2,3]:List Int)),some (.ints ([2,2,2]:List Int))]) (cn fun y4 H6=>jc (sb [.agg 5 (L1 (AE y3)),.msl 2 1 0 3,.msl 3 1 0 3] (Ha H6) sc ⟨Aa.plain (by kernel_rfl),Aa.ints rfl (by decide:3=([2,2,2]:List Int).length),Aa.ints rfl (by decide:3=([0,0,0]:List Int).length),trivial⟩) (lG (AI 14 (AI 12 (AI 11 (AI 10 (AI 9 (AI 8 AF)))))) [] (AH _ _ ·)))) (lG (AI 14 (AI 12 (AI 11 (AI 10 (AI 9 (AI 8 AF)))))) [] (AH _ _ ·))))
 case l7 Ah An A3 x13 CG BX=>
  revert r;apply gO;exact bi 139 (bi 141 (bi 144 (bi 147 (bi 150 (lE (AI 13 (AI 12 (AI 11 (AI 10 (AI 9 (AI 8 AF)))))) [0] []) (lE (AI 13 (AI 12 (AI 11 (AI 10 (AI 9 (AI 8 AF)))))) [0] [])) (lE (AI 13 (AI 12 (AI 11 (AI 10 (AI 9 (AI 8 AF)))))) [0] [])) (lE (AI 13 (AI 12 (AI 11 (AI 10 (AI 9 (AI 8 AF)))))) [0] [])) (lE (AI 13 (AI 12 (AI 11 (AI 10 (AI 9 (AI 8 AF)))))) [0] [])) (lE (AI 13 (AI 12 (AI 11 (AI 10 (AI 9 (AI 8 AF)))))) [0] [])
theorem ak {n:Nat} {r:Bool} (h:NO n=some r):EQ 22 [] [] (.bool r) [] true:=by
 refine ot Tryz.func22 fun B N=>?_
 revert r;apply gO;exact cn fun y1 BB=>jc (fb (ES.argsLe (ds:=[.i 3,.i 3,.agg 9 (L1 [.i 1,.nils,.i 0,.i 0,.i 0,.i 0,.nils,.i 0,.i 0])]) (Gp BB) ⟨AK,AK,(AS.aggL (l:=[.i 1,.nils,.i 0,.i 0,.i 0,.i 0,.nils,.i 0,.i 0]) (l':=[.i 1,.nils,.i 0,.i 0,.i 0,.i 0,.ints ([]:List Int),.i 0,.i 0]) rfl ⟨AK,AK,AK,AK,AK,AK,AS.ints_nil,AK,AK,trivial⟩),trivial⟩) []) (jt (jz 20 1 (jg (by decide:3=([1,3,7]:List Int).length) (cf pb [some (.cells (AE y1)),none] fun _=>cn fun y3 F3=>jc (fb (ES.argsLe (ds:=[.i 2,.i 3,.agg 9 (L1 [.i 3,.nils,.i 0,.i 0,.i 0,.i 3,.nils,.i 0,.i 0])]) (Gp F3) ⟨AK,AK,(AS.aggL (l:=[.i 3,.nils,.i 0,.i 0,.i 0,.i 3,.nils,.i 0,.i 0]) (l':=[.i 3,.nils,.i 0,.i 0,.i 0,.i 3,.ints ([]:List Int),.i 0,.i 0]) rfl ⟨AK,AK,AK,AK,AK,AK,AS.ints_nil,AK,AK,trivial⟩),trivial⟩) [some (.cells (AE y1)),none]) (cf Wp [some (.cells (AE y1)),none] fun _=>jz 32 2 (jg (by decide:3=([1,3,7]:List Int).length) (cf Sf [some (.cells (AE y1)),none,none] fun _=>cn fun y6 rW=>jc (sb [.agg 5 (L1 [.i 0,.i 0,.nils,.nils,.nils]),.i 0] (Wp rW) [some (.cells (AE y1)),none,none] ⟨(Aa.dle (by kernel_rfl) (AS.aggL (l:=[.i 0,.i 0,.nils,.nils,.nils]) (l':=[.i 0,.i 0,.ints ([]:List Int),.sl 1 (([]:List (List Int)).length) (Aq At ([]:List (List Int))),.sl 9 (([]:List AB).length) (Aq AG ([]:List AB))]) rfl ⟨AK,AK,AS.ints_nil,(AS.sl_nil _ _),(AS.sl_nil _ _),trivial⟩)),Aa.plain (by kernel_rfl),trivial⟩) (bi 42 (lE (AI 14 (AI 13 (AI 12 (AI 11 (AI 10 (AI 9 (AI 8 AF))))))) [0] []) (bi 45 (lE (AI 14 (AI 13 (AI 12 (AI 11 (AI 10 (AI 9 (AI 8 AF))))))) [0] []) (bi 49 (lE (AI 14 (AI 13 (AI 12 (AI 11 (AI 10 (AI 9 (AI 8 AF))))))) [0] []) (bi 53 (lE (AI 14 (AI 13 (AI 12 (AI 11 (AI 10 (AI 9 (AI 8 AF))))))) [0] []) (bi 57 (lE (AI 14 (AI 13 (AI 12 (AI 11 (AI 10 (AI 9 (AI 8 AF))))))) [0] []) (ja 63 3 2 (DQ (c:=DI) (L:=([(1,0),(2,0)]:List (Int×Int))) (vals:=[.agg 2 (L1 [.i 1,.i 0]),.agg 2 (L1 [.i 2,.i 0])]) rfl ⟨⟨_,rfl,⟨AK,AK,trivial⟩⟩,⟨_,rfl,⟨AK,AK,trivial⟩⟩,trivial⟩) (jz 63 3 (jg (by decide:2=([(1,0),(2,0)]:List (Int×Int)).length) (cf k7 [some (.cells (AE y1)),none,none,none] fun _=>bi 65 (lE (AI 14 (AI 13 (AI 12 (AI 11 (AI 10 (AI 9 (AI 8 AF))))))) [0] []) (lG (AI 14 (AI 13 (AI 12 (AI 11 (AI 10 (AI 9 (AI 8 AF))))))) [0] ((kw B N n) _ _ ·))))))))))))))))))
end Go.Proofs.YtgkhhfnhacibcaaGreatDoor
namespace Go.Proofs.YtgkhhfnhacibcaaGreatDoor
open Go.RowKit
set_option maxRecDepth 100000
set_option maxHeartbeats 40000000
end Go.Proofs.YtgkhhfnhacibcaaGreatDoor
namespace Go.Proofs.YtgkhhfnhacibcaaGreatDoor
open Go.RowKit
set_option maxRecDepth 100000
set_option maxHeartbeats 40000000
end Go.Proofs.YtgkhhfnhacibcaaGreatDoor
namespace Go.Proofs.YtgkhhfnhacibcaaGreatDoor
open Go.RowKit
set_option maxRecDepth 100000
set_option maxHeartbeats 40000000
end Go.Proofs.YtgkhhfnhacibcaaGreatDoor
namespace Go.Proofs.YtgkhhfnhacibcaaGreatDoor
open Go.RowKit
section
variable {q:AA} {TL:Int} {p:List Int}
end
section
variable {K o n:Nat} {ws:List Bool} {Q l qu:List Int} {v:Int}
end
end Go.Proofs.YtgkhhfnhacibcaaGreatDoor
namespace Go.Proofs.YtgkhhfnhacibcaaGreatDoor
open Go.RowKit
section
variable {q:AA} {TL:Int} {p cells:List Int} {f:Int -> List Int}
end
end Go.Proofs.YtgkhhfnhacibcaaGreatDoor
namespace Go.Proofs.YtgkhhfnhacibcaaGreatDoor
open Go.RowKit
section
variable {q:AA} {TL:Int} {pos p x cells:List Int} {f:Int -> List Int}
end
end Go.Proofs.YtgkhhfnhacibcaaGreatDoor
namespace Go.Proofs.YtgkhhfnhacibcaaGreatDoor
open Go.RowKit
theorem vv {a b:List Int} {n:Nat} (hl:a.length<=LB) (hn:a.length<n):Qr n a b=some (decide (a=b)):=by
 have hb:LB<=9223372036854775806:=by decide
 unfold Qr f8
 by_cases Ay:a.length=b.length
 ·have e:((a.length:Int) != (b.length:Int))=false:=by rw [Ay];simp
  rw [e,yO]
  have key: ∀ (k i n:Nat),i+k=a.length -> k+1<=n -> OW a b n (.l1 (i:Int))=some (decide (a.drop i=b.drop i)):=by
   intro k
   induction k with
   | zero=>
    intro i n e hn;obtain ⟨n,rfl⟩: ∃ k,n=k+1:=⟨n-1,by omega⟩
    show Qq n (OW a b n) a b (i:Int)=_
    unfold Qq;rw [yS (by omega),yO,zc (by omega),zc (by omega)];rfl
   | succ k ih=>
    intro i n e hn;obtain ⟨n,rfl⟩: ∃ k,n=k+1:=⟨n-1,by omega⟩;have hi:i<a.length:=by omega
    have BN:i<b.length:=by omega
    have d: ∀ {l:List Int},i<l.length -> l.drop i=l.getD i 0::l.drop (i+1):=fun {l} h=>by
     rw [zF h,u8,yQ h];rfl
    have:=ih (i+1) n (by omega) (by omega)
    show Qq n (OW a b n) a b (i:Int)=_
    unfold Qq;rw [yW (by omega),yV,yP ⟨⟨by omega,by omega⟩,by omega,by omega⟩,yU,yP (A2.2 ⟨by omega,by omega⟩),d hi,d BN]
    by_cases h:a.getD i 0=b.getD i 0
    ·have:(a.getD i 0 != b.getD i 0)=false:=by rw [h];simp
     rw [this,yO];refine Eq.trans (by assumption) ?_;rw [h];simp
    ·have:(a.getD i 0 != b.getD i 0)=true:=by simpa using h
     rw [this,yV,yS fun e=>h (List.cons.inj e).1]
  exact key a.length 0 n (by omega) (by omega)
 ·have e:((a.length:Int) != (b.length:Int))=true:=by simp;omega
  rw [e,yV,yS fun h=>Ay (by rw [h])]
section
variable {q:AA} {TL:Int} {pos p x cells:List Int}
end
end Go.Proofs.YtgkhhfnhacibcaaGreatDoor
namespace Go.Proofs.YtgkhhfnhacibcaaGreatDoor
open Go.RowKit
set_option maxRecDepth 100000
set_option maxHeartbeats 40000000
end Go.Proofs.YtgkhhfnhacibcaaGreatDoor
namespace Go.Proofs.YtgkhhfnhacibcaaGreatDoor
open Go.RowKit
section
variable {q:AA} {i:Int} {g:List Int} {c:AB}
theorem Bj.sets (C:Bj q i (Af g)):Sm q.symbols.toNat (con q i).set/\ Sm q.symbols.toNat (con q i).other:=by
 have h:=C.fine;unfold Ek at h;simp only [yT] at h;have h2:=Rf.1 h.1.1.1.2;have a:=h2 (con q i).set (by simp);have b:=h2 (con q i).other (by simp);exact ⟨⟨a.1,by omega⟩,b.1,by omega⟩
theorem db (S:Sv q c g) (W:EE c q (Af g)) {k:Nat} (hs:Sm k c.set) (hk:k<=16) {loop:Bool} {M:Prop} (hM:M↔if loop=true then (∀ v,v<g.length -> (B7 c g).getD v false=false)∨((∀ v,v<g.length -> (B7 c g).getD v false=true -> CE q.nbrs (B7 c g) v=2)/\ G7 q.nbrs (B7 c g)) else G7 q.nbrs (B7 c g)):
 ∃ r,Ev (fun n=>Ns n q.nbrs g c.cells c.set loop) r/\ (r=true↔M):=by
 have L:(1000000000000:Nat)=Ax:=rfl;have hl:=W.len;have E6:=W.l1;have DB:=W.gl;rw [Dn] at hl E6 DB;have hI:(B7 c g).length=q.nbrs.length:=by rw [Nk];omega
 have fin: ∃ r,Ev (fun n=>(Ui n q.nbrs (B7 c g)).bind fun y1=>bif (!loop) then some (decide ((y1.1.length:Int)<=1)) else bif ((y1.1.length:Int)==0) then some (decide ((y1.1.length:Int)<=1)) else (NW n q.nbrs (B7 c g)).bind fun y2=>some y2.1) r/\ (r=true↔M):=by
  obtain ⟨N2,hR⟩:=nT W.g hI;have:=Ae.bindU (wz W.g hI) (b:=fun n y1=>bif (!loop) then some (decide ((y1.1.length:Int)<=1)) else bif ((y1.1.length:Int)==0) then some (decide ((y1.1.length:Int)<=1)) else (NW n q.nbrs (B7 c g)).bind fun y2=>some y2.1) (Q:=fun r=>r=true↔M) ⟨N2,fun n hn x hx=>?_⟩
  ·obtain ⟨r,h1,h2⟩:=this.ev fun r r' h h'=>by
    rw [z6,h,h']
   exact ⟨r,h2,h1⟩
  ·obtain ⟨x1,x2,x3⟩:=hx;have e1:decide ((x.1.length:Int)<=1)=true↔G7 q.nbrs (B7 c g):=by rw [ye,←x3];omega
   cases loop with
   | false=>
    refine ⟨_,rfl,?_⟩;rw [e1,hM];simp
   | true=>
    rw [yP rfl] at hM
    by_cases h0:x.1.length=0
    ·have hz:=x2.1 h0;rw [DB] at hz;refine ⟨true,?_,zBW rfl (hM.2 (.inl hz))⟩
     show (bif ((x.1.length:Int)==0) then some (decide ((x.1.length:Int)<=1)) else _)=_
     rw [h0];rfl
    ·obtain ⟨y,y1,y2,y3⟩:=hR n hn;refine ⟨y.1,?_,?_⟩
     ·show (bif ((x.1.length:Int)==0) then some (decide ((x.1.length:Int)<=1)) else _)=_
      rw [zW.2 (by omega),yO,show NW n q.nbrs (B7 c g)=some y from y1];rfl
     ·rw [y3,hM,DB];have hz: ¬ ∀ v,v<g.length -> (B7 c g).getD v false=false:=fun h=>h0 (x2.2 (by rw [DB];exact h))
      constructor
      ·rintro ⟨h1,_,h3⟩;exact .inr ⟨h1,h3⟩
      ·rintro (h | ⟨h1,h3⟩)
       ·exact absurd h hz
       ·refine ⟨h1,Classical.byContradiction fun hn=>hz fun v hv=>?_,h3⟩;cases hb:(B7 c g).getD v false with
        | false=>rfl
        | true=>exact absurd ⟨v,hv,hb⟩ hn
 obtain ⟨r,hr,sM⟩:=fin;refine ⟨r,?_,sM⟩
 have key: ∀ (k j:Nat) (o:List Bool),j+k=g.length -> o.length=g.length -> (∀ v,v<j -> o.getD v false=(B7 c g).getD v false) -> Ev (fun n=>Nr q.nbrs g c.cells c.set loop n (.l1 (j:Int) o)) r:=by
  intro k
  induction k with
  | zero=>
   intro j o e ho hm
   have:o=B7 c g:=by
    refine zAa (by rw [ho,Nk]) fun v h1 h2=>?_
    have:=hm v (by omega);simpa [u8,h1,h2] using this
   subst this;obtain ⟨N,hr⟩:=hr;refine Ev.oneN N fun n hn=>?_
   show QF n (Nr q.nbrs g c.cells c.set loop n) q.nbrs g c.cells c.set loop (j:Int) (B7 c g)=_
   unfold QF;rw [yS (by omega),yO,yP ho.symm];exact hr n hn
  | succ k ih=>
   intro j o e ho hm;have hj:j<g.length:=by omega
   have hid:=W.id j (by rw [Dn];exact hj);have hsy:=S.G.lt S.v hj;have Jv:=S.G.sym j hj;have eg:g.getD j 0=(((g.getD j 0).toNat:Nat):Int):=by omega
   refine Bz.ev (Bz.one fun n=>?_) (ih (j+1) (o.set j (tb c.set (g.getD j 0).toNat)) (by omega) (by rw [yu];exact ho) fun v hv=>?_)
   ·show QF n (Nr q.nbrs g c.cells c.set loop n) q.nbrs g c.cells c.set loop (j:Int) o=_
    unfold QF;rw [yW (by omega),yV,yP ⟨by omega,by omega⟩,yU,hid];unfold Wg cv;rw [yP ⟨by omega,by omega⟩,yU,eg,K1 hs (by omega) (by omega),yX,yP ⟨⟨by omega,by omega⟩,by omega⟩,yX,yP (A2.2 ⟨by omega,by omega⟩),yt,yU,show ((j+1:Nat):Int)=(j:Int)+1 by omega]
   ·by_cases e1:v=j
    ·subst e1;rw [u8,zd (by omega),z8,Wb hj]
    ·rw [u8,zU (fun h=>e1 h.symm),←u8];exact hm v (by omega)
 have:=key g.length 0 (List.replicate g.length false) (by omega) yi fun v hv=>absurd hv (yg v)
 refine Ev.eq this fun n=>?_
 unfold Ns dc;rw [yP ⟨rfl,by omega,by omega⟩];rfl
theorem pT (C:Bj q i (Af g)) (G:Gd q g): ∃ b,Ev (fun n=>Fd n q (con q i) g) b/\ (b=true↔Bx q (con q i) g):=by
 have S:=C.sv G;have hd:GA (Af g)=false:=JE.2 S.nz;have W:=C.work;have V:=C.vals;have hl:=W.len;have Tx:=W.k;obtain ⟨hs,ho⟩:=C.sets;have two:(con q i).cells.length=2 -> ∀ a,a<2 -> ((con q i).cells.getD a 0).toNat=((con q i).cells.getD a 0).toNat:=fun _ _ _=>rfl
 have D: ∀ {k:Int} {f:Nat -> Option Bool} {b:Bool} {M:Prop},(con q i).kind=k -> (∀ n,Fd n q (con q i) g=f n) -> Ev f b -> (b=true↔M) -> (Bx q (con q i) g↔M) -> ∃ b,Ev (fun n=>Fd n q (con q i) g) b/\ (b=true↔Bx q (con q i) g):=
  fun _ he hf hb hM=>⟨_,hf.eq he,hb.trans hM.symm⟩
 have kc:=ML (MK C.kind)
 generalize hc:con q i=c at*
 rcases kc with hk | hk | hk | hk | hk | hk | hk | hk | hk
 ·obtain ⟨r,h1,h2⟩:=wN S hl;exact D (f:=fun n=>(UX n g c.cells).bind some) hk (fun n=>by unfold Fd Ir;rw [hk];rfl) (Ev.bind h1 (Ev.now fun n=>rfl)) h2 (by unfold Bx;rw [hk];simp)
 ·refine D (f:=fun n=>(Uc n g c.cells c.set).bind fun y1=>(M4 n y1 c).bind some) (M:=c.lo<=cnt (fun a=>tb c.set (AP c g a)) c.cells.length/\ cnt (fun a=>tb c.set (AP c g a)) c.cells.length<=c.hi) (b:=decide (c.lo<=cnt (fun a=>tb c.set (AP c g a)) c.cells.length)&&decide (cnt (fun a=>tb c.set (AP c g a)) c.cells.length<=c.hi)) hk (fun n=>by unfold Fd Ir;rw [hk];rfl) (Ev.bind (wa S hl hs Tx) (Ev.now fun n=>?_)) (by simp) (by unfold Bx;rw [hk];simp);unfold M4 Yt;cases decide (c.lo<=cnt (fun a=>tb c.set (AP c g a)) c.cells.length) <;> rfl
 ·refine D (f:=fun n=>(Rx n q.values g c.cells).bind fun y1=>(M4 n y1 c).bind some) (M:=c.lo<=CJ (fun a=>q.values.getD (AP c g a) 0) c.cells.length/\ CJ (fun a=>q.values.getD (AP c g a) 0) c.cells.length<=c.hi) (b:=decide (c.lo<=CJ (fun a=>q.values.getD (AP c g a) 0) c.cells.length)&&decide (CJ (fun a=>q.values.getD (AP c g a) 0) c.cells.length<=c.hi)) hk (fun n=>by unfold Fd Ir;rw [hk];rfl) (Ev.bind (jp S V hl) (Ev.now fun n=>?_)) (by simp) (by unfold Bx;rw [hk];simp);unfold M4 Yt;cases decide (c.lo<=CJ (fun a=>q.values.getD (AP c g a) 0) c.cells.length) <;> rfl
 ·obtain ⟨r,h1,h2⟩:=nD S V hl;exact D (f:=fun n=>(SR n q.values g c.cells).bind some) hk (fun n=>by unfold Fd Ir;rw [hk];rfl) (Ev.bind h1 (Ev.now fun n=>rfl)) h2 (by unfold Bx;rw [hk];simp)
 ·have hr:=Vu (b:=fun a=>tb c.set (AP c g a)) (N:=c.cells.length) c.cells.length 0;refine D (f:=fun n=>(NT n c.cells c.set g).bind fun y1=>(M0 n y1).bind fun y2=>(Qr n y2 c.runs).bind some) (M:=rl (fun a=>tb c.set (AP c g a)) c.cells.length c.cells.length 0=c.runs) (b:=decide (rl (fun a=>tb c.set (AP c g a)) c.cells.length c.cells.length 0=c.runs)) hk (fun n=>by unfold Fd Ir;rw [hk];rfl) (Ev.bind (mU S hl hs Tx) ⟨300,fun n hn=>?_⟩) (by simp) (by unfold Bx;rw [hk];simp)
  show (M0 n _).bind _=_
  rw [xA (by omega),yX,vv (yf hr (yf (by omega:c.cells.length+1<=300) (by decide))) (by omega)];rfl
 ·have h2:c.cells.length=2:=by rw [←hc];exact C.two (.inl (by rw [hc];exact hk))
  have c0:=S.cell 0 (by omega);have c1:=S.cell 1 (by omega);have g0:=S.gi (a:=0) (by omega);have g1:=S.gi (a:=1) (by omega);have l0:=(S.lt (a:=0) (by omega)).1;have l1:=(S.lt (a:=1) (by omega)).1;have vl:=V.len;have v0:=V.val _ l0;have v1:=V.val _ l1;refine D (f:=fun n=>Fd n q c g) (M:=Gk q c (AP c g 0) (AP c g 1)=true) (b:=Gk q c (AP c g 0) (AP c g 1)) hk (fun n=>rfl) (Ev.now fun n=>?_) Iff.rfl (by unfold Bx;rw [hk];simp);unfold Fd Ir;rw [hk]
  show (if _ then _ else none)=_
  rw [g0,g1,yU,yU,yP ⟨⟨by omega,by omega⟩,c0,⟨by omega,by omega⟩,⟨by omega,by omega⟩,c1,by omega,by omega⟩];unfold ZB ib Gk;rw [yP ⟨A2.2 ⟨by omega,by omega⟩,A2.2 ⟨by omega,by omega⟩⟩,yX,show q.values.getD (AP c g 1) 0-q.values.getD (AP c g 0) 0=0-(q.values.getD (AP c g 0) 0-q.values.getD (AP c g 1) 0) by omega]
 ·have h2:c.cells.length=2:=by rw [←hc];exact C.two (.inr (by rw [hc];exact hk))
  have c0:=S.cell 0 (by omega);have c1:=S.cell 1 (by omega);have g0:=S.gi (a:=0) (by omega);have g1:=S.gi (a:=1) (by omega);have l0:=(S.lt (a:=0) (by omega)).2;have l1:=(S.lt (a:=1) (by omega)).2;refine D (f:=fun n=>Fd n q c g) (M:=GL c (AP c g 0) (AP c g 1)=true) (b:=GL c (AP c g 0) (AP c g 1)) hk (fun n=>rfl) (Ev.now fun n=>?_) Iff.rfl (by unfold Bx;rw [hk];simp);unfold Fd Ir;rw [hk]
  show (if _ then _ else none)=_
  rw [g0,g1,yP ⟨⟨by omega,by omega⟩,c0,⟨by omega,by omega⟩,c1⟩,K1 hs (by omega) (by omega),K1 hs (by omega) (by omega),K1 ho (by omega) (by omega),K1 ho (by omega) (by omega)];unfold GL;cases tb c.set (AP c g 0) <;> cases tb c.set (AP c g 1) <;> cases tb c.other (AP c g 0) <;> cases tb c.other (AP c g 1) <;> rfl
 ·have WA:EE c q (Af g):=by rw [←hc];exact C.all (.inl (by rw [hc];exact hk)) hd
  obtain ⟨r,h1,h2⟩:=db (loop:=false) (M:=G7 q.nbrs (B7 c g)) S WA hs Tx (by simp);exact D (f:=fun n=>(Ns n q.nbrs g c.cells c.set false).bind some) hk (fun n=>by unfold Fd Ir;rw [hk];rfl) (Ev.bind h1 (Ev.now fun n=>rfl)) h2 (by unfold Bx;rw [hk];simp)
 ·have WA:EE c q (Af g):=by rw [←hc];exact C.all (.inr (by rw [hc];exact hk)) hd
  obtain ⟨r,h1,h2⟩:=db (loop:=true) (M:=G7 q.nbrs (B7 c g)/\ ∀ v,v<g.length -> (B7 c g).getD v false=true -> CE q.nbrs (B7 c g) v=2) S WA hs Tx (by
   rw [yP rfl];have gl:=WA.gl;rw [Dn] at gl;constructor
   ·rintro ⟨h1,h2⟩;exact .inr ⟨h2,h1⟩
   ·rintro (h | ⟨h1,h2⟩)
    ·exact ⟨fun u v hu _ mu _=>(by rw [h u (by omega)] at mu;cases mu),fun v hv mv=>(by rw [h v hv] at mv;cases mv)⟩
    ·exact ⟨h2,h1⟩)
  exact D (f:=fun n=>(Ns n q.nbrs g c.cells c.set true).bind some) hk (fun n=>by unfold Fd Ir;rw [hk];rfl) (Ev.bind h1 (Ev.now fun n=>rfl)) h2 (by unfold Bx;rw [hk];simp)
/-! ### Finished grids-/
theorem jL {s:Int} {l:List Int} (hl:l.length<=LB): ∀ (k j:Nat),j+k=l.length -> (∀ j',j'<j -> 0<=l.getD j' 0/\ l.getD j' 0<s) -> ∃ r:Int,Ev (fun n=>K0 l s n (.l1 (j:Int))) r/\ (decide (r>=0)=false↔∀ j,j<l.length -> 0<=l.getD j 0/\ l.getD j 0<s):=by
 have hb:LB<=9223372036854775806:=by decide
 intro k
 induction k with
 | zero=>
  intro j e h;refine ⟨-1,Ev.one fun n=>?_,zBW (by decide) fun j' BM=>h j' (by omega)⟩
  show QJ n (K0 l s n) l s (j:Int)=_
  unfold QJ;rw [yS (by omega),yO]
 | succ k ih=>
  intro j e h;have hj:j<l.length:=by omega
  have u: ∀ n,Rj n (l.getD j 0) s=some (decide (¬ (0<=l.getD j 0/\ l.getD j 0<s))):=fun n=>by
   unfold Rj Zc
   by_cases h0:l.getD j 0<0
   ·rw [yW h0,yV,yW (by omega)]
   ·rw [yS h0,yO];exact congrArg some (decide_eq_decide.2 (by omega))
  have step: ∀ n,K0 l s (n+1) (.l1 (j:Int))=bif decide (¬ (0<=l.getD j 0/\ l.getD j 0<s)) then some (j:Int) else K0 l s n (.l1 ((j+1:Nat):Int)):=fun n=>by
   show QJ n (K0 l s n) l s (j:Int)=_
   unfold QJ;rw [yW (by omega),yV,yP ⟨by omega,by omega⟩,yU,u,yX,yP (A2.2 ⟨by omega,by omega⟩),show ((j+1:Nat):Int)=(j:Int)+1 by omega]
  by_cases hh:0<=l.getD j 0/\ l.getD j 0<s
  ·obtain ⟨r,h1,h2⟩:=ih (j+1) (by omega) fun j' BM=>by
    rcases yd.1 BM with BM | rfl
    ·exact h j' BM
    ·exact hh
   exact ⟨r,Bz.ev (Bz.one fun n=>by rw [step n,yS (fun h=>h hh),yO]) h1,h2⟩
  ·refine ⟨(j:Int),Ev.one fun n=>by rw [step n,yW hh,yV],zAV (by rw [yW (by omega)];decide) fun h=>hh (h j hj)⟩
theorem na (hF:FA q) (hl:g.length<=LB): ∃ e,Ev (fun n=>SX n q g) e/\ (e=0↔Dc q=true/\ Gd q g):=by
 have hV:Ev (fun n=>valid n q) (E7 (Dc q) 191):=⟨Hk q,fun n hn=>VE hF hn⟩;cases hv:Dc q with
 | false=>
  rw [hv] at hV;exact ⟨191,Ev.bind hV (Ev.now fun n=>rfl),by simp⟩
 | true=>
  rw [hv] at hV
  by_cases Ay:(g.length:Int)=q.cells
  ·obtain ⟨r,h1,h2⟩:=jL (s:=q.symbols) hl g.length 0 (by omega) fun j hj=>absurd hj (yg j)
   refine ⟨if decide (r>=0)=true then 200 else 0,Ev.bind hV (Ev.eq (Ev.bind (Ev.eq (Ev.bind (Ev.bind h1 (b:=fun n y=>some (decide (y>=0))) (Ev.now fun n=>rfl)) (b:=fun n y=>some (!y)) (Ev.now fun n=>rfl)) fun n=>?_) (b:=fun n y2=>bif (!y2) then some 200 else some 0) (Ev.now fun n=>?_)) fun n=>rfl),?_⟩
   ·unfold Qn YQ;rw [yo.2 Ay,yV];rfl
   ·cases decide (r>=0) <;> rfl
   ·have:(if decide (r>=0)=true then (200:Int) else 0)=0↔decide (r>=0)=false:=by cases decide (r>=0) <;> simp
    rw [this,h2];exact ⟨fun h=>⟨rfl,Ay,h⟩,fun h=>h.2.sym⟩
  ·refine ⟨200,Ev.bind hV (Ev.now fun n=>?_),zAV (by decide) fun h=>Ay h.2.len⟩
   show (bif ((0:Int) != 0) then _ else (Qn n q.cells q.symbols g).bind _)=_
   unfold Qn YQ;rw [zW.2 Ay];rfl
theorem Gd.ctx (G:Gd q g) (hF:FA q) (hv:Dc q=true) (h0:0<=i) (h1:i<(q.cons.length:Int)):Bj q i (Af g):=⟨hF,hv,h0,h1,G.pos hv⟩
def yK (q:AA) (i:Int) (g:List Int) (r:Bool×Int):Prop:=(r.2=0↔Dc q=true/\ Gd q g/\ 0<=i/\ i<(q.cons.length:Int))/\ (r.2=0 -> (r.1=true↔Bx q (con q i) g))
theorem cr (hF:FA q) (hl:g.length<=LB): ∃ r,Ev (fun n=>MD n q i g) r/\ yK q i g r:=by
 obtain ⟨e,h1,h2⟩:=na hF hl
 by_cases h0:e=0
 ·subst h0;obtain ⟨hv,G⟩:=h2.1 rfl
  by_cases hi:0<=i/\ i<(q.cons.length:Int)
  ·obtain ⟨b,b1,b2⟩:=pT (G.ctx hF hv hi.1 hi.2) G;refine ⟨(b,0),Ev.bind h1 (Ev.eq (Ev.bind b1 (b:=fun n y2=>some (y2,(0:Int))) (Ev.now fun n=>rfl)) fun n=>?_),⟨fun _=>⟨hv,G,hi⟩,fun _=>rfl⟩,fun _=>b2⟩;rw [zBF,yO,yS (by omega),yO,yS (by omega),yO,yP hi];rfl
  ·refine ⟨(false,1),Ev.bind h1 (Ev.now fun n=>?_),⟨fun h=>(by cases h),fun h=>absurd h.2.2 hi⟩,fun h=>(by cases h)⟩;rw [zBF,yO]
   by_cases eZ:i<0
   ·rw [yW eZ];rfl
   ·rw [yS eZ,yO,yW (by omega)];rfl
 ·refine ⟨(false,e),Ev.bind h1 (Ev.now fun n=>by rw [zl.2 h0];rfl),⟨fun h=>absurd h h0,fun h=>absurd (h2.2 ⟨h.1,h.2.1⟩) h0⟩,fun h=>absurd h h0⟩
end
end Go.Proofs.YtgkhhfnhacibcaaGreatDoor
namespace Go.Proofs.YtgkhhfnhacibcaaGreatDoor
open Go.RowKit
theorem am {a b:List Int} {n:Nat} (hl:a.length<=LB) (hn:a.length<n):same n a b=some (decide (a=b)):=by
 have hb:LB<=9223372036854775806:=by decide
 unfold same al
 by_cases Ay:a.length=b.length
 ·have e:((a.length:Int) != (b.length:Int))=false:=by rw [Ay];simp
  rw [e,yO]
  have key: ∀ (k i n:Nat),i+k=a.length -> k+1<=n -> NQ a b n (.l1 (i:Int))=some (decide (a.drop i=b.drop i)):=by
   intro k
   induction k with
   | zero=>
    intro i n e hn;obtain ⟨n,rfl⟩: ∃ k,n=k+1:=⟨n-1,by omega⟩
    show PH n (NQ a b n) a b (i:Int)=_
    unfold PH;rw [yS (by omega),yO,zc (by omega),zc (by omega)];rfl
   | succ k ih=>
    intro i n e hn;obtain ⟨n,rfl⟩: ∃ k,n=k+1:=⟨n-1,by omega⟩;have hi:i<a.length:=by omega
    have BN:i<b.length:=by omega
    have d: ∀ {l:List Int},i<l.length -> l.drop i=l.getD i 0::l.drop (i+1):=fun {l} h=>by
     rw [zF h,u8,yQ h];rfl
    have:=ih (i+1) n (by omega) (by omega)
    show PH n (NQ a b n) a b (i:Int)=_
    unfold PH;rw [yW (by omega),yV,yP ⟨⟨by omega,by omega⟩,by omega,by omega⟩,yU,yP (A2.2 ⟨by omega,by omega⟩),d hi,d BN]
    by_cases h:a.getD i 0=b.getD i 0
    ·have:(a.getD i 0 != b.getD i 0)=false:=by rw [h];simp
     rw [this,yO];refine Eq.trans (by assumption) ?_;rw [h];simp
    ·have:(a.getD i 0 != b.getD i 0)=true:=by simpa using h
     rw [this,yV,yS fun e=>h (List.cons.inj e).1]
  exact key a.length 0 n (by omega) (by omega)
 ·have e:((a.length:Int) != (b.length:Int))=true:=by simp;omega
  rw [e,yV,yS fun h=>Ay (by rw [h])]
section
variable {q:AA} {i:Int} {pos x:List Int}
theorem kq:Ev NO true:=⟨200,fun n hn=>by
 obtain ⟨k,rfl⟩: ∃ k,n=k+200:=⟨n-200,by omega⟩;exact (show ∀ k,NO (k+200)=some true from fun k=>by kernel_rfl) k⟩
theorem dO {n:Nat -> Option Bool} {f:Nat -> Option Bool} (h: ∀ m,n m=(NO m).bind fun y1=>bif (!y1) then some false else (Mu m q pos).bind fun y2=>bif (!y2) then some true else f m) (hf:Ev f true):Ev n true:=by
 obtain ⟨N,hs⟩:=kq;obtain ⟨M,hf⟩:=hf;refine ⟨N+M+q.cons.length+1,fun m hm=>?_⟩;obtain ⟨b,hb⟩:=vm (q:=q) (pos:=pos) (n:=m) (by omega);rw [h,hs m (by omega),yX,hb,yX,hf m (by omega)];cases b <;> rfl
end
end Go.Proofs.YtgkhhfnhacibcaaGreatDoor
namespace Go.Proofs.YtgkhhfnhacibcaaGreatDoor
open Go.RowKit
set_option maxRecDepth 100000
set_option maxHeartbeats 40000000
inductive Rg where
 | l1 (CG:Int)
def Lc (n:Nat) (self:Rg -> Option Bool) (AD pos:List Int) (CG:Int):Option Bool:=
 bif (decide (CG<(AD.length:Int))) then
  if 0<=CG/\ CG<(AD.length:Int) then
   bif (decide ((AD.getD ((CG).toNat) 0)<0)) then
    some false
   else
    bif (decide ((AD.getD ((CG).toNat) 0)>15)) then
     some false
    else
     if (0<=CG/\ CG<(pos.length:Int))/\ (0<=AD.getD ((CG).toNat) 0/\ AD.getD ((CG).toNat) 0<=(IntKind.i64.bits:Int)) then
      bif ((bits .and .i64 ((pos.getD ((CG).toNat) 0)/2 ^ (AD.getD ((CG).toNat) 0).toNat) 1)==0) then
       some false
      else
       if AL (CG+1) then
        self (.l1 (CG+1))
       else none
     else none
  else none
 else
  some true
def U8 (n:Nat) (self:Rg -> Option Bool) (AD pos:List Int):Option Bool:=
 bif ((AD.length:Int) != (pos.length:Int)) then
  some false
 else
  self (.l1 0)
def JO (AD pos:List Int):Nat -> Rg -> Option Bool
 | 0,_=>none
 | n+1,.l1 CG=>Lc n (JO AD pos n) AD pos CG
def JP (n:Nat) (AD pos:List Int):Option Bool:=U8 n (JO AD pos n) AD pos
def jB (n B:Nat) (N:Yd 0) (AD pos:List Int) (r:Bool):Rg -> Prop
 | .l1 CG=>∀ m0:Nat,n<=m0 -> TW B N (FQ Tryz.f25 0 (.bool r) []) (A4 m0 (BF (Ab Tryz.f25) 0 [])) ⟨AM 36 [(1,.ints pos),(12,.ints AD),(13,.i (AD.length:Int)),(14,.i CG)],[]⟩
theorem jC (B:Nat) (N:Yd 0) (AD pos:List Int):Al (JO AD pos) (jB · B N AD pos):=ia (fun _=>rfl) fun n AH pt r h=>by
 cases pt
 case l1 CG=>
  intro m0 AC;refine rd AC fun m0 AC=>?_
  revert r;apply gO;exact bi 15 (gi (bi 20 (lE AF [4] []) (bi 23 (lE AF [4] []) (gc (gi (gi (bi 33 (lE AF [4] []) (gw 35 (lG AF [] (AH _ _ · m0 AC)))))))))) (lE AF [4] [])
theorem ZS {n:Nat} {AD pos:List Int} {r:Bool} (h:JP n AD pos=some r):EQ 25 [.ints AD,.ints pos] [] (.bool r) [] true:=by
 refine ot Tryz.func25 fun B N=>?_
 revert r;apply gO;exact bi 11 (lE AF [4] []) (lN AF [] ((jC B N AD pos n) _ _ · n Nat.le.refl))
def dR (n:Nat) (q:AA) (i:Int) (pos AD:List Int):Option Bool:=
 (NO n).bind fun y1=>
  bif (!y1) then
   some false
  else
   (Mu n q pos).bind fun y2=>
    bif (!y2) then
     some true
    else
     bif (decide ((AD.length:Int)>20)) then
      some true
     else
      (MD n q i AD).bind fun y3=>
       (Hv n q i pos).bind fun y4=>
        bif (y3.2 != 0) then
         some true
        else
         bif (y4.2 != 0) then
          some true
         else
          bif (!y3.1) then
           some true
          else
           (JP n AD pos).bind fun y5=>
            bif (!y5) then
             some true
            else
             (JP n AD y4.1).bind fun y6=>
              some y6
def Wr (n:Nat) (q:AA) (i:Int) (pos AD:List Int):Option Bool:=dR n q i pos AD
theorem qP {n:Nat} {q:AA} {i:Int} {pos AD:List Int} {r:Bool} (h:Wr n q i pos AD=some r):EQ 6 [.agg 5 (L1 (AE q)),.i i,.ints pos,.ints AD] [] (.bool r) [] true:=by
 unfold Wr dR at h;refine ot Tryz.func6 fun B N=>?_
 revert r;apply gO;exact cf ak [some (.cells (AE q))] fun _=>bi 14 (lE AF [8] []) (cf fu [some (.cells (AE q))] fun _=>bi 18 (lE AF [8] []) (bi 22 (lE AF [8] []) (cf cm [some (.cells (AE q))] fun _=>cf Sf [some (.cells (AE q))] fun _=>bi 39 (lE AF [8] []) (bi 42 (lE AF [8] []) (bi 46 (lE AF [8] []) (cf ZS [some (.cells (AE q))] fun _=>bi 52 (lE AF [8] []) (cf ZS [some (.cells (AE q))] fun _=>lE AF [8] [])))))))
def aE:ST:=.rd 0 (.rd 1 (.rd 3 (.rd 4 (.ef 2 (.rd 6 (.ef 5 (.rd 7 (.fin [0,1] [1,2,3,7,9,10])) (.no))) (.ef 5 (.ef 2 (.rd 6 (.rd 7 (.fin [1,0] [1,2,3,7,9,10]))) (.no)) (.no))))))
theorem mF:CF (BG Tryz.f7 8) [2,5] aE:=by unfold CF;kernel_rfl
def Hq:Bh:=fun i=>match i with
 | 8=>.tre [2,5] aE
 | _=>.no
def VN (i:Int) (AD:List Int) (y3:Bool×Int) (q:AA):St:=⟨(AM 75 [(1,.i i),(2,.ints AD),(3,.ref 0 0),(7,.bool y3.1),(9,.msl 1 1 0 AD.length),(10,.msl 2 1 0 AD.length)]),([some (.cells (AE q)),some (.ints (List.replicate AD.length (0:Int))),some (.ints (List.replicate AD.length (0:Int)))]:DH)⟩
inductive TN where
 | l1 (x7:Bool) (FU:Int) (o1:List Int)
def QB (n:Nat) (self:TN -> Option Bool) (q:AA) (i:Int) (AD:List Int) (x7:Bool) (FU:Int) (o1:List Int):Option Bool:=
 bif (decide (FU<(AD.length:Int))) then
  if (0<=FU/\ FU<(AD.length:Int))/\ (0<=AD.getD ((FU).toNat) 0/\ AD.getD ((FU).toNat) 0<=(IntKind.i64.bits:Int))/\ 0+((FU).toNat)<o1.length/\ AL (FU+1) then
   self (.l1 x7 (FU+1) (o1.set (0+((FU).toNat)) (IntKind.i64.wrap (1*2 ^ (AD.getD ((FU).toNat) 0).toNat))))
  else none
 else
  if AD.length=o1.length then
   (Hv n q i o1).bind fun y1=>
    bif x7 then
     bif (y1.2==0) then
      (same n y1.1 o1).bind fun y2=>
       some y2
     else
      some false
    else
     bif (y1.2==0) then
      if AD.length=(List.replicate AD.length (0:Int)).length then
       (same n y1.1 (List.replicate AD.length (0:Int))).bind fun y2=>
        some y2
      else none
     else
      some false
  else none
def qS (n:Nat) (self:TN -> Option Bool) (q:AA) (i:Int) (AD:List Int):Option Bool:=
 (NO n).bind fun y1=>
  bif (!y1) then
   some false
  else
   (Mu n q ([]:List Int)).bind fun y2=>
    bif (!y2) then
     some true
    else
     bif (decide ((AD.length:Int)>20)) then
      some true
     else
      (MD n q i AD).bind fun y3=>
       bif (y3.2 != 0) then
        some true
       else
        if ((AD.length:Int):Int)=(AD.length:Int)/\ 0<=(AD.length:Int)/\ ((AD.length:Int):Int)<=1000000000000 then
         self (.l1 y3.1 0 (List.replicate AD.length (0:Int)))
        else none
def Ky (q:AA) (i:Int) (AD:List Int):Nat -> TN -> Option Bool
 | 0,_=>none
 | n+1,.l1 x7 FU o1=>QB n (Ky q i AD n) q i AD x7 FU o1
def dS (n:Nat) (q:AA) (i:Int) (AD:List Int):Option Bool:=qS n (Ky q i AD n) q i AD
def qT (n B:Nat) (N:Yd 0) (q:AA) (i:Int) (AD:List Int) (r:Bool):TN -> Prop
 | .l1 x7 FU o1=>∀ m0:Nat,n<=m0 -> TW B N (FQ Tryz.f7 0 (.bool r) []) (A4 m0 (BF (Ab Tryz.f7) 0 [])) ⟨AM 75 [(1,.i i),(3,.ref 0 0),(7,.bool x7),(9,.msl 1 1 0 AD.length),(10,.msl 2 1 0 AD.length),(40,.ints AD),(41,.i (AD.length:Int)),(42,.i FU)],[some (.cells (AE q)),some (.ints o1),some (.ints (List.replicate AD.length (0:Int)))]⟩
theorem qU (B:Nat) (N:Yd 0) (q:AA) (i:Int) (AD:List Int):Al (Ky q i AD) (qT · B N q i AD):=ia (fun _=>rfl) fun n AH pt r h=>by
 cases pt
 case l1 x7 FU o1=>
  intro m0 AC;refine rd AC fun m0 AC=>?_
  revert r;apply gO
  exact bi 43 (gc (gn fun g0=>jg g0 (gc (gi (jg g0 (gc (gi (gw 52 (lG Hq [0,1,2] (AH _ _ · m0 AC)))))))))) (gn fun g0=>fun p r h=>by
   refine gz (AI 14 Hq) [0,1,2] p [1] (H0.g g0) (CW (Ab Tryz.f7) 14 []) (AM 75 [(1,.i i),(3,.ref 0 0),(7,.bool x7),(9,.ints o1),(10,.msl 2 1 0 AD.length)]) [some (.cells (AE q)),none,some (.ints (List.replicate AD.length (0:Int)))] ?_;revert r;apply gO;exact cf Sf [some (.cells (AE q)),none,some (.ints (List.replicate AD.length (0:Int)))] fun y1=>bi 60 (bi 62 (cf Vc [some (.cells (AE q)),none,some (.ints (List.replicate AD.length (0:Int)))] fun _=>lE Hq [6] []) (lE Hq [6] [])) (bi 69 (gn fun g1=>cn fun y2 Bq=>jc (sb [.ints y1.1,.msl 2 1 0 AD.length] (Vc Bq) [some (.cells (AE q)),none,some (.ints (List.replicate AD.length (0:Int)))] ⟨Aa.plain (by kernel_rfl),Aa.ints rfl g1,trivial⟩) (lE Hq [6] [])) (lE Hq [6] [])))
theorem qR {n:Nat} {q:AA} {i:Int} {AD:List Int} {r:Bool} (h:dS n q i AD=some r):EQ 7 [.agg 5 (L1 (AE q)),.i i,.ints AD] [] (.bool r) [] true:=by
 refine ot Tryz.func7 fun B N=>?_
 revert r;apply gO;exact cf ak [some (.cells (AE q))] fun _=>bi 16 (lE Hq [6] []) (cn fun y2 Bq=>jc (sb [.agg 5 (L1 (AE q)),.nils] (fu Bq) [some (.cells (AE q))] ⟨Aa.plain (by kernel_rfl),Aa.nils,trivial⟩) (bi 19 (lE Hq [6] []) (bi 23 (lE Hq [6] []) (cf cm [some (.cells (AE q))] fun y3=>bi 33 (lE Hq [6] []) (jg mF (gn fun g0=>jg g0 (jg g0 (jg (Eq.refl (VN i AD y3 q)) (jg g0 (jg g0 (jg (Eq.refl (VN i AD y3 q)) (lN (tg:=[([],(VN i AD y3 q))]) Hq [0,1,2] ((qU B N q i AD n) _ _ · n Nat.le.refl)))))))))))))
end Go.Proofs.YtgkhhfnhacibcaaGreatDoor
namespace Go.Proofs.YtgkhhfnhacibcaaGreatDoor
open Go.RowKit
section
variable {q:AA} {i:Int} {g pos x:List Int}
def WI (g p:List Int):Prop:=g.length=p.length/\ ∀ j,j<g.length -> (0<=g.getD j 0/\ g.getD j 0<=15)/\ tb (p.getD j 0) (g.getD j 0).toNat=true
theorem ZT {k:Nat} (hk:k<=62) (hp: ∀ j,j<pos.length -> Sm k (pos.getD j 0)) (hl:g.length<=256): ∃ b,Ev (fun n=>JP n g pos) b/\ (b=true↔WI g pos):=by
 by_cases Ay:g.length=pos.length
 ·have key: ∀ (k j:Nat),j+k=g.length -> (∀ j',j'<j -> (0<=g.getD j' 0/\ g.getD j' 0<=15)/\ tb (pos.getD j' 0) (g.getD j' 0).toNat=true) -> ∃ b,Ev (fun n=>JO g pos n (.l1 (j:Int))) b/\ (b=true↔WI g pos):=by
   intro k
   induction k with
   | zero=>
    intro j e h;refine ⟨true,Ev.one fun n=>?_,zBW rfl ⟨Ay,fun j' BM=>h j' (by omega)⟩⟩
    show Lc n (JO g pos n) g pos (j:Int)=_
    unfold Lc;rw [yS (by omega),yO]
   | succ k ih=>
    intro j e h;have hj:j<g.length:=by omega
    by_cases hr:0<=g.getD j 0/\ g.getD j 0<=15
    ·have step: ∀ n,JO g pos (n+1) (.l1 (j:Int))=bif !tb (pos.getD j 0) (g.getD j 0).toNat then some false else JO g pos n (.l1 ((j+1:Nat):Int)):=fun n=>by
      show Lc n (JO g pos n) g pos (j:Int)=_
      unfold Lc;rw [yW (by omega),yV,yP ⟨by omega,by omega⟩,yU,yS (by omega),yO,yS (by omega),yO,yP ⟨⟨by omega,by omega⟩,hr.1,by show g.getD j 0<=((64:Nat):Int);omega⟩,kT (hp j (by omega)) hk (by omega),yP (A2.2 ⟨by omega,by omega⟩),show ((j+1:Nat):Int)=(j:Int)+1 by omega]
     cases hb:tb (pos.getD j 0) (g.getD j 0).toNat with
     | true=>
      obtain ⟨b,h1,h2⟩:=ih (j+1) (by omega) fun j' BM=>by
       rcases yd.1 BM with BM | rfl
       ·exact h j' BM
       ·exact ⟨hr,hb⟩
      exact ⟨b,Bz.ev (Bz.one fun n=>by rw [step n,hb];rfl) h1,h2⟩
     | false=>
      refine ⟨false,Ev.one fun n=>by rw [step n,hb];rfl,zAV (by decide) fun hW=>?_⟩;rw [(hW.2 j hj).2] at hb;cases hb
    ·refine ⟨false,Ev.one fun n=>?_,zAV (by decide) fun hW=>hr (hW.2 j hj).1⟩
     show Lc n (JO g pos n) g pos (j:Int)=_
     unfold Lc;rw [yW (by omega),yV,yP ⟨by omega,by omega⟩,yU]
     by_cases h0:g.getD j 0<0
     ·rw [yW h0,yV]
     ·rw [yS h0,yO,yW (by omega),yV]
  obtain ⟨b,h1,h2⟩:=key g.length 0 (by omega) fun j hj=>absurd hj (yg j)
  refine ⟨b,h1.eq fun n=>?_,h2⟩;unfold JP U8;rw [show ((g.length:Int) != (pos.length:Int))=false by rw [Ay];simp,yO];rfl
 ·refine ⟨false,Ev.now fun n=>?_,zAV (by decide) fun h=>Ay h.1⟩;unfold JP U8;rw [show ((g.length:Int) != (pos.length:Int))=true by rw [zl];omega,yV]
theorem ZV (G:Gd q g) (hv:Dc q=true):(∀ j s,tb ((Af g).getD j 0) s=true -> tb (pos.getD j 0) s=true)↔∀ j,j<g.length -> tb (pos.getD j 0) (g.getD j 0).toNat=true:=by
 constructor
 ·intro h j hj;exact h j _ (by rw [NM G hv hj,yW rfl])
 ·intro h j s hs
  by_cases hj:j<g.length
  ·rw [NM G hv hj,ye] at hs;subst hs;exact h j hj
  ·rw [u8,zb (by rw [Dn];omega)] at hs;exact absurd hs Ib
theorem kB (C:Bj q i pos) (G:Gd q g) (hM:Bx q (con q i) g) (hW:WI g pos) (hx:PR q (con q i) pos x):WI g x:=by
 have C2:=G.ctx C.fit C.valid C.i0 C.i1;have:=oA C C2 ((ZV G C.valid).2 fun j hj=>(hW.2 j hj).2) hx (((Wd C2 G).1 hM).2);have h2:=(ZV G C.valid).1 this;exact ⟨by rw [hx.len];exact hW.1,fun j hj=>⟨(hW.2 j hj).1,h2 j hj⟩⟩
theorem qO (q:AA) (i:Int) (pos g:List Int) (hF:FA q) (hl:pos.length<=LB) (hg:g.length<=LB):Ev (fun n=>Wr n q i pos g) true:=by
 refine dO (q:=q) (pos:=pos) (f:=fun n=>bif (decide ((g.length:Int)>20)) then some true else
  (MD n q i g).bind fun y3=>(Hv n q i pos).bind fun y4=>bif (y3.2 != 0) then some true else bif (y4.2 != 0) then some true else bif (!y3.1) then some true else
   (JP n g pos).bind fun y5=>bif (!y5) then some true else (JP n g y4.1).bind fun y6=>some y6) (fun n=>rfl) ?_
 by_cases Qe:(g.length:Int)>20
 ·exact Ev.now fun n=>by rw [yW Qe];rfl
 refine Ev.eq ?_ (fun n=>by rw [yS Qe,yO]);obtain ⟨⟨b,e⟩,r1,r2,r3⟩:=cr (i:=i) hF hg;refine Ev.bind r1 ?_
 by_cases hp:GU q i pos=0
 ·have C:=Bj.of hF hp;obtain ⟨x,Gs,Iy⟩:=bp C;refine Ev.bind Gs ?_
  by_cases he:e=0
  ·subst he;cases b with
   | false=>exact Ev.now fun n=>rfl
   | true=>
    obtain ⟨_,G,_⟩:=r2.1 rfl;have hM:=(r3 rfl).1 rfl;have hk:=C.work.k;obtain ⟨b1,w1,w2⟩:=ZT (g:=g) (by omega) C.sm (by omega);refine Ev.eq (Ev.bind w1 (b:=fun n y5=>bif (!y5) then some true else (JP n g x).bind fun y6=>some y6) ?_) fun n=>rfl
    cases b1 with
    | false=>exact Ev.now fun n=>rfl
    | true=>
     have hx:=kB C G hM (w2.1 rfl) Iy;obtain ⟨b2,v1,v2⟩:=ZT (g:=g) (pos:=x) (k:=q.symbols.toNat) (by omega) ((WD C.valid).1 (Iy.posOk C)).2 (by omega);rw [v2.2 hx] at v1;exact Ev.eq (Ev.bind v1 (b:=fun n y6=>some y6) (Ev.now fun n=>rfl)) fun n=>rfl
  ·exact Ev.now fun n=>by
    show (bif (e != 0) then some true else _)=_
    rw [zl.2 he];rfl
 ·obtain ⟨e',F9,h1⟩:=n9 hF hl hp;refine Ev.bind h1 (Ev.now fun n=>?_)
  show (bif (e != 0) then some true else bif (e' != 0) then some true else _)=_
  rw [zl.2 F9];cases e != 0 <;> rfl
theorem qQ (q:AA) (i:Int) (g:List Int) (hF:FA q) (hg:g.length<=LB):Ev (fun n=>dS n q i g) true:=by
 refine dO (q:=q) (pos:=[]) (f:=fun n=>bif (decide ((g.length:Int)>20)) then some true else
  (MD n q i g).bind fun y3=>bif (y3.2 != 0) then some true else
   if ((g.length:Int):Int)=(g.length:Int)/\ 0<=(g.length:Int)/\ ((g.length:Int):Int)<=1000000000000 then Ky q i g n (.l1 y3.1 0 (List.replicate g.length (0:Int))) else none) (fun n=>rfl) ?_
 by_cases Qe:(g.length:Int)>20
 ·exact Ev.now fun n=>by rw [yW Qe];rfl
 refine Ev.eq ?_ (fun n=>by rw [yS Qe,yO]);obtain ⟨⟨b,e⟩,r1,r2,r3⟩:=cr (i:=i) hF hg;refine Ev.bind r1 ?_
 by_cases he:e=0
 ·subst he;obtain ⟨hv,G,h0,h1⟩:=r2.1 rfl;have hM:b=true↔Bx q (con q i) g:=r3 rfl;have C:=G.ctx hF hv h0 h1;obtain ⟨x,Gs,Iy⟩:=bp C;have lb:(20:Nat)<=LB:=by decide
  have fin:Ev (fun n=>Ky q i g n (.l1 b (g.length:Int) (Af g))) true:=by
   obtain ⟨N,Gs⟩:=Gs;refine Ev.oneN (N+30) fun n hn=>?_
   show QB n (Ky q i g n) q i g b (g.length:Int) (Af g)=_
   unfold QB;rw [yS (by omega),yO,yP Dn.symm,show Hv n q i (Af g)=some (x,0) from Gs n (by omega),yX];cases b with
   | true=>
    have:x=Af g:=PR.uniq _ _ Iy ((Wd C G).1 (hM.1 rfl)).2;subst this
    show (same n (Af g) (Af g)).bind _=_
    rw [am (by rw [Dn];omega) (by rw [Dn];omega),yW rfl];rfl
   | false=>
    have N9: ¬ Bx q (con q i) g:=fun h=>by have:=hM.2 h;cases this
    have hx:=Iy.dead ((Wd C G).2 N9);rw [Dn] at hx
    show (if g.length=(List.replicate g.length (0:Int)).length then (same n x (List.replicate g.length 0)).bind _ else none)=_
    rw [yP yi.symm,hx,am (by rw [yi];omega) (by rw [yi];omega),yW rfl];rfl
  have key: ∀ (k j:Nat) (o:List Int),j+k=g.length -> o.length=g.length -> (∀ v,v<j -> o.getD v 0=(Af g).getD v 0) -> Ev (fun n=>Ky q i g n (.l1 b (j:Int) o)) true:=by
   intro k
   induction k with
   | zero=>
    intro j o e ho hm;have ej:j=g.length:=by omega
    have:o=Af g:=by
     refine zAa (by rw [ho,Dn]) fun v h1 h2=>?_
     have:=hm v (by omega);simpa [u8,h1,h2] using this
    subst this;rw [ej];exact fin
   | succ k ih=>
    intro j o e ho hm;have hj:j<g.length:=by omega
    have hs:=G.lt hv hj;have Jv:=G.sym j hj;refine Bz.ev (Bz.one fun n=>?_) (ih (j+1) (o.set j (IntKind.i64.wrap (1*2 ^ (g.getD j 0).toNat))) (by omega) (by rw [yu];exact ho) fun v hvj=>?_)
    ·show QB n (Ky q i g n) q i g b (j:Int) o=_
     unfold QB;rw [yW (by omega),yV,yU,yP ⟨⟨by omega,by omega⟩,⟨Jv.1,by show g.getD j 0<=((64:Nat):Int);omega⟩,by omega,A2.2 ⟨by omega,by omega⟩⟩,yt,show ((j+1:Nat):Int)=(j:Int)+1 by omega]
    ·by_cases e1:v=j
     ·subst e1;rw [J6 (by omega),NN hj]
     ·rw [getD_set_ne (fun h=>e1 h.symm)];exact hm v (by omega)
  refine Ev.eq (key g.length 0 (List.replicate g.length 0) (by omega) yi fun v hv=>absurd hv (yg v)) fun n=>?_
  show (if _ then _ else none)=_
  rw [yP ⟨rfl,by omega,by omega⟩];rfl
 ·exact Ev.now fun n=>by
   show (bif (e != 0) then some true else _)=_
   rw [zl.2 he];rfl
end
end Go.Proofs.YtgkhhfnhacibcaaGreatDoor
namespace Go.Proofs.YtgkhhfnhacibcaaGreatDoor
open Go.ChangeShapes Go.WideShapes Go.ChangeAt Go.RowKit
def KH (w:World) (cs:List Value) (l:List DV):Prop:=cs.length=l.length/\ ∀ j,j<l.length -> AO (fun _=>False) w (l.getD j .any) [] (cs.getD j undef)
def Rd (P:Program) (t:TypeId) (m:Nat) {α:Type} (c:α -> List DV):Prop:=(∀ x,(c x).length=m)/\ P.cellsOf t=m/\ ∀ {H:Type} (enc:TypeId×Value -> H) (w:World) (Dy:Nat) (cs:List Value) (x:DataW H×List MemPlace),DataW.trod enc P w 0 (fun _=>true) true Dy t cs=some x -> (∀ n∈x.1.weights P t,n<=reachBytes) -> ∃ y:α,KH w cs (c y)
theorem ZX {H:Type} {P:Program} {e:TypeId}: ∀ {l:List (DataW H)} {d:DataW H} {n:Nat},d∈l -> n∈d.weights P e -> n∈DataW.weightsAll P e l
 | [],_,_,h,_=>by cases h
 | a::l,d,n,h,hn=>by
  unfold DataW.weightsAll;rcases yq.1 h with rfl | h
  ·exact zA _ hn
  ·exact zQ _ (ZX h hn)
section
variable {P:Program} {t e:TypeId} {m:Nat}
theorem KH.one {w:World} {v:Value} {d:DV} (h:AO (fun _=>False) w d [] v):KH w [v] [d]:=⟨rfl,fun j hj=>by
 have:j=0:=by simpa using hj
 subst this;exact h⟩
theorem KH.app {w:World} {cs Dz:List Value} {l l':List DV} (h:KH w cs l) (h':KH w Dz l'):KH w (cs++Dz) (l++l'):=by
 refine ⟨by simp [h.1,h'.1],fun j hj=>?_⟩;rcases zt j l.length with hl | hl
 ·have:=h.2 j hl;have hc:j<cs.length:=by rw [h.1];exact hl
  simp only [u8] at this ⊢;rw [yy hl,yy hc];exact this
 ·have:=h'.2 (j-l.length) (by simp at hj;omega);simp only [u8] at this ⊢;rw [zC hl,zC (by rw [h.1];exact hl),h.1];exact this
theorem Rd.int {k:IntKind} (ht:P.underlying t=some (.int k)) (hc:P.cellsOf t=1):Rd P t 1 (fun n:Int=>[.int k n]):=⟨fun _=>rfl,hc,fun enc w Dy cs x h hw=>by
 obtain ⟨n,rfl,_⟩:=DataW.trod_int ht h;exact ⟨n,.one rfl⟩⟩
theorem gZ {w:World} {a:Addr} {n:Nat} {cs:List Value} (h:w.cells? 0 a n=some cs):cs.length=n/\ ∀ j,j<n -> w.cell? (a.add j)=some (cs.getD j undef):=by
 unfold World.cells? at h;rw [yP (zr _)] at h;have hl:cs.length=n:=by simpa using Lib.mapM_length h
 refine ⟨hl,fun j hj=>?_⟩;obtain ⟨b,h1,h2⟩:=Lib.mapM_at h j j (by simp [hj]);rw [h2,u8,h1];rfl
theorem yF {w:World} {a:Addr} {v:Value} (h:w.cell? a=some v): ∃ b o,a=⟨b,o,none⟩:=by
 obtain ⟨b,o,r⟩:=a;cases r with
 | none=>exact ⟨b,o,rfl⟩
 | some r=>
  unfold World.cell? at h;split at h
  ·simp at h
  ·cases h
theorem ip (b o x:Nat):(⟨b,o,none⟩:Addr).add x=⟨b,o+x,none⟩:=by
 unfold Addr.add;split
 ·rename_i e;subst e;rfl
 ·rfl
theorem Rd.row {α:Type} [Inhabited α] {c:α -> List DV} (ht:P.underlying t=some (.slice e)) (hb:0<P.bytesOf e) (hm:0<m) (he:Rd P e m c) {H:Type} (enc:TypeId×Value -> H) (w:World) (Dy:Nat) (cs:List Value) (x:DataW H×List MemPlace) (h:DataW.trod enc P w 0 (fun _=>true) true Dy t cs=some x) (hw: ∀ n∈x.1.weights P t,n<=reachBytes):
 ∃ (L:List α) (a:Option Addr) (cap:Nat),cs= [.slice a L.length cap]/\ L.length<=cap/\ L.length<=LB/\ ∀ i j,i<L.length -> j<m -> ∃ b o u,a=some ⟨b,o,none⟩/\ w.cell? ⟨b,o+(i*m+j),none⟩=some u/\ AO (fun _=>False) w ((c (L.getD i default)).getD j .any) [] u:=by
 rcases Deep.open_slice ht h with ⟨rfl,_⟩ | ⟨a,len,cap,m',n,D,Pl,rfl,_,uH,K9,CN,hx,Qc⟩
 ·exact ⟨[],none,0,rfl,ym _,zr _,fun i j hi=>absurd hi (yg i)⟩
 ·simp only [zo] at CN;subst CN;subst hx
  have plain:0<len -> ∃ b o,a=⟨b,o,none⟩:=fun h0=>by
   obtain ⟨Dz,h1,_⟩:=Qc 0 (by omega);obtain ⟨g1,g2⟩:=gZ h1;have g3:=g2 0 (by rw [he.2.1];exact hm);have e0:(a.add (0*P.cellsOf e)).add 0=a:=by simp [Addr.add]
   rw [e0] at g3;exact yF g3
  have pick: ∀ i,i<len -> ∃ y:α,∀ j,j<m -> ∃ b o u,a=⟨b,o,none⟩/\ w.cell? ⟨b,o+(i*m+j),none⟩=some u/\ AO (fun _=>False) w ((c y).getD j .any) [] u:=fun i hi=>by
   obtain ⟨Dz,h1,h2⟩:=Qc i (by omega)
   obtain ⟨y,h3,h4⟩:=he.2.2 enc w n Dz _ h2 fun k hk=>hw k (by
    simp only [DataW.weights,ht];refine yx _ (zA _ (ZX (d:=D i) ?_ hk));exact zh.2 ⟨i,yh.2 hi,rfl⟩)
   obtain ⟨g1,g2⟩:=gZ h1;obtain ⟨b,o,rfl⟩:=plain (by omega);refine ⟨y,fun j hj=>?_⟩;have g3:=g2 j (by rw [he.2.1];exact hj);refine ⟨b,o,_,rfl,?_,h4 j (by rw [he.1];exact hj)⟩;rw [←g3,he.2.1,ip,ip,zN]
  have hL: ∃ L:List α,L.length=len/\ ∀ i,i<len -> ∀ j,j<m -> ∃ b o u,a=⟨b,o,none⟩/\ w.cell? ⟨b,o+(i*m+j),none⟩=some u/\ AO (fun _=>False) w ((c (L.getD i default)).getD j .any) [] u:=by
   refine ⟨(List.range len).map fun i=>if hi:i<len then (pick i hi).choose else default,by simp,fun i hi=>?_⟩
   have:((List.range len).map fun i=>if hi:i<len then (pick i hi).choose else default).getD i default=(pick i hi).choose:=by
    simp [u8,hi]
   rw [this];exact (pick i hi).choose_spec
  obtain ⟨L,rfl,hL⟩:=hL;refine ⟨L,some a,_,rfl,uH,?_,fun i j hi hj=>?_⟩
  ·have hk:=hw ((L.length+(m'-L.length))*P.bytesOf e) (by
    simp only [DataW.weights,ht,zf,zAl];exact zT)
   have h1:=Nat.le_mul_of_pos_right (L.length+(m'-L.length)) hb;have h2:=yf h1 hk;unfold reachBytes at h2;unfold LB;omega
  ·obtain ⟨b,o,u,g1,g2,g3⟩:=hL i hi j hj;exact ⟨b,o,u,by rw [g1],g2,g3⟩
theorem Rd.rows {α:Type} [Inhabited α] {c:α -> List DV} (ht:P.underlying t=some (.slice e)) (hc:P.cellsOf t=1) (hb:0<P.bytesOf e) (hm:0<m) (he:Rd P e m c):Rd P t 1 (fun L:List α=>[.sl m L.length (Aq c L)]):=⟨fun _=>rfl,hc,fun enc w Dy cs x h hw=>by
 obtain ⟨L,a,cap,rfl,h1,h2,h3⟩:=Rd.row ht hb hm he enc w Dy cs x h hw;refine ⟨L,KH.one ⟨a,cap,rfl,h1,h2,fun i j hi hj=>?_⟩⟩;obtain ⟨b,o,u,g1,g2,g3⟩:=h3 i j hi hj;exact ⟨b,o,u,g1,fun h=>h,g2,g3⟩⟩
theorem Rd.ints (ht:P.underlying t=some (.slice e)) (hc:P.cellsOf t=1) (hb:0<P.bytesOf e) (he:P.underlying e=some (.int .i64)) (uk:P.cellsOf e=1):Rd P t 1 At:=⟨fun _=>rfl,hc,fun enc w Dy cs x h hw=>by
 obtain ⟨L,a,cap,rfl,h1,h2,h3⟩:=Rd.row ht hb (zAR) (Rd.int he uk) enc w Dy cs x h hw;refine ⟨L,.one ⟨a,cap,rfl,h1,h2,fun j hj=>?_⟩⟩;obtain ⟨b,o,u,g1,g2,g3⟩:=h3 j 0 hj zAR;refine ⟨b,o,g1,fun h=>h,?_⟩;have:u= .int .i64 (L.getD j 0):=g3;rw [←this,←g2];simp⟩
def D0 (P:Program):List Field -> Nat -> Nat -> {α:Type} -> (α -> List DV) -> Prop:=fun fs o n {α} c=>∀ (H:Type) (enc:TypeId×Value -> H) (w:World) (Dy:Nat) (cs:List Value) (xs:List (DataW H×List MemPlace)),cs.length=n -> (fs.mapM fun f=>DataW.trod enc P w 0 (fun _=>true) true Dy f.type ((cs.drop f.offset).take (P.cellsOf f.type)))=some xs -> (∀ k∈DataW.weightsEach P (fs.map (·.type)) (xs.map (·.1)),k<=reachBytes) -> ∃ y:α,KH w (cs.drop o) (c y)
theorem D0.nil {o n:Nat} (ho:n=o):D0 P [] o n (fun _:Unit=>[]):=fun _ enc w Dy cs xs hl _ _=>⟨(),by rw [List.drop_of_length_le (by omega)];exact ⟨rfl,fun j hj=>absurd hj (yg j)⟩⟩
theorem D0.cons {α β:Type} {c:α -> List DV} {c':β -> List DV} {f:Field} {fs:List Field} {o n:Nat} (ho:f.offset=o) (hf:Rd P f.type m c) (hs:D0 P fs (o+m) n c'):D0 P (f::fs) o n (fun x:α×β=>c x.1++c' x.2):=fun _ enc w Dy cs xs hl h hw=>by
 rw [List.mapM_cons] at h;obtain ⟨a,ha,h⟩:=Option.bind_eq_some_iff.1 h;obtain ⟨ys,rV,e⟩:=Option.bind_eq_some_iff.1 h;cases e;obtain ⟨y,h1⟩:=hf.2.2 enc w Dy _ a ha fun k hk=>hw k (by simp only [zy,DataW.weightsEach];exact zA _ hk)
 obtain ⟨z,h2⟩:=hs _ enc w Dy cs ys hl rV fun k hk=>hw k (by simp only [zy,DataW.weightsEach];exact zQ _ hk)
 refine ⟨(y,z),?_⟩
 have:cs.drop o=(cs.drop f.offset).take (P.cellsOf f.type)++cs.drop (o+m):=by
  rw [ho,hf.2.1,←List.drop_drop];exact (List.take_append_drop m (cs.drop o)).symm
 rw [this];exact h1.app h2
theorem Rd.struct {α β:Type} {c:α -> List DV} {c':β -> List DV} {fs:Array Field} (ht:P.underlying t=some (.struct fs)) (hc:P.cellsOf t=m) (hs:D0 P fs.toList 0 m c) (g:α -> β) (hg: ∀ x,c x=c' (g x)) (hm: ∀ x,(c' x).length=m):Rd P t m c':=⟨hm,hc,fun enc w Dy cs x h hw=>by
 cases Dy with
 | zero=>simp [DataW.trod] at h
 | succ Dy=>
  unfold DataW.trod at h;rw [ht] at h;simp only at h;split at h
  ·rename_i hl;obtain ⟨xs,XG,e⟩:=Option.map_eq_some_iff.1 h;subst e;obtain ⟨y,hy⟩:=hs _ enc w Dy cs xs (by rw [hl,hc]) XG fun k hk=>hw k (by simp only [DataW.weights,ht];exact hk)
   exact ⟨g y,by rw [←hg];exact hy⟩
  ·cases h⟩
end
end Go.Proofs.YtgkhhfnhacibcaaGreatDoor
namespace Go.Proofs.YtgkhhfnhacibcaaGreatDoor
abbrev zAW:=@Go.ChangeShapes.trodAll_cons
end Go.Proofs.YtgkhhfnhacibcaaGreatDoor
namespace Go.Proofs.YtgkhhfnhacibcaaGreatDoor
open Go.ChangeShapes Go.WideShapes Go.ChangeAt Go.RowKit
def G6 (P:Program) (t:TypeId) {α:Type} (d:α -> DV):Prop:=∀ {H:Type} (enc:TypeId×Value -> H) (w:World) (Ck:Nat) (v:Value) (x:DataW H) (ps:List MemPlace),Value.okWide P w .any Ck t v -> DataW.Trod enc P w 0 (fun _=>true) true t v x ps -> (∀ n∈x.weights P t,n<=reachBytes) -> ∃ y:α,AO (fun _=>False) w (d y) [] v
section
variable {P:Program} {t e:TypeId}
theorem G6.int {k:IntKind} (ht:P.underlying t=some (.int k)):G6 P t (fun n:Int=>.int k n):=fun enc w Ck v x ps CI _ _=>by
 obtain ⟨n,rfl⟩:=okWide_int ht CI;exact ⟨n,rfl⟩
theorem G6.one {α:Type} {c:α -> List DV} (ht:P.underlying t=some (.slice e)) (h:Rd P t 1 c):G6 P t (fun x=>(c x).getD 0 .any):=fun enc w Ck v x ps CI ⟨Dy,hx⟩ hw=>by
 obtain ⟨a,len,cap,rfl⟩:=okWide_slice ht CI;obtain ⟨y,h1,h2⟩:=h.2.2 enc w Dy _ _ hx hw;exact ⟨y,by simpa [Value.cells] using h2 0 (by rw [h.1];exact zAR)⟩
theorem G6.agg {α:Type} {m:Nat} {c:α -> List DV} {fs:Array Field} (ht:P.underlying t=some (.struct fs)) (h:Rd P t m c):G6 P t (fun x=>.agg m (L1 (c x))):=fun enc w Ck v x ps CI ⟨Dy,hx⟩ hw=>by
 obtain ⟨cs,rfl,DC⟩:=okWide_struct ht CI;obtain ⟨y,h1,h2⟩:=h.2.2 enc w Dy _ _ hx hw;have hm:(c y).length=m:=h.1 y
 have A5:cs.size=m:=by
  have:cs.toList.length=(c y).length:=h1;simpa [hm] using this
 refine ⟨y,cs,rfl,A5,fun j hj=>?_⟩;have:=h2 j (by rw [hm];exact hj);refine ⟨cs[j]'(by omega),by simp [A5,hj],?_⟩
 have e:(Value.agg cs).cells.toList.getD j undef=cs[j]'(by omega):=by
  show cs.toList.getD j undef=_
  simp [u8,A5,hj]
 rw [e] at this;exact this
def GD (P:Program) (ts:List TypeId) {α:Type} (ds:α -> List DV):Prop:=∀ {H:Type} (enc:TypeId×Value -> H) (w:World) (Ck:Nat) (vs:List Value) (xs:List (DataW H)) (ps:List MemPlace),(∀ (j:Nat) t v,ts[j]? =some t -> vs[j]? =some v -> Value.okWide P w .any Ck t v) -> DataW.TrodAll enc P w 0 (fun _=>true) true ts vs xs ps -> (∀ n∈DataW.weightsEach P ts xs,n<=reachBytes) -> ∃ y:α,(ds y).length=vs.length/\ ∀ j,j<vs.length -> AO (fun _=>False) w ((ds y).getD j .any) [] (vs.getD j undef)
theorem GD.nil:GD P [] (fun _:Unit=>[]):=fun enc w Ck vs xs ps _ h _=>by
 obtain ⟨rfl,_,_⟩:=trodAll_nil h;exact ⟨(),rfl,fun j hj=>absurd hj (yg j)⟩
theorem GD.cons {α β:Type} {d:α -> DV} {ds:β -> List DV} {ts:List TypeId} (h:G6 P t d) (hs:GD P ts ds):GD P (t::ts) (fun x:α×β=>d x.1::ds x.2):=fun enc w Ck vs xs ps CI h0 hw=>by
 obtain ⟨v,BZ,x,ZL,p,q,rfl,rfl,rfl,h1,h2⟩:=zAW h0;obtain ⟨y,hy⟩:=h enc w Ck v x p (CI 0 t v rfl rfl) h1 fun n hn=>hw n (by simp only [DataW.weightsEach];exact zA _ hn)
 obtain ⟨z,QM,rT⟩:=hs enc w Ck BZ ZL q (fun j t' v' a b=>CI (j+1) t' v' (by simpa using a) (by simpa using b)) h2 fun n hn=>hw n (by simp only [DataW.weightsEach];exact zQ _ hn)
 refine ⟨(y,z),by simp [QM],fun j hj=>?_⟩;cases j with
 | zero=>exact hy
 | succ j=>exact rT j (by simpa using hj)
theorem Ze {H:Type} {enc:TypeId×Value -> H} (hl:laidOutB P=true) {W W':World} (hE:Au W W'): ∀ {ts:List TypeId} {vs:List Value} {ds:List (DataW H)} {ps:List MemPlace},(∀ t∈ts,P.readableRec t=true/\ t<P.types.size) -> DataW.TrodAll enc P W 0 (fun _=>true) true ts vs ds ps -> (∀ x∈ps,x.block<W.heap.size) -> DataW.TrodAll enc P W' 0 (fun b=>decide (b<W.heap.size)) true ts vs ds ps
 | [],_,_,_,_,h,_=>by
  obtain ⟨rfl,rfl,rfl⟩:=trodAll_nil h;rfl
 | t::ts,_,_,_,hr,h,AU=>by
  obtain ⟨v,BZ,x,ZL,p,q,rfl,rfl,rfl,h1,h2⟩:=zAW h;exact ⟨p,q,Below.trod hl (hr t (by simp)).1 (hr t (by simp)).2 h1 hE fun x hx=>AU x (zA _ hx),Ze hl hE (fun t ht=>hr t (by simp [ht])) h2 fun x hx=>AU x (zQ _ hx),rfl⟩
theorem oD {H:Type} {enc:TypeId×Value -> H} {f:Func} {s:ChangeSpec} {W W':World} {args:Array Value} {ds gs:List (DataW H)} {IN:List MemPlace} {tb:TypeId} (hl:laidOutB P=true) (hr: ∀ t∈f.params.toList,P.readableRec t=true/\ t<P.types.size) (hE:Au W W')
 (hW:DataW.Whole enc P f.params.toList s.vars false W args.toList ds gs IN) (hv:s.vars= []) (hs:s.fn H (ds++gs)= { results:=[.lit (.bool true)],args:=ds }) (XO:f.resultTypes= #[tb]) (XK:P.underlying tb=some .bool):
 s.post enc P f false true false false W args (.bool true) W':=by
 have Mo:=hW;have AU:=hW.lt;obtain ⟨p,q,hA,hV,rfl,F7,BA⟩:=hW;rw [hv] at hV;obtain ⟨rfl,rfl⟩:=trodVars_none hV;have Ci:=Ze hl hE hr hA fun x hx=>AU x (zA _ hx)
 refine ⟨ds,[],p++[],[],p,[],Mo,?_,?_,?_,World.keptBut_mono (fun x hx=>⟨hx,.inr (.inl (by simpa using hx))⟩) (Below.frame hE (· ∈p++[])),fun h=>by cases h⟩
 ·rw [hs,XO];exact trodAll_mk1 (shut_bool XK true)
 ·rw [hs];exact Ci
 ·rw [hv,hs];rfl
theorem dQ {H:Type} {enc:TypeId×Value -> H} {Γ:A9} {ft:Nat} {f:Func} {s:ChangeSpec} {W:World} {Ck:Nat} {args:Array Value} {ds gs:List (DataW H)} {IN:List MemPlace} {tb:TypeId} {α:Type} {dv:α -> List DV} (hl:laidOutB P=true) (hr: ∀ t∈f.params.toList,P.readableRec t=true/\ t<P.types.size)
 (sK:GD P f.params.toList dv) (Ei: ∀ (w:World) (y:α),(∀ j,AO (fun _=>False) w ((dv y).getD j .any) [] (args.getD j undef)) -> ES P Γ ft (dv y) [] (.bool true) [] true)
 (E4: ∀ (j:Nat) t v,f.params[j]? =some t -> args[j]? =some v -> Value.okWide P W .any Ck t v) (hW:DataW.Whole enc P f.params.toList s.vars false W args.toList ds gs IN) (hv:s.vars= []) (hs:s.fn H (ds++gs)= { results:=[.lit (.bool true)],args:=ds }) (XO:f.resultTypes= #[tb]) (XK:P.underlying tb=some .bool)
 (A5:(DataW.weightsEach P f.params.toList ds).all (· <=reachBytes)=true) (hg:Γ.gi W):Calls P ft args W fun e W'=>∃ v,e= .returned v/\ s.post enc P f false true false false W args v W':=by
 have Mo:=hW;obtain ⟨p,q,hA,hV,rfl,F7,BA⟩:=hW
 obtain ⟨y,h1,h2⟩:=sK enc W Ck args.toList ds p (fun j t v a b=>E4 j t v (by simpa using a) (by simpa using b)) hA fun n hn=>by
  have:=ya.1 A5 n hn;simpa using this
 have Ay:(dv y).length=args.size:=by simpa using h1
 have d9: ∀ j,AO (fun _=>False) W ((dv y).getD j .any) [] (args.getD j undef):=fun j=>by
  rcases zt j args.size with hj | hj
  ·have:=h2 j (by simpa using hj);simpa [u8,yn,hj] using this
  ·have:(dv y).getD j .any= .any:=by rw [u8,zb (by omega)];rfl
   rw [this];trivial
 refine ((Ei W y d9).2 (fun _=>False) [] W args (N4 (fun b hb=>hb.elim) hg) ⟨Ay,fun i hi=>?_⟩).mono ?_
 ·exact AO.out _ (DR (fun b hb=>NC.1 hb) []) (d9 i)
 ·rintro e W' ⟨v,rfl,G⟩;obtain ⟨ρ',_,XI,_⟩:=G.ex;have XI:v= .bool true:=XI;subst XI;exact ⟨_,rfl,oD hl hr (G.ext rfl) Mo hv hs XO XK⟩
end
end Go.Proofs.YtgkhhfnhacibcaaGreatDoor
namespace Go.Proofs.YtgkhhfnhacibcaaGreatDoor
open Go.ChangeShapes Go.WideShapes Go.ChangeAt Go.RowKit
theorem own:ownKnob Tryz.prog.godebug=none:=by kernel_rfl
theorem dT:laidOutB Tryz.prog=true:=by kernel_rfl
theorem xJ:0<Tryz.prog.bytesOf 3:=zV (by kernel_rfl)
theorem Jf:Rd Tryz.prog 3 1 (fun n:Int=>[.int .i64 n]):=Rd.int Tryz.underlying3 (by kernel_rfl)
theorem Pb:Rd Tryz.prog 22 1 At:=Rd.ints Tryz.underlying22 (by kernel_rfl) xJ Tryz.underlying3 (by kernel_rfl)
theorem nr:Rd Tryz.prog 23 1 (fun L:List (List Int)=>[.sl 1 L.length (Aq At L)]):=Rd.rows Tryz.underlying23 (by kernel_rfl) (zV (by kernel_rfl)) zAR Pb
set_option maxRecDepth 100000 in
theorem nu:Rd Tryz.prog 36 9 AG:=by
 refine Rd.struct Tryz.underlying36 (by kernel_rfl)
  (D0.cons rfl Jf<|D0.cons rfl Pb<|D0.cons rfl Jf<|D0.cons rfl Jf<|D0.cons rfl Jf<|D0.cons rfl Jf<|D0.cons rfl Pb<|D0.cons rfl Jf<|D0.cons rfl Jf<|D0.nil rfl)
  (fun x:Int×List Int×Int×Int×Int×Int×List Int×Int×Int×Unit=>(⟨x.1,x.2.1,x.2.2.1,x.2.2.2.1,x.2.2.2.2.1,x.2.2.2.2.2.1,x.2.2.2.2.2.2.1,x.2.2.2.2.2.2.2.1,x.2.2.2.2.2.2.2.2.1⟩:AB)) ?_ (fun _=>rfl)
 intro x;rfl
theorem nt:Rd Tryz.prog 24 1 (fun L:List AB=>[.sl 9 L.length (Aq AG L)]):=Rd.rows Tryz.underlying24 (by kernel_rfl) (zV (by kernel_rfl)) (by decide) nu
set_option maxRecDepth 100000 in
theorem ns:Rd Tryz.prog 26 5 AE:=by
 refine Rd.struct Tryz.underlying26 (by kernel_rfl)
  (D0.cons rfl Jf<|D0.cons rfl Jf<|D0.cons rfl Pb<|D0.cons rfl nr<|D0.cons rfl nt<|D0.nil rfl)
  (fun x:Int×Int×List Int×List (List Int)×List AB×Unit=>(⟨x.1,x.2.1,x.2.2.1,x.2.2.2.1,x.2.2.2.2.1⟩:AA)) ?_ (fun _=>rfl)
 intro x;rfl
theorem a6:G6 Tryz.prog 26 (fun q:AA=>.agg 5 (L1 (AE q))):=G6.agg Tryz.underlying26 ns
theorem a7:G6 Tryz.prog 3 (fun n:Int=>.int .i64 n):=G6.int Tryz.underlying3
theorem Vk:G6 Tryz.prog 22 (fun l:List Int=>.ints l):=G6.one Tryz.underlying22 Pb
theorem FA.of {M:Nat -> Prop} {w:World} {ρ:List AN} {q:AA} {v:Value} (h:AO M w (.agg 5 (L1 (AE q))) ρ v):FA q:=by
 obtain ⟨cs,_,_,hc⟩:=h
 have row: ∀ {α:Type} [Inhabited α] {m:Nat} {c:α -> List DV} {L:List α} {u:Value},0<m -> AO M w (.sl m L.length (Aq c L)) ρ u -> ∀ x∈L,∀ j,j<m -> ∃ u,AO M w ((c x).getD j .any) [] u:=by
  intro α _ m c L u hm ⟨a,cap,_,_,_,hh⟩ x hx j hj;obtain ⟨i,hi,rfl⟩:=zk hx;obtain ⟨b,o,u,_,_,_,hr⟩:=hh i j hi hj;refine ⟨u,?_⟩;have e:L.getD i default=L[i]:=by simp [hi]
  have hr:AO M w ((c (L.getD i default)).getD j .any) [] u:=hr;rw [e] at hr;exact hr
 refine ⟨?_,fun r hr=>?_,fun c Xy=>?_,fun c Xy=>?_⟩
 ·obtain ⟨u,_,h2⟩:=hc 2 (by decide);exact MP h2
 ·obtain ⟨u,_,h3⟩:=hc 3 (by decide);obtain ⟨u,h⟩:=row (c:=At) (L:=q.nbrs) zAR h3 r hr 0 zAR;exact MP h
 ·obtain ⟨u,_,h4⟩:=hc 4 (by decide);obtain ⟨u,h⟩:=row (c:=AG) (L:=q.cons) (by decide) h4 c Xy 1 (by decide);exact MP h
 ·obtain ⟨u,_,h4⟩:=hc 4 (by decide);obtain ⟨u,h⟩:=row (c:=AG) (L:=q.cons) (by decide) h4 c Xy 6 (by decide);exact MP h
theorem fg:Tryz.prog.globalNamed "math/bits.deBruijn64tab" =some 1:=by kernel_rfl
theorem vO:(Tryz.prog.globals[1]?).map (·.type)=some 154:=by kernel_rfl
abbrev Wt {H:Type}:List (String×DataW H):=[("math/bits.deBruijn32tab",Rows.laid_math_bits_deBruijn32tab),("math/bits.deBruijn64tab",Rows.laid_math_bits_deBruijn64tab)]
theorem jY {W:World} (h:laidMetH Tryz.prog Wt W):Lib.TabIs Tryz.prog W "math/bits.deBruijn64tab" .u8 (Lib.deBruijn64tab.map Int.ofNat):=
 Lib.tabIs_of_head (rest:=[]) fg vO Tryz.underlying154 Tryz.underlying5 (by kernel_rfl) (by kernel_rfl) (laidMet.tail (show laidMet Tryz.prog Wt W from h))
theorem Zz {W:World} (h:laidMetH Tryz.prog Wt W):GG.gi W:=by
 have T:=jY h;have c: ∀ j,j<64 -> W.cell? ⟨1,j,none⟩=some (.int .u8 ((Lib.deBruijn64tab.map Int.ofNat).getD j 0)):=fun j hj=>T.cell fg j (by rw [zf];exact hj)
 refine ⟨fun j hj=>?_,?_⟩
 ·have hj:j<64:=hj;rw [c j hj]
  have:(Lib.deBruijn64tab.map Int.ofNat).getD j 0=((Lib.deBruijn64tab.getD j 0:Nat):Int):=by
   have hl:j<Lib.deBruijn64tab.length:=hj;simp [u8,hl]
  rw [this]
 ·have:=zu W _ (c 0 (by decide));exact this
def dN (l:List Nat) (o:Obj):Obj:=match o with
 | .cells _ t frozen=>.cells (l.map fun n=>Value.int .u8 (Int.ofNat n)).toArray t frozen
 | o=>o
noncomputable def No (os:Os):World:=
 { World.holding Tryz.prog os ⟨#[],#[],[]⟩ with heap:=((World.holding Tryz.prog os ⟨#[],#[],[]⟩).heap.modify 0 (dN Lib.deBruijn32tab)).modify 1 (dN Lib.deBruijn64tab) }
def Kn:Value:=.agg #[.int .i64 0,.int .i64 0,.slice none 0 0,.slice none 0 0,.slice none 0 0]
end Go.Proofs.YtgkhhfnhacibcaaGreatDoor
