/- Part 6 of 7 of what the proofs of these laws stand on. -/
import Derived.Test.YtkjbblkieglmlaaGreatDoorPuE
import Derived.RangeFuncLeaves
import Derived.RecoverIn
set_option linter.all false
namespace Go.Proofs.YtkjbblkieglmlaaGreatDoor
open Go.RowKit
section
variable {q:AA} {c:AB} {pos:List Int} {k:Nat}
def NQ (c:AB)(pos:List Int)(i j:Nat)(g:Nat -> Nat):Prop:=∀ b,i<=b -> b<j -> tb (Ab c pos b) (g b)=true
def Gx (q:AA)(i j:Nat)(g:Nat -> Nat):Prop:=∀ b,i<=b -> b+1<j -> q.values.getD (g b) 0<q.values.getD (g (b+1)) 0
theorem f7 {b:Int}: ∀ (l:List Int) (a:Int),l.foldl (JX q b) a=a∨∃ e∈l,q.values.getD e.toNat 0=l.foldl (JX q b) a/\ q.values.getD e.toNat 0>b
 | [],a=>.inl rfl
 | e::l,a=>by
  rw [zDH];rcases f7 l (JX q b a e) with h | ⟨x,h1,h2⟩
  ·rw [h];unfold JX;split
   ·rename_i h3;split
    ·exact .inr ⟨e,zCX,rfl,h3⟩
    ·exact .inl rfl
   ·exact .inl rfl
  ·exact .inr ⟨x,zCB _ h1,h2⟩
theorem pM {b:Int}: ∀ (l:List Int) (a:Int),l.foldl (JG q b) a=a∨∃ e∈l,q.values.getD e.toNat 0=l.foldl (JG q b) a/\ q.values.getD e.toNat 0<b
 | [],a=>.inl rfl
 | e::l,a=>by
  rw [zDH];rcases pM l (JG q b a e) with h | ⟨x,h1,h2⟩
  ·rw [h];unfold JG;split
   ·rename_i h3;split
    ·exact .inr ⟨e,zCX,rfl,h3⟩
    ·exact .inl rfl
   ·exact .inl rfl
  ·exact .inr ⟨x,zCB _ h1,h2⟩
theorem p9 (W:B2 c k pos): ∀ i,i<=c.cells.length -> Fn q c pos i<100 -> ∃ g,NQ c pos 0 i g/\ Gx q 0 i g/\ (0<i -> q.values.getD (g (i-1)) 0=Fn q c pos i)
 | 0,_,_=>⟨fun _=>0,fun b _ h=>absurd h (zAv b),fun b _ h=>absurd h (zAv _),fun h=>absurd h (Nat.lt_irrefl 0)⟩
 | i+1,hi,h=>by
  rcases f7 (q:=q) (b:=Fn q c pos i) (Bc (Ab c pos i)) 100 with h1 | ⟨e,h1,h2,h3⟩
  ·have:Fn q c pos (i+1)=100:=h1;omega
  ·have h2:q.values.getD e.toNat 0=Fn q c pos (i+1):=h2;obtain ⟨s,rfl,hs,ht⟩:=(FA (W.at (by omega)) (zA0 W.k (by decide))).1 h1;rw [zAT] at h2 h3;obtain ⟨g,g1,g2,g3⟩:=p9 W i (by omega) (by omega);refine ⟨fun b=>if b=i then s else g b,fun b h4 h5=>?_,fun b h4 h5=>?_,fun _=>?_⟩
   ·dsimp only
    by_cases e:b=i
    ·subst e;rw [zAM rfl];exact ht
    ·rw [zAh e];exact g1 b h4 (by omega)
   ·have e1:b≠i:=by omega
    dsimp only
    rw [zAh e1]
    by_cases e2:b+1=i
    ·have:=g3 (by omega);rw [zAM e2,show b=i-1 by omega,this];exact h3
    ·rw [zAh e2];exact g2 b h4 (by omega)
   ·dsimp only
    rw [zAM (by omega)];exact h2
theorem zFX (W:B2 c k pos){g:Nat -> Nat}: ∀ i,i<c.cells.length -> NQ c pos 0 (i+1) g -> Gx q 0 (i+1) g -> Fn q c pos i<q.values.getD (g i) 0 -> Fn q c pos (i+1)<=q.values.getD (g i) 0:=fun i hi h1 _ h3=>by
 have h:=(VP (q:=q) (b:=Fn q c pos i) (Bc (Ab c pos i)) 100).1 (zCn _);have ht:=h1 i (zDJ _) (by omega);have hm:=(FA (W.at hi) (zA0 W.k (by decide)) (e:=(g i:Int))).2 ⟨g i,rfl,zCd fun CH=>(by rw [(W.at hi).hi CH] at ht;cases ht),ht⟩;have:=h.2 _ hm;rw [zAT] at this;exact this h3
theorem qB (W:B2 c k pos)(V:EA q k){g:Nat -> Nat}: ∀ i,i<c.cells.length -> NQ c pos 0 (i+1) g -> Gx q 0 (i+1) g -> Fn q c pos i<q.values.getD (g i) 0
 | 0,hi,h1,_=>by
  have ht:=h1 0 (zA5 _) (by omega);have:=V.val (g 0) (zCd fun CH=>(by rw [(W.at hi).hi CH] at ht;cases ht))
  show (-1:Int)<_
  omega
 | i+1,hi,h1,h2=>by
  have a1:NQ c pos 0 (i+1) g:=fun b h3 h4=>h1 b h3 (by omega)
  have a2:Gx q 0 (i+1) g:=fun b h3 h4=>h2 b h3 (by omega)
  have h3:=qB W V i (by omega) a1 a2;have h4:=zFX W i (by omega) a1 a2 h3;have h5:=h2 i (zDJ _) (by omega);omega
theorem qe (W:B2 c k pos): ∀ m,m<=c.cells.length -> -1<Hb q c pos m -> ∃ g,NQ c pos (c.cells.length-m) c.cells.length g/\ Gx q (c.cells.length-m) c.cells.length g/\ (0<m -> q.values.getD (g (c.cells.length-m)) 0=Hb q c pos m)
 | 0,_,_=>⟨fun _=>0,fun b h1 h2=>absurd h2 (by omega),fun b h1 h2=>absurd h2 (by omega),fun h=>absurd h (Nat.lt_irrefl 0)⟩
 | m+1,hm,h=>by
  rcases pM (q:=q) (b:=Hb q c pos m) (Bc (Ab c pos (c.cells.length-1-m))) (-1) with h1 | ⟨e,h1,h2,h3⟩
  ·have:Hb q c pos (m+1)= -1:=h1;omega
  ·have h2:q.values.getD e.toNat 0=Hb q c pos (m+1):=h2;obtain ⟨s,rfl,hs,ht⟩:=(FA (W.at (by omega)) (zA0 W.k (by decide))).1 h1;rw [zAT] at h2 h3;obtain ⟨g,g1,g2,g3⟩:=qe W m (by omega) (by omega);have ei:c.cells.length-(m+1)=c.cells.length-1-m:=by omega
   refine ⟨fun b=>if b=c.cells.length-1-m then s else g b,fun b h4 h5=>?_,fun b h4 h5=>?_,fun _=>?_⟩
   ·dsimp only
    by_cases e:b=c.cells.length-1-m
    ·subst e;rw [zAM rfl];exact ht
    ·rw [zAh e];exact g1 b (by omega) h5
   ·have e2:b+1≠c.cells.length-1-m:=by omega
    dsimp only
    rw [zAh e2]
    by_cases e1:b=c.cells.length-1-m
    ·have:=g3 (by omega);rw [zAM e1,show b+1=c.cells.length-m by omega,this];exact h3
    ·rw [zAh e1];exact g2 b (by omega) h5
   ·dsimp only
    rw [zAM ei];exact h2
theorem qf (W:B2 c k pos)(V:EA q k){g:Nat -> Nat}: ∀ m,m<c.cells.length -> NQ c pos (c.cells.length-1-m) c.cells.length g -> Gx q (c.cells.length-1-m) c.cells.length g -> q.values.getD (g (c.cells.length-1-m)) 0<Hb q c pos m
 | 0,hm,h1,_=>by
  have ht:=h1 (c.cells.length-1-0) (by omega) (by omega);have:=V.val (g (c.cells.length-1-0)) (zCd fun CH=>(by rw [(W.at (by omega)).hi CH] at ht;cases ht))
  show _<(100:Int)
  omega
 | m+1,hm,h1,h2=>by
  have e1:c.cells.length-1-m=c.cells.length-1-(m+1)+1:=by omega
  have a1:NQ c pos (c.cells.length-1-m) c.cells.length g:=fun b h3 h4=>h1 b (by omega) h4
  have a2:Gx q (c.cells.length-1-m) c.cells.length g:=fun b h3 h4=>h2 b (by omega) h4
  have h3:=qf W V m (by omega) a1 a2;have h:=(YP (q:=q) (b:=Hb q c pos m) (Bc (Ab c pos (c.cells.length-1-m))) (-1)).1 (zCn _);have ht:=h1 (c.cells.length-1-m) (by omega) (by omega);have F3:=(FA (W.at (a:=c.cells.length-1-m) (by omega)) (zA0 W.k (by decide)) (e:=(g (c.cells.length-1-m):Int))).2 ⟨_,rfl,zCd fun CH=>(by rw [(W.at (by omega)).hi CH] at ht;cases ht),ht⟩;have h4:=h.2 _ F3;rw [zAT] at h4;have h4:_<=Hb q c pos (m+1):=h4 h3;have h5:=h2 (c.cells.length-1-(m+1)) (zA5 _) (by omega);rw [←e1] at h5;omega
theorem ve (W:B2 c k pos)(V:EA q k){a s:Nat}(ha:a<c.cells.length)(hs:tb (Ab c pos a) s=true):Hl q c pos a s=false↔∃ g,NQ c pos 0 c.cells.length g/\ Gx q 0 c.cells.length g/\ g a=s:=by
 have hv:=V.val s (zCd fun CH=>(by rw [(W.at ha).hi CH] at hs;cases hs));unfold Hl Id;rw [Bool.or_eq_false_iff,zC7,zC7];constructor
 ·rintro ⟨h1,h2⟩;obtain ⟨g1,p1,p2,p3⟩:=p9 (q:=q) W a (by omega) (by omega);obtain ⟨g2,r1,r2,r3⟩:=qe (q:=q) W (c.cells.length-(a+1)) (by omega) (by omega);have el:c.cells.length-(c.cells.length-(a+1))=a+1:=by omega
  rw [el] at r1 r2 r3;refine ⟨fun b=>if b<a then g1 b else if b=a then s else g2 b,fun b _ hb=>?_,fun b _ hb=>?_,by dsimp only;rw [if_neg (by omega),if_pos rfl]⟩
  ·dsimp only
   by_cases e1:b<a
   ·rw [zAM e1];exact p1 b (zDJ _) e1
   ·by_cases e2:b=a
    ·subst e2;rw [zAh e1,zAM rfl];exact hs
    ·rw [zAh e1,zAh e2];exact r1 b (by omega) hb
  ·dsimp only
   by_cases e1:b<a
   ·rw [zAM e1]
    by_cases e2:b+1<a
    ·rw [zAM e2];exact p2 b (zDJ _) e2
    ·have:=p3 (by omega);rw [zAh e2,zAM (by omega),show b=a-1 by omega,this];omega
   ·rw [zAh e1,zAh (by omega: ¬ b+1<a),zAh (by omega: ¬ b+1=a)]
    by_cases e2:b=a
    ·have:=r3 (by omega);rw [zAM e2,e2,this];omega
    ·rw [zAh e2];exact r2 b (by omega) hb
 ·rintro ⟨g,h1,h2,rfl⟩;have l1:=qB W V a ha (fun b h3 h4=>h1 b h3 (by omega)) (fun b h3 h4=>h2 b h3 (by omega));have l2:=qf W V (c.cells.length-1-a) (by omega) (fun b h3 h4=>h1 b (by omega) h4) (fun b h3 h4=>h2 b (by omega) h4);have e1:c.cells.length-1-(c.cells.length-1-a)=a:=by omega
  have e2:c.cells.length-(a+1)=c.cells.length-1-a:=by omega
  rw [e1] at l2;rw [e2];omega
def RR (c:AB)(pos:List Int)(a:Nat)(inn:Bool):Nat -> Int×Int -> Prop
 | 0,t=>VE c t
 | m+1,s=>∃ b u,kd c pos (c.cells.length-1-m) b=true/\ (c.cells.length-1-m=a -> b=inn)/\ nx c s.1 s.2 b=some u/\ RR c pos a inn m u
theorem Vy {a:Nat}{inn:Bool}: ∀ (m:Nat),m+a+1<=c.cells.length -> ∀ t,E0 c pos (c.cells.length-m) t -> (RR c pos a inn m t↔Ig c pos m t)
 | 0,_,t,_=>Iff.rfl
 | m+1,hm,s,hr=>by
  have e:c.cells.length-(m+1)=c.cells.length-1-m:=by omega
  have e2:c.cells.length-m=c.cells.length-1-m+1:=by omega
  rw [e] at hr;constructor
  ·rintro ⟨b,u,h1,_,h3,h4⟩;exact ⟨hr,u,b,h3,h1,(Vy m (by omega) u (by rw [e2];exact ⟨s,b,hr,h3,h1⟩)).1 h4⟩
  ·rintro ⟨_,u,b,h3,h1,h4⟩;exact ⟨b,u,h1,fun h=>absurd h (by omega),h3,(Vy m (by omega) u (by rw [e2];exact ⟨s,b,hr,h3,h1⟩)).2 h4⟩
theorem jN {a:Nat}{inn:Bool}(ha:a<c.cells.length): ∀ (i:Nat),i<=a -> (RR c pos a inn c.cells.length (0,0)↔∃ s,E0 c pos i s/\ RR c pos a inn (c.cells.length-i) s)
 | 0,_=>⟨fun h=>⟨(0,0),rfl,h⟩,fun ⟨s,h1,h2⟩=>by
  have h1:s=(0,0):=h1;subst h1;exact h2⟩
 | i+1,hi=>by
  rw [jN ha i (by omega)];have e:c.cells.length-i=(c.cells.length-(i+1))+1:=by omega
  have e2:c.cells.length-1-(c.cells.length-(i+1))=i:=by omega
  constructor
  ·rintro ⟨s,h1,h2⟩;rw [e] at h2;obtain ⟨b,u,h3,_,h5,h6⟩:=h2;rw [e2] at h3;exact ⟨u,⟨s,b,h1,h5,h3⟩,h6⟩
  ·rintro ⟨u,⟨s,b,h1,h5,h3⟩,h6⟩;refine ⟨s,h1,?_⟩;rw [e];exact ⟨b,u,by rw [e2];exact h3,fun h=>absurd h (by rw [e2];omega),h5,h6⟩
theorem zFJ {a:Nat}{inn:Bool}(ha:a<c.cells.length):JK c pos a inn↔RR c pos a inn c.cells.length (0,0):=by
 rw [jN ha a (zA5 _)];have e:c.cells.length-a=(c.cells.length-1-a)+1:=by omega
 have e2:c.cells.length-1-(c.cells.length-1-a)=a:=by omega
 have e3:c.cells.length-(c.cells.length-1-a)=a+1:=by omega
 constructor
 ·rintro ⟨s,t,h1,h2,h3,h4⟩;refine ⟨s,h1,?_⟩;rw [e];exact ⟨inn,t,by rw [e2];exact h3,fun _=>rfl,h2,(Vy _ (by omega) t (by rw [e3];exact ⟨s,inn,h1,h2,h3⟩)).2 h4⟩
 ·rintro ⟨s,h1,h2⟩;rw [e] at h2;obtain ⟨b,t,h3,h4,h5,h6⟩:=h2;rw [e2] at h3 h4;obtain rfl:=h4 rfl;exact ⟨s,t,h1,h5,h3,(Vy _ (by omega) t (by rw [e3];exact ⟨s,b,h1,h5,h3⟩)).1 h6⟩
end
structure Gd (q:AA)(g:List Int):Prop where
 len:(g.length:Int)=q.cells
 sym: ∀ j,j<g.length -> 0<=g.getD j 0/\ g.getD j 0<q.symbols
def Ai (g:List Int):List Int:=g.map fun s=>IntKind.i64.wrap (1*2 ^ s.toNat)
def AQ (c:AB)(g:List Int)(a:Nat):Nat:=(g.getD (c.cells.getD a 0).toNat 0).toNat
def CL (c:AB)(g:List Int):List Bool:=g.map fun s=>tb c.set s.toNat
def rl (b:Nat -> Bool)(len:Nat):Nat -> Int -> List Int
 | 0,l=>if l>0 then [l] else []
 | m+1,l=>bif b (len-1-m) then rl b len m (l+1) else if l>0 then l::rl b len m 0 else rl b len m 0
def H5 (n:List (List Int))(inn:List Bool):Prop:=∀ u v:Nat,u<n.length -> v<n.length -> inn.getD u false=true -> inn.getD v false=true -> Rc n inn u v
def CB (q:AA)(c:AB)(g:List Int):Prop:= (c.kind=1 -> ∀ a b,a<c.cells.length -> b<c.cells.length -> AQ c g a=AQ c g b -> a=b)/\ (c.kind=2 -> c.lo<=cnt (fun a=>tb c.set (AQ c g a)) c.cells.length/\ cnt (fun a=>tb c.set (AQ c g a)) c.cells.length<=c.hi)/\ (c.kind=3 -> c.lo<=CY (fun a=>q.values.getD (AQ c g a) 0) c.cells.length/\ CY (fun a=>q.values.getD (AQ c g a) 0) c.cells.length<=c.hi)/\ (c.kind=4 -> Gx q 0 c.cells.length (AQ c g))/\ (c.kind=5 -> rl (fun a=>tb c.set (AQ c g a)) c.cells.length c.cells.length 0=c.runs)/\ (c.kind=6 -> Hp q c (AQ c g 0) (AQ c g 1)=true)/\ (c.kind=7 -> HD c (AQ c g 0) (AQ c g 1)=true)/\ (c.kind=8 -> H5 q.nbrs (CL c g))/\ (c.kind=9 -> H5 q.nbrs (CL c g)/\ ∀ v,v<g.length -> (CL c g).getD v false=true -> CT q.nbrs (CL c g) v=2)
theorem E4 {g:List Int}:(Ai g).length=g.length:=zBC _
theorem Nn {g:List Int}{j:Nat}(hj:j<g.length):(Ai g).getD j 0=IntKind.i64.wrap (1*2 ^ (g.getD j 0).toNat):=by
 unfold Ai;rw [u8,zCG,zAa hj,u8,zAa hj];rfl
theorem QI {c:AB}{g:List Int}:(CL c g).length=g.length:=zBC _
theorem bC {c:AB}{g:List Int}{j:Nat}(hj:j<g.length):(CL c g).getD j false=tb c.set (g.getD j 0).toNat:=by
 unfold CL;rw [u8,zCG,zAa hj,u8,zAa hj];rfl
theorem WO {s:Nat}(hs:s<64)(m:Int):(bits .andNot .i64 (IntKind.i64.wrap (1*2 ^ s)) m==0)=tb m s:=by
 rw [zDF,zBA,Lv (GC _ _ _)];constructor
 ·intro h;have:=h s hs;rw [Ki,Hh hs,zAU rfl,zCZ] at this;simpa using this
 ·intro h i hi;rw [Ki,Hh hs]
  by_cases e:s=i
  ·subst e;rw [h];simp
  ·rw [zAP e];rfl
theorem S5 {s:Nat}(hs:s<64)(m:Int):(bits .and .i64 (IntKind.i64.wrap (1*2 ^ s)) m != 0)=tb m s:=by
 have:=Uw hs m;rw [bne,this,Bool.not_not]
theorem wm: ∀ s:Nat,s<16 -> L3 (IntKind.i64.wrap (1*2 ^ s))=true:=by decide+kernel
theorem wl: ∀ s:Nat,s<16 -> Bc (IntKind.i64.wrap (1*2 ^ s))= [(s:Int)]:=by decide+kernel
theorem kK {k s:Nat}(hk:k<=16)(hs:s<k):Sm k (IntKind.i64.wrap (1*2 ^ s)):=
 SI (by omega) (Pc _) fun i hi _=>by rw [Hh (by omega),zAP (by omega)]
section
variable {q:AA} {i:Int} {g:List Int} {c:AB}
theorem Gd.pos (G:Gd q g)(hv:B8 q=true):posOk q (Ai g)=true:=by
 have hk:=(ED hv).2.1;refine (E7 hv).2 ⟨by rw [E4];exact G.len,fun j hj=>?_⟩;rw [E4] at hj;have:=G.sym j hj;rw [Nn hj];exact kK (by omega) (by omega)
theorem Gd.lt (G:Gd q g)(hv:B8 q=true){j:Nat}(hj:j<g.length):(g.getD j 0).toNat<q.symbols.toNat/\ (g.getD j 0).toNat<16:=by
 have hk:=(ED hv).2.1;have:=G.sym j hj;omega
theorem Po (G:Gd q g)(hv:B8 q=true){j:Nat}(hj:j<g.length)(s:Nat):tb ((Ai g).getD j 0) s=decide ((g.getD j 0).toNat=s):=by
 rw [Nn hj,Hh (by have:=G.lt hv hj;omega)]
structure Sv (q:AA)(c:AB)(g:List Int):Prop where
 v:B8 q=true
 G:Gd q g
 cell: ∀ a,a<c.cells.length -> 0<=c.cells.getD a 0/\ c.cells.getD a 0<(g.length:Int)
theorem Sv.lt (S:Sv q c g){a:Nat}(ha:a<c.cells.length):AQ c g a<q.symbols.toNat/\ AQ c g a<16:=S.G.lt S.v (by have:=S.cell a ha;omega)
theorem Sv.set (S:Sv q c g){a:Nat}(ha:a<c.cells.length):Ab c (Ai g) a=IntKind.i64.wrap (1*2 ^ AQ c g a):=Nn (by have:=S.cell a ha;omega)
theorem Sv.tb (S:Sv q c g){a:Nat}(ha:a<c.cells.length)(s:Nat):tb (Ab c (Ai g) a) s=decide (AQ c g a=s):=by
 rw [S.set ha,Hh (by have:=S.lt ha;omega)]
theorem Bm.sv (C:Bm q i (Ai g))(G:Gd q g):Sv q (con q i) g:=⟨C.valid,G,fun a ha=>by have:=C.work.cells a ha;rw [E4] at this;exact this⟩
theorem Sv.nz (S:Sv q c g): ∀ j,j<(Ai g).length -> (Ai g).getD j 0≠0:=fun j hj=>by
 rw [E4] at hj;refine (FU (by rw [Nn hj];exact Pc _)).2 ⟨(g.getD j 0).toNat,by have:=S.G.lt S.v hj;omega,?_⟩;rw [Po S.G S.v hj,zAU rfl]
theorem tC (S:Sv q c g)(Bu:Cg q c (Ai g))(h: ∀ a,a<c.cells.length -> ¬ Be q c (Ai g) a (AQ c g a)):Gy q c (Ai g)/\ PR q c (Ai g) (Ai g):=by
 have no: ∀ j s,j<(Ai g).length -> Proofs.YtkjbblkieglmlaaGreatDoor.tb ((Ai g).getD j 0) s=true -> ¬ LC q c (Ai g) j s:=by
  rintro j s hj hs ⟨a,ha,rfl,hl⟩;rw [E4] at hj;rw [Po S.G S.v hj,zAi] at hs;subst hs;exact h a ha hl
 have hA:Gy q c (Ai g):=⟨S.nz,Bu,fun j hj=>by
  have BJ:=hj;rw [E4] at BJ;have ht:Proofs.YtkjbblkieglmlaaGreatDoor.tb ((Ai g).getD j 0) (g.getD j 0).toNat=true:=by rw [Po S.G S.v BJ,zAU rfl]
  exact ⟨(g.getD j 0).toNat,by have:=S.G.lt S.v BJ;omega,ht,no j _ hj ht⟩⟩
 refine ⟨hA,rfl,fun _ j hj=>⟨by rw [E4] at hj;rw [Nn hj];exact Pc _,fun s=>⟨fun hs=>⟨hs,no j s hj hs⟩,fun hs=>hs.1⟩⟩,fun hn=>absurd hA hn⟩
theorem su (S:Sv q c g)(hA:Gy q c (Ai g)):Cg q c (Ai g)/\ ∀ a,a<c.cells.length -> ¬ Be q c (Ai g) a (AQ c g a):=by
 refine ⟨hA.ok,fun a ha hl=>?_⟩;have hc:=S.cell a ha;obtain ⟨s,_,h1,h2⟩:=hA.left (c.cells.getD a 0).toNat (by rw [E4];omega);rw [Po S.G S.v (by omega),zAi] at h1;subst h1;exact h2 ⟨a,ha,rfl,hl⟩
theorem s3 (S:Sv q c g)(h:CB q c g↔Cg q c (Ai g)/\ ∀ a,a<c.cells.length -> ¬ Be q c (Ai g) a (AQ c g a)):(CB q c g -> Gy q c (Ai g)/\ PR q c (Ai g) (Ai g))/\ (¬ CB q c g -> ¬ Gy q c (Ai g)):=
 ⟨fun hm=>let ⟨h1,h2⟩:=h.1 hm;tC S h1 h2,fun hn hA=>hn (h.2 (su S hA))⟩
theorem Ws {k:Int}(hk:c.kind=k){M:Prop}(h:CB q c g↔M){A B:Prop}(hA:Cg q c (Ai g)↔A)(hB: ∀ a,a<c.cells.length -> (Be q c (Ai g) a (AQ c g a)↔¬ B))(hM:M↔A/\ (0<c.cells.length -> B)):CB q c g↔Cg q c (Ai g)/\ ∀ a,a<c.cells.length -> ¬ Be q c (Ai g) a (AQ c g a):=by
 rw [h,hA,hM];refine and_congr Iff.rfl ⟨fun hb a ha hl=>(hB a ha).1 hl (hb (by omega)),fun hb h0=>Classical.byContradiction fun hn=>hb 0 h0 ((hB 0 h0).2 hn)⟩
theorem s8 (S:Sv q c g)(hk:c.kind=1):CB q c g↔Cg q c (Ai g)/\ ∀ a,a<c.cells.length -> ¬ Be q c (Ai g) a (AQ c g a):=by
 unfold CB Cg Be;rw [hk];simp only [PA,Sg];simp;constructor
 ·intro h a ha b hb Ad _;rw [S.tb hb,zC7];exact fun ht=>Ad (h b a hb ha ht)
 ·intro h a b ha hb e;refine Classical.byContradiction fun Ad=>?_
  have:=h b hb a ha Ad (by rw [S.set ha];exact wm _ (S.lt ha).2);rw [S.tb ha,zC7] at this;exact this e
theorem ir (S:Sv q c g){a:Nat}(ha:a<c.cells.length):D7 c (Ai g) a=Proofs.YtkjbblkieglmlaaGreatDoor.tb c.set (AQ c g a)/\ Ef c (Ai g) a=Proofs.YtkjbblkieglmlaaGreatDoor.tb c.set (AQ c g a):=by
 have hs:AQ c g a<64:=by have:=S.lt ha;omega
 unfold Ef D7;rw [S.set ha,WO hs,S5 hs,Bool.or_self];exact ⟨rfl,rfl⟩
theorem eF {p p':Nat -> Bool}: ∀ {n:Nat},(∀ a,a<n -> p a=p' a) -> cnt p n=cnt p' n
 | 0,_=>rfl
 | n+1,h=>by rw [Lc,Lc,eF fun a ha=>h a (by omega),h n (by omega)]
theorem ZP {p p':Nat -> Int}: ∀ {n:Nat},(∀ a,a<n -> p a=p' a) -> CY p n=CY p' n
 | 0,_=>rfl
 | n+1,h=>by simp only [CY];rw [ZP fun a ha=>h a (by omega),h n (by omega)]
theorem s9 (S:Sv q c g)(hk:c.kind=2):CB q c g↔Cg q c (Ai g)/\ ∀ a,a<c.cells.length -> ¬ Be q c (Ai g) a (AQ c g a):=by
 have e1:cnt (D7 c (Ai g)) c.cells.length=cnt (fun a=>Proofs.YtkjbblkieglmlaaGreatDoor.tb c.set (AQ c g a)) c.cells.length:=eF fun a ha=>(ir S ha).1
 have e2:cnt (Ef c (Ai g)) c.cells.length=cnt (fun a=>Proofs.YtkjbblkieglmlaaGreatDoor.tb c.set (AQ c g a)) c.cells.length:=eF fun a ha=>(ir S ha).2
 unfold CB Cg Be;rw [hk];simp only [La,Ib,e1,e2];simp
 have no: ∀ a,a<c.cells.length -> ¬ ((cnt (fun a=>Proofs.YtkjbblkieglmlaaGreatDoor.tb c.set (AQ c g a)) c.cells.length=c.hi/\ ¬ bits .andNot .i64 (Ab c (Ai g) a) c.set=0)/\ Proofs.YtkjbblkieglmlaaGreatDoor.tb c.set (AQ c g a)=true∨(cnt (fun a=>Proofs.YtkjbblkieglmlaaGreatDoor.tb c.set (AQ c g a)) c.cells.length=c.lo/\ ¬ bits .and .i64 (Ab c (Ai g) a) c.set=0)/\ Proofs.YtkjbblkieglmlaaGreatDoor.tb c.set (AQ c g a)=false):=by
  intro a ha;have hs:AQ c g a<64:=by have:=S.lt ha;omega
  have a1:=WO hs c.set;have a2:=S5 hs c.set;rw [←S.set ha] at a1 a2;rintro (⟨⟨_,h1⟩,h2⟩ | ⟨⟨_,h1⟩,h2⟩)
  ·rw [h2,zBA] at a1;exact h1 a1
  ·rw [h2,bne_eq_false_iff_eq] at a2;exact h1 a2
 constructor
 ·rintro ⟨h1,h2⟩;refine ⟨⟨h2,h1⟩,fun a ha=>?_⟩;have:=no a ha;simpa [not_or] using this
 ·rintro ⟨⟨h1,h2⟩,_⟩;exact ⟨h2,h1⟩
theorem Vl (S:Sv q c g)(V:EA q q.symbols.toNat){a:Nat}(ha:a<c.cells.length):EU q (Ab c (Ai g) a)=q.values.getD (AQ c g a) 0/\ EX q (Ab c (Ai g) a)=q.values.getD (AQ c g a) 0:=by
 have hv:=V.val _ (S.lt ha).1;unfold EU EX;rw [S.set ha,wl _ (S.lt ha).2];simp only [zDH,List.foldl_nil,Ju,KA,zAT];constructor
 ·rw [zAM (by omega)]
 ·rw [zAM (by omega)]
theorem sj (S:Sv q c g)(V:EA q q.symbols.toNat)(hk:c.kind=3):CB q c g↔Cg q c (Ai g)/\ ∀ a,a<c.cells.length -> ¬ Be q c (Ai g) a (AQ c g a):=by
 have e1:Jt q c (Ai g)=CY (fun a=>q.values.getD (AQ c g a) 0) c.cells.length:=ZP fun a ha=>(Vl S V ha).1
 have e2:J9 q c (Ai g)=CY (fun a=>q.values.getD (AQ c g a) 0) c.cells.length:=ZP fun a ha=>(Vl S V ha).2
 unfold CB Cg Be;rw [hk];simp only [Km,H9,e1,e2]
 generalize CY (fun a=>q.values.getD (AQ c g a) 0) c.cells.length=t
 simp;constructor
 ·rintro ⟨h1,h2⟩;refine ⟨⟨h2,h1⟩,fun a ha=>?_⟩;rw [(Vl S V ha).1,(Vl S V ha).2,u8];omega
 ·rintro ⟨⟨h1,h2⟩,_⟩;exact ⟨h2,h1⟩
theorem sn (S:Sv q c g)(W:B2 c q.symbols.toNat (Ai g))(V:EA q q.symbols.toNat)(hk:c.kind=4):CB q c g↔Cg q c (Ai g)/\ ∀ a,a<c.cells.length -> ¬ Be q c (Ai g) a (AQ c g a):=by
 have key: ∀ a,a<c.cells.length -> (Hl q c (Ai g) a (AQ c g a)=false↔Gx q 0 c.cells.length (AQ c g)):=fun a ha=>by
  rw [ve W V ha (by rw [S.tb ha,zAU rfl])];constructor
  ·rintro ⟨f,h1,h2,_⟩ b h3 h4
   have f1: ∀ b,b<c.cells.length -> f b=AQ c g b:=fun b hb=>by
    have:=h1 b (zDJ _) hb;rw [S.tb hb,zAi] at this;exact this.symm
   have:=h2 b h3 h4
   rwa [f1 b (by omega),f1 (b+1) h4] at this
  ·intro h;exact ⟨AQ c g,fun b _ hb=>by rw [S.tb hb,zAU rfl],h,rfl⟩
 have hM:CB q c g↔Gx q 0 c.cells.length (AQ c g):=by unfold CB;rw [hk];simp
 have hO:Cg q c (Ai g)↔True:=by unfold Cg;rw [hk];simp
 refine Ws hk hM hO (fun a ha=>?_) (B:=Gx q 0 c.cells.length (AQ c g)) ⟨fun h=>⟨trivial,fun _=>h⟩,fun h=>?_⟩
 ·rw [←key a ha];unfold Be;rw [hk];simp
 ·rcases zGS c.cells.length with e | e
  ·intro b _ hb;omega
  ·exact h.2 e
theorem iq (S:Sv q c g){ok:Nat -> Nat -> Bool}(h2:c.cells.length=2)(a:Nat)(ha:a<c.cells.length):GO ok c (Ai g) a (AQ c g a)↔¬ ok (AQ c g 0) (AQ c g 1)=true:=by
 unfold GO;have t0: ∀ t,Proofs.YtkjbblkieglmlaaGreatDoor.tb (Ab c (Ai g) 0) t=true↔AQ c g 0=t:=fun t=>by rw [S.tb (by omega),zAi]
 have t1: ∀ t,Proofs.YtkjbblkieglmlaaGreatDoor.tb (Ab c (Ai g) 1) t=true↔AQ c g 1=t:=fun t=>by rw [S.tb (by omega),zAi]
 split
 ·rename_i e;subst e;simp only [t1];exact not_congr ⟨fun ⟨t,e,h⟩=>by rw [e];exact h,fun h=>⟨_,rfl,h⟩⟩
 ·have:a=1:=by omega
  subst this;simp only [t0];exact not_congr ⟨fun ⟨t,e,h⟩=>by rw [e];exact h,fun h=>⟨_,rfl,h⟩⟩
theorem tB (S:Sv q c g)(h2:c.cells.length=2)(hk:c.kind=6):CB q c g↔Cg q c (Ai g)/\ ∀ a,a<c.cells.length -> ¬ Be q c (Ai g) a (AQ c g a):=by
 refine Ws (M:=Hp q c (AQ c g 0) (AQ c g 1)=true) (A:=True) (B:=Hp q c (AQ c g 0) (AQ c g 1)=true) hk ?_ ?_ (fun a ha=>?_) ⟨fun h=>⟨trivial,fun _=>h⟩,fun h=>h.2 (by omega)⟩
 ·unfold CB;rw [hk];simp
 ·unfold Cg;rw [hk];simp
 ·rw [←iq S h2 a ha];unfold Be;rw [hk];simp
theorem sr (S:Sv q c g)(h2:c.cells.length=2)(hk:c.kind=7):CB q c g↔Cg q c (Ai g)/\ ∀ a,a<c.cells.length -> ¬ Be q c (Ai g) a (AQ c g a):=by
 refine Ws (M:=HD c (AQ c g 0) (AQ c g 1)=true) (A:=True) (B:=HD c (AQ c g 0) (AQ c g 1)=true) hk ?_ ?_ (fun a ha=>?_) ⟨fun h=>⟨trivial,fun _=>h⟩,fun h=>h.2 (by omega)⟩
 ·unfold CB;rw [hk];simp
 ·unfold Cg;rw [hk];simp
 ·rw [←iq S h2 a ha];unfold Be;rw [hk];simp
end
abbrev zGk:=@Nat.zero_lt_one
abbrev zHG:=@iff_of_false
abbrev zHy:=@iff_of_true
theorem Md {k s n:Nat}{x:Int}(h:Sm k x)(hk:k<=62)(hs:s<64):Hs n x (s:Int)=some (tb x s):=by
 unfold Hs mY;rw [zAM ⟨by omega,by show (s:Int)<=((64:Nat):Int);omega⟩,zAT,Zk h hk hs]
section
variable {q:AA} {g:List Int} {c:AB}
theorem Sv.gi (S:Sv q c g){a:Nat}(ha:a<c.cells.length):g.getD (c.cells.getD a 0).toNat 0=((AQ c g a:Nat):Int):=by
 have h:=S.cell a ha;have:=S.G.sym (c.cells.getD a 0).toNat (by omega);unfold AQ;omega
theorem tE {k:Nat}{x y:Int}(hk:k<=62)(hx:Sm k x)(hy:Sm k y):Sm k (bits .or .i64 x y):=
 SI hk (GC _ _ _) fun i hi _=>by rw [Kh,hx.hi hi,hy.hi hi];rfl
theorem zEJ (S:Sv q c g)(hl:c.cells.length<=256): ∃ r,Ev (fun n=>YT n g c.cells) r/\ (r=true↔∀ a b,a<c.cells.length -> b<c.cells.length -> AQ c g a=AQ c g b -> a=b):=by
 have key: ∀ (k i:Nat) (x:Int),i+k=c.cells.length -> Sm 16 x -> (∀ s,tb x s=true↔∃ b,b<i/\ AQ c g b=s) -> (∀ a b,a<i -> b<i -> AQ c g a=AQ c g b -> a=b) ->
  ∃ r,Ev (fun n=>NA g c.cells n (.l1 x (i:Int))) r/\ (r=true↔∀ a b,a<c.cells.length -> b<c.cells.length -> AQ c g a=AQ c g b -> a=b):=by
  intro k
  induction k with
  | zero=>
   intro i x e hx hs hd;have e:i=c.cells.length:=by omega
   subst e;refine ⟨true,Ev.one fun n=>?_,zHy rfl hd⟩
   show Ud n (NA g c.cells n) g c.cells x (c.cells.length:Int)=_
   unfold Ud;rw [zAP (by omega),zAR]
  | succ k ih=>
   intro i x e hx hs hd;have hi:i<c.cells.length:=by omega
   have hc:=S.cell i hi;have AM:=(S.lt hi).2
   have step: ∀ n,NA g c.cells (n+1) (.l1 x (i:Int))=bif tb x (AQ c g i) then some false else NA g c.cells n (.l1 (bits .or .i64 x (IntKind.i64.wrap (1*2 ^ AQ c g i))) ((i+1:Nat):Int)):=fun n=>by
    show Ud n (NA g c.cells n) g c.cells x (i:Int)=_
    unfold Ud;rw [zAU (by omega),zAV,zAT,zAM ⟨⟨by omega,by omega⟩,hc⟩,S.gi hi,Md hx (by decide) (by omega),zAS];cases tb x (AQ c g i)
    ·rw [zAR,zAR,zAM ⟨⟨by omega,by show ((AQ c g i:Nat):Int)<=((64:Nat):Int);omega⟩,Av.2 ⟨by omega,by omega⟩⟩,zAT,show ((i+1:Nat):Int)=(i:Int)+1 by omega]
    ·rfl
   cases hb:tb x (AQ c g i) with
   | true=>
    obtain ⟨b,h1,h2⟩:=(hs _).1 hb;refine ⟨false,Ev.one fun n=>by rw [step n,hb,zAV],zHG (by decide) fun h=>?_⟩;have:=h b i (by omega) hi h2;omega
   | false=>
    have no: ∀ b,b<i -> AQ c g b≠AQ c g i:=fun b DN e=>by
     rw [(hs _).2 ⟨b,DN,e⟩] at hb;cases hb
    obtain ⟨r,h1,h2⟩:=ih (i+1) (bits .or .i64 x (IntKind.i64.wrap (1*2 ^ AQ c g i))) (by omega) (tE (by decide) hx (kK (by decide) AM)) (fun s=>by
     rw [Kh,Hh (by omega),zA9,hs,zAi];constructor
     ·rintro (⟨b,h1,h2⟩ | h)
      ·exact ⟨b,by omega,h2⟩
      ·exact ⟨i,by omega,h⟩
     ·rintro ⟨b,h1,h2⟩;rcases zAl.1 h1 with h | rfl
      ·exact .inl ⟨b,h,h2⟩
      ·exact .inr h2) (fun a b ha hb e'=>by
     rcases zAl.1 ha with ha | rfl <;> rcases zAl.1 hb with hb | rfl
     ·exact hd a b ha hb e'
     ·exact absurd e' (no a ha)
     ·exact absurd e'.symm (no b hb)
     ·rfl)
    exact ⟨r,BK.ev (BK.one fun n=>by rw [step n,hb,zAR]) h1,h2⟩
 exact key c.cells.length 0 0 (by omega) ⟨by decide,by decide⟩ (fun s=>by rw [VX];simp) fun a b ha=>absurd ha (zAv a)
theorem zEd (S:Sv q c g)(hl:c.cells.length<=256){k:Nat}(hs:Sm k c.set)(hk:k<=16):Ev (fun n=>YZ n g c.cells c.set) (cnt (fun a=>tb c.set (AQ c g a)) c.cells.length):=by
 have key: ∀ (k i:Nat),i+k=c.cells.length -> Ev (fun n=>RB g c.cells c.set n (.l1 (cnt (fun a=>tb c.set (AQ c g a)) i) (i:Int))) (cnt (fun a=>tb c.set (AQ c g a)) c.cells.length):=by
  intro k
  induction k with
  | zero=>
   intro i e;have e:i=c.cells.length:=by omega
   subst e;refine Ev.one fun n=>?_
   show Up n (RB g c.cells c.set n) g c.cells c.set _ (c.cells.length:Int)=_
   unfold Up;rw [zAP (by omega),zAR]
  | succ k ih=>
   intro i e;have hi:i<c.cells.length:=by omega
   have hc:=S.cell i hi;have AM:=(S.lt hi).2;have hb:=eE (p:=fun a=>tb c.set (AQ c g a)) (i:=i);refine BK.ev (BK.one fun n=>?_) (ih (i+1) (by omega))
   show Up n (RB g c.cells c.set n) g c.cells c.set _ (i:Int)=_
   unfold Up;rw [zAU (by omega),zAV,zAT,zAM ⟨⟨by omega,by omega⟩,hc⟩,S.gi hi,Md hs (by omega) (by omega),zAS,Lc,show ((i+1:Nat):Int)=(i:Int)+1 by omega];cases tb c.set (AQ c g i)
   ·rw [zAR,zAM (Av.2 ⟨by omega,by omega⟩)];simp
   ·rw [zAV,zAM ⟨Av.2 ⟨by omega,by omega⟩,Av.2 ⟨by omega,by omega⟩⟩,zAM rfl]
 exact key c.cells.length 0 (by omega)
theorem rp (S:Sv q c g)(V:EA q q.symbols.toNat)(hl:c.cells.length<=256):Ev (fun n=>Ve n q.values g c.cells) (CY (fun a=>q.values.getD (AQ c g a) 0) c.cells.length):=by
 have hv: ∀ i,i<c.cells.length -> 0<=q.values.getD (AQ c g i) 0/\ q.values.getD (AQ c g i) 0<=99:=fun i hi=>V.val _ (S.lt hi).1
 have key: ∀ (k i:Nat),i+k=c.cells.length -> Ev (fun n=>Pk q.values g c.cells n (.l1 (CY (fun a=>q.values.getD (AQ c g a) 0) i) (i:Int))) (CY (fun a=>q.values.getD (AQ c g a) 0) c.cells.length):=by
  intro k
  induction k with
  | zero=>
   intro i e;have e:i=c.cells.length:=by omega
   subst e;refine Ev.one fun n=>?_
   show Rq n (Pk q.values g c.cells n) q.values g c.cells _ (c.cells.length:Int)=_
   unfold Rq;rw [zAP (by omega),zAR]
  | succ k ih=>
   intro i e;have hi:i<c.cells.length:=by omega
   have hc:=S.cell i hi;have AM:=(S.lt hi).1;have HI:=V.len;have C5:=hv i hi;have hb:=Pg (f:=fun a=>q.values.getD (AQ c g a) 0) i fun a ha=>by have:=hv a (by omega);omega
   refine BK.ev (BK.one fun n=>?_) (ih (i+1) (by omega))
   show Rq n (Pk q.values g c.cells n) q.values g c.cells _ (i:Int)=_
   unfold Rq;rw [zAU (by omega),zAV,zAT,S.gi hi,zAT,zAM ⟨⟨by omega,by omega⟩,hc,⟨by omega,by omega⟩,Av.2 ⟨by omega,by omega⟩,Av.2 ⟨by omega,by omega⟩⟩,show ((i+1:Nat):Int)=(i:Int)+1 by omega];rfl
 exact key c.cells.length 0 (by omega)
theorem vf (S:Sv q c g)(V:EA q q.symbols.toNat)(hl:c.cells.length<=256): ∃ r,Ev (fun n=>V9 n q.values g c.cells) r/\ (r=true↔Gx q 0 c.cells.length (AQ c g)):=by
 have hv: ∀ i,i<c.cells.length -> 0<=q.values.getD (AQ c g i) 0/\ q.values.getD (AQ c g i) 0<=99:=fun i hi=>V.val _ (S.lt hi).1
 have key: ∀ (k i:Nat) (x:Int),i+k=c.cells.length -> (i=0 -> x= -1) -> (0<i -> x=q.values.getD (AQ c g (i-1)) 0) -> Gx q 0 i (AQ c g) ->
  ∃ r,Ev (fun n=>MF q.values g c.cells n (.l1 x (i:Int))) r/\ (r=true↔Gx q 0 c.cells.length (AQ c g)):=by
  intro k
  induction k with
  | zero=>
   intro i x e h0 h1 hI;have e:i=c.cells.length:=by omega
   subst e;refine ⟨true,Ev.one fun n=>?_,zHy rfl hI⟩
   show So n (MF q.values g c.cells n) q.values g c.cells x (c.cells.length:Int)=_
   unfold So;rw [zAP (by omega),zAR]
  | succ k ih=>
   intro i x e h0 h1 hI;have hi:i<c.cells.length:=by omega
   have hc:=S.cell i hi;have AM:=(S.lt hi).1;have HI:=V.len;have C5:=hv i hi
   have step: ∀ n,MF q.values g c.cells (n+1) (.l1 x (i:Int))=bif decide (q.values.getD (AQ c g i) 0<=x) then some false else MF q.values g c.cells n (.l1 (q.values.getD (AQ c g i) 0) ((i+1:Nat):Int)):=fun n=>by
    show So n (MF q.values g c.cells n) q.values g c.cells x (i:Int)=_
    unfold So;rw [zAU (by omega),zAV,zAT,S.gi hi,zAT,zAM ⟨⟨by omega,by omega⟩,hc,by omega,by omega⟩,zAM (Av.2 ⟨by omega,by omega⟩),show ((i+1:Nat):Int)=(i:Int)+1 by omega]
   by_cases h:q.values.getD (AQ c g i) 0<=x
   ·refine ⟨false,Ev.one fun n=>by rw [step n,zAU h,zAV],zHG (by decide) fun hI2=>?_⟩;rcases zGS i with e0 | e0
    ·have:=h0 e0;omega
    ·have h2:=hI2 (i-1) (zDJ _) (by omega);rw [←h1 e0,show i-1+1=i by omega] at h2;omega
   ·obtain ⟨r,r1,r2⟩:=ih (i+1) (q.values.getD (AQ c g i) 0) (by omega) (fun h=>absurd h (by omega)) (fun _=>by rw [Nat.add_sub_cancel]) (fun b dB hb=>by
     by_cases e1:b+1=i
     ·rw [e1,show b=i-1 by omega,←h1 (by omega)];omega
     ·exact hI b dB (by omega))
    exact ⟨r,BK.ev (BK.one fun n=>by rw [step n,zAP h,zAR]) r1,r2⟩
 exact key c.cells.length 0 (-1) (by omega) (fun _=>rfl) (fun h=>absurd h (Nat.lt_irrefl 0)) fun b _ h=>absurd h (zAv _)
theorem u5 (S:Sv q c g)(hl:c.cells.length<=256){k:Nat}(hs:Sm k c.set)(hk:k<=16):Ev (fun n=>Ps n c.cells c.set g) (rl (fun a=>tb c.set (AQ c g a)) c.cells.length c.cells.length 0):=by
 have key: ∀ (m i:Nat) (l:Int),i+m=c.cells.length -> 0<=l/\ l<=(i:Int) -> Ev (fun n=>G8 c.cells c.set g n (.l1 l (i:Int))) (rl (fun a=>tb c.set (AQ c g a)) c.cells.length m l):=by
  intro m
  induction m with
  | zero=>
   intro i l e Cs;have e:i=c.cells.length:=by omega
   subst e;refine Ev.one fun n=>?_
   show Nt n (G8 c.cells c.set g n) c.cells c.set g l (c.cells.length:Int)=_
   unfold Nt rl;rw [zAP (by omega),zAR]
   by_cases h:l>0
   ·rw [zAU h,zAV,zAM h];rfl
   ·rw [zAP h,zAR,zAh h]
  | succ m ih=>
   intro i l e Cs;have hi:i<c.cells.length:=by omega
   have hc:=S.cell i hi;have AM:=(S.lt hi).2;have ei:c.cells.length-1-m=i:=by omega
   have start: ∀ n,G8 c.cells c.set g (n+1) (.l1 l (i:Int))=bif tb c.set (AQ c g i) then G8 c.cells c.set g n (.l1 (l+1) ((i+1:Nat):Int)) else bif decide (l>0) then (G8 c.cells c.set g n (.l1 0 ((i+1:Nat):Int))).map (fun r=>l::r) else G8 c.cells c.set g n (.l1 0 ((i+1:Nat):Int)):=fun n=>by
    have r1:AJ ((i:Int)+1):=Av.2 ⟨by omega,by omega⟩
    show Nt n (G8 c.cells c.set g n) c.cells c.set g l (i:Int)=_
    unfold Nt;rw [zAU (by omega),zAV,zAT,zAM ⟨⟨by omega,by omega⟩,hc⟩,S.gi hi,Md hs (by omega) (by omega),zAS,show ((i+1:Nat):Int)=(i:Int)+1 by omega];cases tb c.set (AQ c g i)
    ·rw [zAR,zAR,zAM r1];cases decide (l>0) <;> rfl
    ·rw [zAV,zAV,zAM ⟨Av.2 ⟨by omega,by omega⟩,r1⟩]
   unfold rl;rw [ei];cases hb:tb c.set (AQ c g i) with
   | true=>exact BK.ev (BK.one fun n=>by rw [start n,hb,zAV]) (ih (i+1) (l+1) (by omega) (by omega))
   | false=>
    have h0:=ih (i+1) 0 (by omega) (by omega)
    by_cases h:l>0
    ·obtain ⟨N,h0⟩:=h0;refine ⟨N+1,fun n hn=>?_⟩;obtain ⟨n,rfl⟩: ∃ k,n=k+1:=⟨n-1,by omega⟩
     show G8 c.cells c.set g (n+1) (.l1 l (i:Int))=_
     rw [start n,hb,zAR,zAU h,zAV,show G8 c.cells c.set g n (.l1 0 ((i+1:Nat):Int))=_ from h0 n (by omega),zAR,zAM h];rfl
    ·rw [zAR,zAh h];exact BK.ev (BK.one fun n=>by rw [start n,hb,zAR,zAP h,zAR]) h0
 exact key c.cells.length 0 0 (by omega) ⟨zCn _,by omega⟩
theorem Z8 {b:Nat -> Bool}{N:Nat}: ∀ (m:Nat) (l:Int),(rl b N m l).length<=m+1
 | 0,l=>by unfold rl;split <;> simp
 | m+1,l=>by
  unfold rl;cases b (N-1-m)
  ·rw [zAR];have:=Z8 (b:=b) (N:=N) m 0;split
   ·simp;omega
   ·omega
  ·rw [zAV];have:=Z8 (b:=b) (N:=N) m (l+1);omega
theorem qU {n:Nat}: ∀ (l x:List Int),(x++l).length<=BA -> Bq (Yw n) l (.s1 x.length x)=some (.s1 (x++l).length (x++l))
 | [],x,h=>by rw [zGb];rfl
 | a::l,x,h=>by
  have e:x++a::l=x++[a]++l:=by simp
  have hl:x.length+([a]:List Int).length<=BA:=by simp only [zA7,zCU] at h;simp only [zCf];omega
  show (U4 n a x.length x).bind _=_
  unfold U4;rw [zAM ⟨⟨rfl,rfl⟩,⟨rfl,rfl⟩,hl⟩,zAS,e,←zA7];exact qU l (x++[a]) (by rw [←e];exact h)
theorem zE6 {n:Nat}{l:List Int}(hl:l.length<=300):PE n l=some l:=by
 have L:(1000000000000:Nat)=BA:=rfl;unfold PE eB Yx fA;cases l with
 | nil=>rfl
 | cons a l=>
  have e:Bq (Yw n) (a::l) .s0=some (.s1 ([a]++l).length ([a]++l)):=by
   show (U5 n a).bind _=_
   unfold U5;rw [zAM ⟨⟨rfl,rfl⟩,zGk,by rw [←L];show 1<=_;omega⟩,zAS];exact qU l [a] (by rw [←L];simp only [zA7,zCU,zC5] at hl ⊢;omega)
  rw [e,zAS]
  show (if ([a]++l).length=([a]++l).length then some ([a]++l) else none).bind _=_
  rw [zAM rfl];rfl
end
abbrev zGv:=@forall_congr'
section
variable {q:AA} {i:Int} {g:List Int} {c:AB}
def RY (c:AB)(b:Nat -> Bool):Nat -> Int×Int -> Prop
 | 0,t=>VE c t
 | m+1,s=>∃ u,nx c s.1 s.2 (b (c.cells.length-1-m))=some u/\ RY c b m u
theorem iu (S:Sv q c g){a:Nat}(ha:a<c.cells.length){inn:Bool}:kd c (Ai g) a inn=true↔inn=tb c.set (AQ c g a):=by
 have hs:AQ c g a<64:=by have:=S.lt ha;omega
 unfold kd;rw [S.set ha];cases inn
 ·rw [zAR,bne,WO hs];cases tb c.set (AQ c g a) <;> simp
 ·rw [zAV,S5 hs];cases tb c.set (AQ c g a) <;> simp
theorem Zw (S:Sv q c g){a:Nat}{inn:Bool}(ha:a<c.cells.length): ∀ (m:Nat) (s:Int×Int),m<=c.cells.length -> (RR c (Ai g) a inn m s↔RY c (fun a=>tb c.set (AQ c g a)) m s/\ (c.cells.length<=a+m -> inn=tb c.set (AQ c g a)))
 | 0,s,_=>⟨fun h=>⟨h,fun h=>by omega⟩,fun h=>h.1⟩
 | m+1,s,hm=>by
  constructor
  ·rintro ⟨b,u,h1,h2,h3,h4⟩;obtain rfl:=(iu S (by omega)).1 h1;obtain ⟨h5,h6⟩:=(Zw S ha m u (by omega)).1 h4;refine ⟨⟨u,h3,h5⟩,fun h=>?_⟩
   by_cases e:c.cells.length-1-m=a
   ·rw [←h2 e,e]
   ·exact h6 (by omega)
  ·rintro ⟨⟨u,h3,h5⟩,h6⟩;refine ⟨tb c.set (AQ c g (c.cells.length-1-m)),u,(iu S (by omega)).2 rfl,fun e=>?_,h3,(Zw S ha m u (by omega)).2 ⟨h5,fun h=>h6 (by omega)⟩⟩;rw [h6 (by omega),e]
theorem pi (S:Sv q c g){a:Nat}{inn:Bool}(ha:a<c.cells.length):JK c (Ai g) a inn↔RY c (fun a=>tb c.set (AQ c g a)) c.cells.length (0,0)/\ inn=tb c.set (AQ c g a):=by
 rw [zFJ ha,Zw S ha _ _ (zA5 _)];exact ⟨fun h=>⟨h.1,h.2 (by omega)⟩,fun h=>⟨h.1,fun _=>h.2⟩⟩
theorem jf {b:Nat -> Bool}{n:Nat}: ∀ (m:Nat) (l:Int),0<l -> ∃ x r,rl b n m l=x::r/\ l<=x
 | 0,l,h=>⟨l,[],by unfold rl;rw [zAM h],zCn _⟩
 | m+1,l,h=>by
  unfold rl;cases b (n-1-m)
  ·rw [zAR,zAM h];exact ⟨l,_,rfl,zCn _⟩
  ·rw [zAV];obtain ⟨x,r,h1,h2⟩:=jf m (l+1) (by omega);exact ⟨x,r,h1,by omega⟩
theorem pJ {l:List Int}{d:Nat}:l.drop d= []↔l.length<=d:=List.drop_eq_nil_iff
theorem dp {l:List Int}{d:Nat}(h:d<l.length):l.drop d=l.getD d 0::l.drop (d+1):=by
 rw [zCJ h,u8,zAa h];rfl
theorem Vx {b:Nat -> Bool}(h1: ∀ x∈c.runs,1<=x): ∀ (m:Nat) (d l:Int),Lj c d l -> (RY c b m (d,l)↔rl b c.cells.length m l=c.runs.drop d.toNat)
 | 0,d,l,h=>by
  obtain ⟨d0,d1,l0,ho⟩:=h;have pos: ∀ j,j<c.runs.length -> 1<=c.runs.getD j 0:=fun j hj=>h1 _ (by rw [u8,zAa hj];exact zBD hj)
  show VE c (d,l)↔_
  unfold VE rl;simp only [zCp]
  by_cases hl:l>0
  ·obtain ⟨o1,o2⟩:=ho hl;rw [zAM hl,dp (by omega)];constructor
   ·rintro (⟨_,e⟩ | ⟨_,e1,e2⟩)
    ·omega
    ·rw [show d.toNat=c.runs.length-1 by omega,←e2,zDG (by omega)]
   ·intro e;injection e with e1 e2
    have:=pJ.1 e2.symm;exact .inr ⟨by omega,by omega,by rw [e1,show d.toNat=c.runs.length-1 by omega]⟩
  ·have:l=0:=by omega
   subst this;rw [zAh hl,@eq_comm _ ([]:List Int),pJ];constructor
   ·rintro (⟨e,_⟩ | ⟨e0,e1,e2⟩)
    ·omega
    ·have:=pos (c.runs.length-1) (by omega);omega
   ·intro e;exact .inl ⟨by omega,rfl⟩
 | m+1,d,l,h=>by
  have h':=h;obtain ⟨d0,d1,l0,ho⟩:=h;have pos: ∀ j,j<c.runs.length -> 1<=c.runs.getD j 0:=fun j hj=>h1 _ (by rw [u8,zAa hj];exact zBD hj)
  show (∃ u,nx c d l (b (c.cells.length-1-m))=some u/\ RY c b m u)↔_
  unfold rl;cases hb:b (c.cells.length-1-m) with
  | true=>
   rw [zAV];unfold nx;rw [zAV]
   by_cases e:d<(c.runs.length:Int)/\ l<c.runs.getD d.toNat 0
   ·rw [zAM e,←Vx h1 m d (l+1) ⟨d0,d1,by omega,fun _=>⟨e.1,by omega⟩⟩];exact ⟨fun ⟨u,e1,e2⟩=>by cases e1;exact e2,fun h=>⟨_,rfl,h⟩⟩
   ·rw [zAh e];refine ⟨fun ⟨u,e1,_⟩=>by (cases e1),fun hx=>?_⟩;obtain ⟨x,r,e1,e2⟩:=jf (b:=b) (n:=c.cells.length) m (l+1) (by omega);rw [e1] at hx
    by_cases hd:d.toNat<c.runs.length
    ·rw [dp hd] at hx;injection hx with hx _
     exact absurd ⟨by omega,by omega⟩ e
    ·rw [zDG (by omega)] at hx;cases hx
  | false=>
   rw [zAR];unfold nx;rw [zAR]
   by_cases hl:l>0
   ·obtain ⟨o1,o2⟩:=ho hl;rw [zAh (by omega),zAM hl,dp (by omega)]
    by_cases e:l=c.runs.getD d.toNat 0
    ·rw [zAM e,←e];have:=Vx (b:=b) h1 m (d+1) 0 ⟨by omega,by omega,zCn _,fun h=>by omega⟩;rw [show (d+1).toNat=d.toNat+1 by omega] at this;constructor
     ·rintro ⟨u,e1,e2⟩;cases e1;rw [this.1 e2]
     ·intro hx;injection hx with _ hx
      exact ⟨_,rfl,this.2 hx⟩
    ·rw [zAh e];refine ⟨fun ⟨u,e1,_⟩=>by (cases e1),fun hx=>?_⟩;injection hx with hx _
     exact absurd hx e
   ·have:l=0:=by omega
    subst this;rw [zAM rfl,zAh hl,←Vx h1 m d 0 h'];exact ⟨fun ⟨u,e1,e2⟩=>by cases e1;exact e2,fun h=>⟨_,rfl,h⟩⟩
theorem sk (S:Sv q c g)(h1: ∀ x∈c.runs,1<=x)(hk:c.kind=5):CB q c g↔Cg q c (Ai g)/\ ∀ a,a<c.cells.length -> ¬ Be q c (Ai g) a (AQ c g a):=by
 have key:=Vx (b:=fun a=>tb c.set (AQ c g a)) h1 c.cells.length 0 0 ⟨zCn _,by omega,zCn _,fun h=>by omega⟩;refine Ws (M:=rl (fun a=>tb c.set (AQ c g a)) c.cells.length c.cells.length 0=c.runs) (A:=Jd c=true) (B:=RY c (fun a=>tb c.set (AQ c g a)) c.cells.length (0,0)) hk ?_ ?_ (fun a ha=>?_) ?_
 ·unfold CB;rw [hk];simp
 ·unfold Cg;rw [hk];simp
 ·have e:Be q c (Ai g) a (AQ c g a)↔Iq c (Ai g) a (AQ c g a):=by unfold Be;rw [hk];simp
  rw [e];unfold Iq;rw [pi S ha,pi S ha];cases tb c.set (AQ c g a) <;> simp
 ·rw [key];unfold Jd
  show _↔_/\ (_ -> rl _ _ _ _=c.runs.drop 0)
  rw [zGN];rcases zGS c.cells.length with e | e
  ·rw [e]
   show ([]:List Int)=c.runs↔(c.runs.length==0)=true/\ _
   rw [zBA,List.length_eq_zero_iff];exact ⟨fun h=>⟨h.symm,fun h=>absurd h (Nat.lt_irrefl 0)⟩,fun h=>h.1.symm⟩
  ·rw [zC8.2 (by omega:c.cells.length≠0)];exact ⟨fun h=>⟨rfl,fun _=>h⟩,fun h=>h.2 e⟩
theorem Zh (S:Sv q c g):pB c (Ai g)=CL c g/\ cB c (Ai g)=CL c g:=by
 have h: ∀ s∈g,s.toNat<64:=fun s hs=>by
  obtain ⟨j,hj,rfl⟩:=zDD hs;have:=S.G.lt S.v hj;rw [u8,zAa hj] at this;have:g[j].toNat<16:=this.2;omega
 unfold pB cB CL Ai;rw [List.map_map,List.map_map];exact ⟨List.map_congr_left fun s hs=>S5 (h s hs) _,List.map_congr_left fun s hs=>WO (h s hs) _⟩
theorem qY (W:Ej c q (Ai g)){a:Nat}(ha:a<g.length):AQ c g a=(g.getD a 0).toNat:=by
 unfold AQ;rw [W.id a (by rw [E4];exact ha),zAT]
theorem od (S:Sv q c g)(W:Ej c q (Ai g)):(∀ a,a<c.cells.length -> ¬ FI c q (Ai g) a (AQ c g a))↔H5 q.nbrs (CL c g):=by
 obtain ⟨m1,m2⟩:=Zh S;have hl:=W.len;have Fi:=W.gl;have hG:=W.g.gr;rw [E4] at hl Fi;unfold FI;rw [m1,m2];constructor
 ·intro h u v hu hv mu mv;obtain ⟨r,_,hr⟩:=Tn (l:=CL c g) (by rw [QI];have:=W.l1;rw [E4] at this;exact this);have Cr:=hr;rcases hr with ⟨_,h0⟩ | ⟨h0,h1,h2,_⟩
  ·have:=h0 u (by rw [QI];omega);rw [mu] at this;cases this
  ·rw [QI] at h1;have go: ∀ w:Nat,w<q.nbrs.length -> (CL c g).getD w false=true -> Rc q.nbrs (CL c g) r w:=fun w hw mw=>Classical.byContradiction fun hn=>h w (by omega) ⟨mw,by rw [qY W (by omega),←bC (by omega)];exact mw,r,h0,Cr,hn⟩
   exact ((go u hu mu).symm hG h0 (by omega) h2).trans (go v hv mv)
 ·rintro h a ha ⟨h1,_,r,h0,hr,hn⟩;rcases hr with ⟨e,_⟩ | ⟨_,r1,r2,_⟩
  ·omega
  ·rw [QI] at r1;have:=h r.toNat a (by omega) (by omega) r2 h1;rw [show ((r.toNat:Nat):Int)=r by omega] at this;exact hn this
theorem tA (S:Sv q c g)(W:Ej c q (Ai g))(hk:c.kind=8):CB q c g↔Cg q c (Ai g)/\ ∀ a,a<c.cells.length -> ¬ Be q c (Ai g) a (AQ c g a):=by
 obtain ⟨m1,m2⟩:=Zh S;have hM:CB q c g↔H5 q.nbrs (CL c g):=by unfold CB;rw [hk];simp
 have hO:Cg q c (Ai g):=by unfold Cg;rw [hk];simp
 rw [hM,←od S W,and_iff_right hO];refine zGv fun a=>zGv fun ha=>not_congr ?_
 have e:Be q c (Ai g) a (AQ c g a)↔Hz c q (Ai g) a (AQ c g a):=by unfold Be;rw [hk];simp
 rw [e];unfold Hz;refine ⟨.inl,fun h=>h.elim id fun ⟨h1,h2,_⟩=>?_⟩;rw [m1] at h1;rw [m2,h1] at h2;cases h2
theorem sw (S:Sv q c g)(W:Ej c q (Ai g))(hk:c.kind=9):CB q c g↔Cg q c (Ai g)/\ ∀ a,a<c.cells.length -> ¬ Be q c (Ai g) a (AQ c g a):=by
 obtain ⟨m1,m2⟩:=Zh S;have hl:=W.len;rw [E4] at hl;have hM:CB q c g↔H5 q.nbrs (CL c g)/\ ∀ v,v<g.length -> (CL c g).getD v false=true -> CT q.nbrs (CL c g) v=2:=by unfold CB;rw [hk];simp
 have hO:Cg q c (Ai g)↔∀ v,v<g.length -> (CL c g).getD v false=true -> CT q.nbrs (CL c g) v=2:=by
  have:Cg q c (Ai g)↔ON c q (Ai g):=by unfold Cg;rw [hk];simp
  rw [this];unfold ON;rw [m1,m2,E4];refine zGv fun v=>zGv fun _=>zGv fun _=>by omega
 rw [hM,hO,←od S W,and_comm];refine and_congr Iff.rfl (zGv fun a=>zGv fun ha=>not_congr ?_);have e:Be q c (Ai g) a (AQ c g a)↔MW c q (Ai g) a (AQ c g a):=by unfold Be;rw [hk];simp
 rw [e];unfold MW a8;refine ⟨.inl,fun h=>h.elim id ?_⟩;rintro ⟨v,_,_,_,h1,⟨_,h2⟩ | ⟨_,h2,_⟩⟩
 ·rw [m1,bC (by omega),←qY W (by omega),h2] at h1;cases h1
 ·rw [m1] at h1;rw [m2,h1] at h2;cases h2
theorem yJ (C:Bm q i (Ai g))(G:Gd q g):(CB q (con q i) g -> Gy q (con q i) (Ai g)/\ PR q (con q i) (Ai g) (Ai g))/\ (¬ CB q (con q i) g -> ¬ Gy q (con q i) (Ai g)):=by
 have S:=C.sv G;have hd:C7 (Ai g)=false:=JH.2 S.nz;refine s3 S ?_;rcases OS (OR C.kind) with hk | hk | hk | hk | hk | hk | hk | hk | hk
 ·exact s8 S hk
 ·exact s9 S hk
 ·exact sj S C.vals hk
 ·exact sn S C.work C.vals hk
 ·refine sk S (fun x hx=>?_) hk;have h:=C.fine;unfold FH at h;simp only [zAW,zAi] at h;exact (VJ.1 h.2 x hx).1
 ·exact tB S (C.two (.inl hk)) hk
 ·exact sr S (C.two (.inr hk)) hk
 ·exact tA S (C.all (.inl hk) hd) hk
 ·exact sw S (C.all (.inr hk) hd) hk
end
section
variable {g:List (List Int)} {inn:List Bool}
def zGJ (g:List (List Int))(inn:List Bool)(r:List (List Int)×Int):Prop:=r.2=0/\ (r.1.length=0↔∀ v,v<g.length -> inn.getD v false=false)/\ (r.1.length<=1↔H5 g inn)
theorem aO {part:List Int}{Bw:Int}(h:Pt g inn g.length part Bw):(Bw=0↔∀ v,v<g.length -> inn.getD v false=false)/\ (Bw<=1↔H5 g inn):=by
 have m0:=h.m0;constructor
 ·constructor
  ·intro e v hv;cases hb:inn.getD v false with
   | false=>rfl
   | true=>
    have:=h.all v hv hv hb;have:=(h.lo v hv).2;omega
  ·intro hn;refine Classical.byContradiction fun Ad=>?_
   obtain ⟨v,h1,h2⟩:=h.sur 1 (by decide) (by omega);have:=h.isIn v h1 (by omega);rw [hn v h1] at this;cases this
 ·constructor
  ·intro e u v hu hv mu mv;have a1:=h.all u hu hu mu;have a2:=h.all v hv hv mv;have b1:=(h.lo u hu).2;have b2:=(h.lo v hv).2;exact h.con u v hu hv a1 (by omega)
  ·intro hC;refine Classical.byContradiction fun Ad=>?_
   obtain ⟨u,u1,u2⟩:=h.sur 1 (by decide) (by omega);obtain ⟨v,v1,v2⟩:=h.sur 2 (by decide) (by omega);have:=h.same u v u1 v1 (by omega) (hC u v u1 v1 (h.isIn u u1 (by omega)) (h.isIn v v1 (by omega)));omega
theorem d9 (G:Gr g){part:List Int}{Bw:Int}(hP:Pt g inn g.length part Bw): ∀ (k j:Nat) (o:List (List Int)) (n:Nat),j+k=part.length -> o.length=Bw.toNat -> (∀ r,(o.getD r default).length<=j) -> k+1<=n ->
 ∃ o',Lb g inn n (.l1 Bw.toNat part (part.length:Int) (j:Int) o)=some (o',0)/\ o'.length=Bw.toNat
 | 0,j,o,n,e,ho,hr,hn=>by
  obtain ⟨n,rfl⟩: ∃ k,n=k+1:=⟨n-1,by omega⟩;refine ⟨o,?_,ho⟩
  show PD n (Lb g inn n) g inn Bw.toNat part (part.length:Int) (j:Int) o=_
  unfold PD;rw [zAP (by omega),zAR,zAM ho.symm]
 | k+1,j,o,n,e,ho,hr,hn=>by
  obtain ⟨n,rfl⟩: ∃ k,n=k+1:=⟨n-1,by omega⟩;have Ak:=hP.len;have hG:=G.len;have hlo:=hP.lo j (by omega);have L:(1000000000000:Nat)=BA:=rfl;have r1:AJ ((j:Int)+1):=Av.2 ⟨by omega,by omega⟩;have hm:=hP.m1
  by_cases h0:part.getD j 0>0
  ·have hrj:=hr (0+(part.getD j 0-1).toNat)
   have key:=d9 G hP k (j+1) (o.set (0+(part.getD j 0-1).toNat) (o.getD (0+(part.getD j 0-1).toNat) default++[(j:Int)])) n (by omega) (by rw [zBB];exact ho) (fun r=>by
    by_cases er:0+(part.getD j 0-1).toNat=r
    ·subst er;rw [u8,zDB (by omega),zGK,zA7,zCf];omega
    ·have:=hr r;rw [u8,zC2 er,←u8];omega) (by omega)
   obtain ⟨o',h1,h2⟩:=key;refine ⟨o',?_,h2⟩;rw [←h1]
   show PD n (Lb g inn n) g inn Bw.toNat part (part.length:Int) (j:Int) o=_
   unfold PD;rw [zAU (by omega),zAV,zAM ⟨by omega,by omega⟩,zAT,zAU h0,zAV,zAM ⟨Av.2 ⟨by omega,by omega⟩,⟨by omega,by omega⟩,by omega,by rw [zCf,←L];omega,r1⟩,show ((j+1:Nat):Int)=(j:Int)+1 by omega]
  ·obtain ⟨o',h1,h2⟩:=d9 G hP k (j+1) o n (by omega) ho (fun r=>by have:=hr r;omega) (by omega);refine ⟨o',?_,h2⟩;rw [←h1]
   show PD n (Lb g inn n) g inn Bw.toNat part (part.length:Int) (j:Int) o=_
   unfold PD;rw [zAU (by omega),zAV,zAM ⟨by omega,by omega⟩,zAT,zAP h0,zAR,zAM r1,show ((j+1:Nat):Int)=(j:Int)+1 by omega]
theorem zEz (G:Ih g)(hI:inn.length=g.length):Af (fun n=>Yh n g inn) (zGJ g inn):=by
 have hG:=G.gr.len;have h0:=Xx G (sets:=[inn]) (fun x hx=>by rw [zA1] at hx;rw [hx,hI]) (by simp);refine Af.bind h0 (b:=fun n y1=>bif (y1 != 0) then some (([]:List (List Int)),y1) else (parts n g inn).bind fun y2=>if (y2.2:Int)=y2.2/\ 0<=y2.2/\ (y2.2:Int)<=1000000000000 then Lb g inn n (.l1 y2.2.toNat y2.1 (y2.1.length:Int) 0 (List.replicate y2.2.toNat [])) else none) ?_;refine Af.bindU (aY G.gr hI) (b:=fun n y2=>if (y2.2:Int)=y2.2/\ 0<=y2.2/\ (y2.2:Int)<=1000000000000 then Lb g inn n (.l1 y2.2.toNat y2.1 (y2.1.length:Int) 0 (List.replicate y2.2.toNat [])) else none) ⟨g.length+1,fun n hn r hP=>?_⟩;obtain ⟨part,Bw⟩:=r;have hP:Pt g inn g.length part Bw:=hP;have m0:=hP.m0;have m1:=hP.m1;have Ak:=hP.len
 obtain ⟨o',h1,h2⟩:=d9 G.gr hP part.length 0 (List.replicate Bw.toNat []) n (by omega) zAw (fun r=>by
  rw [u8,zCx];split <;> exact zA5 0) (by omega)
 refine ⟨(o',0),?_,rfl,?_,?_⟩
 ·rw [zAM ⟨rfl,m0,by show Bw<=_;omega⟩];exact h1
 ·rw [←(aO hP).1,h2];omega
 ·rw [←(aO hP).2,h2];omega
/-! ### Rings-/
theorem yB (G:Ih g){v:Nat}(hv:v<g.length):(nb g v).Pairwise (· < ·)/\ (v:Int)∉nb g v:=by
 have h:=G.ok;unfold LW at h;rw [zAW,zAg] at h;have hr:=h.2 v (zAn.2 hv);unfold Jf at hr;rw [zAg] at hr;have e:nb g v=g.getD v []:=by unfold nb;rw [zAT]
 rw [e]
 generalize g.getD v []=l at hr
 have AF: ∀ k,k<l.length -> l.getD k 0≠v/\ (0<k -> l.getD (k-1) 0<l.getD k 0):=fun k hk=>by
  have:=hr k (zAn.2 hk);unfold Hq at this;simp only [zAW,zC8,ne_eq,zA9,zCw,zC7,zAi] at this;exact ⟨this.1.1.2,fun h=>this.1.2.resolve_left fun hn=>hn h⟩
 have inc: ∀ d i,i+d+1<l.length -> l.getD i 0<l.getD (i+d+1) 0:=by
  intro d
  induction d with
  | zero=>intro i hi;exact (AF (i+1) hi).2 (by omega)
  | succ d ih=>
   intro i hi;have h1:=ih i (by omega);have h2:=(AF (i+(d+1)+1) hi).2 (by omega);rw [show i+(d+1)+1-1=i+d+1 by omega] at h2;omega
 constructor
 ·rw [zHH];intro i j hi hj Qg;have:=inc (j-i-1) i (by omega);rw [show i+(j-i-1)+1=j by omega] at this;simpa [u8,hi,hj] using this
 ·intro hm;obtain ⟨k,hk,e⟩:=zDD hm;refine (AF k hk).1 ?_;rw [u8,zAa hk];exact e
theorem rT (G:Ih g){v:Nat}(hv:v<g.length)(mv:inn.getD v false=true)(hd:CT g inn v=2):3<=(List.range g.length).countP fun x=>inn.getD x false:=by
 obtain ⟨hs,hn⟩:=yB G hv;have hr:=G.gr.rng v (by omega) (by omega);have dP:((nb g v).filter fun x=>inn.getD x.toNat false).length=2:=by rw [←List.countP_eq_length_filter];exact hd
 have IV:=hs.filter (fun x=>inn.getD x.toNat false);have hm: ∀ x∈(nb g v).filter fun x=>inn.getD x.toNat false,x∈nb g v/\ inn.getD x.toNat false=true:=fun x hx=>zGj.1 hx
 generalize ((nb g v).filter fun x=>inn.getD x.toNat false)=F at dP IV hm
 match F,dP with
 | [x,y],_=>
  have XQ:x<y:=by
   rw [zHQ] at IV;exact IV.1 y (by simp)
  obtain ⟨x1,x2⟩:=hm x (by simp);obtain ⟨y1,y2⟩:=hm y (by simp);have xr:=hr x x1;have yr:=hr y y1;have xv:x≠v:=fun e=>hn (e▸x1)
  have yv:y≠v:=fun e=>hn (e▸y1)
  have a1:=PC (f:=fun z=>inn.getD z false&&!(z==v)) (g:=fun z=>inn.getD z false) (a:=v) (by simp) mv (List.range g.length) (fun z _ hz=>by rw [zAW] at hz;exact hz.1) (zAn.2 hv);have a2:=PC (f:=fun z=>(inn.getD z false&&!(z==v))&&!(z==x.toNat)) (g:=fun z=>inn.getD z false&&!(z==v)) (a:=x.toNat) (by simp) (by rw [x2];simp;omega) (List.range g.length) (fun z _ hz=>by rw [zAW] at hz;exact hz.1) (zAn.2 (by omega));have a3:=PC (f:=fun z=>((inn.getD z false&&!(z==v))&&!(z==x.toNat))&&!(z==y.toNat)) (g:=fun z=>(inn.getD z false&&!(z==v))&&!(z==x.toNat)) (a:=y.toNat) (by simp) (by rw [y2];simp;omega) (List.range g.length) (fun z _ hz=>by rw [zAW] at hz;exact hz.1) (zAn.2 (by omega));omega
def qi (g:List (List Int))(inn:List Bool)(r:Bool×Int):Prop:=r.2=0/\ (r.1=true↔(∀ v,v<g.length -> inn.getD v false=true -> CT g inn v=2)/\ (∃ v,v<g.length/\ inn.getD v false=true)/\ H5 g inn)
theorem j0 (hI:inn.length=g.length){x6 x23:Int}{row:List Int}(hr: ∀ u∈row,0<=u/\ u<(g.length:Int))(hl:row.length<=256): ∀ (k j:Nat),j+k=row.length -> BK (Hm g inn) (.l2 x6 (((row.take j).countP fun x=>inn.getD x.toNat false:Nat):Int) x23 row (row.length:Int) (j:Int)) (.l2 x6 ((row.countP fun x=>inn.getD x.toNat false:Nat):Int) x23 row (row.length:Int) (row.length:Int))
 | 0,j,e=>by
  have:j=row.length:=by omega
  subst this;rw [List.take_length];exact BK.refl
 | k+1,j,e=>by
  have hj:j<row.length:=by omega
  have hm:=hr (row.getD j 0) (by rw [u8,zAa hj];exact zBD hj);have hc:=zGz (p:=fun x:Int=>inn.getD x.toNat false) (l:=row.take j);rw [zHC] at hc;have tk:row.take (j+1)=row.take j++[row.getD j 0]:=by rw [zGO hj];simp [hj]
  have ih:=j0 hI (x6:=x6) (x23:=x23) hr hl k (j+1) (by omega);rw [tk,zHR,zHj] at ih;refine BK.trans (BK.one fun n=>?_) ih
  show Nv n (Hm g inn n) g inn x6 _ x23 row (row.length:Int) (j:Int)=_
  unfold Nv;rw [zAU (by omega),zAV,zAT,zAM ⟨⟨by omega,by omega⟩,hm.1,by omega⟩,show ((j+1:Nat):Int)=(j:Int)+1 by omega];cases inn.getD (row.getD j 0).toNat false
  ·rw [zAR,zAM (Av.2 ⟨by omega,by omega⟩)];simp
  ·rw [zAV,zAM ⟨Av.2 ⟨by omega,by omega⟩,Av.2 ⟨by omega,by omega⟩⟩];simp
theorem Z9 (G:Ih g)(hI:inn.length=g.length): ∀ (k v:Nat),v+k=g.length -> (∀ u,u<v -> inn.getD u false=true -> CT g inn u=2) -> Af (fun n=>Hm g inn n (.l1 (((List.range v).countP fun x=>inn.getD x false:Nat):Int) (v:Int))) (qi g inn)
 | 0,v,e,hd=>by
  have:v=g.length:=by omega
  subst this;refine Af.step 1 (g:=fun n=>(parts n g inn).bind fun y1=>bif decide ((((List.range g.length).countP fun x=>inn.getD x false:Nat):Int)>=3) then some ((y1.2==1),(0:Int)) else some (false,0)) (fun n=>?_) ?_
  ·show Nw n (Hm g inn n) g inn _ (g.length:Int)=_
   unfold Nw;rw [zAP (by omega),zAR]
  ·refine Af.bindU (aY G.gr hI) (b:=fun n y1=>bif decide ((((List.range g.length).countP fun x=>inn.getD x false:Nat):Int)>=3) then some ((y1.2==1),(0:Int)) else some (false,0)) ⟨0,fun n _ r hP=>?_⟩;obtain ⟨part,Bw⟩:=r;obtain ⟨p1,p2⟩:=aO hP;have m0:=hP.m0
   by_cases h3:(((List.range g.length).countP fun x=>inn.getD x false:Nat):Int)>=3
   ·rw [zAU h3,zAV];refine ⟨_,rfl,rfl,?_⟩
    show (Bw==1)=true↔_
    rw [zBA];constructor
    ·intro e1;refine ⟨hd,?_,p2.1 (by omega)⟩;refine Classical.byContradiction fun hn=>?_
     have:=p1.2 fun v hv=>by
      cases hb:inn.getD v false with
      | false=>rfl
      | true=>exact absurd ⟨v,hv,hb⟩ hn
     have m0:0<=Bw:=m0;have:Bw=0:=this;omega
    ·rintro ⟨_,⟨v,hv,mv⟩,hC⟩;have h1:=p2.2 hC
     have h0: ¬ Bw=0:=fun e=>by
      have:=p1.1 e v hv;rw [mv] at this;cases this
     have m0:0<=Bw:=m0;have h1:Bw<=1:=h1;omega
   ·rw [zAP h3,zAR];refine ⟨_,rfl,rfl,?_⟩;refine zHG (by decide) ?_;rintro ⟨zCm,⟨v,hv,mv⟩,_⟩;have:=rT G hv mv (zCm v hv mv);omega
 | k+1,v,e,hd=>by
  have hv:v<g.length:=by omega
  have hG:=G.gr.len;have r1:AJ ((v:Int)+1):=Av.2 ⟨by omega,by omega⟩
  have ec:(((List.range (v+1)).countP fun x=>inn.getD x false:Nat):Int)=(((List.range v).countP fun x=>inn.getD x false:Nat):Int)+(if inn.getD v false then 1 else 0):=by
   rw [List.range_succ,zHR,zHj];split <;> simp
  have Az:=zGz (p:=fun x=>inn.getD x false) (l:=List.range v);rw [zG0] at Az;cases hb:inn.getD v false with
  | false=>
   have ih:=Z9 G hI k (v+1) (by omega) fun u hu mu=>by
    rcases zAl.1 hu with hu | rfl
    ·exact hd u hu mu
    ·rw [hb] at mu;cases mu
   rw [ec,hb] at ih;refine BK.pev (BK.one fun n=>?_) ih
   show Nw n (Hm g inn n) g inn _ (v:Int)=_
   unfold Nw;rw [zAU (by omega),zAV,zAM ⟨⟨by omega,by omega⟩,by omega,by omega⟩,zAT,hb,zC0,zAV,zAM r1,show ((v+1:Nat):Int)=(v:Int)+1 by omega];simp
  | true=>
   have LH:=G.gr.row v (by omega) (by omega);have QZ:=G.gr.rng v (by omega) (by omega);have en:nb g v=g.getD v []:=by unfold nb;rw [zAT]
   refine BK.pev (BK.one (b:=.l2 ((((List.range v).countP fun x=>inn.getD x false:Nat):Int)+1) 0 (v:Int) (nb g v) ((nb g v).length:Int) 0) fun n=>?_) ?_
   ·show Nw n (Hm g inn n) g inn _ (v:Int)=_
    unfold Nw;rw [zAU (by omega),zAV,zAM ⟨⟨by omega,by omega⟩,by omega,by omega⟩,zAT,hb,zCs,zAR,zAM (Av.2 ⟨by omega,by omega⟩),en]
   ·have nh:=j0 hI (x6:=(((List.range v).countP fun x=>inn.getD x false:Nat):Int)+1) (x23:=(v:Int)) QZ LH (nb g v).length 0 (by omega);rw [List.take_zero,List.countP_nil] at nh;refine BK.pev nh ?_
    by_cases h2:CT g inn v=2
    ·have ih:=Z9 G hI k (v+1) (by omega) fun u hu mu=>by
      rcases zAl.1 hu with hu | rfl
      ·exact hd u hu mu
      ·exact h2
     rw [ec,hb,zAM rfl] at ih;refine BK.pev (BK.one fun n=>?_) ih
     show Nv n (Hm g inn n) g inn _ ((CT g inn v:Nat):Int) (v:Int) (nb g v) ((nb g v).length:Int) ((nb g v).length:Int)=_
     unfold Nv;rw [zAP (by omega),zAR,h2]
     show (if AJ ((v:Int)+1) then _ else _)=_
     rw [zAM r1,show ((v+1:Nat):Int)=(v:Int)+1 by omega]
    ·refine Ev.p (Ev.one (r:=(false,0)) fun n=>?_) ⟨rfl,zHG (by decide) fun h=>h2 (h.1 v hv hb)⟩
     show Nv n (Hm g inn n) g inn _ ((CT g inn v:Nat):Int) (v:Int) (nb g v) ((nb g v).length:Int) ((nb g v).length:Int)=_
     unfold Nv;rw [zAP (by omega),zAR,zC8.2 (by omega:((CT g inn v:Nat):Int)≠2),zAV]
theorem vv (G:Ih g)(hI:inn.length=g.length):Af (fun n=>Pw n g inn) (qi g inn):=by
 have h0:=Xx G (sets:=[inn]) (fun x hx=>by rw [zA1] at hx;rw [hx,hI]) (by simp);refine Af.bind h0 (b:=fun n y1=>bif (y1 != 0) then some (false,y1) else Hm g inn n (.l1 0 0)) ?_;exact Z9 G hI g.length 0 (by omega) fun u hu=>absurd hu (zAv u)
end
theorem ou {a b:List Int}{n:Nat}(hl:a.length<=LB)(hn:a.length<n):Q3 n a b=some (decide (a=b)):=by
 have hb:LB<=9223372036854775806:=by decide
 unfold Q3 oq
 by_cases Ak:a.length=b.length
 ·have e:((a.length:Int) != (b.length:Int))=false:=by rw [Ak];simp
  rw [e,zAR]
  have key: ∀ (k i n:Nat),i+k=a.length -> k+1<=n -> Q2 a b n (.l1 (i:Int))=some (decide (a.drop i=b.drop i)):=by
   intro k
   induction k with
   | zero=>
    intro i n e hn;obtain ⟨n,rfl⟩: ∃ k,n=k+1:=⟨n-1,by omega⟩
    show UX n (Q2 a b n) a b (i:Int)=_
    unfold UX;rw [zAP (by omega),zAR,zDG (by omega),zDG (by omega)];rfl
   | succ k ih=>
    intro i n e hn;obtain ⟨n,rfl⟩: ∃ k,n=k+1:=⟨n-1,by omega⟩;have hi:i<a.length:=by omega
    have BT:i<b.length:=by omega
    have d: ∀ {l:List Int},i<l.length -> l.drop i=l.getD i 0::l.drop (i+1):=fun {l} h=>by
     rw [zCJ h,u8,zAa h];rfl
    have:=ih (i+1) n (by omega) (by omega)
    show UX n (Q2 a b n) a b (i:Int)=_
    unfold UX;rw [zAU (by omega),zAV,zAM ⟨⟨by omega,by omega⟩,by omega,by omega⟩,zAT,zAM (Av.2 ⟨by omega,by omega⟩),d hi,d BT]
    by_cases h:a.getD i 0=b.getD i 0
    ·have:(a.getD i 0 != b.getD i 0)=false:=by rw [h];simp
     rw [this,zAR];refine Eq.trans (by assumption) ?_;rw [h];simp
    ·have:(a.getD i 0 != b.getD i 0)=true:=by simpa using h
     rw [this,zAV,zAP fun e=>h (List.cons.inj e).1]
  exact key a.length 0 n (by omega) (by omega)
 ·have e:((a.length:Int) != (b.length:Int))=true:=by simp;omega
  rw [e,zAV,zAP fun h=>Ak (by rw [h])]
section
variable {q:AA} {i:Int} {g:List Int} {c:AB}
theorem Bm.sets (C:Bm q i (Ai g)):Sm q.symbols.toNat (con q i).set/\ Sm q.symbols.toNat (con q i).other:=by
 have h:=C.fine;unfold FH at h;simp only [zAW] at h;have h2:=VJ.1 h.1.1.1.2;have a:=h2 (con q i).set (by simp);have b:=h2 (con q i).other (by simp);exact ⟨⟨a.1,by omega⟩,b.1,by omega⟩
theorem mJ (S:Sv q c g)(W:Ej c q (Ai g)){k:Nat}(hs:Sm k c.set)(hk:k<=16){loop:Bool}{M:Prop}(hM:M↔if loop=true then (∀ v,v<g.length -> (CL c g).getD v false=false)∨((∀ v,v<g.length -> (CL c g).getD v false=true -> CT q.nbrs (CL c g) v=2)/\ H5 q.nbrs (CL c g)) else H5 q.nbrs (CL c g)):
 ∃ r,Ev (fun n=>QS n q.nbrs g c.cells c.set loop) r/\ (r=true↔M):=by
 have L:(1000000000000:Nat)=BA:=rfl;have hl:=W.len;have F8:=W.l1;have Fi:=W.gl;rw [E4] at hl F8 Fi;have hI:(CL c g).length=q.nbrs.length:=by rw [QI];omega
 have fin: ∃ r,Ev (fun n=>(Yh n q.nbrs (CL c g)).bind fun y1=>bif (!loop) then some (decide ((y1.1.length:Int)<=1)) else bif ((y1.1.length:Int)==0) then some (decide ((y1.1.length:Int)<=1)) else (Pw n q.nbrs (CL c g)).bind fun y2=>some y2.1) r/\ (r=true↔M):=by
  obtain ⟨N2,hR⟩:=vv W.g hI;have:=Af.bindU (zEz W.g hI) (b:=fun n y1=>bif (!loop) then some (decide ((y1.1.length:Int)<=1)) else bif ((y1.1.length:Int)==0) then some (decide ((y1.1.length:Int)<=1)) else (Pw n q.nbrs (CL c g)).bind fun y2=>some y2.1) (Q:=fun r=>r=true↔M) ⟨N2,fun n hn x hx=>?_⟩
  ·obtain ⟨r,h1,h2⟩:=this.ev fun r r' h h'=>by
    rw [zDF,h,h']
   exact ⟨r,h2,h1⟩
  ·obtain ⟨x1,x2,x3⟩:=hx;have e1:decide ((x.1.length:Int)<=1)=true↔H5 q.nbrs (CL c g):=by rw [zAi,←x3];omega
   cases loop with
   | false=>
    refine ⟨_,rfl,?_⟩;rw [e1,hM];simp
   | true=>
    rw [zAM rfl] at hM
    by_cases h0:x.1.length=0
    ·have hz:=x2.1 h0;rw [Fi] at hz;refine ⟨true,?_,zHy rfl (hM.2 (.inl hz))⟩
     show (bif ((x.1.length:Int)==0) then some (decide ((x.1.length:Int)<=1)) else _)=_
     rw [h0];rfl
    ·obtain ⟨y,y1,y2,y3⟩:=hR n hn;refine ⟨y.1,?_,?_⟩
     ·show (bif ((x.1.length:Int)==0) then some (decide ((x.1.length:Int)<=1)) else _)=_
      rw [zCK.2 (by omega),zAR,show Pw n q.nbrs (CL c g)=some y from y1];rfl
     ·rw [y3,hM,Fi];have hz: ¬ ∀ v,v<g.length -> (CL c g).getD v false=false:=fun h=>h0 (x2.2 (by rw [Fi];exact h))
      constructor
      ·rintro ⟨h1,_,h3⟩;exact .inr ⟨h1,h3⟩
      ·rintro (h | ⟨h1,h3⟩)
       ·exact absurd h hz
       ·refine ⟨h1,Classical.byContradiction fun hn=>hz fun v hv=>?_,h3⟩;cases hb:(CL c g).getD v false with
        | false=>rfl
        | true=>exact absurd ⟨v,hv,hb⟩ hn
 obtain ⟨r,hr,hrM⟩:=fin;refine ⟨r,?_,hrM⟩
 have key: ∀ (k j:Nat) (o:List Bool),j+k=g.length -> o.length=g.length -> (∀ v,v<j -> o.getD v false=(CL c g).getD v false) -> Ev (fun n=>QR q.nbrs g c.cells c.set loop n (.l1 (j:Int) o)) r:=by
  intro k
  induction k with
  | zero=>
   intro j o e ho hm
   have:o=CL c g:=by
    refine zGe (by rw [ho,QI]) fun v h1 h2=>?_
    have:=hm v (by omega);simpa [u8,h1,h2] using this
   subst this;obtain ⟨N,hr⟩:=hr;refine Ev.oneN N fun n hn=>?_
   show Tf n (QR q.nbrs g c.cells c.set loop n) q.nbrs g c.cells c.set loop (j:Int) (CL c g)=_
   unfold Tf;rw [zAP (by omega),zAR,zAM ho.symm];exact hr n hn
  | succ k ih=>
   intro j o e ho hm;have hj:j<g.length:=by omega
   have hid:=W.id j (by rw [E4];exact hj);have HK:=S.G.lt S.v hj;have Og:=S.G.sym j hj;have eg:g.getD j 0=(((g.getD j 0).toNat:Nat):Int):=by omega
   refine BK.ev (BK.one fun n=>?_) (ih (j+1) (o.set j (tb c.set (g.getD j 0).toNat)) (by omega) (by rw [zBB];exact ho) fun v hv=>?_)
   ·show Tf n (QR q.nbrs g c.cells c.set loop n) q.nbrs g c.cells c.set loop (j:Int) o=_
    unfold Tf;rw [zAU (by omega),zAV,zAM ⟨by omega,by omega⟩,zAT,hid];unfold bG lU;rw [zAM ⟨by omega,by omega⟩,zAT,eg,Md hs (by omega) (by omega),zAS,zAM ⟨⟨by omega,by omega⟩,by omega⟩,zAS,zAM (Av.2 ⟨by omega,by omega⟩),zA8,zAT,show ((j+1:Nat):Int)=(j:Int)+1 by omega]
   ·by_cases e1:v=j
    ·subst e1;rw [u8,zDB (by omega),zGK,bC hj]
    ·rw [u8,zC2 (fun h=>e1 h.symm),←u8];exact hm v (by omega)
 have:=key g.length 0 (List.replicate g.length false) (by omega) zAw fun v hv=>absurd hv (zAv v)
 refine Ev.eq this fun n=>?_
 unfold QS mK;rw [zAM ⟨rfl,by omega,by omega⟩];rfl
theorem yK (C:Bm q i (Ai g))(G:Gd q g): ∃ b,Ev (fun n=>Fw n q (con q i) g) b/\ (b=true↔CB q (con q i) g):=by
 have S:=C.sv G;have hd:C7 (Ai g)=false:=JH.2 S.nz;have W:=C.work;have V:=C.vals;have hl:=W.len;have Xh:=W.k;obtain ⟨hs,ho⟩:=C.sets;have two:(con q i).cells.length=2 -> ∀ a,a<2 -> ((con q i).cells.getD a 0).toNat=((con q i).cells.getD a 0).toNat:=fun _ _ _=>rfl
 have D: ∀ {k:Int} {f:Nat -> Option Bool} {b:Bool} {M:Prop},(con q i).kind=k -> (∀ n,Fw n q (con q i) g=f n) -> Ev f b -> (b=true↔M) -> (CB q (con q i) g↔M) -> ∃ b,Ev (fun n=>Fw n q (con q i) g) b/\ (b=true↔CB q (con q i) g):=
  fun _ he hf hb hM=>⟨_,hf.eq he,hb.trans hM.symm⟩
 have kc:=OS (OR C.kind)
 generalize hc:con q i=c at*
 rcases kc with hk | hk | hk | hk | hk | hk | hk | hk | hk
 ·obtain ⟨r,h1,h2⟩:=zEJ S hl;exact D (f:=fun n=>(YT n g c.cells).bind some) hk (fun n=>by unfold Fw Js;rw [hk];rfl) (Ev.bind h1 (Ev.now fun n=>rfl)) h2 (by unfold CB;rw [hk];simp)
 ·refine D (f:=fun n=>(YZ n g c.cells c.set).bind fun y1=>(PK n y1 c).bind some) (M:=c.lo<=cnt (fun a=>tb c.set (AQ c g a)) c.cells.length/\ cnt (fun a=>tb c.set (AQ c g a)) c.cells.length<=c.hi) (b:=decide (c.lo<=cnt (fun a=>tb c.set (AQ c g a)) c.cells.length)&&decide (cnt (fun a=>tb c.set (AQ c g a)) c.cells.length<=c.hi)) hk (fun n=>by unfold Fw Js;rw [hk];rfl) (Ev.bind (zEd S hl hs Xh) (Ev.now fun n=>?_)) (by simp) (by unfold CB;rw [hk];simp);unfold PK eO;cases decide (c.lo<=cnt (fun a=>tb c.set (AQ c g a)) c.cells.length) <;> rfl
 ·refine D (f:=fun n=>(Ve n q.values g c.cells).bind fun y1=>(PK n y1 c).bind some) (M:=c.lo<=CY (fun a=>q.values.getD (AQ c g a) 0) c.cells.length/\ CY (fun a=>q.values.getD (AQ c g a) 0) c.cells.length<=c.hi) (b:=decide (c.lo<=CY (fun a=>q.values.getD (AQ c g a) 0) c.cells.length)&&decide (CY (fun a=>q.values.getD (AQ c g a) 0) c.cells.length<=c.hi)) hk (fun n=>by unfold Fw Js;rw [hk];rfl) (Ev.bind (rp S V hl) (Ev.now fun n=>?_)) (by simp) (by unfold CB;rw [hk];simp);unfold PK eO;cases decide (c.lo<=CY (fun a=>q.values.getD (AQ c g a) 0) c.cells.length) <;> rfl
 ·obtain ⟨r,h1,h2⟩:=vf S V hl;exact D (f:=fun n=>(V9 n q.values g c.cells).bind some) hk (fun n=>by unfold Fw Js;rw [hk];rfl) (Ev.bind h1 (Ev.now fun n=>rfl)) h2 (by unfold CB;rw [hk];simp)
 ·have hr:=Z8 (b:=fun a=>tb c.set (AQ c g a)) (N:=c.cells.length) c.cells.length 0;refine D (f:=fun n=>(Ps n c.cells c.set g).bind fun y1=>(PE n y1).bind fun y2=>(Q3 n y2 c.runs).bind some) (M:=rl (fun a=>tb c.set (AQ c g a)) c.cells.length c.cells.length 0=c.runs) (b:=decide (rl (fun a=>tb c.set (AQ c g a)) c.cells.length c.cells.length 0=c.runs)) hk (fun n=>by unfold Fw Js;rw [hk];rfl) (Ev.bind (u5 S hl hs Xh) ⟨300,fun n hn=>?_⟩) (by simp) (by unfold CB;rw [hk];simp)
  show (PE n _).bind _=_
  rw [zE6 (by omega),zAS,ou (zA0 hr (zA0 (by omega:c.cells.length+1<=300) (by decide))) (by omega)];rfl
 ·have h2:c.cells.length=2:=by rw [←hc];exact C.two (.inl (by rw [hc];exact hk))
  have c0:=S.cell 0 (by omega);have c1:=S.cell 1 (by omega);have g0:=S.gi (a:=0) (by omega);have g1:=S.gi (a:=1) (by omega);have l0:=(S.lt (a:=0) (by omega)).1;have l1:=(S.lt (a:=1) (by omega)).1;have vl:=V.len;have v0:=V.val _ l0;have v1:=V.val _ l1;refine D (f:=fun n=>Fw n q c g) (M:=Hp q c (AQ c g 0) (AQ c g 1)=true) (b:=Hp q c (AQ c g 0) (AQ c g 1)) hk (fun n=>rfl) (Ev.now fun n=>?_) Iff.rfl (by unfold CB;rw [hk];simp);unfold Fw Js;rw [hk]
  show (if _ then _ else none)=_
  rw [g0,g1,zAT,zAT,zAM ⟨⟨by omega,by omega⟩,c0,⟨by omega,by omega⟩,⟨by omega,by omega⟩,c1,by omega,by omega⟩];unfold fC qV Hp;rw [zAM ⟨Av.2 ⟨by omega,by omega⟩,Av.2 ⟨by omega,by omega⟩⟩,zAS,show q.values.getD (AQ c g 1) 0-q.values.getD (AQ c g 0) 0=0-(q.values.getD (AQ c g 0) 0-q.values.getD (AQ c g 1) 0) by omega]
 ·have h2:c.cells.length=2:=by rw [←hc];exact C.two (.inr (by rw [hc];exact hk))
  have c0:=S.cell 0 (by omega);have c1:=S.cell 1 (by omega);have g0:=S.gi (a:=0) (by omega);have g1:=S.gi (a:=1) (by omega);have l0:=(S.lt (a:=0) (by omega)).2;have l1:=(S.lt (a:=1) (by omega)).2;refine D (f:=fun n=>Fw n q c g) (M:=HD c (AQ c g 0) (AQ c g 1)=true) (b:=HD c (AQ c g 0) (AQ c g 1)) hk (fun n=>rfl) (Ev.now fun n=>?_) Iff.rfl (by unfold CB;rw [hk];simp);unfold Fw Js;rw [hk]
  show (if _ then _ else none)=_
  rw [g0,g1,zAM ⟨⟨by omega,by omega⟩,c0,⟨by omega,by omega⟩,c1⟩,Md hs (by omega) (by omega),Md hs (by omega) (by omega),Md ho (by omega) (by omega),Md ho (by omega) (by omega)];unfold HD;cases tb c.set (AQ c g 0) <;> cases tb c.set (AQ c g 1) <;> cases tb c.other (AQ c g 0) <;> cases tb c.other (AQ c g 1) <;> rfl
 ·have WA:Ej c q (Ai g):=by rw [←hc];exact C.all (.inl (by rw [hc];exact hk)) hd
  obtain ⟨r,h1,h2⟩:=mJ (loop:=false) (M:=H5 q.nbrs (CL c g)) S WA hs Xh (by simp);exact D (f:=fun n=>(QS n q.nbrs g c.cells c.set false).bind some) hk (fun n=>by unfold Fw Js;rw [hk];rfl) (Ev.bind h1 (Ev.now fun n=>rfl)) h2 (by unfold CB;rw [hk];simp)
 ·have WA:Ej c q (Ai g):=by rw [←hc];exact C.all (.inr (by rw [hc];exact hk)) hd
  obtain ⟨r,h1,h2⟩:=mJ (loop:=true) (M:=H5 q.nbrs (CL c g)/\ ∀ v,v<g.length -> (CL c g).getD v false=true -> CT q.nbrs (CL c g) v=2) S WA hs Xh (by
   rw [zAM rfl];have gl:=WA.gl;rw [E4] at gl;constructor
   ·rintro ⟨h1,h2⟩;exact .inr ⟨h2,h1⟩
   ·rintro (h | ⟨h1,h2⟩)
    ·exact ⟨fun u v hu _ mu _=>(by rw [h u (by omega)] at mu;cases mu),fun v hv mv=>(by rw [h v hv] at mv;cases mv)⟩
    ·exact ⟨h2,h1⟩)
  exact D (f:=fun n=>(QS n q.nbrs g c.cells c.set true).bind some) hk (fun n=>by unfold Fw Js;rw [hk];rfl) (Ev.bind h1 (Ev.now fun n=>rfl)) h2 (by unfold CB;rw [hk];simp)
/-! ### Finished grids-/
theorem rJ {s:Int}{l:List Int}(hl:l.length<=LB): ∀ (k j:Nat),j+k=l.length -> (∀ j',j'<j -> 0<=l.getD j' 0/\ l.getD j' 0<s) -> ∃ r:Int,Ev (fun n=>Mc l s n (.l1 (j:Int))) r/\ (decide (r>=0)=false↔∀ j,j<l.length -> 0<=l.getD j 0/\ l.getD j 0<s):=by
 have hb:LB<=9223372036854775806:=by decide
 intro k
 induction k with
 | zero=>
  intro j e h;refine ⟨-1,Ev.one fun n=>?_,zHy (by decide) fun j' BJ=>h j' (by omega)⟩
  show Tl n (Mc l s n) l s (j:Int)=_
  unfold Tl;rw [zAP (by omega),zAR]
 | succ k ih=>
  intro j e h;have hj:j<l.length:=by omega
  have u: ∀ n,VS n (l.getD j 0) s=some (decide (¬ (0<=l.getD j 0/\ l.getD j 0<s))):=fun n=>by
   unfold VS f8
   by_cases h0:l.getD j 0<0
   ·rw [zAU h0,zAV,zAU (by omega)]
   ·rw [zAP h0,zAR];exact congrArg some (zHo.2 (by omega))
  have step: ∀ n,Mc l s (n+1) (.l1 (j:Int))=bif decide (¬ (0<=l.getD j 0/\ l.getD j 0<s)) then some (j:Int) else Mc l s n (.l1 ((j+1:Nat):Int)):=fun n=>by
   show Tl n (Mc l s n) l s (j:Int)=_
   unfold Tl;rw [zAU (by omega),zAV,zAM ⟨by omega,by omega⟩,zAT,u,zAS,zAM (Av.2 ⟨by omega,by omega⟩),show ((j+1:Nat):Int)=(j:Int)+1 by omega]
  by_cases hh:0<=l.getD j 0/\ l.getD j 0<s
  ·obtain ⟨r,h1,h2⟩:=ih (j+1) (by omega) fun j' BJ=>by
    rcases zAl.1 BJ with BJ | rfl
    ·exact h j' BJ
    ·exact hh
   exact ⟨r,BK.ev (BK.one fun n=>by rw [step n,zAP (fun h=>h hh),zAR]) h1,h2⟩
  ·refine ⟨(j:Int),Ev.one fun n=>by rw [step n,zAU hh,zAV],zHG (by rw [zAU (by omega)];decide) fun h=>hh (h j hj)⟩
theorem wD (hF:EN q)(hl:g.length<=LB): ∃ e,Ev (fun n=>WG n q g) e/\ (e=0↔B8 q=true/\ Gd q g):=by
 have hV:Ev (fun n=>valid n q) (Fj (B8 q) 191):=⟨FV q,fun n hn=>VO hF hn⟩;cases hv:B8 q with
 | false=>
  rw [hv] at hV;exact ⟨191,Ev.bind hV (Ev.now fun n=>rfl),by simp⟩
 | true=>
  rw [hv] at hV
  by_cases Ak:(g.length:Int)=q.cells
  ·obtain ⟨r,h1,h2⟩:=rJ (s:=q.symbols) hl g.length 0 (by omega) fun j hj=>absurd hj (zAv j)
   refine ⟨if decide (r>=0)=true then 200 else 0,Ev.bind hV (Ev.eq (Ev.bind (Ev.eq (Ev.bind (Ev.bind h1 (b:=fun n y=>some (decide (y>=0))) (Ev.now fun n=>rfl)) (b:=fun n y=>some (!y)) (Ev.now fun n=>rfl)) fun n=>?_) (b:=fun n y2=>bif (!y2) then some 200 else some 0) (Ev.now fun n=>?_)) fun n=>rfl),?_⟩
   ·unfold UV dg;rw [zBA.2 Ak,zAV];rfl
   ·cases decide (r>=0) <;> rfl
   ·have:(if decide (r>=0)=true then (200:Int) else 0)=0↔decide (r>=0)=false:=by cases decide (r>=0) <;> simp
    rw [this,h2];exact ⟨fun h=>⟨rfl,Ak,h⟩,fun h=>h.2.sym⟩
  ·refine ⟨200,Ev.bind hV (Ev.now fun n=>?_),zHG (by decide) fun h=>Ak h.2.len⟩
   show (bif ((0:Int) != 0) then _ else (UV n q.cells q.symbols g).bind _)=_
   unfold UV dg;rw [zCK.2 Ak];rfl
theorem Gd.ctx (G:Gd q g)(hF:EN q)(hv:B8 q=true)(h0:0<=i)(h1:i<(q.cons.length:Int)):Bm q i (Ai g):=⟨hF,hv,h0,h1,G.pos hv⟩
def fN (q:AA)(g:List Int):Prop:=∀ i,0<=i -> i<(q.cons.length:Int) -> CB q (con q i) g
def SvP (q:AA)(g:List Int)(r:Bool×Int):Prop:=(r.2=0↔B8 q=true/\ Gd q g)/\ (r.2=0 -> (r.1=true↔fN q g))
theorem rG (hF:EN q)(hv:B8 q=true)(G:Gd q g): ∀ (k j:Nat),j+k=q.cons.length -> (∀ i,0<=i -> i<(j:Int) -> CB q (con q i) g) -> ∃ r:Int,Ev (fun n=>Ma q.cons q g n (.l1 (j:Int))) r/\ (decide (r>=0)=false↔fN q g):=by
 have Az:q.cons.length<=4096:=by have:=(ED hv);omega
 intro k
 induction k with
 | zero=>
  intro j e h;refine ⟨-1,Ev.one fun n=>?_,zHy (by decide) fun i h0 h1=>h i h0 (by omega)⟩
  show Tj n (Ma q.cons q g n) q.cons q g (j:Int)=_
  unfold Tj;rw [zAP (by omega),zAR]
 | succ k ih=>
  intro j e h;have hj:j<q.cons.length:=by omega
  obtain ⟨b,⟨N,b1⟩,b2⟩:=yK (G.ctx hF hv (i:=(j:Int)) (by omega) (by omega)) G
  have step: ∀ n,N<=n -> Ma q.cons q g (n+1) (.l1 (j:Int))=bif !b then some (j:Int) else Ma q.cons q g n (.l1 ((j+1:Nat):Int)):=fun n hn=>by
   have e1:Fw n q (q.cons.getD (j:Int).toNat default) g=some b:=b1 n hn
   show Tj n (Ma q.cons q g n) q.cons q g (j:Int)=_
   unfold Tj VQ ZM;rw [zAU (by omega),zAV,zAM ⟨by omega,by omega⟩,e1,zAS,zAS,zAM (Av.2 ⟨by omega,by omega⟩),show ((j+1:Nat):Int)=(j:Int)+1 by omega]
  cases b with
  | true=>
   obtain ⟨r,h1,h2⟩:=ih (j+1) (by omega) fun i h0 h1=>by
    by_cases e:i=(j:Int)
    ·rw [e];exact b2.1 rfl
    ·exact h i h0 (by omega)
   exact ⟨r,BK.ev (BK.oneN N fun n hn=>by rw [step n hn];rfl) h1,h2⟩
  | false=>
   refine ⟨(j:Int),Ev.oneN N fun n hn=>by rw [step n hn];rfl,zHG (by rw [zAU (by omega)];decide) fun h=>?_⟩;have:=b2.2 (h (j:Int) (by omega) (by omega));cases this
theorem Vj (hF:EN q)(hl:g.length<=LB): ∃ r,Ev (fun n=>GI n q g) r/\ SvP q g r:=by
 obtain ⟨e,h1,h2⟩:=wD hF hl
 by_cases h0:e=0
 ·subst h0;obtain ⟨hv,G⟩:=h2.1 rfl;obtain ⟨r,r1,r2⟩:=rG hF hv G q.cons.length 0 (by omega) fun i h0 h1=>by omega
  refine ⟨(!decide (r>=0),0),Ev.bind h1 (Ev.eq (Ev.bind (Ev.bind r1 (b:=fun n y1=>some (decide (y1>=0))) (Ev.now fun n=>rfl)) (b:=fun n y2=>some ((!y2),(0:Int))) (Ev.now fun n=>rfl)) fun n=>rfl),⟨fun _=>⟨hv,G⟩,fun _=>rfl⟩,fun _=>?_⟩;rw [←r2]
  show (!decide (r>=0))=true↔_
  cases decide (r>=0) <;> simp
 ·refine ⟨(false,e),Ev.bind h1 (Ev.now fun n=>by rw [zC8.2 h0];rfl),⟨fun h=>absurd h h0,fun h=>absurd (h2.2 h) h0⟩,fun h=>absurd h h0⟩
end
abbrev zHP:=@List.take_left'
def Ba.nv {P:Program}(C:Ba P):Prop:=∀ G R W,¬ C.Jx G R W
def pan (v:Value):List PanicEntry:=[{ v:=v,recovered:=false }]
def RT (pv:Value)(M:Nat -> Prop)(w:World)(ρ:List AH):Option DV -> Ending -> Prop
 | some d,e=>∃ v,e= .returned v/\ AK M w d ρ v
 | none,e=>e= .panicked (pan pv)
def YC (P:Program)(Γ:At)(pv:Value)(f:Nat)(ds:Nat -> List DV)(h:Nat -> DH)(ys:List (List DV))(out:Option DV)(h':Nat -> DH):Prop:= (∀ args W,(callFunc f args).run P W= .ok (.enter f args) W)/\ ∀ (C:Ba P),C.nv -> ∀ i,(∃ rest,C.encs.drop i=ys++rest) -> ∀ N ρ args w G R,A1 P Γ N (h C.l) ρ w -> A9 (MS N (h C.l) ρ) w ρ (ds C.l) args -> C.J i G R w -> IY Γ N G R (h C.l) ρ w -> CallsIn Fence.wide 0 P f args w fun e w'=>∃ N' ρ' G' R',A1 P Γ N' (h' C.l) ρ' w'/\ C.J (i+ys.length) G' R' w'/\ IY Γ N' G' R' (h' C.l) ρ' w'/\ CI (h C.l).length ρ ρ'/\ RT pv (MS N' (h' C.l) ρ') w' ρ' out e
section
variable {P:Program} {Γ:At}
def Ba.part (C:Ba P)(hn:C.nv)(O R1 G1:Nat -> Prop)(w:World)(hO: ∀ b,O b -> b<w.heap.size)(hR1: ∀ b,R1 b -> b<w.heap.size):Ba P where
 l:=C.l
 encs:=C.encs
 J:=fun j G R W=>C.J j (fun b=>G b∨O b) R W/\ AO (fun b=>¬ (O b∨R1 b)) w W/\ (∀ b,O b -> ¬ G b/\ ¬ R b)/\ (∀ b,R1 b -> R b)/\ (∀ b,G b -> G1 b∨w.heap.size<=b)/\ (∀ b,G b -> ¬ R b)
 Jx:=fun _ _ _=>False
 hJ:=by
  rintro j G R G' R' A B ⟨h1,h2,h3,h4,h5,h6⟩ hu hg hr EV hd AM;have hs:=h2.size;have Mu: ∀ b,O b -> b<A.heap.size:=fun b hb=>zAj (hO b hb) hs
  have Ml: ∀ b,O b -> ¬ G' b/\ ¬ R' b:=fun b hb=>by
   have:=Mu b hb;exact ⟨fun hx=>(hg b hx).elim (h3 b hb).1 (by omega),fun hx=>(hr b hx).elim (h3 b hb).2 fun hx=>hx.elim (h3 b hb).1 (by omega)⟩
  refine ⟨C.hJ j _ R _ R' A B h1 (hu.mono fun _ _ h=>.inl h) (fun k hk=>hk.elim (fun h=>(hg k h).imp .inl id) fun h=>.inl (.inr h)) (fun k hk=>(hr k hk).imp id fun h=>h.imp .inl id) (fun k hk=>?_) (fun k hk=>hk.elim (hd k) fun h=>(Ml k h).2) (fun k hk=>?_),h2.comp hu fun i hi hx=>?_,Ml,fun b hb=>?_,fun b hb=>?_,hd⟩
  ·rcases hk with (hk | hk) | hk
   ·exact (EV k (.inl hk)).imp .inl id
   ·exact .inl (.inr hk)
   ·exact (EV k (.inr hk)).imp .inl id
  ·rcases hk with (hk | hk) | hk
   ·exact AM k (.inl hk)
   ·exact zAj (Mu k hk) hu.size
   ·exact AM k (.inr hk)
  ·exact fun J1=>J1.elim (fun h=>(h3 i h).1 hx) fun h=>h6 i hx (h4 i h)
  ·refine (EV b (.inr (h4 b hb))).resolve_left fun hx=>?_
   rcases hg b hx with h | h
   ·exact h6 b h (h4 b hb)
   ·have:=hR1 b hb;omega
  ·rcases hg b hb with h | h
   ·exact h5 b h
   ·exact .inr (zA0 hs h)
 hJx:=fun _ _ _ _ _ _ h _ _ _ _ _ _=>h.elim
 hy:=by
  rintro i x args G R W1 hx hE ⟨h1,h2,h3,h4,h5,h6⟩ hs
  obtain ⟨fn,tmps,U1,body,hy,hR⟩:=C.hy i x args _ R W1 hx hE h1 ⟨fun k hk=>hk.elim (hs.dis k) fun h=>(h3 k h).2,fun k hk=>by
   rcases hk with (hk | hk) | hk
   ·exact hs.lt k (.inl hk)
   ·exact zAj (hO k hk) h2.size
   ·exact hs.lt k (.inr hk)⟩
  refine ⟨fn,tmps,U1,body,hy,hR.mono ?_⟩;rintro e W' ⟨hu,hj⟩;refine ⟨hu.mono fun k _ h hx=>h (hx.imp .inl id),.inl ?_⟩;rcases hj with ⟨rfl,hj⟩ | ⟨_,hj⟩
  ·exact ⟨rfl,hj,h2.comp hu fun i _ hx J1=>hx (J1.imp .inr (h4 i)),h3,h4,h5,h6⟩
  ·exact (hn _ _ _ hj).elim
def MT (K:Nat)(h:DH)(ρ:List AH)(b:Nat):Prop:=∃ k o p,K<=k/\ h[k]? =some (some o)/\ ρ[k]? =some p/\ p.foot b
theorem MO.split {h:DH}{ρ:List AH}(K:Nat)(b:Nat):MO h ρ b↔MO (h.take K) (ρ.take K) b∨MT K h ρ b:=by
 constructor
 ·rintro ⟨k,o,p,h1,h2,h3⟩;rcases zCV k K with hk | hk
  ·exact .inl ⟨k,o,p,by rw [zC4,zAM hk];exact h1,by rw [zC4,zAM hk];exact h2,h3⟩
  ·exact .inr ⟨k,o,p,hk,h1,h2,h3⟩
 ·rintro (⟨k,o,p,h1,h2,h3⟩ | ⟨k,o,p,_,h1,h2,h3⟩)
  ·rw [zC4] at h1 h2;split at h1
   ·rename_i hk;rw [zAM hk] at h2;exact ⟨k,o,p,h1,h2,h3⟩
   ·cases h1
  ·exact ⟨k,o,p,h1,h2,h3⟩
def ND (K:Nat):Option DO -> Bool
 | some (.cells l)=>l.all (DI K)
 | some (.ro l)=>l.all (DI K)
 | _=>true
theorem A1.take {N:Nat -> Prop}{h:DH}{ρ:List AH}{w:World}(H:A1 P Γ N h ρ w){K:Nat}(hK:K<=h.length)(hc:(h.take K).all (ND K)=true):A1 P Γ (fun b=>N b∨MT K h ρ b) (h.take K) (ρ.take K) w/\ ∀ b,MS (fun b=>N b∨MT K h ρ b) (h.take K) (ρ.take K) b↔MS N h ρ b:=by
 have hM: ∀ b,MS (fun b=>N b∨MT K h ρ b) (h.take K) (ρ.take K) b↔MS N h ρ b:=fun b=>by
  constructor
  ·rintro ((x | x) | x)
   ·exact .inl x
   ·exact .inr ((MO.split K b).2 (.inr x))
   ·exact .inr ((MO.split K b).2 (.inl x))
  ·rintro (x | x)
   ·exact .inl (.inl x)
   ·exact ((MO.split K b).1 x).elim .inr fun y=>.inl (.inr y)
 have gt: ∀ {α:Type} {l:List α} {k:Nat} {x:α},(l.take K)[k]? =some x -> k<K/\ l[k]? =some x:=fun {α l k x} hx=>by
  rw [zC4] at hx;split at hx
  ·rename_i hk;exact ⟨hk,hx⟩
  ·cases hx
 refine ⟨⟨by simp [H.len],fun k o hk=>?_,fun k o p b h1 h2 h3=>?_,fun i i' o o' p p' b Ad g1 g2 g3 g4 g5 g6=>H.dis i i' o o' p p' b Ad (gt g1).2 (gt g2).2 (gt g3).2 (gt g4).2 g5 g6,fun b hb=>?_,H.gi⟩,hM⟩
 ·obtain ⟨DD,Ct⟩:=gt hk;obtain ⟨p,hp,ho⟩:=H.obj k o Ct;refine ⟨p,by rw [zC4,zAM DD];exact hp,?_⟩;have e:MS (fun b=>N b∨MT K h ρ b) (h.take K) (ρ.take K)=MS N h ρ:=funext fun b=>propext (hM b)
  rw [e];cases o with
  | cells l=>
   have Az:l.all (DI K)=true:=zAg.1 hc _ (zCi hk);exact AY.out ho rfl fun j u hj hu=>AK.take _ (zAg.1 Az _ (by simp [u8,hj])) hu
  | ints l=>exact ho
  | bools l=>exact ho
  | arr m n f=>exact ho
  | iter encs=>exact ho
  | ro l=>
   obtain ⟨r1,r2,r3⟩:=ho;have Az:l.all (DI K)=true:=zAg.1 hc _ (zCi hk);exact ⟨r1,r2,AY.out r3 rfl fun j u hj hu=>AK.take _ (zAg.1 Az _ (by simp [u8,hj])) hu⟩
  | mo x=>exact ho
 ·obtain ⟨DD,LV⟩:=gt h1;obtain ⟨c1,c2,c3⟩:=H.cel k o p b LV (gt h2).2 h3;refine ⟨c1,?_,c3⟩;rintro (hn | ⟨k',o',p',q1,q2,q3,q4⟩)
  ·exact c2 hn
  ·exact H.dis k k' o o' p p' b (by omega) LV q2 (gt h2).2 q3 h3 q4
 ·rcases hb with hb | ⟨k',o',p',q1,q2,q3,q4⟩
  ·exact H.nlt b hb
  ·obtain ⟨c1,_,c,t,z,c3⟩:=H.cel k' o' p' b q2 q3 q4;exact ⟨(zAZ.1 c3).1,c1⟩
theorem RT.out {pv:Value}{M M':Nat -> Prop}{w:World}{ρ ρ':List AH}{out:Option DV}{e:Ending}(H:BS M w ρ M' w ρ')(h:RT pv M w ρ out e):RT pv M' w ρ' out e:=by
 cases out with
 | none=>exact h
 | some d=>obtain ⟨v,h1,h2⟩:=h;exact ⟨v,h1,h2.out _ H⟩
theorem YC.call {pv:Value}{f:Nat}{ds:Nat -> List DV}{h:Nat -> DH}{ys:List (List DV)}{out:Option DV}{h':Nat -> DH}(H:YC P Γ pv f ds h ys out h'){C:Ba P}(hn:C.nv){i:Nat}(hi: ∃ rest,C.encs.drop i=ys++rest){N G R:Nat -> Prop}{hh T:DH}{ρ:List AH}{w:World}{args:Array Value} 
 (e:hh=h C.l++T) (HR:A1 P Γ N hh ρ w) (hl:(h' C.l).length=(h C.l).length) (hc:(h C.l).all (ND (h C.l).length)=true) (hd:(ds C.l).all (DI (h C.l).length)=true) (fa:A9 (MS N hh ρ) w ρ (ds C.l) args) (hj:C.J i G R w) (y:IY Γ N G R hh ρ w):
 CallsIn Fence.wide 0 P f args w fun e w'=>∃ N2 ρ2 G2 R2,A1 P Γ N2 (h' C.l++T) ρ2 w'/\ C.J (i+ys.length) G2 R2 w'/\ IY Γ N2 G2 R2 (h' C.l++T) ρ2 w'/\ CI hh.length ρ ρ2/\ RT pv (MS N2 (h' C.l++T) ρ2) w' ρ2 out e/\
  BS (MS N hh ρ) w ρ (MS N2 (h' C.l++T) ρ2) w' ρ2/\ AO (fun b=>N b∨MO (h C.l) (ρ.take (h C.l).length) b∨w.heap.size<=b) w w':=by
 subst e;obtain ⟨K,LU⟩: ∃ K,K=(h C.l).length:=⟨_,rfl⟩;have hK:(h C.l++T).take K=h C.l:=by rw [LU,zHP];rfl
 have hKl:K<=(h C.l++T).length:=by rw [LU,zA7];omega
 obtain ⟨PW,hM⟩:=HR.take hKl (by rw [hK,LU];exact hc);rw [hK] at PW hM;obtain ⟨R1,z1,z2,z3,z4⟩:=IY.part (C.hJ i) hj y;have sp:=fun b=>MO.split (h:=h C.l++T) (ρ:=ρ) K b
 rw [hK] at sp;obtain ⟨O,LS⟩: ∃ O,O=MT K (h C.l++T) ρ:=⟨_,rfl⟩;obtain ⟨G1,Xu⟩: ∃ G1,G1=MO (h C.l) (ρ.take K):=⟨_,rfl⟩;rw [←LS] at PW hM;rw [←LU,←Xu];have ij:(fun b=>G1 b∨O b)=MO (h C.l++T) ρ:=by rw [Xu,LS];exact funext fun b=>propext (sp b).symm
 have Hw: ∀ b,G1 b∨O b↔MO (h C.l++T) ρ b:=fun b=>iff_of_eq (congrFun ij b)
 have AM: ∀ b,MO (h C.l++T) ρ b -> b<w.heap.size:=fun b hb=>z2.sh.lt b (.inl hb)
 have Qk: ∀ b,G1 b -> ¬ O b:=fun b h1 h2=>by
  rw [Xu] at h1;rw [LS] at h2;obtain ⟨k,o,p,q1,q2,q3⟩:=h1;obtain ⟨k',o',p',g1,g2,g3,g4⟩:=h2;rw [zC4] at q2;split at q2
  ·rename_i hk;exact HR.dis k k' o o' p p' b (by omega) (by rw [zAk (by omega)];exact q1) g2 q2 g3 q3 g4
  ·cases q2
 have hNG: ∀ b,N b -> ¬ MO (h C.l++T) ρ b:=fun b hN=>((z2.n b).1 hN).2.1
 let C':Ba P:=C.part hn O R1 G1 w (fun b hb=>AM b ((Hw b).1 (.inr hb))) fun b hb=>z2.sh.lt b (.inr hb)
 have fa':A9 (MS (fun b=>N b∨O b) (h C.l) (ρ.take K)) w (ρ.take K) (ds C.l) args:=by
  have e:MS (fun b=>N b∨O b) (h C.l) (ρ.take K)=MS N (h C.l++T) ρ:=funext fun b=>propext (hM b)
  rw [e];exact fa.take (by rw [LU];exact hd)
 refine (H.2 C' (fun _ _ _ h=>h) i hi (fun b=>N b∨O b) (ρ.take K) args w G1 R1 PW fa' ⟨by show C.J i (fun b=>G1 b∨O b) R1 w;rw [ij];exact z1,AO.refl _ _,fun b hb=>⟨fun hg=>Qk b hg hb,z2.sh.dis b ((Hw b).1 (.inr hb))⟩,fun _ h=>h,fun _ h=>.inl h,fun b hb=>z2.sh.dis b ((Hw b).1 (.inl hb))⟩
  ⟨⟨fun b hb=>z2.sh.dis b ((Hw b).1 (.inl hb)),fun b hb=>hb.elim (fun h=>AM b ((Hw b).1 (.inl h))) fun h=>z2.sh.lt b (.inr h)⟩,z2.lo,fun b hb=>by rw [Xu];exact hb,fun b=>?_⟩).mono ?_
 ·constructor
  ·rintro (hb | hb)
   ·exact ⟨((z2.n b).1 hb).1,fun hg=>hNG b hb ((Hw b).1 (.inl hg)),((z2.n b).1 hb).2.2⟩
   ·exact ⟨AM b ((Hw b).1 (.inr hb)),fun hg=>Qk b hg hb,z2.sh.dis b ((Hw b).1 (.inr hb))⟩
  ·rintro ⟨q1,q2,q3⟩
   by_cases ho:O b
   ·exact .inr ho
   ·exact .inl ((z2.n b).2 ⟨q1,fun hm=>((Hw b).2 hm).elim q2 ho,q3⟩)
 ·rintro e w' ⟨N',ρs,G',R',FN,⟨j1,j2,j3,j4,j5,j6⟩,y',kp,ho⟩;have Ay:=j2.size;have cZ:ρs.length=K:=by rw [FN.len,LU];exact hl
  have Ak:ρ.length=K+T.length:=by rw [HR.len,zA7,LU]
  have hN2: ∀ b,(b<w'.heap.size/\ ¬ (G' b∨O b)/\ ¬ R' b) -> N' b:=fun b ⟨q1,q2,q3⟩=>(y'.n b).2 ⟨q1,fun h=>q2 (.inl h),q3⟩
  have hON: ∀ b,O b -> N' b:=fun b hb=>(y'.n b).2 ⟨zAj (AM b ((Hw b).1 (.inr hb))) Ay,(j3 b hb).1,(j3 b hb).2⟩
  have pl: ∀ (k:Nat) (p:AH),ρ[k]? =some p -> (ρs++ρ.drop K)[k]? =some p:=fun k p hp=>by
   rcases zCV k K with hk | hk
   ·rw [zAk (by omega)];exact kp k p (by show k<(h C.l).length;rw [←LU];exact hk) (by rw [zC4,zAM hk];exact hp)
   ·rw [zAp (by omega),cZ,zGT,show K+(k-K)=k by omega];exact hp
  have gl: ∀ {k:Nat} {p:AH},k<K -> (ρs++ρ.drop K)[k]? =some p -> ρs[k]? =some p:=fun {k p} hk hp=>by rw [zAk (by omega)] at hp;exact hp
  have gr: ∀ {k:Nat} {p:AH},K<=k -> (ρs++ρ.drop K)[k]? =some p -> ρ[k]? =some p:=fun {k p} hk hp=>by
   rw [zAp (by omega),cZ,zGT,show K+(k-K)=k by omega] at hp;exact hp
  have ol: ∀ {k:Nat} {o:DO},k<K -> (h' C.l++T)[k]? =some (some o) -> (h' C.l)[k]? =some (some o):=fun {k o} hk ho=>by rw [zAk (by omega)] at ho;exact ho
  have Jo: ∀ {k:Nat} {o:DO},K<=k -> (h' C.l++T)[k]? =some (some o) -> (h C.l++T)[k]? =some (some o):=fun {k o} hk ho=>by
   rw [zAp (by omega)] at ho ⊢;rw [hl] at ho;exact ho
  have KG: ∀ b,MO (h' C.l++T) (ρs++ρ.drop K) b -> G' b∨O b:=by
   rintro b ⟨k,o,p,q1,q2,q3⟩;rcases zCV k K with hk | hk
   ·exact .inl (y'.own b ⟨k,o,p,ol hk q1,gl hk q2,q3⟩)
   ·exact .inr (by rw [LS];exact ⟨k,o,p,hk,Jo hk q1,gr hk q2,q3⟩)
  obtain ⟨N2,Xq⟩: ∃ N2:Nat -> Prop,N2=fun b=>b<w'.heap.size/\ ¬ (G' b∨O b)/\ ¬ R' b:=⟨_,rfl⟩
  have F1: ∀ b,N2 b -> N' b:=fun b hb=>by rw [Xq] at hb;exact hN2 b hb
  have hM2: ∀ b,MS N2 (h' C.l++T) (ρs++ρ.drop K) b -> b<w'.heap.size/\ ¬ R' b:=fun b hb=>by
   rcases hb with hb | hb
   ·rw [Xq] at hb;exact ⟨hb.1,hb.2.2⟩
   ·rcases KG b hb with hb | hb
    ·exact ⟨y'.sh.lt b (.inl hb),j6 b hb⟩
    ·exact ⟨zAj (AM b ((Hw b).1 (.inr hb))) Ay,(j3 b hb).2⟩
  have out:BS (MS N (h C.l++T) ρ) w ρ (MS N2 (h' C.l++T) (ρs++ρ.drop K)) w' (ρs++ρ.drop K):=by
   refine ⟨fun b hb hm _=>j2.block b hb fun hx=>hx (.inr ?_),fun b hb=>?_,pl⟩
   ·exact Classical.byContradiction fun hr=>hm (z3 b ⟨hb,hr⟩)
   ·rcases zCV b w.heap.size with hl | hl
    ·exact .inl (z3 b ⟨hl,fun hr=>(hM2 b hb).2 (j4 b hr)⟩)
    ·exact .inr hl
  have Iy:BS (MS N' (h' C.l) ρs) w' ρs (MS N2 (h' C.l++T) (ρs++ρ.drop K)) w' (ρs++ρ.drop K):=by
   refine ⟨fun _ _ _ _=>rfl,fun b hb=>.inl ?_,fun k p hp=>?_⟩
   ·rcases hb with hb | hb
    ·exact .inl (F1 b hb)
    ·obtain ⟨k,o,p,q1,q2,q3⟩:=hb;rcases zCV k K with hk | hk
     ·exact .inr ⟨k,o,p,ol hk q1,gl hk q2,q3⟩
     ·exact .inl (hON b (by rw [LS];exact ⟨k,o,p,hk,Jo hk q1,gr hk q2,q3⟩))
   ·rw [zAk (zAf.1 hp).1];exact hp
  refine ⟨N2,ρs++ρ.drop K,fun b=>G' b∨O b,R',⟨by simp [cZ,Ak,hl,LU],fun k o hk=>?_,fun k o p b h1 h2 h3=>?_,fun i i' o o' p p' b Ad g1 g2 g3 g4 g5 g6=>?_,fun b hb=>?_,FN.gi⟩,j1,⟨⟨fun b hb=>hb.elim (j6 b) fun h=>(j3 b h).2,fun b hb=>?_⟩,y'.lo,KG,fun b=>by rw [Xq]⟩,fun k p _ hp=>pl k p hp,ho.out Iy,out,?_⟩
  ·rcases zCV k K with DD | DD
   ·obtain ⟨p,hp,hr⟩:=FN.obj k o (ol DD hk);exact ⟨p,Iy.pl k p hp,hr.out Iy (S:=fun _=>False) (AO.refl _ _) (fun _ h=>h.elim) fun _ _ _ h=>h⟩
   ·obtain ⟨p,hp,hr⟩:=HR.obj k o (Jo DD hk);refine ⟨p,pl k p hp,hr.out out (S:=fun b=>b<w.heap.size/\ ¬ (O b∨R1 b)) (j2.mono fun b hb hx=>⟨hb,hx⟩) (fun b hb=>z3 b ⟨hb.1,fun hr=>hb.2 (.inr hr)⟩) fun b _ hf hx=>hx.2 (.inl ?_)⟩;rw [LS];exact ⟨k,o,p,DD,Jo DD hk,hp,hf⟩
  ·rcases zCV k K with DD | DD
   ·obtain ⟨c1,c2,c3⟩:=FN.cel k o p b (ol DD h1) (gl DD h2) h3;exact ⟨c1,fun hx=>c2 (F1 b hx),c3⟩
   ·have DL:O b:=by rw [LS];exact ⟨k,o,p,DD,Jo DD h1,gr DD h2,h3⟩
    obtain ⟨c1,_,c,t,z,c3⟩:=HR.cel k o p b (Jo DD h1) (gr DD h2) h3;refine ⟨c1,fun hx=>?_,c,t,z,(j2.block b (zAZ.1 c3).1 fun hx=>hx (.inl DL)).trans c3⟩;rw [Xq] at hx;exact hx.2.1 (.inr DL)
  ·rcases zCV i K with Fh | Fh <;> rcases zCV i' K with FE | FE
   ·exact FN.dis i i' o o' p p' b Ad (ol Fh g1) (ol FE g2) (gl Fh g3) (gl FE g4) g5 g6
   ·exact (j3 b (by rw [LS];exact ⟨i',o',p',FE,Jo FE g2,gr FE g4,g6⟩)).1 (y'.own b ⟨i,o,p,ol Fh g1,gl Fh g3,g5⟩)
   ·exact (j3 b (by rw [LS];exact ⟨i,o,p,Fh,Jo Fh g1,gr Fh g3,g5⟩)).1 (y'.own b ⟨i',o',p',ol FE g2,gl FE g4,g6⟩)
   ·exact HR.dis i i' o o' p p' b Ad (Jo Fh g1) (Jo FE g2) (gr Fh g3) (gr FE g4) g5 g6
  ·exact FN.nlt b (F1 b hb)
  ·rcases hb with (hb | hb) | hb
   ·exact y'.sh.lt b (.inl hb)
   ·exact zAj (AM b ((Hw b).1 (.inr hb))) Ay
   ·exact y'.sh.lt b (.inr hb)
  ·refine j2.mono fun b hb hx=>?_
   rcases z3 b ⟨hb,fun hr=>hx (.inr hr)⟩ with h | h
   ·exact .inl h
   ·exact .inr (.inl (((Hw b).2 h).resolve_right fun h=>hx (.inl h)))
def Ba.K (C:Ba P)(Γ:At)(L j:Nat)(ρ0:List AH):BQ P Γ L where
 I:=fun N h ρ w=>(C.Y Γ L j).I N h ρ w/\ CI L ρ0 ρ
 st:=fun ⟨a,b⟩ H H' st k=>⟨(C.Y Γ L j).st a H H' st k,b.trans k⟩
def YQ (C:Ba P)(Γ:At)(pv:Value)(fn:Func)(L j:Nat)(ρ0:List AH)(out:Option DV)(h':DH):QY P Γ L:=fun e S Y=>Y=C.K Γ L j ρ0/\ match out with
 | some d=>DS P fn L d h' e S
 | none=>e= .panic (pan pv)/\ ∃ CU,A0 L S CU/\ CU.h=h'
theorem YC.of {pv:Value}{f L:Nat}{fn:Func}{ds:Nat -> List DV}{h:Nat -> DH}{ys:List (List DV)}{out:Option DV}{h':Nat -> DH}(hf:P.funcs[f]? =some fn)(hb:fn.body.isSome=true)(hn:(fn.name== "runtime.NumGoroutine")=false)(hL: ∀ l,(h l).length=L) 
 (T: ∀ (C:Ba P) (i:Nat) (ρ0:List AH),C.nv -> (∃ rest,C.encs.drop i=ys++rest) -> Ap P Γ Fence.wide none L (C.K Γ L i ρ0) (YQ C Γ pv fn L (i+ys.length) ρ0 out (h' C.l)) [.code (AX fn)] ⟨ds C.l++List.replicate (fn.ntmps-(ds C.l).length) .any,h C.l⟩):YC P Γ pv f ds h ys out h':=by
 refine ⟨fun args W=>M5 hf hb hn args W,fun C LN i hi N ρ args w G R HR fa hj y=>?_⟩;refine pk hf hb (T C i ρ LN hi) HR fa ⟨⟨G,R,hj,y⟩,CI.refl _ _⟩ ?_;rintro e S' ρ' N' Y' a' W' ⟨rfl,q⟩ q2 ⟨q3,q4⟩;cases out with
 | none=>
  obtain ⟨rfl,CU,CH,hh⟩:=q;obtain ⟨ρ3,R3,Fr,k3⟩:=CH P Γ N' ρ' a' W' q2;obtain ⟨G3,fP,j3,y3⟩:=(C.Y Γ L (i+ys.length)).st q3 q2.hr R3.hr Fr k3;have NL:=R3.hr;rw [hh] at NL y3;exact ⟨N',ρ3,G3,fP,NL,j3,y3,by rw [hL];exact q4.trans k3,rfl⟩
 | some d=>
  obtain ⟨he,CU,CH,rs,Mg,hd⟩:=q;obtain ⟨ρ'',El,Rr,OU⟩:=CH P Γ N' ρ' a' W' q2;have y2:=(C.Y Γ L (i+ys.length)).st q3 q2.hr El.hr Rr OU;obtain ⟨v,g1,g2⟩:=WC El Mg
  have key: ∃ v,(results fn a'.tmps).run P W'= .ok v W'/\ ∃ N' ρ' G' R',A1 P Γ N' (h' C.l) ρ' W'/\ C.J (i+ys.length) G' R' W'/\ IY Γ N' G' R' (h' C.l) ρ' W'/\ CI (h C.l).length ρ ρ'/\ RT pv (MS N' (h' C.l) ρ') W' ρ' (some d) (.returned v):=by
   rcases hd with ⟨hd,hh⟩ | ⟨_,hd,hn,hl,hh⟩
   ·obtain ⟨G3,R3,j3,y3⟩:=y2;have g3:=hd _ _ _ _ g2;have Rh:=El.hr;rw [hh] at y3 g3 Rh;exact ⟨v,g1,N',ρ'',G3,R3,Rh,j3,y3,by rw [hL];exact q4.trans OU,v,rfl,g3⟩
   ·obtain ⟨ρ3,R3,Fr,k3⟩:=A0.compact (L:=L) (List.range L) CU List.nodup_range (fun k hk=>zAj (zAn.1 hk) hl) (fun k hk=>by simp [hk]) P Γ N' ρ'' a' W' El;obtain ⟨G3,fP,j3,y3⟩:=(C.Y Γ L (i+ys.length)).st y2 El.hr R3.hr Fr k3;have NL:=R3.hr;rw [hh] at NL Fr y3;refine ⟨v,g1,N',ρ3,G3,fP,NL,j3,y3,by rw [hL];exact (q4.trans OU).trans k3,v,rfl,?_⟩;have r0:=hn _ _ _ _ (hd _ _ _ _ g2);have r1:AK (MS N' (h' C.l) ρ3) W' d [] v:=AK.out _ ⟨fun _ _ _ _=>rfl,fun b hb=>hb.elim (fun hx=>.inl (.inl hx)) fun hx=>(Fr.grow b hx).imp .inr id,fun _ _ hx=>by simp at hx⟩ r0;exact AK.out _ ⟨fun _ _ _ _=>rfl,fun b hb=>.inl hb,fun _ _ hx=>by simp at hx⟩ r1
  rcases he with rfl | rfl
  ·exact key
  ·exact key
def NF (fr:List DV):List DV:=fr.map fun _=>.any
theorem zFy {M:Nat -> Prop}{w:World}{ρ:List AH}{fr:List DV}{t:Array Value}(h:fr.length=t.size):A9 M w ρ (NF fr) t:=⟨by simp [NF,h],fun j hj=>by
 have:(NF fr).getD j .any= .any:=by
  unfold NF;rw [u8,zCG];cases fr[j]? <;> rfl
 rw [this];trivial⟩
def PO {L:Nat}(Q:QY P Γ L):Exit -> Act -> World -> Prop
 | .panic c,a,w=>∃ fr h ρ N Y,Q (.panic c) ⟨NF fr,h⟩ Y/\ fr.length=a.tmps.size/\ A1 P Γ N h ρ w/\ Y.I N h ρ w/\ a.defers= []
 | e,a,w=>∃ S ρ N Y,QE Q e S Y/\ AR P Γ N S ρ a w/\ Y.I N S.h ρ w/\ Lk none a.defers w/\ Bd Fence.wide none w
theorem PO.le {L:Nat}{Q:QY P Γ L}{e:Exit}{a:Act}{w:World}(h:PO Q e a w): ∃ S ρ N Y,QE Q e S Y/\ AR P Γ N S ρ a w/\ Y.I N S.h ρ w/\ Lk none a.defers w/\ Bd Fence.wide none w:=by
 cases e with
 | panic c=>
  obtain ⟨fr,h,ρ,N,Y,h1,h2,h3,h4,h5⟩:=h;exact ⟨⟨NF fr,h⟩,ρ,N,Y,h1,⟨h3,zFy h2⟩,h4,h5,Bd.none⟩
 | _=>exact h
theorem PO.put {L:Nat}{Q:QY P Γ L}(c:List PanicEntry)(a:Act)(d:Option Tmp)(v:Value)(w:World)(h:PO Q (.panic c) (Act.put a d v) w):PO Q (.panic c) a w:=by
 obtain ⟨fr,h,ρ,N,Y,h1,h2,h3,h4,h5⟩:=h;refine ⟨fr,h,ρ,N,Y,h1,h2.trans ?_,h3,h4,?_⟩
 ·cases d <;> simp [Act.put]
 ·cases d <;> simpa [Act.put] using h5
def Dk (P:Program)(Γ:At){L:Nat}(Y:BQ P Γ L)(ops:Array Oper)(l:List Nat)(S:St)(Q:QY P Γ L):Prop:= ∀ N ρ a w,AR P Γ N S ρ a w -> Y.I N S.h ρ w -> a.defers= [] -> wpListIn Fence.wide 0 P ops (PO Q) (CP ops l) a w
theorem S7 {ops:Array Oper}: ∀ (l l':List Nat),CP ops (l++l')=CP ops l++CP ops l'
 | [],_=>rfl
 | i::l,l'=>by
  simp only [zHD,CP];split
  ·rw [S7 l l'];rfl
  ·exact S7 l l'
theorem wy {ops:Array Oper}:CP ops (List.range ops.size)=ops.toList:=by
 have go: ∀ (k:Nat),k<=ops.size -> CP ops (List.range k)=ops.toList.take k:=by
  intro k
  induction k with
  | zero=>intro _;rfl
  | succ k ih=>
   intro hk;rw [List.range_succ,S7,ih (by omega),List.take_add_one]
   congr 1
   simp [CP,zCF (show k<ops.size by omega)]
 rw [go _ (zA5 _),List.take_of_length_le (by simp)]
section
variable {L:Nat} {C:Ba P} {i:Nat} {ρ0:List AH} {Q:QY P Γ L} {ops:Array Oper} {S:St} {AZ:BE} {vs:List Prop}
theorem Dk.done {Y:BQ P Γ L}{l:List Nat}{S':St}{B9:BE}(hF:C9 Fence.wide P)(Ar:Cc ops=true)(h:Di P Γ ops (CP ops l) S AZ=some (S',vs,B9))(hv:BZ vs)(hk:Q .normal S' Y):Dk P Γ Y ops l S Q:=fun N ρ a w R y m=>
 KL hF Ar _ (P9 l) R h hv fun ρ' a' w' R' st Cm=>Tr.done R y m Bd.none hk R' st.st (fun k p _ hp=>st.pl k p hp) Cm
theorem Tr.ofO {Y:BQ P Γ L}{id:Nat}(h:Dk P Γ Y ops (List.range ops.size) S Q):Tr P Γ Fence.wide none L Y (.region id ops false) S Q:=fun N ρ a w R y m _=>zGR (zGs (by
 have:=h N ρ a w R y m;rw [wy] at this;exact this)) fun _ _ _=>PO.le
def KW (P:Program)(Γ:At)(ops:Array Oper)(l:List Nat)(p:Nat)(S:St)(AZ:BE):Option (FuncId×List DV×Option Tmp×St×List Prop×BE):=match Di P Γ ops (CP ops l) S AZ with
 | none=>none
 | some (S1,vs,Es)=>match ops[p]? with
  | none=>none
  | some o=>match JV ops S1 o with
   | some true=>match o.op with
    | .call c=>match c.callee with
     | .value f=>match AW S1.fr f with
      | .fn g m cap=>some (g,c.args.toList.map (AW S1.fr)++(List.range m).map cap,o.dst,S1,vs,Es)
      | _=>none
     | _=>none
    | _=>none
   | _=>none
theorem Dk.call {l1 l2:List Nat}{p:Nat}{pv:Value}{g:FuncId}{dst:Option Tmp}{S1:St}{Es:BE}{ds:Nat -> List DV}{h:Nat -> DH}{ys:List (List DV)}{out:Option DV}{h':Nat -> DH}{T:DH}(hF:C9 Fence.wide P)(Ar:Cc ops=true)(hC:C.nv) 
 (hr:KW P Γ ops l1 p S AZ=some (g,ds C.l,dst,S1,vs,Es)) (hv:BZ vs) (H:YC P Γ pv g ds h ys out h') (hS:S1.h=h C.l++T) (hl:(h' C.l).length=(h C.l).length) (hc:(h C.l).all (ND (h C.l).length)=true) (hd:(ds C.l).all (DI (h C.l).length)=true) (hi: ∃ rest,C.encs.drop i=ys++rest)
 (hk:match out with
  | some d=>Dk P Γ (C.K Γ L (i+ys.length) ρ0) ops l2 ⟨Ck S1.fr dst d,h' C.l++T⟩ Q
  | none=>Q (.panic (pan pv)) ⟨NF S1.fr,h' C.l++T⟩ (C.K Γ L (i+ys.length) ρ0)):Dk P Γ (C.K Γ L i ρ0) ops (l1++p::l2) S Q:=fun N ρ a w R y m=>by
 unfold KW at hr;split at hr
 ·cases hr
 rename_i S2 D4 GP h1;split at hr
 ·cases hr
 rename_i o ho;split at hr
 ·rename_i hw;split at hr
  ·rename_i c Mj;split at hr
   ·rename_i f Qm;split at hr
    ·rename_i g' m' cap hf;simp only [zCR,zCp] at hr;obtain ⟨rfl,e2,rfl,rfl,rfl,rfl⟩:=hr;rw [S7];have e3:CP ops (p::l2)=o::CP ops l2:=by simp only [CP,ho]
     rw [e3];refine UL hF Ar _ (P9 l1) R h1 hv fun ρ1 a1 w1 R1 DX Ox=>?_
     obtain ⟨⟨G,R0,j1,y1⟩,IL⟩:=(C.K Γ L i ρ0).st y R.hr R1.hr DX.st (fun k p _ hp=>DX.pl k p hp);obtain ⟨args,J4,UA⟩:=eM R1 o Mj Qm hf H.1;rw [e2] at UA;unfold wpListIn;rw [zAM (H8 R1 hw)];refine ⟨fun f _=>hF.fn f,?_⟩;rw [zGM _ _ _ (HE Ar ho),J4];refine ⟨fun hx=>(by cases hx),(YC.call H hC hi hS R1.hr hl hc hd UA j1 y1).mono ?_⟩;have Ax:a1.defers= []:=Ox.trans m;have CS: ∀ v,(a1.put o.dst v).defers=a1.defers:=fun v=>by cases ho:o.dst <;> simp [Act.put]
     rintro e w2 ⟨N2,ρ2,G2,R2,VD,j2,y2,mB,Oj,hO,_⟩;have O5:=R1.fr.out hO;have QO:CI L ρ0 ρ2:=fun k p hk hp=>hO.pl k p (IL k p hk hp)
     cases out with
     | none=>
      have he:e= .panicked (pan pv):=Oj;subst he;exact ⟨_,_,ρ2,N2,_,hk,O5.1,VD,⟨⟨G2,R2,j2,y2⟩,QO⟩,Ax⟩
     | some d=>
      obtain ⟨v,rfl,KE⟩:=Oj;exact hk N2 ρ2 _ w2 (G6 (S:=⟨S2.fr,h' C.l++T⟩) ⟨VD,O5⟩ o.dst KE) ⟨⟨G2,R2,j2,y2⟩,QO⟩ ((CS v).trans Ax)
    ·cases hr
   ·cases hr
  ·cases hr
 ·cases hr
theorem Tr.ordO {Y:BQ P Γ L}{id:Nat}{Cf:List (List Nat×Nat)}{BI tail:List Nat}{S':St}{B9:BE}(hF:C9 Fence.wide P)(hm:P.follows .mixedOrders=true)(hB:As ops Cf BI tail) 
 (h:Mf P Γ ops S.h Cf BI S AZ=some (S',vs,B9)) (hv:BZ vs) (hk:Dk P Γ Y ops tail S' Q):Tr P Γ Fence.wide none L Y (.region id ops true) S Q:=fun N ρ a w R y m _=>by
 simp only [As,zAW] at hB;obtain ⟨⟨h1,h2⟩,h3⟩:=hB;have hE:Aq w w.drew:=Aq.toDrew w;refine zGR (fc hF.fn Cf BI tail hm (by simp only [zAW];exact ⟨h1,h2⟩) (XW (Q:=PO Q) hF h2 Cf BI tail h3 (R.ext hE) (Cv.refl _ _ _) (Aq.refl _) h hv fun ρ' a' w' R' st Cm=>?_)) fun _ _ _=>PO.le
 exact hk N ρ' a' w' R' (Y.st y R.hr R'.hr ((A5.ext hE).trans st.st) fun k p _ hp=>st.pl k p hp) (Cm.trans m)
def Y8 (P:Program)(Γ:At)(ops:Array Oper)(l:List Nat)(p:Nat)(S:St)(AZ:BE):Option (List DV×Nat×Option Tmp×St×List Prop×BE):=match Di P Γ ops (CP ops l) S AZ with
 | none=>none
 | some (S1,vs,Es)=>match ops[p]? with
  | none=>none
  | some o=>match JV ops S1 o with
   | some true=>match o.op with
    | .call c=>match c.callee with
     | .value f=>match AW S1.fr f with
      | .yl l=>match (c.args.toList.map (AW S1.fr)).all E8 with
       | true=>some (c.args.toList.map (AW S1.fr),l,o.dst,S1,vs,Es)
       | false=>none
      | _=>none
     | _=>none
    | _=>none
   | _=>none
theorem Dk.yield {l1 l2:List Nat}{p:Nat}{x:List DV}{dst:Option Tmp}{S1:St}{Es:BE}(hF:C9 Fence.wide P)(Ar:Cc ops=true)(hC:C.nv) 
 (hr:Y8 P Γ ops l1 p S AZ=some (x,C.l,dst,S1,vs,Es)) (hv:BZ vs) (hx:C.encs[i]? =some x) (hk:Dk P Γ (C.K Γ L (i+1) ρ0) ops l2 ⟨Ck S1.fr dst (.bool true),S1.h⟩ Q):Dk P Γ (C.K Γ L i ρ0) ops (l1++p::l2) S Q:=fun N ρ a w R y m=>by
 unfold Y8 at hr;split at hr
 ·cases hr
 rename_i S2 D4 GP h1;split at hr
 ·cases hr
 rename_i o ho;split at hr
 ·rename_i hw;split at hr
  ·rename_i c Mj;split at hr
   ·rename_i f Qm;split at hr
    ·rename_i l hl;split at hr
     ·rename_i Tq;simp only [zCR,zCp] at hr;obtain ⟨rfl,rfl,rfl,rfl,rfl,rfl⟩:=hr;rw [S7];have e3:CP ops (p::l2)=o::CP ops l2:=by simp only [CP,ho]
      rw [e3];refine UL hF Ar _ (P9 l1) R h1 hv fun ρ1 a1 w1 R1 DX Ox=>?_
      obtain ⟨⟨G0,R0,y1,y2⟩,IL⟩:=(C.K Γ L i ρ0).st y R.hr R1.hr DX.st (fun k p _ hp=>DX.pl k p hp);obtain ⟨R',z1,z2,z3,_⟩:=IY.part (C.hJ i) y1 y2;obtain ⟨fn,tmps,U1,body,hy,hR⟩:=C.hy i _ _ _ R' w1 hx (YV.of (g:=AW S2.fr) (f:=a1.eval) (fun x=>Bj R1 x) z3 Tq) z1 z2.sh;unfold wpListIn;rw [zAM (H8 R1 hw)]
      have ck:a1.eval f= .func (.yield C.l) #[] #[]:=by
       have hr:=Bj R1 f;rw [hl] at hr;exact hr
      refine ⟨fun f _=>hF.fn f,?_⟩;rw [zGM _ _ _ (HE Ar ho),jW Mj Qm ck rfl,hy];refine ⟨fun hx=>(by cases hx),hR.mono ?_⟩;have Ax:a1.defers= []:=Ox.trans m;have CS: ∀ v,(a1.put o.dst v).defers=a1.defers:=fun v=>by cases ho:o.dst <;> simp [Act.put]
      rintro e W' ⟨hu,hj⟩;obtain ⟨rfl,BJ⟩:=hj.resolve_right fun h=>hC _ _ _ h.2
      obtain ⟨H',fo⟩:=z2.later R1.hr hu;exact hk _ ρ1 _ W' (G6 (S:=S2) ⟨H',R1.fr.out fo⟩ o.dst (d:=.bool true) (v:=.bool true) rfl) ⟨⟨_,_,BJ,z2.sh.upd hu,z2.lo,fun _ h=>h,fun _=>Iff.rfl⟩,IL⟩ ((CS _).trans Ax)
     ·cases hr
    ·cases hr
   ·cases hr
  ·cases hr
 ·cases hr
def PB (ops:Array Oper)(p:Nat)(tail:List Nat):List Nat -> Array Bool -> Bool
 | [],AU=>(Region.ready .any ops AU== [p])&&Pi ops tail (AU.setIfInBounds p true)&&((List.range ops.size).all fun j=>tail.contains j||(AU.setIfInBounds p true).getD j true)
 | r::Bl,AU=>Py ops (fun j=>j==p) r AU&&((List.range ops.size).all fun j=>!tail.contains j||E3 ops ops.size j r)&&PB ops p tail Bl (AU.setIfInBounds r true)
def Sc (P:Program)(ops:Array Oper)(xs:List Nat):List Nat -> St -> List (Nat×DV) -> Option (St×List Prop×List (Nat×DV))
 | [],S,co=>some (S,[],co)
 | r::Bl,S,co=>match ops[r]? with
  | none=>none
  | some o=>match P0 P ops ⟨S.fr,mF xs S.h⟩ co o with
   | none=>none
   | some (S1,CQ,KX)=>match Sc P ops xs Bl ⟨S1.fr,S.h⟩ KX with
    | none=>none
    | some (S2,D4,eD)=>some (S2,CQ++D4,eD)
def fK (xs:List Nat)(h:DH):Bool:=xs.all fun k=>decide (h.length<=k)||(h.getD k none).isSome
def Zp (xs:List Nat)(ρ:List AH)(w:World)(b:Nat):Prop:=(∃ k q,k∈xs/\ ρ[k]? =some q/\ q.foot b)∨w.heap.size<=b
theorem aB {xs:List Nat}{p:Nat}{tail:List Nat}{Q':Exit -> Act -> World -> Prop}(hF:C9 Fence.wide P)(Ar:Cc ops=true)(hs:Region.noSelect ops=true)(hQ: ∀ c a d v w,Q' (.panic c) (Act.put a d v) w -> Q' (.panic c) a w){N:Nat -> Prop}{ρ:List AH}{w:World}{g m:Nat}:
 ∀ (Bl:List Nat) {AU:Array Bool} {S:St} {a:Act} {co:List (Nat×DV)} {S':St} {vs:List Prop} {C4:List (Nat×DV)},Fo ops AU -> AR P Γ N S ρ a w -> fK xs S.h=true -> PB ops p tail Bl AU=true -> Sc P ops xs Bl S co=some (S',vs,C4) -> BZ vs ->
  (∀ bN a',Fo ops bN -> PB ops p tail [] bN=true -> AR P Γ N S' ρ a' w -> S'.h=S.h -> a'.defers=a.defers -> H7 Fence.wide 0 P ops Q' (RZ ops (fun j=>j==p) fun _ b=>N b∨Zp xs ρ w b) (fun j=>tail.contains j) g m bN a' w) ->
  H7 Fence.wide 0 P ops Q' (RZ ops (fun j=>j==p) fun _ b=>N b∨Zp xs ρ w b) (fun j=>tail.contains j) g (Bl.length+m) AU a w
 | [],AU,S,a,co,S',vs,C4,Az,R,O0,hk,h,hv,hn=>by
  cases h;rw [zC5,zA8];exact hn AU a Az hk R rfl rfl
 | r::Bl,AU,S,a,co,S',vs,C4,Az,R,O0,hk,h,hv,hn=>by
  simp only [PB,zAW] at hk;obtain ⟨⟨k1,k2⟩,k3⟩:=hk;simp only [Sc] at h;split at h
  ·cases h
  rename_i o ho;split at h
  ·cases h
  rename_i S1 CQ KX h1;split at h
  ·cases h
  rename_i S2 D4 eD h2;cases h;obtain ⟨Bx,CE⟩:=C8.1 hv
  have hT: ∀ j,j<ops.size -> tail.contains j=true -> E3 ops ops.size j r=true:=fun j hj ht=>by
   have:=zAg.1 k2 j (zAn.2 hj);rw [ht] at this;simpa using this
  have keep: ∀ W,AO (fun b=>N b∨Zp xs ρ w b) w W -> Keep (fun b=>N b∨∃ k o q,(!xs.contains k)=false/\ S.h[k]? =some (some o)/\ ρ[k]? =some q/\ q.foot b) w W:=fun W hu b o u hb hc=>by
   have AM:b<w.heap.size:=zC6 w ⟨b,o,none⟩ hc;refine (eL (hu.block b AM ?_)).trans hc;rintro (h | ⟨k,q,h1,h2,h3⟩ | h)
   ·exact hb (.inl h)
   ·have hk:k<S.h.length:=by rw [←R.hr.len];exact (zAf.1 h2).1
    have hx:=zAg.1 O0 k h1;simp only [zA9,zCQ] at hx;rcases hx with hx | hx
    ·omega
    ·cases hg:S.h.getD k none with
     | none=>rw [hg] at hx;cases hx
     | some ob=>exact hb (.inr ⟨k,ob,q,by simp [h1],getD_some hg,h2,h3⟩)
   ·omega
  have LI:(Region.ready .any ops AU).contains r=true:=by
   simp only [Py,zAW] at k1;exact k1.1.1.1
  have CS: ∀ v,(a.put o.dst v).defers=a.defers:=fun v=>by cases ho:o.dst <;> simp [Act.put]
  obtain ⟨e1,Ds⟩:=Sw (R.sel (p:=fun k=>!xs.contains k)) h1 Bx
  have back: ∀ {a':Act},AR P Γ (fun b=>N b∨∃ k o q,(!xs.contains k)=false/\ S.h[k]? =some (some o)/\ ρ[k]? =some q/\ q.foot b) S1 ρ a' w -> AR P Γ N ⟨S1.fr,S.h⟩ ρ a' w:=fun {a'} hr=>by
   have hr:=hr.fr;rw [e1] at hr;exact AR.unsel (p:=fun k=>!xs.contains k) R.hr hr
  rw [show (r::Bl).length+m=(Bl.length+m)+1 by simp;omega];rcases Ds with ⟨hw,v,g1,g2⟩ | ⟨hw,g2⟩
  ·refine WJ (Zi:=fun b=>N b∨Zp xs ρ w b) hF.fn Ar hs hQ ho Az k1 (fun _ _ _ h=>h) hT (.inl ⟨hw,fun W hu=>g1 W (keep W hu)⟩) ?_;exact aB hF Ar hs hQ Bl (Ut Az LI) (back g2) O0 k3 h2 CE fun l' a' q1 q2 q3 q4 q5=>hn l' a' q1 q2 q3 q4 (q5.trans (CS v))
  ·refine WJ (Zi:=fun b=>N b∨Zp xs ρ w b) hF.fn Ar hs (v:=undef) hQ ho Az k1 (fun _ _ _ h=>h) hT (.inr ⟨hw,rfl⟩) ?_;exact aB hF Ar hs hQ Bl (Ut Az LI) (back g2) O0 k3 h2 CE fun l' a' q1 q2 q3 q4 q5=>hn l' a' q1 q2 q3 q4 (q5.trans (CS undef))
def nM (xs:List Nat)(K:Nat)(h:DH):Bool:=(List.range K).all fun k=>xs.contains k||(match h.getD k none with
 | some (.ro _)=>true
 | none=>true
 | _=>false)
theorem Tr.drawC {id p:Nat}{Bl tail xs:List Nat}{pv:Value}{g:FuncId}{dst:Option Tmp}{co KX:List (Nat×DV)}{S1:St}{Es:BE}{CQ:List Prop}{ds:Nat -> List DV}{h:Nat -> DH}{ys:List (List DV)}{out:Option DV}{h':Nat -> DH}{T:DH}(hF:C9 Fence.wide P)(hm:P.follows .mixedOrders=true) 
 (hB:(Cc ops&&Region.noSelect ops&&(Bl.length+1+tail.length==ops.size)&&(tail.all fun t=>decide (t<ops.size))&&PB ops p tail Bl (Array.replicate ops.size false)&&fK xs S.h&&nM xs (h C.l).length S.h)=true) (hC:C.nv)
 (hs:Sc P ops xs Bl S co=some (S1,CQ,KX)) (Bx:BZ CQ) (hr:KW P Γ ops [] p S1 AZ=some (g,ds C.l,dst,S1,vs,Es)) (H:YC P Γ pv g ds h ys out h') (hS:S.h=h C.l++T) (hl:(h' C.l).length=(h C.l).length) (hc:(h C.l).all (ND (h C.l).length)=true) (hd:(ds C.l).all (DI (h C.l).length)=true) (hi: ∃ rest,C.encs.drop i=ys++rest)
 (hk:match out with
  | some d=>Dk P Γ (C.K Γ L (i+ys.length) ρ0) ops tail ⟨Ck S1.fr dst d,h' C.l++T⟩ Q
  | none=>Q (.panic (pan pv)) ⟨NF S1.fr,h' C.l++T⟩ (C.K Γ L (i+ys.length) ρ0)):Tr P Γ Fence.wide none L (C.K Γ L i ρ0) (.region id ops true) S Q:=fun N ρ a w R y m _=>by
 simp only [zAW,zBA] at hB;obtain ⟨⟨⟨⟨⟨⟨b1,b2⟩,b3⟩,b4⟩,b5⟩,b6⟩,b7⟩:=hB;have hE:Aq w w.drew:=Aq.toDrew w;have Rd:=R.ext hE;have yd:=(C.K Γ L i ρ0).st y R.hr Rd.hr (A5.ext hE) fun _ _ _ h=>h
 refine zGR (ZC (Q:=PO Q) (m:=Bl.length+1) hm b3 (aB (Q':=PO Q) hF b1 b2 (fun c a d v w h=>PO.put c a d v w h) Bl eG Rd b6 b5 hs Bx fun AU a1 Az Xi R1 eh Ox=>?_)) fun _ _ _=>PO.le
 simp only [PB,zAW,zBA] at Xi;obtain ⟨⟨c1,c2⟩,c3⟩:=Xi;refine ⟨fun h0=>(by rw [c1] at h0;cases h0),fun q hq=>?_⟩;rw [c1,zA1] at hq;subst hq;unfold KW at hr;split at hr
 ·cases hr
 rename_i S2 D4 GP h1;simp only [CP,Di,zCR,zCp] at h1;obtain ⟨rfl,_,_⟩:=h1;split at hr
 ·cases hr
 rename_i o ho;split at hr
 ·rename_i hw;split at hr
  ·rename_i c Mj;split at hr
   ·rename_i f Qm;split at hr
    ·rename_i g' m' cap hf;simp only [zCR,zCp] at hr;obtain ⟨rfl,e2,rfl,_,_,_⟩:=hr;rw [←eh] at yd hS;obtain ⟨⟨G,R0,j1,y1⟩,IL⟩:=yd;obtain ⟨args,J4,UA⟩:=eM R1 o Mj Qm hf H.1;rw [e2] at UA;have Ax:a1.defers= []:=Ox.trans m;have CS: ∀ v,(a1.put o.dst v).defers=a1.defers:=fun v=>by cases ho:o.dst <;> simp [Act.put]
     unfold wpOpIn;simp only [ho];rw [zAM (H8 R1 hw)];refine ⟨fun f _=>hF.fn f,?_⟩;rw [zGM _ _ _ (HE b1 ho),J4];refine ⟨fun hx=>(by cases hx),(YC.call H hC hi hS R1.hr hl hc hd UA j1 y1).mono ?_⟩;rintro e w2 ⟨N2,ρ2,G2,R2,VD,j2,y2,mB,Oj,hO,hU⟩;have O5:=R1.fr.out hO;have QO:CI L ρ0 ρ2:=fun k p hk hp=>hO.pl k p (IL k p hk hp)
     cases out with
     | none=>
      have he:e= .panicked (pan pv):=Oj;subst he;exact ⟨_,_,ρ2,N2,_,hk,O5.1,VD,⟨⟨G2,R2,j2,y2⟩,QO⟩,Ax⟩
     | some d=>
      obtain ⟨v,rfl,KE⟩:=Oj;refine ⟨⟨fun hp=>?_,fun _=>hU.mono fun b _ hb=>?_⟩,fun j hj ht=>?_,ZT tail _ _ _ c2 (ZU tail _ _ (fun t ht=>by simpa using zAg.1 b4 t ht) (hk N2 ρ2 _ w2 (G6 (S:=⟨S1.fr,h' C.l++T⟩) ⟨VD,O5⟩ o.dst KE) ⟨⟨G2,R2,j2,y2⟩,QO⟩ ((CS v).trans Ax)))⟩
      ·simp [P8,ho,P6,Mj,Qm] at hp
      ·rcases hb with hb | ⟨k,ob,q,q1,q2,q3⟩ | hb
       ·exact .inl hb
       ·rw [zC4] at q2;split at q2
        ·rename_i Ct;have UG:S1.h[k]? =some (some ob):=by rw [hS,zAk Ct];exact q1
         have hx:=zAg.1 b7 k (zAn.2 Ct);rw [←eh,u8,UG] at hx;simp only [zA9] at hx;rcases hx with hx | hx
         ·exact .inr (.inl ⟨k,q,by simpa using hx,q2,q3⟩)
         ·obtain ⟨q',Mh,Cr⟩:=R1.hr.obj k _ UG;have eq:q'=q:=zAe (Mh.symm.trans q2);subst eq;cases ob <;> simp at hx;rw [Cr.1] at q3;exact q3.elim
        ·cases q2
       ·exact .inr (.inr hb)
      ·have:=zAg.1 c3 j (zAn.2 hj);have ht:tail.contains j=false:=ht;rw [ht] at this;simpa using this
    ·cases hr
   ·cases hr
  ·cases hr
 ·cases hr
end
end
def Dj:Value:=.iface 30 (.int .i64 280)
theorem zDv (w:World):CallsIn Fence.wide 0 Tryz.prog 57 #[.bool true] w fun e w'=>e= .returned (.tuple #[])/\ w'=w:=by
 refine callsIn_of_wp Tryz.func57 rfl trivial ?_ rfl;simp only [Tryz.ntmps57,zGl,zCU,zC5,Nat.reduceAdd,Nat.reduceSub,zHq,zHr,List.push_toArray,zHt,zDE,zHD]
 gi_wp2
 go_end0
 exact ⟨rfl,rfl⟩
theorem zDw (w:World):CallsIn Fence.wide 0 Tryz.prog 57 #[.bool false] w fun e w'=>e= .panicked (pan Dj)/\ w'=w:=by
 refine callsIn_of_wp Tryz.func57 rfl trivial ?_ rfl;simp only [Tryz.ntmps57,zGl,zCU,zC5,Nat.reduceAdd,Nat.reduceSub,zHq,zHr,List.push_toArray,zHt,zDE,zHD]
 gi_wp2
 exact ⟨rfl,rfl,rfl⟩
theorem oh (b:Bool):YC Tryz.prog GG Dj 57 (fun _=>[.bool b]) (fun _=>[]) [] (bif b then some (.tup 0 (fun j=>([]:List DV).getD j .any)) else none) (fun _=>[]):=by
 refine ⟨fun args W=>M5 Tryz.func57 (by kernel_rfl) (by kernel_rfl) args W,fun C _ i _ N ρ args w G R HR fa hj y=>?_⟩
 have ha:args= #[.bool b]:=by
  obtain ⟨h1,h2⟩:=fa;have h:=h2 0 Nat.one_pos;have hs:args.size=1:=h1.symm;apply Array.ext
  ·simp [hs]
  ·intro j g1 g2;have:j=0:=by omega
   subst this;have h:args.getD 0 undef= .bool b:=h;rw [zAq,zCF (by omega)] at h;exact h
 subst ha;cases b with
 | true=>
  refine (zDv w).mono ?_;rintro e w' ⟨rfl,rfl⟩;exact ⟨N,ρ,G,R,HR,hj,y,CI.refl _ _,.tuple #[],rfl,#[],rfl,rfl,fun j hj=>absurd hj (zAv j)⟩
 | false=>
  refine (zDw w).mono ?_;rintro e w' ⟨rfl,rfl⟩;exact ⟨N,ρ,G,R,HR,hj,y,CI.refl _ _,rfl⟩
theorem AK.pl {M M':Nat -> Prop}{w:World}(hM: ∀ b,M' b -> M b){ρ ρ':List AH}(hρ: ∀ (k:Nat) (p:AH),ρ[k]? =some p -> ∃ ft,ρ'[k]? =some { p with foot:=ft }): ∀ (d:DV) {v:Value},AK M w d ρ v -> AK M' w d ρ' v:=by
 have low: ∀ (d:DV) {v:Value},AK M w d [] v -> AK M' w d [] v:=fun d v h=>h.out d ⟨fun _ _ _ _=>rfl,fun b hb=>.inl (hM b hb),fun k p hk=>by simp at hk⟩
 intro d
 induction d with
 | any=>intro v _;trivial
 | nils=>intro v h;exact h
 | int k n=>intro v h;exact h
 | bool b=>intro v h;exact h
 | str s=>intro v h;exact h
 | ints l=>intro v h;exact low (.ints l) h
 | bools l=>intro v h;exact low (.bools l) h
 | sl m n f _=>intro v h;exact low (.sl m n f) h
 | fp m f _=>intro v h;exact low (.fp m f) h
 | agg m f ih=>rintro v ⟨cs,e,hs,h⟩;exact ⟨cs,e,hs,fun j hj=>let ⟨u,h1,h2⟩:=h j hj;⟨u,h1,ih j h2⟩⟩
 | tup m f ih=>rintro v ⟨cs,e,hs,h⟩;exact ⟨cs,e,hs,fun j hj=>let ⟨u,h1,h2⟩:=h j hj;⟨u,h1,ih j h2⟩⟩
 | fn g m c ih=>rintro v ⟨cs,e,hs,h⟩;exact ⟨cs,e,hs,fun j hj=>let ⟨u,h1,h2⟩:=h j hj;⟨u,h1,ih j h2⟩⟩
 | ref k j=>rintro v ⟨p,hp,e⟩;obtain ⟨ft,h⟩:=hρ k p hp;exact ⟨_,h,e⟩
 | msl k m off n=>rintro v ⟨p,cap,hp,r⟩;obtain ⟨ft,h⟩:=hρ k p hp;exact ⟨_,cap,h,r⟩
 | mp k m i j=>rintro v ⟨p,hp,e⟩;obtain ⟨ft,h⟩:=hρ k p hp;exact ⟨_,h,e⟩
 | it k=>rintro v ⟨p,hp,e⟩;obtain ⟨ft,h⟩:=hρ k p hp;exact ⟨_,h,e⟩
 | yl l=>intro v h;exact h
 | cst u=>intro v h;exact h
 | mri k i=>rintro v ⟨p,vs,hp,r⟩;obtain ⟨ft,h⟩:=hρ k p hp;exact ⟨_,vs,h,r⟩
 | mse k m off n=>rintro v ⟨p,a,cap,hp,r⟩;obtain ⟨ft,h⟩:=hρ k p hp;exact ⟨_,a,cap,h,r⟩
theorem A0.ro {L k:Nat}{S:St}{l:List DV}(hk:S.h[k]? =some (some (.cells l)))(hL:L<=k):A0 L S ⟨S.fr,S.h.set k (some (.ro l))⟩:=fun P Γ N ρ a w R=>by
 obtain ⟨p,hp,hr⟩:=R.hr.obj k _ hk;have hr:AY w p l.length _:=hr;obtain ⟨nU,LH⟩:=hr;have CX:k<ρ.length:=(zAf.1 hp).1;have hkh:k<S.h.length:=(zAf.1 hk).1
 let p':AH:={ p with foot:=fun _=>False }
 have LG: ∀ (i:Nat) (q:AH),(ρ.set k p')[i]? =some q -> (i=k/\ q=p')∨(i≠k/\ ρ[i]? =some q):=fun i q h=>by
  rw [zCE] at h;split at h
  ·rename_i e;exact .inl ⟨e.symm,(zAe h).symm⟩
  ·rename_i e;exact .inr ⟨fun h=>e h.symm,h⟩
 have Gp: ∀ (i:Nat) (q:AH),i≠k -> ρ[i]? =some q -> (ρ.set k p')[i]? =some q:=fun i q hi h=>by rw [zCE,zAh (fun e=>hi e.symm)];exact h
 have AI:(ρ.set k p')[k]? =some p':=by rw [zCE,zAM rfl,zAM CX]
 have FD: ∀ (i:Nat) (q:AH),ρ[i]? =some q -> ∃ ft,(ρ.set k p')[i]? =some { q with foot:=ft }:=fun i q h=>by
  by_cases e:i=k
  ·subst e;rw [hp] at h;cases h;exact ⟨_,AI⟩
  ·exact ⟨q.foot,Gp i q e h⟩
 have DL: ∀ (i:Nat) (o:DO),(S.h.set k (some (.ro l)))[i]? =some (some o) -> (i=k/\ o= .ro l)∨(i≠k/\ S.h[i]? =some (some o)):=fun i o h=>by
  rw [zCE] at h;split at h
  ·rename_i e;exact .inl ⟨e.symm,(zAe (zAe h)).symm⟩
  ·rename_i e;exact .inr ⟨fun h=>e h.symm,h⟩
 have KG: ∀ b,MO (S.h.set k (some (.ro l))) (ρ.set k p') b -> MO S.h ρ b/\ b≠p.blk:=by
  rintro b ⟨i,o,q,h1,h2,h3⟩;rcases LG i q h2 with ⟨rfl,rfl⟩ | ⟨hi,h2⟩
  ·exact h3.elim
  ·rcases DL i o h1 with ⟨rfl,_⟩ | ⟨_,h1⟩
   ·exact absurd rfl hi
   ·exact ⟨⟨i,o,q,h1,h2,h3⟩,fun e=>R.hr.dis i k o _ q p b hi h1 hk h2 hp h3 (by rw [nU];exact e)⟩
 have hM: ∀ b,MS N (S.h.set k (some (.ro l))) (ρ.set k p') b -> MS N S.h ρ b:=fun b hb=>hb.imp id fun h=>(KG b h).1
 have zCr:=R.hr.cel k _ p p.blk hk hp (by rw [nU]);have rep: ∀ (d:DV) {v:Value},AK (MS N S.h ρ) w d ρ v -> AK (MS N (S.h.set k (some (.ro l))) (ρ.set k p')) w d (ρ.set k p') v:=fun d v h=>h.pl hM FD
 refine ⟨ρ.set k p',⟨⟨by simp [R.hr.len],fun i o hi=>?_,fun i o q b g1 g2 g3=>?_,fun i i' o o' q q' b Ad g1 g2 g3 g4 g5 g6=>?_,R.hr.nlt,R.hr.gi⟩,⟨R.fr.1,fun j hj=>rep _ (R.fr.2 j hj)⟩⟩,⟨AO.refl _ _,fun b hb=>.inl (KG b hb).1⟩,fun i q hi hq=>Gp i q (by omega) hq⟩
 ·rcases DL i o hi with ⟨rfl,rfl⟩ | ⟨Ad,hi⟩
  ·refine ⟨p',AI,rfl,fun hx=>hx.elim zCr.2.1 fun hx=>(KG _ hx).2 rfl,?_⟩;exact AY.out (R':=fun j u=>AK (MS N (S.h.set i (some (.ro l))) (ρ.set i p')) w (l.getD j .any) (ρ.set i p') u) (show AY w { p' with foot:=fun b=>b=p'.blk } l.length _ from ⟨rfl,LH⟩) rfl fun j u _ hu=>rep _ hu
  ·obtain ⟨q,hq,ho⟩:=R.hr.obj i o hi;refine ⟨q,Gp i q Ad hq,?_⟩;cases o with
   | cells l'=>exact AY.out ho rfl fun j u _ hu=>rep _ hu
   | ints l'=>exact AY.out ho rfl fun j u _ hu=>hu
   | bools l'=>exact AY.out ho rfl fun j u _ hu=>hu
   | arr m n f=>exact AY.out ho rfl fun j u _ hu=>AK.out _ ⟨fun _ _ _ _=>rfl,fun b hb=>.inl (hM b hb),fun _ _ h=>by simp at h⟩ hu
   | iter encs=>
    obtain ⟨gf,lb,Rd,q1,q2,q3,q4⟩:=ho;exact ⟨gf,lb,Rd,q1,q2,fun b hb=>⟨fun hm=>(q3 b hb).1 (hM b hm),(q3 b hb).2⟩,q4⟩
   | ro l'=>
    obtain ⟨r1,r2,r3⟩:=ho;exact ⟨r1,fun hm=>r2 (hM _ hm),AY.out r3 rfl fun j u _ hu=>rep _ hu⟩
   | mo x=>exact ho
 ·rcases LG i q g2 with ⟨rfl,rfl⟩ | ⟨hi,g2⟩
  ·exact g3.elim
  ·rcases DL i o g1 with ⟨rfl,_⟩ | ⟨_,g1⟩
   ·exact absurd rfl hi
   ·exact R.hr.cel i o q b g1 g2 g3
 ·rcases LG i q g3 with ⟨rfl,rfl⟩ | ⟨hi,g3⟩
  ·exact g5.elim
  ·rcases LG i' q' g4 with ⟨rfl,rfl⟩ | ⟨BT,g4⟩
   ·exact g6.elim
   ·rcases DL i o g1 with ⟨rfl,_⟩ | ⟨_,g1⟩
    ·exact absurd rfl hi
    ·rcases DL i' o' g2 with ⟨rfl,_⟩ | ⟨_,g2⟩
     ·exact absurd rfl BT
     ·exact R.hr.dis i i' o o' q q' b Ad g1 g2 g3 g4 g5 g6
abbrev YR (X R O:Type):=List X×Option R×O
def yb {X R R' O:Type}(A:Option (YR X R' O))(f:R' -> O -> Option (YR X R O)):Option (YR X R O):=A.bind fun a=>match a.2.1 with
 | none=>some (a.1,none,a.2.2)
 | some v=>(f v a.2.2).map fun b=>(a.1++b.1,b.2)
def yx {X R O:Type}(x:X)(A:Option (YR X R O)):Option (YR X R O):=A.map fun b=>(x::b.1,b.2)
theorem fV {X R R' O:Type}{A:Option (YR X R' O)}{f:R' -> O -> Option (YR X R O)}{r:YR X R O}(h:yb A f=some r): ∃ a,A=some a/\ ((a.2.1=none/\ r=(a.1,none,a.2.2))∨∃ v b,a.2.1=some v/\ f v a.2.2=some b/\ r=(a.1++b.1,b.2)):=by
 obtain ⟨a,ha,h⟩:=Fm h;refine ⟨a,ha,?_⟩;split at h
 ·rename_i e;cases h;exact .inl ⟨e,rfl⟩
 ·rename_i v e;obtain ⟨b,hb,rfl⟩:=K5 h;exact .inr ⟨v,b,e,hb,rfl⟩
def DR {X R O:Type}(C:Ba Tryz.prog)(enc:X -> List DV)(i:Nat)(r:YR X R O):Prop:=∃ rest,C.encs.drop i=r.1.map enc++rest
theorem pI {α:Type}{l a b:List α}{i:Nat}(h:l.drop i=a++b):l.drop (i+a.length)=b:=by
 rw [←List.drop_drop,h,List.drop_left'];rfl
theorem DR.split {X R R' O:Type}{C:Ba Tryz.prog}{enc:X -> List DV}{i:Nat}{y:List X}{b:YR X R O}(h:DR C enc i ((y++b.1,b.2):YR X R O)):(∃ rest,C.encs.drop i=y.map enc++rest)/\ DR C enc (i+(y.map enc).length) b:=by
 obtain ⟨rest,h⟩:=h;have h:C.encs.drop i=y.map enc++(b.1.map enc++rest):=by rw [h,List.map_append,zGo]
 exact ⟨⟨_,h⟩,rest,pI h⟩
theorem DR.cons {X R O:Type}{C:Ba Tryz.prog}{enc:X -> List DV}{i:Nat}{x:X}{b:YR X R O}(h:DR C enc i ((x::b.1,b.2):YR X R O)):C.encs[i]? =some (enc x)/\ DR C enc (i+1) b:=by
 obtain ⟨rest,h⟩:=h;have h:C.encs.drop i=enc x::(b.1.map enc++rest):=h;refine ⟨?_,rest,?_⟩
 ·have:=congrArg (·[0]?) h;simpa using this
 ·have:=pI (a:=[enc x]) h;simpa using this
theorem YN {h1 h:DH}(hS:h1.take h.length=h):h1=h++h1.drop h.length:=by
 conv=>lhs;rw [←zHh h.length h1,hS]
section
variable {X R R' O:Type}
abbrev YF (C:Ba Tryz.prog)(pv:Value)(fn:Func)(L:Nat)(ρ0:List AH)(tD:R -> DV)(H':O -> DH)(i:Nat)(r:YR X R O):QY Tryz.prog GG L:=YQ C GG pv fn L (i+r.1.length) ρ0 (r.2.1.map tD) (H' r.2.2)
variable {C:Ba Tryz.prog} {pv:Value} {fn:Func} {L:Nat} {ρ0:List AH} {tD:R -> DV} {H':O -> DH} {i:Nat} {r:YR X R O} {enc:X -> List DV} {k K:List KI} {S:St} {ops:Array Oper}
 {c:List (DV×DH×Bool)} {o:List (Nat×DV)} {z:List (Nat×Fz)} {v:List Prop} {fr:List DV} {h h1:DH} {l l1 l2:List Nat} {p:Nat} {dst:Option Tmp}
abbrev TO (C:Ba Tryz.prog)(pv:Value)(fn:Func)(L:Nat)(ρ0:List AH)(tD:R -> DV)(H':O -> DH)(ops:Array Oper)(l:List Nat)(k:List KI)(i:Nat)(r:YR X R O)(S:St):Prop:= Dk Tryz.prog GG (C.K GG L i ρ0) ops l S (Dl Tryz.prog GG Fence.wide none L (YF C pv fn L ρ0 tD H' i r) k)
abbrev TY (C:Ba Tryz.prog)(pv:Value)(fn:Func)(L:Nat)(ρ0:List AH)(tD:R -> DV)(H':O -> DH)(k:List KI)(i:Nat)(r:YR X R O)(S:St):Prop:= Ap Tryz.prog GG Fence.wide none L (C.K GG L i ρ0) (YF C pv fn L ρ0 tD H' i r) k S
theorem MM {Y:BQ Tryz.prog GG L}{Q:QY Tryz.prog GG L}{e:List PanicEntry}(h:Q (.panic e) S Y): ∀ (k:List KI),Dl Tryz.prog GG Fence.wide none L Q k (.panic e) S Y
 | []=>h
 | .blk _::k=>MM h k
 | .code _::k=>MM h k
 | .lend _::k=>MM h k
 | .scp::k=>MM h k
 | .loopN _ _::k=>MM h k
def WS (L:Nat)(h:DH):DH:=(List.range L).map fun k=>Ss (List.range L) (h.getD k none)
theorem YF.pan {y:List X}{o:O}{fr:List DV}{h:DH}(hL:Nat.ble L h.length=true)(hp:WS L h=H' o){j:Nat}(hj:j=i+y.length):YF C pv fn L ρ0 tD H' i ((y,none,o):YR X R O) (.panic (pan pv)) ⟨fr,h⟩ (C.K GG L j ρ0):=by
 subst hj;exact ⟨rfl,rfl,_,A0.compact (List.range L) ⟨fr,h⟩ List.nodup_range (fun k hk=>zAj (zAn.1 hk) (zCT hL)) (fun k hk=>by simp [hk]),hp⟩
theorem YF.app {y:List X}{b:YR X R O}{j:Nat}(hj:j=i+y.length):YF C pv fn L ρ0 tD H' i ((y++b.1,b.2):YR X R O)=YF C pv fn L ρ0 tD H' j b:=by
 subst hj
 show YQ _ _ _ _ _ (i+(y++b.1).length) _ _ _=YQ _ _ _ _ _ (i+y.length+b.1.length) _ _ _
 rw [zA7,zCg]
theorem yO (hK:Kv K=some (ops,DW K):=by kernel_rfl)(hk:TO C pv fn L ρ0 tD H' ops (List.range ops.size) (DW K) i r S):TY C pv fn L ρ0 tD H' K i r S:=by
 unfold Kv at hK;split at hK
 ·rename_i id OD k;have e1:OD=ops:=congrArg Prod.fst (zAe hK);subst e1;exact Tr.ofO hk
 ·cases hK
def WF:List KI -> Option (Array Oper×List KI)
 | .code (.region _ ops true)::k=>some (ops,k)
 | _=>none
def Wd (live:List Nat)(r:St×List Prop×BE):List DV×DH×List Prop:=(forget live r.1.fr,r.1.h,r.2.1)
theorem kr {live:List Nat}{x:Option (St×List Prop×BE)}(h:x.map (Wd live)=some (fr,h1,v)): ∃ f AZ,x=some (⟨f,h1⟩,v,AZ)/\ fr=forget live f:=by
 cases x with
 | none=>cases h
 | some q=>
  obtain ⟨⟨f,g⟩,w,AZ⟩:=q;simp only [zCO,Wd,zCR,zCp] at h;obtain ⟨rfl,rfl,rfl⟩:=h;exact ⟨f,AZ,rfl,rfl⟩
theorem Dk.weaken {Y:BQ Tryz.prog GG L}{Q:QY Tryz.prog GG L}{S':St}(hS:A0 L S S')(hk:Dk Tryz.prog GG Y ops l S' Q):Dk Tryz.prog GG Y ops l S Q:=fun N ρ a w R y m=>by
 obtain ⟨ρ1,R1,s1,k1⟩:=hS Tryz.prog GG N ρ a w R;exact hk N ρ1 a w R1 (Y.st y R.hr R1.hr s1 k1) m
theorem Vq {live:List Nat}{f:List DV}{d:DV}(e0:fr=forget live f):A0 L ⟨Ck f dst d,h⟩ ⟨Ck fr dst d,h⟩:=by
 subst e0;cases dst with
 | none=>exact A0.forget live f h
 | some t=>
  refine A0.fr (by simp [Ck,UU]) fun j hj=>?_
  have hj:j<f.length:=by simpa [Ck] using hj
  show AS ((f.set t d).getD j .any) (((forget live f).set t d).getD j .any)
  by_cases e:t=j
  ·subst e;have e1:(f.set t d).getD t .any=d:=by simp [hj]
   have e2:((forget live f).set t d).getD t .any=d:=by simp [UU,hj]
   rw [e1,e2];exact AS.refl _
  ·have e1:(f.set t d).getD j .any=f.getD j .any:=by simp only [u8,zCE,zAh e]
   have e2:((forget live f).set t d).getD j .any=(forget live f).getD j .any:=by simp only [u8,zCE,zAh e]
   rw [e1,e2,da live f hj];split
   ·exact AS.refl _
   ·exact AS.any _
def Xm:List KI -> Bool
 | .code _::_=>true
 | .blk _::k=>Xm k
 | .scp::k=>Xm k
 | .loopN _ _::_=>true
 | _=>false
theorem Ap.leH {F:Fence}{B:Option Nat}{Y:BQ Tryz.prog GG L}{Q:QY Tryz.prog GG L}{S':St}(hS:A0 L S S'): ∀ {k:List KI},Xm k=true -> Ap Tryz.prog GG F B L Y Q k S' -> Ap Tryz.prog GG F B L Y Q k S
 | .code _::_,_,h=>Tr.weaken hS h
 | .blk _::k,e,h=>Ap.leH (k:=k) hS e h
 | .scp::k,e,h=>Ap.leH (k:=k) hS e h
 | .loopN 0 _::_,_,h=>h.elim
 | .loopN (_+1) _::_,_,h=>Tr.weaken hS h
 | .lend _::_,e,_=>by cases e
 | [],e,_=>by cases e
theorem yD (Cf:List (List Nat×Nat))(BI tail:List Nat)(hl:HS c o z v)(fr:List DV)(h1:DH)(hk:TO C pv fn L ρ0 tD H' ops tail (DW K) i r ⟨fr,h1⟩) 
 (hK:WF K=some (ops,DW K):=by kernel_rfl) (hB:As ops Cf BI tail:=by unfold As;kernel_rfl) (h:(Mf Tryz.prog GG ops S.h Cf BI S ⟨c,o,z,[]⟩).map (Wd (FB 0 fr))=some (fr,h1,v):=by kernel_rfl):TY C pv fn L ρ0 tD H' K i r S:=by
 unfold WF at hK;split at hK
 ·rename_i id OD k;have e1:OD=ops:=congrArg Prod.fst (zAe hK);subst e1;obtain ⟨f,AZ,h,e⟩:=kr h;refine Tr.ordO (HC.x (F:=Fence.wide)).f (HC.x (F:=Fence.wide)).m hB h hl.all (Dk.weaken (S':=⟨fr,h1⟩) ?_ hk);rw [e];exact A0.forget _ _ _
 ·cases hK
theorem y0 (hk:TY C pv fn L ρ0 tD H' k i r S):TO C pv fn L ρ0 tD H' ops [] k i r S:=fun N ρ _ _ R y m=>⟨S,ρ,N,_,hk,R,y,m,Bd.none⟩
theorem yE (hl:HS c o z v)(fr:List DV)(h1:DH)(hk:TY C pv fn L ρ0 tD H' k i r ⟨fr,h1⟩)(h:(Di Tryz.prog GG ops (CP ops l) S ⟨c,o,z,[]⟩).map (Wd (FB 0 fr))=some (fr,h1,v):=by kernel_rfl)(Ar:Cc ops=true:=by kernel_rfl)(hc:Xm k=true:=by kernel_rfl):TO C pv fn L ρ0 tD H' ops l k i r S:=by
 obtain ⟨f,AZ,h,e⟩:=kr h;refine Dk.done (HC.x (F:=Fence.wide)).f Ar h hl.all (Ap.leH (S':=⟨fr,h1⟩) ?_ hc hk);rw [e];exact A0.forget _ _ _
def OC (live:List Nat)(r:FuncId×List DV×Option Tmp×St×List Prop×BE):FuncId×List DV×Option Tmp×List DV×DH×List Prop:=(r.1,r.2.1,r.2.2.1,forget live r.2.2.2.1.fr,r.2.2.2.1.h,r.2.2.2.2.1)
theorem ac {live:List Nat}{x:Option (FuncId×List DV×Option Tmp×St×List Prop×BE)}{g:FuncId}{ds:List DV}(h:x.map (OC live)=some (g,ds,dst,fr,h1,v)): ∃ f AZ,x=some (g,ds,dst,⟨f,h1⟩,v,AZ)/\ fr=forget live f:=by
 cases x with
 | none=>cases h
 | some q=>
  obtain ⟨g,ds,dst,⟨f,g'⟩,w,AZ⟩:=q;simp only [zCO,OC,zCR,zCp] at h;obtain ⟨rfl,rfl,rfl,rfl,rfl,rfl⟩:=h;exact ⟨f,AZ,rfl,rfl⟩
theorem yT (hn:C.nv)(l1 l2:List Nat)(p:Nat)(hl:HS c o z v)(fr:List DV)(h1:DH)(dst:Option Tmp)(hk:TO C Dj fn L ρ0 tD H' ops l2 k i r ⟨Ck fr dst NW,h1⟩)(hr:DR C enc i r) 
 (e:l=l1++p::l2:=by kernel_rfl) (h:(KW Tryz.prog GG ops l1 p S ⟨c,o,z,[]⟩).map (OC (FB 0 fr))=some (57,[.bool true],dst,fr,h1,v):=by kernel_rfl) (Ar:Cc ops=true:=by kernel_rfl):TO C Dj fn L ρ0 tD H' ops l k i r S:=by
 subst e;obtain ⟨f,AZ,h,e0⟩:=ac h;exact Dk.call (T:=h1) (ds:=fun _=>[.bool true]) (h:=fun _=>[]) (h':=fun _=>[]) (ys:=[]) (HC.x (F:=Fence.wide)).f Ar hn h hl.all (oh true) rfl rfl rfl rfl ⟨_,rfl⟩ (Dk.weaken (Vq e0) hk)
theorem yP {o':O}(hn:C.nv)(l1 l2:List Nat)(p:Nat)(hl:HS c o z v)(fr:List DV)(h1:DH)(dst:Option Tmp)(hp:WS L h1=H' o':=by kernel_rfl)(hL:Nat.ble L h1.length=true:=by kernel_rfl) 
 (e:l=l1++p::l2:=by kernel_rfl) (h:(KW Tryz.prog GG ops l1 p S ⟨c,o,z,[]⟩).map (OC (FB 0 fr))=some (57,[.bool false],dst,fr,h1,v):=by kernel_rfl) (Ar:Cc ops=true:=by kernel_rfl):TO C Dj fn L ρ0 tD H' ops l k i (([],none,o'):YR X R O) S:=by
 subst e;obtain ⟨f,AZ,h,_⟩:=ac h;exact Dk.call (T:=h1) (ds:=fun _=>[.bool false]) (h:=fun _=>[]) (h':=fun _=>[]) (ys:=[]) (HC.x (F:=Fence.wide)).f Ar hn h hl.all (oh false) rfl rfl rfl rfl ⟨_,rfl⟩ (MM (YF.pan hL hp rfl) k)
theorem yC {g:FuncId}{ds:Nat -> List DV}{h:Nat -> DH}{h':Nat -> O -> DH}{tD':R' -> DV}{A:Option (YR X R' O)}{f:R' -> O -> Option (YR X R O)}(hn:C.nv)(l1 l2:List Nat)(p:Nat)(hl:HS c o z v)(fr:List DV)(h1:DH)(dst:Option Tmp) 
 (hA:yb A f=some r) (hr:DR C enc i r) (H: ∀ a,A=some a -> YC Tryz.prog GG pv g ds h (a.1.map enc) (a.2.1.map tD') (fun l=>h' l a.2.2))
 (hk: ∀ v' o' b i',f v' o'=some b -> DR C enc i' b -> TO C pv fn L ρ0 tD H' ops l2 k i' b ⟨Ck fr dst (tD' v'),h' C.l o'++h1.drop (h C.l).length⟩)
 (e:l=l1++p::l2:=by kernel_rfl) (hc:(KW Tryz.prog GG ops l1 p S ⟨c,o,z,[]⟩).map (OC (FB 0 fr))=some (g,ds C.l,dst,fr,h1,v):=by kernel_rfl) (hS:h1.take (h C.l).length=h C.l:=by kernel_rfl) (Ak: ∀ o',(h' C.l o').length=(h C.l).length:=by intro;kernel_rfl)
 (Az:(h C.l).all (ND (h C.l).length)=true:=by kernel_rfl) (EL:(ds C.l).all (DI (h C.l).length)=true:=by kernel_rfl) (hp: ∀ o',WS L (h' C.l o'++h1.drop (h C.l).length)=H' o':=by intro;kernel_rfl) (hL: ∀ o',Nat.ble L (h' C.l o'++h1.drop (h C.l).length).length=true:=by intro;kernel_rfl) (Ar:Cc ops=true:=by kernel_rfl):TO C pv fn L ρ0 tD H' ops l k i r S:=by
 subst e;obtain ⟨f1,AZ,hc,e0⟩:=ac hc;obtain ⟨a,ha,h⟩:=fV hA;have H:=H a ha;rcases h with ⟨e1,rfl⟩ | ⟨v',b,e1,hb,rfl⟩
 ·rw [e1] at H;exact Dk.call (T:=h1.drop (h C.l).length) (HC.x (F:=Fence.wide)).f Ar hn hc hl.all H (YN hS) (Ak _) Az EL hr (MM (YF.pan (hL _) (hp _) (by rw [zBC])) k)
 ·rw [e1] at H;obtain ⟨d1,d2⟩:=DR.split (R':=R') hr;refine Dk.call (T:=h1.drop (h C.l).length) (HC.x (F:=Fence.wide)).f Ar hn hc hl.all H (YN hS) (Ak _) Az EL d1 ?_;rw [YF.app (j:=i+(a.1.map enc).length) (by rw [zBC])];exact Dk.weaken (Vq e0) (hk _ _ _ _ hb d2)
def ae (live:List Nat)(r:List DV×Nat×Option Tmp×St×List Prop×BE):List DV×Nat×Option Tmp×List DV×DH×List Prop:=(r.1,r.2.1,r.2.2.1,forget live r.2.2.2.1.fr,r.2.2.2.1.h,r.2.2.2.2.1)
theorem xP {live:List Nat}{x:Option (List DV×Nat×Option Tmp×St×List Prop×BE)}{g:List DV}{ds:Nat}(h:x.map (ae live)=some (g,ds,dst,fr,h1,v)): ∃ f AZ,x=some (g,ds,dst,⟨f,h1⟩,v,AZ)/\ fr=forget live f:=by
 cases x with
 | none=>cases h
 | some q=>
  obtain ⟨g,ds,dst,⟨f,g'⟩,w,AZ⟩:=q;simp only [zCO,ae,zCR,zCp] at h;obtain ⟨rfl,rfl,rfl,rfl,rfl,rfl⟩:=h;exact ⟨f,AZ,rfl,rfl⟩
theorem yY {x:X}{A:Option (YR X R O)}(hn:C.nv)(l1 l2:List Nat)(p:Nat)(hl:HS c o z v)(fr:List DV)(h1:DH)(dst:Option Tmp)(hA:yx x A=some r)(hr:DR C enc i r) 
 (hk: ∀ b i',A=some b -> DR C enc i' b -> TO C pv fn L ρ0 tD H' ops l2 k i' b ⟨Ck fr dst (.bool true),h1⟩)
 (e:l=l1++p::l2:=by kernel_rfl) (h:(Y8 Tryz.prog GG ops l1 p S ⟨c,o,z,[]⟩).map (ae (FB 0 fr))=some (enc x,C.l,dst,fr,h1,v):=by kernel_rfl) (Ar:Cc ops=true:=by kernel_rfl):TO C pv fn L ρ0 tD H' ops l k i r S:=by
 subst e;obtain ⟨b,hb,rfl⟩:=K5 hA;obtain ⟨d1,d2⟩:=DR.cons hr;obtain ⟨f1,AZ,hy,e0⟩:=xP h;refine Dk.yield (HC.x (F:=Fence.wide)).f Ar hn hy hl.all d1 ?_;have e:YF C pv fn L ρ0 tD H' i ((x::b.1,b.2):YR X R O)=YF C pv fn L ρ0 tD H' (i+1) b:=YF.app (y:=[x]) rfl;rw [e];exact Dk.weaken (Vq e0) (hk _ _ hb d2)
theorem zEZ {S1:St}{vs:List Prop}{AZ Es:BE}{g:FuncId}{ds:List DV}(h:KW Tryz.prog GG ops [] p S AZ=some (g,ds,dst,S1,vs,Es)):S1=S:=by
 unfold KW at h;simp only [CP,Di] at h;split at h
 ·cases h
 ·split at h
  ·split at h
   ·split at h
    ·split at h
     ·cases h;rfl
     ·cases h
    ·cases h
   ·cases h
  ·cases h
theorem yR {g:FuncId}{ds:Nat -> List DV}{hc:Nat -> DH}{h':Nat -> O -> DH}{tD':R' -> DV}{A:Option (YR X R' O)}{f:R' -> O -> Option (YR X R O)}(hn:C.nv)(Bl tail xs:List Nat)(p:Nat)(hl:HS [] o [] v)(fr:List DV)(h1:DH)(dst:Option Tmp) 
 (hA:yb A f=some r) (hr:DR C enc i r) (H: ∀ a,A=some a -> YC Tryz.prog GG pv g ds hc (a.1.map enc) (a.2.1.map tD') (fun l=>h' l a.2.2))
 (hk: ∀ v' o' b i',f v' o'=some b -> DR C enc i' b -> TO C pv fn L ρ0 tD H' ops tail (DW K) i' b ⟨Ck fr dst (tD' v'),h' C.l o'++h1.drop (hc C.l).length⟩)
 (hK:WF K=some (ops,DW K):=by kernel_rfl) (hB:(Cc ops&&Region.noSelect ops&&(Bl.length+1+tail.length==ops.size)&&(tail.all fun t=>decide (t<ops.size))&&PB ops p tail Bl (Array.replicate ops.size false)&&fK xs S.h&&nM xs (hc C.l).length S.h)=true:=by kernel_rfl)
 (hs:(Sc Tryz.prog ops xs Bl S o).bind (fun q=>(KW Tryz.prog GG ops [] p q.1 ⟨[],[],[],[]⟩).map fun x=>(OC (FB 0 fr) x,q.2.1,x.2.2.2.2.1))=some ((g,ds C.l,dst,fr,h1,[]),v,[]):=by kernel_rfl) (hS:h1.take (hc C.l).length=hc C.l:=by kernel_rfl) (UG:h1=S.h:=by kernel_rfl) (Ak: ∀ o',(h' C.l o').length=(hc C.l).length:=by intro;kernel_rfl)
 (Az:(hc C.l).all (ND (hc C.l).length)=true:=by kernel_rfl) (EL:(ds C.l).all (DI (hc C.l).length)=true:=by kernel_rfl) (hp: ∀ o',WS L (h' C.l o'++h1.drop (hc C.l).length)=H' o':=by intro;kernel_rfl) (hL: ∀ o',Nat.ble L (h' C.l o'++h1.drop (hc C.l).length).length=true:=by intro;kernel_rfl):TY C pv fn L ρ0 tD H' K i r S:=by
 unfold WF at hK;split at hK
 ·rename_i id OD k;have e1:OD=ops:=congrArg Prod.fst (zAe hK);subst e1;obtain ⟨q,hq,KF⟩:=Fm hs;obtain ⟨⟨q1,q2⟩,q3,q4⟩:=q;obtain ⟨x,hx,e2⟩:=K5 KF;obtain ⟨g',pH,dst',⟨f2,h2⟩,v2,AZ⟩:=x;simp only [OC,zCp] at e2;obtain ⟨⟨rfl,e3,rfl,e0,rfl,rfl⟩,rfl,_⟩:=e2;have hs:=hq;have KF:=hx;rw [←e3] at KF;obtain ⟨rfl,rfl⟩:=St.mk.inj (zEZ KF);obtain ⟨a,ha,h⟩:=fV hA;have H:=H a ha;rcases h with ⟨e1,rfl⟩ | ⟨v',b,e1,hb,rfl⟩
  ·rw [e1] at H;exact Tr.drawC (T:=h1.drop (hc C.l).length) (HC.x (F:=Fence.wide)).f (HC.x (F:=Fence.wide)).m hB hn hs hl.all KF H (UG▸YN hS) (Ak _) Az EL hr (MM (YF.pan (hL _) (hp _) (by rw [zBC])) k)
  ·rw [e1] at H;obtain ⟨d1,d2⟩:=DR.split (R':=R') hr;refine Tr.drawC (T:=h1.drop (hc C.l).length) (HC.x (F:=Fence.wide)).f (HC.x (F:=Fence.wide)).m hB hn hs hl.all KF H (UG▸YN hS) (Ak _) Az EL d1 ?_;rw [YF.app (j:=i+(a.1.map enc).length) (by rw [zBC])];exact Dk.weaken (Vq e0) (hk _ _ _ _ hb d2)
 ·cases hK
theorem yF {v':R}{o':O}(h:Bg Tryz.prog GG Fence.wide none L (C.K GG L i ρ0) (DS Tryz.prog fn L (tD v') (H' o')) k S):TY C pv fn L ρ0 tD H' k i (([],some v',o'):YR X R O) S:=h
end
theorem YC.ofY {X R O:Type}{pv:Value}{f L:Nat}{fn:Func}{tD:R -> DV}{r:YR X R O}{enc:X -> List DV}{ds:Nat -> List DV}{h:Nat -> DH}{h':Nat -> O -> DH}(hf:Tryz.prog.funcs[f]? =some fn) 
 (T: ∀ (C:Ba Tryz.prog) (i:Nat) (ρ0:List AH),C.nv -> DR C enc i r -> TY C pv fn L ρ0 tD (fun o=>h' C.l o) [.code (AX fn)] i r ⟨ds C.l++List.replicate (fn.ntmps-(ds C.l).length) .any,h C.l⟩)
 (hb:fn.body.isSome=true:=by kernel_rfl) (hn:(fn.name== "runtime.NumGoroutine")=false:=by kernel_rfl) (hL: ∀ l,(h l).length=L:=by intro;kernel_rfl):YC Tryz.prog GG pv f ds h (r.1.map enc) (r.2.1.map tD) (fun l=>h' l r.2.2):=
 YC.of hf hb hn hL fun C i ρ0 hv hr=>by
  rw [zBC];exact T C i ρ0 hv hr
def V2:List Nat -> DH -> Option DH
 | [],h=>some h
 | k::ks,h=>match h.getD k none with
  | some (.cells l)=>V2 ks (h.set k (some (.ro l)))
  | _=>none
theorem A0.ros {L:Nat}{fr:List DV}: ∀ (ks:List Nat) {h h':DH},V2 ks h=some h' -> (ks.all fun k=>Nat.ble L k)=true -> A0 L ⟨fr,h⟩ ⟨fr,h'⟩
 | [],h,h',e,_=>by cases e;exact A0.refl _ _
 | k::ks,h,h',e,hk=>by
  simp only [zGp,zAW] at hk;simp only [V2] at e;split at e
  ·rename_i l hg;exact (A0.ro (S:=⟨fr,h⟩) (getD_some hg) (zCT hk.1)).trans (A0.ros ks e hk.2)
  ·cases e
theorem fU {L:Nat}{Y:BQ Tryz.prog GG L}{Q:QY Tryz.prog GG L}{K:List KI}{F:Fence}{B:Option Nat}{fr:List DV}{h:DH}(ks:List Nat)(h':DH)(hk:Ap Tryz.prog GG F B L Y Q K ⟨fr,h'⟩)(e:V2 ks h=some h':=by kernel_rfl)(hL:(ks.all fun k=>Nat.ble L k)=true:=by kernel_rfl)(hc:IM K=true:=by kernel_rfl):Ap Tryz.prog GG F B L Y Q K ⟨fr,h⟩:=
 Bg.le (A0.ros ks e hL) hc hk
section
variable {P:Program} {Γ:At} {N:Nat -> Prop} {ρ:List AH} {w:World} {hc T:DH}
def hid (K:Nat)(T:DH):DH:=List.replicate K none++T
theorem T7 {K k:Nat}{o:DO}(h:(hid K T)[k]? =some (some o)):K<=k/\ ∀ l:DH,l.length=K -> (l++T)[k]? =some (some o):=by
 rcases zCV k K with hk | hk
 ·unfold hid at h;rw [zAk (by simp [hk]),zCx,zAM hk] at h;cases h
 ·refine ⟨hk,fun l hl=>?_⟩;unfold hid at h;rw [zAp (by simp [hk]),zAw] at h;rw [zAp (by omega),hl];exact h
theorem MO.hid {b:Nat}(h:MO (hid hc.length T) ρ b):MT hc.length (hc++T) ρ b:=by
 obtain ⟨k,o,p,h1,h2,h3⟩:=h;obtain ⟨hk,LV⟩:=T7 h1;exact ⟨k,o,p,hk,LV hc rfl,h2,h3⟩
theorem MT.mo {h:DH}{K b:Nat}(x:MT K h ρ b):MO h ρ b:=by
 obtain ⟨k,o,p,_,h1,h2,h3⟩:=x;exact ⟨k,o,p,h1,h2,h3⟩
theorem A1.hide (H:A1 P Γ N (hc++T) ρ w):A1 P Γ (fun b=>N b∨MO hc (ρ.take hc.length) b) (hid hc.length T) ρ w:=by
 have sp: ∀ b,MO (hc++T) ρ b↔MO hc (ρ.take hc.length) b∨MT hc.length (hc++T) ρ b:=fun b=>by
  have:=MO.split (h:=hc++T) (ρ:=ρ) hc.length b
  rwa [zHP] at this
  rfl
 have dis: ∀ b,MO hc (ρ.take hc.length) b -> ¬ MT hc.length (hc++T) ρ b:=by
  rintro b ⟨k,o,p,q1,q2,q3⟩ ⟨k',o',p',g1,g2,g3,g4⟩;rw [zC4] at q2;split at q2
  ·rename_i hk;exact H.dis k k' o o' p p' b (by omega) (by rw [zAk (by omega)];exact q1) g2 q2 g3 q3 g4
  ·cases q2
 have J3: ∀ b,MS (fun b=>N b∨MO hc (ρ.take hc.length) b) (hid hc.length T) ρ b -> MS N (hc++T) ρ b:=fun b hb=>by
  rcases hb with (hb | hb) | hb
  ·exact .inl hb
  ·exact .inr ((sp b).2 (.inl hb))
  ·exact .inr (MO.hid hb).mo
 refine ⟨by rw [H.len];simp [hid],fun k o hk=>?_,fun k o p b g1 g2 g3=>?_,fun i i' o o' p p' b Ad g1 g2 g3 g4 g5 g6=>H.dis i i' o o' p p' b Ad ((T7 g1).2 hc rfl) ((T7 g2).2 hc rfl) g3 g4 g5 g6,fun b hb=>?_,H.gi⟩
 ·obtain ⟨p,hp,hr⟩:=H.obj k o ((T7 hk).2 hc rfl);exact ⟨p,hp,hr.out (DJ J3 ρ) (S:=fun _=>False) (AO.refl _ _) (fun _ h=>h.elim) fun _ _ _ h=>h⟩
 ·obtain ⟨hk,oL⟩:=T7 g1;obtain ⟨c1,c2,c3⟩:=H.cel k o p b (oL hc rfl) g2 g3;exact ⟨c1,fun hb=>hb.elim c2 fun hb=>dis b hb ⟨k,o,p,hk,oL hc rfl,g2,g3⟩,c3⟩
 ·rcases hb with hb | hb
  ·exact H.nlt b hb
  ·obtain ⟨k,o,p,q1,q2,q3⟩:=(sp b).2 (.inl hb);obtain ⟨c1,_,c,t,z,c3⟩:=H.cel k o p b q1 q2 q3;exact ⟨(zAZ.1 c3).1,c1⟩
variable {pv:Value} {gf m:Nat} {cap:Nat -> DV} {DE:DH} {ys:List (List DV)} {out:Option DV}
def zGG (P:Program)(Γ:At)(pv:Value)(DE:DH)(ρ0:List AH)(out:Option DV)(e:Ending)(G R:Nat -> Prop)(W:World):Prop:= ((∃ v,e= .returned v/\ out.isSome=true)∨(e= .panicked (pan pv)/\ out.isSome=false))/\ ∃ N' ρ',A1 P Γ N' DE ρ' W/\ IY Γ N' G R DE ρ' W/\ CI ρ0.length ρ0 ρ'
theorem YC.iter (H:YC P Γ pv gf (fun l=>.yl l::(List.range m).map cap) (fun _=>hc) ys out (fun _=>DE))(HR:A1 P Γ N (hc++T) ρ w)(Az:hc.all (ND hc.length)=true)(KF:((List.range m).map cap).all (DI hc.length)=true) 
 {lb:Array Value} (hs:lb.size=m) (Mm: ∀ j,j<m -> ∃ u,lb[j]? =some u/\ AK (MS N (hc++T) ρ) w (cap j) ρ u):
 VC True P gf lb YV ys (zGG P Γ pv DE (ρ.take hc.length) out) (MO hc (ρ.take hc.length)) (fun b=>b<w.heap.size/\ ¬ MS N (hc++T) ρ b) w:=by
 intro l Jj Jx W hJ hJx hU hY dN LN
 let C:Ba P:=⟨l,ys,Jj,Jx,hJ,hJx,hY⟩
 obtain ⟨PW,hM⟩:=HR.take (K:=hc.length) (by simp) (by rw [zHP rfl];exact Az);rw [zHP rfl] at PW hM;have C6:Γ.ng<=w.heap.size:=Γ.lo _ HR.gi
 have hu:AO (fun b=>N b∨MT hc.length (hc++T) ρ b) w W:=hU.mono fun b AM hx=>by
  by_cases hm:MS N (hc++T) ρ b
  ·rcases (hM b).2 hm with hm | hm
   ·exact hm
   ·exact absurd (.inl hm) hx
  ·exact absurd (.inr ⟨AM,hm⟩) hx
 have lo: ∀ b,b<Γ.ng -> b<w.heap.size/\ ¬ MS N (hc++T) ρ b:=fun b hb=>⟨by omega,fun hx=>by
  have:=(HR.lt2 hx).2;omega⟩
 have AM: ∀ b,MO hc (ρ.take hc.length) b -> b<w.heap.size:=fun b hb=>(HR.lt2 ((hM b).1 (.inr hb))).1
 have n5: ∀ b,N b∨MT hc.length (hc++T) ρ b -> (N b∨MT hc.length (hc++T) ρ b)/\ Γ.ng<=b:=fun b hb=>⟨hb,(PW.nlt b hb).2⟩
 have UH: ∀ b,(b<W.heap.size/\ ¬ MO hc (ρ.take hc.length) b/\ ¬ (b<w.heap.size/\ ¬ MS N (hc++T) ρ b)) -> (N b∨MT hc.length (hc++T) ρ b)∨w.heap.size<=b:=fun b ⟨_,q2,q3⟩=>by
  rcases zCV b w.heap.size with hx | hx
  ·by_cases hm:MS N (hc++T) ρ b
   ·exact .inl (((hM b).2 hm).resolve_right q2)
   ·exact absurd ⟨hx,hm⟩ q3
  ·exact .inr hx
 have HW:A1 P Γ (fun b=>b<W.heap.size/\ ¬ MO hc (ρ.take hc.length) b/\ ¬ (b<w.heap.size/\ ¬ MS N (hc++T) ρ b)) hc (ρ.take hc.length) W:=PW.foreign hu n5 UH fun b hb=>⟨hb.1,zGd fun hl=>hb.2.2 (lo b hl)⟩
 have dY:A9 (MS (fun b=>N b∨MT hc.length (hc++T) ρ b) hc (ρ.take hc.length)) w (ρ.take hc.length) ((List.range m).map cap) lb:=by
  have e:MS (fun b=>N b∨MT hc.length (hc++T) ρ b) hc (ρ.take hc.length)=MS N (hc++T) ρ:=funext fun b=>propext (hM b)
  rw [e];refine A9.take ⟨by simp [hs],fun j hj=>?_⟩ KF;have BJ:j<m:=by simpa using hj
  obtain ⟨u,q1,q2⟩:=Mm j BJ;have e1:((List.range m).map cap).getD j .any=cap j:=by simp [BJ]
  have e2:lb.getD j undef=u:=by rw [zAq,q1];rfl
  rw [e1,e2];exact q2
 have dZ:=dY.out (BS.foreign (Γ:=Γ) hu n5 UH)
 refine (H.2 C (LN trivial) 0 ⟨[],by simp [C]⟩ _ _ _ W _ _ HW (A9.append (l:=[.yl C.l]) (t:=#[.func (.yield l) #[] #[]]) ⟨rfl,fun j hj=>by
  have:j=0:=Nat.lt_one_iff.1 hj;subst this;rfl⟩ dZ) dN ⟨⟨fun b hb hr=>hr.2 ((hM b).1 (.inr hb)),fun b hb=>zAj (hb.elim (AM b) fun h=>h.1) hU.size⟩,lo,fun _ h=>h,fun _=>Iff.rfl⟩).mono ?_
 rintro e w' ⟨N',ρ',G',R',FN,j',y',kp,ho⟩;refine ⟨G',R',y'.sh,.inl ⟨?_,?_,N',ρ',FN,y',?_⟩⟩
 ·simpa [C] using j'
 ·cases out with
  | none=>exact .inr ⟨ho,rfl⟩
  | some d=>obtain ⟨v,rfl,_⟩:=ho;exact .inl ⟨v,rfl,rfl⟩
 ·have Ak:(ρ.take hc.length).length=hc.length:=by rw [zHC,HR.len];simp
  rw [Ak];exact kp
theorem wW {fr:List DV}{a:Act}{g:Operand}{ps:Array Tmp}{assign body:Code}{J:Nat -> DH -> Prop}{KK:Nat}{Q:Exit -> Act -> World -> Prop}(R:AR P Γ N ⟨fr,hc++T⟩ ρ a w)(hg:AW fr g= .fn gf m cap) 
 (H:YC P Γ pv gf (fun l=>.yl l::(List.range m).map cap) (fun _=>hc) ys out (fun _=>DE)) (hl:DE.length=hc.length) (Az:hc.all (ND hc.length)=true) (KF:((List.range m).map cap).all (DI hc.length)=true)
 (EJ: ∀ x∈ys,x.length=ps.size) (Cu:fr.all (DI KK)=true) (hKK:hc.length<=KK) (h0:J 0 (hid hc.length T)) (hJ: ∀ i h,J i h -> ∃ T',h=hid hc.length T') (DK:Y1 P Γ fr ps.toList assign body KK J (fun _ _=>False) ys)
 (hQ: ∀ (D:Nat) (T':DH) (ρ':List AH) (e:Ending) (w':World),J ys.length (hid hc.length T') -> AR P Γ N ⟨fr,DE++T'⟩ ρ' a w' -> A5 (hc++T) ρ w (DE++T') ρ' w' -> CI KK ρ ρ' -> w'.heap[D]? =some (.deferred (some [])) -> w.heap.size<=D -> ((∃ v,e= .returned v/\ out.isSome=true)∨(e= .panicked (pan pv)/\ out.isSome=false)) ->
  match e with
  | .returned _=>Q .normal { a with defers:={ target:=.collected D,args:=#[] }::a.defers } w'
  | .panicked c=>Q (.panic c) { a with defers:={ target:=.collected D,args:=#[] }::a.defers } w'
  | .outgrown=>False):(Code.rangeFunc g ps assign body).wpIn Fence.wide 0 P Q a w:=by
 have hx:=Bj R g;rw [hg] at hx;obtain ⟨lb,hv,hs,Mm⟩:=hx;have HR:A1 P Γ N (hc++T) ρ w:=R.hr;have C6:Γ.ng<=w.heap.size:=Γ.lo _ HR.gi
 have sp: ∀ b,MO (hc++T) ρ b↔MO hc (ρ.take hc.length) b∨MT hc.length (hc++T) ρ b:=fun b=>by
  have:=MO.split (h:=hc++T) (ρ:=ρ) hc.length b
  rwa [zHP] at this
  rfl
 have hN: ∀ b,N b -> b<w.heap.size/\ ¬ MO (hc++T) ρ b:=fun b hb=>⟨(HR.nlt b hb).1,fun ⟨k,o,p,q1,q2,q3⟩=>(HR.cel k o p b q1 q2 q3).2.1 hb⟩
 have AM: ∀ b,MO (hc++T) ρ b -> b<w.heap.size/\ Γ.ng<=b:=fun b hb=>HR.lt2 (.inr hb)
 have XV:Ek (MO hc (ρ.take hc.length)) (fun b=>b<w.heap.size/\ ¬ MS N (hc++T) ρ b) w:=⟨fun b hb hr=>hr.2 (.inr ((sp b).2 (.inl hb))),fun b hb=>hb.elim (fun h=>(AM b ((sp b).2 (.inl h))).1) fun h=>h.1⟩
 have Xt:RJ P Γ N (hc++T) ρ w KK J 0 (MO hc (ρ.take hc.length)) (fun b=>b<w.heap.size/\ ¬ MS N (hc++T) ρ b) w:=
  ⟨_,ρ,h0,HR.hide,AO.refl _ _,fun b hb=>.inl (MO.hid hb).mo,fun b hb=>⟨(AM b ((sp b).2 (.inl hb))).2,.inl ((sp b).2 (.inl hb))⟩,fun b hb=>⟨fun hn=>hb.2 (.inl hn),fun hm=>hb.2 (.inr (MO.hid hm).mo)⟩,CI.refl _ _⟩
 have Ds: ∀ i,Ea (RJ P Γ N (hc++T) ρ w KK J i):=fun i G R' G' R2 A C ⟨h,ρ',h1,h2⟩ q1 q2 q3 q4 q5 q6=>⟨h,ρ',h1,RI.stable C6 hN _ _ _ _ _ _ h2 q1 q2 q3 q4 q5 q6⟩
 have XU: ∀ c,Ea (RX P Γ N (hc++T) ρ w KK (fun _ _=>False) c):=fun c G R' G' R2 A C ⟨e,he,h,ρ',h1,h2⟩ _ _ _ _ _ _=>h1.elim
 have eg: ∀ args w,(callFunc gf args).run P w= .ok (.enter gf args) w:=H.1;refine fe hv eg (H.iter HR Az KF hs Mm) XV (fun x hx R W args h=>h.1.symm.trans (EJ x hx)) _ _ Ds XU (fun _ c G R W ⟨e,_,h,ρ',h1,_⟩=>h1.elim) Xt (aI R hN (fun _ h=>h) Cu DK) ?_ ?_
 ·rintro D e G R1 own W W' ⟨he,N',ρ',FN,y',kp⟩ ⟨h,ρ1,h1,hR⟩ zAx LL IT hD I3;obtain ⟨T',rfl⟩:=hJ _ _ h1;have Ak:(ρ.take hc.length).length=hc.length:=by rw [zHC,HR.len];simp
  rw [Ak] at kp;have Cr:ρ'.length=hc.length:=by rw [FN.len,hl]
  have I4:ρ1.length=hc.length+T'.length:=by rw [hR.hr.len];simp [hid]
  have dj: ∀ k,k<hc.length -> ∃ p,ρ'[k]? =some p/\ ρ1[k]? =some p:=fun k hk=>by
   have CX:k<ρ.length:=by rw [HR.len];simp;omega
   have e1:ρ[k]? =some ρ[k]:=zAa CX;exact ⟨ρ[k],kp k _ hk (by rw [zC4,zAM hk];exact e1),hR.kept k _ (by omega) e1⟩
  have kq: ∀ b,own b -> b<W.heap.size -> N' b:=fun b hb hl=>(y'.n b).2 ⟨hl,LL b hb,fun hr=>zAx.dis b (.inr hb) hr⟩
  have gN: ∀ b,N b -> ¬ G b:=fun b hb hg=>(hR.g b (.inl hg)).2.elim (hN b hb).2 (by have:=(hN b hb).1;omega)
  have bB: ∀ {b},MO (DE++T') ρ1 b -> MO DE ρ' b∨MO (hid hc.length T') ρ1 b:=by
   rintro b ⟨k,o,p,q1,q2,q3⟩;rcases zCV k hc.length with hk | hk
   ·obtain ⟨p',e1,e2⟩:=dj k hk;rw [e2] at q2;cases q2;exact .inl ⟨k,o,p,by rw [zAk (by omega)] at q1;exact q1,e1,q3⟩
   ·refine .inr ⟨k,o,p,?_,q2,q3⟩;rw [zAp (by omega),hl] at q1;unfold hid;rw [zAp (by simp [hk]),zAw];exact q1
  have iQ: ∀ b,MS N (DE++T') ρ1 b -> MS (fun b=>N b∨(G b∨own b)) (hid hc.length T') ρ1 b:=fun b hb=>by
   rcases hb with hb | hb
   ·exact .inl (.inl hb)
   ·rcases bB hb with hb | hb
    ·exact .inl (.inr (.inl (y'.own b hb)))
    ·exact .inr hb
  have kz:BS (MS N' DE ρ') W ρ' (MS N (DE++T') ρ1) W' ρ1:=by
   refine ⟨fun b hb hm _=>IT.block b hb fun ho=>hm (.inl (kq b ho hb)),fun b hb=>?_,fun k p hp=>?_⟩
   ·rcases zCV b W.heap.size with Xe | Xe
    ·rcases hb with hb | hb
     ·exact .inl (.inl ((y'.n b).2 ⟨Xe,gN b hb,fun hr=>(hR.r b hr).1 hb⟩))
     ·rcases bB hb with hb | hb
      ·exact .inl (.inr hb)
      ·obtain ⟨_,_,q3⟩:=hR.off b hb;exact .inl (.inl ((y'.n b).2 ⟨Xe,fun hg=>q3 (.inl (.inl hg)),fun hr=>q3 (.inr hr)⟩))
    ·exact .inr Xe
   ·have hk:k<hc.length:=by rw [←Cr];exact (zAf.1 hp).1
    obtain ⟨p',e1,e2⟩:=dj k hk;rw [e1] at hp;cases hp;exact e2
  have left: ∀ {k:Nat} {o:DO},k<hc.length -> (DE++T')[k]? =some (some o) -> DE[k]? =some (some o):=fun {k o} hk h=>by rw [zAk (by omega)] at h;exact h
  have right: ∀ {k:Nat} {o:DO},hc.length<=k -> (DE++T')[k]? =some (some o) -> (hid hc.length T')[k]? =some (some o):=fun {k o} hk h=>by
   rw [zAp (by omega),hl] at h;unfold hid;rw [zAp (by simp [hk]),zAw];exact h
  have pl: ∀ {k:Nat} {p:AH},k<hc.length -> ρ1[k]? =some p -> ρ'[k]? =some p:=fun {k p} hk h=>by
   obtain ⟨p',e1,e2⟩:=dj k hk;rw [e2] at h;cases h;exact e1
  have HF:A1 P Γ N (DE++T') ρ1 W':=by
   refine ⟨by rw [I4];simp [hl],fun k o hk=>?_,fun k o p b g1 g2 g3=>?_,fun i i' o o' p p' b Ad g1 g2 g3 g4 g5 g6=>?_,fun b hb=>hR.hr.nlt b (.inl hb),hR.hr.gi⟩
   ·rcases zCV k hc.length with DD | DD
    ·obtain ⟨p,hp,hr⟩:=FN.obj k o (left DD hk);exact ⟨p,kz.pl k p hp,hr.out kz (S:=fun b=>own b/\ b<W.heap.size) (IT.mono fun b hb hx=>⟨hx,hb⟩) (fun b hb=>.inl (kq b hb.1 hb.2)) fun b _ hf hx=>LL b hx.1 (y'.own b ⟨k,o,p,left DD hk,hp,hf⟩)⟩
    ·obtain ⟨p,hp,hr⟩:=hR.hr.obj k o (right DD hk);exact ⟨p,hp,hr.out (DJ iQ ρ1) (S:=fun _=>False) (AO.refl _ _) (fun _ h=>h.elim) fun _ _ _ h=>h⟩
   ·rcases zCV k hc.length with DD | DD
    ·have hg:=y'.own b ⟨k,o,p,left DD g1,pl DD g2,g3⟩;obtain ⟨c1,c2,c,t,z,c3⟩:=FN.cel k o p b (left DD g1) (pl DD g2) g3;exact ⟨c1,fun hn=>gN b hn hg,c,t,z,(IT.block b (zAZ.1 c3).1 fun ho=>LL b ho hg).trans c3⟩
    ·obtain ⟨c1,c2,c3⟩:=hR.hr.cel k o p b (right DD g1) g2 g3;exact ⟨c1,fun hn=>c2 (.inl hn),c3⟩
   ·have GA: ∀ {i i':Nat} {o o':DO} {p p':AH},i<hc.length -> hc.length<=i' -> (DE++T')[i]? =some (some o) -> (DE++T')[i']? =some (some o') -> ρ1[i]? =some p -> ρ1[i']? =some p' -> p.foot b -> p'.foot b -> False:=fun {i i' o o' p p'} k1 k2 g1 g2 g3 g4 g5 g6=>
     (hR.off b ⟨i',o',p',right k2 g2,g4,g6⟩).2.2 (.inl (.inl (y'.own b ⟨i,o,p,left k1 g1,pl k1 g3,g5⟩)))
    rcases zCV i hc.length with Fh | Fh <;> rcases zCV i' hc.length with FE | FE
    ·exact FN.dis i i' o o' p p' b Ad (left Fh g1) (left FE g2) (pl Fh g3) (pl FE g4) g5 g6
    ·exact GA Fh FE g1 g2 g3 g4 g5 g6
    ·exact GA FE Fh g2 g1 g4 g3 g6 g5
    ·exact hR.hr.dis i i' o o' p p' b Ad (right Fh g1) (right FE g2) g3 g4 g5 g6
  have O5:A9 (MS N (DE++T') ρ1) W' ρ1 fr a.tmps:=((R.fr.take Cu).out (hR.outl.weak fun b hb=>hb)).out (DJ iQ ρ1);exact hQ D T' ρ1 e W' h1 ⟨HF,O5⟩ ⟨hR.upd,fun b hb=>(bB hb).elim (fun h=>(hR.g b (.inl (y'.own b h))).2) (hR.grow b)⟩ hR.kept hD I3 he
 ·rintro D c G R1 W ⟨e,_,h,ρ',h1,_⟩;exact h1.elim
theorem vZ {α σ:Type}{fr:List DV}{ps:List Tmp}{assign body:Code}{K:Nat}(enc:α -> List DV)(ys:List α)(f:α -> σ -> Option σ)(HH:σ -> DH){sE:σ}(FR:α -> List DV) 
 (DK: ∀ (l B:Nat) (N:BQ P Γ K) (x:α) (s r:σ),f x s=some r -> GY P Γ (Fence.wide.inRound l) (some B) K N (Cp K [] 0 (HH r)) assign body ⟨FR x,HH s⟩) (Cu:(fun x=>Io fr ps (enc x))=FR):
 Y1 P Γ fr ps assign body K (fun i h=>∃ s,Bq f (ys.drop i) s=some sE/\ h=HH s) (fun _ _=>False) (ys.map enc):=by
 subst Cu;rintro l' B' N' i x h hx ⟨s,hs,rfl⟩;rw [zCG] at hx;cases hy:ys[i]? with
 | none=>rw [hy] at hx;cases hx
 | some y=>
  rw [hy] at hx;cases hx;have AM:=(zAf.1 hy).1
  have hd:ys.drop i=y::ys.drop (i+1):=by
   rw [zCJ AM]
   congr 1
   exact (zAf.1 hy).2
  rw [hd] at hs;obtain ⟨r,h1,h2⟩:=Fm hs
  have fin: ∀ {e:Exit} {S2:St},Cp K [] 0 (HH r) e S2 -> VA K (fun h=>∃ s,Bq f (ys.drop (i+1)) s=some sE/\ h=HH s) (fun _ _=>False) e S2:=by
   rintro e S2 ⟨r1,S3,r2,r3⟩;cases r1;exact ⟨S3,r2,.inl ⟨rfl,r,h2,r3⟩⟩
  refine Tr.mono (DK l' B' N' y s r h1) fun e S2 Y2 hq=>?_
  cases e with
  | normal=>exact ⟨hq.1,fun N2=>Tr.mono (show Tr P Γ (Fence.wide.inRound l') (some B') K N2 body S2 (stay N2 (Cp K [] 0 (HH r))) from hq.2 N2) fun e S3 Y3 h3=>⟨h3.1,fin h3.2⟩⟩
  | ret=>exact hq.elim
  | exit id=>exact hq.elim
  | goto t=>exact hq.elim
  | panic c=>exact hq.elim
  | outgrown=>exact hq.elim
end
section
variable {P:Program} {Γ:At} {N:Nat -> Prop} {ρ:List AH} {a:Act} {w:World} {S:St} {Q:Exit -> Act -> World -> Prop} {fr:List DV} {h':DH} {c:List (DV×DH×Bool)} {o:List (Nat×DV)} {z:List (Nat×Fz)} {v v2:List Prop} {id:Nat} {ops:Array Oper}
def We (L:Nat)(live σ ks:List Nat)(r:St×List Prop×BE):Option (List DV×DH×List Prop×List Prop×Bool):=match frzL ks (comp live σ r.1) with
 | some (S,w)=>some (S.fr,S.h,r.2.1,w,Jb σ L r.1.h.length)
 | none=>none
theorem kw {L:Nat}{live σ ks:List Nat}{r:St×List Prop×BE}(h:We L live σ ks r=some (fr,h',v,v2,true))(hz:BZ v2):r.2.1=v/\ A0 L r.1 ⟨fr,h'⟩:=by
 unfold We at h;split at h
 ·rename_i S1 w1 hf;simp only [zCR,zCp] at h;obtain ⟨rfl,rfl,rfl,rfl,hs⟩:=h;exact ⟨rfl,(A0.comp live σ r.1 hs).trans (A0.frzL ks hf hz)⟩
 ·cases h
theorem wr {L:Nat}(hX:HX Fence.wide P)(live σ ks:List Nat)(hl:HS c o z v)(hz:HS [] [] [] v2)(fr:List DV)(h':DH)(R:AR P Γ N S ρ a w)(h:(Di P Γ ops ops.toList S ⟨c,o,z,[]⟩).bind (We L live σ ks)=some (fr,h',v,v2,true))(Ar:Cc ops=true) 
 (hk: ∀ ρ' a' w',AR P Γ N ⟨fr,h'⟩ ρ' a' w' -> A5 S.h ρ w h' ρ' w' -> a'.defers=a.defers -> CI L ρ ρ' -> Q .normal a' w'):(Code.region id ops false).wpIn Fence.wide 0 P Q a w:=by
 obtain ⟨⟨S1,v1,o1⟩,hr,h⟩:=Fm h;obtain ⟨rfl,hs⟩:=kw h hz.all;refine zGs (KL hX.f Ar _ (fun o ho=>by simpa using ho) R hr hl.all fun ρ' a' w' R' st hd=>?_);obtain ⟨ρ2,R2,s2,k2⟩:=hs P Γ N ρ' a' w' R';exact hk ρ2 a' w' R2 (st.st.trans s2) hd (CI.trans (fun k p _ hp=>st.pl k p hp) k2)
theorem wt {L:Nat}(hX:HX Fence.wide P)(early:List Nat)(t:ST)(hB:Bv ops early t)(tg:List (List (Nat×Nat)×St))(live σ ks:List Nat)(hl:HS c o z v)(hz:HS [] [] [] v2)(fr:List DV)(h':DH)(R:AR P Γ N S ρ a w)(h:(Rk P Γ ops early t S ⟨c,o,z,tg⟩).bind (We L live σ ks)=some (fr,h',v,v2,true)) 
 (hk: ∀ ρ' a' w',AR P Γ N ⟨fr,h'⟩ ρ' a' w' -> A5 S.h ρ w h' ρ' w' -> a'.defers=a.defers -> CI L ρ ρ' -> Q .normal a' w'):(Code.region id ops true).wpIn Fence.wide 0 P Q a w:=by
 obtain ⟨⟨S1,v1,o1⟩,hr,h⟩:=Fm h;obtain ⟨rfl,hs⟩:=kw h hz.all;simp only [Bv,zAW] at hB;obtain ⟨⟨h1,h2⟩,h3⟩:=hB;unfold Rk at hr;split at hr
 ·cases hr
 split at hr
 ·cases hr
 ·rename_i hV;cases hr;have hE:Aq w w.drew:=Aq.toDrew w;refine ff (ZC hX.m (zGc _) ((gC hX.f h3 h2 t ops.size _ eG (R.ext hE) hV hl.all fun ρ' a' w' R' st T4 Cm=>?_).1 h1));obtain ⟨ρ2,R2,s2,k2⟩:=hs P Γ N ρ' a' w' R';exact hk ρ2 a' w' R2 ((A5.ext hE).trans (st.trans s2)) Cm (CI.trans (fun k p _ hp=>T4 k p (by rw [←R.hr.len];exact (zAf.1 hp).1) hp) k2)
theorem zDO {h:DH}{ρ ρ':List AH}{w w':World}{d:DV}{v:Value}(h0:A1 P Γ N [] ρ w)(R:A1 P Γ N h ρ' w')(st:A5 [] ρ w h ρ' w')(hr:AK (MS N h ρ') w' d ρ' v)(hd:E8 d=true):Ci P Γ N [] ρ w true d [] v w':=by
 have e:ρ= []:=List.length_eq_zero_iff.1 h0.len;subst e;have hx:=K2 hd _ _ _ _ hr;have low: ∀ b,MO [] ([]:List AH) b -> False:=fun b ⟨k,_,_,q,_⟩=>by simp at q
 have hu:AO (fun _=>False) w w':=st.upd.mono fun b _ hb=>low b hb
 refine ⟨⟨[],⟨rfl,fun k o hk=>by simp at hk,fun k o p b hk=>by simp at hk,fun k k' o o' p p' b _ hk=>by simp at hk,R.nlt,R.gi⟩,?_,⟨hu.mono fun _ _ h=>h.elim,fun b hb=>(low b hb).elim⟩,fun k p hk=>by simp at hk⟩,fun _=>hu.toExt fun _ _ h=>h⟩;exact hx.out _ ⟨fun _ _ _ _=>rfl,fun b hb=>.inl (hb.imp id fun h=>(low b h).elim),fun k p hk=>by simp at hk⟩
end
theorem rA {P:Program}{Q:Exit -> Act -> World -> Prop}{a:Act}{w:World}{ops:Array Oper}{id t g:Nat}{o0 o1:Oper}{Gv:Array Operand}{tp:Array TypeId}(hl:ops.toList= [o0,o1])(h0:o0.op= .makeFunc (.func g) #[] Gv)(Xn:o0.dst=some t)(Xl:o0.guard=none)(h1:o1.op= .defer { callee:=.value (.tmp t),args:=#[],argTypes:=tp })(Hu:o1.dst=none)(hg1:o1.guard=none)(ht:t<a.tmps.size) 
 (hQ: ∀ a',a'.tmps=a.tmps.setIfInBounds t (.func (.func g) #[] (Gv.map a.eval)) -> a'.defers= { target:=.fn (.func g) (Gv.map a.eval),args:=#[] }::a.defers -> Q .normal a' w):(Code.region id ops false).wpIn Fence.wide 0 P Q a w:=by
 refine zGs ?_;rw [hl];simp only [wpListIn,Oper.wpIn,Region.wanted,Xl,hg1,zC9];refine ⟨fun _ _=>trivial,?_⟩
 have e0:(o0.semAt Fence.wide.round a.eval).run P w= .ok (.value (.func (.func g) #[] (Gv.map a.eval))) w:=by
  rw [zGM _ _ _ (by rw [h0];intro c e;cases e)];unfold execOp;rw [h0];simp only [zA6,Array.map_empty];simp [go_sem]
 rw [e0,Oper.uponIn_value];refine ⟨fun _ _=>trivial,?_⟩;obtain ⟨a2,dD⟩: ∃ a2,a2=a.put o0.dst (.func (.func g) #[] (Gv.map a.eval)):=⟨_,rfl⟩;rw [←dD]
 have ev:a2.eval (.tmp t)= .func (.func g) #[] (Gv.map a.eval):=by
  rw [dD,Xn];simp [Act.eval,Act.put,ht]
 have e1:(o1.semAt Fence.wide.round a2.eval).run P w= .ok (.defer { target:=.fn (.func g) (Gv.map a.eval),args:=#[] }) w:=by
  show (o1.semAt none a2.eval).run P w=_
  rw [Oper.semAt_none];unfold execOp;rw [h1];simp only [resolve,ev];simp [Deferred.ofValue,go_sem]
 rw [e1,Oper.uponIn_defer,Hu]
 have:Act.put { a2 with defers:={ target:=.fn (.func g) (Gv.map a.eval),args:=#[] }::a2.defers } none undef= { tmps:=a.tmps.setIfInBounds t (.func (.func g) #[] (Gv.map a.eval)),defers:={ target:=.fn (.func g) (Gv.map a.eval),args:=#[] }::a.defers }:=by
  rw [dD,Xn];rfl
 rw [this];exact hQ _ rfl rfl
theorem AR.idle {P:Program}{Γ:At}{N:Nat -> Prop}{fr:List DV}{h:DH}{ρ:List AH}{a a':Act}{w:World}(R:AR P Γ N ⟨fr,h⟩ ρ a w)(t:Nat){v:Value}(ha:a'.tmps=a.tmps.setIfInBounds t v)(e:fr.set t .any=fr):AR P Γ N ⟨fr,h⟩ ρ a' w:=by
 refine ⟨R.hr,?_⟩;have:=R.fr.set t (d:=.any) (v:=v) trivial;rw [ha]
 show A9 _ _ _ fr _
 have e':A9 (MS N h ρ) w ρ (fr.set t .any) (a.tmps.setIfInBounds t v):=this
 rwa [e] at e'
theorem pP {P:Program}{Γ:At}{N:Nat -> Prop}{h h':DH}{ρ ρ':List AH}{w w':World}{D:Nat}(H:A1 P Γ N h ρ w)(st:A5 h ρ w h' ρ' w')(hD:w.heap[D]? =some (.deferred (some []))):w'.heap[D]? =some (.deferred (some [])):=by
 refine (st.upd.block D (zAZ.1 hD).1 ?_).trans hD;rintro ⟨k,o,p,h1,h2,h3⟩;obtain ⟨_,_,c,t,z,h4⟩:=H.cel k o p D h1 h2 h3;rw [hD] at h4;cases h4;cases t
theorem W4 {P:Program}{fn:Func}{tmps:Array Value}{R:Ending -> World -> Prop}{D g:Nat}{Gv:Array Value}{u:FrameMode}{w:World}(hu:u≠.run)(hD:w.heap[D]? =some (.deferred (some [])))(eg: ∀ args W,(callFunc g args).run P W= .ok (.enter g args) W) 
 (h: ∀ W,PS D w W -> CallsDIn Fence.wide (0-1) P g Gv u W fun
  | .returned _,u',w'=>LeavesIn Fence.wide 0 P fn tmps R [] (settle u') w'
  | .panicked zFE,u',w'=>LeavesIn Fence.wide 0 P fn tmps R [] (raised u' zFE) w'
  | .outgrown,_,w'=>R .outgrown w'):LeavesInM Fence.wide 0 P fn tmps R [{ target:=.collected D,args:=#[] },{ target:=.fn (.func g) Gv,args:=#[] }] u w:=by
 refine ⟨hu,.inl ⟨D,_,rfl,run_takeDeferred hD,hu,.inr ⟨fun h=>(by cases h),.func g,Gv,g,#[]++Gv,rfl,?_,fun _ _=>trivial,?_⟩⟩⟩
 ·simp [invoke,go_sem,eg]
 ·have hs:PS D w (w.putObj D (.deferred none)):=((AO.refl (fun k=>k=D) w).putObj (fun _=>rfl) _).mono fun i _ e=>by cases e;exact ⟨zA5 _,hD⟩
  have:=h _ hs;rw [Array.empty_append];exact this.mono fun e u' w' hq=>by cases e <;> exact hq
theorem A9.split {M:Nat -> Prop}{w:World}{ρ:List AH}{fr l:List DV}{t u:Array Value}(F:A9 M w ρ (fr++l) (t++u))(hl:fr.length=t.size):A9 M w ρ fr t/\ A9 M w ρ l u:=by
 have hs:fr.length+l.length=t.size+u.size:=by simpa using F.1
 refine ⟨⟨hl,fun j hj=>?_⟩,⟨by omega,fun j hj=>?_⟩⟩
 ·have h:=F.2 j (by simp;omega);have e1:(fr++l).getD j .any=fr.getD j .any:=by simp only [u8,zAk hj]
  have e2:(t++u).getD j undef=t.getD j undef:=by simp only [zAq,zD4 (show j<t.size by omega)]
  rwa [e1,e2] at h
 ·have h:=F.2 (fr.length+j) (by simp;omega);have e1:(fr++l).getD (fr.length+j) .any=l.getD j .any:=by simp only [u8];rw [zAp (by omega)];congr 2;omega
  have e2:(t++u).getD (fr.length+j) undef=u.getD j undef:=by simp only [zAq];rw [Array.getElem?_append_right (by omega)];congr 2;omega
  rwa [e1,e2] at h
theorem A0.both {L:Nat}{P:Program}{Γ:At}{N:Nat -> Prop}{fr l HP l':List DV}{h h':DH}{ρ:List AH}{a:Act}{w:World}{u:Array Value}(hS:A0 L ⟨fr++l,h⟩ ⟨HP++l',h'⟩)(hl:HP.length=fr.length)(R:AR P Γ N ⟨fr,h⟩ ρ a w)(F:A9 (MS N h ρ) w ρ l u): ∃ ρ',AR P Γ N ⟨HP,h'⟩ ρ' a w/\ A9 (MS N h' ρ') w ρ' l' u/\ A5 h ρ w h' ρ' w/\ CI L ρ ρ':=by
 obtain ⟨ρ',R',s,k⟩:=hS P Γ N ρ { a with tmps:=a.tmps++u } w ⟨R.hr,A9.append R.fr F⟩;obtain ⟨f1,f2⟩:=A9.split R'.fr (hl.trans R.fr.1);exact ⟨ρ',⟨R'.hr,f1⟩,f2,s,k⟩
theorem AR.forg {P:Program}{Γ:At}{N:Nat -> Prop}{fr HP:List DV}{h:DH}{ρ:List AH}{a a':Act}{w:World}(live:List Nat)(R:AR P Γ N ⟨fr,h⟩ ρ a w)(ha:a'.tmps=a.tmps)(e:forget live fr=HP):AR P Γ N ⟨HP,h⟩ ρ a' w:=by
 subst e;refine ⟨R.hr,?_⟩;rw [ha];refine ⟨(UU live fr).trans R.fr.1,fun i hi=>?_⟩;have hi:i<fr.length:=by rw [←UU live fr];exact hi
 show AK _ _ ((forget live fr).getD i .any) _ _
 rw [da live fr hi];split
 ·exact R.fr.2 i hi
 ·trivial
theorem UT {P:Program}{Γ:At}{N:Nat -> Prop}{h h':DH}{ρ ρ':List AH}{w w':World}{L:Nat}{fr:List DV}{t:Array Value}(F:A9 (MS N h ρ) w ρ fr t)(Cu:fr.all (DI L)=true)(H':A1 P Γ N h' ρ' w')(st:A5 h ρ w h' ρ' w')(kp:CI L ρ ρ'):A9 (MS N h' ρ') w' ρ' fr t:=
 (F.take Cu).out ⟨fun b hb hm _=>st.upd.block b hb fun hx=>hm (.inr hx),fun b hb=>hb.elim (fun h=>.inl (.inl h)) fun h=>(st.grow b h).imp .inr id,fun k p hp=>by
  rw [zC4] at hp;split at hp
  ·rename_i hk;exact kp k p hk hp
  ·cases hp⟩
theorem YD {P:Program}{Γ:At}{N:Nat -> Prop}{S:St}{ρ ρ0:List AH}{a:Act}{w0 W:World}{fn:Func}(R:AR P Γ N S ρ a W)(h0:A1 P Γ N [] ρ0 w0)(st:A5 [] ρ0 w0 S.h ρ W)(ks:List Nat){ws:List Prop}(hz:HS [] [] [] ws)(rs:List DV){d:DV}(hd:AS (Hg rs) d) 
 (hf:(frzL ks S).bind (fun q=>(MH P q.1 fn.results.toList).map fun r=>(r,q.2))=some (rs,ws)) (hn:E8 d=true): ∃ v,(results fn a.tmps).run P W= .ok v W/\ Ci P Γ N [] ρ0 w0 true d [] v W:=by
 obtain ⟨⟨S2,w2⟩,h1,h2⟩:=Fm hf;obtain ⟨r,h3,h4⟩:=K5 h2;cases h4;obtain ⟨ρ2,R2,s2,_⟩:=A0.frzL (L:=0) ks h1 hz.all P Γ N ρ a W R;obtain ⟨v,g1,g2⟩:=WC R2 h3;exact ⟨v,g1,zDO h0 R2.hr (st.trans s2) (hd _ _ _ _ g2) hn⟩
set_option maxRecDepth 100000
set_option maxHeartbeats 40000000
def KR (x:(List Int)×(List Int)×Int):List DV:=[.agg 3 (L1 [.ints x.1,.ints x.2.1,.i x.2.2])]
abbrev Au:=(List Int)×(List Int)×Int
def Wo (pos:List Int)(AF depth:Int):Nat -> List DV:=fun _=>[.ref 5 0,.ints pos,.i AF,.i depth]
def DC (AL:List Int)(q:AA)(tree:List (Int×Int))(ln:Nat)(pos0:List Int):Nat -> DH:=fun l=>[oI AL,some (.ro (AN q)),some (.ro [.sl 2 tree.length (AP BM tree)]),some (.ro [.msl 0 1 0 ln]),some (.ro [.ints pos0]),some (.ro (AN q++[.sl 2 tree.length (AP BM tree),.msl 0 1 0 ln,.yl l]))]
def TN (y:Int):DV:=.i y
abbrev EH:=(List Int) -> Int -> Int -> (List Int) -> AA -> (List (Int×Int)) -> Nat -> (List Int) -> Option (YR Au Int (List Int))
def I1 (f:EH):Prop:=∀ (pos:List Int) (AF depth:Int) (AL:List Int) (q:AA) (tree:List (Int×Int)) (ln:Nat) (pos0:List Int) (r:YR Au Int (List Int)),f pos AF depth AL q tree ln pos0=some r -> YC Tryz.prog GG Dj 58 (Wo pos AF depth) (DC AL q tree ln pos0) (r.1.map KR) (r.2.1.map TN) (DC r.2.2 q tree ln pos0)
def kH:Nat -> List DV:=fun _=>[.ref 6 0,.ref 10 0,.ref 7 0,.ref 8 0,.ref 9 0]
def IF (AL:List Int)(q:AA)(tree:List (Int×Int))(ln:Nat)(pos0 pos:List Int)(AF depth:Int)(nd:Int×Int):Nat -> DH:=fun l=>[oI AL,some (.ro (AN q)),some (.ro [.sl 2 tree.length (AP BM tree)]),some (.ro [.msl 0 1 0 ln]),some (.ro [.ints pos0]),some (.ro (AN q++[.sl 2 tree.length (AP BM tree),.msl 0 1 0 ln,.yl l])),some (.ro [.ref 5 0]),some (.ro [.ints pos]),some (.ro [.i AF]),some (.ro [.i depth]),some (.ro [.i nd.1,.i nd.2])]
def kI (y:Int):DV:=.i y
abbrev wh:=(List Int) -> AA -> (List (Int×Int)) -> Nat -> (List Int) -> (List Int) -> Int -> Int -> (Int×Int) -> Option (YR Au Int (List Int))
def wg (f:wh):Prop:=∀ (AL:List Int) (q:AA) (tree:List (Int×Int)) (ln:Nat) (pos0 pos:List Int) (AF depth:Int) (nd:Int×Int) (r:YR Au Int (List Int)),f AL q tree ln pos0 pos AF depth nd=some r -> YC Tryz.prog GG Dj 81 (kH) (IF AL q tree ln pos0 pos AF depth nd) (r.1.map KR) (r.2.1.map kI) (IF r.2.2 q tree ln pos0 pos AF depth nd)
theorem uG:As (Aj Tryz.f81 1) [([0,1,2,3,4,5,6],7)] [8,9,10,11,12] []:=by unfold As;kernel_rfl
def Zo:Bh:=fun i=>match i with
 | 1=>.ord [([0,1,2,3,4,5,6],7)] [8,9,10,11,12] []
 | _=>.no
def aR (n:Nat)(An:EH)(AL:List Int)(q:AA)(tree:List (Int×Int))(ln:Nat)(pos0 pos:List Int)(AF depth:Int)(nd:Int×Int):Option (YR Au Int (List Int)):= (P4 n q nd.2 pos).bind fun y1=> bif (y1.2==0) then if AJ (AF+1) then yb (An y1.1 (AF+1) depth AL q tree ln pos0) fun y2 o2=> some ([],some y2,o2) else none else some ([],none,AL)
def aS (n:Nat)(An:EH)(AL:List Int)(q:AA)(tree:List (Int×Int))(ln:Nat)(pos0 pos:List Int)(AF depth:Int)(nd:Int×Int):Option (YR Au Int (List Int)):=aR n An AL q tree ln pos0 pos AF depth nd
theorem wf {n:Nat}{An:EH}(CO:I1 An):wg (aS n An):=fun AL q tree ln pos0 pos AF depth nd r h=>YC.ofY (L:=11) (h':=fun l o=>IF o q tree ln pos0 pos AF depth nd l) Tryz.func81 (fun C i ρ0 hn hd=>by
 replace h:aR n An AL q tree ln pos0 pos AF depth nd=some r:=h;unfold aR at h;obtain ⟨y1,A7,h⟩:=Fm h;have p:=H0.g uG |>.c (fb (wi A7) (IF AL q tree ln pos0 pos AF depth nd C.l))
 refine gs (AV 3 (AV 2 Zo)) [0,1,2,3,4,5,6,7,8,9,10] p (Co (AX Tryz.f81) 2 []) (AG 28 [(0,.ref 6 0),(3,.ref 8 0),(4,.ref 9 0),(6,.ints y1.1),(7,.i y1.2)]) (IF AL q tree ln pos0 pos AF depth nd C.l) ?_;rcases By h with ⟨c0,h⟩ | ⟨c0,h⟩
 ·refine yO (ops:=Aj Tryz.f81 2) (by kernel_rfl) ?_;refine yT hn [0,1] [] 2 ((H0.b 20 c0)) (AG 28 [(0,.ref 6 0),(3,.ref 8 0),(4,.ref 9 0),(6,.ints y1.1)]) (IF AL q tree ln pos0 pos AF depth nd C.l) (some 21) ?_ hd;refine y0 ?_;have p:=H0;refine gs (AV 3 (AV 2 Zo)) [0,1,2,3,4,5,6,7,8,9,10] p (Co (AX Tryz.f81) 3 []) (AG 28 [(0,.ref 6 0),(3,.ref 8 0),(4,.ref 9 0),(6,.ints y1.1)]) (IF AL q tree ln pos0 pos AF depth nd C.l) ?_;obtain ⟨g0,h⟩:=B0 h;refine yO (ops:=Aj Tryz.f81 3) (by kernel_rfl) ?_;refine yC (ds:=Wo y1.1 (AF+1) depth) (h:=DC AL q tree ln pos0) (h':=fun l o=>DC o q tree ln pos0 l) (tD':=TN) hn [0,1,2,3,4] [6] 5 ((H0.w 25 g0)) (AG 28 []) (IF AL q tree ln pos0 pos AF depth nd C.l) (some 27) h hd (fun a ha=>CO _ _ _ _ _ _ _ _ a ha) (fun y2 o2 r i h hd=>?_);refine yE H0 (AG 28 [(5,.i y2)]) (IF o2 q tree ln pos0 pos AF depth nd C.l) ?_;have p:=H0;cases h;exact yF (ee (AV 3 (AV 2 Zo)) [5] [0,1,2,3,4,5,6,7,8,9,10] p)
 ·cases h;refine yO (ops:=Aj Tryz.f81 2) (by kernel_rfl) ?_;exact yP hn [0,1] [] 2 ((H0.b 20 c0)) (AG 28 [(0,.ref 6 0),(3,.ref 8 0),(4,.ref 9 0),(6,.ints y1.1)]) (IF AL q tree ln pos0 pos AF depth nd C.l) (some 21))
def ib:Nat -> List DV:=fun _=>[.ref 10 0,.ref 7 0,.ref 8 0,.ref 6 0,.ref 9 0]
def D5 (AL:List Int)(q:AA)(tree:List (Int×Int))(ln:Nat)(pos0 pos:List Int)(AF depth:Int)(nd:Int×Int):Nat -> DH:=fun l=>[oI AL,some (.ro (AN q)),some (.ro [.sl 2 tree.length (AP BM tree)]),some (.ro [.msl 0 1 0 ln]),some (.ro [.ints pos0]),some (.ro (AN q++[.sl 2 tree.length (AP BM tree),.msl 0 1 0 ln,.yl l])),some (.ro [.ref 5 0]),some (.ro [.ints pos]),some (.ro [.i AF]),some (.ro [.i depth]),some (.ro [.i nd.1,.i nd.2])]
def Zb (y:Int):DV:=.i y
abbrev sP:=(List Int) -> AA -> (List (Int×Int)) -> Nat -> (List Int) -> (List Int) -> Int -> Int -> (Int×Int) -> Option (YR Au Int (List Int))
def sO (f:sP):Prop:=∀ (AL:List Int) (q:AA) (tree:List (Int×Int)) (ln:Nat) (pos0 pos:List Int) (AF depth:Int) (nd:Int×Int) (r:YR Au Int (List Int)),f AL q tree ln pos0 pos AF depth nd=some r -> YC Tryz.prog GG Dj 83 (ib) (D5 AL q tree ln pos0 pos AF depth nd) (r.1.map KR) (r.2.1.map Zb) (D5 r.2.2 q tree ln pos0 pos AF depth nd)
theorem tu:As (Aj Tryz.f83 7) [([0,1,2,3,4,5,6,7],8)] [9,10,11,12,13] []:=by unfold As;kernel_rfl
def No:Bh:=fun i=>match i with
 | 7=>.ord [([0,1,2,3,4,5,6,7],8)] [9,10,11,12,13] []
 | _=>.no
inductive Pn where
 | l1 (x6 Dn:Int) (o0:List Int)
def Nh (n:Nat)(An:EH)(self:Pn -> Option (YR Au Int (List Int)))(AL:List Int)(q:AA)(tree:List (Int×Int))(ln:Nat)(pos0 pos:List Int)(AF depth:Int)(nd:Int×Int)(x6 Dn:Int)(o0:List Int):Option (YR Au Int (List Int)):= bif (decide (Dn<q.symbols)) then if (0<=nd.2/\ nd.2<(pos.length:Int))/\ (0<=Dn/\ Dn<=(IntKind.i64.bits:Int)) then bif ((bits .and .i64 ((pos.getD ((nd.2).toNat) 0)/2 ^ (Dn).toNat) 1)==1) then (O6 n q pos nd.2 Dn).bind fun y1=> bif (y1.2==0) then if AJ (depth+1) then yb (An y1.1 x6 (depth+1) o0 q tree ln pos0) fun y2 o2=> if AJ (Dn+1) then self (.l1 y2 (Dn+1) o2) else none else none else some ([],none,o0) else if AJ (Dn+1) then self (.l1 x6 (Dn+1) o0) else none else none else some ([],some x6,o0)
def Ly (n:Nat)(An:EH)(self:Pn -> Option (YR Au Int (List Int)))(AL:List Int)(q:AA)(tree:List (Int×Int))(ln:Nat)(pos0 pos:List Int)(AF depth:Int)(nd:Int×Int):Option (YR Au Int (List Int)):= bif (decide (nd.2>=0)) then bif (decide (nd.2<(pos.length:Int))) then (Jz n pos).bind fun y1=> bif (!y1) then if 0<=nd.2/\ nd.2<(pos.length:Int) then (SK n (pos.getD ((nd.2).toNat) 0)).bind fun y2=> bif (decide (y2>1)) then if AJ (AF+1) then self (.l1 (AF+1) 0 AL) else none else some ([],none,AL) else none else some ([],none,AL) else some ([],none,AL) else some ([],none,AL)
def Hi (An:EH)(AL:List Int)(q:AA)(tree:List (Int×Int))(ln:Nat)(pos0 pos:List Int)(AF depth:Int)(nd:Int×Int):Nat -> Pn -> Option (YR Au Int (List Int))
 | 0,_=>none
 | n+1,.l1 x6 Dn o0=>Nh n An (Hi An AL q tree ln pos0 pos AF depth nd n) AL q tree ln pos0 pos AF depth nd x6 Dn o0
def Za (C:Ba Tryz.prog)(ρ0:List AH)(n:Nat)(AL:List Int)(q:AA)(tree:List (Int×Int))(ln:Nat)(pos0 pos:List Int)(AF depth:Int)(nd:Int×Int)(r:YR Au Int (List Int)):Pn -> Prop
 | .l1 x6 Dn o0=>∀ m0:Nat,n<=m0 -> ∀ i:Nat,DR C KR i r -> TY C Dj Tryz.f83 11 ρ0 Zb (fun o=>D5 o q tree ln pos0 pos AF depth nd C.l) (A4 m0 (BB (AX Tryz.f83) 0 [])) i r ⟨AG 77 [(0,.ref 10 0),(1,.ref 7 0),(3,.ref 6 0),(4,.ref 9 0),(6,.i x6),(41,.i q.symbols),(42,.i Dn)],[oI o0,some (.ro (AN q)),some (.ro [.sl 2 tree.length (AP BM tree)]),some (.ro [.msl 0 1 0 ln]),some (.ro [.ints pos0]),some (.ro (AN q++[.sl 2 tree.length (AP BM tree),.msl 0 1 0 ln,.yl C.l])),some (.ro [.ref 5 0]),some (.ro [.ints pos]),some (.ro [.i AF]),some (.ro [.i depth]),some (.ro [.i nd.1,.i nd.2])]⟩
theorem sN (C:Ba Tryz.prog)(hn:C.nv)(ρ0:List AH)(n:Nat)(An:EH)(CO:I1 An)(self:Pn -> Option (YR Au Int (List Int)))(AL:List Int)(q:AA)(tree:List (Int×Int))(ln:Nat)(pos0 pos:List Int)(AF depth:Int)(nd:Int×Int)(AI: ∀ pt r,self pt=some r -> Za C ρ0 n AL q tree ln pos0 pos AF depth nd r pt)(x6 Dn:Int)(o0:List Int)(r:YR Au Int (List Int))(h:Nh n An self AL q tree ln pos0 pos AF depth nd x6 Dn o0=some r):Za C ρ0 (n+1) AL q tree ln pos0 pos AF depth nd r (.l1 x6 Dn o0):=by
 intro m0 AD;intro i hd;refine rd AD fun m0 AD=>?_
 unfold Nh at h;have p:=H0;rcases By h with ⟨c0,h⟩ | ⟨c0,h⟩
 ·obtain ⟨⟨g0,g1⟩,h⟩:=B0 h;have p:=H0.b 43 c0 |>.g g0 |>.g g1
  rcases By h with ⟨c1,h⟩ | ⟨c1,h⟩
  ·obtain ⟨y1,A7,h⟩:=Fm h;have p:=p.b 53 c1 |>.g tu |>.c (fb (zDe A7) (D5 o0 q tree ln pos0 pos AF depth nd C.l))
   refine gs (AV 9 (AV 8 (AV 1 No))) [0,1,2,3,4,5,6,7,8,9,10] p (Co (AX Tryz.f83) 8 [m0]) (AG 77 [(0,.ref 10 0),(1,.ref 7 0),(3,.ref 6 0),(4,.ref 9 0),(6,.i x6),(8,.ints y1.1),(9,.i y1.2),(41,.i q.symbols),(42,.i Dn)]) (D5 o0 q tree ln pos0 pos AF depth nd C.l) ?_;rcases By h with ⟨c0,h⟩ | ⟨c0,h⟩
   ·refine yO (ops:=Aj Tryz.f83 8) (by kernel_rfl) ?_;refine yT hn [0,1] [] 2 ((H0.b 67 c0)) (AG 77 [(0,.ref 10 0),(1,.ref 7 0),(3,.ref 6 0),(4,.ref 9 0),(6,.i x6),(8,.ints y1.1),(41,.i q.symbols),(42,.i Dn)]) (D5 o0 q tree ln pos0 pos AF depth nd C.l) (some 68) ?_ hd;refine y0 ?_;have p:=H0;refine gs (AV 9 (AV 8 (AV 1 No))) [0,1,2,3,4,5,6,7,8,9,10] p (Co (AX Tryz.f83) 9 [m0]) (AG 77 [(0,.ref 10 0),(1,.ref 7 0),(3,.ref 6 0),(4,.ref 9 0),(6,.i x6),(8,.ints y1.1),(41,.i q.symbols),(42,.i Dn)]) (D5 o0 q tree ln pos0 pos AF depth nd C.l) ?_;obtain ⟨g2,h⟩:=B0 h;refine yO (ops:=Aj Tryz.f83 9) (by kernel_rfl) ?_;refine yC (ds:=Wo y1.1 x6 (depth+1)) (h:=DC o0 q tree ln pos0) (h':=fun l o=>DC o q tree ln pos0 l) (tD':=TN) hn [0,1,2,3,4] [6] 5 ((H0.w 73 g2)) (AG 77 [(0,.ref 10 0),(1,.ref 7 0),(3,.ref 6 0),(4,.ref 9 0),(6,.i x6),(41,.i q.symbols),(42,.i Dn)]) (D5 o0 q tree ln pos0 pos AF depth nd C.l) (some 74) h hd (fun a ha=>CO _ _ _ _ _ _ _ _ a ha) (fun y2 o2 r i h hd=>?_);refine yE H0 (AG 77 [(0,.ref 10 0),(1,.ref 7 0),(3,.ref 6 0),(4,.ref 9 0),(6,.i y2),(41,.i q.symbols),(42,.i Dn)]) (D5 o2 q tree ln pos0 pos AF depth nd C.l) ?_;obtain ⟨g3,h⟩:=B0 h;have p:=H0.w 75 g3;exact gg (AV 9 (AV 8 (AV 1 No))) [0,1,2,3,4,5,6,7,8,9,10] p (AI _ _ h m0 AD i hd)
   ·cases h;refine yO (ops:=Aj Tryz.f83 8) (by kernel_rfl) ?_;exact yP hn [0,1] [] 2 ((H0.b 67 c0)) (AG 77 [(0,.ref 10 0),(1,.ref 7 0),(3,.ref 6 0),(4,.ref 9 0),(6,.i x6),(8,.ints y1.1),(41,.i q.symbols),(42,.i Dn)]) (D5 o0 q tree ln pos0 pos AF depth nd C.l) (some 68)
  ·obtain ⟨g2,h⟩:=B0 h;have p:=p.b 53 c1 |>.w 75 g2
   exact gg (AV 9 (AV 8 (AV 1 No))) [0,1,2,3,4,5,6,7,8,9,10] p (AI _ _ h m0 AD i hd)
 ·have p:=H0.b 43 c0;cases h;exact yF (ee (AV 9 (AV 8 (AV 1 No))) [5] [0,1,2,3,4,5,6,7,8,9,10] p)
theorem ic (C:Ba Tryz.prog)(hn:C.nv)(ρ0:List AH)(An:EH)(CO:I1 An)(AL:List Int)(q:AA)(tree:List (Int×Int))(ln:Nat)(pos0 pos:List Int)(AF depth:Int)(nd:Int×Int): ∀ (n:Nat) (pt:Pn) (r:YR Au Int (List Int)),Hi An AL q tree ln pos0 pos AF depth nd n pt=some r -> Za C ρ0 n AL q tree ln pos0 pos AF depth nd r pt
 | 0,_,_,h=>by cases h
 | n+1,.l1 x6 Dn o0,r,h=>sN C hn ρ0 n An CO (Hi An AL q tree ln pos0 pos AF depth nd n) AL q tree ln pos0 pos AF depth nd (ic C hn ρ0 An CO AL q tree ln pos0 pos AF depth nd n) x6 Dn o0 r h
def Lz (n:Nat)(An:EH)(AL:List Int)(q:AA)(tree:List (Int×Int))(ln:Nat)(pos0 pos:List Int)(AF depth:Int)(nd:Int×Int):Option (YR Au Int (List Int)):=Ly n An (Hi An AL q tree ln pos0 pos AF depth nd n) AL q tree ln pos0 pos AF depth nd
theorem sM {n:Nat}{An:EH}(CO:I1 An):sO (Lz n An):=fun AL q tree ln pos0 pos AF depth nd r h=>YC.ofY (L:=11) (h':=fun l o=>D5 o q tree ln pos0 pos AF depth nd l) Tryz.func83 (fun C i ρ0 hn hd=>by
 replace h:Ly n An (Hi An AL q tree ln pos0 pos AF depth nd n) AL q tree ln pos0 pos AF depth nd=some r:=h;have AI:=(ic C hn ρ0 An CO AL q tree ln pos0 pos AF depth nd n);unfold Ly at h
 generalize Hi An AL q tree ln pos0 pos AF depth nd n=self at h AI
 have p:=H0;refine gs (AV 9 (AV 8 (AV 1 No))) [0,1,2,3,4,5,6,7,8,9,10] p (Co (AX Tryz.f83) 1 []) (AG 77 [(0,.ref 10 0),(1,.ref 7 0),(2,.ref 8 0),(3,.ref 6 0),(4,.ref 9 0)]) (D5 AL q tree ln pos0 pos AF depth nd C.l) ?_;rcases By h with ⟨c0,h⟩ | ⟨c0,h⟩
 ·rcases By h with ⟨c1,h⟩ | ⟨c1,h⟩
  ·obtain ⟨y1,A7,h⟩:=Fm h;rcases By h with ⟨c2,h⟩ | ⟨c2,h⟩
   ·obtain ⟨g0,h⟩:=B0 h;obtain ⟨y2,B6,h⟩:=Fm h;rcases By h with ⟨c3,h⟩ | ⟨c3,h⟩
    ·refine yO (ops:=Aj Tryz.f83 1) (by kernel_rfl) ?_;refine yT hn [0,1,2,3,4,5,6,7,8,9,10,11,12,13,14,15,16,17,18,19,20,21,22,23] [] 24 ((H0.b 12 c0 |>.b 18 c1 |>.c (fb (OW A7) (D5 AL q tree ln pos0 pos AF depth nd C.l)) |>.b 23 c2 |>.g g0 |>.c (fb (iy B6) (D5 AL q tree ln pos0 pos AF depth nd C.l)) |>.b 32 c3)) (AG 77 [(0,.ref 10 0),(1,.ref 7 0),(2,.ref 8 0),(3,.ref 6 0),(4,.ref 9 0)]) (D5 AL q tree ln pos0 pos AF depth nd C.l) (some 34) ?_ hd;refine y0 ?_;obtain ⟨g1,h⟩:=B0 h;have p:=H0.w 36 g1;exact gg (AV 9 (AV 8 (AV 1 No))) [0,1,2,3,4,5,6,7,8,9,10] p (en n (AI _ _ h n Nat.le.refl i hd))
    ·cases h;refine yO (ops:=Aj Tryz.f83 1) (by kernel_rfl) ?_;exact yP hn [0,1,2,3,4,5,6,7,8,9,10,11,12,13,14,15,16,17,18,19,20,21,22,23] [] 24 ((H0.b 12 c0 |>.b 18 c1 |>.c (fb (OW A7) (D5 AL q tree ln pos0 pos AF depth nd C.l)) |>.b 23 c2 |>.g g0 |>.c (fb (iy B6) (D5 AL q tree ln pos0 pos AF depth nd C.l)) |>.b 32 c3)) (AG 77 [(0,.ref 10 0),(1,.ref 7 0),(2,.ref 8 0),(3,.ref 6 0),(4,.ref 9 0)]) (D5 AL q tree ln pos0 pos AF depth nd C.l) (some 34)
   ·cases h;refine yO (ops:=Aj Tryz.f83 1) (by kernel_rfl) ?_;exact yP hn [0,1,2,3,4,5,6,7,8,9,10,11,12,13,14,15,16,17,18,19,20,21,22,23] [] 24 ((H0.b 12 c0 |>.b 18 c1 |>.c (fb (OW A7) (D5 AL q tree ln pos0 pos AF depth nd C.l)) |>.b 23 c2)) (AG 77 [(0,.ref 10 0),(1,.ref 7 0),(2,.ref 8 0),(3,.ref 6 0),(4,.ref 9 0)]) (D5 AL q tree ln pos0 pos AF depth nd C.l) (some 34)
  ·cases h;refine yO (ops:=Aj Tryz.f83 1) (by kernel_rfl) ?_;exact yP hn [0,1,2,3,4,5,6,7,8,9,10,11,12,13,14,15,16,17,18,19,20,21,22,23] [] 24 ((H0.b 12 c0 |>.b 18 c1)) (AG 77 [(0,.ref 10 0),(1,.ref 7 0),(2,.ref 8 0),(3,.ref 6 0),(4,.ref 9 0)]) (D5 AL q tree ln pos0 pos AF depth nd C.l) (some 34)
 ·cases h;refine yO (ops:=Aj Tryz.f83 1) (by kernel_rfl) ?_;exact yP hn [0,1,2,3,4,5,6,7,8,9,10,11,12,13,14,15,16,17,18,19,20,21,22,23] [] 24 ((H0.b 12 c0)) (AG 77 [(0,.ref 10 0),(1,.ref 7 0),(2,.ref 8 0),(3,.ref 6 0),(4,.ref 9 0)]) (D5 AL q tree ln pos0 pos AF depth nd C.l) (some 34))
def pQ:Nat -> List DV:=fun _=>[.ref 10 0,.ref 7 0,.ref 6 0,.ref 9 0,.ref 8 0]
def HV (AL:List Int)(q:AA)(tree:List (Int×Int))(ln:Nat)(pos0 pos:List Int)(AF depth:Int)(nd:Int×Int):Nat -> DH:=fun l=>[oI AL,some (.ro (AN q)),some (.ro [.sl 2 tree.length (AP BM tree)]),some (.ro [.msl 0 1 0 ln]),some (.ro [.ints pos0]),some (.ro (AN q++[.sl 2 tree.length (AP BM tree),.msl 0 1 0 ln,.yl l])),some (.ro [.ref 5 0]),some (.ro [.ints pos]),some (.ro [.i AF]),some (.ro [.i depth]),some (.ro [.i nd.1,.i nd.2])]
def pR (y:Int):DV:=.i y
abbrev zEV:=(List Int) -> AA -> (List (Int×Int)) -> Nat -> (List Int) -> (List Int) -> Int -> Int -> (Int×Int) -> Option (YR Au Int (List Int))
def zEU (f:zEV):Prop:=∀ (AL:List Int) (q:AA) (tree:List (Int×Int)) (ln:Nat) (pos0 pos:List Int) (AF depth:Int) (nd:Int×Int) (r:YR Au Int (List Int)),f AL q tree ln pos0 pos AF depth nd=some r -> YC Tryz.prog GG Dj 87 (pQ) (HV AL q tree ln pos0 pos AF depth nd) (r.1.map KR) (r.2.1.map pR) (HV r.2.2 q tree ln pos0 pos AF depth nd)
def Q7 (n:Nat)(An:EH)(AL:List Int)(q:AA)(tree:List (Int×Int))(ln:Nat)(pos0 pos:List Int)(AF depth:Int)(nd:Int×Int):Option (YR Au Int (List Int)):= bif (nd.2==0) then (Jz n pos).bind fun y1=> bif y1 then if pos.length=(List.replicate pos.length (0:Int)).length/\ (((pos.length:Int):Int)=(pos.length:Int)/\ 0<=(pos.length:Int)/\ ((pos.length:Int):Int)<=1000000000000) then yx (List.replicate pos.length (0:Int),([]:List Int),depth) (if AJ (AF+1) then some ([],some (AF+1),AL) else none) else none else some ([],none,AL) else some ([],none,AL)
def Q8 (n:Nat)(An:EH)(AL:List Int)(q:AA)(tree:List (Int×Int))(ln:Nat)(pos0 pos:List Int)(AF depth:Int)(nd:Int×Int):Option (YR Au Int (List Int)):=Q7 n An AL q tree ln pos0 pos AF depth nd
theorem zET {n:Nat}{An:EH}(CO:I1 An):zEU (Q8 n An):=fun AL q tree ln pos0 pos AF depth nd r h=>YC.ofY (L:=11) (h':=fun l o=>HV o q tree ln pos0 pos AF depth nd l) Tryz.func87 (fun C i ρ0 hn hd=>by
 replace h:Q7 n An AL q tree ln pos0 pos AF depth nd=some r:=h;unfold Q7 at h;have p:=H0;refine gs (AV 2 (AV 1 AC)) [0,1,2,3,4,5,6,7,8,9,10] p (Co (AX Tryz.f87) 1 []) (AG 26 [(0,.ref 10 0),(1,.ref 7 0),(2,.ref 6 0),(3,.ref 9 0),(4,.ref 8 0)]) (HV AL q tree ln pos0 pos AF depth nd C.l) ?_;rcases By h with ⟨c0,h⟩ | ⟨c0,h⟩
 ·obtain ⟨y1,A7,h⟩:=Fm h;rcases By h with ⟨c1,h⟩ | ⟨c1,h⟩
  ·refine yO (ops:=Aj Tryz.f87 1) (by kernel_rfl) ?_;refine yT hn [0,1,2,3,4,5,6] [] 7 ((H0.b 8 c0 |>.c (fb (OW A7) (HV AL q tree ln pos0 pos AF depth nd C.l)) |>.b 11 c1)) (AG 26 [(1,.ref 7 0),(2,.ref 6 0),(3,.ref 9 0),(4,.ref 8 0)]) (HV AL q tree ln pos0 pos AF depth nd C.l) (some 13) ?_ hd;refine y0 ?_;have p:=H0;refine gs (AV 2 (AV 1 AC)) [0,1,2,3,4,5,6,7,8,9,10] p (Co (AX Tryz.f87) 2 []) (AG 26 [(1,.ref 7 0),(2,.ref 6 0),(3,.ref 9 0),(4,.ref 8 0)]) (HV AL q tree ln pos0 pos AF depth nd C.l) ?_;obtain ⟨⟨g0,g1⟩,h⟩:=B0 h;refine yD (ops:=Aj Tryz.f87 2) [([0,1,2,3,4,5,7],6)] [8] [9] ((H0.g g1 |>.z 20 11 |>.g g0 |>.o 22 (AS.aggL (l:=[.ints (List.replicate pos.length (0:Int)),.nils,.i depth]) (l':=[.ints (List.replicate pos.length (0:Int)),.ints ([]:List Int),.i depth]) rfl ⟨A3,AS.ints_nil,A3,trivial⟩))) (AG 26 [(4,.ref 8 0),(17,.yl C.l),(22,.agg 3 (L1 [.ints (List.replicate pos.length (0:Int)),.ints ([]:List Int),.i depth]))]) (HV AL q tree ln pos0 pos AF depth nd C.l++[none]) ?_;refine yY hn [] [] 9 H0 (AG 26 [(4,.ref 8 0)]) (HV AL q tree ln pos0 pos AF depth nd C.l++[none]) (some 23) h hd fun r i h hd=>?_
   refine y0 ?_;obtain ⟨g2,h⟩:=B0 h;have p:=H0.w 25 g2;cases h;exact yF (ee (AV 2 (AV 1 AC)) [5] [0,1,2,3,4,5,6,7,8,9,10] p)
  ·cases h;refine yO (ops:=Aj Tryz.f87 1) (by kernel_rfl) ?_;exact yP hn [0,1,2,3,4,5,6] [] 7 ((H0.b 8 c0 |>.c (fb (OW A7) (HV AL q tree ln pos0 pos AF depth nd C.l)) |>.b 11 c1)) (AG 26 [(1,.ref 7 0),(2,.ref 6 0),(3,.ref 9 0),(4,.ref 8 0)]) (HV AL q tree ln pos0 pos AF depth nd C.l) (some 13)
 ·cases h;refine yO (ops:=Aj Tryz.f87 1) (by kernel_rfl) ?_;exact yP hn [0,1,2,3,4,5,6] [] 7 ((H0.b 8 c0)) (AG 26 [(1,.ref 7 0),(2,.ref 6 0),(3,.ref 9 0),(4,.ref 8 0)]) (HV AL q tree ln pos0 pos AF depth nd C.l) (some 13))
def pK:Nat -> List DV:=fun _=>[.ref 7 0,.ref 10 0,.ref 6 0,.ref 9 0,.ref 8 0]
def Fl (AL:List Int)(q:AA)(tree:List (Int×Int))(ln:Nat)(pos0 pos:List Int)(AF depth:Int)(nd:Int×Int):Nat -> DH:=fun l=>[oI AL,some (.ro (AN q)),some (.ro [.sl 2 tree.length (AP BM tree)]),some (.ro [.msl 0 1 0 ln]),some (.ro [.ints pos0]),some (.ro (AN q++[.sl 2 tree.length (AP BM tree),.msl 0 1 0 ln,.yl l])),some (.ro [.ref 5 0]),some (.ro [.ints pos]),some (.ro [.i AF]),some (.ro [.i depth]),some (.ro [.i nd.1,.i nd.2])]
def pL (y:Int):DV:=.i y
abbrev zEC:=(List Int) -> AA -> (List (Int×Int)) -> Nat -> (List Int) -> (List Int) -> Int -> Int -> (Int×Int) -> Option (YR Au Int (List Int))
def zEB (f:zEC):Prop:=∀ (AL:List Int) (q:AA) (tree:List (Int×Int)) (ln:Nat) (pos0 pos:List Int) (AF depth:Int) (nd:Int×Int) (r:YR Au Int (List Int)),f AL q tree ln pos0 pos AF depth nd=some r -> YC Tryz.prog GG Dj 88 (pK) (Fl AL q tree ln pos0 pos AF depth nd) (r.1.map KR) (r.2.1.map pL) (Fl r.2.2 q tree ln pos0 pos AF depth nd)
def M8 (n:Nat)(An:EH)(AL:List Int)(q:AA)(tree:List (Int×Int))(ln:Nat)(pos0 pos:List Int)(AF depth:Int)(nd:Int×Int):Option (YR Au Int (List Int)):= (Vk n pos).bind fun y1=> bif (nd.2==0) then bif y1.2 then (GI n q y1.1).bind fun y2=> bif (y2.2==0) then bif y2.1 then yx (pos,y1.1,depth) (if AJ (AF+1) then some ([],some (AF+1),AL) else none) else some ([],none,AL) else some ([],none,AL) else some ([],none,AL) else some ([],none,AL)
def M9 (n:Nat)(An:EH)(AL:List Int)(q:AA)(tree:List (Int×Int))(ln:Nat)(pos0 pos:List Int)(AF depth:Int)(nd:Int×Int):Option (YR Au Int (List Int)):=M8 n An AL q tree ln pos0 pos AF depth nd
theorem zEA {n:Nat}{An:EH}(CO:I1 An):zEB (M9 n An):=fun AL q tree ln pos0 pos AF depth nd r h=>YC.ofY (L:=11) (h':=fun l o=>Fl o q tree ln pos0 pos AF depth nd l) Tryz.func88 (fun C i ρ0 hn hd=>by
 replace h:M8 n An AL q tree ln pos0 pos AF depth nd=some r:=h;unfold M8 at h;obtain ⟨y1,A7,h⟩:=Fm h;have p:=H0.c (fb (sV A7) (Fl AL q tree ln pos0 pos AF depth nd C.l));refine gs (AV 5 (AV 4 (AV 2 AC))) [0,1,2,3,4,5,6,7,8,9,10] p (Co (AX Tryz.f88) 2 []) (AG 48 [(0,.ref 7 0),(1,.ref 10 0),(2,.ref 6 0),(3,.ref 9 0),(4,.ref 8 0),(6,.ints y1.1),(7,.bool y1.2)]) (Fl AL q tree ln pos0 pos AF depth nd C.l) ?_;rcases By h with ⟨c0,h⟩ | ⟨c0,h⟩
 ·rcases By h with ⟨c1,h⟩ | ⟨c1,h⟩
  ·rw [c1];refine yO (ops:=Aj Tryz.f88 2) (by kernel_rfl) ?_;refine yT hn [0,1,2,3,4,5] [] 6 ((H0.b 17 c0)) (AG 48 [(0,.ref 7 0),(2,.ref 6 0),(3,.ref 9 0),(4,.ref 8 0),(6,.ints y1.1)]) (Fl AL q tree ln pos0 pos AF depth nd C.l) (some 21) ?_ hd;refine y0 ?_;obtain ⟨y2,B6,h⟩:=Fm h;have p:=H0.c (fb (Rv B6) (Fl AL q tree ln pos0 pos AF depth nd C.l));refine gs (AV 5 (AV 4 (AV 2 AC))) [0,1,2,3,4,5,6,7,8,9,10] p (Co (AX Tryz.f88) 4 []) (AG 48 [(0,.ref 7 0),(2,.ref 6 0),(3,.ref 9 0),(4,.ref 8 0),(6,.ints y1.1),(8,.bool y2.1),(9,.i y2.2)]) (Fl AL q tree ln pos0 pos AF depth nd C.l) ?_;rcases By h with ⟨c0,h⟩ | ⟨c0,h⟩
   ·rcases By h with ⟨c1,h⟩ | ⟨c1,h⟩
    ·rw [c1];refine yO (ops:=Aj Tryz.f88 4) (by kernel_rfl) ?_;refine yT hn [0,1,2,3,4] [] 5 ((H0.b 32 c0)) (AG 48 [(0,.ref 7 0),(2,.ref 6 0),(3,.ref 9 0),(4,.ref 8 0),(6,.ints y1.1)]) (Fl AL q tree ln pos0 pos AF depth nd C.l) (some 36) ?_ hd;refine y0 ?_;have p:=H0;refine gs (AV 5 (AV 4 (AV 2 AC))) [0,1,2,3,4,5,6,7,8,9,10] p (Co (AX Tryz.f88) 5 []) (AG 48 [(0,.ref 7 0),(2,.ref 6 0),(3,.ref 9 0),(4,.ref 8 0),(6,.ints y1.1)]) (Fl AL q tree ln pos0 pos AF depth nd C.l) ?_;refine yD (ops:=Aj Tryz.f88 5) [] [0,1,2,3,4,5,6,7] [8] H0 (AG 48 [(4,.ref 8 0),(40,.yl C.l),(44,.agg 3 (L1 [.ints pos,.ints y1.1,.i depth]))]) (Fl AL q tree ln pos0 pos AF depth nd C.l) ?_;refine yY hn [] [] 8 H0 (AG 48 [(4,.ref 8 0)]) (Fl AL q tree ln pos0 pos AF depth nd C.l) (some 45) h hd fun r i h hd=>?_
     refine y0 ?_;obtain ⟨g0,h⟩:=B0 h;have p:=H0.w 47 g0;cases h;exact yF (ee (AV 5 (AV 4 (AV 2 AC))) [5] [0,1,2,3,4,5,6,7,8,9,10] p)
    ·rw [c1];cases h;refine yO (ops:=Aj Tryz.f88 4) (by kernel_rfl) ?_;exact yP hn [0,1,2,3,4] [] 5 ((H0.b 32 c0)) (AG 48 [(0,.ref 7 0),(2,.ref 6 0),(3,.ref 9 0),(4,.ref 8 0),(6,.ints y1.1)]) (Fl AL q tree ln pos0 pos AF depth nd C.l) (some 36)
   ·cases h;refine yO (ops:=Aj Tryz.f88 4) (by kernel_rfl) ?_;exact yP hn [0,1,2,3,4] [] 5 ((H0.b 32 c0)) (AG 48 [(0,.ref 7 0),(2,.ref 6 0),(3,.ref 9 0),(4,.ref 8 0),(6,.ints y1.1)]) (Fl AL q tree ln pos0 pos AF depth nd C.l) (some 36)
  ·rw [c1];cases h;refine yO (ops:=Aj Tryz.f88 2) (by kernel_rfl) ?_;exact yP hn [0,1,2,3,4,5] [] 6 ((H0.b 17 c0)) (AG 48 [(0,.ref 7 0),(2,.ref 6 0),(3,.ref 9 0),(4,.ref 8 0),(6,.ints y1.1)]) (Fl AL q tree ln pos0 pos AF depth nd C.l) (some 21)
 ·cases h;refine yO (ops:=Aj Tryz.f88 2) (by kernel_rfl) ?_;exact yP hn [0,1,2,3,4,5] [] 6 ((H0.b 17 c0)) (AG 48 [(0,.ref 7 0),(2,.ref 6 0),(3,.ref 9 0),(4,.ref 8 0),(6,.ints y1.1)]) (Fl AL q tree ln pos0 pos AF depth nd C.l) (some 21))
theorem uV:As (Aj Tryz.f58 2) [([0,1,2,3,4,5,6],7)] [] [8]:=by unfold As;kernel_rfl
theorem uU:As (Aj Tryz.f58 6) [] (List.range 8) []:=by unfold As;kernel_rfl
def L7:Bh:=fun i=>match i with
 | 2=>.ord [([0,1,2,3,4,5,6],7)] [] [8]
 | 6=>.ord [] (List.range 8) []
 | _=>.no
inductive QF where
 | l1 (o0:List Int)
def TM (n:Nat)(An:EH)(self:QF -> Option (YR Au Int (List Int)))(pos:List Int)(AF depth:Int)(AL:List Int)(q:AA)(tree:List (Int×Int))(ln:Nat)(pos0:List Int)(o0:List Int):Option (YR Au Int (List Int)):= if (0<=AF/\ AF<(ln:Int))/\ 0+((AF).toNat)<o0.length then some ([],some (o0.getD (0+((AF).toNat)) 0),o0) else none
def Fe (n:Nat)(An:EH)(self:QF -> Option (YR Au Int (List Int)))(pos:List Int)(AF depth:Int)(AL:List Int)(q:AA)(tree:List (Int×Int))(ln:Nat)(pos0:List Int):Option (YR Au Int (List Int)):= bif (decide (AF<(tree.length:Int))) then if 0<=AF/\ AF<(tree.length:Int) then bif (decide (((tree.getD ((AF).toNat) default).1)>=1)) then bif (decide (((tree.getD ((AF).toNat) default).1)<=4)) then bif (((tree.getD ((AF).toNat) default).1)==0) then none else bif (((tree.getD ((AF).toNat) default).1)==1) then yb (aS n An AL q tree ln pos0 pos AF depth (tree.getD ((AF).toNat) default)) fun y1 o1=> if (0<=AF/\ AF<(ln:Int))/\ 0+((AF).toNat)<o1.length then self (.l1 (o1.set (0+((AF).toNat)) y1)) else none else bif (((tree.getD ((AF).toNat) default).1)==2) then yb (Lz n An AL q tree ln pos0 pos AF depth (tree.getD ((AF).toNat) default)) fun y1 o1=> if (0<=AF/\ AF<(ln:Int))/\ 0+((AF).toNat)<o1.length then self (.l1 (o1.set (0+((AF).toNat)) y1)) else none else bif (((tree.getD ((AF).toNat) default).1)==3) then yb (Q8 n An AL q tree ln pos0 pos AF depth (tree.getD ((AF).toNat) default)) fun y1 o1=> if (0<=AF/\ AF<(ln:Int))/\ 0+((AF).toNat)<o1.length then self (.l1 (o1.set (0+((AF).toNat)) y1)) else none else bif (((tree.getD ((AF).toNat) default).1)==4) then yb (M9 n An AL q tree ln pos0 pos AF depth (tree.getD ((AF).toNat) default)) fun y1 o1=> if (0<=AF/\ AF<(ln:Int))/\ 0+((AF).toNat)<o1.length then self (.l1 (o1.set (0+((AF).toNat)) y1)) else none else none else some ([],none,AL) else some ([],none,AL) else none else some ([],none,AL)
def GR (An:EH)(pos:List Int)(AF depth:Int)(AL:List Int)(q:AA)(tree:List (Int×Int))(ln:Nat)(pos0:List Int):Nat -> QF -> Option (YR Au Int (List Int))
 | 0,_=>none
 | n+1,.l1 o0=>TM n An (GR An pos AF depth AL q tree ln pos0 n) pos AF depth AL q tree ln pos0 o0
def az (C:Ba Tryz.prog)(ρ0:List AH)(n:Nat)(pos:List Int)(AF depth:Int)(AL:List Int)(q:AA)(tree:List (Int×Int))(ln:Nat)(pos0:List Int)(r:YR Au Int (List Int)):QF -> Prop
 | .l1 o0=>∀ i:Nat,DR C KR i r -> TY C Dj Tryz.f58 6 ρ0 TN (fun o=>DC o q tree ln pos0 C.l) (Co (AX Tryz.f58) 6 []) i r ⟨AG 58 [(4,.ref 6 0),(6,.ref 7 0)],[oI o0,some (.ro (AN q)),some (.ro [.sl 2 tree.length (AP BM tree)]),some (.ro [.msl 0 1 0 ln]),some (.ro [.ints pos0]),some (.ro (AN q++[.sl 2 tree.length (AP BM tree),.msl 0 1 0 ln,.yl C.l])),some (.ro [.ref 5 0]),some (.ro [.i AF])]⟩
theorem xq (C:Ba Tryz.prog)(hn:C.nv)(ρ0:List AH)(n:Nat)(An:EH)(CO:I1 An)(self:QF -> Option (YR Au Int (List Int)))(pos:List Int)(AF depth:Int)(AL:List Int)(q:AA)(tree:List (Int×Int))(ln:Nat)(pos0:List Int)(AI: ∀ pt r,self pt=some r -> az C ρ0 n pos AF depth AL q tree ln pos0 r pt)(o0:List Int)(r:YR Au Int (List Int))(h:TM n An self pos AF depth AL q tree ln pos0 o0=some r):az C ρ0 (n+1) pos AF depth AL q tree ln pos0 r (.l1 o0):=by
 intro i hd;unfold TM at h;obtain ⟨⟨g0,g1⟩,h⟩:=B0 h;have p:=H0.g uU |>.g g0 |>.g g1
 cases h;exact yF (ee (AV 5 (AV 4 (AV 1 L7))) [8] [0,1,2,3,4,5] p)
theorem lH (C:Ba Tryz.prog)(hn:C.nv)(ρ0:List AH)(An:EH)(CO:I1 An)(pos:List Int)(AF depth:Int)(AL:List Int)(q:AA)(tree:List (Int×Int))(ln:Nat)(pos0:List Int): ∀ (n:Nat) (pt:QF) (r:YR Au Int (List Int)),GR An pos AF depth AL q tree ln pos0 n pt=some r -> az C ρ0 n pos AF depth AL q tree ln pos0 r pt
 | 0,_,_,h=>by cases h
 | n+1,.l1 o0,r,h=>xq C hn ρ0 n An CO (GR An pos AF depth AL q tree ln pos0 n) pos AF depth AL q tree ln pos0 (lH C hn ρ0 An CO pos AF depth AL q tree ln pos0 n) o0 r h
def CD:Nat -> (List Int) -> Int -> Int -> (List Int) -> AA -> (List (Int×Int)) -> Nat -> (List Int) -> Option (YR Au Int (List Int))
 | 0,_,_,_,_,_,_,_,_=>none
 | n+1,pos,AF,depth,AL,q,tree,ln,pos0=>Fe n (CD n) (GR (CD n) pos AF depth AL q tree ln pos0 n) pos AF depth AL q tree ln pos0
theorem xp {n:Nat}{An:EH}(CO:I1 An):I1 (fun pos AF depth AL q tree ln pos0=>Fe n An (GR An pos AF depth AL q tree ln pos0 n) pos AF depth AL q tree ln pos0):=fun pos AF depth AL q tree ln pos0 r h=>YC.ofY (L:=6) (h':=fun l o=>DC o q tree ln pos0 l) Tryz.func58 (fun C i ρ0 hn hd=>by
 replace h:Fe n An (GR An pos AF depth AL q tree ln pos0 n) pos AF depth AL q tree ln pos0=some r:=h;have AI:=(lH C hn ρ0 An CO pos AF depth AL q tree ln pos0 n);unfold Fe at h
 generalize GR An pos AF depth AL q tree ln pos0 n=self at h AI
 have p:=H0;refine gs (AV 6 (AV 5 (AV 4 (AV 1 L7)))) [0,1,2,3,4,5,6,7,8,9] p (Co (AX Tryz.f58) 1 []) (AG 58 [(4,.ref 6 0),(5,.ref 7 0),(6,.ref 8 0),(7,.ref 9 0)]) (DC AL q tree ln pos0 C.l++[oC [.ref 5 0],oC [.ints pos],oC [.i AF],oC [.i depth]]) ?_;rcases By h with ⟨c0,h⟩ | ⟨c0,h⟩
 ·refine yD (ops:=Aj Tryz.f58 1) [] [0,1,2,3,4,5,6] [7] ((H0.b 17 c0)) (AG 58 [(4,.ref 6 0),(5,.ref 7 0),(6,.ref 8 0),(7,.ref 9 0),(17,.bool true)]) (DC AL q tree ln pos0 C.l++[oC [.ref 5 0],oC [.ints pos],oC [.i AF],oC [.i depth]]) ?_;refine yT hn [] [] 7 H0 (AG 58 [(4,.ref 6 0),(5,.ref 7 0),(6,.ref 8 0),(7,.ref 9 0)]) (DC AL q tree ln pos0 C.l++[oC [.ref 5 0],oC [.ints pos],oC [.i AF],oC [.i depth]]) (some 18) ?_ hd;refine y0 ?_;obtain ⟨g0,h⟩:=B0 h;have p:=H0.g uV |>.g g0 |>.t |>.t
  refine gs (AV 6 (AV 5 (AV 4 (AV 1 L7)))) [0,1,2,3,4,5,6,7,8,9,10,11] p (Co (AX Tryz.f58) 4 []) (AG 58 [(4,.ref 6 0),(6,.ref 8 0),(9,.ref 10 0),(10,.ref 11 0)]) (DC AL q tree ln pos0 C.l++[oC [.ref 5 0],oC [.ints pos],oC [.i AF],oC [.i depth],oC [.i ((tree.getD ((AF).toNat) default).1),.i ((tree.getD ((AF).toNat) default).2)],oC [.cst .nilFunc,.fn 81 5 (L1 [.ref 6 0,.ref 10 0,.ref 7 0,.ref 8 0,.ref 9 0]),.fn 83 5 (L1 [.ref 10 0,.ref 7 0,.ref 8 0,.ref 6 0,.ref 9 0]),.fn 87 5 (L1 [.ref 10 0,.ref 7 0,.ref 6 0,.ref 9 0,.ref 8 0]),.fn 88 5 (L1 [.ref 7 0,.ref 10 0,.ref 6 0,.ref 9 0,.ref 8 0])]]) ?_;rcases By h with ⟨c0,h⟩ | ⟨c0,h⟩
  ·rcases By h with ⟨c1,h⟩ | ⟨c1,h⟩
   ·refine yO (ops:=Aj Tryz.f58 4) (by kernel_rfl) ?_;refine yT hn [0,1,2,3,4,5,6,7] [] 8 ((H0.b 33 c0 |>.b 37 c1)) (AG 58 [(4,.ref 6 0),(6,.ref 8 0),(9,.ref 10 0),(10,.ref 11 0)]) (DC AL q tree ln pos0 C.l++[oC [.ref 5 0],oC [.ints pos],oC [.i AF],oC [.i depth],oC [.i ((tree.getD ((AF).toNat) default).1),.i ((tree.getD ((AF).toNat) default).2)],oC [.cst .nilFunc,.fn 81 5 (L1 [.ref 6 0,.ref 10 0,.ref 7 0,.ref 8 0,.ref 9 0]),.fn 83 5 (L1 [.ref 10 0,.ref 7 0,.ref 8 0,.ref 6 0,.ref 9 0]),.fn 87 5 (L1 [.ref 10 0,.ref 7 0,.ref 6 0,.ref 9 0,.ref 8 0]),.fn 88 5 (L1 [.ref 7 0,.ref 10 0,.ref 6 0,.ref 9 0,.ref 8 0])]]) (some 39) ?_ hd;refine y0 ?_;have p:=H0;refine gs (AV 6 (AV 5 (AV 4 (AV 1 L7)))) [0,1,2,3,4,5,6,7,8,9,10,11] p (Co (AX Tryz.f58) 5 []) (AG 58 [(4,.ref 6 0),(6,.ref 8 0),(9,.ref 10 0),(10,.ref 11 0)]) (DC AL q tree ln pos0 C.l++[oC [.ref 5 0],oC [.ints pos],oC [.i AF],oC [.i depth],oC [.i ((tree.getD ((AF).toNat) default).1),.i ((tree.getD ((AF).toNat) default).2)],oC [.cst .nilFunc,.fn 81 5 (L1 [.ref 6 0,.ref 10 0,.ref 7 0,.ref 8 0,.ref 9 0]),.fn 83 5 (L1 [.ref 10 0,.ref 7 0,.ref 8 0,.ref 6 0,.ref 9 0]),.fn 87 5 (L1 [.ref 10 0,.ref 7 0,.ref 6 0,.ref 9 0,.ref 8 0]),.fn 88 5 (L1 [.ref 7 0,.ref 10 0,.ref 6 0,.ref 9 0,.ref 8 0])]]) ?_;refine fU [6,7,8,9,10,11] (DC AL q tree ln pos0 C.l++[some (.ro [.ref 5 0]),some (.ro [.ints pos]),some (.ro [.i AF]),some (.ro [.i depth]),some (.ro [.i ((tree.getD ((AF).toNat) default).1),.i ((tree.getD ((AF).toNat) default).2)]),some (.ro [.cst .nilFunc,.fn 81 5 (L1 [.ref 6 0,.ref 10 0,.ref 7 0,.ref 8 0,.ref 9 0]),.fn 83 5 (L1 [.ref 10 0,.ref 7 0,.ref 8 0,.ref 6 0,.ref 9 0]),.fn 87 5 (L1 [.ref 10 0,.ref 7 0,.ref 6 0,.ref 9 0,.ref 8 0]),.fn 88 5 (L1 [.ref 7 0,.ref 10 0,.ref 6 0,.ref 9 0,.ref 8 0])])]) ?_;rcases By h with ⟨c0,h⟩ | ⟨c0,h⟩
    ·cases h
    ·rcases By h with ⟨c2,h⟩ | ⟨c2,h⟩
     ·refine yR (ops:=Aj Tryz.f58 5) (ds:=kH) (hc:=IF AL q tree ln pos0 pos AF depth (tree.getD ((AF).toNat) default)) (h':=fun l o=>IF o q tree ln pos0 pos AF depth (tree.getD ((AF).toNat) default) l) (tD':=kI) hn [0,1,2,3,4,5,6,7,8] [10,11] [0] 9 ((H0.o 46 (AS.int (k:=.i64) (eq_of_beq c2)) |>.g (by decide:(0:Int)<=1/\ 1<((5:Nat):Int)))) (AG 58 [(4,.ref 6 0),(6,.ref 8 0),(43,.msl 0 1 0 ln),(44,.i AF)]) (DC AL q tree ln pos0 C.l++[some (.ro [.ref 5 0]),some (.ro [.ints pos]),some (.ro [.i AF]),some (.ro [.i depth]),some (.ro [.i ((tree.getD ((AF).toNat) default).1),.i ((tree.getD ((AF).toNat) default).2)]),some (.ro [.cst .nilFunc,.fn 81 5 (L1 [.ref 6 0,.ref 10 0,.ref 7 0,.ref 8 0,.ref 9 0]),.fn 83 5 (L1 [.ref 10 0,.ref 7 0,.ref 8 0,.ref 6 0,.ref 9 0]),.fn 87 5 (L1 [.ref 10 0,.ref 7 0,.ref 6 0,.ref 9 0,.ref 8 0]),.fn 88 5 (L1 [.ref 7 0,.ref 10 0,.ref 6 0,.ref 9 0,.ref 8 0])])]) (some 49) h hd (fun a ha=>wf CO _ _ _ _ _ _ _ _ _ a ha) (fun y1 o1 r i h hd=>?_);obtain ⟨⟨g1,g2⟩,h⟩:=B0 h;refine yE ((H0.g g1 |>.g g2)) (AG 58 [(4,.ref 6 0),(6,.ref 8 0)]) (DC (o1.set (0+((AF).toNat)) y1) q tree ln pos0 C.l++[some (.ro [.ref 5 0]),some (.ro [.ints pos]),some (.ro [.i AF]),some (.ro [.i depth]),some (.ro [.i ((tree.getD ((AF).toNat) default).1),.i ((tree.getD ((AF).toNat) default).2)]),some (.ro [.cst .nilFunc,.fn 81 5 (L1 [.ref 6 0,.ref 10 0,.ref 7 0,.ref 8 0,.ref 9 0]),.fn 83 5 (L1 [.ref 10 0,.ref 7 0,.ref 8 0,.ref 6 0,.ref 9 0]),.fn 87 5 (L1 [.ref 10 0,.ref 7 0,.ref 6 0,.ref 9 0,.ref 8 0]),.fn 88 5 (L1 [.ref 7 0,.ref 10 0,.ref 6 0,.ref 9 0,.ref 8 0])])]) ?_;have p:=H0;exact gg (AV 6 (AV 5 (AV 4 (AV 1 L7)))) [0,1,2,3,4,5,6,8] p (AI _ _ h i hd)
     ·rcases By h with ⟨c4,h⟩ | ⟨c4,h⟩
      ·refine yR (ops:=Aj Tryz.f58 5) (ds:=ib) (hc:=D5 AL q tree ln pos0 pos AF depth (tree.getD ((AF).toNat) default)) (h':=fun l o=>D5 o q tree ln pos0 pos AF depth (tree.getD ((AF).toNat) default) l) (tD':=Zb) hn [0,1,2,3,4,5,6,7,8] [10,11] [0] 9 ((H0.o 46 (AS.int (k:=.i64) (eq_of_beq c4)) |>.g (by decide:(0:Int)<=2/\ 2<((5:Nat):Int)))) (AG 58 [(4,.ref 6 0),(6,.ref 8 0),(43,.msl 0 1 0 ln),(44,.i AF)]) (DC AL q tree ln pos0 C.l++[some (.ro [.ref 5 0]),some (.ro [.ints pos]),some (.ro [.i AF]),some (.ro [.i depth]),some (.ro [.i ((tree.getD ((AF).toNat) default).1),.i ((tree.getD ((AF).toNat) default).2)]),some (.ro [.cst .nilFunc,.fn 81 5 (L1 [.ref 6 0,.ref 10 0,.ref 7 0,.ref 8 0,.ref 9 0]),.fn 83 5 (L1 [.ref 10 0,.ref 7 0,.ref 8 0,.ref 6 0,.ref 9 0]),.fn 87 5 (L1 [.ref 10 0,.ref 7 0,.ref 6 0,.ref 9 0,.ref 8 0]),.fn 88 5 (L1 [.ref 7 0,.ref 10 0,.ref 6 0,.ref 9 0,.ref 8 0])])]) (some 49) h hd (fun a ha=>sM CO _ _ _ _ _ _ _ _ _ a ha) (fun y1 o1 r i h hd=>?_);obtain ⟨⟨g1,g2⟩,h⟩:=B0 h;refine yE ((H0.g g1 |>.g g2)) (AG 58 [(4,.ref 6 0),(6,.ref 8 0)]) (DC (o1.set (0+((AF).toNat)) y1) q tree ln pos0 C.l++[some (.ro [.ref 5 0]),some (.ro [.ints pos]),some (.ro [.i AF]),some (.ro [.i depth]),some (.ro [.i ((tree.getD ((AF).toNat) default).1),.i ((tree.getD ((AF).toNat) default).2)]),some (.ro [.cst .nilFunc,.fn 81 5 (L1 [.ref 6 0,.ref 10 0,.ref 7 0,.ref 8 0,.ref 9 0]),.fn 83 5 (L1 [.ref 10 0,.ref 7 0,.ref 8 0,.ref 6 0,.ref 9 0]),.fn 87 5 (L1 [.ref 10 0,.ref 7 0,.ref 6 0,.ref 9 0,.ref 8 0]),.fn 88 5 (L1 [.ref 7 0,.ref 10 0,.ref 6 0,.ref 9 0,.ref 8 0])])]) ?_;have p:=H0;exact gg (AV 6 (AV 5 (AV 4 (AV 1 L7)))) [0,1,2,3,4,5,6,8] p (AI _ _ h i hd)
      ·rcases By h with ⟨c6,h⟩ | ⟨c6,h⟩
       ·refine yR (ops:=Aj Tryz.f58 5) (ds:=pQ) (hc:=HV AL q tree ln pos0 pos AF depth (tree.getD ((AF).toNat) default)) (h':=fun l o=>HV o q tree ln pos0 pos AF depth (tree.getD ((AF).toNat) default) l) (tD':=pR) hn [0,1,2,3,4,5,6,7,8] [10,11] [0] 9 ((H0.o 46 (AS.int (k:=.i64) (eq_of_beq c6)) |>.g (by decide:(0:Int)<=3/\ 3<((5:Nat):Int)))) (AG 58 [(4,.ref 6 0),(6,.ref 8 0),(43,.msl 0 1 0 ln),(44,.i AF)]) (DC AL q tree ln pos0 C.l++[some (.ro [.ref 5 0]),some (.ro [.ints pos]),some (.ro [.i AF]),some (.ro [.i depth]),some (.ro [.i ((tree.getD ((AF).toNat) default).1),.i ((tree.getD ((AF).toNat) default).2)]),some (.ro [.cst .nilFunc,.fn 81 5 (L1 [.ref 6 0,.ref 10 0,.ref 7 0,.ref 8 0,.ref 9 0]),.fn 83 5 (L1 [.ref 10 0,.ref 7 0,.ref 8 0,.ref 6 0,.ref 9 0]),.fn 87 5 (L1 [.ref 10 0,.ref 7 0,.ref 6 0,.ref 9 0,.ref 8 0]),.fn 88 5 (L1 [.ref 7 0,.ref 10 0,.ref 6 0,.ref 9 0,.ref 8 0])])]) (some 49) h hd (fun a ha=>zET CO _ _ _ _ _ _ _ _ _ a ha) (fun y1 o1 r i h hd=>?_);obtain ⟨⟨g1,g2⟩,h⟩:=B0 h;refine yE ((H0.g g1 |>.g g2)) (AG 58 [(4,.ref 6 0),(6,.ref 8 0)]) (DC (o1.set (0+((AF).toNat)) y1) q tree ln pos0 C.l++[some (.ro [.ref 5 0]),some (.ro [.ints pos]),some (.ro [.i AF]),some (.ro [.i depth]),some (.ro [.i ((tree.getD ((AF).toNat) default).1),.i ((tree.getD ((AF).toNat) default).2)]),some (.ro [.cst .nilFunc,.fn 81 5 (L1 [.ref 6 0,.ref 10 0,.ref 7 0,.ref 8 0,.ref 9 0]),.fn 83 5 (L1 [.ref 10 0,.ref 7 0,.ref 8 0,.ref 6 0,.ref 9 0]),.fn 87 5 (L1 [.ref 10 0,.ref 7 0,.ref 6 0,.ref 9 0,.ref 8 0]),.fn 88 5 (L1 [.ref 7 0,.ref 10 0,.ref 6 0,.ref 9 0,.ref 8 0])])]) ?_;have p:=H0;exact gg (AV 6 (AV 5 (AV 4 (AV 1 L7)))) [0,1,2,3,4,5,6,8] p (AI _ _ h i hd)
       ·rcases By h with ⟨c8,h⟩ | ⟨c8,h⟩
        ·refine yR (ops:=Aj Tryz.f58 5) (ds:=pK) (hc:=Fl AL q tree ln pos0 pos AF depth (tree.getD ((AF).toNat) default)) (h':=fun l o=>Fl o q tree ln pos0 pos AF depth (tree.getD ((AF).toNat) default) l) (tD':=pL) hn [0,1,2,3,4,5,6,7,8] [10,11] [0] 9 ((H0.o 46 (AS.int (k:=.i64) (eq_of_beq c8)) |>.g (by decide:(0:Int)<=4/\ 4<((5:Nat):Int)))) (AG 58 [(4,.ref 6 0),(6,.ref 8 0),(43,.msl 0 1 0 ln),(44,.i AF)]) (DC AL q tree ln pos0 C.l++[some (.ro [.ref 5 0]),some (.ro [.ints pos]),some (.ro [.i AF]),some (.ro [.i depth]),some (.ro [.i ((tree.getD ((AF).toNat) default).1),.i ((tree.getD ((AF).toNat) default).2)]),some (.ro [.cst .nilFunc,.fn 81 5 (L1 [.ref 6 0,.ref 10 0,.ref 7 0,.ref 8 0,.ref 9 0]),.fn 83 5 (L1 [.ref 10 0,.ref 7 0,.ref 8 0,.ref 6 0,.ref 9 0]),.fn 87 5 (L1 [.ref 10 0,.ref 7 0,.ref 6 0,.ref 9 0,.ref 8 0]),.fn 88 5 (L1 [.ref 7 0,.ref 10 0,.ref 6 0,.ref 9 0,.ref 8 0])])]) (some 49) h hd (fun a ha=>zEA CO _ _ _ _ _ _ _ _ _ a ha) (fun y1 o1 r i h hd=>?_);obtain ⟨⟨g1,g2⟩,h⟩:=B0 h;refine yE ((H0.g g1 |>.g g2)) (AG 58 [(4,.ref 6 0),(6,.ref 8 0)]) (DC (o1.set (0+((AF).toNat)) y1) q tree ln pos0 C.l++[some (.ro [.ref 5 0]),some (.ro [.ints pos]),some (.ro [.i AF]),some (.ro [.i depth]),some (.ro [.i ((tree.getD ((AF).toNat) default).1),.i ((tree.getD ((AF).toNat) default).2)]),some (.ro [.cst .nilFunc,.fn 81 5 (L1 [.ref 6 0,.ref 10 0,.ref 7 0,.ref 8 0,.ref 9 0]),.fn 83 5 (L1 [.ref 10 0,.ref 7 0,.ref 8 0,.ref 6 0,.ref 9 0]),.fn 87 5 (L1 [.ref 10 0,.ref 7 0,.ref 6 0,.ref 9 0,.ref 8 0]),.fn 88 5 (L1 [.ref 7 0,.ref 10 0,.ref 6 0,.ref 9 0,.ref 8 0])])]) ?_;have p:=H0;exact gg (AV 6 (AV 5 (AV 4 (AV 1 L7)))) [0,1,2,3,4,5,6,8] p (AI _ _ h i hd)
        ·cases h
   ·cases h;refine yO (ops:=Aj Tryz.f58 4) (by kernel_rfl) ?_;exact yP hn [0,1,2,3,4,5,6,7] [] 8 ((H0.b 33 c0 |>.b 37 c1)) (AG 58 [(4,.ref 6 0),(6,.ref 8 0),(9,.ref 10 0),(10,.ref 11 0)]) (DC AL q tree ln pos0 C.l++[oC [.ref 5 0],oC [.ints pos],oC [.i AF],oC [.i depth],oC [.i ((tree.getD ((AF).toNat) default).1),.i ((tree.getD ((AF).toNat) default).2)],oC [.cst .nilFunc,.fn 81 5 (L1 [.ref 6 0,.ref 10 0,.ref 7 0,.ref 8 0,.ref 9 0]),.fn 83 5 (L1 [.ref 10 0,.ref 7 0,.ref 8 0,.ref 6 0,.ref 9 0]),.fn 87 5 (L1 [.ref 10 0,.ref 7 0,.ref 6 0,.ref 9 0,.ref 8 0]),.fn 88 5 (L1 [.ref 7 0,.ref 10 0,.ref 6 0,.ref 9 0,.ref 8 0])]]) (some 39)
  ·cases h;refine yO (ops:=Aj Tryz.f58 4) (by kernel_rfl) ?_;exact yP hn [0,1,2,3,4,5,6,7] [] 8 ((H0.b 33 c0)) (AG 58 [(4,.ref 6 0),(6,.ref 8 0),(9,.ref 10 0),(10,.ref 11 0)]) (DC AL q tree ln pos0 C.l++[oC [.ref 5 0],oC [.ints pos],oC [.i AF],oC [.i depth],oC [.i ((tree.getD ((AF).toNat) default).1),.i ((tree.getD ((AF).toNat) default).2)],oC [.cst .nilFunc,.fn 81 5 (L1 [.ref 6 0,.ref 10 0,.ref 7 0,.ref 8 0,.ref 9 0]),.fn 83 5 (L1 [.ref 10 0,.ref 7 0,.ref 8 0,.ref 6 0,.ref 9 0]),.fn 87 5 (L1 [.ref 10 0,.ref 7 0,.ref 6 0,.ref 9 0,.ref 8 0]),.fn 88 5 (L1 [.ref 7 0,.ref 10 0,.ref 6 0,.ref 9 0,.ref 8 0])]]) (some 39)
 ·refine yD (ops:=Aj Tryz.f58 1) [] [0,1,2,3,4,5,6] [7] ((H0.b 17 c0)) (AG 58 [(4,.ref 6 0),(5,.ref 7 0),(6,.ref 8 0),(7,.ref 9 0),(17,.bool false)]) (DC AL q tree ln pos0 C.l++[oC [.ref 5 0],oC [.ints pos],oC [.i AF],oC [.i depth]]) ?_;cases h;exact yP hn [] [] 7 H0 (AG 58 [(4,.ref 6 0),(5,.ref 7 0),(6,.ref 8 0),(7,.ref 9 0)]) (DC AL q tree ln pos0 C.l++[oC [.ref 5 0],oC [.ints pos],oC [.i AF],oC [.i depth]]) (some 18))
theorem lD: ∀ n,I1 (CD n)
 | 0=>fun _ _ _ _ _ _ _ _ r h=>by cases h
 | n+1=>xp (lD n)
def yw:Nat -> List DV:=fun l=>[.yl l,.ref 1 0,.ref 2 0,.ref 3 0,.ref 4 0]
def Bs (AL:List Int)(q:AA)(tree:List (Int×Int))(ln:Nat)(pos0:List Int):Nat -> DH:=fun l=>[oI AL,some (.ro (AN q)),some (.ro [.sl 2 tree.length (AP BM tree)]),some (.ro [.msl 0 1 0 ln]),some (.ro [.ints pos0])]
def ll (_:Unit):DV:=NW
abbrev zA:=(List Int) -> AA -> (List (Int×Int)) -> Nat -> (List Int) -> Option (YR Au Unit (List Int))
def yz (f:zA):Prop:=∀ (AL:List Int) (q:AA) (tree:List (Int×Int)) (ln:Nat) (pos0:List Int) (r:YR Au Unit (List Int)),f AL q tree ln pos0=some r -> YC Tryz.prog GG Dj 56 (yw) (Bs AL q tree ln pos0) (r.1.map KR) (r.2.1.map ll) (Bs r.2.2 q tree ln pos0)
def QM (n:Nat)(AL:List Int)(q:AA)(tree:List (Int×Int))(ln:Nat)(pos0:List Int):Option (YR Au Unit (List Int)):= yb (CD n pos0 0 0 AL q tree ln pos0) fun y1 o1=> bif (y1==(tree.length:Int)) then some ([],some (),o1) else some ([],none,o1)
def MZ (n:Nat)(AL:List Int)(q:AA)(tree:List (Int×Int))(ln:Nat)(pos0:List Int):Option (YR Au Unit (List Int)):=QM n AL q tree ln pos0
theorem yu {n:Nat}:yz (MZ n):=fun AL q tree ln pos0 r h=>YC.ofY (L:=5) (h':=fun l o=>Bs o q tree ln pos0 l) Tryz.func56 (fun C i ρ0 hn hd=>by
 replace h:QM n AL q tree ln pos0=some r:=h;unfold QM at h;have p:=H0;refine gs (AV 1 AC) [0,1,2,3,4,5] p (Co (AX Tryz.f56) 1 []) (AG 20 [(2,.ref 2 0),(4,.ref 4 0),(6,.ref 5 0)]) (Bs AL q tree ln pos0 C.l++[oC (AN q++[.sl 2 tree.length (AP BM tree),.msl 0 1 0 ln,.yl C.l])]) ?_;refine fU [5] (Bs AL q tree ln pos0 C.l++[some (.ro (AN q++[.sl 2 tree.length (AP BM tree),.msl 0 1 0 ln,.yl C.l]))]) ?_;refine yR (ops:=Aj Tryz.f56 1) (ds:=Wo pos0 0 0) (hc:=DC AL q tree ln pos0) (h':=fun l o=>DC o q tree ln pos0 l) (tD':=TN) hn [0,1,3,4] [5,6] [0] 2 H0 (AG 20 [(17,.i (tree.length:Int))]) (Bs AL q tree ln pos0 C.l++[some (.ro (AN q++[.sl 2 tree.length (AP BM tree),.msl 0 1 0 ln,.yl C.l]))]) (some 15) h hd (fun a ha=>lD n _ _ _ _ _ _ _ _ a ha) (fun y1 o1 r i h hd=>?_);rcases By h with ⟨c0,h⟩ | ⟨c0,h⟩
 ·refine yT hn [5] [] 6 ((H0.b 18 c0)) (AG 20 []) (Bs o1 q tree ln pos0 C.l++[some (.ro (AN q++[.sl 2 tree.length (AP BM tree),.msl 0 1 0 ln,.yl C.l]))]) (some 19) ?_ hd;refine y0 ?_;have p:=H0;cases h;exact yF (ee (AV 1 AC) [] [0,1,2,3,4] p)
 ·cases h;exact yP hn [5] [] 6 ((H0.b 18 c0)) (AG 20 []) (Bs o1 q tree ln pos0 C.l++[some (.ro (AN q++[.sl 2 tree.length (AP BM tree),.msl 0 1 0 ln,.yl C.l]))]) (some 19))
end Go.Proofs.YtkjbblkieglmlaaGreatDoor
namespace Go.Proofs.YtkjbblkieglmlaaGreatDoor
open Go.RowKit
set_option maxRecDepth 100000
set_option maxHeartbeats 40000000
def zG (n:Nat)(q:AA)(pos:List Int)(tree:List (Int×Int))(ln:Nat)(AL:List Int):Option Unit:= some ()
def lm (n:Nat)(q:AA)(pos:List Int)(tree:List (Int×Int))(ln:Nat)(AL:List Int):Option Unit:=zG n q pos tree ln AL
theorem zF {n:Nat}(q:AA)(pos:List Int)(tree:List (Int×Int))(ln:Nat)(AL:List Int){r:Unit}(h:lm n q pos tree ln AL=some r):EQ 37 [.agg 5 (L1 (AN q)),.ints pos,.sl 2 tree.length (AP BM tree),.msl 0 1 0 ln] [oI AL] (.fn 56 4 (L1 [.ref 1 0,.ref 2 0,.ref 3 0,.ref 4 0])) [oI AL,oC (AN q),oC [.sl 2 tree.length (AP BM tree)],oC [.msl 0 1 0 ln],oC [.ints pos]] false:=by
 refine ot Tryz.func37 fun B N=>?_
 revert r;apply gO;exact lE AC [8] [0,1,3,4,2]
def iG:ST:=.rd 0 (.ef 1 (.ef 2 (.ef 3 (.fin [] [6,7,8]) (.no)) (.no)) (.no))
theorem uj:Bv (Aj Tryz.f26 3) [1,2] iG:=by unfold Bv;kernel_rfl
def tO:Bh:=fun i=>match i with
 | 3=>.tre [1,2] iG
 | _=>.no
def gX (q:AA)(y1:Int):St:=⟨(AG 33 [(6,.ref 1 0),(7,.ref 2 0),(8,.ref 3 0)]),([oC (AN q),oC [.nils],oC [.nils],oC [.i y1]]:DH)⟩
def db (n:Nat)(q:AA)(pos:List Int)(tree:List (Int×Int)):Option ((List ((List Int)×(List Int)×Int))×(List Int)×Int):= (JW n q pos tree).bind fun y1=> bif (y1 != 0) then some (([]:List ((List Int)×(List Int)×Int)),([]:List Int),y1) else none
def dc (n:Nat)(q:AA)(pos:List Int)(tree:List (Int×Int)):Option ((List ((List Int)×(List Int)×Int))×(List Int)×Int):=db n q pos tree
theorem zDX {n:Nat}{q:AA}{pos:List Int}{tree:List (Int×Int)}{r:(List ((List Int)×(List Int)×Int))×(List Int)×Int}(h:dc n q pos tree=some r):EQ 26 [.agg 5 (L1 (AN q)),.ints pos,.sl 2 tree.length (AP BM tree)] [] (.tup 3 (L1 [.sl 3 r.1.length (AP (fun (x:(List Int)×(List Int)×Int)=>[.ints x.1,.ints x.2.1,.i x.2.2]) r.1),.ints r.2.1,.i r.2.2])) [] true:=by
 unfold dc db at h;refine ot Tryz.func26 fun B N=>?_
 revert r;apply gO;exact cf fw [oC (AN q),oC [.nils],oC [.nils],oC [.i 0]] fun y1=>jt (bi 15 (jg uj (jt (jt (jt (jg (Eq.refl (gX q y1)) (lF fun p=>el (tg:=[([(1,1),(2,2)],(gX q y1))]) tO [6,7,8] [1,2,3] p [] H0 [.nils,.nils,.i y1] (AS.tupL (l:=[.nils,.nils,.i y1]) (l':=[.sl 3 (([]:List ((List Int)×(List Int)×Int)).length) (AP (fun (x:(List Int)×(List Int)×Int)=>[.ints x.1,.ints x.2.1,.i x.2.2]) ([]:List ((List Int)×(List Int)×Int))),.ints ([]:List Int),.i y1]) rfl ⟨(AS.sl_nil _ _),AS.ints_nil,A3,trivial⟩))))))) nO)
def zB6 (ln:Nat)(BD:Au):DH:=[none,none,none,none,none,oC [.nils],oC [.msl 0 1 0 ln],oC [.i 0],oC [.ints BD.1,.ints BD.2.1,.i BD.2.2]]
def zB5 (Jl ln:Nat)(GN:List ((List Int)×(List Int)×Int))(BD:Au):DH:=[none,none,none,none,none,oC [.msl 8 3 0 Jl],oC [.msl 0 1 0 ln],oC [.i 0],some (.arr 3 GN.length (AP (fun (x:(List Int)×(List Int)×Int)=>[.ints x.1,.ints x.2.1,.i x.2.2]) GN)),oC [.ints BD.1,.ints BD.2.1,.i BD.2.2]]
inductive KQ where
 | s0
 | s1 (Jl:Nat) (GN:List ((List Int)×(List Int)×Int))
def Qx (ln:Nat):KQ -> DH
 | .s0=>[none,none,none,none,none,oC [.nils],oC [.msl 0 1 0 ln],oC [.i 0]]
 | .s1 Jl GN=>[none,none,none,none,none,oC [.msl 8 3 0 Jl],oC [.msl 0 1 0 ln],oC [.i 0],some (.arr 3 GN.length (AP (fun (x:(List Int)×(List Int)×Int)=>[.ints x.1,.ints x.2.1,.i x.2.2]) GN))]
def zDa (n:Nat)(ln:Nat)(BD:Au):Option KQ:= some (.s1 (([(BD.1,BD.2.1,BD.2.2)]:List ((List Int)×(List Int)×Int)).length) ([(BD.1,BD.2.1,BD.2.2)]:List ((List Int)×(List Int)×Int)))
def de (n:Nat)(ln:Nat)(BD:Au)(Jl:Nat)(GN:List ((List Int)×(List Int)×Int)):Option KQ:= if Jl=GN.length/\ GN.length+([(BD.1,BD.2.1,BD.2.2)]:List ((List Int)×(List Int)×Int)).length<=BA then some (.s1 (GN.length+([(BD.1,BD.2.1,BD.2.2)]:List ((List Int)×(List Int)×Int)).length) (GN++([(BD.1,BD.2.1,BD.2.2)]:List ((List Int)×(List Int)×Int)))) else none
def zDZ (n:Nat)(ln:Nat)(BD:Au):KQ -> Option KQ
 | .s0=>zDa n ln BD
 | .s1 Jl GN=>de n ln BD Jl GN
def Qy (n:Nat)(ln:Nat)(BD:Au)(s:KQ):Option KQ:=zDZ n ln BD s
theorem zDY (n:Nat)(ln:Nat)(l B:Nat)(N:Yd 8)(BD:Au)(s:KQ)(r:KQ)(h:Qy n ln BD s=some r):TA l B N (Cp 8 [] 0 (Qx ln r)) Tryz.f26 25 ⟨AG 33 [(6,.ref 5 0),(7,.ref 6 0),(8,.ref 7 0),(25,.fn 56 4 (L1 [.ref 1 0,.ref 2 0,.ref 3 0,.ref 4 0])),(26,.agg 3 (L1 [.ints BD.1,.ints BD.2.1,.i BD.2.2]))],Qx ln s⟩:=by
 cases s with
 | s0=>
  refine ag AC [0,1,2,3,4,5,6,7,8] (H0.t) (AG 33 [(6,.ref 5 0),(7,.ref 6 0),(8,.ref 7 0),(9,.ref 8 0)]) (zB6 ln BD) fun N=>?_
  revert r;apply gO;exact ja 29 9 3 (GJ (c:=(fun (x:(List Int)×(List Int)×Int)=>[.ints x.1,.ints x.2.1,.i x.2.2])) (L:=([(BD.1,BD.2.1,BD.2.2)]:List ((List Int)×(List Int)×Int))) (vals:=[.agg 3 (L1 [.ints BD.1,.ints BD.2.1,.i BD.2.2])]) rfl ⟨⟨_,rfl,⟨A3,A3,A3,trivial⟩⟩,trivial⟩) (jg (And.intro (And.intro (And.intro (Eq.refl 0) (Eq.refl 1)) (Wh (fun (x:(List Int)×(List Int)×Int)=>[.ints x.1,.ints x.2.1,.i x.2.2]) ([(BD.1,BD.2.1,BD.2.2)]:List ((List Int)×(List Int)×Int)) (([(BD.1,BD.2.1,BD.2.2)]:List ((List Int)×(List Int)×Int)).length) 3 fun _=>⟨rfl,rfl⟩)) (And.intro (by decide:0<1) (by decide:1<=BA))) (jt (lF fun p=>rr AC [0,1,2,3,4,5,6,7,10] rfl p)))
 | s1 Jl GN=>
  refine ag AC [0,1,2,3,4,5,6,7,8,9] (H0.t) (AG 33 [(6,.ref 5 0),(7,.ref 6 0),(8,.ref 7 0),(9,.ref 9 0)]) (zB5 Jl ln GN BD) fun N=>?_
  revert r;apply gO;exact ja 29 10 3 (GJ (c:=(fun (x:(List Int)×(List Int)×Int)=>[.ints x.1,.ints x.2.1,.i x.2.2])) (L:=([(BD.1,BD.2.1,BD.2.2)]:List ((List Int)×(List Int)×Int))) (vals:=[.agg 3 (L1 [.ints BD.1,.ints BD.2.1,.i BD.2.2])]) rfl ⟨⟨_,rfl,⟨A3,A3,A3,trivial⟩⟩,trivial⟩) (gc (gn fun zFi=>gn fun zFh=>jg (And.intro (And.intro (And.intro (Eq.refl 0) (Eq.refl 1)) (Wh (fun (x:(List Int)×(List Int)×Int)=>[.ints x.1,.ints x.2.1,.i x.2.2]) ([(BD.1,BD.2.1,BD.2.2)]:List ((List Int)×(List Int)×Int)) (([(BD.1,BD.2.1,BD.2.2)]:List ((List Int)×(List Int)×Int)).length) 3 fun _=>⟨rfl,rfl⟩)) (And.intro (And.intro (Eq.refl 0) zFi) zFh)) (ja 30 11 3 (jY (enc:=(pE (fun (x:(List Int)×(List Int)×Int)=>[.ints x.1,.ints x.2.1,.i x.2.2]))) (L:=GN) (L':=([(BD.1,BD.2.1,BD.2.2)]:List ((List Int)×(List Int)×Int))) rfl rfl fun _ _ _ _=>A3) (jt (lF fun p=>rr AC [0,1,2,3,4,5,6,7,11] rfl p)))))
end Go.Proofs.YtkjbblkieglmlaaGreatDoor
