/- Part 7 of 7 of what the proofs of these laws stand on. -/
import Derived.Test.YtkjbblkieglmlaaGreatDoorPtF
import Derived.Test.YtkjbblkieglmlaaGreatDoorRows
import Derived.ProofKit
import Derived.OpenShut
import Derived.Deep.DeepHandedRow
import Derived.Lib.LaidTab
import Derived.Deep.Slices
import Derived.Stop.LaidErr
import Derived.Test.YtkjbblkieglmlaaGreatDoorCards
import Derived.Test.YtkjbblkieglmlaaGreatDoorTie
set_option linter.all false
namespace Go.Proofs.YtkjbblkieglmlaaGreatDoor
open Go.RowKit
theorem qc:Ev Mw true:=⟨300,fun n hn=>by
 obtain ⟨k,rfl⟩: ∃ k,n=k+300:=⟨n-300,by omega⟩
 show Mw (k+300)=some true
 kernel_rfl⟩
section
variable {q:AA} {pos:List Int} {tree:List (Int×Int)}
theorem j0 {n f:Nat -> Option Bool} (h: ∀ m,n m=(Mw m).bind fun y1=>bif (!y1) then some false else (Kn m q pos tree).bind fun y2=>bif (!y2) then some true else f m) (hf:pos.length<=20 -> tree.length<=400 -> Ev f true):Ev n true:=by
 obtain ⟨N1,h1⟩:=qc
 by_cases hp:pos.length<=20/\ tree.length<=400
 ·obtain ⟨N2,h2⟩:=hf hp.1 hp.2;refine ⟨N1+N2+q.cons.length+1,fun m hm=>?_⟩;obtain ⟨b,hb⟩:=md (q:=q) (n:=m) (by omega);rw [h m,h1 m (by omega),zAF]
  show ((Kn m q pos tree).bind fun y2=>bif (!y2) then some true else f m)=_
  unfold Kn XH;rw [hb,zAF,zAJ (by omega),zAJ (by omega)];cases b with
  | false=>rfl
  | true=>exact h2 m (by omega)
 ·refine ⟨N1+q.cons.length+1,fun m hm=>?_⟩;obtain ⟨b,hb⟩:=md (q:=q) (n:=m) (by omega);rw [h m,h1 m (by omega),zAF]
  show ((Kn m q pos tree).bind fun y2=>bif (!y2) then some true else f m)=_
  unfold Kn XH;rw [hb,zAF];cases b with
  | false=>rfl
  | true=>
   rw [zAI]
   by_cases h20:pos.length<=20
   ·rw [zAJ (by omega),zAC (by omega)];rfl
   ·rw [zAC (by omega)];rfl
def da (q:AA) (pos:List Int) (tree:List (Int×Int)) (r:List An×List Int×Int):Prop:=
 (r.2.2≠0/\ r.1= []/\ r.2.1= [])∨(r.2.2=0/\ CR q=true/\ posOk q pos=true/\ tree.length<=65536/\ r.2.1.length=tree.length/\ r.1.length<=tree.length/\ Tk q tree none pos 0 0 (List.replicate tree.length 0) tree.length r.1 r.2.1)
theorem mU (hF:EA q) (hl:pos.length<=LB): ∃ r,Ev (fun n=>Fy n q pos tree) r/\ da q pos tree r:=by
 have Jg: ∀ c:Int,c≠0 -> Ev (fun n=>Iv n q pos tree) c -> ∃ r,Ev (fun n=>Fy n q pos tree) r/\ da q pos tree r:=fun c hc h=>by
  obtain ⟨N,hN⟩:=h;have hN: ∀ n,N<=n -> Iv n q pos tree=some c:=hN;refine ⟨([],[],c),⟨N,fun n hn=>?_⟩,.inl ⟨hc,rfl,rfl⟩⟩
  show Fy n q pos tree=_
  unfold Fy;rw [hN n hn,zAF,zEy.2 hc,zAI]
 have hV: ∀ n,FA q+pos.length+1<=n -> Iv n q pos tree=some (if CR q=true then (if posOk q pos=true then (if tree.length>65536 then 2 else 0) else 250) else 191):=fun n hn=>by
  unfold Iv YE;rw [UU hF (by omega),zAF,ZV hF (by omega) hl (by omega)];unfold NG;cases CR q with
  | false=>rfl
  | true=>
   cases posOk q pos with
   | false=>rfl
   | true=>
    by_cases h:tree.length>65536
    ·have:decide ((tree.length:Int)>65536)=true:=zAJ (by omega);simp only [this,h,zEL];rfl
    ·have:decide ((tree.length:Int)>65536)=false:=zAC (by omega);simp only [this,h,zEL,zEr];rfl
 by_cases hv:CR q=true
 rotate_left
 ·exact Jg 191 (by decide) ⟨_,fun n hn=>(hV n hn).trans (by rw [zAU hv])⟩
 by_cases hp:posOk q pos=true
 rotate_left
 ·exact Jg 250 (by decide) ⟨_,fun n hn=>(hV n hn).trans (by rw [zAE hv,zAU hp])⟩
 by_cases hT:tree.length>65536
 ·exact Jg 2 (by decide) ⟨_,fun n hn=>(hV n hn).trans (by rw [zAE hv,zAE hp,zAE hT])⟩
 have hZ: ∀ n,FA q+pos.length+1<=n -> Iv n q pos tree=some 0:=fun n hn=>by rw [hV n hn,zAE hv,zAE hp,zAU hT]
 obtain ⟨⟨l,out,o⟩,⟨N,hN⟩,g1,g2,g3⟩:=vE (pos0:=pos) hF hv (show tree.length<=65536 by omega) tree.length 0 0 pos (List.replicate tree.length 0) (by omega) hp zAl (by omega) (by omega);have hN: ∀ n,N<=n -> B2 n pos 0 0 (List.replicate tree.length 0) q tree tree.length pos=some (l,out,o):=hN;have g1:o.length=tree.length:=g1;have g2:l.length+0<=tree.length:=g2;have L:(1000000000000:Nat)=BA:=rfl
 have start: ∀ (IQ:Option Unit),(∀ n,N<=n -> Li n (List.replicate tree.length 0) q tree tree.length pos=some (l,IQ,o)) -> ∀ n,N+FA q+pos.length+1<=n -> Fy n q pos tree=some (if IQ.isSome then l else [],if IQ.isSome then o else [],if IQ.isSome then 0 else 280):=fun IQ h n hn=>by
  unfold Fy;rw [hZ n (by omega),zAF]
  show (if _ then _ else none)=_
  rw [zAE ⟨rfl,by omega,by omega⟩,h n (by omega),zAF,zAE ⟨g1.symm,by rw [←L];show l.length<=_;omega⟩]
 have fail:(∀ n,N<=n -> Li n (List.replicate tree.length 0) q tree tree.length pos=some (l,none,o)) -> ∃ r,Ev (fun n=>Fy n q pos tree) r/\ da q pos tree r:=fun h=>⟨([],[],280),⟨_,fun n hn=>start none h n hn⟩,.inl ⟨by decide,rfl,rfl⟩⟩
 cases out with
 | none=>
  refine fail fun n hn=>?_
  unfold Li PL;rw [hN n hn];rfl
 | some x=>
  obtain ⟨v,rfl,v1,v2,v3,v4,v5⟩:=g3 x rfl
  by_cases xk:v=tree.length
  ·refine ⟨(l,o,0),⟨_,fun n hn=>start (some ()) (fun n hn=>?_) n hn⟩,.inr ⟨rfl,hv,hp,by omega,g1,by omega,by rw [xk] at v5;exact v5⟩⟩;unfold Li PL;rw [hN n hn]
   show (bif ((v:Int)==(tree.length:Int)) then _ else _:Option (YR An Unit (List Int))).map _=_
   rw [zDu.2 (by omega),zAI];simp
  ·refine fail fun n hn=>?_
   unfold Li PL;rw [hN n hn]
   show (bif ((v:Int)==(tree.length:Int)) then _ else _:Option (YR An Unit (List Int))).map _=_
   rw [zBj.2 (by omega),zAH];simp
theorem aA {r:List An×List Int×Int} (h:Ev (fun n=>Fy n q pos tree) r) (hl:r.1.length<=65536):Ev (fun n=>KM n q pos tree) (r.1.map (·.1),r.2.2):=by
 obtain ⟨l,o,c⟩:=r;have hl:l.length<=65536:=hl;have L:(1000000000000:Nat)=BA:=rfl
 have key: ∀ (k j:Nat),j+k=l.length -> Ev (fun n=>JG q pos tree n (.l2 j c l (l.length:Int) (j:Int) ((l.take j).map (·.1)))) (l.map (·.1),c):=by
  intro k
  induction k with
  | zero=>
   intro j e;refine Ev.one fun n=>?_
   show SR n (JG q pos tree n) q pos tree j c l (l.length:Int) (j:Int) _=_
   unfold SR;rw [zAC (by omega),zAH,List.take_of_length_le (by omega),zAE (by rw [zAq];omega)]
  | succ k ih=>
   intro j e;have hj:j<l.length:=by omega
   refine BE.ev (BE.one fun n=>?_) (ih (j+1) (by omega))
   show SR n (JG q pos tree n) q pos tree j c l (l.length:Int) (j:Int) _=_
   unfold SR;have e1:((l.take j).map (·.1)).length=j:=by rw [zAq,zEw];omega
   rw [zAJ (by omega),zAI,zAE ⟨⟨by omega,by omega⟩,e1.symm,by rw [e1,←L];show j+1<=_;omega,As.2 ⟨by omega,by omega⟩⟩,zAL,e1]
   rw [show (l.take (j+1)).map (·.1)=(l.take j).map (·.1)++[(l.getD j default).1] by
    rw [zEP hj,List.map_append,u8,zAM hj];rfl]
   rfl
 refine Ev.eq (Ev.bind h (b:=fun n y1=>JG q pos tree n (.l1 y1.2.2 y1.1 (y1.1.length:Int))) ?_) fun n=>rfl
 cases hn:l with
 | nil=>
  refine Ev.one fun n=>?_
  show V1 n (JG q pos tree n) q pos tree c [] 0=_
  rfl
 | cons x t=>
  have:=key t.length 1 (by rw [hn,zAw];omega);rw [hn] at this;refine BE.ev (BE.one fun n=>?_) this
  show V1 n (JG q pos tree n) q pos tree c (x::t) (((x::t).length:Nat):Int)=_
  unfold V1;rw [zAJ (by simp),zAI,zAE ⟨zEK _,by simp⟩];rfl
theorem vM {r:List An×List Int×Int} (h:Ev (fun n=>Fy n q pos tree) r) (h0:r.2.2=0) {a:Nat} (ha:a<r.2.1.length):Ev (fun n=>KE n q pos tree a) (r.2.1.getD a 0,0):=by
 obtain ⟨l,o,c⟩:=r;have h0:c=0:=h0;subst h0;have ha:a<o.length:=ha;refine Ev.eq (Ev.bind h (b:=fun n y1=>bif (y1.2.2 != 0) then some (0,y1.2.2) else bif (decide ((a:Int)<0)) then some (0,1) else bif (decide ((a:Int)>=(y1.2.1.length:Int))) then some (0,1) else if 0<=(a:Int)/\ (a:Int)<(y1.2.1.length:Int) then some (y1.2.1.getD (((a:Int)).toNat) 0,0) else none) (Ev.now fun n=>?_)) fun n=>rfl
 show (bif decide ((a:Int)<0) then _ else _)=_
 rw [zAC (by omega),zAH]
 show (bif decide ((a:Int)>=(o.length:Int)) then _ else _)=_
 rw [zAC (by omega),zAH,zAE ⟨by omega,by omega⟩,zAL]
def mxI (l:List An):Int:=l.foldl (fun m x=>if x.2.2>m then x.2.2 else m) 0
theorem zCD {r:List An×List Int×Int} (h:Ev (fun n=>Fy n q pos tree) r) (hl:r.1.length<=65536):Ev (fun n=>Tn n q pos tree) (mxI r.1,r.2.2):=by
 obtain ⟨l,o,c⟩:=r;have hl:l.length<=65536:=hl
 have key: ∀ (k j:Nat) (m:Int),j+k=l.length -> Ev (fun n=>OI q pos tree n (.l1 m c l (l.length:Int) (j:Int))) ((l.drop j).foldl (fun m x=>if x.2.2>m then x.2.2 else m) m,c):=by
  intro k
  induction k with
  | zero=>
   intro j m e;refine Ev.one fun n=>?_
   show Tm n (OI q pos tree n) q pos tree m c l (l.length:Int) (j:Int)=_
   unfold Tm;rw [zAC (by omega),zAH,List.drop_of_length_le (by omega)];rfl
  | succ k ih=>
   intro j m e;have hj:j<l.length:=by omega
   rw [zBx hj,zEt];refine BE.ev (BE.one fun n=>?_) (ih (j+1) _ (by omega))
   show Tm n (OI q pos tree n) q pos tree m c l (l.length:Int) (j:Int)=_
   unfold Tm;rw [zAJ (by omega),zAI,zAE ⟨⟨by omega,by omega⟩,As.2 ⟨by omega,by omega⟩⟩,zAL,u8,zAM hj];rfl
 exact Ev.eq (Ev.bind h (b:=fun n y1=>OI q pos tree n (.l1 0 y1.2.2 y1.1 (y1.1.length:Int) 0)) (key l.length 0 0 (by omega))) fun n=>rfl
end
end Go.Proofs.YtkjbblkieglmlaaGreatDoor
namespace Go.Proofs.YtkjbblkieglmlaaGreatDoor
open Go.RowKit
section
variable {q:AA} {pos:List Int} {tree:List (Int×Int)} {m:Option (Nat×List Nat)} {a d v:Nat} {e e2:List Int} {l:List An}
theorem Tk.len (h:Tk q tree m pos a d e v l e2):e2.length=e.length/\ a<=v/\ (m=none -> a<v)/\ (∀ c s ss,m=some (c,s::ss) -> a<v):=by
 induction h with
 | prune _ _ _ _ _ ih=>exact ⟨by rw [zAn];exact ih.1,by omega,fun _=>by omega,fun _ _ _ h=>by cases h⟩
 | split _ _ _ _ _ h2 _ ih=>exact ⟨by rw [zAn];exact ih.1,by omega,fun _=>by omega,fun _ _ _ h=>by cases h⟩
 | dead=>exact ⟨zAn,by omega,fun _=>by omega,fun _ _ _ h=>by cases h⟩
 | done=>exact ⟨zAn,by omega,fun _=>by omega,fun _ _ _ h=>by cases h⟩
 | nil=>exact ⟨rfl,zAp _,fun h=>(by cases h),fun _ _ _ h=>by cases h⟩
 | cons _ _ ih KR=>
  have:=ih.2.2.1 rfl;exact ⟨KR.1.trans ih.1,by omega,fun h=>(by cases h),fun _ _ _ _=>by omega⟩
def lf (e:List Int) (i:Nat):Bool:=e.getD i 0==(i:Int)+1
theorem Xe {p p':Nat -> Bool} {a:Nat}: ∀ (k:Nat),(∀ i,a<=i -> i<a+k -> p i=p' i) -> cnt p (a+k)-cnt p a=cnt p' (a+k)-cnt p' a
 | 0,_=>by show cnt p a-cnt p a=cnt p' a-cnt p' a;omega
 | k+1,h=>by
  have:=Xe k fun i h1 h2=>h i h1 (by omega)
  rw [show a+(k+1)=(a+k)+1 by omega,FO,FO,h (a+k) (by omega) (by omega)];omega
structure MW (e:List Int) (a v:Nat) (l:List An) (e2:List Int):Prop where
 out: ∀ i,i<a∨v<=i -> e2.getD i 0=e.getD i 0
 inn: ∀ i,a<=i -> i<v -> (i:Int)<e2.getD i 0/\ e2.getD i 0<=(v:Int)
 nest: ∀ i j,a<=i -> i<j -> j<v -> (j:Int)<e2.getD i 0 -> e2.getD j 0<=e2.getD i 0
 num:cnt (lf e2) v=cnt (lf e2) a+(l.length:Int)
theorem MW.node (h:MW e (a+1) v l e2) (hv:a+1<v) (hl:a<e2.length):MW e a v l (e2.set a (v:Int)):=by
 have AF:(e2.set a (v:Int)).getD a 0=(v:Int):=Fw hl;have off: ∀ i,i≠a -> (e2.set a (v:Int)).getD i 0=e2.getD i 0:=fun i hi=>getD_set_ne fun h=>hi h.symm
 refine ⟨fun i hi=>?_,fun i h1 h2=>?_,fun i j h1 h2 h3 h4=>?_,?_⟩
 ·rw [off i (by omega)];exact h.out i (by omega)
 ·by_cases hi:i=a
  ·subst hi;rw [AF];omega
  ·rw [off i hi];exact h.inn i (by omega) h2
 ·rw [off j (by omega)]
  by_cases hi:i=a
  ·subst hi;rw [AF];exact (h.inn j (by omega) h3).2
  ·rw [off i hi] at h4 ⊢;exact h.nest i j (by omega) h2 h3 h4
 ·have h1:=h.num;obtain ⟨k,rfl⟩: ∃ k,v=a+1+k:=⟨v-(a+1),by omega⟩;have h2:=Xe (p:=lf e2) (p':=lf (e2.set a ((a+1+k:Nat):Int))) (a:=a+1) k fun i h3 h4=>by unfold lf;rw [off i (by omega)]
  have h3:cnt (lf (e2.set a ((a+1+k:Nat):Int))) (a+1)=cnt (lf (e2.set a ((a+1+k:Nat):Int))) a:=by
   rw [FO]
   have:lf (e2.set a ((a+1+k:Nat):Int)) a=false:=by
    unfold lf;rw [AF];exact zBj.2 (by omega)
   rw [this];simp
  omega
theorem MW.leaf {x:An} (hl:a<e.length):MW e a (a+1) [x] (e.set a ((a+1:Nat):Int)):=by
 have AF:(e.set a ((a+1:Nat):Int)).getD a 0=((a+1:Nat):Int):=Fw hl;refine ⟨fun i hi=>getD_set_ne (by omega),fun i h1 h2=>?_,fun i j h1 h2 h3=>by omega,?_⟩
 ·have:i=a:=by omega
  subst this;rw [AF];omega
 ·have:lf (e.set a ((a+1:Nat):Int)) a=true:=by unfold lf;rw [AF,zDu];omega
  rw [FO,this];rfl
theorem Tk.lam (h:Tk q tree m pos a d e v l e2):v<=e.length -> MW e a v l e2/\ (m=none -> e2.getD a 0=(v:Int)):=by
 induction h with
 | prune _ _ _ _ h ih=>
  intro hv;have:=h.len;exact ⟨(ih hv).1.node (this.2.2.1 rfl) (by have:=this.2.2.1 rfl;omega),fun _=>Fw (by have:=this.2.2.1 rfl;omega)⟩
 | @split p a d e v l e2 c _ _ _ _ _ h2 h ih=>
  intro hv;have Ao:=h.len
  have:a+1<v:=by
   cases hs:CM (p.getD c 0) 0 with
   | nil=>rw [hs] at h2;simp at h2
   | cons s ss=>exact Ao.2.2.2 _ _ _ (by rw [hs])
  exact ⟨(ih hv).1.node this (by omega),fun _=>Fw (by omega)⟩
 | dead=>exact fun hv=>⟨MW.leaf (by omega),fun _=>Fw (by omega)⟩
 | done=>exact fun hv=>⟨MW.leaf (by omega),fun _=>Fw (by omega)⟩
 | nil=>exact fun hv=>⟨⟨fun _ _=>rfl,fun i h1 h2=>by omega,fun i j h1 h2 h3=>by omega,by simp⟩,fun h=>by cases h⟩
 | @cons p a d e c s v w ss l l2 e2 e3 h h2 ih KR=>
  intro hw;have l1:=h.len;have l2':=h2.len;have A:=(ih (by omega)).1;have B:=(KR (by omega)).1;have D5: ∀ i,i<v -> e3.getD i 0=e2.getD i 0:=fun i hi=>B.out i (.inl hi)
  refine ⟨⟨fun i hi=>?_,fun i h1 h2=>?_,fun i j h1 h2 h3 h4=>?_,?_⟩,fun h=>by cases h⟩
  ·rw [B.out i (by omega),A.out i (by omega)]
  ·by_cases hi:i<v
   ·rw [D5 i hi];have:=A.inn i h1 hi;omega
   ·exact B.inn i (by omega) h2
  ·by_cases hi:i<v
   ·have:=A.inn i h1 hi;rw [D5 i hi] at h4 ⊢;rw [D5 j (by omega)];exact A.nest i j h1 h2 (by omega) h4
   ·exact B.nest i j (by omega) h2 h3 h4
  ·have h1:=B.num;have h2:=A.num;have h3:=Xe (p:=lf e2) (p':=lf e3) (a:=0) a fun i _ hi=>by unfold lf;rw [D5 i (by omega)]
   have h4:=Xe (p:=lf e2) (p':=lf e3) (a:=0) v fun i _ hi=>by unfold lf;rw [D5 i (by omega)]
   rw [zAs] at h3 h4;have z: ∀ p,cnt p 0=0:=fun _=>rfl
   rw [z,z] at h3 h4;rw [zAm];omega
theorem vL {o:List Int} {x7:List (List Int)} (hF: ∀ j,j<tree.length -> Ev (fun n=>KE n q pos tree (j:Int)) (o.getD j 0,0)) (hL:tree.length<=60) (ho:o.length=tree.length) (inn: ∀ i,i<tree.length -> (i:Int)<o.getD i 0/\ o.getD i 0<=(tree.length:Int)) (h0:o.getD 0 0=(tree.length:Int)) (nest: ∀ i j,i<j -> j<tree.length -> (j:Int)<o.getD i 0 -> o.getD j 0<=o.getD i 0) (num:cnt (lf o) tree.length=(x7.length:Int)) (Ft:0<tree.length):Ev (fun n=>Gh q pos tree n (.l1 x7)) true:=by
 have L:(1000000000000:Nat)=BA:=rfl
 have WC: ∀ (k i j:Nat),i+k=j -> j<tree.length -> BE (Gh q pos tree) (.l2 x7 (j+1) (cnt (lf o) (j+1)) (j:Int) (o.getD j 0) (i:Int) (o.take (j+1))) (.l3 x7 (j+1) (cnt (lf o) (j+1)) ((j+1:Nat):Int) (o.take (j+1))):=by
  intro k
  induction k with
  | zero=>
   intro i j e hj;refine BE.one fun n=>?_
   show SV n (Gh q pos tree n) q pos tree x7 (j+1) _ (j:Int) _ (i:Int) _=_
   unfold SV;rw [zAC (by omega),zAH,zAE (As.2 ⟨by omega,by omega⟩)];rfl
  | succ k ih=>
   intro i j e hj;refine (BE.one fun n=>?_).trans (ih (i+1) j (by omega) hj)
   show SV n (Gh q pos tree n) q pos tree x7 (j+1) _ (j:Int) _ (i:Int) _=_
   unfold SV
   have e1:(o.take (j+1)).getD i 0=o.getD i 0:=by
    rw [u8,List.getElem?_take_of_lt (by omega),u8]
   rw [zAJ (by omega),zAI,zAE ⟨⟨by omega,by omega⟩,by rw [zEw,zAL];omega⟩,zAL,zAs,e1];have r1:AL ((i:Int)+1):=As.2 ⟨by omega,by omega⟩;simp only [zAE r1]
   by_cases hg:o.getD i 0>(j:Int)
   ·have:=nest i j (by omega) hj hg;rw [zAJ hg,zAI,zAC (by omega),zAH];rfl
   ·rw [zAC hg,zAH];rfl
 have uj: ∀ (k j:Nat),1<=j -> j+k=tree.length -> Ev (fun n=>Gh q pos tree n (.l3 x7 j (cnt (lf o) j) (j:Int) (o.take j))) true:=by
  intro k
  induction k with
  | zero=>
   intro j h1 e;refine Ev.one fun n=>?_
   show SU n (Gh q pos tree n) q pos tree x7 j _ (j:Int) _=_
   unfold SU;rw [zAC (by omega),zAH,show j=tree.length by omega,num];simp
  | succ k ih=>
   intro j h1 e;have hj:j<tree.length:=by omega
   obtain ⟨N,hN⟩:=hF j hj;have hN: ∀ n,N<=n -> KE n q pos tree (j:Int)=some (o.getD j 0,0):=hN;refine BE.ev (BE.oneN (b:=.l2 x7 (j+1) (cnt (lf o) (j+1)) (j:Int) (o.getD j 0) ((0:Nat):Int) (o.take (j+1))) N fun n hn=>?_) (BE.ev (WC j 0 j (by omega) hj) (ih (j+1) (by omega) (by omega)));have hi:=inn j hj;have tl:(o.take j).length=j:=by rw [zEw];omega
   have ts:o.take (j+1)=o.take j++[o.getD j 0]:=by
    rw [zEP (by omega),u8,zAM (by omega)];rfl
   show SU n (Gh q pos tree n) q pos tree x7 j _ (j:Int) _=_
   unfold SU;have cb:=QK (p:=lf o) (i:=j);rw [zAJ (by omega),zAI,hN n hn,zAF]
   show (bif decide (o.getD j 0<=(j:Int)) then _ else _)=_
   rw [zAC (by omega),zAH]
   show (bif decide (o.getD j 0>(tree.length:Int)) then _ else _)=_
   rw [zAC (by omega),zAH,zBj.2 (by omega),zAH,zAE ⟨⟨⟨rfl,rfl⟩,⟨rfl,tl.symm⟩,by rw [tl,←L];show j+1<=_;omega⟩,As.2 ⟨by omega,by omega⟩⟩,tl,ts,FO]
   show (bif (o.getD j 0==(j:Int)+1) then (if AL (cnt (lf o) j+1) then _ else none) else _)=_
   rw [zAE (As.2 ⟨by omega,by omega⟩)];have:lf o j=(o.getD j 0==(j:Int)+1):=rfl;rw [this];cases o.getD j 0==(j:Int)+1
   ·simp
   ·rfl
 obtain ⟨N,hN⟩:=hF 0 Ft;have hN: ∀ n,N<=n -> KE n q pos tree 0=some (o.getD 0 0,0):=hN
 have t1:o.take (0+1)= [(tree.length:Int)]:=by
  rw [zEP (by omega),←h0,u8,zAM (by omega)];rfl
 have:=BE.ev (WC 0 0 0 (by omega) Ft) (uj (tree.length-1) 1 (by omega) (by omega));rw [t1,h0] at this;refine BE.ev (BE.oneN N fun n hn=>?_) this
 show aB n (Gh q pos tree n) q pos tree x7=_
 unfold aB;have ln:([(tree.length:Int)]:List Int).length=1:=rfl;rw [zAJ (by omega),zAI,hN n hn,zAF,h0]
 show (bif decide ((tree.length:Int)<=0) then _ else _)=_
 rw [zAC (by omega),zAH]
 show (bif decide ((tree.length:Int)>(tree.length:Int)) then _ else _)=_
 rw [zAC (by omega),zAH]
 show (bif ((tree.length:Int) != (tree.length:Int)) then _ else _)=_
 rw [zFq,zAH,zAE ⟨⟨rfl,rfl⟩,by rw [ln];omega,by rw [ln,←L];omega⟩]
 show (bif ((tree.length:Int)==1) then _ else _)=_
 have c1:cnt (lf o) (0+1)=if ((tree.length:Int)==1) then 1 else 0:=by
  rw [FO];have:lf o 0=((tree.length:Int)==1):=by unfold lf;rw [h0];rfl
  rw [this]
  show 0+_=_
  rw [Int.zero_add]
 rw [c1];cases (tree.length:Int)==1 <;> rfl
theorem wH (q:AA) (pos:List Int) (tree:List (Int×Int)) (hF:EA q) (hl:pos.length<=LB):Ev (fun n=>jx n q pos tree) true:=by
 refine j0 (q:=q) (pos:=pos) (tree:=tree) (f:=fun n=>bif (decide ((tree.length:Int)>60)) then some true else
  (KM n q pos tree).bind fun y3=>bif (y3.2 != 0) then some true else Gh q pos tree n (.l1 y3.1)) (fun n=>rfl) fun _ _=>?_
 by_cases mE:(tree.length:Int)>60
 ·exact Ev.now fun n=>by rw [zAJ mE];rfl
 refine Ev.eq ?_ (fun n=>by rw [zAC mE,zAH]);obtain ⟨⟨l,o,c⟩,hr,hP⟩:=mU (tree:=tree) hF hl;rcases hP with ⟨h1,h2,h3⟩ | ⟨h1,hv,hp,hT,ho,Pf,hk⟩
 ·have h2:l= []:=h2;have h1:c≠0:=h1;refine Ev.bind (aA hr (by show l.length<=_;rw [h2];decide)) (Ev.now fun n=>?_)
  show (bif (c != 0) then _ else _)=_
  rw [zEy.2 h1,zAI]
 ·have h1:c=0:=h1;subst h1;have Pf:l.length<=tree.length:=Pf;have ho:o.length=tree.length:=ho;have hk:Tk q tree none pos 0 0 (List.replicate tree.length 0) tree.length l o:=hk;have hA:=hk.lam (by rw [zAl];omega);have Ft:=hk.len.2.2.1 rfl;refine Ev.bind (aA hr (by show l.length<=_;omega)) (Ev.eq (vL (o:=o) (x7:=l.map (·.1)) (fun j hj=>vM hr rfl (by show j<o.length;omega)) (by omega) ho (fun i hi=>hA.1.inn i (by omega) hi) (hA.2 rfl) (fun i j h1 h2 h3=>hA.1.nest i j (by omega) h1 h2 h3) ?_ Ft) fun n=>rfl);have:=hA.1.num;rw [this,zAq]
  show 0+(l.length:Int)=_
  omega
end
end Go.Proofs.YtkjbblkieglmlaaGreatDoor
namespace Go.Proofs.YtkjbblkieglmlaaGreatDoor
open Go.RowKit
theorem gH {x:Int} {S:Nat} (h:Sm S x) (hS:S<=16): ∀ (k i:Nat),i+k=S -> (CM x i).length<=k
 | 0,i,e=>by
  have:i=S:=by omega
  subst this;rw [gG h (by omega)];exact zAp _
 | k+1,i,e=>by
  have:=gH h hS k (i+1) (by omega);rw [Yk (by omega)];split
  ·rw [zAw];omega
  ·omega
def Mx (l:List An) (M:Nat):Prop:=(∀ x∈l,x.2.2<=(M:Int))/\ ∃ x∈l,x.2.2=(M:Int)
theorem Mx.app {l l2:List An} {M M2:Nat} (h:Mx l M) (h2:Mx l2 M2):Mx (l++l2) (max M M2):=by
 refine ⟨fun x hx=>?_,?_⟩
 ·rcases zD5.1 hx with hx | hx
  ·have:=h.1 x hx;omega
  ·have:=h2.1 x hx;omega
 ·obtain ⟨x,hx,e⟩:=h.2;obtain ⟨y,hy,e2⟩:=h2.2
  by_cases hm:M<=M2
  ·exact ⟨y,zD3 _ hy,by rw [e2];omega⟩
  ·exact ⟨x,zA6 _ hx,by rw [e];omega⟩
theorem Zu: ∀ (l:List An) (m:Int),m<=l.foldl (fun m x=>if x.2.2>m then x.2.2 else m) m/\ (∀ x∈l,x.2.2<=l.foldl (fun m x=>if x.2.2>m then x.2.2 else m) m)/\ (l.foldl (fun m x=>if x.2.2>m then x.2.2 else m) m=m∨∃ x∈l,l.foldl (fun m x=>if x.2.2>m then x.2.2 else m) m=x.2.2)
 | [],m=>⟨zEK _,fun _ h=>(by cases h),.inl rfl⟩
 | y::l,m=>by
  rw [zEt]
  by_cases hy:y.2.2>m
  ·rw [zAE hy];obtain ⟨h1,h2,h3⟩:=Zu l y.2.2;refine ⟨by omega,fun x hx=>?_,?_⟩
   ·rcases zA3.1 hx with rfl | hx
    ·exact h1
    ·exact h2 x hx
   ·rcases h3 with h3 | ⟨x,hx,h3⟩
    ·exact .inr ⟨y,zED,h3⟩
    ·exact .inr ⟨x,zA5 _ hx,h3⟩
  ·rw [zAU hy];obtain ⟨h1,h2,h3⟩:=Zu l m;refine ⟨h1,fun x hx=>?_,?_⟩
   ·rcases zA3.1 hx with rfl | hx
    ·omega
    ·exact h2 x hx
   ·rcases h3 with h3 | ⟨x,hx,h3⟩
    ·exact .inl h3
    ·exact .inr ⟨x,zA5 _ hx,h3⟩
theorem Mx.mxI {l:List An} {M:Nat} (h:Mx l M):mxI l=(M:Int):=by
 obtain ⟨h1,h2,h3⟩:=Zu l 0;have h1:0<=Proofs.YtkjbblkieglmlaaGreatDoor.mxI l:=h1;obtain ⟨x,hx,e⟩:=h.2;have g:=h2 x hx;have g:x.2.2<=Proofs.YtkjbblkieglmlaaGreatDoor.mxI l:=g;rcases h3 with h3 | ⟨y,hy,h3⟩
 ·have h3:Proofs.YtkjbblkieglmlaaGreatDoor.mxI l=0:=h3;omega
 ·have h3:Proofs.YtkjbblkieglmlaaGreatDoor.mxI l=y.2.2:=h3;have:=h.1 y hy;omega
section
variable {q:AA} {pos:List Int} {tree:List (Int×Int)} {m:Option (Nat×List Nat)} {a d v:Nat} {e e2:List Int} {l:List An}
def CK (tree:List (Int×Int)) (i:Nat):Bool:=(tree.getD i default).1==2
structure oP (q:AA) (s:Int) (k d:Nat) (l:List An) (M:Nat):Prop where
 mx:Mx l M
 ge:d<=M
 up:(M:Int)<=d+s
 lo:M+k<=d+l.length
 pw:l.length<=k*q.symbols.toNat ^ (M-d)
theorem Tk.dep (hv:CR q=true) (h:Tk q tree m pos a d e v l e2):cnt (CK tree) a<=cnt (CK tree) v/\ (m=none -> ∃ M,oP q (cnt (CK tree) v-cnt (CK tree) a) 1 d l M/\ (d<M↔0<cnt (CK tree) v-cnt (CK tree) a))/\ (∀ c,m=some (c,[]) -> l= [])/\ (∀ c s ss,m=some (c,s::ss) -> ∃ M,oP q (cnt (CK tree) v-cnt (CK tree) a) (s::ss).length d l M):=by
 obtain ⟨_,IZ,_⟩:=E8 hv;have S1:1<=q.symbols.toNat:=by omega
 induction h with
 | @prune p p2 a d e v l e2 AO hk C hP h ih=>
  have hs:cnt (CK tree) (a+1)=cnt (CK tree) a:=by
   rw [FO];have:CK tree a=false:=by unfold CK;rw [hk];rfl
   rw [this];simp
  rw [hs] at ih;exact ⟨ih.1,fun _=>ih.2.1 rfl,fun _ h=>(by cases h),fun _ _ _ h=>by cases h⟩
 | @split p a d e v l e2 c hp AO hk hc JT h2 h ih=>
  have hs:cnt (CK tree) (a+1)=cnt (CK tree) a+1:=by
   rw [FO];have:CK tree a=true:=by unfold CK;rw [hk];rfl
   rw [this];simp
  rw [hs] at ih;have i1:=ih.1;refine ⟨by omega,fun _=>?_,fun _ h=>(by cases h),fun _ _ _ h=>by cases h⟩;have Cu:=gH (((IL hv).1 hp).2 c hc) (by omega) q.symbols.toNat 0 (by omega);cases ac:CM (p.getD c 0) 0 with
  | nil=>rw [ac] at h2;simp at h2
  | cons s ss=>
   obtain ⟨M,D⟩:=ih.2.2.2 c s ss (by rw [ac]);rw [ac] at h2 Cu;have:=D.ge;have:=D.up;have:=D.lo;have h5:=D.pw;refine ⟨M,⟨D.mx,by omega,by omega,by omega,?_⟩,by omega⟩;obtain ⟨k,hk⟩: ∃ k,M-d=k+1:=⟨M-d-1,by omega⟩;rw [show M-(d+1)=k by omega] at h5;rw [hk,Nat.one_mul,Nat.pow_succ,zEf];exact zAt h5 (zEW _ Cu)
 | @dead p a d e hp AO hk JT=>
  have hs:cnt (CK tree) (a+1)=cnt (CK tree) a:=by
   rw [FO];have:CK tree a=false:=by unfold CK;rw [hk];rfl
   rw [this];simp
  rw [hs];exact ⟨zEK _,fun _=>⟨d,⟨⟨fun x hx=>by rw [zAu.1 hx];exact zEK _,_,zAu.2 rfl,rfl⟩,zAp _,by omega,by simp,by simp⟩,by omega⟩,fun _ h=>(by cases h),fun _ _ _ h=>by cases h⟩
 | @done p a d e g hp AO hk hg Du=>
  have hs:cnt (CK tree) (a+1)=cnt (CK tree) a:=by
   rw [FO];have:CK tree a=false:=by unfold CK;rw [hk];rfl
   rw [this];simp
  rw [hs];exact ⟨zEK _,fun _=>⟨d,⟨⟨fun x hx=>by rw [zAu.1 hx];exact zEK _,_,zAu.2 rfl,rfl⟩,zAp _,by omega,by simp,by simp⟩,by omega⟩,fun _ h=>(by cases h),fun _ _ _ h=>by cases h⟩
 | nil=>exact ⟨zEK _,fun h=>(by cases h),fun _ _=>rfl,fun _ _ _ h=>by cases h⟩
 | @cons p a d e c s v w ss l l2 e2 e3 h h2 ih KR=>
  have i1:=ih.1;have i2:=KR.1;refine ⟨by omega,fun h=>(by cases h),fun _ h=>(by cases h),fun c' s' ss' he=>?_⟩;cases he;obtain ⟨M,D,_⟩:=ih.2.1 rfl;cases ss with
  | nil=>
   have:=KR.2.2.1 c rfl;subst this;rw [zEk];have:=D.up;exact ⟨M,D.mx,D.ge,by omega,D.lo,D.pw⟩
  | cons t ss=>
   obtain ⟨M2,D2⟩:=KR.2.2.2 c t ss rfl;have a1:=D.ge;have a2:=D.up;have a3:=D.lo;have b1:=D2.ge;have b2:=D2.up;have b3:=D2.lo;rw [zAw] at b3;refine ⟨max M M2,D.mx.app D2.mx,by omega,by omega,by rw [zAm,zAw,zAw];omega,?_⟩;have c1:q.symbols.toNat ^ (M-d)<=q.symbols.toNat ^ (max M M2-d):=zE8 S1 (by omega);have c2:q.symbols.toNat ^ (M2-d)<=q.symbols.toNat ^ (max M M2-d):=zE8 S1 (by omega);have d1:=D.pw;have d2:=zAt D2.pw (Nat.mul_le_mul_left _ c2);rw [zAm,zAw,zEh,Nat.one_mul];omega
theorem zCB {M:Nat} {x9:List (List Int)} (hT:tree.length<=65536) (h9:x9.length<=65536) (IZ:1<=q.symbols/\ q.symbols<=16) (hM:M<=65536) (hu:(M:Int)<=cnt (CK tree) tree.length) (z7:M<x9.length) (hp:x9.length<=q.symbols.toNat ^ M) (lJ:0<cnt (CK tree) tree.length↔0<M):Ev (fun n=>Gi q pos tree n (.l1 (M:Int) x9 0 0)) true:=by
 have fin: ∀ (x13:Int),(x9.length:Int)<=x13 -> (bif decide ((M:Int)>=0) then bif decide ((M:Int)<=cnt (CK tree) tree.length) then bif decide ((x9.length:Int)>(M:Int)) then bif decide ((x9.length:Int)<=x13) then some ((decide (cnt (CK tree) tree.length>0))==(decide ((M:Int)>0))) else some false else some false else some false else some false)=some true:=fun x13 h=>by
  rw [zAJ (by omega),zAI,zAJ hu,zAI,zAJ (by omega),zAI,zAJ h,zAI]
  by_cases h0:0<M
  ·rw [zAJ (lJ.2 h0),zAJ (show (M:Int)>0 by omega)];rfl
  ·rw [zAC (fun h=>h0 (lJ.1 h)),zAC (show ¬ (M:Int)>0 by omega)];rfl
 have qV: ∀ (k i:Nat),i+k=M -> Ev (fun n=>Gi q pos tree n (.l2 (M:Int) x9 (cnt (CK tree) tree.length) (((q.symbols.toNat ^ i:Nat):Int)) (i:Int))) true:=by
  intro k
  induction k with
  | zero=>
   intro i e;have:i=M:=by omega
   subst this;refine Ev.one fun n=>?_
   show NY n (Gi q pos tree n) q pos tree _ _ _ _ _=_
   unfold NY;rw [zAC (by omega),zAH];exact fin _ (by exact_mod_cast hp)
  | succ k ih=>
   intro i e
   by_cases AO:((q.symbols.toNat ^ i:Nat):Int)<(x9.length:Int)
   ·refine BE.ev (BE.one fun n=>?_) (ih (i+1) (by omega))
    show NY n (Gi q pos tree n) q pos tree _ _ _ _ _=_
    unfold NY;have e1:(if q.symbols>1 then q.symbols else 1)=q.symbols:=by split <;> omega
    have e2:((q.symbols.toNat ^ i:Nat):Int)*q.symbols=((q.symbols.toNat ^ (i+1):Nat):Int):=by
     rw [Nat.pow_succ,Int.natCast_mul];rw [show ((q.symbols.toNat:Nat):Int)=q.symbols by omega]
    have e3:q.symbols.toNat ^ (i+1)<=65536*16:=by
     rw [Nat.pow_succ];exact zGE (by omega) (by omega)
    rw [zAJ (by omega),zAI,zAJ AO,zAI,e1,e2,zAE ⟨As.2 ⟨by omega,by omega⟩,As.2 ⟨by omega,by omega⟩⟩];rfl
   ·refine Ev.one fun n=>?_
    show NY n (Gi q pos tree n) q pos tree _ _ _ _ _=_
    unfold NY;rw [zAJ (by omega),zAI,zAC AO,zAH];exact fin _ (by omega)
 have first: ∀ (k j:Nat),j+k=tree.length -> Ev (fun n=>Gi q pos tree n (.l1 (M:Int) x9 (cnt (CK tree) j) (j:Int))) true:=by
  intro k
  induction k with
  | zero=>
   intro j e;have:j=tree.length:=by omega
   rw [this];refine BE.ev (BE.one fun n=>?_) (qV M 0 (by omega))
   show SW n (Gi q pos tree n) q pos tree _ _ _ _=_
   unfold SW;rw [zAC (by omega),zAH];rfl
  | succ k ih=>
   intro j e;refine BE.ev (BE.one fun n=>?_) (ih (j+1) (by omega))
   show SW n (Gi q pos tree n) q pos tree _ _ _ _=_
   unfold SW;have cb:=QK (p:=CK tree) (i:=j);have r1:AL ((j:Int)+1):=As.2 ⟨by omega,by omega⟩;have r2:AL (cnt (CK tree) j+1):=As.2 ⟨by omega,by omega⟩;have ek:((tree.getD j default).1==2)=CK tree j:=rfl;rw [zAJ (by omega),zAI,zAE ⟨by omega,by omega⟩,zAL,ek,zAE ⟨r2,r1⟩,zAE r1,FO];cases CK tree j
   ·simp
   ·rfl
 exact first tree.length 0 (by omega)
theorem wM (q:AA) (pos:List Int) (tree:List (Int×Int)) (hF:EA q) (hl:pos.length<=LB):Ev (fun n=>jy n q pos tree) true:=by
 refine j0 (q:=q) (pos:=pos) (tree:=tree) (f:=fun n=>(Tn n q pos tree).bind fun y3=>(KM n q pos tree).bind fun y4=>
  bif (y3.2 != 0) then bif (y3.1==0) then bif ((y4.1.length:Int)==0) then some (y3.2==y4.2) else some false else some false
  else bif (y4.2 != 0) then bif (y3.1==0) then bif ((y4.1.length:Int)==0) then some (y3.2==y4.2) else some false else some false
   else Gi q pos tree n (.l1 y3.1 y4.1 0 0)) (fun n=>rfl) fun _ _=>?_
 obtain ⟨⟨l,o,c⟩,hr,hP⟩:=mU (tree:=tree) hF hl
 have Pf:l.length<=65536:=by
  rcases hP with ⟨_,h2,_⟩ | ⟨_,_,_,hT,_,h,_⟩
  ·have h2:l= []:=h2;rw [h2];decide
  ·have h:l.length<=tree.length:=h;omega
 refine Ev.bind (zCD hr Pf) (Ev.bind (aA hr Pf) ?_);rcases hP with ⟨h1,h2,h3⟩ | ⟨h1,hv,hp,hT,ho,_,hk⟩
 ·have h2:l= []:=h2;have h1:c≠0:=h1;subst h2;refine Ev.now fun n=>?_
  show (bif (c != 0) then (bif (mxI []==0) then bif (((([]:List An).map (·.1)).length:Int)==0) then some (c==c) else _ else _) else _)=_
  rw [zEy.2 h1,zAI,zEU];rfl
 ·have h1:c=0:=h1;subst h1;have hk:Tk q tree none pos 0 0 (List.replicate tree.length 0) tree.length l o:=hk;obtain ⟨_,IZ,_⟩:=E8 hv;obtain ⟨_,hd,_⟩:=hk.dep hv;obtain ⟨M,D,hM⟩:=hd rfl;have z:cnt (CK tree) 0=0:=rfl;rw [z,Int.sub_zero] at D hM;have d1:=D.up;have d2:=D.lo;have d3:=D.pw;rw [Nat.one_mul,Nat.sub_zero] at d3;have cb:=QK (p:=CK tree) (i:=tree.length);have:=zCB (q:=q) (pos:=pos) (tree:=tree) (M:=M) (x9:=l.map (·.1)) hT (by rw [zAq];exact Pf) IZ (by omega) (by omega) (by rw [zAq];omega) (by rw [zAq];exact d3) (by omega);refine Ev.eq this fun n=>?_
  show (bif ((0:Int) != 0) then _ else bif ((0:Int) != 0) then _ else Gi q pos tree n (.l1 (mxI l) (l.map (·.1)) 0 0))=_
  rw [D.mx.mxI];rfl
end
end Go.Proofs.YtkjbblkieglmlaaGreatDoor
namespace Go.Proofs.YtkjbblkieglmlaaGreatDoor
open Go.ChangeShapes Go.WideShapes Go.ChangeAt Go.RowKit
def K1 (w:World) (cs:List Value) (l:List DV):Prop:=cs.length=l.length/\ ∀ j,j<l.length -> AM (fun _=>False) w (l.getD j .any) [] (cs.getD j undef)
def Rd (P:Program) (t:TypeId) (m:Nat) {α:Type} (c:α -> List DV):Prop:=(∀ x,(c x).length=m)/\ P.cellsOf t=m/\ ∀ {H:Type} (enc:TypeId×Value -> H) (w:World) (EI:Nat) (cs:List Value) (x:DataW H×List MemPlace),DataW.trod enc P w 0 (fun _=>true) true EI t cs=some x -> (∀ n∈x.1.weights P t,n<=reachBytes) -> ∃ y:α,K1 w cs (c y)
theorem dx {H:Type} {P:Program} {e:TypeId}: ∀ {l:List (DataW H)} {d:DataW H} {n:Nat},d∈l -> n∈d.weights P e -> n∈DataW.weightsAll P e l
 | [],_,_,h,_=>by cases h
 | a::l,d,n,h,hn=>by
  unfold DataW.weightsAll;rcases zA3.1 h with rfl | h
  ·exact zA6 _ hn
  ·exact zD3 _ (dx h hn)
section
variable {P:Program} {t e:TypeId} {m:Nat}
theorem K1.one {w:World} {v:Value} {d:DV} (h:AM (fun _=>False) w d [] v):K1 w [v] [d]:=⟨rfl,fun j hj=>by
 have:j=0:=by simpa using hj
 subst this;exact h⟩
theorem K1.app {w:World} {cs EJ:List Value} {l l':List DV} (h:K1 w cs l) (h':K1 w EJ l'):K1 w (cs++EJ) (l++l'):=by
 refine ⟨by simp [h.1,h'.1],fun j hj=>?_⟩;rcases zBG j l.length with hl | hl
 ·have:=h.2 j hl;have hc:j<cs.length:=by rw [h.1];exact hl
  simp only [u8] at this ⊢;rw [zAb hl,zAb hc];exact this
 ·have:=h'.2 (j-l.length) (by simp at hj;omega);simp only [u8] at this ⊢;rw [zAd hl,zAd (by rw [h.1];exact hl),h.1];exact this
theorem Rd.int {k:IntKind} (ht:P.underlying t=some (.int k)) (hc:P.cellsOf t=1):Rd P t 1 (fun n:Int=>[.int k n]):=⟨fun _=>rfl,hc,fun enc w EI cs x h hw=>by
 obtain ⟨n,rfl,_⟩:=DataW.trod_int ht h;exact ⟨n,.one rfl⟩⟩
theorem nS {w:World} {a:Addr} {n:Nat} {cs:List Value} (h:w.cells? 0 a n=some cs):cs.length=n/\ ∀ j,j<n -> w.cell? (a.add j)=some (cs.getD j undef):=by
 unfold World.cells? at h;rw [zAE (zEj _)] at h;have hl:cs.length=n:=by simpa using Lib.mapM_length h
 refine ⟨hl,fun j hj=>?_⟩;obtain ⟨b,h1,h2⟩:=Lib.mapM_at h j j (by simp [hj]);rw [h2,u8,h1];rfl
theorem zDr {w:World} {a:Addr} {v:Value} (h:w.cell? a=some v): ∃ b o,a=⟨b,o,none⟩:=by
 obtain ⟨b,o,r⟩:=a;cases r with
 | none=>exact ⟨b,o,rfl⟩
 | some r=>
  unfold World.cell? at h;split at h
  ·simp at h
  ·cases h
theorem oM (b o x:Nat):(⟨b,o,none⟩:Addr).add x=⟨b,o+x,none⟩:=by
 unfold Addr.add;split
 ·rename_i e;subst e;rfl
 ·rfl
theorem Rd.row {α:Type} [Inhabited α] {c:α -> List DV} (ht:P.underlying t=some (.slice e)) (hb:0<P.bytesOf e) (hm:0<m) (he:Rd P e m c) {H:Type} (enc:TypeId×Value -> H) (w:World) (EI:Nat) (cs:List Value) (x:DataW H×List MemPlace) (h:DataW.trod enc P w 0 (fun _=>true) true EI t cs=some x) (hw: ∀ n∈x.1.weights P t,n<=reachBytes):
 ∃ (L:List α) (a:Option Addr) (cap:Nat),cs= [.slice a L.length cap]/\ L.length<=cap/\ L.length<=LB/\ ∀ i j,i<L.length -> j<m -> ∃ b o u,a=some ⟨b,o,none⟩/\ w.cell? ⟨b,o+(i*m+j),none⟩=some u/\ AM (fun _=>False) w ((c (L.getD i default)).getD j .any) [] u:=by
 rcases Deep.open_slice ht h with ⟨rfl,_⟩ | ⟨a,len,cap,m',n,D,Pl,rfl,_,hlc,L2,CQ,hx,TC⟩
 ·exact ⟨[],none,0,rfl,zAp _,zEj _,fun i j hi=>absurd hi (zAo i)⟩
 ·simp only [zEL] at CQ;subst CQ;subst hx
  have plain:0<len -> ∃ b o,a=⟨b,o,none⟩:=fun h0=>by
   obtain ⟨EJ,h1,_⟩:=TC 0 (by omega);obtain ⟨g1,g2⟩:=nS h1;have g3:=g2 0 (by rw [he.2.1];exact hm);have e0:(a.add (0*P.cellsOf e)).add 0=a:=by simp [Addr.add]
   rw [e0] at g3;exact zDr g3
  have pick: ∀ i,i<len -> ∃ y:α,∀ j,j<m -> ∃ b o u,a=⟨b,o,none⟩/\ w.cell? ⟨b,o+(i*m+j),none⟩=some u/\ AM (fun _=>False) w ((c y).getD j .any) [] u:=fun i hi=>by
   obtain ⟨EJ,h1,h2⟩:=TC i (by omega)
   obtain ⟨y,h3,h4⟩:=he.2.2 enc w n EJ _ h2 fun k hk=>hw k (by
    simp only [DataW.weights,ht];refine zA5 _ (zA6 _ (dx (d:=D i) ?_ hk));exact zEI.2 ⟨i,zAi.2 hi,rfl⟩)
   obtain ⟨g1,g2⟩:=nS h1;obtain ⟨b,o,rfl⟩:=plain (by omega);refine ⟨y,fun j hj=>?_⟩;have g3:=g2 j (by rw [he.2.1];exact hj);refine ⟨b,o,_,rfl,?_,h4 j (by rw [he.1];exact hj)⟩;rw [←g3,he.2.1,oM,oM,zDw]
  have hL: ∃ L:List α,L.length=len/\ ∀ i,i<len -> ∀ j,j<m -> ∃ b o u,a=⟨b,o,none⟩/\ w.cell? ⟨b,o+(i*m+j),none⟩=some u/\ AM (fun _=>False) w ((c (L.getD i default)).getD j .any) [] u:=by
   refine ⟨(List.range len).map fun i=>if hi:i<len then (pick i hi).choose else default,by simp,fun i hi=>?_⟩
   have:((List.range len).map fun i=>if hi:i<len then (pick i hi).choose else default).getD i default=(pick i hi).choose:=by
    simp [u8,hi]
   rw [this];exact (pick i hi).choose_spec
  obtain ⟨L,rfl,hL⟩:=hL;refine ⟨L,some a,_,rfl,hlc,?_,fun i j hi hj=>?_⟩
  ·have hk:=hw ((L.length+(m'-L.length))*P.bytesOf e) (by
    simp only [DataW.weights,ht,zAq,zFL];exact zED)
   have h1:=Nat.le_mul_of_pos_right (L.length+(m'-L.length)) hb;have h2:=zAt h1 hk;unfold reachBytes at h2;unfold LB;omega
  ·obtain ⟨b,o,u,g1,g2,g3⟩:=hL i hi j hj;exact ⟨b,o,u,by rw [g1],g2,g3⟩
theorem Rd.rows {α:Type} [Inhabited α] {c:α -> List DV} (ht:P.underlying t=some (.slice e)) (hc:P.cellsOf t=1) (hb:0<P.bytesOf e) (hm:0<m) (he:Rd P e m c):Rd P t 1 (fun L:List α=>[.sl m L.length (AQ c L)]):=⟨fun _=>rfl,hc,fun enc w EI cs x h hw=>by
 obtain ⟨L,a,cap,rfl,h1,h2,h3⟩:=Rd.row ht hb hm he enc w EI cs x h hw;refine ⟨L,K1.one ⟨a,cap,rfl,h1,h2,fun i j hi hj=>?_⟩⟩;obtain ⟨b,o,u,g1,g2,g3⟩:=h3 i j hi hj;exact ⟨b,o,u,g1,fun h=>h,g2,g3⟩⟩
theorem Rd.ints (ht:P.underlying t=some (.slice e)) (hc:P.cellsOf t=1) (hb:0<P.bytesOf e) (he:P.underlying e=some (.int .i64)) (lh:P.cellsOf e=1):Rd P t 1 BS:=⟨fun _=>rfl,hc,fun enc w EI cs x h hw=>by
 obtain ⟨L,a,cap,rfl,h1,h2,h3⟩:=Rd.row ht hb (zE4) (Rd.int he lh) enc w EI cs x h hw;refine ⟨L,.one ⟨a,cap,rfl,h1,h2,fun j hj=>?_⟩⟩;obtain ⟨b,o,u,g1,g2,g3⟩:=h3 j 0 hj zE4;refine ⟨b,o,g1,fun h=>h,?_⟩;have:u= .int .i64 (L.getD j 0):=g3;rw [←this,←g2];simp⟩
def Dl (P:Program):List Field -> Nat -> Nat -> {α:Type} -> (α -> List DV) -> Prop:=fun fs o n {α} c=>∀ (H:Type) (enc:TypeId×Value -> H) (w:World) (EI:Nat) (cs:List Value) (xs:List (DataW H×List MemPlace)),cs.length=n -> (fs.mapM fun f=>DataW.trod enc P w 0 (fun _=>true) true EI f.type ((cs.drop f.offset).take (P.cellsOf f.type)))=some xs -> (∀ k∈DataW.weightsEach P (fs.map (·.type)) (xs.map (·.1)),k<=reachBytes) -> ∃ y:α,K1 w (cs.drop o) (c y)
theorem Dl.nil {o n:Nat} (ho:n=o):Dl P [] o n (fun _:Unit=>[]):=fun _ enc w EI cs xs hl _ _=>⟨(),by rw [List.drop_of_length_le (by omega)];exact ⟨rfl,fun j hj=>absurd hj (zAo j)⟩⟩
theorem Dl.cons {α β:Type} {c:α -> List DV} {c':β -> List DV} {f:Field} {fs:List Field} {o n:Nat} (ho:f.offset=o) (hf:Rd P f.type m c) (hs:Dl P fs (o+m) n c'):Dl P (f::fs) o n (fun x:α×β=>c x.1++c' x.2):=fun _ enc w EI cs xs hl h hw=>by
 rw [List.mapM_cons] at h;obtain ⟨a,ha,h⟩:=Option.bind_eq_some_iff.1 h;obtain ⟨ys,xX,e⟩:=Option.bind_eq_some_iff.1 h;cases e;obtain ⟨y,h1⟩:=hf.2.2 enc w EI _ a ha fun k hk=>hw k (by simp only [zET,DataW.weightsEach];exact zA6 _ hk)
 obtain ⟨z,h2⟩:=hs _ enc w EI cs ys hl xX fun k hk=>hw k (by simp only [zET,DataW.weightsEach];exact zD3 _ hk)
 refine ⟨(y,z),?_⟩
 have:cs.drop o=(cs.drop f.offset).take (P.cellsOf f.type)++cs.drop (o+m):=by
  rw [ho,hf.2.1,←List.drop_drop];exact (zFw m (cs.drop o)).symm
 rw [this];exact h1.app h2
theorem Rd.struct {α β:Type} {c:α -> List DV} {c':β -> List DV} {fs:Array Field} (ht:P.underlying t=some (.struct fs)) (hc:P.cellsOf t=m) (hs:Dl P fs.toList 0 m c) (g:α -> β) (hg: ∀ x,c x=c' (g x)) (hm: ∀ x,(c' x).length=m):Rd P t m c':=⟨hm,hc,fun enc w EI cs x h hw=>by
 cases EI with
 | zero=>simp [DataW.trod] at h
 | succ EI=>
  unfold DataW.trod at h;rw [ht] at h;simp only at h;split at h
  ·rename_i hl;obtain ⟨xs,Sn,e⟩:=Option.map_eq_some_iff.1 h;subst e;obtain ⟨y,hy⟩:=hs _ enc w EI cs xs (by rw [hl,hc]) Sn fun k hk=>hw k (by simp only [DataW.weights,ht];exact hk)
   exact ⟨g y,by rw [←hg];exact hy⟩
  ·cases h⟩
end
end Go.Proofs.YtkjbblkieglmlaaGreatDoor
namespace Go.Proofs.YtkjbblkieglmlaaGreatDoor
abbrev zFG:=@Go.ChangeShapes.trodAll_cons
end Go.Proofs.YtkjbblkieglmlaaGreatDoor
namespace Go.Proofs.YtkjbblkieglmlaaGreatDoor
open Go.ChangeShapes Go.WideShapes Go.ChangeAt Go.RowKit
def Ip (P:Program) (t:TypeId) {α:Type} (d:α -> DV):Prop:=∀ {H:Type} (enc:TypeId×Value -> H) (w:World) (DC:Nat) (v:Value) (x:DataW H) (ps:List MemPlace),Value.okWide P w .any DC t v -> DataW.Trod enc P w 0 (fun _=>true) true t v x ps -> (∀ n∈x.weights P t,n<=reachBytes) -> ∃ y:α,AM (fun _=>False) w (d y) [] v
section
variable {P:Program} {t e:TypeId}
theorem Ip.one {α:Type} {c:α -> List DV} (ht:P.underlying t=some (.slice e)) (h:Rd P t 1 c):Ip P t (fun x=>(c x).getD 0 .any):=fun enc w DC v x ps Du ⟨EI,hx⟩ hw=>by
 obtain ⟨a,len,cap,rfl⟩:=okWide_slice ht Du;obtain ⟨y,h1,h2⟩:=h.2.2 enc w EI _ _ hx hw;exact ⟨y,by simpa [Value.cells] using h2 0 (by rw [h.1];exact zE4)⟩
theorem Ip.agg {α:Type} {m:Nat} {c:α -> List DV} {fs:Array Field} (ht:P.underlying t=some (.struct fs)) (h:Rd P t m c):Ip P t (fun x=>.agg m (L1 (c x))):=fun enc w DC v x ps Du ⟨EI,hx⟩ hw=>by
 obtain ⟨cs,rfl,DW⟩:=okWide_struct ht Du;obtain ⟨y,h1,h2⟩:=h.2.2 enc w EI _ _ hx hw;have hm:(c y).length=m:=h.1 y
 have Ay:cs.size=m:=by
  have:cs.toList.length=(c y).length:=h1;simpa [hm] using this
 refine ⟨y,cs,rfl,Ay,fun j hj=>?_⟩;have:=h2 j (by rw [hm];exact hj);refine ⟨cs[j]'(by omega),by simp [Ay,hj],?_⟩
 have e:(Value.agg cs).cells.toList.getD j undef=cs[j]'(by omega):=by
  show cs.toList.getD j undef=_
  simp [u8,Ay,hj]
 rw [e] at this;exact this
def G5 (P:Program) (ts:List TypeId) {α:Type} (ds:α -> List DV):Prop:=∀ {H:Type} (enc:TypeId×Value -> H) (w:World) (DC:Nat) (vs:List Value) (xs:List (DataW H)) (ps:List MemPlace),(∀ (j:Nat) t v,ts[j]? =some t -> vs[j]? =some v -> Value.okWide P w .any DC t v) -> DataW.TrodAll enc P w 0 (fun _=>true) true ts vs xs ps -> (∀ n∈DataW.weightsEach P ts xs,n<=reachBytes) -> ∃ y:α,(ds y).length=vs.length/\ ∀ j,j<vs.length -> AM (fun _=>False) w ((ds y).getD j .any) [] (vs.getD j undef)
theorem G5.nil:G5 P [] (fun _:Unit=>[]):=fun enc w DC vs xs ps _ h _=>by
 obtain ⟨rfl,_,_⟩:=trodAll_nil h;exact ⟨(),rfl,fun j hj=>absurd hj (zAo j)⟩
theorem G5.cons {α β:Type} {d:α -> DV} {ds:β -> List DV} {ts:List TypeId} (h:Ip P t d) (hs:G5 P ts ds):G5 P (t::ts) (fun x:α×β=>d x.1::ds x.2):=fun enc w DC vs xs ps Du h0 hw=>by
 obtain ⟨v,Bj,x,dg,p,q,rfl,rfl,rfl,h1,h2⟩:=zFG h0;obtain ⟨y,hy⟩:=h enc w DC v x p (Du 0 t v rfl rfl) h1 fun n hn=>hw n (by simp only [DataW.weightsEach];exact zA6 _ hn)
 obtain ⟨z,Sl,xV⟩:=hs enc w DC Bj dg q (fun j t' v' a b=>Du (j+1) t' v' (by simpa using a) (by simpa using b)) h2 fun n hn=>hw n (by simp only [DataW.weightsEach];exact zD3 _ hn)
 refine ⟨(y,z),by simp [Sl],fun j hj=>?_⟩;cases j with
 | zero=>exact hy
 | succ j=>exact xV j (by simpa using hj)
theorem d9 {H:Type} {enc:TypeId×Value -> H} (hl:laidOutB P=true) {W W':World} (hE:Aq W W'): ∀ {ts:List TypeId} {vs:List Value} {ds:List (DataW H)} {ps:List MemPlace},(∀ t∈ts,P.readableRec t=true/\ t<P.types.size) -> DataW.TrodAll enc P W 0 (fun _=>true) true ts vs ds ps -> (∀ x∈ps,x.block<W.heap.size) -> DataW.TrodAll enc P W' 0 (fun b=>decide (b<W.heap.size)) true ts vs ds ps
 | [],_,_,_,_,h,_=>by
  obtain ⟨rfl,rfl,rfl⟩:=trodAll_nil h;rfl
 | t::ts,_,_,_,hr,h,AO=>by
  obtain ⟨v,Bj,x,dg,p,q,rfl,rfl,rfl,h1,h2⟩:=zFG h;exact ⟨p,q,Below.trod hl (hr t (by simp)).1 (hr t (by simp)).2 h1 hE fun x hx=>AO x (zA6 _ hx),d9 hl hE (fun t ht=>hr t (by simp [ht])) h2 fun x hx=>AO x (zD3 _ hx),rfl⟩
theorem uK {H:Type} {enc:TypeId×Value -> H} {f:Func} {s:ChangeSpec} {W W':World} {args:Array Value} {ds gs:List (DataW H)} {Ik:List MemPlace} {tb:TypeId} (hl:laidOutB P=true) (hr: ∀ t∈f.params.toList,P.readableRec t=true/\ t<P.types.size) (hE:Aq W W')
 (hW:DataW.Whole enc P f.params.toList s.vars false W args.toList ds gs Ik) (hv:s.vars= []) (hs:s.fn H (ds++gs)= { results:=[.lit (.bool true)],args:=ds }) (ah:f.resultTypes= #[tb]) (aa:P.underlying tb=some .bool):
 s.post enc P f false true false false W args (.bool true) W':=by
 have N9:=hW;have AO:=hW.lt;obtain ⟨p,q,hA,hV,rfl,GT,Au⟩:=hW;rw [hv] at hV;obtain ⟨rfl,rfl⟩:=trodVars_none hV;have Cb:=d9 hl hE hr hA fun x hx=>AO x (zA6 _ hx)
 refine ⟨ds,[],p++[],[],p,[],N9,?_,?_,?_,World.keptBut_mono (fun x hx=>⟨hx,.inr (.inl (by simpa using hx))⟩) (Below.frame hE (· ∈p++[])),fun h=>by cases h⟩
 ·rw [hs,ah];exact trodAll_mk1 (shut_bool aa true)
 ·rw [hs];exact Cb
 ·rw [hv,hs];rfl
theorem jv {H:Type} {enc:TypeId×Value -> H} {Γ:Ar} {mc:Nat} {f:Func} {s:ChangeSpec} {W:World} {DC:Nat} {args:Array Value} {ds gs:List (DataW H)} {Ik:List MemPlace} {tb:TypeId} {α:Type} {dv:α -> List DV} (hl:laidOutB P=true) (hr: ∀ t∈f.params.toList,P.readableRec t=true/\ t<P.types.size)
 (yQ:G5 P f.params.toList dv) (Ez: ∀ (w:World) (y:α),(∀ j,AM (fun _=>False) w ((dv y).getD j .any) [] (args.getD j undef)) -> ES P Γ mc (dv y) [] (.bool true) [] true)
 (FI: ∀ (j:Nat) t v,f.params[j]? =some t -> args[j]? =some v -> Value.okWide P W .any DC t v) (hW:DataW.Whole enc P f.params.toList s.vars false W args.toList ds gs Ik) (hv:s.vars= []) (hs:s.fn H (ds++gs)= { results:=[.lit (.bool true)],args:=ds }) (ah:f.resultTypes= #[tb]) (aa:P.underlying tb=some .bool)
 (Ay:(DataW.weightsEach P f.params.toList ds).all (· <=reachBytes)=true) (hg:Γ.gi W):Calls P mc args W fun e W'=>∃ v,e= .returned v/\ s.post enc P f false true false false W args v W':=by
 have N9:=hW;obtain ⟨p,q,hA,hV,rfl,GT,Au⟩:=hW
 obtain ⟨y,h1,h2⟩:=yQ enc W DC args.toList ds p (fun j t v a b=>FI j t v (by simpa using a) (by simpa using b)) hA fun n hn=>by
  have:=zAT.1 Ay n hn;simpa using this
 have Ao:(dv y).length=args.size:=by simpa using h1
 have kg: ∀ j,AM (fun _=>False) W ((dv y).getD j .any) [] (args.getD j undef):=fun j=>by
  rcases zBG j args.size with hj | hj
  ·have:=h2 j (by simpa using hj);simpa [u8,zAg,hj] using this
  ·have:(dv y).getD j .any= .any:=by rw [u8,zEV (by omega)];rfl
   rw [this];trivial
 refine ((Ez W y kg).2 (fun _=>False) [] W args (Pb (fun b hb=>hb.elim) hg) ⟨Ao,fun i hi=>?_⟩).mono ?_
 ·exact AM.out _ (C6 (fun b hb=>OZ.1 hb) []) (kg i)
 ·rintro e W' ⟨v,rfl,G⟩;obtain ⟨ρ',_,aZ,_⟩:=G.ex;have aZ:v= .bool true:=aZ;subst aZ;exact ⟨_,rfl,uK hl hr (G.ext rfl) N9 hv hs ah aa⟩
end
end Go.Proofs.YtkjbblkieglmlaaGreatDoor
namespace Go.Proofs.YtkjbblkieglmlaaGreatDoor
open Go.ChangeShapes Go.WideShapes Go.ChangeAt Go.RowKit
theorem own:ownKnob Tryz.prog.godebug=none:=by kernel_rfl
theorem j7:laidOutB Tryz.prog=true:=by kernel_rfl
theorem zC8:0<Tryz.prog.bytesOf 3:=zD2 (by kernel_rfl)
theorem IG:Rd Tryz.prog 3 1 (fun n:Int=>[.int .i64 n]):=Rd.int Tryz.underlying3 (by kernel_rfl)
theorem Re:Rd Tryz.prog 22 1 BS:=Rd.ints Tryz.underlying22 (by kernel_rfl) zC8 Tryz.underlying3 (by kernel_rfl)
theorem tm:Rd Tryz.prog 23 1 (fun L:List (List Int)=>[.sl 1 L.length (AQ BS L)]):=Rd.rows Tryz.underlying23 (by kernel_rfl) (zD2 (by kernel_rfl)) zE4 Re
set_option maxRecDepth 100000 in
theorem tv:Rd Tryz.prog 63 9 AK:=by
 refine Rd.struct Tryz.underlying63 (by kernel_rfl)
  (Dl.cons rfl IG<|Dl.cons rfl Re<|Dl.cons rfl IG<|Dl.cons rfl IG<|Dl.cons rfl IG<|Dl.cons rfl IG<|Dl.cons rfl Re<|Dl.cons rfl IG<|Dl.cons rfl IG<|Dl.nil rfl)
  (fun x:Int×List Int×Int×Int×Int×Int×List Int×Int×Int×Unit=>(⟨x.1,x.2.1,x.2.2.1,x.2.2.2.1,x.2.2.2.2.1,x.2.2.2.2.2.1,x.2.2.2.2.2.2.1,x.2.2.2.2.2.2.2.1,x.2.2.2.2.2.2.2.2.1⟩:AC)) ?_ (fun _=>rfl)
 intro x;rfl
theorem tu:Rd Tryz.prog 24 1 (fun L:List AC=>[.sl 9 L.length (AQ AK L)]):=Rd.rows Tryz.underlying24 (by kernel_rfl) (zD2 (by kernel_rfl)) (by decide) tv
set_option maxRecDepth 100000 in
theorem tn:Rd Tryz.prog 26 5 AD:=by
 refine Rd.struct Tryz.underlying26 (by kernel_rfl)
  (Dl.cons rfl IG<|Dl.cons rfl IG<|Dl.cons rfl Re<|Dl.cons rfl tm<|Dl.cons rfl tu<|Dl.nil rfl)
  (fun x:Int×Int×List Int×List (List Int)×List AC×Unit=>(⟨x.1,x.2.1,x.2.2.1,x.2.2.2.1,x.2.2.2.2.1⟩:AA)) ?_ (fun _=>rfl)
 intro x;rfl
theorem ga:Ip Tryz.prog 26 (fun q:AA=>.agg 5 (L1 (AD q))):=Ip.agg Tryz.underlying26 tn
theorem gh:Ip Tryz.prog 22 (fun l:List Int=>.ints l):=Ip.one Tryz.underlying22 Re
theorem EA.of {M:Nat -> Prop} {w:World} {ρ:List AI} {q:AA} {v:Value} (h:AM M w (.agg 5 (L1 (AD q))) ρ v):EA q:=by
 obtain ⟨cs,_,_,hc⟩:=h
 have row: ∀ {α:Type} [Inhabited α] {m:Nat} {c:α -> List DV} {L:List α} {u:Value},0<m -> AM M w (.sl m L.length (AQ c L)) ρ u -> ∀ x∈L,∀ j,j<m -> ∃ u,AM M w ((c x).getD j .any) [] u:=by
  intro α _ m c L u hm ⟨a,cap,_,_,_,hh⟩ x hx j hj;obtain ⟨i,hi,rfl⟩:=zEQ hx;obtain ⟨b,o,u,_,_,_,hr⟩:=hh i j hi hj;refine ⟨u,?_⟩;have e:L.getD i default=L[i]:=by simp [hi]
  have hr:AM M w ((c (L.getD i default)).getD j .any) [] u:=hr;rw [e] at hr;exact hr
 refine ⟨?_,fun r hr=>?_,fun c bQ=>?_,fun c bQ=>?_⟩
 ·obtain ⟨u,_,h2⟩:=hc 2 (by decide);exact PV h2
 ·obtain ⟨u,_,h3⟩:=hc 3 (by decide);obtain ⟨u,h⟩:=row (c:=BS) (L:=q.nbrs) zE4 h3 r hr 0 zE4;exact PV h
 ·obtain ⟨u,_,h4⟩:=hc 4 (by decide);obtain ⟨u,h⟩:=row (c:=AK) (L:=q.cons) (by decide) h4 c bQ 1 (by decide);exact PV h
 ·obtain ⟨u,_,h4⟩:=hc 4 (by decide);obtain ⟨u,h⟩:=row (c:=AK) (L:=q.cons) (by decide) h4 c bQ 6 (by decide);exact PV h
theorem mQ:Tryz.prog.globalNamed "math/bits.deBruijn64tab" =some 1:=by kernel_rfl
theorem zBF:(Tryz.prog.globals[1]?).map (·.type)=some 187:=by kernel_rfl
abbrev aD {H:Type}:List (String×DataW H):=[("math/bits.deBruijn32tab",Rows.laid_math_bits_deBruijn32tab),("math/bits.deBruijn64tab",Rows.laid_math_bits_deBruijn64tab)]
theorem pO {W:World} (h:laidMetH Tryz.prog aD W):Lib.TabIs Tryz.prog W "math/bits.deBruijn64tab" .u8 (Lib.deBruijn64tab.map Int.ofNat):=
 Lib.tabIs_of_head (rest:=[]) mQ zBF Tryz.underlying187 Tryz.underlying5 (by kernel_rfl) (by kernel_rfl) (laidMet.tail (show laidMet Tryz.prog aD W from h))
theorem eZ {W:World} (h:laidMetH Tryz.prog aD W):GG.gi W:=by
 have T:=pO h;have c: ∀ j,j<64 -> W.cell? ⟨1,j,none⟩=some (.int .u8 ((Lib.deBruijn64tab.map Int.ofNat).getD j 0)):=fun j hj=>T.cell mQ j (by rw [zAq];exact hj)
 refine ⟨fun j hj=>?_,?_⟩
 ·have hj:j<64:=hj;rw [c j hj]
  have:(Lib.deBruijn64tab.map Int.ofNat).getD j 0=((Lib.deBruijn64tab.getD j 0:Nat):Int):=by
   have hl:j<Lib.deBruijn64tab.length:=hj;simp [u8,hl]
  rw [this]
 ·have:=zEH W _ (c 0 (by decide));exact this
def ju (l:List Nat) (o:Obj):Obj:=match o with
 | .cells _ t frozen=>.cells (l.map fun n=>Value.int .u8 (Int.ofNat n)).toArray t frozen
 | o=>o
noncomputable def PN (os:Os):World:=
 { World.holding Tryz.prog os ⟨#[],#[],[]⟩ with heap:=((World.holding Tryz.prog os ⟨#[],#[],[]⟩).heap.modify 0 (ju Lib.deBruijn32tab)).modify 1 (ju Lib.deBruijn64tab) }
def LY:Value:=.agg #[.int .i64 0,.int .i64 0,.slice none 0 0,.slice none 0 0,.slice none 0 0]
end Go.Proofs.YtkjbblkieglmlaaGreatDoor
namespace Go.Proofs.YtkjbblkieglmlaaGreatDoor
open Go.ChangeShapes Go.WideShapes Go.ChangeAt Go.RowKit
theorem tr:Rd Tryz.prog 45 2 BD:=by
 refine Rd.struct Tryz.underlying45 (by kernel_rfl) (Dl.cons rfl IG<|Dl.cons rfl IG<|Dl.nil rfl) (fun x:Int×Int×Unit=>(x.1,x.2.1)) ?_ (fun _=>rfl);intro x;rfl
theorem tq:Rd Tryz.prog 27 1 (fun L:List (Int×Int)=>[.sl 2 L.length (AQ BD L)]):=Rd.rows Tryz.underlying27 (by kernel_rfl) (zD2 (by kernel_rfl)) (by decide) tr
theorem gb:Ip Tryz.prog 27 (fun L:List (Int×Int)=>.sl 2 L.length (AQ BD L)):=Ip.one Tryz.underlying27 tq
end Go.Proofs.YtkjbblkieglmlaaGreatDoor
