/- Part 4 of 6 of what the proofs of these laws stand on. -/
import Derived.Test.YtgkhhfnhacibcaaGreatDoorPeC
import Derived.Laws.BitsLemmas
import Derived.Shelf.Sort.Plain
set_option linter.all false
namespace Go.Proofs.YtgkhhfnhacibcaaGreatDoor
abbrev yP:=@decide_eq_true_iff
abbrev yg:=@List.mem_append_left
abbrev yk:=@List.length_singleton
abbrev yy:=@List.mem_append_right
abbrev zK:=@List.getElem?_set_self
abbrev zm:=@Bool.false_and
abbrev zw:=@List.countP_cons
abbrev zAO:=@List.append_nil
abbrev zAT:=@List.countP_le_length
abbrev zAX:=@List.append_assoc
abbrev zAd:=@Bool.and_false
end Go.Proofs.YtgkhhfnhacibcaaGreatDoor
namespace Go.Proofs.YtgkhhfnhacibcaaGreatDoor
open Go.RowKit
def nb (g:List (List Int)) (v:Int):List Int:=g.getD v.toNat []
structure Gr (g:List (List Int)):Prop where
 len:g.length<=256
 row: ∀ v,0<=v -> v<(g.length:Int) -> (nb g v).length<=256
 rng: ∀ v,0<=v -> v<(g.length:Int) -> ∀ u∈nb g v,0<=u/\ u<(g.length:Int)
 sym: ∀ v,0<=v -> v<(g.length:Int) -> ∀ u∈nb g v,v∈nb g u
theorem Gr.of {g:List (List Int)} (h:Jv g=true) (hr: ∀ r∈g,r.length<=LB):Gr g:=by
 unfold Jv at h;rw [yD,yP,yJ] at h
 have key: ∀ v,0<=v -> v<(g.length:Int) -> ∀ u∈nb g v,(0<=u/\ u<(g.length:Int))/\ v∈nb g u:=by
  intro v h0 h1 u hu;have h2:=h.2 v.toNat (yR.2 (by omega));unfold IX at h2;rw [yJ] at h2;obtain ⟨j,hj,e⟩:=zR hu;have h3:=h2 j (yR.2 hj);unfold Gk at h3
  have e2:(g.getD v.toNat []).getD j 0=u:=by
   show (nb g v).getD j 0=u
   rw [u8,xy hj];exact e
  simp only [e2,yD,yP,zAS] at h3;have e3:((v.toNat:Nat):Int)=v:=by omega
  rw [e3] at h3;exact ⟨⟨h3.1.1.1.1,h3.1.1.1.2⟩,h3.2⟩
 have grow: ∀ v,0<=v -> v<(g.length:Int) -> ∀ k,k<(nb g v).length -> (k:Int)<=(nb g v).getD k 0:=by
  intro v h0 h1 k;have h2:=h.2 v.toNat (yR.2 (by omega));unfold IX at h2;rw [yJ] at h2
  induction k with
  | zero=>
   intro hk;have h3:=h2 0 (yR.2 hk);unfold Gk at h3;simp only [yD,yP] at h3;exact h3.1.1.1.1
  | succ k ih=>
   intro hk;have h3:=h2 (k+1) (yR.2 hk);unfold Gk at h3;have d:decide (0<k+1)=true:=yG (by omega);simp only [yD,yP,d,yw,zj,Nat.add_sub_cancel] at h3;have h4:(nb g v).getD k 0<(nb g v).getD (k+1) 0:=h3.1.2;have:=ih (by omega);omega
 exact ⟨h.1,fun v h0 h1=>by
  refine zA2 fun hl=>?_
  have h2:=grow v h0 h1 256 hl;have h3:(nb g v).getD 256 0∈nb g v:=by rw [u8,xy hl];exact yY hl
  have h4:=(key v h0 h1 _ h3).1;have:=h.1;omega,fun v h0 h1 u hu=>(key v h0 h1 u hu).1,fun v h0 h1 u hu=>(key v h0 h1 u hu).2⟩
inductive Rc (g:List (List Int)) (inn:List Bool) (s:Int):Int -> Prop
 | start:Rc g inn s s
 | step {a b:Int} (h:Rc g inn s a) (hb:b∈nb g a) (hi:inn.getD b.toNat false=true):Rc g inn s b
section
variable {g:List (List Int)} {inn:List Bool} {s:Int}
theorem Rc.rng (G:Gr g) (h0:0<=s) (h1:s<(g.length:Int)) {v:Int} (h:Rc g inn s v):0<=v/\ v<(g.length:Int):=by
 induction h with
 | start=>exact ⟨h0,h1⟩
 | step h hb hi ih=>exact G.rng _ ih.1 ih.2 _ hb
theorem Rc.isIn (hs:inn.getD s.toNat false=true) {v:Int} (h:Rc g inn s v):inn.getD v.toNat false=true:=by
 cases h with
 | start=>exact hs
 | step h hb hi=>exact hi
theorem Rc.trans {a b:Int} (h:Rc g inn s a) (h2:Rc g inn a b):Rc g inn s b:=by
 induction h2 with
 | start=>exact h
 | step _ hb hi ih=>exact .step ih hb hi
theorem Rc.symm (G:Gr g) (h0:0<=s) (h1:s<(g.length:Int)) (hs:inn.getD s.toNat false=true) {v:Int} (h:Rc g inn s v):Rc g inn v s:=by
 induction h with
 | start=>exact .start
 | step h hb hi ih=>
  have hr:=h.rng G h0 h1;exact (Rc.step Rc.start (G.sym _ hr.1 hr.2 _ hb) (h.isIn hs)).trans ih
def FJ (l:List Bool):Nat:=l.countP fun b=>!b
theorem Uh: ∀ (l:List Bool) (i:Nat),i<l.length -> l.getD i false=false -> FJ (l.set i true)+1=FJ l
 | b::l,0,_,h=>by
  have h:b=false:=h;subst h;simp [FJ,zw]
 | b::l,i+1,hi,h=>by
  have:=Uh l i (Nat.lt_of_succ_lt_succ hi) (by simpa using h)
  show FJ (b::l.set i true)+1=FJ (b::l)
  unfold FJ at this ⊢;rw [zw,zw];omega
def DF (inn:List Bool) (st:List Bool×List Int) (v:Int):List Bool×List Int:=bif inn.getD v.toNat false&&!st.1.getD v.toNat false then (st.1.set v.toNat true,st.2++[v]) else st
structure Bf (g:List (List Int)) (inn:List Bool) (s:Int) (met:List Bool) (Q P:List Int):Prop where
 len:met.length=g.length
 cnt:Q.length+FJ met<=g.length
 nd:(P++Q).Nodup
 rc: ∀ v∈P++Q,Rc g inn s v
 rng: ∀ v∈P++Q,0<=v/\ v<(g.length:Int)
 met: ∀ v:Int,0<=v -> v<(g.length:Int) -> (met.getD v.toNat false=true↔v∈P++Q)
 cl: ∀ p∈P,∀ b∈nb g p,inn.getD b.toNat false=true -> b∈P++Q
 st:s∈P++Q
theorem Bf.ex (G:Gr g) {met:List Bool} {Q P:List Int} (h:Bf g inn s met Q P) {v u:Int} (hv:v∈Q) (hu:u∈nb g v):
 Bf g inn s (DF inn (met,Q) u).1 (DF inn (met,Q) u).2 P/\ (∃ t,(DF inn (met,Q) u).2=Q++t)/\ (inn.getD u.toNat false=true -> u∈P++(DF inn (met,Q) u).2)/\ 2*FJ (DF inn (met,Q) u).1+(DF inn (met,Q) u).2.length<=2*FJ met+Q.length:=by
 have Gq:=h.rng v (yy _ hv);have QT:=G.rng v Gq.1 Gq.2 u hu;unfold DF
 dsimp only
 cases hi:inn.getD u.toNat false
 ·rw [zm,xx];exact ⟨h,⟨[],(zAO _).symm⟩,fun h=>(by cases h),yS _⟩
 ·cases hm:met.getD u.toNat false
  ·rw [zH,Bool.and_true,yC];have hn:u∉P++Q:=fun hh=>by rw [(h.met u QT.1 QT.2).2 hh] at hm;cases hm
   have hl:=h.len;have hc:=Uh met u.toNat (by omega) hm;have hcnt:=h.cnt;have DS: ∀ x,x∈P++(Q++[u])↔x∈P++Q∨x=u:=fun x=>by simp [or_assoc]
   refine ⟨⟨by rw [yW];exact hl,by show (Q++[u]).length+FJ (met.set u.toNat true)<=_;rw [yc,yk];omega,?_,fun x hx=>?_,fun x hx=>?_,fun x Fb Jm=>?_,fun p hp b hb uN=>(DS b).2 (.inl (h.cl p hp b hb uN)),(DS s).2 (.inl h.st)⟩,⟨[u],rfl⟩,fun _=>(DS u).2 (.inr rfl),by show 2*FJ (met.set u.toNat true)+(Q++[u]).length<=_;rw [yc,yk];omega⟩
   ·rw [←zAX,List.nodup_append];exact ⟨h.nd,by simp,fun a ha b hb=>by rw [yZ] at hb;subst hb;exact fun e=>hn (e▸ha)⟩
   ·rcases (DS x).1 hx with hx | rfl
    ·exact h.rc x hx
    ·exact .step (h.rc v (yy _ hv)) hu hi
   ·rcases (DS x).1 hx with hx | rfl
    ·exact h.rng x hx
    ·exact QT
   ·rw [DS,←h.met x Fb Jm]
    by_cases e:x=u
    ·subst e;rw [u8,zK (by omega)];exact ⟨fun _=>.inr rfl,fun _=>rfl⟩
    ·rw [u8,zG (by omega),←u8];exact ⟨.inl,fun h=>h.elim id fun h=>absurd h e⟩
  ·rw [yw,zAd,xx];exact ⟨h,⟨[],by simp⟩,fun _=>(h.met u QT.1 QT.2).1 hm,yS _⟩
theorem Bf.exs (G:Gr g) {v:Int} {P:List Int}: ∀ (l:List Int) {met:List Bool} {Q:List Int},Bf g inn s met Q P -> v∈Q -> (∀ u∈l,u∈nb g v) ->
 Bf g inn s (l.foldl (DF inn) (met,Q)).1 (l.foldl (DF inn) (met,Q)).2 P/\ (∃ t,(l.foldl (DF inn) (met,Q)).2=Q++t)/\ (∀ u∈l,inn.getD u.toNat false=true -> u∈P++(l.foldl (DF inn) (met,Q)).2)/\ 2*FJ (l.foldl (DF inn) (met,Q)).1+(l.foldl (DF inn) (met,Q)).2.length<=2*FJ met+Q.length
 | [],met,Q,h,hv,hl=>⟨h,⟨[],by simp⟩,fun u hu=>absurd hu zv,yS _⟩
 | u::l,met,Q,h,hv,hl=>by
  obtain ⟨h1,⟨t,ht⟩,h2,h3⟩:=h.ex G hv (hl u y9);obtain ⟨h4,⟨t',dY⟩,h5,h6⟩:=Bf.exs G l h1 (by rw [ht];exact yg _ hv) fun x hx=>hl x (ya _ hx)
  refine ⟨h4,⟨t++t',?_⟩,fun x hx hi=>?_,yO h6 h3⟩
  ·show (List.foldl (DF inn) (DF inn (met,Q) u) l).2=_
   rw [dY,ht,zAX]
  ·rcases yf.1 hx with rfl | hx
   ·show x∈P++(List.foldl (DF inn) (DF inn (met,Q) x) l).2
    rw [dY,←zAX];exact yg _ (h2 hi)
   ·exact h5 x hx hi
theorem qE {n j:Nat} {l:List Int} {met:List Bool} {Q:List Int} (hI:inn.length=g.length) (hG:g.length<=256) (hm:met.length=g.length) (hQ:Q.length+FJ met<=g.length) (hj:j<l.length) (hl:l.length<=256) (hr:0<=l.getD j 0/\ l.getD j 0<(g.length:Int)):
 Dz g s inn (n+1) (.l2 Q.length l (l.length:Int) (j:Int) met Q)=Dz g s inn n (.l2 (DF inn (met,Q) (l.getD j 0)).2.length l (l.length:Int) ((j:Int)+1) (DF inn (met,Q) (l.getD j 0)).1 (DF inn (met,Q) (l.getD j 0)).2):=by
 have r1:AH ((j:Int)+1):=Ax.2 ⟨by omega,by omega⟩;have L:(1000000000000:Nat)=As:=rfl
 show JT n (Dz g s inn n) g s inn Q.length l (l.length:Int) (j:Int) met Q=_
 unfold JT DF;simp only [yB,yU];rw [yG (by omega),yC,xw ⟨⟨by omega,by omega⟩,by omega,by omega⟩];cases hi:inn.getD (l.getD j 0).toNat false
 ·rw [xx,zm,xx,xw r1]
 ·rw [yC,y8,xw ⟨hr,by omega⟩];cases ht:met.getD (l.getD j 0).toNat false
  ·have hc:=Uh met (l.getD j 0).toNat (by omega) ht;rw [zH,yC,yC,xw ⟨⟨⟨trivial,rfl⟩,⟨trivial,trivial⟩,by rw [yk,←L];omega⟩,r1⟩,yc]
  ·rw [yw,xx,xx,xw r1]
theorem cv (hI:inn.length=g.length) (G:Gr g) {v:Int} {P:List Int} {l:List Int} (hl:l.length<=256) (Xa: ∀ u∈l,u∈nb g v): ∀ (k j n:Nat) {met:List Bool} {Q:List Int},j+k=l.length -> Bf g inn s met Q P -> v∈Q ->
 Dz g s inn (n+k) (.l2 Q.length l (l.length:Int) (j:Int) met Q)=Dz g s inn n (.l2 ((l.drop j).foldl (DF inn) (met,Q)).2.length l (l.length:Int) (l.length:Int) ((l.drop j).foldl (DF inn) (met,Q)).1 ((l.drop j).foldl (DF inn) (met,Q)).2)
 | 0,j,n,met,Q,e,h,hv=>by
  have e:j=l.length:=by omega
  subst e;rw [List.drop_length];rfl
 | k+1,j,n,met,Q,e,h,hv=>by
  have hj:j<l.length:=by omega
  have hu:l.getD j 0∈l:=by rw [u8,xy hj];exact yY hj
  have Gq:=h.rng v (yy _ hv);have hr:=G.rng v Gq.1 Gq.2 _ (Xa _ hu);obtain ⟨h1,⟨t,ht⟩,_,_⟩:=h.ex G hv (Xa _ hu);rw [←yu,qE hI G.len h.len h.cnt hj hl hr];have:=cv hI G hl Xa k (j+1) n (by omega) h1 (by rw [ht];exact yg _ hv);have e1:(((j+1:Nat)):Int)=(j:Int)+1:=by omega
  rw [e1] at this;rw [this]
  have e2:l.drop j=l.getD j 0::l.drop (j+1):=by
   rw [ym hj,u8,xy hj];rfl
  rw [e2];rfl
def LQ (g:List (List Int)) (inn:List Bool) (s:Int) (P l:List Int):Prop:=(P++l).Nodup/\ (∀ v,v∈P++l↔Rc g inn s v)
theorem Bf.done {met:List Bool} {P:List Int} (h:Bf g inn s met [] P):LQ g inn s P []:=by
 refine ⟨h.nd,fun v=>⟨h.rc v,fun hv=>?_⟩⟩
 induction hv with
 | start=>exact h.st
 | step _ hb hi ih=>exact h.cl _ (by simpa using ih) _ hb hi
theorem Ae.map {R:Type} {f:Nat -> Option R} {Q:R -> Prop} {Q':R -> Prop} {m:R -> R} (h:Ae f Q) (hq: ∀ r,Q r -> Q' (m r)):Ae (fun n=>(f n).map m) Q':=by
 obtain ⟨N,h⟩:=h;refine ⟨N,fun n hn=>?_⟩;obtain ⟨r,h1,h2⟩:=h n hn;exact ⟨m r,by show (f n).map m=_;rw [h1];rfl,hq r h2⟩
theorem w6 (G:Gr g) (hI:inn.length=g.length): ∀ (z:Nat) (met:List Bool) (Q P:List Int),2*FJ met+Q.length=z -> Bf g inn s met Q P -> Ae (fun n=>Dz g s inn n (.l1 Q.length met Q)) (LQ g inn s P):=by
 intro z
 induction z using Nat.strongRecOn with
 | _ z ih=>
  intro met Q P hz h;cases Q with
  | nil=>
   refine Ev.p (r:=[]) ⟨1,fun n hn=>?_⟩ h.done;obtain ⟨n,rfl⟩: ∃ k,n=k+1:=⟨n-1,by omega⟩
   show Ln n (Dz g s inn n) g s inn 0 met []=_
   unfold Ln;rw [yA (by omega),xx]
  | cons v q=>
   have hv:v∈v::q:=y9;have Gq:=h.rng v (yy _ hv);obtain ⟨h1,⟨t,ht⟩,h2,h3⟩:=h.exs G (nb g v) hv (fun u hu=>hu);have hl:=G.row v Gq.1 Gq.2
   generalize D1:(nb g v).foldl (DF inn) (met,v::q)=st at h1 ht h2 h3
   obtain ⟨Nc,Q'⟩:=st;have ht:Q'=v::(q++t):=ht;subst ht
   have hB:Bf g inn s Nc (q++t) (P++[v]):=by
    have e:P++[v]++(q++t)=P++(v::(q++t)):=by simp
    have hc:=h1.cnt;simp only [zB] at hc;refine ⟨h1.len,by omega,by rw [e];exact h1.nd,by rw [e];exact h1.rc,by rw [e];exact h1.rng,by rw [e];exact h1.met,?_,by rw [e];exact h1.st⟩;intro p hp b hb hi;rw [e];rcases yx.1 hp with hp | hp
    ·exact h1.cl p hp b hb hi
    ·rw [yZ] at hp;subst hp;exact h2 b hb hi
   have qw:2*FJ Nc+(q++t).length<z:=by
    simp only [zB] at h3;simp only [yc] at h3 ⊢;have:(v::q).length=q.length+1:=rfl;omega
   have IH:=ih _ qw Nc (q++t) (P++[v]) rfl hB
   have key:Ae (fun n=>Dz g s inn n (.l2 (v::(q++t)).length (nb g v) ((nb g v).length:Int) ((nb g v).length:Int) Nc (v::(q++t)))) (LQ g inn s (P++[v])):=by
    have g0:(0:Int)<=1/\ (1:Int)<=(((v::(q++t)).length:Nat):Int)/\ (((v::(q++t)).length:Nat):Int)<=(((v::(q++t)).length:Nat):Int):=⟨by omega,by rw [zB];omega,zP _⟩;cases XH:q++t with
    | nil=>
     rw [XH] at hB;refine Ev.p (r:=[]) ⟨2,fun n hn=>?_⟩ hB.done;obtain ⟨n,rfl⟩: ∃ k,n=k+2:=⟨n-2,by omega⟩
     show JT (n+1) (Dz g s inn (n+1)) g s inn 1 (nb g v) ((nb g v).length:Int) ((nb g v).length:Int) Nc [v]=_
     unfold JT;rw [yA (by omega),xx];rfl
    | cons a r=>
     rw [←XH];refine Ae.step 1 (fun n=>?_) IH
     show JT n (Dz g s inn n) g s inn (v::(q++t)).length (nb g v) ((nb g v).length:Int) ((nb g v).length:Int) Nc (v::(q++t))=_
     unfold JT;have e0:((v::(q++t)).length-1==0)=false:=by rw [XH];rfl
     rw [yA (by omega),xx,e0,xx,xw g0,xw (by rw [zB];omega)];rfl
   have qM:Ae (fun n=>Dz g s inn n (.l2 (v::q).length (nb g v) ((nb g v).length:Int) 0 met (v::q))) (LQ g inn s (P++[v])):=by
    refine Ae.step (nb g v).length (fun n=>?_) key;have:=cv hI G hl (fun u hu=>hu) (nb g v).length 0 n (by omega) h hv;rw [zAc,D1] at this;exact this
   have m: ∀ r:List Int,LQ g inn s (P++[v]) r -> LQ g inn s P (v::r):=fun r hr=>by
    have e:P++[v]++r=P++(v::r):=by simp
    unfold LQ at hr ⊢;rw [e] at hr;exact hr
   refine Ae.step 1 (fun n=>?_) (Ae.map qM m)
   show Ln n (Dz g s inn n) g s inn (v::q).length met (v::q)=_
   unfold Ln;have g1:((0:Int)<=0/\ 0<(((v::q).length:Nat):Int))/\ 0+0<(v::q).length:=by rw [zB];omega
   rw [yG (by rw [zB];omega),yC,xw g1];have e1:(v::q).getD (0+0) 0=v:=rfl;rw [e1,xw ⟨g1.1,g1.2,Gq⟩];rfl
theorem Vs (G:Gr g) (hI:inn.length=g.length) (h0:0<=s) (h1:s<(g.length:Int)):Ae (fun n=>Fm n g s inn) (fun l=>l.Nodup/\ ∀ v,v∈l↔Rc g inn s v):=by
 have A3:((List.replicate g.length false).set s.toNat true).length=g.length:=by simp
 have hG:=G.len;have hc:=Uh (List.replicate g.length false) s.toNat (by rw [yQ];omega) (by simp [u8,zQ];split <;> rfl)
 have K0:FJ (List.replicate g.length false)<=g.length:=by
  have:=zAT (p:=fun b=>!b) (l:=List.replicate g.length false);rw [yQ] at this;exact this
 have hB:Bf g inn s ((List.replicate g.length false).set s.toNat true) [s] []:=by
  refine ⟨A3,by rw [yk];omega,by simp,fun v hv=>?_,fun v hv=>?_,fun v Nm B5=>?_,fun p hp=>absurd hp zv,by simp⟩
  ·have:v=s:=by simpa using hv
   subst this;exact .start
  ·have:v=s:=by simpa using hv
   subst this;exact ⟨h0,h1⟩
  ·by_cases e:v=s
   ·subst e;rw [u8,zK (by rw [yQ];omega)];simp
   ·rw [u8,zG (by omega),zQ];simp only [zW,yZ,e,iff_false];split <;> simp
 have:=w6 G hI _ _ _ _ rfl hB;refine (Ae.mono (Q':=fun l=>l.Nodup/\ ∀ v,v∈l↔Rc g inn s v) this (fun l (hl:LQ g inn s [] l)=>(⟨hl.1,hl.2⟩:l.Nodup/\ ∀ v,v∈l↔Rc g inn s v))).eq fun n=>?_
 unfold Fm Vr;rw [xw ⟨⟨rfl,by omega,by omega⟩,⟨h0,h1⟩,by simp only [yQ];omega⟩,yU];rfl
end
end Go.Proofs.YtgkhhfnhacibcaaGreatDoor
namespace Go.Proofs.YtgkhhfnhacibcaaGreatDoor
abbrev zAM:=@BitVec.toNat_ofInt
abbrev zAe:=@Nat.pow_le_pow_right
abbrev zBC:=@Nat.testBit_two_pow
end Go.Proofs.YtgkhhfnhacibcaaGreatDoor
namespace Go.Proofs.YtgkhhfnhacibcaaGreatDoor
def tb (x:Int) (i:Nat):Bool:=(BitVec.ofInt 64 x).getLsbD i
def B9 (x:Int):Prop:=-9223372036854775808<=x/\ x<=9223372036854775807
theorem Pn (x:Int):BitVec.ofInt 64 (IntKind.i64.wrap x)=BitVec.ofInt 64 x:=by
 apply BitVec.eq_of_toNat_eq;rw [zAM,zAM,zA4]
 congr 1
 omega
theorem S0 (y:BitVec 64):BitVec.ofInt 64 (y.toNat:Int)=y:=by
 rw [zAb];simp
theorem U1 (x:Int):B9 (IntKind.i64.wrap x):=by
 rw [zA4];constructor <;> omega
theorem HP (op:BinOp) (a b:Int):B9 (bits op .i64 a b):=U1 _
theorem IS (a b:Int) (i:Nat):tb (bits .or .i64 a b) i=(tb a i||tb b i):=by
 show (BitVec.ofInt 64 (IntKind.i64.wrap ((BitVec.ofInt 64 a||| BitVec.ofInt 64 b).toNat:Int))).getLsbD i=_
 rw [Pn,S0,BitVec.getLsbD_or];rfl
theorem KH (a b:Int) (i:Nat):tb (bits .and .i64 a b) i=(tb a i&&tb b i):=by
 show (BitVec.ofInt 64 (IntKind.i64.wrap ((BitVec.ofInt 64 a&&& BitVec.ofInt 64 b).toNat:Int))).getLsbD i=_
 rw [Pn,S0,BitVec.getLsbD_and];rfl
theorem NA {x:Int} {i:Nat} (h:64<=i):tb x i=false:=BitVec.getLsbD_of_ge _ _ h
theorem NB (a b:Int) (i:Nat):tb (bits .andNot .i64 a b) i=(tb a i&&!tb b i):=by
 show (BitVec.ofInt 64 (IntKind.i64.wrap ((BitVec.ofInt 64 a&&& ~~~ BitVec.ofInt 64 b).toNat:Int))).getLsbD i=_
 rw [Pn,S0,BitVec.getLsbD_and,BitVec.getLsbD_not]
 by_cases h:i<64
 ·simp [h,tb]
 ·have h:64<=i:=by omega
  have:=NA (x:=a) h;unfold tb at*;rw [this];simp
theorem Rl (a:Int) {i:Nat} (h:i<64):tb (bits .xor .i64 (-1) a) i= !tb a i:=by
 show (BitVec.ofInt 64 (IntKind.i64.wrap ((BitVec.ofInt 64 (-1) ^^^ BitVec.ofInt 64 a).toNat:Int))).getLsbD i=_
 rw [Pn,S0,BitVec.getLsbD_xor];have:BitVec.ofInt 64 (-1)=BitVec.allOnes 64:=by decide
 rw [this,BitVec.getLsbD_allOnes];simp [h,tb]
theorem Oj (i:Nat):tb 0 i=false:=by
 unfold tb;rw [show BitVec.ofInt 64 0=0#64 from rfl];simp
theorem Ok {i:Nat}: ¬ tb 0 i=true:=by rw [Oj];decide
theorem LV {x y:Int} (hx:B9 x) (hy:B9 y) (h: ∀ i,i<64 -> tb x i=tb y i):x=y:=by
 have e:BitVec.ofInt 64 x=BitVec.ofInt 64 y:=BitVec.eq_of_getLsbD_eq fun i hi=>h i hi
 have e2:=congrArg BitVec.toNat e;rw [zAM,zAM] at e2;unfold B9 at*;omega
theorem KG (m i:Nat) (hi:i<64):tb (m:Int) i=m.testBit i:=by
 unfold tb;rw [zAb,BitVec.getLsbD_ofNat];simp [hi]
def Sm (k:Nat) (x:Int):Prop:=0<=x/\ x<2 ^ k
theorem Lp {k:Nat} (hk:k<=62):(2:Int) ^ k<=4611686018427387904:=by
 have:(2:Nat) ^ k<=2 ^ 62:=zAe (by decide) hk;have h:((2 ^ k:Nat):Int)<=((2 ^ 62:Nat):Int):=by exact_mod_cast this
 simpa using h
theorem Sm.in64 {k:Nat} {x:Int} (hk:k<=62) (h:Sm k x):B9 x:=by
 have:=Lp hk;obtain ⟨h1,h2⟩:=h;constructor <;> omega
theorem Sm.hi {k:Nat} {x:Int} (h:Sm k x) {i:Nat} (hi:k<=i):tb x i=false:=by
 rcases zb i 64 with Md | Md
 ·obtain ⟨m,rfl⟩:=zAG h.1;rw [KG m i Md];apply Nat.testBit_lt_two_pow;have h2:(m:Int)<2 ^ k:=h.2;have h3:m<2 ^ k:=by exact_mod_cast h2
  exact yM h3 (zAe (by decide) hi)
 ·exact NA Md
theorem aD {k:Nat} (hk:k<=62) {x:Int} (hx:B9 x) (h: ∀ i,k<=i -> i<64 -> tb x i=false):Sm k x:=by
 have hy:(BitVec.ofInt 64 x).toNat<2 ^ k:=by
  apply Nat.lt_pow_two_of_testBit;intro i hi;rcases zb i 64 with Md | Md
  ·have:=h i hi Md;unfold tb at this
   rwa [BitVec.getLsbD] at this
  ·exact Nat.testBit_lt_two_pow (yM (BitVec.isLt _) (zAe (by decide) Md))
 rw [zAM] at hy;have h1:=Lp hk;have h2:((2 ^ k:Nat):Int)=(2:Int) ^ k:=by simp
 unfold B9 at hx;unfold Sm;omega
theorem ix {s i:Nat} (hi:i<64):tb ((2 ^ s:Nat):Int) i=decide (s=i):=by
 rw [KG _ _ hi,zBC]
theorem Rm {x:Int} (hx:B9 x):x=0↔∀ i,i<64 -> tb x i=false:=
 ⟨fun h i _=>by rw [h];exact Oj i,fun h=>LV hx ⟨by decide,by decide⟩ fun i hi=>by rw [h i hi,Oj]⟩
theorem JI {x:Int} (hx:B9 x):x≠0↔∃ i,i<64/\ tb x i=true:=by
 rw [ne_eq,Rm hx];constructor
 ·intro h;refine Classical.byContradiction fun h2=>h fun i hi=>?_
  cases hb:tb x i with
  | false=>rfl
  | true=>exact absurd ⟨i,hi,hb⟩ h2
 ·rintro ⟨i,hi,hb⟩ h;rw [h i hi] at hb;cases hb
theorem jm {k s:Nat} {x:Int} (h:Sm k x) (hk:k<=62) (hs:s<64):bits .and .i64 (x/2 ^ s) 1=if tb x s then 1 else 0:=by
 obtain ⟨m,rfl⟩:=zAG h.1;have hm:=h.2;have ew:=Lp hk;have e:(m:Int)/2 ^ s=((m/2 ^ s:Nat):Int):=by simp
 have key: ∀ t,t<64 -> tb (bits .and .i64 ((m:Int)/2 ^ s) 1) t=(decide (t=0)&&tb (m:Int) s):=fun t ht=>by
  rw [KH,e,KG _ _ ht,KG m s hs,show (1:Int)=((1:Nat):Int) from rfl,KG 1 t ht,Nat.testBit_div_two_pow]
  by_cases h0:t=0
  ·subst h0;simp
  ·rw [yA h0,zm]
   have:Nat.testBit 1 t=false:=by
    rw [show (1:Nat)=2 ^ 0 from rfl,zBC];simpa using fun h=>h0 h.symm
   rw [this,zAd]
 cases hb:tb (m:Int) s with
 | true=>
  rw [xw rfl];refine LV (HP _ _ _) ⟨by decide,by decide⟩ fun t ht=>?_
  rw [key t ht,hb,show (1:Int)=((1:Nat):Int) from rfl,KG 1 t ht,Bool.and_true]
  by_cases h0:t=0
  ·subst h0;rfl
  ·rw [yA h0];rw [show (1:Nat)=2 ^ 0 from rfl,zBC];symm;simpa using fun h=>h0 h.symm
 | false=>
  rw [yK zo];exact (Rm (HP _ _ _)).2 fun t ht=>by rw [key t ht,hb,zAd]
theorem VS {k s:Nat} {x:Int} (h:Sm k x) (hk:k<=62) (hs:s<64):(bits .and .i64 (x/2 ^ s) 1==1)=tb x s:=by
 rw [jm h hk hs];cases tb x s <;> rfl
end Go.Proofs.YtgkhhfnhacibcaaGreatDoor
namespace Go.Proofs.YtgkhhfnhacibcaaGreatDoor
open Go.RowKit
theorem TF {S R:Type} (m:Nat -> S -> Int -> Option R) (len N0:Nat) (Inv:Nat -> S -> Prop)
 (h: ∀ (n i:Nat) (s:S),N0<=n -> i<len -> Inv i s -> ∃ s',m (n+1) s (i:Int)=m n s' ((i:Int)+1)/\ Inv (i+1) s'):
 ∀ (k i n:Nat) (s:S),i+k=len -> N0<=n -> Inv i s -> ∃ s',m (n+k) s (i:Int)=m n s' (len:Int)/\ Inv len s'
 | 0,i,n,s,e,_,hI=>by
  have:i=len:=by omega
  subst this;exact ⟨s,rfl,hI⟩
 | k+1,i,n,s,e,hn,hI=>by
  obtain ⟨s',h1,h2⟩:=h (n+k) i s (by omega) (by omega) hI;obtain ⟨s2,h3,h4⟩:=TF m len N0 Inv h k (i+1) n s' (by omega) hn h2;refine ⟨s2,?_,h4⟩;rw [show n+(k+1)=n+k+1 by omega,h1,←h3];rfl
theorem Gl {S R:Type} (m:Nat -> S -> Int -> Option R) (len N0:Nat) (Inv:Nat -> S -> Prop)
 (h: ∀ (n i:Nat) (s:S),N0<=n -> i<len -> Inv i s -> ∃ s',m (n+1) s (i:Int)=m n s' ((i:Int)+1)/\ Inv (i+1) s')
 {n:Nat} {s:S} (hn:N0+len<=n) (hI:Inv 0 s): ∃ n' s',N0<=n'/\ n'+len=n/\ m n s 0=m n' s' (len:Int)/\ Inv len s':=by
 obtain ⟨s',h1,h2⟩:=TF m len N0 Inv h len 0 (n-len) s (by omega) (by omega) hI;rw [show n-len+len=n by omega] at h1;exact ⟨n-len,s',by omega,by omega,h1,h2⟩
structure B0 (c:AB) (k:Nat) (pos:List Int):Prop where
 cells: ∀ a,a<c.cells.length -> 0<=c.cells.getD a 0/\ c.cells.getD a 0<(pos.length:Int)
 len:c.cells.length<=256
 sm: ∀ i,i<pos.length -> Sm k (pos.getD i 0)
 k:k<=16
def A0 (c:AB) (pos:List Int) (a:Nat):Int:=pos.getD (c.cells.getD a 0).toNat 0
def O2 (x:Int):Bool:=bits .and .i64 x (x-1)==0
section
variable {c:AB} {k:Nat} {pos lost:List Int} {q:AA}
theorem B0.at (W:B0 c k pos) {a:Nat} (ha:a<c.cells.length):Sm k (A0 c pos a):=by
 have:=W.cells a ha;exact W.sm _ (by omega)
theorem B0.r64 (W:B0 c k pos) {a:Nat} (ha:a<c.cells.length):AH (A0 c pos a-1)/\ AH ((a:Int)+1):=by
 have h:=W.at ha;have h2:=Lp (k:=k) (yO W.k (by decide));have h3:=W.len;obtain ⟨h0,h1⟩:=h;exact ⟨Ax.2 ⟨by omega,by omega⟩,Ax.2 ⟨by omega,by omega⟩⟩
theorem Jg {n:Nat} {cell ss:Int} (h0:0<=cell) (h1:cell<(pos.length:Int)) (hl:lost.length=pos.length):
 ∃ l',C5 n cell ss c q pos pos.length lost=some l'/\ l'.length=pos.length/\ ∀ j s,tb (l'.getD j 0) s=(tb (lost.getD j 0) s||(decide (j=cell.toNat)&&(tb (pos.getD j 0) s&&tb ss s))):=by
 refine ⟨lost.set cell.toNat (bits .or .i64 (lost.getD cell.toNat 0) (bits .and .i64 (pos.getD cell.toNat 0) ss)),?_,by rw [yW];exact hl,fun j s=>?_⟩
 ·unfold C5 Wd;simp only [yU];rw [xw ⟨⟨h0,h1⟩,by omega,h0,h1⟩]
 ·by_cases hj:j=cell.toNat
  ·subst hj;rw [u8,zK (by omega),zi,IS,KH,yG rfl,y8]
  ·rw [u8,zG (fun e=>hj e.symm),←u8,yA hj,zm,ze]
theorem WH {n:Nat} {cell:Int} (h0:0<=cell) (h1:cell<(pos.length:Int)) (hl:lost.length=pos.length):
 ∃ l',Ft n cell c q pos pos.length lost=some l'/\ l'.length=pos.length/\ ∀ j s,tb (l'.getD j 0) s=(tb (lost.getD j 0) s||(decide (j=cell.toNat)&&(tb (pos.getD j 0) s&&!tb c.set s))):=by
 refine ⟨lost.set cell.toNat (bits .or .i64 (lost.getD cell.toNat 0) (bits .andNot .i64 (pos.getD cell.toNat 0) c.set)),?_,by rw [yW];exact hl,fun j s=>?_⟩
 ·unfold Ft WJ;simp only [yU];rw [xw ⟨⟨h0,h1⟩,by omega,h0,h1⟩]
 ·by_cases hj:j=cell.toNat
  ·subst hj;rw [u8,zK (by omega),zi,IS,NB,yG rfl,y8]
  ·rw [u8,zG (fun e=>hj e.symm),←u8,yA hj,zm,ze]
def Sg (c:AB) (pos:List Int) (a s:Nat):Prop:=O2 (A0 c pos a)=true/\ tb (A0 c pos a) s=true
def Bw (c:AB) (pos lost:List Int) (i:Nat) (D:Nat -> Nat -> Prop) (l:List Int):Prop:=
 l.length=pos.length/\ ∀ j s,tb (l.getD j 0) s=true↔tb (lost.getD j 0) s=true∨∃ a,a<i/\ (c.cells.getD a 0).toNat=j/\ tb (A0 c pos a) s=true/\ D a s
theorem Bw.step {D:Nat -> Nat -> Prop} {i:Nat} {l l':List Int} (h:Bw c pos lost i D l) (hl:l'.length=pos.length)
 (h1: ∀ j s,tb (l'.getD j 0) s=true↔tb (l.getD j 0) s=true∨((c.cells.getD i 0).toNat=j/\ tb (A0 c pos i) s=true/\ D i s)):Bw c pos lost (i+1) D l':=by
 refine ⟨hl,fun j s=>?_⟩;rw [h1,h.2];constructor
 ·rintro ((h | ⟨a,ha,h⟩) | h)
  ·exact .inl h
  ·exact .inr ⟨a,by omega,h⟩
  ·exact .inr ⟨i,by omega,h⟩
 ·rintro (h3 | ⟨a,ha,h3⟩)
  ·exact .inl (.inl h3)
  ·rcases yL.1 ha with ha | rfl
   ·exact .inl (.inr ⟨a,ha,h3⟩)
   ·exact .inr h3
theorem Bw.zero {D:Nat -> Nat -> Prop} (hl:lost.length=pos.length):Bw c pos lost 0 D lost:=
 ⟨hl,fun j s=>⟨.inl,fun h=>h.elim id fun ⟨a,ha,_⟩=>absurd ha (yN a)⟩⟩
def US (c:AB) (pos:List Int) (a s:Nat):Prop:=∃ b,b<c.cells.length/\ b≠a/\ Sg c pos b s
theorem vp {n:Nat} (W:B0 c k pos) (hl:lost.length=pos.length) (hn:2*c.cells.length+2<=n):
 ∃ l,OM n c q pos pos.length lost=some (true,l)/\ Bw c pos lost c.cells.length (US c pos) l:=by
 have lt: ∀ i,i<c.cells.length -> ((i:Nat):Int)<((c.cells.length:Nat):Int):=fun i hi=>by omega
 have S:=Gl (fun n (s:Int×Int) i=>I1 c q pos pos.length lost n (.l1 s.1 s.2 i)) c.cells.length (c.cells.length+2)
  (fun i s=>(∀ j,tb s.1 j=true↔∃ a,a<i/\ Sg c pos a j)/\ (∀ j,tb s.2 j=true↔∃ a b,a<b/\ b<i/\ Sg c pos a j/\ Sg c pos b j))
  (fun n i s _ hi hI=>?_) (n:=n) (s:=(0,0)) (by omega) ?_
 ·obtain ⟨n1,⟨o,t⟩,F4,_,e1,ho,ht⟩:=S;obtain ⟨n2,rfl⟩: ∃ n2,n1=n2+1:=⟨n1-1,by omega⟩
  have T:=Gl (fun n (s:List Int) i=>I1 c q pos pos.length lost n (.l2 o t i s)) c.cells.length 1
   (fun i s=>Bw c pos lost i (US c pos) s) (fun n i s HK hi hI=>?_) (n:=n2) (s:=lost) (by omega) (Bw.zero hl)
  ·obtain ⟨n3,l,Qb,_,e2,hL⟩:=T;obtain ⟨n4,rfl⟩: ∃ n4,n3=n4+1:=⟨n3-1,by omega⟩;refine ⟨l,?_,hL⟩;unfold OM fo;refine e1.trans ?_
   show Q1 n2 (I1 c q pos pos.length lost n2) c q pos pos.length lost o t (c.cells.length:Int)=_
   unfold Q1;rw [yA (by omega),xx];refine e2.trans ?_
   show Q0 n4 (I1 c q pos pos.length lost n4) c q pos pos.length lost o t (c.cells.length:Int) l=_
   unfold Q0;rw [yA (by omega),xx]
  ·have hc:=W.cells i hi;have hr:=W.r64 hi
   show ∃ s',Q0 n (I1 c q pos pos.length lost n) c q pos pos.length lost o t (i:Int) s=_/\ _
   unfold Q0;rw [yG (lt i hi),yC];simp only [yB];rw [xw ⟨⟨by omega,lt i hi⟩,hc,hr.1⟩];have sg:(bits .and .i64 (pos.getD (c.cells.getD i 0).toNat 0) (pos.getD (c.cells.getD i 0).toNat 0-1)==0)=O2 (A0 c pos i):=rfl;rw [sg];cases hs:O2 (A0 c pos i)
   ·rw [xx];obtain ⟨l',h1,h2,h3⟩:=Jg (n:=n) (ss:=o) (c:=c) (q:=q) hc.1 hc.2 hI.1;rw [h1,yF,xw hr.2];refine ⟨l',rfl,hI.step h2 fun j x=>?_⟩;rw [h3,yX,yD,yD,yP,ho];constructor
    ·rintro (h | ⟨rfl,h4,b,hb,h5⟩)
     ·exact .inl h
     ·refine .inr ⟨rfl,h4,b,hb,?_,h5⟩;rintro rfl;rw [h5.1] at hs;cases hs
    ·rintro (h | ⟨rfl,h4,b,hb,_,h5⟩)
     ·exact .inl h
     ·exact .inr ⟨rfl,h4,b,hb,h5⟩
   ·rw [yC];obtain ⟨l',h1,h2,h3⟩:=Jg (n:=n) (ss:=bits .or .i64 (bits .andNot .i64 o (pos.getD (c.cells.getD i 0).toNat 0)) t) (c:=c) (q:=q) hc.1 hc.2 hI.1;rw [h1,yF,xw hr.2];refine ⟨l',rfl,hI.step h2 fun j x=>?_⟩;rw [h3,yX,yD,yD,yP,IS,NB,yX,yD,ht];constructor
    ·rintro (h | ⟨rfl,h4,⟨_,h5⟩ | ⟨x1,y1,h6,h7,h8,h9⟩⟩)
     ·exact .inl h
     ·rw [h4] at h5;cases h5
     ·refine .inr ⟨rfl,h4,?_⟩
      by_cases e:x1=i
      ·exact ⟨y1,h7,by omega,h9⟩
      ·exact ⟨x1,by omega,e,h8⟩
    ·rintro (h | ⟨rfl,h4,b,hb,h5,h6⟩)
     ·exact .inl h
     ·refine .inr ⟨rfl,h4,.inr ?_⟩;rcases Nat.lt_or_gt_of_ne h5 with h5 | h5
      ·exact ⟨b,i,h5,hi,h6,hs,h4⟩
      ·exact ⟨i,b,h5,hb,⟨hs,h4⟩,h6⟩
 ·obtain ⟨o,t⟩:=s;obtain ⟨h1,h2⟩:=hI;simp only at h1 h2;have hc:=W.cells i hi;have hr:=W.r64 hi
  show ∃ s',Q1 n (I1 c q pos pos.length lost n) c q pos pos.length lost o t (i:Int)=_/\ _
  unfold Q1;rw [yG (lt i hi),yC];simp only [yB];rw [xw ⟨⟨by omega,lt i hi⟩,hc,hr.1⟩];have sg:(bits .and .i64 (pos.getD (c.cells.getD i 0).toNat 0) (pos.getD (c.cells.getD i 0).toNat 0-1)==0)=O2 (A0 c pos i):=rfl;rw [sg];cases hs:O2 (A0 c pos i)
  ·rw [xx,xw hr.2];refine ⟨(o,t),rfl,fun j=>?_,fun j=>?_⟩
   ·rw [h1];constructor
    ·rintro ⟨a,ha,h⟩;exact ⟨a,by omega,h⟩
    ·rintro ⟨a,ha,h⟩;rcases yL.1 ha with ha | rfl
     ·exact ⟨a,ha,h⟩
     ·rw [h.1] at hs;cases hs
   ·rw [h2];constructor
    ·rintro ⟨a,b,HM,hb,h⟩;exact ⟨a,b,HM,by omega,h⟩
    ·rintro ⟨a,b,HM,hb,h⟩;rcases yL.1 hb with hb | rfl
     ·exact ⟨a,b,HM,hb,h⟩
     ·rw [h.2.1] at hs;cases hs
  ·rw [yC,xw hr.2];refine ⟨(bits .or .i64 o (A0 c pos i),bits .or .i64 t (bits .and .i64 o (A0 c pos i))),rfl,fun j=>?_,fun j=>?_⟩
   ·rw [IS,yX,h1];constructor
    ·rintro (⟨a,ha,h⟩ | h)
     ·exact ⟨a,by omega,h⟩
     ·exact ⟨i,by omega,hs,h⟩
    ·rintro ⟨a,ha,h⟩;rcases yL.1 ha with ha | rfl
     ·exact .inl ⟨a,ha,h⟩
     ·exact .inr h.2
   ·rw [IS,KH,yX,yD,h1,h2];constructor
    ·rintro (⟨a,b,HM,hb,h⟩ | ⟨⟨a,ha,h⟩,h3⟩)
     ·exact ⟨a,b,HM,by omega,h⟩
     ·exact ⟨a,i,ha,by omega,h,hs,h3⟩
    ·rintro ⟨a,b,HM,hb,h,h3⟩;rcases yL.1 hb with hb | rfl
     ·exact .inl ⟨a,b,HM,hb,h,h3⟩
     ·exact .inr ⟨⟨a,HM,h⟩,h3.2⟩
 ·exact ⟨fun j=>⟨fun h=>absurd h Ok,fun ⟨a,ha,_⟩=>absurd ha (yN a)⟩,fun j=>⟨fun h=>absurd h Ok,fun ⟨a,b,_,hb,_⟩=>absurd hb (yN b)⟩⟩
end
end Go.Proofs.YtgkhhfnhacibcaaGreatDoor
namespace Go.Proofs
open Go.Shelf
def Tryz.lays189_ren:Go.Shelf.Ren:=⟨fun | 189=>133 | 125=>135 | 257=>134 | 128=>145 | 129=>146 | 294=>136 | 295=>137 | 296=>138 | 297=>139 | 298=>140 | 299=>141 | 216=>142 | 300=>143 | 301=>144 | 328=>147 | 329=>148 | 330=>149 | 331=>150 | 332=>151 | 215=>152 | 343=>153 | n=>n,fun | 28=>22 | 3=>3 | 46=>41 | 0=>0 | 51=>149 | 53=>66 | 4=>4 | 183=>158 | 182=>157 | 131=>161 | 5=>5 | 9=>9 | 218=>163 | 222=>167 | 228=>169 | 229=>116 | n=>n,fun | n=>n⟩
theorem Tryz.lays189:Go.Proofs.Lays.n189 Tryz.prog Tryz.lays189_ren:={
 mixed:=by kernel_rfl
 f125:=Tryz.func135.trans (congrArg some (by kernel_rfl))
 f128:=Tryz.func145.trans (congrArg some (by kernel_rfl))
 f129:=Tryz.func146.trans (congrArg some (by kernel_rfl))
 f189:=Tryz.func133.trans (congrArg some (by kernel_rfl))
 f215:=Tryz.func152.trans (congrArg some (by kernel_rfl))
 f216:=Tryz.func142.trans (congrArg some (by kernel_rfl))
 f257:=Tryz.func134.trans (congrArg some (by kernel_rfl))
 f294:=Tryz.func136.trans (congrArg some (by kernel_rfl))
 f295:=Tryz.func137.trans (congrArg some (by kernel_rfl))
 f296:=Tryz.func138.trans (congrArg some (by kernel_rfl))
 f297:=Tryz.func139.trans (congrArg some (by kernel_rfl))
 f298:=Tryz.func140.trans (congrArg some (by kernel_rfl))
 f299:=Tryz.func141.trans (congrArg some (by kernel_rfl))
 f300:=Tryz.func143.trans (congrArg some (by kernel_rfl))
 f301:=Tryz.func144.trans (congrArg some (by kernel_rfl))
 f328:=Tryz.func147.trans (congrArg some (by kernel_rfl))
 f329:=Tryz.func148.trans (congrArg some (by kernel_rfl))
 f330:=Tryz.func149.trans (congrArg some (by kernel_rfl))
 f331:=Tryz.func150.trans (congrArg some (by kernel_rfl))
 f332:=Tryz.func151.trans (congrArg some (by kernel_rfl))
 f343:=Tryz.func153.trans (congrArg some (by kernel_rfl))
 t0:=Tryz.underlying0
 a0:=Tryz.isAgg0
 z0:=Tryz.sizeOf0
 v0:=Tryz.zeroValue0
 t3:=Tryz.underlying3
 a3:=Tryz.isAgg3
 z3:=Tryz.sizeOf3
 v3:=Tryz.zeroValue3
 t4:=Tryz.underlying4
 a4:=Tryz.isAgg4
 z4:=Tryz.sizeOf4
 v4:=Tryz.zeroValue4
 t5:=Tryz.underlying5
 a5:=Tryz.isAgg5
 z5:=Tryz.sizeOf5
 v5:=Tryz.zeroValue5
 t9:=Tryz.underlying9
 a9:=Tryz.isAgg9
 z9:=Tryz.sizeOf9
 v9:=Tryz.zeroValue9
 t28:=Tryz.underlying22
 a28:=Tryz.isAgg22
 z28:=Tryz.sizeOf22
 v28:=Tryz.zeroValue22
 t46:=Tryz.underlying41
 a46:=Tryz.isAgg41
 z46:=Tryz.sizeOf41
 v46:=Tryz.zeroValue41
 t51:=Tryz.underlying149
 a51:=Tryz.isAgg149
 z51:=Tryz.sizeOf149
 v51:=Tryz.zeroValue149
 t53:=Tryz.underlying66
 a53:=Tryz.isAgg66
 z53:=Tryz.sizeOf66
 v53:=Tryz.zeroValue66
 t131:=Tryz.underlying161
 a131:=Tryz.isAgg161
 z131:=Tryz.sizeOf161
 v131:=Tryz.zeroValue161
 t182:=Tryz.underlying157
 a182:=Tryz.isAgg157
 z182:=Tryz.sizeOf157
 v182:=Tryz.zeroValue157
 t183:=Tryz.underlying158
 a183:=Tryz.isAgg158
 z183:=Tryz.sizeOf158
 v183:=Tryz.zeroValue158
 t218:=Tryz.underlying163
 a218:=Tryz.isAgg163
 z218:=Tryz.sizeOf163
 v218:=Tryz.zeroValue163
 t222:=Tryz.underlying167
 a222:=Tryz.isAgg167
 z222:=Tryz.sizeOf167
 v222:=Tryz.zeroValue167
 t228:=Tryz.underlying169
 a228:=Tryz.isAgg169
 z228:=Tryz.sizeOf169
 v228:=Tryz.zeroValue169
 t229:=Tryz.underlying116
 a229:=Tryz.isAgg116
 z229:=Tryz.sizeOf116
 v229:=Tryz.zeroValue116 }
open Go.Sort Go.RowKit in
theorem Tryz.slices_Sort_int (blk off cap:Nat) (zs:List Int) (w:World) (hH:Holds (Value.int .i64) w blk off zs.toArray) (Xu:blk<w.heap.size) (A9:zs.length<4611686018427387904):
 Calls Tryz.prog 133 #[.slice (some ⟨blk,off,none⟩) zs.length cap] w fun e w'=>
  e= .returned (.tuple #[])/\ ∃ n os,w'=grow (putRow (Value.int .i64) (Sort.ahead w n) blk off (zs.mergeSort fun x y=>decide (x<=y)).toArray) os:=Any.slices_Sort_int Tryz.lays189 blk off cap zs w hH Xu A9
end Go.Proofs
namespace Go.Proofs.YtgkhhfnhacibcaaGreatDoor
abbrev zAo:=@List.pairwise_cons
end Go.Proofs.YtgkhhfnhacibcaaGreatDoor
namespace Go.Proofs.YtgkhhfnhacibcaaGreatDoor
open Go.RowKit
def Nj (a:Int):List Int -> List Int
 | []=>[a]
 | b::l=>if a<=b then a::b::l else b::Nj a l
def Gb:List Int -> List Int
 | []=>[]
 | a::l=>Nj a (Gb l)
theorem Ww (a:Int): ∀ l:List Int,(Nj a l).Perm (a::l)
 | []=>zAw _
 | b::l=>by
  unfold Nj;split
  ·exact zAw _
  ·exact ((Ww a l).cons b).trans (List.Perm.swap a b l)
theorem Rv: ∀ l:List Int,(Gb l).Perm l
 | []=>zAw _
 | a::l=>(Ww a _).trans ((Rv l).cons a)
theorem dL (a:Int): ∀ l:List Int,l.Pairwise (· <= ·) -> (Nj a l).Pairwise (· <= ·)
 | [],_=>List.pairwise_singleton _ _
 | b::l,h=>by
  have h':=zAo.1 h;unfold Nj;split
  ·rename_i HM;refine zAo.2 ⟨fun x hx=>?_,h⟩;rcases yf.1 hx with rfl | hx
   ·exact HM
   ·exact Int.le_trans HM (h'.1 x hx)
  ·rename_i HM;refine zAo.2 ⟨fun x hx=>?_,dL a l h'.2⟩;rcases yf.1 ((Ww a l).mem_iff.1 hx) with rfl | hx
   ·omega
   ·exact h'.1 x hx
theorem aC: ∀ l:List Int,(Gb l).Pairwise (· <= ·)
 | []=>List.Pairwise.nil
 | a::l=>dL a _ (aC l)
theorem je (l:List Int):(l.mergeSort fun x y=>decide (x<=y))=Gb l:=by
 refine List.Perm.eq_of_pairwise (le:=(· <= ·)) (fun a b _ _ h1 h2=>Int.le_antisymm h1 h2) ?_ (aC l) ((List.mergeSort_perm l _).trans (Rv l).symm);have:=List.pairwise_mergeSort (le:=fun x y:Int=>decide (x<=y)) (fun a b c h1 h2=>by simp at h1 h2 ⊢;omega) (fun a b=>by simp;omega) l;exact this.imp fun h=>by simpa using h
theorem O0 (l:List Int):(Gb l).length=l.length:=(Rv l).length_eq
theorem uE {w:World} {b o:Nat} {l l':List Int} {cs:Array Value} {t:TypeId} {z:Nat×Nat} (h:w.heap[b]? =some (.cells cs t z)) (hl:l.length=l'.length) (n:Nat) (os:Array Obj):
 ∃ Ds,(Sort.grow (Sort.putRow (Value.int .i64) (Sort.ahead w n) b o l'.toArray) os).heap[b]? =some (.cells Ds t z)/\ Ds.size=cs.size/\ ∀ j,j<l.length -> o+j<cs.size -> Ds[o+j]? =some (.int .i64 (l'.getD j 0)):=by
 have hb:b<w.heap.size:=(xz.1 h).1;refine ⟨Sort.putCells (Value.int .i64) o l'.toArray cs,?_,by simp [Sort.putCells],fun j hj hs=>?_⟩
 ·simp only [Sort.grow,Sort.putRow,Sort.mapBlock,Sort.ahead];rw [zk (by simpa using hb),z2,xw rfl,h];rfl
 ·simp only [Sort.putCells,Array.getElem?_mapIdx];rw [yh hs];simp only [yj];rw [xw ⟨by omega,by simp;omega⟩];have:o+j-o=j:=by omega
  rw [this];have BX:j<l'.length:=by omega
  simp [BX,u8]
theorem ic {w:World} {b o:Nat} (hb:b<w.heap.size) (d:Array Int) (n:Nat) (os:Array Obj):AP (fun k=>k=b) w (Sort.grow (Sort.putRow (Value.int .i64) (Sort.ahead w n) b o d) os):=by
 refine ⟨rfl,rfl,rfl,by simp [Sort.ahead],fun k hk Aw=>?_⟩;simp only [Sort.grow,Sort.putRow,Sort.mapBlock,Sort.ahead];rw [zk (by simpa using hk),z2,yK (fun e=>Aw e.symm)]
theorem jd (l:List Int) {n:Nat} (hn:n=l.length) (tV:l.length<=As):ES Tryz.prog GG 133 [.msl 0 1 0 n] [some (.ints l)] (.tup 0 fun j=>([]:List DV).getD j .any) [some (.ints (Gb l))] false:=by
 subst hn;refine ⟨⟨_,Tryz.func133,by decide,rfl⟩,fun N ρ w args HR Ce=>?_⟩;obtain ⟨p,hp,Cv⟩:=HR.obj 0 _ rfl;have Cv:Ai w p l.length fun j u=>u= .int .i64 (l.getD j 0):=Cv
 have h0:=Ce.2 0 (by simp);obtain ⟨p',cap,BJ,hv,Kz,Ts,Th⟩:=h0;have ep:p'=p:=yH (BJ.symm.trans hp);subst ep;have A9:args.size=1:=by have:=Ce.1;simpa using this.symm
 have ha:args= #[.slice (some ⟨p'.blk,p'.off,none⟩) l.length cap]:=by
  apply Array.ext
  ·simp [A9]
  ·intro i h1 h2;have:i=0:=by omega
   subst this;have e:args.getD 0 undef=args[0]:=by simp [Array.getD,A9]
   rw [e] at hv;rw [hv];simp
 have hH:Sort.Holds (Value.int .i64) w p'.blk p'.off l.toArray:=fun j hj=>by
  have hj:j<l.length:=by simpa using hj
  obtain ⟨u,c1,c2⟩:=Cv.cell hj;refine ⟨by rw [c1,c2];simp [hj,u8],Cv.frozen _⟩
 obtain ⟨Ea,cs,t,C6,CU,Jo,_⟩:=Cv;have hb:p'.blk<w.heap.size:=(xz.1 C6).1;subst ha;refine (Tryz.slices_Sort_int p'.blk p'.off cap l w hH hb (by unfold As at tV;omega)).mono ?_;rintro e w' ⟨rfl,m,os,rfl⟩;rw [je];obtain ⟨Ds,k1,k2,k3⟩:=uE (o:=p'.off) C6 (O0 l).symm m os;have hu:AP p'.foot w (Sort.grow (Sort.putRow (Value.int .i64) (Sort.ahead w m) p'.blk p'.off (Gb l).toArray) os):=by rw [Ea];exact ic (o:=p'.off) hb (Gb l).toArray m os
 show ∃ v,Ending.returned (.tuple #[])=Ending.returned v/\ C1 Tryz.prog GG N _ ρ w false _ _ v (Sort.grow (Sort.putRow (Value.int .i64) (Sort.ahead w m) p'.blk p'.off (Gb l).toArray) os)
 refine ⟨_,rfl,⟨⟨ρ,HR.write (o':=.ints (Gb l)) rfl hp hu (fun b hb=>?_) ?_,⟨#[],rfl,rfl,fun j hj=>absurd hj (yN j)⟩,BN.write rfl hp hu,fun _ _ h=>h⟩,fun h=>by cases h⟩⟩
 ·rw [Ea] at hb;exact .cells (c:=Ds) (t:=t) (z:=(0,0)) (by rw [show b=p'.blk from hb];exact k1)
 ·refine ⟨Ea,Ds,t,k1,by rw [k2,O0];exact CU,by rw [k2];exact Jo,fun j hj=>?_⟩;rw [O0] at hj;exact ⟨_,k3 j hj (by omega),rfl⟩
end Go.Proofs.YtgkhhfnhacibcaaGreatDoor
namespace Go.Proofs.YtgkhhfnhacibcaaGreatDoor
open Go.RowKit
set_option maxRecDepth 100000
set_option maxHeartbeats 40000000
inductive J4 where
 | s0
 | s1 (ER:Nat) (C9:List Int)
def gx:J4 -> DH
 | .s0=>[none,some (.cells [.nils])]
 | .s1 ER C9=>[none,some (.cells [.msl 2 1 0 ER]),some (.ints C9)]
def Uq (n:Nat) (e6:Int):Option J4:=
 if (0=0/\ 1=([e6]:List Int).length)/\ 0<([e6]:List Int).length/\ ([e6]:List Int).length<=As then
  some (.s1 (([e6]:List Int).length) ([e6]:List Int))
 else none
def Up (n:Nat) (e6:Int) (ER:Nat) (C9:List Int):Option J4:=
 if (0=0/\ 1=([e6]:List Int).length)/\ (0=0/\ ER=C9.length)/\ C9.length+([e6]:List Int).length<=As then
  some (.s1 (C9.length+([e6]:List Int).length) (C9++([e6]:List Int)))
 else none
def Yu (n:Nat) (e6:Int):J4 -> Option J4
 | .s0=>Uq n e6
 | .s1 ER C9=>Up n e6 ER C9
def II (n:Nat) (e6:Int) (s:J4):Option J4:=Yu n e6 s
theorem xN (n:Nat) (l B:Nat) (N:Yd 2) (e6:Int) (s:J4) (r:J4) (h:II n e6 s=some r):TA l B N (Cg 2 [] 0 (gx r)) Tryz.f113 6 ⟨AM 13 [(2,.ref 1 0),(6,.it 0),(7,.i e6)],gx s⟩:=by
 cases s with
 | s0=>
  replace h:Uq n e6=some r:=h;unfold Uq at h;refine ag AE [0,1] H0 (AM 13 [(2,.ref 1 0),(5,.i e6)]) [none,some (.cells [.nils])] fun N=>?_
  revert r;apply gO;exact gi (jt (lF fun p=>rr AE [0,1,3] rfl p))
 | s1 ER C9=>
  replace h:Up n e6 ER C9=some r:=h;unfold Up at h;refine ag AE [0,1,2] H0 (AM 13 [(2,.ref 1 0),(5,.i e6)]) [none,some (.cells [.msl 2 1 0 ER]),some (.ints C9)] fun N=>?_
  revert r;apply gO;exact gi (jt (lF fun p=>rr AE [0,1,4] rfl p))
def Yt (n:Nat) (l:List Int):Option ((List Int)):=
 (Bn (II n) l (.s0)).bind fun y1=>
  match y1 with
  | .s0=>
   none
  | .s1 I9 I8=>
   if I9=I8.length then
    some I8
   else none
def RP (n:Nat) (l:List Int):Option ((List Int)):=Yt n l
theorem xM {n:Nat} {l:List Int} {r:(List Int)} (h:RP n l=some r):EQ 113 [.nils,.it 0] [some (.iter ((l).map BK))] (.msl 1 1 0 r.length) [none,some (.ints r)] false:=by
 unfold RP Yt at h;refine ot Tryz.func113 fun B N=>?_
 revert r;apply gO
 exact cn fun y1 A7=>fun p r h=>by
  refine gs AE [0,1] p (FK (AX Tryz.f113) 6 []) (AM 13 [(2,.ref 1 0),(6,.it 0)]) [some (.iter ((l).map BK)),some (.cells [.nils])] ?_;refine r0 0 6 #[7] BK 2 A7 (xN n) ?_;cases y1 with
  | s0=>
   dsimp only at h
   revert r;apply gO;exact nO
  | s1 I9 I8=>
   dsimp only at h
   revert r;apply gO;exact gn fun g0=>lF fun p=>el AE [4] [0,2] p [] H0 [.msl 1 1 0 I9] (AT.mslN g0)
def YV (n:Nat) (l:List Int):Option ((List Int)):=
 (RP n l).bind fun y1=>
  some y1
def Uf (n:Nat) (l:List Int):Option ((List Int)):=YV n l
theorem wc {n:Nat} {l:List Int} {r:(List Int)} (h:Uf n l=some r):EQ 86 [.it 0] [some (.iter ((l).map BK))] (.msl 1 1 0 r.length) [none,some (.ints r)] false:=by
 unfold Uf YV at h;refine ot Tryz.func86 fun B N=>?_
 revert r;apply gO;exact ce xM [0] [some (.iter ((l).map BK))] fun y1=>lF fun p=>el AE [2] [0,1] p [] H0 [.msl 1 1 0 y1.length] (AT.mslN rfl)
def VQ (n:Nat) (l:List Int):Option ((List Int)):=
 (Uf n l).bind fun y1=>
  if y1.length<=As then
   if y1.length=(Gb y1).length then
    some (Gb y1)
   else none
  else none
def Lb (n:Nat) (l:List Int):Option ((List Int)):=VQ n l
theorem jY {n:Nat} {l:List Int} {r:(List Int)} (h:Lb n l=some r):EQ 131 [.it 0] [some (.iter ((l).map BK))] (.msl 1 1 0 r.length) [none,some (.ints r)] false:=by
 unfold Lb VQ at h;refine ot Tryz.func131 fun B N=>?_
 revert r;apply gO;exact ce wc [0] [some (.iter ((l).map BK))] fun y1=>gn fun g0=>jc (em (jd y1 (n:=y1.length) (Eq.refl y1.length) g0) [1] [none,some (.ints y1)]) (gn fun g1=>lF fun p=>el AE [2] [0,1] p [] H0 [.msl 1 1 0 y1.length] (AT.mslN g1))
def fx (n:Nat) (g_:List (List Int)) (AS:List Bool) (start:Int):Option ((List Int)×Int):=
 (Iy n g_ ([AS]:List (List Bool))).bind fun y1=>
  bif (y1 != 0) then
   some (([]:List Int),y1)
  else
   bif (decide (start<0)) then
    some (([]:List Int),1)
   else
    bif (decide (start>=(g_.length:Int))) then
     some (([]:List Int),1)
    else
     if 0<=start/\ start<(AS.length:Int) then
      bif (!(AS.getD ((start).toNat) false)) then
       some (([]:List Int),1)
      else
       (Fm n g_ start AS).bind fun y2=>
        (Lb n y2).bind fun y3=>
         some (y3,0)
     else none
def OQ (n:Nat) (g_:List (List Int)) (AS:List Bool) (start:Int):Option ((List Int)×Int):=fx n g_ AS start
theorem wa {n:Nat} {g_:List (List Int)} {AS:List Bool} {start:Int} {r:(List Int)×Int} (h:OQ n g_ AS start=some r):EQ 123 [.sl 1 g_.length (Am Ar g_),.bools AS,.i start] [] (.tup 2 (L1 [.ints r.1,.i r.2])) [] true:=by
 refine ot Tryz.func123 fun B N=>?_
 revert r;apply gO;exact ja 10 0 1 (DN (c:=OS) (L:=([AS]:List (List Bool))) (vals:=[.bools AS]) rfl ⟨⟨_,rfl,⟨AL,trivial⟩⟩,trivial⟩) (jz 10 0 (jg (Eq.refl 1) (cf T3 [none] fun y1=>bi 13 (lF fun p=>el AE [6,7] [] p [] H0 [.nils,.i y1] (AT.tupL (l:=[.nils,.i y1]) (l':=[.ints ([]:List Int),.i y1]) rfl ⟨AT.ints_nil,AL,trivial⟩)) (bi 16 (lF fun p=>el AE [6,7] [] p [] H0 [.nils,.i 1] (AT.tupL (l:=[.nils,.i 1]) (l':=[.ints ([]:List Int),.i 1]) rfl ⟨AT.ints_nil,AL,trivial⟩)) (bi 21 (lF fun p=>el AE [6,7] [] p [] H0 [.nils,.i 1] (AT.tupL (l:=[.nils,.i 1]) (l':=[.ints ([]:List Int),.i 1]) rfl ⟨AT.ints_nil,AL,trivial⟩)) (gi (bi 28 (lF fun p=>el AE [6,7] [] p [] H0 [.nils,.i 1] (AT.tupL (l:=[.nils,.i 1]) (l':=[.ints ([]:List Int),.i 1]) rfl ⟨AT.ints_nil,AL,trivial⟩)) (cn fun y2 Bu=>jc (Vt Bu [none]) (ce jY [1] [none,some (.iter ((y2).map BK))] fun y3=>lF fun p=>ez AE [6,7] [2] p [0] (H0.g (Eq.refl y3.length)))))))))))
def Zv:ST:=.rd 0 (.rd 1 (.ef 2 (.ef 3 (.fin [] [4,5]) (.no)) (.no)))
theorem ke:CI (BC Tryz.f126 11) [2] Zv:=by unfold CI;kernel_rfl
def KU:Bb:=fun i=>match i with
 | 11=>.tre [2] Zv
 | _=>.no
def si (g_:List (List Int)) (CF:Int) (y1 o1:List Int):DH:=[some (.cells [.msl 3 1 0 g_.length]),some (.cells [.i (CF+1)]),some (.iter ((y1).map BK)),some (.ints o1)]
def Zb (g_:List (List Int)) (o1:List Int) (CF:Int):St:=⟨(AM 42 [(4,.ref 0 0),(5,.ref 2 0)]),([some (.cells [.msl 1 1 0 g_.length]),some (.ints o1),some (.cells [.i CF])]:DH)⟩
inductive Kf where
 | s0 (Ie:List Int)
def bY (g_:List (List Int)) (AS:List Bool) (x13 CF:Int):Kf -> DH
 | .s0 Ie=>[some (.cells [.msl 3 1 0 g_.length]),some (.cells [.i (CF+1)]),none,some (.ints Ie)]
def Si (n:Nat) (g_:List (List Int)) (AS:List Bool) (x13 CF Gv:Int) (Ie:List Int):Option Kf:=
 if (0<=Gv/\ Gv<(g_.length:Int))/\ 0+((Gv).toNat)<Ie.length then
  some (.s0 (Ie.set (0+((Gv).toNat)) (CF+1)))
 else none
def bX (n:Nat) (g_:List (List Int)) (AS:List Bool) (x13 CF Gv:Int):Kf -> Option Kf
 | .s0 Ie=>Si n g_ AS x13 CF Gv Ie
def Ls (n:Nat) (g_:List (List Int)) (AS:List Bool) (x13 CF Gv:Int) (s:Kf):Option Kf:=bX n g_ AS x13 CF Gv s
theorem nh (n:Nat) (g_:List (List Int)) (AS:List Bool) (x13 CF:Int) (l B:Nat) (N:Yd 3) (Gv:Int) (s:Kf) (r:Kf) (h:Ls n g_ AS x13 CF Gv s=some r):TA l B N (Cg 3 [] 0 (bY g_ AS x13 CF r)) Tryz.f126 33 ⟨AM 42 [(0,.sl 1 g_.length (Am Ar g_)),(1,.bools AS),(4,.ref 0 0),(5,.ref 1 0),(12,.i (g_.length:Int)),(13,.i x13),(33,.it 2),(34,.i Gv)],bY g_ AS x13 CF s⟩:=by
 cases s with
 | s0 Ie=>
  replace h:Si n g_ AS x13 CF Gv Ie=some r:=h;unfold Si at h;refine ag KU [0,1,2,3] H0 (AM 42 [(4,.ref 0 0),(5,.ref 1 0),(7,.i Gv)]) [some (.cells [.msl 3 1 0 g_.length]),some (.cells [.i (CF+1)]),none,some (.ints Ie)] fun N=>?_
  revert r;apply gO;exact gc (gi (gi (lF fun p=>rr KU [0,1,2,3] rfl p)))
inductive Sj where
 | l1 (x13:Int) (o1:List Int) (CF:Int)
def Pg (n:Nat) (self:Sj -> Option ((List Int)×Int)) (g_:List (List Int)) (AS:List Bool) (x13:Int) (o1:List Int) (CF:Int):Option ((List Int)×Int):=
 bif (decide (x13<(g_.length:Int))) then
  if 0<=x13/\ x13<(AS.length:Int) then
   bif (!(AS.getD ((x13).toNat) false)) then
    if AH (x13+1) then
     self (.l1 (x13+1) o1 CF)
    else none
   else
    if (0<=x13/\ x13<(g_.length:Int))/\ 0+((x13).toNat)<o1.length then
     bif (decide ((o1.getD (0+((x13).toNat)) 0)>0)) then
      if AH (x13+1) then
       self (.l1 (x13+1) o1 CF)
      else none
     else
      if AH (CF+1) then
       (Fm n g_ x13 AS).bind fun y1=>
        (Bn (Ls n g_ AS x13 CF) y1 (.s0 o1)).bind fun y2=>
         match y2 with
         | .s0 Hb=>
          if AH (x13+1) then
           self (.l1 (x13+1) Hb (CF+1))
          else none
      else none
    else none
  else none
 else
  if g_.length=o1.length then
   some (o1,CF)
  else none
def bW (n:Nat) (self:Sj -> Option ((List Int)×Int)) (g_:List (List Int)) (AS:List Bool):Option ((List Int)×Int):=
 if ((g_.length:Int):Int)=(g_.length:Int)/\ 0<=(g_.length:Int)/\ ((g_.length:Int):Int)<=1000000000000 then
  self (.l1 0 (List.replicate g_.length (0:Int)) 0)
 else none
def NU (g_:List (List Int)) (AS:List Bool):Nat -> Sj -> Option ((List Int)×Int)
 | 0,_=>none
 | n+1,.l1 x13 o1 CF=>Pg n (NU g_ AS n) g_ AS x13 o1 CF
def parts (n:Nat) (g_:List (List Int)) (AS:List Bool):Option ((List Int)×Int):=bW n (NU g_ AS n) g_ AS
def ni (n B:Nat) (N:Yd 0) (g_:List (List Int)) (AS:List Bool) (r:(List Int)×Int):Sj -> Prop
 | .l1 x13 o1 CF=>∀ m0:Nat,n<=m0 -> TW B N (FQ Tryz.f126 0 (.tup 2 (L1 [.ints r.1,.i r.2])) []) (A2 m0 (BA (AX Tryz.f126) 0 [])) ⟨AM 42 [(0,.sl 1 g_.length (Am Ar g_)),(1,.bools AS),(4,.ref 0 0),(5,.ref 2 0),(12,.i (g_.length:Int)),(13,.i x13)],[some (.cells [.msl 1 1 0 g_.length]),some (.ints o1),some (.cells [.i CF])]⟩
theorem nj (B:Nat) (N:Yd 0) (g_:List (List Int)) (AS:List Bool):Al (NU g_ AS) (ni · B N g_ AS):=ia (fun _=>rfl) fun n AG pt r h=>by
 cases pt
 case l1 x13 o1 CF=>
  intro m0 AC;refine rd AC fun m0 AC=>?_
  revert r;apply gO
  exact bi 14 (gi (bi 20 (gw 39 (lG KU [0,1,2] (AG _ _ · m0 AC))) (gc (gi (gi (bi 26 (gw 39 (lG KU [0,1,2] (AG _ _ · m0 AC))) (gw 29 (jt (cn fun y1 A7=>jc (Vt A7 [some (.cells [.msl 1 1 0 g_.length]),some (.ints o1),some (.cells [.i (CF+1)])]) (cn fun y2 Bu=>fun p r h=>by
   refine gs KU [0,2,3,1] p (FK (AX Tryz.f126) 33 [m0]) (AM 42 [(0,.sl 1 g_.length (Am Ar g_)),(1,.bools AS),(4,.ref 0 0),(5,.ref 1 0),(12,.i (g_.length:Int)),(13,.i x13),(33,.it 2)]) (si g_ CF y1 o1) ?_;refine r0 2 33 #[34] BK 3 Bu (nh n g_ AS x13 CF) ?_;cases y2 with
   | s0 Hb=>
    dsimp only at h
    revert r;apply gO;exact gw 39 (lG KU [0,3,1] (AG _ _ · m0 AC)))))))))))) (jg ke (jt (jt (jg (Eq.refl (Zb g_ o1 CF)) (gn fun g0=>lF fun p=>ez (tg:=[([(2,0)],(Zb g_ o1 CF))]) KU [4,5] [0,1,2] p [1] (H0.g g0))))))
theorem WB {n:Nat} {g_:List (List Int)} {AS:List Bool} {r:(List Int)×Int} (h:parts n g_ AS=some r):EQ 126 [.sl 1 g_.length (Am Ar g_),.bools AS] [] (.tup 2 (L1 [.ints r.1,.i r.2])) [] true:=by
 refine ot Tryz.func126 fun B N=>?_
 revert r;apply gO;exact gi (jt (lN KU [0,2,1] ((nj B N g_ AS n) _ _ · n Nat.le.refl)))
end Go.Proofs.YtgkhhfnhacibcaaGreatDoor
namespace Go.Proofs.YtgkhhfnhacibcaaGreatDoor
open Go.RowKit
set_option maxRecDepth 100000
set_option maxHeartbeats 40000000
def U5 (n:Nat) (n_:Int) (inn:List Bool):Option ((List Bool)):=
 (Mp n inn).bind fun y1=>
  if (0<=n_/\ n_<(y1.length:Int))/\ 0+((n_).toNat)<y1.length then
   if y1.length=(y1.set (0+((n_).toNat)) false).length then
    some (y1.set (0+((n_).toNat)) false)
   else none
  else none
def Of (n:Nat) (n_:Int) (inn:List Bool):Option ((List Bool)):=U5 n n_ inn
theorem iW {n:Nat} {n_:Int} {inn:List Bool} {r:(List Bool)} (h:Of n n_ inn=some r):EQ 125 [.i n_,.fp 1 (L1 [.bools inn])] [] (.msl 0 1 0 r.length) [some (.bools r)] true:=by
 unfold Of U5 at h;refine ot Tryz.func125 fun B N=>?_
 revert r;apply gO;exact cn fun y1 A7=>jc (ES.snapNew (ds:=[.bools inn]) (f6 A7) [] (Yz (by kernel_rfl)) rfl) (gc (gi (gi (gn fun g2=>lF fun p=>el AE [3] [0] p [] H0 [.msl 0 1 0 y1.length] (AT.mslN g2)))))
theorem kP:Ay (BC Tryz.f109 16) [] (List.range 7) []:=by unfold Ay;kernel_rfl
def Gc:Bb:=fun i=>match i with
 | 16=>.ord [] (List.range 7) []
 | _=>.no
def di (AS B3:List Bool) (at_:Int):DH:=[some (.cells [.bools AS]),some (.cells [.bools B3]),some (.cells [.i at_]),some (.cells [.bool false]),none]
def r7 (AS B3:List Bool) (at_:Int):DH:=[some (.cells [.bools AS]),some (.cells [.bools B3]),some (.cells [.i at_]),some (.cells [.bool false]),none,none]
def rz (AS B3:List Bool) (at_:Int) (y3:(List Int)×Int):DH:=[some (.cells [.bools AS]),some (.cells [.bools B3]),some (.cells [.i at_]),some (.cells [.bool false]),none,none,some (.cells [.ints y3.1]),some (.cells [.i 0])]
def ru (B3:List Bool) (at_:Int) (y3:(List Int)×Int) (y4:List Int):DH:=[some (.cells [.bools B3]),some (.cells [.i at_]),some (.cells [.bool false]),some (.cells [.ints y3.1]),some (.cells [.i 0]),some (.iter ((y4).map BK))]
def rt (B3:List Bool) (at_:Int) (Gf:Bool) (y3:(List Int)×Int) (Fo:Int):DH:=[some (.cells [.bools B3]),some (.cells [.i at_]),some (.cells [.bool Gf]),some (.cells [.ints y3.1]),some (.cells [.i Fo]),none]
inductive KR where
 | s0 (Gf:Bool) (Fo:Int)
def Z9 (B3:List Bool) (at_:Int) (y3:(List Int)×Int):KR -> DH
 | .s0 Gf Fo=>[some (.cells [.bools B3]),some (.cells [.i at_]),some (.cells [.bool Gf]),some (.cells [.ints y3.1]),some (.cells [.i Fo]),none]
def Oz (n:Nat) (B3:List Bool) (at_:Int) (y3:(List Int)×Int) (E0:Int) (Gf:Bool) (Fo:Int):Option (KR×Nat):=
 bif (E0==at_) then
  some (.s0 Gf Fo,0)
 else
  if 0<=E0/\ E0<(B3.length:Int) then
   bif (!(B3.getD ((E0).toNat) false)) then
    some (.s0 Gf Fo,0)
   else
    bif (Fo==0) then
     if 0<=E0/\ E0<(y3.1.length:Int) then
      some (.s0 Gf (y3.1.getD ((E0).toNat) 0),0)
     else none
    else
     if 0<=E0/\ E0<(y3.1.length:Int) then
      bif ((y3.1.getD ((E0).toNat) 0) != Fo) then
       some (.s0 true Fo,1)
      else
       some (.s0 Gf Fo,0)
     else none
  else none
def jX (n:Nat) (B3:List Bool) (at_:Int) (y3:(List Int)×Int) (E0:Int):KR -> Option (KR×Nat)
 | .s0 Gf Fo=>Oz n B3 at_ y3 E0 Gf Fo
def G6 (n:Nat) (B3:List Bool) (at_:Int) (y3:(List Int)×Int) (E0:Int) (s:KR):Option (KR×Nat):=jX n B3 at_ y3 E0 s
theorem jW (n:Nat) (B3:List Bool) (at_:Int) (y3:(List Int)×Int) (l B:Nat) (N:Yd 6) (E0:Int) (s:KR) (r:KR×Nat) (h:G6 n B3 at_ y3 E0 s=some r):TA l B N (Cg 6 [.exit 0] r.2 (Z9 B3 at_ y3 r.1)) Tryz.f109 48 ⟨AM 76 [(6,.ref 0 0),(7,.ref 1 0),(8,.ref 2 0),(11,.ref 3 0),(13,.ref 4 0),(48,.it 5),(49,.i E0)],Z9 B3 at_ y3 s⟩:=by
 cases s with
 | s0 Gf Fo=>
  refine ag Gc [0,1,2,3,4,5] H0 (AM 76 [(6,.ref 0 0),(7,.ref 1 0),(8,.ref 2 0),(11,.ref 3 0),(13,.ref 4 0),(14,.i E0)]) (rt B3 at_ Gf y3 Fo) fun N=>?_
  revert r;apply gO;exact bi 53 (lF fun p=>rr Gc [0,1,2,3,4,5] rfl p) (gi (bi 59 (lF fun p=>rr Gc [0,1,2,3,4,5] rfl p) (bi 63 (gi (jt (lF fun p=>rr Gc [0,1,2,3,4,5] rfl p))) (jg kP (gi (bi 74 (jt (lF fun p=>rr Gc [0,1,2,3,4,5] rfl p)) (lF fun p=>rr Gc [0,1,2,3,4,5] rfl p)))))))
def Z8 (n:Nat) (g_:List (List Int)) (AS B3:List Bool) (at_:Int):Option (Bool×Int):=
 (Iy n g_ ([AS,B3]:List (List Bool))).bind fun y1=>
  bif (y1 != 0) then
   some (false,y1)
  else
   bif (decide (at_<0)) then
    some (false,1)
   else
    bif (decide (at_>=(g_.length:Int))) then
     some (false,1)
    else
     if 0<=at_/\ at_<(AS.length:Int) then
      bif (!(AS.getD ((at_).toNat) false)) then
       some (false,0)
      else
       (Of n at_ AS).bind fun y2=>
        (parts n g_ y2).bind fun y3=>
         (Fm n g_ at_ AS).bind fun y4=>
          (EJ (G6 n B3 at_ y3) y4 (.s0 false 0)).bind fun y5=>
           bif y5.2==0 then
            match y5.1 with
            | .s0 Od U0=>
             some (Od,0)
           else
            bif y5.2==1 then
             match y5.1 with
             | .s0 Od U0=>
              some (Od,0)
            else
             none
     else none
def LZ (n:Nat) (g_:List (List Int)) (AS B3:List Bool) (at_:Int):Option (Bool×Int):=Z8 n g_ AS B3 at_
theorem jU {n:Nat} {g_:List (List Int)} {AS B3:List Bool} {at_:Int} {r:Bool×Int} (h:LZ n g_ AS B3 at_=some r):EQ 109 [.sl 1 g_.length (Am Ar g_),.bools AS,.bools B3,.i at_] [] (.tup 2 (L1 [.bool r.1,.i r.2])) [] true:=by
 refine ot Tryz.func109 fun B N=>?_
 revert r;apply gO
 exact ja 18 4 1 (DN (c:=OS) (L:=([AS,B3]:List (List Bool))) (vals:=[.bools AS,.bools B3]) rfl ⟨⟨_,rfl,⟨AL,trivial⟩⟩,⟨_,rfl,⟨AL,trivial⟩⟩,trivial⟩) (jz 18 4 (jg (Eq.refl 2) (cf T3 (di AS B3 at_) fun _=>bi 21 (jt (lE Gc [8,9] [3])) (bi 24 (jt (lE Gc [8,9] [3])) (bi 29 (jt (lE Gc [8,9] [3])) (gi (bi 35 (jt (lE Gc [8,9] [3])) (cn fun y2 Bu=>jc (ES.snapNew (ds:=[.i at_,.ref 0 0]) (iW Bu) (di AS B3 at_) ⟨Ab.plain (by kernel_rfl),(Ab.refL (l:=[.bools AS]) (l0:=[.bools AS]) rfl ⟨Ab.plain (by kernel_rfl),trivial⟩),trivial⟩ rfl) (jz 41 5 (jg (Eq.refl y2.length) (cf WB (r7 AS B3 at_) fun y3=>jt (jt (cn fun y4 Hv=>jc (Vt Hv (rz AS B3 at_ y3)) (cn fun y5 q7=>fun p r h=>by
  refine gs Gc [1,2,3,6,7,8] p (FK (AX Tryz.f109) 48 []) (AM 76 [(6,.ref 0 0),(7,.ref 1 0),(8,.ref 2 0),(11,.ref 3 0),(13,.ref 4 0),(48,.it 5)]) (ru B3 at_ y3 y4) ?_;refine rx [.exit 0] 5 48 #[49] BK 6 q7 (jW n B3 at_ y3) fun e he=>?_
  replace h:=E1 h;rcases h with ⟨Oc,h⟩ | ⟨Oc,h⟩
  ·rw [eq_of_beq Oc] at he;cases he;revert h;cases y5.1 with
   | s0 Od U0=>
    intro h
    dsimp only at h
    revert r;apply gO;exact jt (lE Gc [8,9] [2])
  ·replace h:=E1 h;rcases h with ⟨Oc,h⟩ | ⟨Oc,h⟩
   ·rw [eq_of_beq Oc] at he;cases he;refine DT.exitTo (by kernel_rfl) ?_;revert h;cases y5.1 with
    | s0 Od U0=>
     intro h
     dsimp only at h
     revert r;apply gO;exact jt (lE Gc [8,9] [2])
   ·cases h))))))))))))))
end Go.Proofs.YtgkhhfnhacibcaaGreatDoor
namespace Go.Proofs.YtgkhhfnhacibcaaGreatDoor
open Go.RowKit
theorem Ae.bindU {R T:Type} {a:Nat -> Option T} {b:Nat -> T -> Option R} {A:T -> Prop} {Q:R -> Prop} (ha:Ae a A) (hb: ∃ M,∀ n,M<=n -> ∀ x,A x -> ∃ r,b n x=some r/\ Q r):Ae (fun n=>(a n).bind (b n)) Q:=by
 obtain ⟨N,ha⟩:=ha;obtain ⟨M,hb⟩:=hb;refine ⟨max N M,fun n hn=>?_⟩;obtain ⟨x,h1,h2⟩:=ha n (by omega);obtain ⟨r,h3,h4⟩:=hb n (by omega) x h2;exact ⟨r,by show (a n).bind (b n)=_;rw [h1,yF];exact h3,h4⟩
structure Ha (g:List (List Int)):Prop where
 ok:Jv g=true
 row: ∀ r∈g,r.length<=LB
theorem Ha.gr {g:List (List Int)} (h:Ha g):Gr g:=Gr.of h.ok h.row
section
variable {g:List (List Int)} {inn some':List Bool} {s:Int}
theorem e9 {sets:List (List Bool)} (hs: ∀ x∈sets,x.length=g.length) (hl:sets.length<=256): ∀ (k i n:Nat),i+k=sets.length -> k+1<=n -> N6 g sets n (.l1 (i:Int))=some 0
 | 0,i,n,e,hn=>by
  obtain ⟨n,rfl⟩: ∃ k,n=k+1:=⟨n-1,by omega⟩
  show Qi n (N6 g sets n) g sets i=_
  unfold Qi;rw [yA (by omega),xx]
 | k+1,i,n,e,hn=>by
  obtain ⟨n,rfl⟩: ∃ k,n=k+1:=⟨n-1,by omega⟩;have hi:i<sets.length:=by omega
  have hm:sets.getD i []∈sets:=by rw [u8,xy hi];exact yY hi
  have e2:(((sets.getD i []).length:Int) != (g.length:Int))=false:=by rw [hs _ hm];simp
  have:=e9 hs hl k (i+1) n (by omega) (by omega)
  show Qi n (N6 g sets n) g sets i=_
  unfold Qi;rw [yG (by omega),yC,xw ⟨by omega,by omega⟩,yB,e2,xx,xw (Ax.2 ⟨by omega,by omega⟩)];exact this
theorem T4 (G:Ha g) {sets:List (List Bool)} (hs: ∀ x∈sets,x.length=g.length) (hl:sets.length<=256):Ev (fun n=>Iy n g sets) 0:=by
 refine ⟨2*Ga g+1+sets.length+1,fun n hn=>?_⟩
 show Iy n g sets=some 0
 unfold Iy fA;rw [fH G.row (by omega),G.ok];exact e9 hs hl sets.length 0 n (by omega) (by omega)
theorem g8 {n:Nat}: ∀ (l x:List Int),(x++l).length<=As -> Bn (II n) l (.s1 x.length x)=some (.s1 (x++l).length (x++l))
 | [],x,h=>by rw [zAO];rfl
 | a::l,x,h=>by
  have e:x++a::l=x++[a]++l:=by simp
  rw [e] at h ⊢;have h2:x.length+1<=As:=by simp only [yc,yk] at h;omega
  have e1:II n a (.s1 x.length x)=some (.s1 (x++[a]).length (x++[a])):=by
   unfold II Yu Up
   dsimp only
   rw [xw ⟨⟨rfl,rfl⟩,⟨rfl,rfl⟩,by simpa using h2⟩,yc]
  show (II n a (.s1 x.length x)).bind (Bn (II n) l)=_
  rw [e1,yF];exact g8 l (x++[a]) h
theorem jZ {n:Nat} {l:List Int} (h0:l≠[]) (hl:l.length<=256):Lb n l=some (Gb l):=by
 have L:(1000000000000:Nat)=As:=rfl;cases l with
 | nil=>exact absurd rfl h0
 | cons a l=>
  have e1:II n a .s0=some (.s1 [a].length [a]):=by
   unfold II Yu Uq
   dsimp only
   rw [xw ⟨⟨rfl,rfl⟩,by simp,by rw [←L];simp⟩]
  have e2:=g8 (n:=n) l [a] (by rw [←L];simp only [List.singleton_append];omega)
  have e3:RP n (a::l)=some (a::l):=by
   unfold RP Yt
   show ((II n a .s0).bind (Bn (II n) l)).bind _=_
   rw [e1,yF,e2,yF]
   dsimp only
   rw [xw rfl];rfl
  unfold Lb VQ Uf YV;rw [e3,yF,yF,xw (by rw [←L];omega),xw (O0 _).symm]
theorem mz {l:List Int} (h: ∀ v,v∈l↔Rc g inn s v):l≠[]:=fun e=>by
 have:=(h s).2 .start;rw [e] at this;cases this
theorem m4 (G:Gr g) (h0:0<=s) (h1:s<(g.length:Int)) {l:List Int} (hn:l.Nodup) (h: ∀ v,v∈l↔Rc g inn s v):l.length<=256:=
 yO (WQ g.length l hn fun x hx=>((h x).1 hx).rng G h0 h1) G.len
theorem wb (G:Ha g) (hI:inn.length=g.length) (h0:0<=s) (h1:s<(g.length:Int)) (hs:inn.getD s.toNat false=true):
 Ae (fun n=>OQ n g inn s) (fun r=>r.2=0/\ r.1.length<=256/\ ∀ v,v∈r.1↔Rc g inn s v):=by
 have e: ∀ n,OQ n g inn s=(Iy n g [inn]).bind fun y1=>bif (y1 != 0) then some (([]:List Int),y1) else (Fm n g s inn).bind fun y2=>(Lb n y2).bind fun y3=>some (y3,0):=fun n=>by
  unfold OQ fx
  congr 1
  funext y1
  rw [yA (by omega),xx,yA (by omega),xx,xw ⟨by omega,by omega⟩,hs,yw,xx]
 refine Ae.eq ?_ e;refine Ae.bind (T4 G (fun x hx=>by rw [yZ.1 hx];exact hI) (by simp)) ?_
 show Ae (fun n=>(Fm n g s inn).bind fun y2=>(Lb n y2).bind fun y3=>some (y3,0)) _
 refine Ae.bindU (Vs G.gr hI h0 h1) ⟨0,fun n _ l hl=>?_⟩;have A3:=m4 G.gr h0 h1 hl.1 hl.2;rw [jZ (mz hl.2) A3,yF];exact ⟨_,rfl,rfl,by rw [O0];exact A3,fun v=>by rw [(Rv l).mem_iff];exact hl.2 v⟩
structure Pt (g:List (List Int)) (inn:List Bool) (i:Nat) (part:List Int) (Bm:Int):Prop where
 len:part.length=g.length
 m0:0<=Bm
 m1:Bm<=(i:Int)
 lo: ∀ v,v<g.length -> 0<=part.getD v 0/\ part.getD v 0<=Bm
 isIn: ∀ v,v<g.length -> 0<part.getD v 0 -> inn.getD v false=true
 same: ∀ u v:Nat,u<g.length -> v<g.length -> 0<part.getD u 0 -> Rc g inn u v -> part.getD v 0=part.getD u 0
 con: ∀ u v:Nat,u<g.length -> v<g.length -> 0<part.getD u 0 -> part.getD v 0=part.getD u 0 -> Rc g inn u v
 all: ∀ v,v<i -> v<g.length -> inn.getD v false=true -> 0<part.getD v 0
 sur: ∀ m,0<m -> m<=Bm -> ∃ v,v<g.length/\ part.getD v 0=m
theorem bZ {n:Nat} {x13 m:Int}: ∀ (l:List Int) (part:List Int),part.length=g.length -> (∀ v∈l,0<=v/\ v<(g.length:Int)) ->
 ∃ Gg,Bn (Ls n g inn x13 m) l (.s0 part)=some (.s0 Gg)/\ Gg.length=g.length/\ ∀ v:Nat,Gg.getD v 0=if (v:Int)∈l/\ v<g.length then m+1 else part.getD v 0
 | [],part,hp,_=>⟨part,rfl,hp,fun v=>by simp⟩
 | a::l,part,hp,hl=>by
  have ha:=hl a y9
  have e1:Ls n g inn x13 m a (.s0 part)=some (.s0 (part.set a.toNat (m+1))):=by
   unfold Ls bX Si
   dsimp only
   rw [xw ⟨ha,by omega⟩,yU]
  obtain ⟨Gg,h1,h2,h3⟩:=bZ (n:=n) (x13:=x13) (m:=m) l (part.set a.toNat (m+1)) (by rw [yW];exact hp) fun v hv=>hl v (ya _ hv)
  refine ⟨Gg,?_,h2,fun v=>?_⟩
  ·show (Ls n g inn x13 m a (.s0 part)).bind (Bn (Ls n g inn x13 m) l)=_
   rw [e1,yF];exact h1
  ·rw [h3]
   by_cases hv:(v:Int)∈l/\ v<g.length
   ·rw [xw hv,xw ⟨ya _ hv.1,hv.2⟩]
   ·rw [yK hv]
    by_cases e:(v:Int)=a
    ·subst e;rw [xw ⟨y9,by omega⟩,yB,u8,zK (by omega)];rfl
    ·rw [yK (fun h=>by
      rcases yf.1 h.1 with h4 | h4
      ·exact e h4
      ·exact hv ⟨h4,h.2⟩),u8,zG (by omega),←u8]
theorem Pt.go (G:Gr g) {i:Nat} {part Gg:List Int} {Bm:Int} (h:Pt g inn i part Bm) (hi:i<g.length) (EG:inn.getD i false=true) (h0: ¬ part.getD i 0>0) {l:List Int} (hl: ∀ v,v∈l↔Rc g inn i v) (A3:Gg.length=g.length)
 (hp: ∀ v:Nat,Gg.getD v 0=if (v:Int)∈l/\ v<g.length then Bm+1 else part.getD v 0):Pt g inn (i+1) Gg (Bm+1):=by
 have m0:=h.m0;have m1:=h.m1;have KB: ∀ v:Nat,v<g.length -> Rc g inn i v -> Gg.getD v 0=Bm+1:=fun v hv hr=>by rw [hp,xw ⟨(hl v).2 hr,hv⟩]
 have no: ∀ v:Nat,¬ Rc g inn i v -> Gg.getD v 0=part.getD v 0:=fun v hr=>by rw [hp,yK (fun h=>hr ((hl v).1 h.1))]
 have sym: ∀ u v:Nat,u<g.length -> inn.getD u false=true -> Rc g inn u v -> Rc g inn v u:=fun u v hu rH hr=>hr.symm G (by omega) (by omega) (by rw [yB];exact rH)
 refine ⟨A3,by omega,by omega,fun v hv=>?_,fun v hv Hz=>?_,fun u v hu hv Hz hr=>?_,fun u v hu hv Hz he=>?_,fun v hv GK CZ=>?_,fun m h1 h2=>?_⟩
 ·have:=h.lo v hv
  by_cases hr:Rc g inn i v
  ·rw [KB v hv hr];omega
  ·rw [no v hr];omega
 ·by_cases hr:Rc g inn i v
  ·have:=hr.isIn (by rw [yB];exact EG)
   rwa [yB] at this
  ·rw [no v hr] at Hz;exact h.isIn v hv Hz
 ·by_cases h1:Rc g inn i u
  ·rw [KB u hu h1,KB v hv (h1.trans hr)]
  ·rw [no u h1] at Hz ⊢;have h2: ¬ Rc g inn i v:=fun h2=>h1 (h2.trans (sym u v hu (h.isIn u hu Hz) hr))
   rw [no v h2];exact h.same u v hu hv Hz hr
 ·have hb:=(h.lo v hv).2
  by_cases h1:Rc g inn i u
  ·rw [KB u hu h1] at he
   by_cases h2:Rc g inn i v
   ·exact (sym i u hi EG h1).trans h2
   ·rw [no v h2] at he;omega
  ·rw [no u h1] at Hz he;have hb:=(h.lo u hu).2
   by_cases h2:Rc g inn i v
   ·rw [KB v hv h2] at he;omega
   ·rw [no v h2] at he;exact h.con u v hu hv Hz he
 ·rcases yL.1 hv with hv | rfl
  ·have:=h.all v hv GK CZ
   by_cases hr:Rc g inn i v
   ·rw [KB v GK hr];omega
   ·rw [no v hr];exact this
  ·rw [KB v GK .start];omega
 ·by_cases e:m=Bm+1
  ·exact ⟨i,hi,by rw [KB i hi .start,e]⟩
  ·obtain ⟨v,hv,MG⟩:=h.sur m h1 (by omega);refine ⟨v,hv,?_⟩;rw [no v fun hr=>h0 ?_,MG];have:=h.same v i hv hi (by omega) (sym i v hi EG hr);omega
def xn (g:List (List Int)) (inn:List Bool) (r:List Int×Int):Prop:=r.1.length=g.length/\ (∀ v,v<g.length -> inn.getD v false=true -> 0<r.1.getD v 0)/\ ∀ u v:Nat,u<g.length -> v<g.length -> inn.getD u false=true -> (r.1.getD v 0=r.1.getD u 0↔Rc g inn u v)
theorem V9 (G:Gr g) (hI:inn.length=g.length):Ae (fun n=>parts n g inn) (fun r=>Pt g inn g.length r.1 r.2):=by
 have hG:=G.len;obtain ⟨N,hN⟩:=Ae.range (F:=fun (i:Nat) n=>Fm n g i inn) (A:=fun i l=>l.Nodup/\ ∀ v,v∈l↔Rc g inn i v) g.length fun i hi=>Vs G hI (by omega) (by omega)
 have hN: ∀ n,N<=n -> ∀ i:Nat,i<g.length -> ∃ l,Fm n g i inn=some l/\ l.Nodup/\ ∀ v,v∈l↔Rc g inn i v:=hN;refine ⟨N+g.length+1,fun n hn=>?_⟩;have S:=Gl (fun n (s:List Int×Int) i=>NU g inn n (.l1 i s.1 s.2)) g.length (N+1) (fun i s=>Pt g inn i s.1 s.2) (fun n i s HK hi hP=>?_) (n:=n) (s:=(List.replicate g.length 0,0)) (by omega) ?_
 ·obtain ⟨n1,⟨part,Bm⟩,F4,_,e1,hP⟩:=S;obtain ⟨n2,rfl⟩: ∃ n2,n1=n2+1:=⟨n1-1,by omega⟩;refine ⟨(part,Bm),?_,hP⟩
  show parts n g inn=some (part,Bm)
  unfold parts bW;rw [xw ⟨rfl,by omega,by omega⟩];refine Eq.trans e1 ?_
  show Pg n2 (NU g inn n2) g inn (g.length:Int) part Bm=_
  unfold Pg;rw [yA (by omega),xx,xw hP.len.symm]
 ·obtain ⟨part,Bm⟩:=s;have hP:Pt g inn i part Bm:=hP;have r1:AH ((i:Int)+1):=Ax.2 ⟨by omega,by omega⟩
  show ∃ s',Pg n (NU g inn n) g inn (i:Int) part Bm=_/\ _
  unfold Pg;simp only [yB,yU];rw [yG (by omega),yC,xw ⟨by omega,by omega⟩];cases EG:inn.getD i false
  ·rw [zH,yC,xw r1];have m1:=hP.m1;refine ⟨(part,Bm),rfl,hP.len,hP.m0,by show Bm<=((i+1:Nat):Int);omega,hP.lo,hP.isIn,hP.same,hP.con,fun v hv GK CZ=>?_,hP.sur⟩;rcases yL.1 hv with hv | rfl
   ·exact hP.all v hv GK CZ
   ·rw [EG] at CZ;cases CZ
  ·have A3:=hP.len;rw [yw,xx,xw ⟨⟨by omega,by omega⟩,by omega⟩]
   by_cases h0:part.getD i 0>0
   ·rw [yG h0,yC,xw r1];have m1:=hP.m1;refine ⟨(part,Bm),rfl,hP.len,hP.m0,by show Bm<=((i+1:Nat):Int);omega,hP.lo,hP.isIn,hP.same,hP.con,fun v hv GK CZ=>?_,hP.sur⟩;rcases yL.1 hv with hv | rfl
    ·exact hP.all v hv GK CZ
    ·exact h0
   ·obtain ⟨l,e2,BD,hl⟩:=hN n (by omega) i hi;obtain ⟨Gg,e3,h3,h4⟩:=bZ (n:=n) (inn:=inn) (x13:=(i:Int)) (m:=Bm) l part hP.len fun v hv=>((hl v).1 hv).rng G (by omega) (by omega)
    have m0:=hP.m0;have m1:=hP.m1;rw [yA h0,xx,xw (Ax.2 ⟨by omega,by omega⟩),e2,yF,e3,yF]
    dsimp only
    rw [xw r1];exact ⟨(Gg,Bm+1),rfl,hP.go G hi EG h0 hl h3 h4⟩
 ·have z: ∀ v:Nat,(List.replicate g.length (0:Int)).getD v 0=0:=fun v=>by
   rw [u8,zQ];split <;> rfl
  exact ⟨by simp,zP _,zP _,fun v _=>by rw [z];exact ⟨zP _,zP _⟩,fun v _ h=>by rw [z] at h;omega,fun u v _ _ h=>by rw [z] at h;omega,fun u v _ _ h=>by rw [z] at h;omega,fun v hv=>absurd hv (yN v),fun m h1 h2=>by have h2:m<=0:=h2;omega⟩
theorem nf (G:Gr g) (hI:inn.length=g.length):Ae (fun n=>parts n g inn) (xn g inn):=(V9 G hI).mono fun r hP=>⟨hP.len,fun v hv hi=>hP.all v hv hv hi,fun u v hu hv hi=>by
 have Bl:=hP.all u hu hu hi;exact ⟨hP.con u v hu hv Bl,hP.same u v hu hv Bl⟩⟩
def Sp (g:List (List Int)) (inn some':List Bool) (a:Int):Prop:=∃ u v:Int,u≠a/\ v≠a/\ some'.getD u.toNat false=true/\ some'.getD v.toNat false=true/\ Rc g inn a u/\ Rc g inn a v/\ ¬ Rc g (inn.set a.toNat false) u v
theorem aA {n:Nat} {a f:Int} {y3:List Int×Int} (hS:some'.length=g.length) (hy:y3.1.length=g.length) (hf:f≠0): ∀ (l:List Int),(∀ v∈l,0<=v/\ v<(g.length:Int)) ->
 ∃ b f' c,EJ (G6 n some' a y3) l (.s0 false f)=some (.s0 b f',c)/\ (c=0∨c=1)/\ (b=true↔∃ v∈l,v≠a/\ some'.getD v.toNat false=true/\ y3.1.getD v.toNat 0≠f)
 | [],_=>⟨false,f,0,rfl,.inl rfl,by simp⟩
 | x::l,hl=>by
  have hx:=hl x y9;obtain ⟨b,f',c,h1,h2,h3⟩:=aA (n:=n) (a:=a) hS hy hf l fun v hv=>hl v (ya _ hv)
  have skip:G6 n some' a y3 x (.s0 false f)=some (.s0 false f,0) -> ¬ (x≠a/\ some'.getD x.toNat false=true/\ y3.1.getD x.toNat 0≠f) -> ∃ b f' c,EJ (G6 n some' a y3) (x::l) (.s0 false f)=some (.s0 b f',c)/\ (c=0∨c=1)/\ (b=true↔∃ v∈x::l,v≠a/\ some'.getD v.toNat false=true/\ y3.1.getD v.toNat 0≠f):=by
   intro e hn;refine ⟨b,f',c,?_,h2,?_⟩
   ·unfold EJ;rw [e,yF];exact h1
   ·rw [h3];constructor
    ·rintro ⟨v,hv,h⟩;exact ⟨v,ya _ hv,h⟩
    ·rintro ⟨v,hv,h⟩;rcases yf.1 hv with rfl | hv
     ·exact absurd h hn
     ·exact ⟨v,hv,h⟩
  have f0:(f==0)=false:=zI.2 hf;have U:G6 n some' a y3 x (.s0 false f)=Oz n some' a y3 x false f:=rfl;unfold Oz at U
  by_cases e1:x=a
  ·have:(x==a)=true:=yo.2 e1;rw [this,yC] at U;exact skip U fun h=>h.1 e1
  ·have:(x==a)=false:=zI.2 e1;rw [this,xx,xw ⟨by omega,by omega⟩] at U;cases e2:some'.getD x.toNat false
   ·rw [e2,zH,yC] at U;exact skip U fun h=>by rw [e2] at h;cases h.2.1
   ·rw [e2,yw,xx,f0,xx,xw ⟨by omega,by omega⟩] at U
    by_cases e3:y3.1.getD x.toNat 0=f
    ·have e4:(y3.1.getD x.toNat 0 != f)=false:=by rw [e3];simp
     rw [e4,xx] at U;exact skip U fun h=>h.2.2 e3
    ·have e4:(y3.1.getD x.toNat 0 != f)=true:=by simpa using e3
     rw [e4,yC] at U;refine ⟨true,f,1,?_,.inr rfl,?_⟩
     ·unfold EJ;rw [U,yF];rfl
     ·exact ⟨fun _=>⟨x,y9,e1,e2,e3⟩,fun _=>rfl⟩
theorem aB {n:Nat} {a:Int} {y3:List Int×Int} (hS:some'.length=g.length) (hy:y3.1.length=g.length): ∀ (l:List Int),(∀ v∈l,0<=v/\ v<(g.length:Int)) -> (∀ v∈l,v≠a -> y3.1.getD v.toNat 0≠0) ->
 ∃ b f' c,EJ (G6 n some' a y3) l (.s0 false 0)=some (.s0 b f',c)/\ (c=0∨c=1)/\ (b=true↔∃ u∈l,∃ v∈l,u≠a/\ v≠a/\ some'.getD u.toNat false=true/\ some'.getD v.toNat false=true/\ y3.1.getD v.toNat 0≠y3.1.getD u.toNat 0)
 | [],_,_=>⟨false,0,0,rfl,.inl rfl,by simp⟩
 | x::l,hl,hz=>by
  have hx:=hl x y9;have EY: ∀ v∈l,0<=v/\ v<(g.length:Int):=fun v hv=>hl v (ya _ hv)
  have skip:G6 n some' a y3 x (.s0 false 0)=some (.s0 false 0,0) -> ¬ (x≠a/\ some'.getD x.toNat false=true) -> ∃ b f' c,EJ (G6 n some' a y3) (x::l) (.s0 false 0)=some (.s0 b f',c)/\ (c=0∨c=1)/\ (b=true↔∃ u∈x::l,∃ v∈x::l,u≠a/\ v≠a/\ some'.getD u.toNat false=true/\ some'.getD v.toNat false=true/\ y3.1.getD v.toNat 0≠y3.1.getD u.toNat 0):=by
   intro e hn;obtain ⟨b,f',c,h1,h2,h3⟩:=aB (n:=n) (a:=a) hS hy l EY fun v hv=>hz v (ya _ hv)
   refine ⟨b,f',c,?_,h2,?_⟩
   ·unfold EJ;rw [e,yF];exact h1
   ·rw [h3];constructor
    ·rintro ⟨u,hu,v,hv,h⟩;exact ⟨u,ya _ hu,v,ya _ hv,h⟩
    ·rintro ⟨u,hu,v,hv,h4,h5,h6,h7,h8⟩;rcases yf.1 hu with rfl | hu
     ·exact absurd ⟨h4,h6⟩ hn
     ·rcases yf.1 hv with rfl | hv
      ·exact absurd ⟨h5,h7⟩ hn
      ·exact ⟨u,hu,v,hv,h4,h5,h6,h7,h8⟩
  have U:G6 n some' a y3 x (.s0 false 0)=Oz n some' a y3 x false 0:=rfl;unfold Oz at U
  by_cases e1:x=a
  ·have:(x==a)=true:=yo.2 e1;rw [this,yC] at U;exact skip U fun h=>h.1 e1
  ·have:(x==a)=false:=zI.2 e1;rw [this,xx,xw ⟨by omega,by omega⟩] at U;cases e2:some'.getD x.toNat false
   ·rw [e2,zH,yC] at U;exact skip U fun h=>by rw [e2] at h;cases h.2
   ·have z0:((0:Int)==0)=true:=rfl;rw [e2,yw,xx,z0,yC,xw ⟨by omega,by omega⟩] at U;obtain ⟨b,f',c,h1,h2,h3⟩:=aA (n:=n) (a:=a) hS hy (hz x y9 e1) l EY;refine ⟨b,f',c,?_,h2,?_⟩
    ·unfold EJ;rw [U,yF];exact h1
    ·rw [h3];constructor
     ·rintro ⟨v,hv,h4,h5,h6⟩;exact ⟨x,y9,v,ya _ hv,e1,h4,e2,h5,h6⟩
     ·rintro ⟨u,hu,v,hv,h4,h5,h6,h7,h8⟩
      by_cases e3:y3.1.getD u.toNat 0=y3.1.getD x.toNat 0
      ·rcases yf.1 hv with rfl | hv
       ·exact absurd e3.symm h8
       ·exact ⟨v,hv,h5,h7,fun e=>h8 (e.trans e3.symm)⟩
      ·rcases yf.1 hu with rfl | hu
       ·exact absurd rfl e3
       ·exact ⟨u,hu,h4,h6,e3⟩
theorem jV (G:Ha g) (hI:inn.length=g.length) (hS:some'.length=g.length) {a:Nat} (ha:a<g.length) (d7:inn.getD a false=true):
 Ae (fun n=>LZ n g inn some' (a:Int)) (fun r=>r.2=0/\ (r.1=true↔Sp g inn some' (a:Int))):=by
 have hG:=G.gr.len;have L:(1000000000000:Nat)=As:=rfl
 have hw: ∀ n,Of n (a:Int) inn=some (inn.set a false):=fun n=>by
  unfold Of U5 Mp YZ;rw [xw ⟨by omega,trivial,⟨rfl,rfl⟩,by rw [←L];simp only [zD];omega⟩,xw (by simp),yF,zW,xw ⟨⟨by omega,by omega⟩,by omega⟩,xw (by simp),yU,yB]
 have ud:(inn.set a false).length=g.length:=by rw [yW];exact hI
 have e: ∀ n,LZ n g inn some' (a:Int)=(Iy n g [inn,some']).bind fun y1=>bif (y1 != 0) then some (false,y1) else (parts n g (inn.set a false)).bind fun y3=>(Fm n g a inn).bind fun y4=>(EJ (G6 n some' a y3) y4 (.s0 false 0)).bind fun y5=>bif y5.2==0 then (match y5.1 with | .s0 b _=>some (b,0)) else bif y5.2==1 then (match y5.1 with | .s0 b _=>some (b,0)) else none:=fun n=>by
  unfold LZ Z8
  congr 1
  funext y1
  rw [yA (by omega),xx,yA (by omega),xx,xw ⟨by omega,by omega⟩,yB,d7,yw,xx,hw,yF]
 refine Ae.eq ?_ e
 refine Ae.bind (T4 G (fun x hx=>by
  rcases yf.1 hx with rfl | hx
  ·exact hI
  ·rw [yZ.1 hx];exact hS) (by simp)) ?_
 show Ae (R:=Bool×Int) (fun n=>(parts n g (inn.set a false)).bind fun y3=>(Fm n g a inn).bind fun y4=>(EJ (G6 n some' a y3) y4 (.s0 false 0)).bind fun y5=>bif y5.2==0 then (match y5.1 with | .s0 b _=>some (b,0)) else bif y5.2==1 then (match y5.1 with | .s0 b _=>some (b,0)) else none) _
 obtain ⟨N,hN⟩:=Vs G.gr hI (s:=(a:Int)) (by omega) (by omega);refine Ae.bindU (nf G.gr ud) ⟨N,fun n hn y3 hy=>?_⟩;obtain ⟨l,hl,BD,Nu⟩:=hN n hn;have hl:Fm n g (a:Int) inn=some l:=hl;have hr: ∀ v∈l,0<=v/\ v<(g.length:Int):=fun v hv=>((Nu v).1 hv).rng G.gr (by omega) (by omega)
 have EG: ∀ v∈l,v≠(a:Int) -> (inn.set a false).getD v.toNat false=true:=fun v hv Aw=>by
  have h1:=hr v hv;rw [u8,zG (by omega),←u8];exact ((Nu v).1 hv).isIn (by rw [yB];exact d7)
 obtain ⟨b,f',c,h1,h2,h3⟩:=aB (n:=n) (some':=some') (a:=(a:Int)) (y3:=y3) hS hy.1 l hr fun v hv Aw=>by
  have h1:=hr v hv;have:=hy.2.1 v.toNat (by omega) (EG v hv Aw);omega
 rw [hl,yF,h1,yF];refine ⟨(b,0),?_,rfl,?_⟩
 ·rcases h2 with rfl | rfl <;> rfl
 ·show b=true↔_
  rw [h3]
  have key: ∀ u v:Int,u∈l -> v∈l -> u≠a -> (y3.1.getD v.toNat 0=y3.1.getD u.toNat 0↔Rc g (inn.set a false) u v):=fun u v hu hv Aw=>by
   have h1:=hr u hu;have h2:=hr v hv;have:=hy.2.2 u.toNat v.toNat (by omega) (by omega) (EG u hu Aw)
   rwa [Int.toNat_of_nonneg h1.1,Int.toNat_of_nonneg h2.1] at this
  constructor
  ·rintro ⟨u,hu,v,hv,h4,h5,h6,h7,h8⟩;exact ⟨u,v,h4,h5,h6,h7,(Nu u).1 hu,(Nu v).1 hv,fun h=>h8 ((key u v hu hv h4).2 h)⟩
  ·rintro ⟨u,v,h4,h5,h6,h7,h8,h9,X6⟩;have hu:=(Nu u).2 h8;have hv:=(Nu v).2 h9;exact ⟨u,hu,v,hv,h4,h5,h6,h7,fun h=>X6 ((key u v hu hv h4).1 h)⟩
end
end Go.Proofs.YtgkhhfnhacibcaaGreatDoor
namespace Go.Proofs.YtgkhhfnhacibcaaGreatDoor
abbrev zA0:=@List.countP_singleton
end Go.Proofs.YtgkhhfnhacibcaaGreatDoor
namespace Go.Proofs.YtgkhhfnhacibcaaGreatDoor
open Go.RowKit
def Ik (c:AB) (pos:List Int) (a:Nat):Bool:=bits .andNot .i64 (A0 c pos a) c.set==0
def Je (c:AB) (pos:List Int) (a:Nat):Bool:=Ik c pos a||(bits .and .i64 (A0 c pos a) c.set != 0)
def cnt (p:Nat -> Bool) (i:Nat):Int:=(((List.range i).countP p:Nat):Int)
theorem Mo {p:Nat -> Bool} {i:Nat}:cnt p (i+1)=cnt p i+(if p i then 1 else 0):=by
 unfold cnt;rw [List.range_succ,List.countP_append,zA0];split <;> simp
theorem YX {p:Nat -> Bool} {i:Nat}:0<=cnt p i/\ cnt p i<=i:=by
 unfold cnt;have:=zAT (p:=p) (l:=List.range i);rw [zAU] at this;omega
def Q9 (c:AB) (pos:List Int):Bool:=!decide (cnt (Ik c pos) c.cells.length>c.hi)&&!decide (cnt (Je c pos) c.cells.length<c.lo)
def LF (c:AB) (pos:List Int) (a s:Nat):Bool:=
 ((cnt (Ik c pos) c.cells.length==c.hi)&&(bits .andNot .i64 (A0 c pos a) c.set != 0)&&tb c.set s)||((cnt (Je c pos) c.cells.length==c.lo)&&(bits .and .i64 (A0 c pos a) c.set != 0)&&!tb c.set s)
section
variable {c:AB} {k:Nat} {pos lost:List Int} {q:AA}
theorem wA {n:Nat} {x3 x4:Int} (W:B0 c k pos) (hl:lost.length=pos.length) (h3:x3=cnt (Ik c pos) c.cells.length) (h4:x4=cnt (Je c pos) c.cells.length) (hn:c.cells.length+1<=n):
 ∃ l,IE c q pos pos.length lost n (.l2 x3 x4 0 lost)=some (true,l)/\ Bw c pos lost c.cells.length (fun a s=>LF c pos a s=true) l:=by
 have lt: ∀ i,i<c.cells.length -> ((i:Nat):Int)<((c.cells.length:Nat):Int):=fun i hi=>by omega
 have T:=Gl (fun n (s:List Int) i=>IE c q pos pos.length lost n (.l2 x3 x4 i s)) c.cells.length 1
  (fun i s=>Bw c pos lost i (fun a s=>LF c pos a s=true) s) (fun n i s HK hi hI=>?_) (n:=n) (s:=lost) (by omega) (Bw.zero hl)
 ·obtain ⟨n3,l,Qb,_,e2,hL⟩:=T;obtain ⟨n4,rfl⟩: ∃ n4,n3=n4+1:=⟨n3-1,by omega⟩;refine ⟨l,e2.trans ?_,hL⟩
  show Q6 n4 (IE c q pos pos.length lost n4) c q pos pos.length lost x3 x4 (c.cells.length:Int) l=_
  unfold Q6;rw [yA (by omega),xx]
 ·have hc:=W.cells i hi;have hr:=W.r64 hi
  have key: ∀ l':List Int,l'.length=pos.length -> (∀ j x,tb (l'.getD j 0) x=(tb (s.getD j 0) x||(decide (j=(c.cells.getD i 0).toNat)&&(tb (pos.getD j 0) x&&LF c pos i x)))) -> Bw c pos lost (i+1) (fun a s=>LF c pos a s=true) l':=by
   intro l' h1 h2;refine hI.step h1 fun j x=>?_
   rw [h2,yX,yD,yD,yP];constructor
   ·rintro (h | ⟨rfl,h⟩)
    ·exact .inl h
    ·exact .inr ⟨rfl,h⟩
   ·rintro (h | ⟨rfl,h⟩)
    ·exact .inl h
    ·exact .inr ⟨rfl,h⟩
  obtain ⟨l1,e1,n1,f1⟩:=Jg (lost:=s) (n:=n) (ss:=c.set) (c:=c) (q:=q) hc.1 hc.2 hI.1;obtain ⟨l2,e2,n2,f2⟩:=WH (lost:=l1) (n:=n) (c:=c) (q:=q) hc.1 hc.2 n1;obtain ⟨l3,e3,n3,f3⟩:=WH (lost:=s) (n:=n) (c:=c) (q:=q) hc.1 hc.2 hI.1;have d0:decide ((i:Int)<((c.cells.length:Nat):Int))=true:=yG (lt i hi);have g0:(0:Int)<=(i:Int)/\ (i:Int)<((c.cells.length:Nat):Int):=⟨by omega,lt i hi⟩
  show ∃ s',Q6 n (IE c q pos pos.length lost n) c q pos pos.length lost x3 x4 (i:Int) s=_/\ _
  unfold Q6;rw [d0,yC,xw g0];simp only [yB];have X: ∀ x,LF c pos i x=(((x3==c.hi)&&(bits .andNot .i64 (pos.getD (c.cells.getD i 0).toNat 0) c.set != 0)&&tb c.set x)||((x4==c.lo)&&(bits .and .i64 (pos.getD (c.cells.getD i 0).toNat 0) c.set != 0)&&!tb c.set x)):=fun x=>by rw [h3,h4];rfl
  cases hA:(x3==c.hi) <;> cases hC:(x4==c.lo) <;> cases hB:(bits .andNot .i64 (pos.getD (c.cells.getD i 0).toNat 0) c.set != 0) <;> cases hE:(bits .and .i64 (pos.getD (c.cells.getD i 0).toNat 0) c.set != 0) <;>
   simp only [hA,hB,hC,hE,y8,zm,zAd,Bool.and_true,ze,zj] at X <;>
   simp only [yC,xx,xw hc,e1,e2,e3,yF,xw hr.2]
  all_goals first
   | exact ⟨s,rfl,key s hI.1 fun j x=>by rw [X,zAd,zAd,ze]⟩
   | exact ⟨l1,rfl,key l1 n1 fun j x=>by rw [f1,X]⟩
   | exact ⟨l3,rfl,key l3 n3 fun j x=>by rw [f3,X]⟩
   | exact ⟨l2,rfl,key l2 n2 fun j x=>by
    rw [f2,f1,X];cases tb (s.getD j 0) x <;> cases decide (j=(c.cells.getD i 0).toNat) <;> cases tb (pos.getD j 0) x <;> cases tb c.set x <;> rfl⟩
theorem wB {n:Nat} (W:B0 c k pos) (hl:lost.length=pos.length) (hn:2*c.cells.length+3<=n):
 ∃ l,OO n c q pos pos.length lost=some (Q9 c pos,l)/\ (Q9 c pos=true -> Bw c pos lost c.cells.length (fun a s=>LF c pos a s=true) l):=by
 have lt: ∀ i,i<c.cells.length -> ((i:Nat):Int)<((c.cells.length:Nat):Int):=fun i hi=>by omega
 have S:=Gl (fun n (s:Int×Int) i=>IE c q pos pos.length lost n (.l1 s.1 s.2 i)) c.cells.length (c.cells.length+3)
  (fun i s=>s.1=cnt (Ik c pos) i/\ s.2=cnt (Je c pos) i) (fun n i s _ hi hI=>?_) (n:=n) (s:=(0,0)) (by omega) ⟨rfl,rfl⟩
 ·obtain ⟨n1,⟨x3,x4⟩,F4,_,e1,h3,h4⟩:=S;obtain ⟨n2,rfl⟩: ∃ n2,n1=n2+1:=⟨n1-1,by omega⟩;have e2:OO n c q pos pos.length lost=Q7 n2 (IE c q pos pos.length lost n2) c q pos pos.length lost x3 x4 (c.cells.length:Int):=e1;have h3:x3=cnt (Ik c pos) c.cells.length:=h3;have h4:x4=cnt (Je c pos) c.cells.length:=h4;unfold Q7 at e2;rw [yA (by omega),xx] at e2;unfold Q9;rw [←h3,←h4];cases h5:decide (x3>c.hi)
  ·cases h6:decide (x4<c.lo)
   ·obtain ⟨l,e3,hL⟩:=wA (q:=q) (n:=n2) W hl h3 h4 (by omega);rw [h5,h6,xx,xx,e3] at e2;exact ⟨l,e2,fun _=>hL⟩
   ·rw [h5,h6,xx,yC] at e2;exact ⟨lost,e2,fun h=>by cases h⟩
  ·rw [h5,yC] at e2;exact ⟨lost,e2,fun h=>by cases h⟩
 ·obtain ⟨x3,x4⟩:=s;obtain ⟨h3,h4⟩:=hI;simp only at h3 h4;have hc:=W.cells i hi;have hr:=W.r64 hi;have b3:=YX (p:=Ik c pos) (i:=i);have b4:=YX (p:=Je c pos) (i:=i);have A3:=W.len;have r3:AH (x3+1):=Ax.2 ⟨by omega,by omega⟩;have r4:AH (x4+1):=Ax.2 ⟨by omega,by omega⟩
  show ∃ s',Q7 n (IE c q pos pos.length lost n) c q pos pos.length lost x3 x4 (i:Int)=_/\ _
  unfold Q7;rw [yG (lt i hi),yC];simp only [yB];rw [xw ⟨⟨by omega,lt i hi⟩,hc⟩];have m1:(bits .andNot .i64 (pos.getD (c.cells.getD i 0).toNat 0) c.set==0)=Ik c pos i:=rfl;have m2:(Ik c pos i||(bits .and .i64 (pos.getD (c.cells.getD i 0).toNat 0) c.set != 0))=Je c pos i:=rfl;rw [m1];cases hm:Ik c pos i
  ·rw [hm,zj] at m2;rw [xx,m2];cases hy:Je c pos i
   ·rw [xx,xw hr.2];exact ⟨(x3,x4),rfl,by rw [Mo,hm];simpa using h3,by rw [Mo,hy];simpa using h4⟩
   ·rw [yC,xw ⟨r4,hr.2⟩];exact ⟨(x3,x4+1),rfl,by rw [Mo,hm];simpa using h3,by rw [Mo,hy];simpa using h4⟩
  ·have hy:Je c pos i=true:=by rw [←m2,hm];rfl
   rw [yC,xw ⟨r3,r4,hr.2⟩];exact ⟨(x3+1,x4+1),rfl,by rw [Mo,hm];simpa using h3,by rw [Mo,hy];simpa using h4⟩
end
end Go.Proofs.YtgkhhfnhacibcaaGreatDoor
namespace Go.Proofs.YtgkhhfnhacibcaaGreatDoor
abbrev zC:=@Nat.lt_of_not_le
end Go.Proofs.YtgkhhfnhacibcaaGreatDoor
namespace Go.Proofs.YtgkhhfnhacibcaaGreatDoor
open Go.RowKit
theorem iw (x:Int) (i:Nat):tb (IntKind.i64.wrap x) i=tb x i:=by unfold tb;rw [Pn]
theorem JH {s:Nat} (hs:s<64) (i:Nat):tb (IntKind.i64.wrap (1*2 ^ s)) i=decide (s=i):=by
 rw [iw,Int.one_mul];rcases zb i 64 with h | h
 ·have e:((2 ^ s:Nat):Int)=(2:Int) ^ s:=by simp
  rw [←e];exact ix h
 ·rw [NA h,yA (by omega)]
theorem FE {k:Nat} {x:Int} (h:Sm k x) (hk:k<=62) {e:Int}:e∈Bg x↔∃ s:Nat,e=(s:Int)/\ s<k/\ tb x s=true:=by
 obtain ⟨m,rfl⟩:=zAG h.1;unfold Bg Em;simp only [zN,z6,yR,yB];constructor
 ·rintro ⟨s,⟨h1,h2⟩,rfl⟩;have h3:tb (m:Int) s=true:=by rw [KG m s h1];exact h2
  refine ⟨s,rfl,?_,h3⟩;refine zC fun CC=>?_
  rw [h.hi CC] at h3;cases h3
 ·rintro ⟨s,rfl,h1,h2⟩;exact ⟨s,⟨by omega,by rw [KG m s (by omega)] at h2;exact h2⟩,rfl⟩
theorem UE {α σ:Type} {f:α -> σ -> Option σ} (Inv:List α -> σ -> Prop): ∀ (l pre:List α) (s:σ),Inv pre s -> (∀ pre x s,x∈l -> Inv pre s -> ∃ s',f x s=some s'/\ Inv (pre++[x]) s') -> ∃ s',Bn f l s=some s'/\ Inv (pre++l) s'
 | [],pre,s,h,_=>⟨s,rfl,by rw [zAO];exact h⟩
 | x::l,pre,s,h,hs=>by
  obtain ⟨s',h1,h2⟩:=hs pre x s (.head _) h;obtain ⟨s2,h3,h4⟩:=UE Inv l (pre++[x]) s' h2 fun pre y s hy=>hs pre y s (.tail _ hy)
  refine ⟨s2,?_,by rw [zAX] at h4;exact h4⟩;simp only [Bn];rw [h1,yF,h3]
structure Dt (q:AA) (k:Nat):Prop where
 len:k<=q.values.length
 val: ∀ s,s<k -> 0<=q.values.getD s 0/\ q.values.getD s 0<=99
def L7 (q:AA) (a e:Int):Int:=if q.values.getD e.toNat 0<a then q.values.getD e.toNat 0 else a
def MT (q:AA) (a e:Int):Int:=if q.values.getD e.toNat 0>a then q.values.getD e.toNat 0 else a
def Fx (q:AA) (x:Int):Int:=(Bg x).foldl (L7 q) 100
def F5 (q:AA) (x:Int):Int:=(Bg x).foldl (MT q) (-1)
section
variable {c:AB} {k:Nat} {pos lost:List Int} {q:AA}
theorem cd: ∀ (l:List Int) (a:Int),(∀ e∈l,0<=q.values.getD e.toNat 0/\ q.values.getD e.toNat 0<=99) -> 0<=a/\ a<=100 -> 0<=l.foldl (L7 q) a/\ l.foldl (L7 q) a<=100
 | [],_,_,h=>h
 | e::l,a,hv,h=>by
  have:=hv e (.head _);refine cd l (L7 q a e) (fun e he=>hv e (.tail _ he)) ?_;unfold L7;split <;> omega
theorem d8: ∀ (l:List Int) (a:Int),(∀ e∈l,0<=q.values.getD e.toNat 0/\ q.values.getD e.toNat 0<=99) -> -1<=a/\ a<=99 -> -1<=l.foldl (MT q) a/\ l.foldl (MT q) a<=99
 | [],_,_,h=>h
 | e::l,a,hv,h=>by
  have:=hv e (.head _);refine d8 l (MT q a e) (fun e he=>hv e (.tail _ he)) ?_;unfold MT;split <;> omega
theorem Dt.sym (V:Dt q k) (hk:k<=16) {x:Int} (h:Sm k x): ∀ e∈Bg x,(0<=e/\ e<((q.values.length:Nat):Int))/\ 0<=q.values.getD e.toNat 0/\ q.values.getD e.toNat 0<=99:=by
 intro e he;obtain ⟨s,rfl,h1,_⟩:=(FE h (yO hk (by decide))).1 he;have:=V.len;rw [yB];exact ⟨by omega,V.val s h1⟩
theorem Dt.lo (V:Dt q k) (hk:k<=16) {x:Int} (h:Sm k x):0<=Fx q x/\ Fx q x<=100:=cd _ _ (fun e he=>(V.sym hk h e he).2) (by decide)
theorem Dt.hi (V:Dt q k) (hk:k<=16) {x:Int} (h:Sm k x): -1<=F5 q x/\ F5 q x<=99:=d8 _ _ (fun e he=>(V.sym hk h e he).2) (by decide)
theorem fZ {n ln:Nat}: ∀ (l:List Int) (a b:Int),(∀ e∈l,0<=e/\ e<((q.values.length:Nat):Int)) -> Bn (Qv n c q pos ln lost) l (.s0 a b)=some (.s0 (l.foldl (L7 q) a) (l.foldl (MT q) b))
 | [],_,_,_=>rfl
 | e::l,a,b,h=>by
  have e1:Qv n c q pos ln lost e (.s0 a b)=some (.s0 (L7 q a e) (MT q b e)):=by
   unfold Qv fc fe
   dsimp only
   rw [xw (h e (.head _))];rfl
  simp only [Bn];rw [e1,yF,fZ l _ _ fun e he=>h e (.tail _ he)];rfl
theorem fY {n ln:Nat} (V:Dt q k) (hk:k<=16) {x:Int} (h:Sm k x):Qw n x c q pos ln lost=some (Fx q x,F5 q x,lost):=by
 have ew:=Lp (k:=k) (yO hk (by decide));have h2:=h.2;unfold Qw fa;rw [xw ⟨h.1,by omega⟩,fZ (Bg x) 100 (-1) fun e he=>(V.sym hk h e he).1];rfl
def Dv (f:Nat -> Int):Nat -> Int
 | 0=>0
 | i+1=>Dv f i+f i
theorem M9 {f:Nat -> Int}: ∀ (i:Nat),(∀ a,a<i -> -1<=f a/\ f a<=100) -> -(i:Int)<=Dv f i/\ Dv f i<=100*(i:Int)
 | 0,_=>by simp [Dv]
 | i+1,h=>by
  have h1:=M9 i fun a ha=>h a (by omega)
  have h2:=h i (by omega);simp only [Dv];omega
def Kk (q:AA) (c:AB) (pos:List Int):Int:=Dv (fun a=>Fx q (A0 c pos a)) c.cells.length
def Ky (q:AA) (c:AB) (pos:List Int):Int:=Dv (fun a=>F5 q (A0 c pos a)) c.cells.length
def Ou (q:AA) (c:AB) (pos:List Int):Bool:=!decide (Kk q c pos>c.hi)&&!decide (Ky q c pos<c.lo)
def KM (q:AA) (c:AB) (pos:List Int) (a s:Nat):Bool:=
 decide (Kk q c pos-Fx q (A0 c pos a)+q.values.getD s 0>c.hi)||decide (Ky q c pos-F5 q (A0 c pos a)+q.values.getD s 0<c.lo)
theorem cZ {T:Type} {n:Nat} (W:B0 c k pos) {i:Nat} (hi:i<c.cells.length) (hl:lost.length=pos.length) (mk:List Int -> T) (f:Int -> T -> Option T) (X:Nat -> Bool)
 (hf: ∀ (s:Nat) (l:List Int),s<k -> l.length=pos.length -> f (s:Int) (mk l)=bif X s then (C5 n (c.cells.getD i 0) (IntKind.i64.wrap (1*2 ^ s)) c q pos pos.length l).map mk else some (mk l)):
 ∃ l',Bn f (Bg (A0 c pos i)) (mk lost)=some (mk l')/\ l'.length=pos.length/\
  ∀ j s,tb (l'.getD j 0) s=true↔tb (lost.getD j 0) s=true∨((c.cells.getD i 0).toNat=j/\ tb (A0 c pos i) s=true/\ X s=true):=by
 have hc:=W.cells i hi;have B6:=W.at hi;have hk:=W.k
 have key:=UE (f:=f)
  (fun pre s=>∃ l',s=mk l'/\ l'.length=pos.length/\ ∀ j s,tb (l'.getD j 0) s=true↔tb (lost.getD j 0) s=true∨((c.cells.getD i 0).toNat=j/\ tb (A0 c pos i) s=true/\ (s:Int)∈pre/\ X s=true))
  (Bg (A0 c pos i)) [] (mk lost) ⟨lost,rfl,hl,fun j s=>⟨.inl,fun h=>h.elim id fun h=>(by cases h.2.2.1)⟩⟩ ?_
 ·obtain ⟨_,h1,l',rfl,h2,h3⟩:=key;refine ⟨l',h1,h2,fun j s=>?_⟩;rw [h3,zW];constructor
  ·rintro (h | ⟨a1,a2,_,a3⟩)
   ·exact .inl h
   ·exact .inr ⟨a1,a2,a3⟩
  ·rintro (h | ⟨a1,a2,a3⟩)
   ·exact .inl h
   ·refine .inr ⟨a1,a2,(FE B6 (yO hk (by decide))).2 ⟨s,rfl,zC fun CC=>?_,a2⟩,a3⟩;rw [B6.hi CC] at a2;cases a2
 ·rintro pre e _ he ⟨l',rfl,h2,h3⟩;obtain ⟨s,rfl,hs,hbit⟩:=(FE B6 (yO hk (by decide))).1 he;rw [hf s l' hs h2];cases hx:X s
  ·rw [xx];refine ⟨_,rfl,l',rfl,h2,fun j x=>?_⟩;rw [h3];constructor
   ·rintro (h | ⟨a1,a2,a3,a4⟩)
    ·exact .inl h
    ·exact .inr ⟨a1,a2,yg _ a3,a4⟩
   ·rintro (h | ⟨a1,a2,a3,a4⟩)
    ·exact .inl h
    ·rcases yx.1 a3 with a3 | a3
     ·exact .inr ⟨a1,a2,a3,a4⟩
     ·have:x=s:=by have:=yZ.1 a3;omega
      subst this;rw [hx] at a4;cases a4
  ·obtain ⟨l2,e2,n2,f2⟩:=Jg (lost:=l') (n:=n) (ss:=IntKind.i64.wrap (1*2 ^ s)) (c:=c) (q:=q) hc.1 hc.2 h2;rw [yC,e2,yj];refine ⟨_,rfl,l2,rfl,n2,fun j x=>?_⟩;rw [f2,yX,yD,yD,yP,h3,JH (by omega),yP];constructor
   ·rintro ((h | ⟨a1,a2,a3,a4⟩) | ⟨rfl,a2,rfl⟩)
    ·exact .inl h
    ·exact .inr ⟨a1,a2,yg _ a3,a4⟩
    ·exact .inr ⟨rfl,a2,yy _ (.head _),hx⟩
   ·rintro (h | ⟨a1,a2,a3,a4⟩)
    ·exact .inl (.inl h)
    ·rcases yx.1 a3 with a3 | a3
     ·exact .inl (.inr ⟨a1,a2,a3,a4⟩)
     ·have:x=s:=by have:=yZ.1 a3;omega
      subst this;subst a1;exact .inr ⟨rfl,a2,rfl⟩
theorem jH {n:Nat} (W:B0 c k pos) (V:Dt q k) {i:Nat} (hi:i<c.cells.length) {low high:Int} (Tp:low=Kk q c pos) (eA:high=Ky q c pos) (hl:lost.length=pos.length):
 ∃ l',Bn (Rr n c (i:Int) q pos pos.length low high (Fx q (A0 c pos i),F5 q (A0 c pos i),lost)) (Bg (A0 c pos i)) (.s0 lost)=some (.s0 l')/\ l'.length=pos.length/\
  ∀ j s,tb (l'.getD j 0) s=true↔tb (lost.getD j 0) s=true∨((c.cells.getD i 0).toNat=j/\ tb (A0 c pos i) s=true/\ KM q c pos i s=true):=by
 have hc:=W.cells i hi;have B6:=W.at hi;have hk:=W.k;have A3:=W.len;have bl:=V.lo hk B6;have bh:=V.hi hk B6;have tl:=M9 (f:=fun a=>Fx q (A0 c pos a)) c.cells.length fun a ha=>by have:=V.lo hk (W.at ha);omega
 have th:=M9 (f:=fun a=>F5 q (A0 c pos a)) c.cells.length fun a ha=>by have:=V.hi hk (W.at ha);omega
 have tl: -(c.cells.length:Int)<=low/\ low<=100*(c.cells.length:Int):=by rw [Tp];exact tl
 have th: -(c.cells.length:Int)<=high/\ high<=100*(c.cells.length:Int):=by rw [eA];exact th
 refine cZ (n:=n) (q:=q) W hi hl JJ.s0 _ (KM q c pos i) fun s l hs hl=>?_
 have hv:=V.val s hs;have GK:=V.len;have r1:AH (low-Fx q (A0 c pos i)):=Ax.2 ⟨by omega,by omega⟩;have r2:AH (low-Fx q (A0 c pos i)+q.values.getD s 0):=Ax.2 ⟨by omega,by omega⟩;have r3:AH (high-F5 q (A0 c pos i)):=Ax.2 ⟨by omega,by omega⟩;have r4:AH (high-F5 q (A0 c pos i)+q.values.getD s 0):=Ax.2 ⟨by omega,by omega⟩;have g1:(0:Int)<=(s:Int)/\ (s:Int)<((q.values.length:Nat):Int):=by omega
 have g2:(0:Int)<=(s:Int)/\ (s:Int)<=((IntKind.i64.bits:Nat):Int):=⟨by omega,by show (s:Int)<=64;omega⟩;obtain ⟨l2,e2,_,_⟩:=Jg (lost:=l) (n:=n) (ss:=IntKind.i64.wrap (1*2 ^ s)) (c:=c) (q:=q) hc.1 hc.2 hl;have X:KM q c pos i s=(decide (low-Fx q (A0 c pos i)+q.values.getD s 0>c.hi)||decide (high-F5 q (A0 c pos i)+q.values.getD s 0<c.lo)):=by rw [Tp,eA];rfl
 rw [X];unfold Rr Z3 Rq
 dsimp only
 simp only [yB];rw [xw ⟨g1,r1,r2⟩];cases hA:decide (low-Fx q (A0 c pos i)+q.values.getD s 0>c.hi)
 ·rw [xx,xw ⟨r3,r4⟩,zj];cases hB:decide (high-F5 q (A0 c pos i)+q.values.getD s 0<c.lo)
  ·rfl
  ·rw [yC,yC,xw g2,e2];rfl
 ·rw [yC,Bool.true_or,yC,xw g2,e2];rfl
theorem jE {n:Nat} (W:B0 c k pos) (V:Dt q k) (hl:lost.length=pos.length) (hn:c.cells.length+1<=n):
 ∃ l,Hf c q pos pos.length lost n (.l2 0 lost (Kk q c pos) (Ky q c pos))=some (true,l)/\ Bw c pos lost c.cells.length (fun a s=>KM q c pos a s=true) l:=by
 have lt: ∀ i,i<c.cells.length -> ((i:Nat):Int)<((c.cells.length:Nat):Int):=fun i hi=>by omega
 have T:=Gl (fun n (s:List Int) i=>Hf c q pos pos.length lost n (.l2 i s (Kk q c pos) (Ky q c pos))) c.cells.length 1
  (fun i s=>Bw c pos lost i (fun a s=>KM q c pos a s=true) s) (fun n i s HK hi hI=>?_) (n:=n) (s:=lost) (by omega) (Bw.zero hl)
 ·obtain ⟨n3,l,Qb,_,e2,hL⟩:=T;obtain ⟨n4,rfl⟩: ∃ n4,n3=n4+1:=⟨n3-1,by omega⟩;refine ⟨l,e2.trans ?_,hL⟩
  show Oo n4 (Hf c q pos pos.length lost n4) c q pos pos.length lost (c.cells.length:Int) l _ _=_
  unfold Oo;rw [yA (by omega),xx]
 ·have hc:=W.cells i hi;have hr:=W.r64 hi;have B6:=W.at hi;have ew:=Lp (k:=k) (yO W.k (by decide));have Jo:=B6.2;obtain ⟨l',e1,n1,f1⟩:=jH (n:=n) W V hi rfl rfl hI.1
  show ∃ s',Oo n (Hf c q pos pos.length lost n) c q pos pos.length lost (i:Int) s _ _=_/\ _
  unfold Oo;rw [yG (lt i hi),yC];simp only [yB];have sa:pos.getD (c.cells.getD i 0).toNat 0=A0 c pos i:=rfl;rw [xw ⟨⟨by omega,lt i hi⟩,hc⟩,sa,fY V W.k B6,yF,xw ⟨B6.1,by show A0 c pos i<_;omega⟩];refine ⟨l',?_,hI.step n1 f1⟩;refine (congrArg (fun z=>Option.bind z _) e1).trans ?_;rw [yF];simp only;rw [xw hr.2]
theorem jF {n:Nat} (W:B0 c k pos) (V:Dt q k) (hl:lost.length=pos.length) (hn:2*c.cells.length+3<=n):
 ∃ l,ND n c q pos pos.length lost=some (Ou q c pos,l)/\ (Ou q c pos=true -> Bw c pos lost c.cells.length (fun a s=>KM q c pos a s=true) l):=by
 have lt: ∀ i,i<c.cells.length -> ((i:Nat):Int)<((c.cells.length:Nat):Int):=fun i hi=>by omega
 have S:=Gl (fun n (s:List Int×Int×Int) i=>Hf c q pos pos.length lost n (.l1 i s.1 s.2.1 s.2.2)) c.cells.length (c.cells.length+3)
  (fun i s=>s.1=lost/\ s.2.1=Dv (fun a=>Fx q (A0 c pos a)) i/\ s.2.2=Dv (fun a=>F5 q (A0 c pos a)) i) (fun n i s _ hi hI=>?_) (n:=n) (s:=(lost,0,0)) (by omega) ⟨rfl,rfl,rfl⟩
 ·obtain ⟨n1,⟨l0,x3,x4⟩,F4,_,e1,h0,h3,h4⟩:=S;obtain ⟨n2,rfl⟩: ∃ n2,n1=n2+1:=⟨n1-1,by omega⟩;obtain rfl:l0=lost:=h0;obtain rfl:x3=Kk q c pos:=h3;obtain rfl:x4=Ky q c pos:=h4;have e2:ND n c q pos pos.length l0=Oq n2 (Hf c q pos pos.length l0 n2) c q pos pos.length l0 (c.cells.length:Int) l0 (Kk q c pos) (Ky q c pos):=e1;unfold Oq at e2;rw [yA (by omega),xx] at e2;unfold Ou;cases h5:decide (Kk q c pos>c.hi)
  ·cases h6:decide (Ky q c pos<c.lo)
   ·obtain ⟨l,e3,hL⟩:=jE (n:=n2) W V hl (by omega);rw [h5,h6,xx,xx,e3] at e2;exact ⟨l,e2,fun _=>hL⟩
   ·rw [h5,h6,xx,yC] at e2;exact ⟨l0,e2,fun h=>by cases h⟩
  ·rw [h5,yC] at e2;exact ⟨l0,e2,fun h=>by cases h⟩
 ·obtain ⟨l0,x3,x4⟩:=s;obtain ⟨h0,h3,h4⟩:=hI;simp only at h0 h3 h4;have hc:=W.cells i hi;have hr:=W.r64 hi;have B6:=W.at hi;have b3:=M9 (f:=fun a=>Fx q (A0 c pos a)) i fun a ha=>by have:=V.lo W.k (W.at (Nat.lt_trans ha hi));omega
  have b4:=M9 (f:=fun a=>F5 q (A0 c pos a)) i fun a ha=>by have:=V.hi W.k (W.at (Nat.lt_trans ha hi));omega
  have bl:=V.lo W.k B6;have bh:=V.hi W.k B6;have A3:=W.len;rw [←h3] at b3;rw [←h4] at b4;have r3:AH (x3+Fx q (A0 c pos i)):=Ax.2 ⟨by omega,by omega⟩;have r4:AH (x4+F5 q (A0 c pos i)):=Ax.2 ⟨by omega,by omega⟩
  show ∃ s',Oq n (Hf c q pos pos.length lost n) c q pos pos.length lost (i:Int) l0 x3 x4=_/\ _
  unfold Oq;rw [yG (lt i hi),yC];simp only [yB];have sa:pos.getD (c.cells.getD i 0).toNat 0=A0 c pos i:=rfl;rw [xw ⟨⟨by omega,lt i hi⟩,hc⟩,sa,fY V W.k B6,yF,xw ⟨r3,r4,hr.2⟩];exact ⟨(l0,x3+Fx q (A0 c pos i),x4+F5 q (A0 c pos i)),rfl,h0,by simp only [Dv];rw [h3],by simp only [Dv];rw [h4]⟩
end
end Go.Proofs.YtgkhhfnhacibcaaGreatDoor
namespace Go.Proofs.YtgkhhfnhacibcaaGreatDoor
open Go.RowKit
set_option maxRecDepth 100000
set_option maxHeartbeats 40000000
def Zu:ST:=.rd 0 (.rd 1 (.rd 3 (.rd 4 (.ef 2 (.ef 5 (.ef 6 (.ef 7 (.ef 8 (.ef 9 (.fin [0,1,2,3] [1,3,4,5,58,91,92,104,148]) (.no)) (.no)) (.no)) (.ef 7 (.ef 6 (.ef 8 (.ef 9 (.fin [0,1,3,2] [1,3,4,5,58,91,92,104,148]) (.no)) (.no)) (.no)) (.no))) (.ef 6 (.ef 5 (.ef 7 (.ef 8 (.ef 9 (.fin [0,2,1,3] [1,3,4,5,58,91,92,104,148]) (.no)) (.no)) (.no)) (.ef 7 (.ef 5 (.ef 8 (.ef 9 (.fin [0,3,1,2] [1,3,4,5,58,91,92,104,148]) (.no)) (.no)) (.ef 8 (.ef 5 (.ef 9 (.fin [0,3,1,2] [1,3,4,5,58,91,92,104,148]) (.no)) (.no)) (.no))) (.no))) (.ef 7 (.ef 5 (.ef 6 (.ef 8 (.ef 9 (.fin [0,2,3,1] [1,3,4,5,58,91,92,104,148]) (.no)) (.no)) (.no)) (.ef 6 (.ef 5 (.ef 8 (.ef 9 (.fin [0,3,2,1] [1,3,4,5,58,91,92,104,148]) (.no)) (.no)) (.ef 8 (.ef 5 (.ef 9 (.fin [0,3,2,1] [1,3,4,5,58,91,92,104,148]) (.no)) (.no)) (.no))) (.no))) (.no)))) (.ef 5 (.ef 2 (.ef 6 (.ef 7 (.ef 8 (.ef 9 (.fin [1,0,2,3] [1,3,4,5,58,91,92,104,148]) (.no)) (.no)) (.no)) (.ef 7 (.ef 6 (.ef 8 (.ef 9 (.fin [1,0,3,2] [1,3,4,5,58,91,92,104,148]) (.no)) (.no)) (.no)) (.no))) (.ef 6 (.ef 2 (.ef 7 (.ef 8 (.ef 9 (.fin [2,0,1,3] [1,3,4,5,58,91,92,104,148]) (.no)) (.no)) (.no)) (.ef 7 (.ef 2 (.ef 8 (.ef 9 (.fin [3,0,1,2] [1,3,4,5,58,91,92,104,148]) (.no)) (.no)) (.no)) (.no))) (.ef 7 (.ef 2 (.ef 6 (.ef 8 (.ef 9 (.fin [2,0,3,1] [1,3,4,5,58,91,92,104,148]) (.no)) (.no)) (.no)) (.ef 6 (.ef 2 (.ef 8 (.ef 9 (.fin [3,0,2,1] [1,3,4,5,58,91,92,104,148]) (.no)) (.no)) (.no)) (.no))) (.no)))) (.ef 6 (.ef 2 (.ef 5 (.ef 7 (.ef 8 (.ef 9 (.fin [1,2,0,3] [1,3,4,5,58,91,92,104,148]) (.no)) (.no)) (.no)) (.ef 7 (.ef 5 (.ef 8 (.ef 9 (.fin [1,3,0,2] [1,3,4,5,58,91,92,104,148]) (.no)) (.no)) (.ef 8 (.ef 5 (.ef 9 (.fin [1,3,0,2] [1,3,4,5,58,91,92,104,148]) (.no)) (.no)) (.no))) (.no))) (.ef 5 (.ef 2 (.ef 7 (.ef 8 (.ef 9 (.fin [2,1,0,3] [1,3,4,5,58,91,92,104,148]) (.no)) (.no)) (.no)) (.ef 7 (.ef 2 (.ef 8 (.ef 9 (.fin [3,1,0,2] [1,3,4,5,58,91,92,104,148]) (.no)) (.no)) (.no)) (.no))) (.ef 7 (.ef 2 (.ef 5 (.ef 8 (.ef 9 (.fin [2,3,0,1] [1,3,4,5,58,91,92,104,148]) (.no)) (.no)) (.ef 8 (.ef 5 (.ef 9 (.fin [2,3,0,1] [1,3,4,5,58,91,92,104,148]) (.no)) (.no)) (.no))) (.ef 5 (.ef 2 (.ef 8 (.ef 9 (.fin [3,2,0,1] [1,3,4,5,58,91,92,104,148]) (.no)) (.no)) (.no)) (.no))) (.no)))) (.ef 7 (.ef 2 (.ef 5 (.ef 6 (.ef 8 (.ef 9 (.fin [1,2,3,0] [1,3,4,5,58,91,92,104,148]) (.no)) (.no)) (.no)) (.ef 6 (.ef 5 (.ef 8 (.ef 9 (.fin [1,3,2,0] [1,3,4,5,58,91,92,104,148]) (.no)) (.no)) (.ef 8 (.ef 5 (.ef 9 (.fin [1,3,2,0] [1,3,4,5,58,91,92,104,148]) (.no)) (.no)) (.no))) (.no))) (.ef 5 (.ef 2 (.ef 6 (.ef 8 (.ef 9 (.fin [2,1,3,0] [1,3,4,5,58,91,92,104,148]) (.no)) (.no)) (.no)) (.ef 6 (.ef 2 (.ef 8 (.ef 9 (.fin [3,1,2,0] [1,3,4,5,58,91,92,104,148]) (.no)) (.no)) (.no)) (.no))) (.ef 6 (.ef 2 (.ef 5 (.ef 8 (.ef 9 (.fin [2,3,1,0] [1,3,4,5,58,91,92,104,148]) (.no)) (.no)) (.ef 8 (.ef 5 (.ef 9 (.fin [2,3,1,0] [1,3,4,5,58,91,92,104,148]) (.no)) (.no)) (.no))) (.ef 5 (.ef 2 (.ef 8 (.ef 9 (.fin [3,2,1,0] [1,3,4,5,58,91,92,104,148]) (.no)) (.no)) (.no)) (.no))) (.no)))) (.no))))))))
theorem kX:CI (BC Tryz.f71 2) [2,5,6,7,8] Zu:=by unfold CI;kernel_rfl
def Zt:ST:=.rd 0 (.rd 1 (.rd 2 (.rd 3 (.ef 4 (.rd 5 (.ef 6 (.fin [] [1,4,5,58,91,92,104,148]) (.no))) (.no)))))
theorem kU:CI (BC Tryz.f71 3) [4] Zt:=by unfold CI;kernel_rfl
theorem kY:Ay (BC Tryz.f71 12) [] (List.range 11) [11]:=by unfold Ay;kernel_rfl
theorem kW:Ay (BC Tryz.f71 22) [] (List.range 9) [9]:=by unfold Ay;kernel_rfl
theorem kV:Ay (BC Tryz.f71 26) [([0,1,2,3,4,5,6],7)] [] []:=by unfold Ay;kernel_rfl
def Zr:ST:=.rd 0 (.rd 1 (.rd 2 (.rd 3 (.ef 4 (.fin [] [2]) (.no)))))
theorem aX:CI (BC Tryz.f71 30) [] Zr:=by unfold CI;kernel_rfl
def Dx:Bb:=fun i=>match i with
 | 2=>.tre [2,5,6,7,8] Zu
 | 3=>.tre [4] Zt
 | 12=>.ord [] (List.range 11) [11]
 | 22=>.ord [] (List.range 9) [9]
 | 26=>.ord [([0,1,2,3,4,5,6],7)] [] []
 | 30=>.tre [] Zr
 | _=>.no
def CQ (c:AB) (q:AA) (pos:List Int) (ln:Nat) (lost:List Int):St:=⟨(AM 178 [(1,.ref 2 0),(3,.i (c.cells.length:Int)),(4,.ref 5 0),(5,.ref 6 0)]),([some (.cells (AF c++AD q++[.ints pos,.msl 1 1 0 ln])),some (.ints lost),some (.cells [.ref 0 0]),some (.ints (List.replicate ((((c.cells.length:Int)+1)).toNat) (0:Int))),some (.ints (List.replicate ((((c.cells.length:Int)+1)).toNat) (0:Int))),some (.cells [.msl 3 1 0 ((((c.cells.length:Int)+1)).toNat)]),some (.cells [.msl 4 1 0 ((((c.cells.length:Int)+1)).toNat)])]:DH)⟩
def Za (c:AB) (q:AA) (pos:List Int) (ln:Nat) (lost:List Int):St:=⟨(AM 178 [(1,.ref 2 0),(4,.ref 5 0),(5,.ref 6 0)]),([some (.cells (AF c++AD q++[.ints pos,.msl 1 1 0 ln])),some (.ints lost),some (.cells [.ref 0 0]),some (.ints ((List.replicate ((((c.cells.length:Int)+1)).toNat) (0:Int)).set (0+0) (-1))),some (.ints ((List.replicate ((((c.cells.length:Int)+1)).toNat) (0:Int)).set (0+c.cells.length) 100)),some (.cells [.msl 3 1 0 ((((c.cells.length:Int)+1)).toNat)]),some (.cells [.msl 4 1 0 ((((c.cells.length:Int)+1)).toNat)])]:DH)⟩
def sY (c:AB) (q:AA) (pos:List Int) (ln:Nat) (lost o4:List Int) (BO:Int):DH:=[some (.cells (AF c++AD q++[.ints pos,.msl 1 1 0 ln])),some (.ints lost),some (.cells [.ref 0 0]),some (.cells [.msl 4 1 0 ((((c.cells.length:Int)+1)).toNat)]),some (.ints (o4.set (0+(((BO+1)).toNat)) 100)),some (.cells [.msl 6 1 0 ((((c.cells.length:Int)+1)).toNat)]),some (.ints ((List.replicate ((((c.cells.length:Int)+1)).toNat) (0:Int)).set (0+c.cells.length) 100)),some (.cells [.i BO])]
def sX (c:AB) (q:AA) (pos:List Int) (ln:Nat) (lost:List Int) (BO:Int) (o4:List Int):DH:=[some (.cells (AF c++AD q++[.ints pos,.msl 1 1 0 ln])),some (.ints lost),some (.cells [.ref 0 0]),some (.cells [.msl 7 1 0 ((((c.cells.length:Int)+1)).toNat)]),some (.cells [.msl 8 1 0 ((((c.cells.length:Int)+1)).toNat)]),some (.cells [.i BO]),some (.iter ((Bg (pos.getD ((c.cells.getD ((BO).toNat) 0).toNat) 0)).map BK)),some (.ints (o4.set (0+(((BO+1)).toNat)) 100)),some (.ints ((List.replicate ((((c.cells.length:Int)+1)).toNat) (0:Int)).set (0+c.cells.length) 100))]
def sW (c:AB) (q:AA) (pos:List Int) (ln:Nat) (lost o4:List Int):DH:=[some (.cells (AF c++AD q++[.ints pos,.msl 1 1 0 ln])),some (.ints lost),some (.cells [.ref 0 0]),some (.cells [.msl 4 1 0 ((((c.cells.length:Int)+1)).toNat)]),some (.ints o4),some (.cells [.msl 6 1 0 ((((c.cells.length:Int)+1)).toNat)]),some (.ints ((List.replicate ((((c.cells.length:Int)+1)).toNat) (0:Int)).set (0+c.cells.length) 100))]
def sV (c:AB) (q:AA) (pos:List Int) (ln:Nat) (lost:List Int) (y1:List (Int×Int)) (o4:List Int):DH:=[some (.cells (AF c++AD q++[.ints pos,.msl 1 1 0 ln])),some (.ints lost),some (.cells [.ref 0 0]),some (.cells [.msl 6 1 0 ((((c.cells.length:Int)+1)).toNat)]),some (.cells [.msl 7 1 0 ((((c.cells.length:Int)+1)).toNat)]),some (.iter ((y1).map Mi)),some (.ints o4),some (.ints ((List.replicate ((((c.cells.length:Int)+1)).toNat) (0:Int)).set (0+c.cells.length) 100))]
def sU (c:AB) (q:AA) (pos:List Int) (ln:Nat) (o1 o4 o6:List Int) (BF:Int):DH:=[some (.cells (AF c++AD q++[.ints pos,.msl 1 1 0 ln])),some (.ints o1),some (.cells [.ref 0 0]),some (.cells [.msl 4 1 0 ((((c.cells.length:Int)+1)).toNat)]),some (.ints o4),some (.cells [.msl 6 1 0 ((((c.cells.length:Int)+1)).toNat)]),some (.ints o6),some (.cells [.i BF]),some (.cells [.i (c.cells.getD ((BF).toNat) 0)])]
def sT (c:AB) (q:AA) (pos:List Int) (ln:Nat) (o1:List Int) (BF:Int) (o4 o6:List Int):DH:=[some (.cells (AF c++AD q++[.ints pos,.msl 1 1 0 ln])),some (.ints o1),some (.cells [.ref 0 0]),some (.cells [.msl 8 1 0 ((((c.cells.length:Int)+1)).toNat)]),some (.cells [.msl 9 1 0 ((((c.cells.length:Int)+1)).toNat)]),some (.cells [.i BF]),some (.cells [.i (c.cells.getD ((BF).toNat) 0)]),some (.iter ((Bg (pos.getD ((c.cells.getD ((BF).toNat) 0).toNat) 0)).map BK)),some (.ints o4),some (.ints o6)]
def sS (c:AB) (q:AA) (pos:List Int) (ln:Nat) (lost:List Int) (BO:Int) (E9:List Int):DH:=[some (.cells (AF c++AD q++[.ints pos,.msl 1 1 0 ln])),some (.ints lost),some (.cells [.ref 0 0]),some (.cells [.msl 7 1 0 ((((c.cells.length:Int)+1)).toNat)]),some (.cells [.msl 8 1 0 ((((c.cells.length:Int)+1)).toNat)]),some (.cells [.i BO]),none,some (.ints E9),some (.ints ((List.replicate ((((c.cells.length:Int)+1)).toNat) (0:Int)).set (0+c.cells.length) 100))]
def sR (c:AB) (q:AA) (pos:List Int) (ln:Nat) (lost o4 En:List Int) (BR:Int×Int):DH:=[some (.cells (AF c++AD q++[.ints pos,.msl 1 1 0 ln])),some (.ints lost),some (.cells [.ref 0 0]),some (.cells [.msl 6 1 0 ((((c.cells.length:Int)+1)).toNat)]),some (.cells [.msl 7 1 0 ((((c.cells.length:Int)+1)).toNat)]),none,some (.ints o4),some (.ints En),some (.cells [.i BR.1])]
def sd (c:AB) (q:AA) (pos:List Int) (ln:Nat) (lost o4 En:List Int) (BR:Int×Int):DH:=[some (.cells (AF c++AD q++[.ints pos,.msl 1 1 0 ln])),some (.ints lost),some (.cells [.ref 0 0]),some (.cells [.msl 6 1 0 ((((c.cells.length:Int)+1)).toNat)]),some (.cells [.msl 7 1 0 ((((c.cells.length:Int)+1)).toNat)]),none,some (.ints o4),some (.ints (En.set (0+((BR.1).toNat)) (-1))),some (.cells [.i BR.1])]
def sc (c:AB) (q:AA) (pos:List Int) (ln:Nat) (lost:List Int) (BR:Int×Int) (o4 En:List Int):DH:=[some (.cells (AF c++AD q++[.ints pos,.msl 1 1 0 ln])),some (.ints lost),some (.cells [.ref 0 0]),some (.cells [.msl 8 1 0 ((((c.cells.length:Int)+1)).toNat)]),some (.cells [.msl 9 1 0 ((((c.cells.length:Int)+1)).toNat)]),none,some (.cells [.i BR.1]),some (.iter ((Bg (pos.getD ((BR.2).toNat) 0)).map BK)),some (.ints o4),some (.ints (En.set (0+((BR.1).toNat)) (-1)))]
def XR (c:AB) (q:AA) (pos:List Int) (ln:Nat) (Fp:List Int) (BF:Int) (o4 o6:List Int):DH:=[some (.cells (AF c++AD q++[.ints pos,.msl 1 1 0 ln])),some (.ints Fp),some (.cells [.ref 0 0]),some (.cells [.msl 8 1 0 ((((c.cells.length:Int)+1)).toNat)]),some (.cells [.msl 9 1 0 ((((c.cells.length:Int)+1)).toNat)]),some (.cells [.i BF]),some (.cells [.i (c.cells.getD ((BF).toNat) 0)]),none,some (.ints o4),some (.ints o6)]
def Rk (c:AB) (q:AA) (pos:List Int) (ln:Nat) (IG:(List Int)) (BF:Int) (o4 o6:List Int):St:=⟨(AM 178 []),([some (.cells (AF c++AD q++[.ints pos,.msl 1 1 0 ln])),some (.ints IG),some (.cells [.ref 0 0]),some (.cells [.msl 8 1 0 ((((c.cells.length:Int)+1)).toNat)]),some (.cells [.msl 9 1 0 ((((c.cells.length:Int)+1)).toNat)]),some (.cells [.i BF]),some (.cells [.i (c.cells.getD ((BF).toNat) 0)]),none,some (.ints o4),some (.ints o6)]:DH)⟩
def sZ (c:AB) (q:AA) (pos:List Int) (ln:Nat) (lost:List Int) (BR:Int×Int) (o4 FA:List Int):DH:=[some (.cells (AF c++AD q++[.ints pos,.msl 1 1 0 ln])),some (.ints lost),some (.cells [.ref 0 0]),some (.cells [.msl 8 1 0 ((((c.cells.length:Int)+1)).toNat)]),some (.cells [.msl 9 1 0 ((((c.cells.length:Int)+1)).toNat)]),none,some (.cells [.i BR.1]),none,some (.ints o4),some (.ints FA)]
inductive KZ where
 | s0 (FA:List Int)
def ax (c:AB) (q:AA) (pos:List Int) (ln:Nat) (lost:List Int) (BR:Int×Int) (o4:List Int):KZ -> DH
 | .s0 FA=>[some (.cells (AF c++AD q++[.ints pos,.msl 1 1 0 ln])),some (.ints lost),some (.cells [.ref 0 0]),some (.cells [.msl 8 1 0 ((((c.cells.length:Int)+1)).toNat)]),some (.cells [.msl 9 1 0 ((((c.cells.length:Int)+1)).toNat)]),none,some (.cells [.i BR.1]),none,some (.ints o4),some (.ints FA)]
def SK (n:Nat) (c:AB) (q:AA) (pos:List Int) (ln:Nat) (lost:List Int) (BR:Int×Int) (o4:List Int) (GS:Int) (FA:List Int):Option KZ:=
 if (0<=GS/\ GS<(q.values.length:Int))/\ AH (BR.1+1)/\ (0<=(BR.1+1)/\ (BR.1+1)<(((((c.cells.length:Int)+1)).toNat:Nat):Int))/\ 0+(((BR.1+1)).toNat)<FA.length then
  bif (decide ((q.values.getD ((GS).toNat) 0)<(FA.getD (0+(((BR.1+1)).toNat)) 0))) then
   if (0<=BR.1/\ BR.1<(((((c.cells.length:Int)+1)).toNat:Nat):Int))/\ 0+((BR.1).toNat)<FA.length then
    some (.s0 (FA.set (0+((BR.1).toNat)) (if (q.values.getD ((GS).toNat) 0)>(FA.getD (0+((BR.1).toNat)) 0) then (q.values.getD ((GS).toNat) 0) else (FA.getD (0+((BR.1).toNat)) 0))))
   else none
  else
   some (.s0 FA)
 else none
def aw (n:Nat) (c:AB) (q:AA) (pos:List Int) (ln:Nat) (lost:List Int) (BR:Int×Int) (o4:List Int) (GS:Int):KZ -> Option KZ
 | .s0 FA=>SK n c q pos ln lost BR o4 GS FA
def PN (n:Nat) (c:AB) (q:AA) (pos:List Int) (ln:Nat) (lost:List Int) (BR:Int×Int) (o4:List Int) (GS:Int) (s:KZ):Option KZ:=aw n c q pos ln lost BR o4 GS s
theorem mT (n:Nat) (c:AB) (q:AA) (pos:List Int) (ln:Nat) (lost:List Int) (BR:Int×Int) (o4:List Int) (l B:Nat) (N:Yd 8) (GS:Int) (s:KZ) (r:KZ) (h:PN n c q pos ln lost BR o4 GS s=some r):TA l B N (Cg 8 [] 0 (ax c q pos ln lost BR o4 r)) Tryz.f71 103 ⟨AM 178 [(1,.ref 2 0),(5,.ref 4 0),(10,.ref 6 0),(103,.it 7),(104,.i GS)],ax c q pos ln lost BR o4 s⟩:=by
 cases s with
 | s0 FA=>
  replace h:SK n c q pos ln lost BR o4 GS FA=some r:=h;unfold SK at h;refine ag Dx [0,1,2,3,4,5,6,7,8,9] H0 (AM 178 [(1,.ref 2 0),(5,.ref 4 0),(10,.ref 6 0),(12,.i GS)]) (sZ c q pos ln lost BR o4 FA) fun N=>?_
  revert r;apply gO;exact gc (gi (gc (gw 116 (gc (gi (gi (bi 119 (jg kW (gc (gn fun gm=>jg gm (gn fun gj=>jg gj (jg gm (jg gj (lF fun p=>rr Dx [0,1,2,3,4,5,6,7,8,9] rfl p))))))) (lF fun p=>rr Dx [0,1,2,3,4,5,6,7,8,9] rfl p))))))))
inductive JQ where
 | s0 (Fp:List Int)
def a8 (c:AB) (BF:Int) (q:AA) (pos:List Int) (ln:Nat) (o4 o6:List Int):JQ -> DH
 | .s0 Fp=>[some (.cells (AF c++AD q++[.ints pos,.msl 1 1 0 ln])),some (.ints Fp),some (.cells [.ref 0 0]),some (.cells [.msl 8 1 0 ((((c.cells.length:Int)+1)).toNat)]),some (.cells [.msl 9 1 0 ((((c.cells.length:Int)+1)).toNat)]),some (.cells [.i BF]),some (.cells [.i (c.cells.getD ((BF).toNat) 0)]),none,some (.ints o4),some (.ints o6)]
def SM (n:Nat) (c:AB) (BF:Int) (q:AA) (pos:List Int) (ln:Nat) (o4 o6:List Int) (Ef:Int) (Fp:List Int):Option JQ:=
 if (0<=Ef/\ Ef<(q.values.length:Int))/\ (0<=BF/\ BF<(((((c.cells.length:Int)+1)).toNat:Nat):Int))/\ 0+((BF).toNat)<o4.length then
  bif (decide ((q.values.getD ((Ef).toNat) 0)<=(o4.getD (0+((BF).toNat)) 0))) then
   if 0<=Ef/\ Ef<=(IntKind.i64.bits:Int) then
    (C5 n (c.cells.getD ((BF).toNat) 0) (IntKind.i64.wrap (1*2 ^ (Ef).toNat)) c q pos ln Fp).bind fun IG=>
     some (.s0 IG)
   else none
  else
   if AH (BF+1)/\ (0<=(BF+1)/\ (BF+1)<(((((c.cells.length:Int)+1)).toNat:Nat):Int))/\ 0+(((BF+1)).toNat)<o6.length then
    bif (decide ((q.values.getD ((Ef).toNat) 0)>=(o6.getD (0+(((BF+1)).toNat)) 0))) then
     if 0<=Ef/\ Ef<=(IntKind.i64.bits:Int) then
      (C5 n (c.cells.getD ((BF).toNat) 0) (IntKind.i64.wrap (1*2 ^ (Ef).toNat)) c q pos ln Fp).bind fun IG=>
       some (.s0 IG)
     else none
    else
     some (.s0 Fp)
   else none
 else none
def a7 (n:Nat) (c:AB) (BF:Int) (q:AA) (pos:List Int) (ln:Nat) (o4 o6:List Int) (Ef:Int):JQ -> Option JQ
 | .s0 Fp=>SM n c BF q pos ln o4 o6 Ef Fp
def SN (n:Nat) (c:AB) (BF:Int) (q:AA) (pos:List Int) (ln:Nat) (o4 o6:List Int) (Ef:Int) (s:JQ):Option JQ:=a7 n c BF q pos ln o4 o6 Ef s
theorem mV (n:Nat) (c:AB) (BF:Int) (q:AA) (pos:List Int) (ln:Nat) (o4 o6:List Int) (l B:Nat) (N:Yd 8) (Ef:Int) (s:JQ) (r:JQ) (h:SN n c BF q pos ln o4 o6 Ef s=some r):TA l B N (Cg 8 [] 0 (a8 c BF q pos ln o4 o6 r)) Tryz.f71 147 ⟨AM 178 [(1,.ref 2 0),(4,.ref 3 0),(5,.ref 4 0),(14,.ref 5 0),(15,.ref 6 0),(133,.ints c.cells),(134,.i (c.cells.length:Int)),(135,.i BF),(147,.it 7),(148,.i Ef)],a8 c BF q pos ln o4 o6 s⟩:=by
 cases s with
 | s0 Fp=>
  replace h:SM n c BF q pos ln o4 o6 Ef Fp=some r:=h;unfold SM at h;refine ag Dx [0,1,2,3,4,5,6,7,8,9] H0 (AM 178 [(1,.ref 2 0),(4,.ref 3 0),(5,.ref 4 0),(14,.ref 5 0),(15,.ref 6 0),(16,.i Ef)]) (XR c q pos ln Fp BF o4 o6) fun N=>?_
  revert r;apply gO;exact gc (gi (gc (gi (gi (bi 162 (jg aX (gi (ce FZ [0,1] (XR c q pos ln Fp BF o4 o6) fun IG=>jg (Eq.refl (Rk c q pos ln IG BF o4 o6)) (lF fun p=>rr (tg:=[([],(Rk c q pos ln IG BF o4 o6))]) Dx [0,1,2,3,4,5,6,7,8,9] rfl p)))) (gc (gw 167 (gc (gi (gi (bi 170 (jg aX (gi (ce FZ [0,1] (XR c q pos ln Fp BF o4 o6) fun IG=>jg (Eq.refl (Rk c q pos ln IG BF o4 o6)) (lF fun p=>rr (tg:=[([],(Rk c q pos ln IG BF o4 o6))]) Dx [0,1,2,3,4,5,6,7,8,9] rfl p)))) (lF fun p=>rr Dx [0,1,2,3,4,5,6,7,8,9] rfl p))))))))))))
inductive Ka where
 | s0 (En:List Int)
def ay (c:AB) (q:AA) (pos:List Int) (ln:Nat) (lost o4:List Int):Ka -> DH
 | .s0 En=>[some (.cells (AF c++AD q++[.ints pos,.msl 1 1 0 ln])),some (.ints lost),some (.cells [.ref 0 0]),some (.cells [.msl 6 1 0 ((((c.cells.length:Int)+1)).toNat)]),some (.cells [.msl 7 1 0 ((((c.cells.length:Int)+1)).toNat)]),none,some (.ints o4),some (.ints En)]
def SJ (n:Nat) (c:AB) (q:AA) (pos:List Int) (ln:Nat) (lost o4:List Int) (BR:Int×Int) (En:List Int):Option Ka:=
 if (0<=BR.1/\ BR.1<(((((c.cells.length:Int)+1)).toNat:Nat):Int))/\ 0+((BR.1).toNat)<En.length/\ (0<=BR.2/\ BR.2<(pos.length:Int))/\ (0<=(pos.getD ((BR.2).toNat) 0)/\ (pos.getD ((BR.2).toNat) 0)<9223372036854775808) then
  (Bn (PN n c q pos ln lost BR o4) (Bg (pos.getD ((BR.2).toNat) 0)) (.s0 (En.set (0+((BR.1).toNat)) (-1)))).bind fun Yk=>
   match Yk with
   | .s0 gY=>
    some (.s0 gY)
 else none
def av (n:Nat) (c:AB) (q:AA) (pos:List Int) (ln:Nat) (lost o4:List Int) (BR:Int×Int):Ka -> Option Ka
 | .s0 En=>SJ n c q pos ln lost o4 BR En
def PO (n:Nat) (c:AB) (q:AA) (pos:List Int) (ln:Nat) (lost o4:List Int) (BR:Int×Int) (s:Ka):Option Ka:=av n c q pos ln lost o4 BR s
theorem mS (n:Nat) (c:AB) (q:AA) (pos:List Int) (ln:Nat) (lost o4:List Int) (l B:Nat) (N:Yd 6) (BR:Int×Int) (s:Ka) (r:Ka) (h:PO n c q pos ln lost o4 BR s=some r):TA l B N (Cg 6 [] 0 (ay c q pos ln lost o4 r)) Tryz.f71 90 ⟨AM 178 [(1,.ref 2 0),(4,.ref 3 0),(5,.ref 4 0),(90,.it 5),(91,.i BR.1),(92,.i BR.2)],ay c q pos ln lost o4 s⟩:=by
 cases s with
 | s0 En=>
  replace h:SJ n c q pos ln lost o4 BR En=some r:=h;unfold SJ at h;refine ag Dx [0,1,2,3,4,5,6,7,8] (H0.t) (AM 178 [(1,.ref 2 0),(5,.ref 4 0),(10,.ref 8 0),(11,.i BR.2)]) (sR c q pos ln lost o4 En BR) fun N=>?_
  revert r;apply gO
  exact gc (gi (gc (gi (gc (gi (gn fun xG=>jc (He xG (sd c q pos ln lost o4 En BR)) (cn fun Yk uP=>fun p r h=>by
   refine gs Dx [0,1,2,3,4,5,8,9,6,7] p (FK (SQ Tryz.f71 90) 103 []) (AM 178 [(1,.ref 2 0),(5,.ref 4 0),(10,.ref 6 0),(103,.it 7)]) (sc c q pos ln lost BR o4 En) ?_;refine r0 7 103 #[104] BK 8 uP (mT n c q pos ln lost BR o4) ?_;cases Yk with
   | s0 gY=>
    dsimp only at h
    revert r;apply gO;exact lF fun p=>rr Dx [0,1,2,3,4,5,8,9] rfl p)))))))
inductive Kb where
 | s0 (E9:List Int)
def a6 (c:AB) (BO:Int) (q:AA) (pos:List Int) (ln:Nat) (lost:List Int):Kb -> DH
 | .s0 E9=>[some (.cells (AF c++AD q++[.ints pos,.msl 1 1 0 ln])),some (.ints lost),some (.cells [.ref 0 0]),some (.cells [.msl 7 1 0 ((((c.cells.length:Int)+1)).toNat)]),some (.cells [.msl 8 1 0 ((((c.cells.length:Int)+1)).toNat)]),some (.cells [.i BO]),none,some (.ints E9),some (.ints ((List.replicate ((((c.cells.length:Int)+1)).toNat) (0:Int)).set (0+c.cells.length) 100))]
def SL (n:Nat) (c:AB) (BO:Int) (q:AA) (pos:List Int) (ln:Nat) (lost:List Int) (GR:Int) (E9:List Int):Option Kb:=
 if (0<=GR/\ GR<(q.values.length:Int))/\ (0<=BO/\ BO<(((((c.cells.length:Int)+1)).toNat:Nat):Int))/\ 0+((BO).toNat)<E9.length then
  bif (decide ((q.values.getD ((GR).toNat) 0)>(E9.getD (0+((BO).toNat)) 0))) then
   if AH (BO+1)/\ (0<=(BO+1)/\ (BO+1)<(((((c.cells.length:Int)+1)).toNat:Nat):Int))/\ 0+(((BO+1)).toNat)<E9.length then
    some (.s0 (E9.set (0+(((BO+1)).toNat)) (if (q.values.getD ((GR).toNat) 0)<(E9.getD (0+(((BO+1)).toNat)) 0) then (q.values.getD ((GR).toNat) 0) else (E9.getD (0+(((BO+1)).toNat)) 0))))
   else none
  else
   some (.s0 E9)
 else none
def az (n:Nat) (c:AB) (BO:Int) (q:AA) (pos:List Int) (ln:Nat) (lost:List Int) (GR:Int):Kb -> Option Kb
 | .s0 E9=>SL n c BO q pos ln lost GR E9
def PP (n:Nat) (c:AB) (BO:Int) (q:AA) (pos:List Int) (ln:Nat) (lost:List Int) (GR:Int) (s:Kb):Option Kb:=az n c BO q pos ln lost GR s
theorem mU (n:Nat) (c:AB) (BO:Int) (q:AA) (pos:List Int) (ln:Nat) (lost:List Int) (l B:Nat) (N:Yd 7) (GR:Int) (s:Kb) (r:Kb) (h:PP n c BO q pos ln lost GR s=some r):TA l B N (Cg 7 [] 0 (a6 c BO q pos ln lost r)) Tryz.f71 57 ⟨AM 178 [(1,.ref 2 0),(4,.ref 3 0),(5,.ref 4 0),(6,.ref 5 0),(39,.ints c.cells),(40,.i (c.cells.length:Int)),(41,.i BO),(57,.it 6),(58,.i GR)],a6 c BO q pos ln lost s⟩:=by
 cases s with
 | s0 E9=>
  replace h:SL n c BO q pos ln lost GR E9=some r:=h;unfold SL at h;refine ag Dx [0,1,2,3,4,5,6,7,8] H0 (AM 178 [(1,.ref 2 0),(4,.ref 3 0),(6,.ref 5 0),(8,.i GR)]) (sS c q pos ln lost BO E9) fun N=>?_
  revert r;apply gO;exact gc (gi (gc (gi (gi (bi 72 (jg kY (gc (gn fun gh=>jw 75 gh (jw 78 gh (gc (gn fun gb=>jg gb (gn fun ga=>jg ga (jg gb (jg ga (lF fun p=>rr Dx [0,1,2,3,4,5,6,7,8] rfl p)))))))))) (lF fun p=>rr Dx [0,1,2,3,4,5,6,7,8] rfl p))))))
inductive PQ where
 | l1 (BO:Int) (o4:List Int)
 | l2 (BF:Int) (o1 o4 o6:List Int)
def PM (n:Nat) (self:PQ -> Option (Bool×(List Int))) (c:AB) (q:AA) (pos:List Int) (ln:Nat) (lost:List Int) (BO:Int) (o4:List Int):Option (Bool×(List Int)):=
 bif (decide (BO<(c.cells.length:Int))) then
  if (0<=BO/\ BO<(c.cells.length:Int))/\ AH (BO+1)/\ (0<=(BO+1)/\ (BO+1)<(((((c.cells.length:Int)+1)).toNat:Nat):Int))/\ 0+(((BO+1)).toNat)<o4.length/\ (0<=(c.cells.getD ((BO).toNat) 0)/\ (c.cells.getD ((BO).toNat) 0)<(pos.length:Int))/\ (0<=(pos.getD ((c.cells.getD ((BO).toNat) 0).toNat) 0)/\ (pos.getD ((c.cells.getD ((BO).toNat) 0).toNat) 0)<9223372036854775808) then
   (Bn (PP n c BO q pos ln lost) (Bg (pos.getD ((c.cells.getD ((BO).toNat) 0).toNat) 0)) (.s0 (o4.set (0+(((BO+1)).toNat)) 100))).bind fun y1=>
    match y1 with
    | .s0 Cp=>
     if AH (BO+1) then
      self (.l1 (BO+1) Cp)
     else none
  else none
 else
  (back n c.cells).bind fun y1=>
   (Bn (PO n c q pos ln lost o4) y1 (.s0 ((List.replicate ((((c.cells.length:Int)+1)).toNat) (0:Int)).set (0+c.cells.length) 100))).bind fun y2=>
    match y2 with
    | .s0 Hb=>
     self (.l2 0 lost o4 Hb)
def PL (n:Nat) (self:PQ -> Option (Bool×(List Int))) (c:AB) (q:AA) (pos:List Int) (ln:Nat) (lost:List Int) (BF:Int) (o1 o4 o6:List Int):Option (Bool×(List Int)):=
 bif (decide (BF<(c.cells.length:Int))) then
  if (0<=BF/\ BF<(c.cells.length:Int))/\ (0<=(c.cells.getD ((BF).toNat) 0)/\ (c.cells.getD ((BF).toNat) 0)<(pos.length:Int))/\ (0<=(pos.getD ((c.cells.getD ((BF).toNat) 0).toNat) 0)/\ (pos.getD ((c.cells.getD ((BF).toNat) 0).toNat) 0)<9223372036854775808) then
   (Bn (SN n c BF q pos ln o4 o6) (Bg (pos.getD ((c.cells.getD ((BF).toNat) 0).toNat) 0)) (.s0 o1)).bind fun y1=>
    match y1 with
    | .s0 Cp=>
     if AH (BF+1) then
      self (.l2 (BF+1) Cp o4 o6)
     else none
  else none
 else
  some (true,o1)
def au (n:Nat) (self:PQ -> Option (Bool×(List Int))) (c:AB) (q:AA) (pos:List Int) (ln:Nat) (lost:List Int):Option (Bool×(List Int)):=
 if AH ((c.cells.length:Int)+1)/\ ((((c.cells.length:Int)+1):Int)=((c.cells.length:Int)+1)/\ (0:Int)<=((c.cells.length:Int)+1)/\ (((c.cells.length:Int)+1):Int)<=1000000000000)/\ ((0:Int)<=0/\ 0<(((((c.cells.length:Int)+1)).toNat:Nat):Int))/\ 0+0<(List.replicate ((((c.cells.length:Int)+1)).toNat) (0:Int)).length/\ (0<=(c.cells.length:Int)/\ (c.cells.length:Int)<(((((c.cells.length:Int)+1)).toNat:Nat):Int))/\ 0+c.cells.length<(List.replicate ((((c.cells.length:Int)+1)).toNat) (0:Int)).length then
  self (.l1 0 ((List.replicate ((((c.cells.length:Int)+1)).toNat) (0:Int)).set (0+0) (-1)))
 else none
def HB (c:AB) (q:AA) (pos:List Int) (ln:Nat) (lost:List Int):Nat -> PQ -> Option (Bool×(List Int))
 | 0,_=>none
 | n+1,.l1 BO o4=>PM n (HB c q pos ln lost n) c q pos ln lost BO o4
 | n+1,.l2 BF o1 o4 o6=>PL n (HB c q pos ln lost n) c q pos ln lost BF o1 o4 o6
def Kc (n:Nat) (c:AB) (q:AA) (pos:List Int) (ln:Nat) (lost:List Int):Option (Bool×(List Int)):=au n (HB c q pos ln lost n) c q pos ln lost
def mW (n B:Nat) (N:Yd 2) (c:AB) (q:AA) (pos:List Int) (ln:Nat) (lost:List Int) (r:Bool×(List Int)):PQ -> Prop
 | .l1 BO o4=>∀ m0:Nat,n<=m0 -> TW B N (FQ Tryz.f71 2 (.bool r.1) [some (.cells (AF c++AD q++[.ints pos,.msl 1 1 0 ln])),some (.ints r.2)]) (A2 m0 (BA (AX Tryz.f71) 0 [])) ⟨AM 178 [(1,.ref 2 0),(4,.ref 3 0),(5,.ref 5 0),(39,.ints c.cells),(40,.i (c.cells.length:Int)),(41,.i BO)],[some (.cells (AF c++AD q++[.ints pos,.msl 1 1 0 ln])),some (.ints lost),some (.cells [.ref 0 0]),some (.cells [.msl 4 1 0 ((((c.cells.length:Int)+1)).toNat)]),some (.ints o4),some (.cells [.msl 6 1 0 ((((c.cells.length:Int)+1)).toNat)]),some (.ints ((List.replicate ((((c.cells.length:Int)+1)).toNat) (0:Int)).set (0+c.cells.length) 100))]⟩
 | .l2 BF o1 o4 o6=>∀ m0:Nat,n<=m0 -> TW B N (FQ Tryz.f71 2 (.bool r.1) [some (.cells (AF c++AD q++[.ints pos,.msl 1 1 0 ln])),some (.ints r.2)]) (A2 m0 (BA (AX Tryz.f71) 8 [])) ⟨AM 178 [(1,.ref 2 0),(4,.ref 3 0),(5,.ref 5 0),(133,.ints c.cells),(134,.i (c.cells.length:Int)),(135,.i BF)],[some (.cells (AF c++AD q++[.ints pos,.msl 1 1 0 ln])),some (.ints o1),some (.cells [.ref 0 0]),some (.cells [.msl 4 1 0 ((((c.cells.length:Int)+1)).toNat)]),some (.ints o4),some (.cells [.msl 6 1 0 ((((c.cells.length:Int)+1)).toNat)]),some (.ints o6)]⟩
theorem mX (B:Nat) (N:Yd 2) (c:AB) (q:AA) (pos:List Int) (ln:Nat) (lost:List Int):Al (HB c q pos ln lost) (mW · B N c q pos ln lost):=ia (fun _=>rfl) fun n AG pt r h=>by
 cases pt
 case l1 BO o4=>
  intro m0 AC;refine rd AC fun m0 AC=>?_
  revert r;apply gO
  exact bi 42 (gc (gi (jt (gc (gw 48 (gc (gi (gc (gi (gc (gi (gn fun g5=>jc (He g5 (sY c q pos ln lost o4 BO)) (cn fun y1 A7=>fun p r h=>by
   refine gs Dx [0,1,2,3,5,7,8,4,6] p (FK (AX Tryz.f71) 57 [m0]) (AM 178 [(1,.ref 2 0),(4,.ref 3 0),(5,.ref 4 0),(6,.ref 5 0),(39,.ints c.cells),(40,.i (c.cells.length:Int)),(41,.i BO),(57,.it 6)]) (sX c q pos ln lost BO o4) ?_;refine r0 6 57 #[58] BK 7 A7 (mU n c BO q pos ln lost) ?_;cases y1 with
   | s0 Cp=>
    dsimp only at h
    revert r;apply gO;exact gw 84 (lG Dx [0,1,2,3,7,4,8] (AG _ _ · m0 AC))))))))))))))) (cn fun y1 A7=>jc (xE A7 (sW c q pos ln lost o4)) (cn fun y2 Bu=>fun p r h=>by
   refine gs Dx [0,1,2,3,5,7,4,6] p (FK (AX Tryz.f71) 90 []) (AM 178 [(1,.ref 2 0),(4,.ref 3 0),(5,.ref 4 0),(90,.it 5)]) (sV c q pos ln lost y1 o4) ?_;refine r0 5 90 #[91,92] Mi 6 Bu (mS n c q pos ln lost o4) ?_;cases y2 with
   | s0 Hb=>
    dsimp only at h
    revert r;apply gO;exact lN Dx [0,1,2,3,6,4,7] (AG _ _ · n Nat.le.refl)))
 case l2 BF o1 o4 o6=>
  intro m0 AC;refine rd AC fun m0 AC=>?_
  revert r;apply gO
  exact bi 136 (gc (gi (jt (jt (jg kV (gc (gi (gn fun g2=>jc (He g2 (sU c q pos ln o1 o4 o6 BF)) (cn fun y1 A7=>fun p r h=>by
   refine gs Dx [0,1,2,3,5,7,8,9,4,6] p (FK (AX Tryz.f71) 147 [m0]) (AM 178 [(1,.ref 2 0),(4,.ref 3 0),(5,.ref 4 0),(14,.ref 5 0),(15,.ref 6 0),(133,.ints c.cells),(134,.i (c.cells.length:Int)),(135,.i BF),(147,.it 7)]) (sT c q pos ln o1 BF o4 o6) ?_;refine r0 7 147 #[148] BK 8 A7 (mV n c BF q pos ln o4 o6) ?_;cases y1 with
   | s0 Cp=>
    dsimp only at h
    revert r;apply gO;exact gw 177 (lG Dx [0,1,2,3,8,4,9] (AG _ _ · m0 AC))))))))))) (lE Dx [2] [0,1])
theorem mR {n:Nat} {c:AB} {q:AA} {pos:List Int} {ln:Nat} {lost:List Int} {r:Bool×(List Int)} (h:Kc n c q pos ln lost=some r):EQ 71 [.ref 0 0] [some (.cells (AF c++AD q++[.ints pos,.msl 1 1 0 ln])),some (.ints lost)] (.bool r.1) [some (.cells (AF c++AD q++[.ints pos,.msl 1 1 0 ln])),some (.ints r.2)] false:=by
 refine ot Tryz.func71 fun B N=>?_
 revert r;apply gO;exact jg kX (gc (gn fun g0=>jw 25 g0 (jw 28 g0 (gc (gn fun g1=>jg g1 (jg g1 (jt (jt (jg (Eq.refl (CQ c q pos ln lost)) (jt (jt (jg (Eq.refl (CQ c q pos ln lost)) (jg g1 (jt (jt (jg (Eq.refl (CQ c q pos ln lost)) (jg g1 (jt (jt (jg (Eq.refl (CQ c q pos ln lost)) (jt (jg g1 (jt (jg (Eq.refl (CQ c q pos ln lost)) (jg g1 (jt (jt (jg (Eq.refl (CQ c q pos ln lost)) (jg g1 (jt (jt (jg (Eq.refl (CQ c q pos ln lost)) (jt (jg g1 (jt (jg (Eq.refl (CQ c q pos ln lost)) (jg g1 (jg g1 (jt (jt (jg (Eq.refl (CQ c q pos ln lost)) (jt (jt (jg (Eq.refl (CQ c q pos ln lost)) (jg g1 (jt (jt (jg (Eq.refl (CQ c q pos ln lost)) (jg g1 (jt (jt (jg (Eq.refl (CQ c q pos ln lost)) (jg g1 (jt (jt (jg (Eq.refl (CQ c q pos ln lost)) (jg g1 (jt (jt (jg (Eq.refl (CQ c q pos ln lost)) (jg g1 (jg g1 (jt (jt (jg (Eq.refl (CQ c q pos ln lost)) (jg g1 (jt (jt (jg (Eq.refl (CQ c q pos ln lost)) (jt (jg g1 (jt (jg (Eq.refl (CQ c q pos ln lost)) (jg g1 (jg g1 (jt (jt (jg (Eq.refl (CQ c q pos ln lost)) (jg g1 (jt (jt (jg (Eq.refl (CQ c q pos ln lost)) (jg g1 (jg g1 (jt (jt (jg (Eq.refl (CQ c q pos ln lost)) (jt (jg g1 (jt (jg (Eq.refl (CQ c q pos ln lost)) (jg g1 (jg g1 (jt (jt (jg (Eq.refl (CQ c q pos ln lost)) (jg g1 (jg g1 (jt (jt (jg (Eq.refl (CQ c q pos ln lost)) (jg g1 (jt (jt (jg (Eq.refl (CQ c q pos ln lost)) (jt (jg g1 (jt (jg (Eq.refl (CQ c q pos ln lost)) (jg g1 (jg g1 (jt (jt (jg (Eq.refl (CQ c q pos ln lost)) (jg g1 (jt (jt (jg (Eq.refl (CQ c q pos ln lost)) (jg g1 (jg g1 (jt (jt (jg (Eq.refl (CQ c q pos ln lost)) (jt (jg g1 (jt (jg (Eq.refl (CQ c q pos ln lost)) (jg g1 (jg g1 (jt (jt (jg (Eq.refl (CQ c q pos ln lost)) (jg kU (gc (gi (gc (gi (gc (gi (gi (jg (Eq.refl (Za c q pos ln lost)) (lN (tg:=[([],(CQ c q pos ln lost)),([(4,3)],(Za c q pos ln lost))]) Dx [0,1,2,5,3,6,4] ((mX B N c q pos ln lost n) _ _ · n Nat.le.refl)))))))))))))))))))))))))))))))))))))))))))))))))))))))))))))))))))))))))))))))))))))))))))))))))))))))))))))))))))))))))))))))))))))))))))))))
end Go.Proofs.YtgkhhfnhacibcaaGreatDoor
namespace Go.Proofs.YtgkhhfnhacibcaaGreatDoor
open Go.RowKit
theorem HN {l:List Int} {i:Nat} {a:Int} (h:i<l.length):(l.set i a).getD i 0=a:=by
 rw [u8,zK h];rfl
theorem getD_set_ne {l:List Int} {i j:Nat} {a:Int} (h:i≠j):(l.set i a).getD j 0=l.getD j 0:=by
 rw [u8,zG h,←u8]
def IQ (q:AA) (b a e:Int):Int:=if q.values.getD e.toNat 0>b then (if q.values.getD e.toNat 0<a then q.values.getD e.toNat 0 else a) else a
def IC (q:AA) (b a e:Int):Int:=if q.values.getD e.toNat 0<b then (if q.values.getD e.toNat 0>a then q.values.getD e.toNat 0 else a) else a
def F8 (q:AA) (c:AB) (pos:List Int):Nat -> Int
 | 0=>-1
 | i+1=>(Bg (A0 c pos i)).foldl (IQ q (F8 q c pos i)) 100
def IJ (q:AA) (c:AB) (pos:List Int):Nat -> Int
 | 0=>100
 | m+1=>(Bg (A0 c pos (c.cells.length-1-m))).foldl (IC q (IJ q c pos m)) (-1)
def IK (q:AA) (c:AB) (pos:List Int) (i:Nat):Int:=IJ q c pos (c.cells.length-i)
def IY (q:AA) (c:AB) (pos:List Int) (a s:Nat):Bool:=decide (q.values.getD s 0<=F8 q c pos a)||decide (q.values.getD s 0>=IK q c pos (a+1))
def RG (l:List Int):Nat -> List (Int×Int)
 | 0=>[]
 | m+1=>((m:Int),l.getD m 0)::RG l m
theorem gV {l:List Int}: ∀ (m n:Nat),m<=l.length -> l.length<=LB -> m+1<=n -> LI l n (.l1 ((m:Int)-1))=some (RG l m)
 | 0,n,_,_,hn=>by
  obtain ⟨n,rfl⟩: ∃ k,n=k+1:=⟨n-1,by omega⟩
  show Mu n (LI l n) l _=_
  unfold Mu;rw [yA (by omega),xx];rfl
 | m+1,n,hm,hl,hn=>by
  obtain ⟨n,rfl⟩: ∃ k,n=k+1:=⟨n-1,by omega⟩;have e:((m+1:Nat):Int)-1=(m:Int):=by omega
  have hb:LB<=9223372036854775807:=by decide
  rw [e]
  show Mu n (LI l n) l _=_
  unfold Mu;rw [yG (by omega),yC,xw ⟨by omega,by omega⟩,xw (Ax.2 ⟨by omega,by omega⟩),gV m n (by omega) hl (by omega),yB];rfl
theorem xB {l:List Int} {n:Nat} (hl:l.length<=LB) (hn:l.length+1<=n):back n l=some (RG l l.length):=by
 have hb:LB<=9223372036854775807:=by decide
 unfold back Yi;rw [xw (Ax.2 ⟨by omega,by omega⟩),gV l.length n (yS _) hl hn]
section
variable {c:AB} {k:Nat} {pos lost:List Int} {q:AA}
theorem ap {n ln i:Nat} (A3:c.cells.length<=256) (hi:i<c.cells.length) {o:List Int} (ho:o.length=c.cells.length+1): ∀ (l:List Int) (a:Int),(∀ e∈l,0<=e/\ e<((q.values.length:Nat):Int)) ->
 Bn (PP n c (i:Int) q pos ln lost) l (.s0 (o.set (i+1) a))=some (.s0 (o.set (i+1) (l.foldl (IQ q (o.getD i 0)) a)))
 | [],_,_=>rfl
 | e::l,a,h=>by
  have t1:((((c.cells.length:Nat):Int)+1).toNat:Nat)=c.cells.length+1:=by omega
  have t2:(((i:Int)+1).toNat:Nat)=i+1:=by omega
  have e1:PP n c (i:Int) q pos ln lost e (.s0 (o.set (i+1) a))=some (.s0 (o.set (i+1) (IQ q (o.getD i 0) a e))):=by
   unfold PP az SL
   dsimp only
   simp only [yB,t1,t2,yU,yW,ho];rw [xw ⟨h e (.head _),by omega,by omega⟩,getD_set_ne (by omega),HN (by omega),List.set_set];unfold IQ
   by_cases hA:q.values.getD e.toNat 0>o.getD i 0
   ·rw [yG hA,yC,xw ⟨Ax.2 ⟨by omega,by omega⟩,by omega,by omega⟩,xw hA]
   ·rw [yA hA,xx,yK hA]
  simp only [Bn];rw [e1,yF,ap A3 hi ho l _ fun e he=>h e (.tail _ he)];rfl
theorem aq {n ln i:Nat} {x:Int} {o4:List Int} (A3:c.cells.length<=256) (hi:i<c.cells.length) {o:List Int} (ho:o.length=c.cells.length+1): ∀ (l:List Int) (a:Int),(∀ e∈l,0<=e/\ e<((q.values.length:Nat):Int)) ->
 Bn (PN n c q pos ln lost ((i:Int),x) o4) l (.s0 (o.set i a))=some (.s0 (o.set i (l.foldl (IC q (o.getD (i+1) 0)) a)))
 | [],_,_=>rfl
 | e::l,a,h=>by
  have t1:((((c.cells.length:Nat):Int)+1).toNat:Nat)=c.cells.length+1:=by omega
  have t2:(((i:Int)+1).toNat:Nat)=i+1:=by omega
  have e1:PN n c q pos ln lost ((i:Int),x) o4 e (.s0 (o.set i a))=some (.s0 (o.set i (IC q (o.getD (i+1) 0) a e))):=by
   unfold PN aw SK
   dsimp only
   simp only [yB,t1,t2,yU,yW,ho];rw [xw ⟨h e (.head _),Ax.2 ⟨by omega,by omega⟩,by omega,by omega⟩,getD_set_ne (by omega),HN (by omega),List.set_set];unfold IC
   by_cases hA:q.values.getD e.toNat 0<o.getD (i+1) 0
   ·rw [yG hA,yC,xw ⟨by omega,by omega⟩,xw hA]
   ·rw [yA hA,xx,yK hA]
  simp only [Bn];rw [e1,yF,aq A3 hi ho l _ fun e he=>h e (.tail _ he)];rfl
theorem Sm.i63 (hk:k<=16) {x:Int} (h:Sm k x):0<=x/\ x<9223372036854775808:=by
 have h1:=Lp (k:=k) (yO hk (by decide));obtain ⟨h2,h3⟩:=h;omega
theorem ar {n:Nat} {o4:List Int} (W:B0 c k pos) (V:Dt q k): ∀ (m:Nat) (o:List Int),m<=c.cells.length -> o.length=c.cells.length+1 -> (∀ j,m<=j -> j<=c.cells.length -> o.getD j 0=IK q c pos j) ->
 ∃ o',Bn (PO n c q pos pos.length lost o4) (RG c.cells m) (.s0 o)=some (.s0 o')/\ o'.length=c.cells.length+1/\ ∀ j,j<=c.cells.length -> o'.getD j 0=IK q c pos j
 | 0,o,_,ho,h=>⟨o,rfl,ho,fun j hj=>h j (zU _) hj⟩
 | m+1,o,hm,ho,h=>by
  have hc:=W.cells m (by omega);have B6:=W.at (a:=m) (by omega);have A3:=W.len;have t1:((((c.cells.length:Nat):Int)+1).toNat:Nat)=c.cells.length+1:=by omega
  have e1:PO n c q pos pos.length lost o4 ((m:Int),c.cells.getD m 0) (.s0 o)=some (.s0 (o.set m (IK q c pos m))):=by
   unfold PO av SJ
   dsimp only
   simp only [yB,t1,yU];rw [xw ⟨by omega,by omega,hc,B6.i63 W.k⟩];refine (congrArg (fun z=>Option.bind z _) (aq A3 (by omega) ho (Bg (A0 c pos m)) (-1) fun e he=>(V.sym W.k B6 e he).1)).trans ?_;rw [yF]
   have e2:IK q c pos m=(Bg (A0 c pos m)).foldl (IC q (o.getD (m+1) 0)) (-1):=by
    rw [h (m+1) (yS _) hm];unfold IK;rw [show c.cells.length-m=c.cells.length-(m+1)+1 by omega];simp only [IJ];rw [show c.cells.length-1-(c.cells.length-(m+1))=m by omega]
   rw [e2]
  obtain ⟨o',h1,h2,h3⟩:=ar W V m (o.set m (IK q c pos m)) (by omega) (by rw [yW];exact ho) fun j hj GO=>by
   by_cases e:m=j
   ·subst e;exact HN (by omega)
   ·rw [getD_set_ne e];exact h j (by omega) GO
  refine ⟨o',?_,h2,h3⟩;simp only [RG,Bn];rw [e1,yF,h1]
theorem mN {n:Nat} {o4 o6:List Int} (W:B0 c k pos) (V:Dt q k) (h4:o4.length=c.cells.length+1) (h6:o6.length=c.cells.length+1) (hb: ∀ j,j<=c.cells.length -> o4.getD j 0=F8 q c pos j) (ha: ∀ j,j<=c.cells.length -> o6.getD j 0=IK q c pos j) (hl:lost.length=pos.length) (hn:c.cells.length+1<=n):
 ∃ l,HB c q pos pos.length lost n (.l2 0 lost o4 o6)=some (true,l)/\ Bw c pos lost c.cells.length (fun a s=>IY q c pos a s=true) l:=by
 have lt: ∀ i,i<c.cells.length -> ((i:Nat):Int)<((c.cells.length:Nat):Int):=fun i hi=>by omega
 have t1:((((c.cells.length:Nat):Int)+1).toNat:Nat)=c.cells.length+1:=by omega
 have A3:=W.len
 have T:=Gl (fun n (s:List Int) i=>HB c q pos pos.length lost n (.l2 i s o4 o6)) c.cells.length 1
  (fun i s=>Bw c pos lost i (fun a s=>IY q c pos a s=true) s) (fun n i s HK hi hI=>?_) (n:=n) (s:=lost) (by omega) (Bw.zero hl)
 ·obtain ⟨n3,l,Qb,_,e2,hL⟩:=T;obtain ⟨n4,rfl⟩: ∃ n4,n3=n4+1:=⟨n3-1,by omega⟩;refine ⟨l,e2.trans ?_,hL⟩
  show PL n4 (HB c q pos pos.length lost n4) c q pos pos.length lost (c.cells.length:Int) l o4 o6=_
  unfold PL;rw [yA (by omega),xx]
 ·have hc:=W.cells i hi;have hr:=W.r64 hi;have B6:=W.at hi;have t2:(((i:Int)+1).toNat:Nat)=i+1:=by omega
  obtain ⟨l',e1,n1,f1⟩:=cZ (n:=n) (q:=q) W hi hI.1 JQ.s0 (SN n c (i:Int) q pos pos.length o4 o6) (IY q c pos i) fun s l hs hl=>by
   have GK:=V.len;have g1:(0:Int)<=(s:Int)/\ (s:Int)<((q.values.length:Nat):Int):=by omega
   have hk:=W.k;have g2:(0:Int)<=(s:Int)/\ (s:Int)<=((IntKind.i64.bits:Nat):Int):=⟨by omega,by show (s:Int)<=64;omega⟩;obtain ⟨l2,e2,_,_⟩:=Jg (lost:=l) (n:=n) (ss:=IntKind.i64.wrap (1*2 ^ s)) (c:=c) (q:=q) hc.1 hc.2 hl;unfold IY SN a7 SM
   dsimp only
   simp only [yB,t1,t2,yU,h4,h6];rw [xw ⟨g1,by omega,by omega⟩,hb i (by omega),ha (i+1) (by omega)];cases hA:decide (q.values.getD s 0<=F8 q c pos i)
   ·rw [xx,xw ⟨Ax.2 ⟨by omega,by omega⟩,by omega,by omega⟩,zj];cases hB:decide (q.values.getD s 0>=IK q c pos (i+1))
    ·rfl
    ·rw [yC,yC,xw g2,e2];rfl
   ·rw [yC,Bool.true_or,yC,xw g2,e2];rfl
  show ∃ s',PL n (HB c q pos pos.length lost n) c q pos pos.length lost (i:Int) s o4 o6=_/\ _
  unfold PL;rw [yG (lt i hi),yC];simp only [yB];rw [xw ⟨⟨by omega,lt i hi⟩,hc,B6.i63 W.k⟩];refine ⟨l',?_,hI.step n1 f1⟩;refine (congrArg (fun z=>Option.bind z _) e1).trans ?_;rw [yF];simp only;rw [xw hr.2]
theorem mO {n:Nat} (W:B0 c k pos) (V:Dt q k) (hl:lost.length=pos.length) (hn:2*c.cells.length+3<=n):
 ∃ l,Kc n c q pos pos.length lost=some (true,l)/\ Bw c pos lost c.cells.length (fun a s=>IY q c pos a s=true) l:=by
 have lt: ∀ i,i<c.cells.length -> ((i:Nat):Int)<((c.cells.length:Nat):Int):=fun i hi=>by omega
 have t1:((((c.cells.length:Nat):Int)+1).toNat:Nat)=c.cells.length+1:=by omega
 have A3:=W.len
 have S:=Gl (fun n (s:List Int) i=>HB c q pos pos.length lost n (.l1 i s)) c.cells.length (c.cells.length+3)
  (fun i s=>s.length=c.cells.length+1/\ ∀ j,j<=i -> s.getD j 0=F8 q c pos j) (fun n i s _ hi hI=>?_) (n:=n) (s:=(List.replicate (c.cells.length+1) (0:Int)).set 0 (-1)) (by omega) ⟨by simp,fun j hj=>?_⟩
 ·obtain ⟨n1,o4,F4,_,e1,h4,hb⟩:=S;obtain ⟨n2,rfl⟩: ∃ n2,n1=n2+1:=⟨n1-1,by omega⟩
  have e0:Kc n c q pos pos.length lost=HB c q pos pos.length lost n (.l1 0 ((List.replicate (c.cells.length+1) (0:Int)).set 0 (-1))):=by
   unfold Kc au;simp only [t1,yU,yQ];rw [xw ⟨Ax.2 ⟨by omega,by omega⟩,⟨trivial,by omega,by omega⟩,⟨by omega,by omega⟩,by omega,⟨by omega,by omega⟩,by omega⟩]
  have e2:Kc n c q pos pos.length lost=PM n2 (HB c q pos pos.length lost n2) c q pos pos.length lost (c.cells.length:Int) o4:=e0.trans e1;unfold PM at e2;rw [yA (by omega),xx,xB (yO A3 (by decide)) (by omega),yF] at e2;simp only [t1,yU] at e2
  obtain ⟨o6,e3,h6,ha⟩:=ar (lost:=lost) (n:=n2) (o4:=o4) W V c.cells.length ((List.replicate (c.cells.length+1) (0:Int)).set c.cells.length 100) (yS _) (by simp) fun j hj GO=>by
   obtain rfl:j=c.cells.length:=by omega
   rw [HN (by simp)];unfold IK;rw [Nat.sub_self];rfl
  rw [e3,yF] at e2;obtain ⟨l,e4,hL⟩:=mN (n:=n2) W V h4 h6 (fun j hj=>hb j hj) ha hl (by omega);exact ⟨l,e2.trans e4,hL⟩
 ·obtain ⟨h4,hb⟩:=hI;have hc:=W.cells i hi;have hr:=W.r64 hi;have B6:=W.at hi;have t2:(((i:Int)+1).toNat:Nat)=i+1:=by omega
  show ∃ s',PM n (HB c q pos pos.length lost n) c q pos pos.length lost (i:Int) s=_/\ _
  unfold PM;rw [yG (lt i hi),yC];simp only [yB,t1,t2,yU];rw [xw ⟨⟨by omega,lt i hi⟩,hr.2,by omega,by omega,hc,B6.i63 W.k⟩];refine ⟨s.set (i+1) (F8 q c pos (i+1)),?_,by rw [yW];exact h4,fun j hj=>?_⟩
  ·refine (congrArg (fun z=>Option.bind z _) (ap A3 hi h4 (Bg (A0 c pos i)) 100 fun e he=>(V.sym W.k B6 e he).1)).trans ?_;rw [yF];simp only;rw [xw hr.2,hb i (yS _)];rfl
  ·by_cases e:i+1=j
   ·subst e;exact HN (by omega)
   ·rw [getD_set_ne e];exact hb j (by omega)
 ·obtain rfl:j=0:=by omega
  rw [HN (by simp)];rfl
end
end Go.Proofs.YtgkhhfnhacibcaaGreatDoor
namespace Go.Proofs.YtgkhhfnhacibcaaGreatDoor
open Go.RowKit
section
variable {k:Nat}
theorem bc {T1 T2:Type} (Jd:List Int -> Int -> Int -> T1) (Nb:List Int -> Int -> Int -> T2) (f1:Int -> Int -> T1 -> Option T1) (f2:Int -> T2 -> Option T2) (ok:Nat -> Nat -> Bool) {a b:Int} (ha:Sm k a) (hb:Sm k b) (hk:k<=16)
 (h1: ∀ (s t:Nat) (l:List Int) (x y:Int),s<k -> t<k -> f1 s t (Jd l x y)=some (bif ok s t then Jd l (bits .or .i64 x (IntKind.i64.wrap (1*2 ^ s))) (bits .or .i64 y (IntKind.i64.wrap (1*2 ^ t))) else Jd l x y))
 (h2: ∀ (s:Nat) (l:List Int) (x y x' y':Int),s<k -> Bn (f1 s) (Bg b) (Jd l x y)=some (Jd l x' y') -> f2 s (Nb l x y)=some (Nb l x' y')) (l:List Int):
 ∃ x y,Bn f2 (Bg a) (Nb l 0 0)=some (Nb l x y)/\ (∀ u,tb x u=true↔tb a u=true/\ ∃ t,tb b t=true/\ ok u t=true)/\ (∀ u,tb y u=true↔tb b u=true/\ ∃ s,tb a s=true/\ ok s u=true):=by
 have In:k<=62:=yO hk (by decide)
 have qW: ∀ (s:Nat) (x y:Int),s<k -> ∃ x' y',Bn (f1 s) (Bg b) (Jd l x y)=some (Jd l x' y')/\ (∀ u,tb x' u=true↔tb x u=true∨(u=s/\ ∃ t,tb b t=true/\ ok s t=true))/\ (∀ u,tb y' u=true↔tb y u=true∨(tb b u=true/\ ok s u=true)):=by
  intro s x y hs
  have key:=UE (f:=f1 s) (fun pre st=>∃ x' y',st=Jd l x' y'/\ (∀ u,tb x' u=true↔tb x u=true∨(u=s/\ ∃ t:Nat,(t:Int)∈pre/\ ok s t=true))/\ (∀ u:Nat,tb y' u=true↔tb y u=true∨((u:Int)∈pre/\ ok s u=true)))
   (Bg b) [] (Jd l x y) ⟨x,y,rfl,fun u=>⟨.inl,fun h=>h.elim id fun ⟨_,t,h,_⟩=>(by cases h)⟩,fun u=>⟨.inl,fun h=>h.elim id fun ⟨h,_⟩=>(by cases h)⟩⟩ ?_
  ·obtain ⟨st,e,x',y',rfl,hx,hy⟩:=key;refine ⟨x',y',e,fun u=>?_,fun u=>?_⟩
   ·rw [hx,zW];constructor
    ·rintro (h | ⟨e1,t,h,h3⟩)
     ·exact .inl h
     ·obtain ⟨t',e2,_,h4⟩:=(FE hb In).1 h;have:t=t':=by omega
      subst this;exact .inr ⟨e1,t,h4,h3⟩
    ·rintro (h | ⟨e1,t,h,h3⟩)
     ·exact .inl h
     ·exact .inr ⟨e1,t,(FE hb In).2 ⟨t,rfl,zC fun CC=>(by rw [hb.hi CC] at h;cases h),h⟩,h3⟩
   ·rw [hy,zW];constructor
    ·rintro (h | ⟨h,h3⟩)
     ·exact .inl h
     ·obtain ⟨t',e2,_,h4⟩:=(FE hb In).1 h;have:u=t':=by omega
      subst this;exact .inr ⟨h4,h3⟩
    ·rintro (h | ⟨h,h3⟩)
     ·exact .inl h
     ·exact .inr ⟨(FE hb In).2 ⟨u,rfl,zC fun CC=>(by rw [hb.hi CC] at h;cases h),h⟩,h3⟩
  ·rintro pre e _ he ⟨x',y',rfl,hx,hy⟩;obtain ⟨t,rfl,ht,_⟩:=(FE hb In).1 he;rw [h1 s t l x' y' hs ht];cases ho:ok s t
   ·rw [xx];refine ⟨_,rfl,x',y',rfl,fun u=>?_,fun u=>?_⟩
    ·rw [hx];constructor
     ·rintro (h | ⟨e1,t',h,h3⟩)
      ·exact .inl h
      ·exact .inr ⟨e1,t',yg _ h,h3⟩
     ·rintro (h | ⟨e1,t',h,h3⟩)
      ·exact .inl h
      ·rcases yx.1 h with h | h
       ·exact .inr ⟨e1,t',h,h3⟩
       ·have:t'=t:=by have:=yZ.1 h;omega
        subst this;rw [ho] at h3;cases h3
    ·rw [hy];constructor
     ·rintro (h | ⟨h,h3⟩)
      ·exact .inl h
      ·exact .inr ⟨yg _ h,h3⟩
     ·rintro (h | ⟨h,h3⟩)
      ·exact .inl h
      ·rcases yx.1 h with h | h
       ·exact .inr ⟨h,h3⟩
       ·have:u=t:=by have:=yZ.1 h;omega
        subst this;rw [ho] at h3;cases h3
   ·rw [yC];refine ⟨_,rfl,_,_,rfl,fun u=>?_,fun u=>?_⟩
    ·rw [IS,yX,hx,JH (by omega),yP];constructor
     ·rintro ((h | ⟨e1,t',h,h3⟩) | rfl)
      ·exact .inl h
      ·exact .inr ⟨e1,t',yg _ h,h3⟩
      ·exact .inr ⟨rfl,t,yy _ (.head _),ho⟩
     ·rintro (h | ⟨e1,t',h,h3⟩)
      ·exact .inl (.inl h)
      ·exact .inr e1.symm
    ·rw [IS,yX,hy,JH (by omega),yP];constructor
     ·rintro ((h | ⟨h,h3⟩) | rfl)
      ·exact .inl h
      ·exact .inr ⟨yg _ h,h3⟩
      ·exact .inr ⟨yy _ (.head _),ho⟩
     ·rintro (h | ⟨h,h3⟩)
      ·exact .inl (.inl h)
      ·rcases yx.1 h with h | h
       ·exact .inl (.inr ⟨h,h3⟩)
       ·exact .inr (by have:=yZ.1 h;omega)
 have key:=UE (f:=f2) (fun pre st=>∃ x y,st=Nb l x y/\ (∀ u:Nat,tb x u=true↔(u:Int)∈pre/\ ∃ t,tb b t=true/\ ok u t=true)/\ (∀ u,tb y u=true↔tb b u=true/\ ∃ s:Nat,(s:Int)∈pre/\ ok s u=true))
  (Bg a) [] (Nb l 0 0) ⟨0,0,rfl,fun u=>⟨fun h=>absurd h Ok,fun ⟨h,_⟩=>(by cases h)⟩,fun u=>⟨fun h=>absurd h Ok,fun ⟨_,s,h,_⟩=>(by cases h)⟩⟩ ?_
 ·obtain ⟨st,e,x,y,rfl,hx,hy⟩:=key;refine ⟨x,y,e,fun u=>?_,fun u=>?_⟩
  ·rw [hx,zW];constructor
   ·rintro ⟨h,h2⟩;obtain ⟨t',e2,_,h4⟩:=(FE ha In).1 h;have:u=t':=by omega
    subst this;exact ⟨h4,h2⟩
   ·rintro ⟨h,h2⟩;exact ⟨(FE ha In).2 ⟨u,rfl,zC fun CC=>(by rw [ha.hi CC] at h;cases h),h⟩,h2⟩
  ·rw [hy,zW];constructor
   ·rintro ⟨h0,s,h,h3⟩;obtain ⟨t',e2,_,h4⟩:=(FE ha In).1 h;have:s=t':=by omega
    subst this;exact ⟨h0,s,h4,h3⟩
   ·rintro ⟨h0,s,h,h3⟩;exact ⟨h0,s,(FE ha In).2 ⟨s,rfl,zC fun CC=>(by rw [ha.hi CC] at h;cases h),h⟩,h3⟩
 ·rintro pre e _ he ⟨x,y,rfl,hx,hy⟩;obtain ⟨s,rfl,hs,_⟩:=(FE ha In).1 he;obtain ⟨x',y',e1,dV,q9⟩:=qW s x y hs;refine ⟨_,h2 s l x y x' y' hs e1,x',y',rfl,fun u=>?_,fun u=>?_⟩
  ·rw [dV,hx];constructor
   ·rintro (⟨h,h2⟩ | ⟨rfl,h2⟩)
    ·exact ⟨yg _ h,h2⟩
    ·exact ⟨yy _ (.head _),h2⟩
   ·rintro ⟨h,h2⟩;rcases yx.1 h with h | h
    ·exact .inl ⟨h,h2⟩
    ·have:u=s:=by have:=yZ.1 h;omega
     subst this;exact .inr ⟨rfl,h2⟩
  ·rw [q9,hy];constructor
   ·rintro (⟨h,s',h2,h3⟩ | ⟨h,h2⟩)
    ·exact ⟨h,s',yg _ h2,h3⟩
    ·exact ⟨h,s,yy _ (.head _),h2⟩
   ·rintro ⟨h,s',h2,h3⟩;rcases yx.1 h2 with h2 | h2
    ·exact .inl ⟨h,s',h2,h3⟩
    ·have:s'=s:=by have:=yZ.1 h2;omega
     subst this;exact .inr ⟨h,h3⟩
end
theorem Um {s:Nat} (hs:s<64) (x:Int):(bits .and .i64 (IntKind.i64.wrap (1*2 ^ s)) x==0)= !tb x s:=by
 rw [za,yo,Rm (HP _ _ _)];constructor
 ·intro h;have:=h s hs;rw [KH,JH hs,yG rfl,y8] at this;rw [this];rfl
 ·intro h i hi;rw [KH,JH hs]
  by_cases e:s=i
  ·subst e;rw [yG rfl,y8];cases hx:tb x s
   ·rfl
   ·rw [hx] at h;cases h
  ·rw [yA e,zm]
def Gi (q:AA) (c:AB) (s t:Nat):Bool:=decide ((if 0-(q.values.getD s 0-q.values.getD t 0)>q.values.getD s 0-q.values.getD t 0 then 0-(q.values.getD s 0-q.values.getD t 0) else q.values.getD s 0-q.values.getD t 0)>=c.lo)
def GI (c:AB) (s t:Nat):Bool:=(!tb c.set s|| !tb c.other t)&&(!tb c.set t|| !tb c.other s)
def Fq (ok:Nat -> Nat -> Bool) (c:AB) (pos:List Int) (a s:Nat):Prop:=
 if a=0 then ¬ ∃ t,tb (A0 c pos 1) t=true/\ ok s t=true else ¬ ∃ t,tb (A0 c pos 0) t=true/\ ok t s=true
section
variable {c:AB} {k:Nat} {pos lost:List Int} {q:AA}
theorem xS {n ln:Nat} (V:Dt q k) {s t:Nat} (hs:s<k) (ht:t<k):Ut n s t c q pos ln lost=some (Gi q c s t,lost):=by
 have h1:=V.val s hs;have h2:=V.val t ht;have h3:=V.len;unfold Ut iB;simp only [yB];rw [xw ⟨by omega,by omega,Ax.2 ⟨by omega,by omega⟩,Ax.2 ⟨by omega,by omega⟩⟩];rfl
theorem oI {n ln:Nat} {s t:Nat} (hs:s<64) (ht:t<64):S7 n s t c q pos ln lost=some (GI c s t,lost):=by
 have g: ∀ s:Nat,s<64 -> (0:Int)<=(s:Int)/\ (s:Int)<=((IntKind.i64.bits:Nat):Int):=fun s hs=>⟨by omega,by show (s:Int)<=64;omega⟩
 unfold S7 b9;simp only [yB];rw [xw ⟨g s hs,g t ht⟩,Um hs,Um hs,Um ht,Um ht];unfold GI;cases tb c.set s <;> cases tb c.set t <;> cases tb c.other s <;> cases tb c.other t <;> rfl
theorem be {n:Nat} (W:B0 c k pos) (h2:c.cells.length=2) (hl:lost.length=pos.length) (ok:Nat -> Nat -> Bool) {x y:Int}
 (hx: ∀ u,tb x u=true↔tb (A0 c pos 0) u=true/\ ∃ t,tb (A0 c pos 1) t=true/\ ok u t=true) (hy: ∀ u,tb y u=true↔tb (A0 c pos 1) u=true/\ ∃ s,tb (A0 c pos 0) s=true/\ ok s u=true):
 ∃ l1 l,C5 n (c.cells.getD 0 0) (bits .xor .i64 (-1) x) c q pos pos.length lost=some l1/\ C5 n (c.cells.getD 1 0) (bits .xor .i64 (-1) y) c q pos pos.length l1=some l/\ Bw c pos lost c.cells.length (Fq ok c pos) l:=by
 have c0:=W.cells 0 (by omega);have c1:=W.cells 1 (by omega);obtain ⟨l1,e1,n1,f1⟩:=Jg (lost:=lost) (n:=n) (ss:=bits .xor .i64 (-1) x) (c:=c) (q:=q) c0.1 c0.2 hl;obtain ⟨l,e2,n2,f2⟩:=Jg (lost:=l1) (n:=n) (ss:=bits .xor .i64 (-1) y) (c:=c) (q:=q) c1.1 c1.2 n1;refine ⟨l1,l,e1,e2,?_⟩;have lt: ∀ {a:Nat} {s:Nat},a<c.cells.length -> tb (A0 c pos a) s=true -> s<64:=fun {a s} ha h=>zC fun CC=>by rw [NA CC] at h;cases h
 rw [h2];refine Bw.step (i:=1) (l:=l1) (Bw.step (i:=0) (l:=lost) (Bw.zero hl) n1 fun j s=>?_) n2 fun j s=>?_
 ·rw [f1,yX,yD,yD,yP];constructor
  ·rintro (h | ⟨rfl,h3,h4⟩)
   ·exact .inl h
   ·refine .inr ⟨rfl,h3,?_⟩;rw [Rl _ (lt (a:=0) (by omega) h3)] at h4;unfold Fq;rw [xw rfl];intro h5;rw [(hx s).2 ⟨h3,h5⟩] at h4;cases h4
  ·rintro (h | ⟨rfl,h3,h4⟩)
   ·exact .inl h
   ·refine .inr ⟨rfl,h3,?_⟩;rw [Rl _ (lt (a:=0) (by omega) h3)];unfold Fq at h4;rw [xw rfl] at h4;cases hb:tb x s
    ·rfl
    ·exact absurd ((hx s).1 hb).2 h4
 ·rw [f2,yX,yD,yD,yP];constructor
  ·rintro (h | ⟨rfl,h3,h4⟩)
   ·exact .inl h
   ·refine .inr ⟨rfl,h3,?_⟩;rw [Rl _ (lt (a:=1) (by omega) h3)] at h4;unfold Fq;rw [yK (by decide)];intro h5;rw [(hy s).2 ⟨h3,h5⟩] at h4;cases h4
  ·rintro (h | ⟨rfl,h3,h4⟩)
   ·exact .inl h
   ·refine .inr ⟨rfl,h3,?_⟩;rw [Rl _ (lt (a:=1) (by omega) h3)];unfold Fq at h4;rw [yK (by decide)] at h4;cases hb:tb y s
    ·rfl
    ·exact absurd ((hy s).1 hb).2 h4
theorem xT {n:Nat} (W:B0 c k pos) (V:Dt q k) (h2:c.cells.length=2) (hl:lost.length=pos.length):
 ∃ l,My n c q pos pos.length lost=some (true,l)/\ Bw c pos lost c.cells.length (Fq (Gi q c) c pos) l:=by
 have c0:=W.cells 0 (by omega);have c1:=W.cells 1 (by omega);have s0:=W.at (a:=0) (by omega);have s1:=W.at (a:=1) (by omega);have hk:=W.k;have g: ∀ s:Nat,s<k -> (0:Int)<=(s:Int)/\ (s:Int)<=((IntKind.i64.bits:Nat):Int):=fun s hs=>⟨by omega,by show (s:Int)<=64;omega⟩
 obtain ⟨x,y,e,hx,hy⟩:=bc JY.s0 JZ.s0 (Ss n c q pos pos.length) (Su n c q pos pos.length) (Gi q c) s0 s1 hk
  (fun s t l x y hs ht=>by
   unfold Ss bs Sr
   dsimp only
   rw [xS V hs ht,yF];cases Gi q c s t
   ·rfl
   ·simp only [yC,yB];rw [xw ⟨g s hs,g t ht⟩])
  (fun s l x y x' y' hs he=>by
   unfold Su br Sq
   dsimp only
   rw [xw (show 0<=pos.getD (c.cells.getD 1 0).toNat 0/\ pos.getD (c.cells.getD 1 0).toNat 0<9223372036854775808 from s1.i63 hk)];refine (congrArg (fun z=>Option.bind z _) he).trans ?_;rfl) lost
 obtain ⟨l1,l,e1,e2,hL⟩:=be (n:=n) (q:=q) W h2 hl (Gi q c) hx hy;refine ⟨l,?_,hL⟩;unfold My Yx WD bq;rw [xw ⟨by omega,by omega,c0,c1,s0.i63 hk⟩];refine (congrArg (fun z=>Option.bind (Option.bind z _) _) e).trans ?_;rw [yF];simp only;rw [e1,yF,e2];rfl
theorem oJ {n:Nat} (W:B0 c k pos) (h2:c.cells.length=2) (hl:lost.length=pos.length):
 ∃ l,Ly n c q pos pos.length lost=some (true,l)/\ Bw c pos lost c.cells.length (Fq (GI c) c pos) l:=by
 have c0:=W.cells 0 (by omega);have c1:=W.cells 1 (by omega);have s0:=W.at (a:=0) (by omega);have s1:=W.at (a:=1) (by omega);have hk:=W.k;have g: ∀ s:Nat,s<k -> (0:Int)<=(s:Int)/\ (s:Int)<=((IntKind.i64.bits:Nat):Int):=fun s hs=>⟨by omega,by show (s:Int)<=64;omega⟩
 obtain ⟨x,y,e,hx,hy⟩:=bc JW.s0 JX.s0 (Sn n c q pos pos.length) (So n c q pos pos.length) (GI c) s0 s1 hk
  (fun s t l x y hs ht=>by
   unfold Sn bk Sl
   dsimp only
   rw [oI (by omega) (by omega),yF];cases GI c s t
   ·rfl
   ·simp only [yC,yB];rw [xw ⟨g s hs,g t ht⟩])
  (fun s l x y x' y' hs he=>by
   unfold So bg Sk
   dsimp only
   rw [xw (show 0<=pos.getD (c.cells.getD 1 0).toNat 0/\ pos.getD (c.cells.getD 1 0).toNat 0<9223372036854775808 from s1.i63 hk)];refine (congrArg (fun z=>Option.bind z _) he).trans ?_;rfl) lost
 obtain ⟨l1,l,e1,e2,hL⟩:=be (n:=n) (q:=q) W h2 hl (GI c) hx hy;refine ⟨l,?_,hL⟩;unfold Ly WP WC bf;rw [xw ⟨by omega,by omega,c0,c1,s0.i63 hk⟩];refine (congrArg (fun z=>Option.bind (Option.bind z _) _) e).trans ?_;rw [yF];simp only;rw [e1,yF,e2];rfl
end
end Go.Proofs.YtgkhhfnhacibcaaGreatDoor
namespace Go.Proofs.YtgkhhfnhacibcaaGreatDoor
open Go.RowKit
set_option maxRecDepth 100000
set_option maxHeartbeats 40000000
def Zx:ST:=.rd 0 (.rd 1 (.rd 2 (.rd 3 (.rd 4 (.rd 6 (.rd 7 (.rd 8 (.rd 9 (.rd 10 (.ef 5 (.rd 12 (.ef 11 (.rd 13 (.fin [0,1] [0,2,3])) (.no))) (.ef 11 (.ef 5 (.rd 12 (.rd 13 (.fin [1,0] [0,2,3]))) (.no)) (.no))))))))))))
theorem kw:CI (BC Tryz.f108 1) [5,11] Zx:=by unfold CI;kernel_rfl
def Zw:ST:=.rd 0 (.rd 1 (.rd 2 (.rd 3 (.rd 4 (.rd 5 (.rd 6 (.rd 7 (.rd 8 (.rd 9 (.rd 10 (.rd 11 (.rd 12 (.rd 13 (.rd 14 (.rd 15 (.rd 16 (.rd 17 (.rd 18 (.rd 19 (.rd 20 (.rd 21 (.rd 22 (.rd 23 (.rd 24 (.rd 25 (.rd 26 (.rd 27 (.rd 28 (.rd 29 (.rd 30 (.rd 31 (.rd 32 (.ef 33 (.rd 34 (.ef 35 (.fin [] [0,2,3,30,31,32]) (.no))) (.no))))))))))))))))))))))))))))))))))
theorem kv:CI (BC Tryz.f108 5) [33] Zw:=by unfold CI;kernel_rfl
def IT:Bb:=fun i=>match i with
 | 1=>.tre [5,11] Zx
 | 5=>.tre [33] Zw
 | _=>.no
def VH (pos:List Int) (c:AB) (q:AA) (ln:Nat) (lost:List Int):St:=⟨(AM 120 [(0,.ref 0 0),(2,.msl 2 1 0 pos.length),(3,.msl 3 1 0 pos.length)]),([some (.cells (AF c++AD q++[.ints pos,.msl 1 1 0 ln])),some (.ints lost),some (.bools (List.replicate pos.length false)),some (.bools (List.replicate pos.length false))]:DH)⟩
def Zc (pos:List Int) (c:AB) (Cq:Int) (q:AA) (ln:Nat) (lost:List Int) (o2 o3:List Bool):St:=⟨(AM 120 [(0,.ref 0 0),(2,.msl 2 1 0 pos.length),(3,.msl 3 1 0 pos.length),(30,.ints c.cells),(31,.i (c.cells.length:Int)),(32,.i Cq)]),([some (.cells (AF c++AD q++[.ints pos,.msl 1 1 0 ln])),some (.ints lost),some (.bools (o2.set (0+((c.cells.getD ((Cq).toNat) 0).toNat)) ((bits .and .i64 (pos.getD ((c.cells.getD ((Cq).toNat) 0).toNat) 0) c.set) != 0))),some (.bools (o3.set (0+((c.cells.getD ((Cq).toNat) 0).toNat)) ((bits .andNot .i64 (pos.getD ((c.cells.getD ((Cq).toNat) 0).toNat) 0) c.set)==0)))]:DH)⟩
def dw (c:AB) (q:AA) (pos:List Int) (ln:Nat) (lost:List Int) (o2 o3:List Bool):DH:=[some (.cells (AF c++AD q++[.ints pos,.msl 1 1 0 ln])),some (.ints lost),some (.bools o2),some (.bools o3)]
def du (c:AB) (q:AA) (pos:List Int) (ln:Nat) (lost:List Int) (o3:List Bool) (y2:(List Bool)):DH:=[some (.cells (AF c++AD q++[.ints pos,.msl 1 1 0 ln])),some (.ints lost),none,some (.bools o3),some (.bools y2)]
inductive NY where
 | l1 (Cq:Int) (o2 o3:List Bool)
 | l2 (Ek:List Bool) (x8:Nat) (G4:List Int) (DI Fi:Int) (o2 o3:List Bool)
 | l3 (Ek:List Bool) (x8:Nat) (JE FP:Int) (o1:List Int) (o2 o3:List Bool)
def Ps (n:Nat) (self:NY -> Option ((List Bool)×(List Bool)×Bool×(List Int))) (c:AB) (q:AA) (pos:List Int) (ln:Nat) (lost:List Int) (Cq:Int) (o2 o3:List Bool):Option ((List Bool)×(List Bool)×Bool×(List Int)):=
 bif (decide (Cq<(c.cells.length:Int))) then
  if (0<=Cq/\ Cq<(c.cells.length:Int))/\ (0<=(c.cells.getD ((Cq).toNat) 0)/\ (c.cells.getD ((Cq).toNat) 0)<(pos.length:Int))/\ 0+((c.cells.getD ((Cq).toNat) 0).toNat)<o2.length/\ 0+((c.cells.getD ((Cq).toNat) 0).toNat)<o3.length/\ AH (Cq+1) then
   self (.l1 (Cq+1) (o2.set (0+((c.cells.getD ((Cq).toNat) 0).toNat)) ((bits .and .i64 (pos.getD ((c.cells.getD ((Cq).toNat) 0).toNat) 0) c.set) != 0)) (o3.set (0+((c.cells.getD ((Cq).toNat) 0).toNat)) ((bits .andNot .i64 (pos.getD ((c.cells.getD ((Cq).toNat) 0).toNat) 0) c.set)==0)))
  else none
 else
  if pos.length=o3.length then
   (Tc n o3 true).bind fun y1=>
    bif (decide (y1<0)) then
     if pos.length=o2.length then
      some (o2,o3,false,lost)
     else none
    else
     if pos.length=o2.length then
      (Mp n o2).bind fun y2=>
       (OQ n q.nbrs o2 y1).bind fun y3=>
        self (.l2 o2 y2.length y3.1 (y3.1.length:Int) 0 o3 y2)
     else none
  else none
def Pr (n:Nat) (self:NY -> Option ((List Bool)×(List Bool)×Bool×(List Int))) (c:AB) (q:AA) (pos:List Int) (ln:Nat) (lost:List Int) (Ek:List Bool) (x8:Nat) (G4:List Int) (DI Fi:Int) (o2 o3:List Bool):Option ((List Bool)×(List Bool)×Bool×(List Int)):=
 bif (decide (Fi<DI)) then
  if (0<=Fi/\ Fi<(G4.length:Int))/\ (0<=(G4.getD ((Fi).toNat) 0)/\ (G4.getD ((Fi).toNat) 0)<(x8:Int))/\ 0+((G4.getD ((Fi).toNat) 0).toNat)<o3.length/\ AH (Fi+1) then
   self (.l2 Ek x8 G4 DI (Fi+1) o2 (o3.set (0+((G4.getD ((Fi).toNat) 0).toNat)) false))
  else none
 else
  self (.l3 Ek x8 (x8:Int) 0 lost o2 o3)
def Pq (n:Nat) (self:NY -> Option ((List Bool)×(List Bool)×Bool×(List Int))) (c:AB) (q:AA) (pos:List Int) (ln:Nat) (lost:List Int) (Ek:List Bool) (x8:Nat) (JE FP:Int) (o1:List Int) (o2 o3:List Bool):Option ((List Bool)×(List Bool)×Bool×(List Int)):=
 bif (decide (FP<JE)) then
  if (0<=FP/\ FP<(x8:Int))/\ 0+((FP).toNat)<o3.length then
   bif (o3.getD (0+((FP).toNat)) false) then
    (C5 n FP c.set c q pos ln o1).bind fun y1=>
     if AH (FP+1) then
      self (.l3 Ek x8 JE (FP+1) y1 o2 o3)
     else none
   else
    if AH (FP+1) then
     self (.l3 Ek x8 JE (FP+1) o1 o2 o3)
    else none
  else none
 else
  if pos.length=o2.length then
   some (Ek,o2,true,o1)
  else none
def cD (n:Nat) (self:NY -> Option ((List Bool)×(List Bool)×Bool×(List Int))) (c:AB) (q:AA) (pos:List Int) (ln:Nat) (lost:List Int):Option ((List Bool)×(List Bool)×Bool×(List Int)):=
 if ((pos.length:Int):Int)=(pos.length:Int)/\ 0<=(pos.length:Int)/\ ((pos.length:Int):Int)<=1000000000000 then
  self (.l1 0 (List.replicate pos.length false) (List.replicate pos.length false))
 else none
def ED (c:AB) (q:AA) (pos:List Int) (ln:Nat) (lost:List Int):Nat -> NY -> Option ((List Bool)×(List Bool)×Bool×(List Int))
 | 0,_=>none
 | n+1,.l1 Cq o2 o3=>Ps n (ED c q pos ln lost n) c q pos ln lost Cq o2 o3
 | n+1,.l2 Ek x8 G4 DI Fi o2 o3=>Pr n (ED c q pos ln lost n) c q pos ln lost Ek x8 G4 DI Fi o2 o3
 | n+1,.l3 Ek x8 JE FP o1 o2 o3=>Pq n (ED c q pos ln lost n) c q pos ln lost Ek x8 JE FP o1 o2 o3
def Lz (n:Nat) (c:AB) (q:AA) (pos:List Int) (ln:Nat) (lost:List Int):Option ((List Bool)×(List Bool)×Bool×(List Int)):=cD n (ED c q pos ln lost n) c q pos ln lost
def oO (n B:Nat) (N:Yd 2) (c:AB) (q:AA) (pos:List Int) (ln:Nat) (lost:List Int) (r:(List Bool)×(List Bool)×Bool×(List Int)):NY -> Prop
 | .l1 Cq o2 o3=>∀ m0:Nat,n<=m0 -> TW B N (FQ Tryz.f108 2 (.tup 3 (L1 [.bools r.1,.bools r.2.1,.bool r.2.2.1])) [some (.cells (AF c++AD q++[.ints pos,.msl 1 1 0 ln])),some (.ints r.2.2.2)]) (A2 m0 (BA (AX Tryz.f108) 0 [])) ⟨AM 120 [(0,.ref 0 0),(2,.msl 2 1 0 pos.length),(3,.msl 3 1 0 pos.length),(30,.ints c.cells),(31,.i (c.cells.length:Int)),(32,.i Cq)],[some (.cells (AF c++AD q++[.ints pos,.msl 1 1 0 ln])),some (.ints lost),some (.bools o2),some (.bools o3)]⟩
 | .l2 Ek x8 G4 DI Fi o2 o3=>∀ m0:Nat,n<=m0 -> TW B N (FQ Tryz.f108 2 (.tup 3 (L1 [.bools r.1,.bools r.2.1,.bool r.2.2.1])) [some (.cells (AF c++AD q++[.ints pos,.msl 1 1 0 ln])),some (.ints r.2.2.2)]) (A2 m0 (BA (AX Tryz.f108) 2 [])) ⟨AM 120 [(0,.ref 0 0),(2,.bools Ek),(3,.msl 2 1 0 pos.length),(8,.msl 3 1 0 x8),(90,.ints G4),(91,.i DI),(92,.i Fi)],[some (.cells (AF c++AD q++[.ints pos,.msl 1 1 0 ln])),some (.ints lost),some (.bools o2),some (.bools o3)]⟩
 | .l3 Ek x8 JE FP o1 o2 o3=>∀ m0:Nat,n<=m0 -> TW B N (FQ Tryz.f108 2 (.tup 3 (L1 [.bools r.1,.bools r.2.1,.bool r.2.2.1])) [some (.cells (AF c++AD q++[.ints pos,.msl 1 1 0 ln])),some (.ints r.2.2.2)]) (A2 m0 (BA (AX Tryz.f108) 4 [])) ⟨AM 120 [(0,.ref 0 0),(2,.bools Ek),(3,.msl 2 1 0 pos.length),(8,.msl 3 1 0 x8),(101,.i JE),(102,.i FP)],[some (.cells (AF c++AD q++[.ints pos,.msl 1 1 0 ln])),some (.ints o1),some (.bools o2),some (.bools o3)]⟩
theorem oP (B:Nat) (N:Yd 2) (c:AB) (q:AA) (pos:List Int) (ln:Nat) (lost:List Int):Al (ED c q pos ln lost) (oO · B N c q pos ln lost):=ia (fun _=>rfl) fun n AG pt r h=>by
 cases pt
 case l1 Cq o2 o3=>
  intro m0 AC;refine rd AC fun m0 AC=>?_
  revert r;apply gO
  exact bi 33 (gc (gi (jg kv (gc (gn fun g1=>jg g1 (jg g1 (jg g1 (gc (gi (jg g1 (gc (gi (jg (Eq.refl (Zc pos c Cq q ln lost o2 o3)) (gw 70 (lG (tg:=[([(33,2)],(Zc pos c Cq q ln lost o2 o3))]) IT [0,1,2,3] (AG _ _ · m0 AC)))))))))))))))) (gn fun g0=>cn fun y1 A7=>jc (sb [.msl 3 1 0 pos.length,.bool true] (ql A7) (dw c q pos ln lost o2 o3) ⟨Ab.bools rfl g0,Ab.plain (by kernel_rfl),trivial⟩) (bi 74 (gn fun g1=>lF fun p=>ez IT [2,3,4] [0,1,2,3] p [2,3] (H0.g g1 |>.g g0)) (gn fun g1=>cn fun y2 Bu=>jc (ES.snapNew (ds:=[.msl 2 1 0 pos.length]) (f6 Bu) (dw c q pos ln lost o2 o3) ⟨Ab.bools rfl g1,trivial⟩ rfl) (fun p r h=>by
   refine gz (AI 11 IT) [0,1,2,3,4] p [2] (H0.g g1) (CP (AX Tryz.f108) 11 []) (AM 120 [(0,.ref 0 0),(2,.bools o2),(3,.msl 3 1 0 pos.length),(7,.i y1),(8,.msl 4 1 0 y2.length)]) (du c q pos ln lost o3 y2) ?_;revert r;apply gO;exact cf wa (du c q pos ln lost o3 y2) fun _=>lN IT [0,1,3,4] (AG _ _ · n Nat.le.refl)))))
 case l2 Ek x8 G4 DI Fi o2 o3=>
  intro m0 AC;refine rd AC fun m0 AC=>?_
  revert r;apply gO;exact bi 93 (gc (gi (gc (gi (gc (gi (gw 99 (lG IT [0,1,2,3] (AG _ _ · m0 AC))))))))) (lN IT [0,1,2,3] (AG _ _ · n Nat.le.refl))
 case l3 Ek x8 JE FP o1 o2 o3=>
  intro m0 AC;refine rd AC fun m0 AC=>?_
  revert r;apply gO;exact bi 103 (gc (gi (gi (bi 108 (ce FZ [0,1] [some (.cells (AF c++AD q++[.ints pos,.msl 1 1 0 ln])),some (.ints o1),some (.bools o2),some (.bools o3)] fun _=>gw 117 (lG IT [0,1,2,3] (AG _ _ · m0 AC))) (gw 117 (lG IT [0,1,2,3] (AG _ _ · m0 AC))))))) (gn fun g0=>lF fun p=>ez IT [2,3,4] [0,1,2] p [2] (H0.g g0))
theorem cC {n:Nat} {c:AB} {q:AA} {pos:List Int} {ln:Nat} {lost:List Int} {r:(List Bool)×(List Bool)×Bool×(List Int)} (h:Lz n c q pos ln lost=some r):EQ 108 [.ref 0 0] [some (.cells (AF c++AD q++[.ints pos,.msl 1 1 0 ln])),some (.ints lost)] (.tup 3 (L1 [.bools r.1,.bools r.2.1,.bool r.2.2.1])) [some (.cells (AF c++AD q++[.ints pos,.msl 1 1 0 ln])),some (.ints r.2.2.2)] false:=by
 refine ot Tryz.func108 fun B N=>?_
 revert r;apply gO;exact jg kw (gn fun g0=>jg g0 (jg g0 (jg (Eq.refl (VH pos c q ln lost)) (jg g0 (jg g0 (jg (Eq.refl (VH pos c q ln lost)) (lN (tg:=[([],(VH pos c q ln lost))]) IT [0,1,2,3] ((oP B N c q pos ln lost n) _ _ · n Nat.le.refl))))))))
inductive Ub where
 | l1 (x3 x4:List Bool) (x5:Bool) (AQ A5:Int) (o1:List Int)
def RB (n:Nat) (self:Ub -> Option (Bool×(List Int))) (c:AB) (q:AA) (pos:List Int) (ln:Nat) (lost:List Int) (x3 x4:List Bool) (x5:Bool) (AQ A5:Int) (o1:List Int):Option (Bool×(List Int)):=
 bif (decide (A5<AQ)) then
  bif (!x5) then
   if AH (A5+1) then
    self (.l1 x3 x4 x5 AQ (A5+1) o1)
   else none
  else
   if 0<=A5/\ A5<(x3.length:Int) then
    bif (!(x3.getD ((A5).toNat) false)) then
     if AH (A5+1) then
      self (.l1 x3 x4 x5 AQ (A5+1) o1)
     else none
    else
     if 0<=A5/\ A5<(x4.length:Int) then
      bif (x4.getD ((A5).toNat) false) then
       if AH (A5+1) then
        self (.l1 x3 x4 x5 AQ (A5+1) o1)
       else none
      else
       (LZ n q.nbrs x3 x4 A5).bind fun y1=>
        bif y1.1 then
         (Ft n A5 c q pos ln o1).bind fun y2=>
          if AH (A5+1) then
           self (.l1 x3 x4 x5 AQ (A5+1) y2)
          else none
        else
         if AH (A5+1) then
          self (.l1 x3 x4 x5 AQ (A5+1) o1)
         else none
     else none
   else none
 else
  some (true,o1)
def wS (n:Nat) (self:Ub -> Option (Bool×(List Int))) (c:AB) (q:AA) (pos:List Int) (ln:Nat) (lost:List Int):Option (Bool×(List Int)):=
 (Lz n c q pos ln lost).bind fun y1=>
  self (.l1 y1.1 y1.2.1 y1.2.2.1 (y1.1.length:Int) 0 y1.2.2.2)
def LH (c:AB) (q:AA) (pos:List Int) (ln:Nat) (lost:List Int):Nat -> Ub -> Option (Bool×(List Int))
 | 0,_=>none
 | n+1,.l1 x3 x4 x5 AQ A5 o1=>RB n (LH c q pos ln lost n) c q pos ln lost x3 x4 x5 AQ A5 o1
def Uc (n:Nat) (c:AB) (q:AA) (pos:List Int) (ln:Nat) (lost:List Int):Option (Bool×(List Int)):=wS n (LH c q pos ln lost n) c q pos ln lost
def wT (n B:Nat) (N:Yd 2) (c:AB) (q:AA) (pos:List Int) (ln:Nat) (lost:List Int) (r:Bool×(List Int)):Ub -> Prop
 | .l1 x3 x4 x5 AQ A5 o1=>∀ m0:Nat,n<=m0 -> TW B N (FQ Tryz.f75 2 (.bool r.1) [some (.cells (AF c++AD q++[.ints pos,.msl 1 1 0 ln])),some (.ints r.2)]) (A2 m0 (BA (AX Tryz.f75) 0 [])) ⟨AM 52 [(0,.ref 0 0),(3,.bools x3),(4,.bools x4),(5,.bool x5),(16,.i AQ),(17,.i A5)],[some (.cells (AF c++AD q++[.ints pos,.msl 1 1 0 ln])),some (.ints o1)]⟩
theorem wU (B:Nat) (N:Yd 2) (c:AB) (q:AA) (pos:List Int) (ln:Nat) (lost:List Int):Al (LH c q pos ln lost) (wT · B N c q pos ln lost):=ia (fun _=>rfl) fun n AG pt r h=>by
 cases pt
 case l1 x3 x4 x5 AQ A5 o1=>
  intro m0 AC;refine rd AC fun m0 AC=>?_
  revert r;apply gO;exact bi 18 (bi 21 (gw 51 (lG AE [0,1] (AG _ _ · m0 AC))) (gi (bi 27 (gw 51 (lG AE [0,1] (AG _ _ · m0 AC))) (gi (bi 33 (gw 51 (lG AE [0,1] (AG _ _ · m0 AC))) (cf jU [some (.cells (AF c++AD q++[.ints pos,.msl 1 1 0 ln])),some (.ints o1)] fun _=>bi 45 (ce Kh [0,1] [some (.cells (AF c++AD q++[.ints pos,.msl 1 1 0 ln])),some (.ints o1)] fun _=>gw 51 (lG AE [0,1] (AG _ _ · m0 AC))) (gw 51 (lG AE [0,1] (AG _ _ · m0 AC))))))))) (lE AE [2] [0,1])
theorem wR {n:Nat} {c:AB} {q:AA} {pos:List Int} {ln:Nat} {lost:List Int} {r:Bool×(List Int)} (h:Uc n c q pos ln lost=some r):EQ 75 [.ref 0 0] [some (.cells (AF c++AD q++[.ints pos,.msl 1 1 0 ln])),some (.ints lost)] (.bool r.1) [some (.cells (AF c++AD q++[.ints pos,.msl 1 1 0 ln])),some (.ints r.2)] false:=by
 refine ot Tryz.func75 fun B N=>?_
 revert r;apply gO;exact ce cC [0,1] [some (.cells (AF c++AD q++[.ints pos,.msl 1 1 0 ln])),some (.ints lost)] fun _=>lN AE [0,1] ((wU B N c q pos ln lost n) _ _ · n Nat.le.refl)
inductive Km where
 | l1 (x3 x4:List Bool) (x20 x21:Int) (o1:List Int)
 | l2 (x3 x4:List Bool) (x8 x20 x21:Int) (BH:List Int) (Bz BE:Int) (o1:List Int)
 | l3 (x3 x4:List Bool) (x7:Nat) (x8 x20 x21:Int) (BH:List Int) (Bz BE:Int) (o1 o2:List Int)
 | l4 (x3 x4:List Bool) (x7:Nat) (x8 x20 x21:Int) (GZ:Nat) (GY Ah:Int) (o1 o2:List Int)
def P8 (n:Nat) (self:Km -> Option (Bool×(List Int))) (c:AB) (q:AA) (pos:List Int) (ln:Nat) (lost:List Int) (x3 x4:List Bool) (x20 x21:Int) (o1:List Int):Option (Bool×(List Int)):=
 bif (decide (x21<x20)) then
  if 0<=x21/\ x21<(x4.length:Int) then
   bif (!(x4.getD ((x21).toNat) false)) then
    if AH (x21+1) then
     self (.l1 x3 x4 x20 (x21+1) o1)
    else none
   else
    if 0<=x21/\ x21<(q.nbrs.length:Int) then
     self (.l2 x3 x4 0 x20 x21 (q.nbrs.getD ((x21).toNat) []) (((q.nbrs.getD ((x21).toNat) []).length:Nat):Int) 0 o1)
    else none
  else none
 else
  some (true,o1)
def P7 (n:Nat) (self:Km -> Option (Bool×(List Int))) (c:AB) (q:AA) (pos:List Int) (ln:Nat) (lost:List Int) (x3 x4:List Bool) (x8 x20 x21:Int) (BH:List Int) (Bz BE:Int) (o1:List Int):Option (Bool×(List Int)):=
 bif (decide (BE<Bz)) then
  if (0<=BE/\ BE<(BH.length:Int))/\ (0<=(BH.getD ((BE).toNat) 0)/\ (BH.getD ((BE).toNat) 0)<(x3.length:Int)) then
   bif (x3.getD ((BH.getD ((BE).toNat) 0).toNat) false) then
    if ((0=0/\ 1=([BH.getD ((BE).toNat) 0]:List Int).length)/\ 0<([BH.getD ((BE).toNat) 0]:List Int).length/\ ([BH.getD ((BE).toNat) 0]:List Int).length<=As)/\ (0<=(BH.getD ((BE).toNat) 0)/\ (BH.getD ((BE).toNat) 0)<(x4.length:Int)) then
     bif (x4.getD ((BH.getD ((BE).toNat) 0).toNat) false) then
      if AH (x8+1)/\ AH (BE+1) then
       self (.l3 x3 x4 (([BH.getD ((BE).toNat) 0]:List Int).length) (x8+1) x20 x21 BH Bz (BE+1) o1 ([BH.getD ((BE).toNat) 0]:List Int))
      else none
     else
      if AH (BE+1) then
       self (.l3 x3 x4 (([BH.getD ((BE).toNat) 0]:List Int).length) x8 x20 x21 BH Bz (BE+1) o1 ([BH.getD ((BE).toNat) 0]:List Int))
      else none
    else none
   else
    if 0<=(BH.getD ((BE).toNat) 0)/\ (BH.getD ((BE).toNat) 0)<(x4.length:Int) then
     bif (x4.getD ((BH.getD ((BE).toNat) 0).toNat) false) then
      if AH (x8+1)/\ AH (BE+1) then
       self (.l2 x3 x4 (x8+1) x20 x21 BH Bz (BE+1) o1)
      else none
     else
      if AH (BE+1) then
       self (.l2 x3 x4 x8 x20 x21 BH Bz (BE+1) o1)
      else none
    else none
  else none
 else
  some (false,o1)
def L4 (n:Nat) (self:Km -> Option (Bool×(List Int))) (c:AB) (q:AA) (pos:List Int) (ln:Nat) (lost:List Int) (x3 x4:List Bool) (x7:Nat) (x8 x20 x21:Int) (BH:List Int) (Bz BE:Int) (o1 o2:List Int):Option (Bool×(List Int)):=
 bif (decide (BE<Bz)) then
  if (0<=BE/\ BE<(BH.length:Int))/\ (0<=(BH.getD ((BE).toNat) 0)/\ (BH.getD ((BE).toNat) 0)<(x3.length:Int)) then
   bif (x3.getD ((BH.getD ((BE).toNat) 0).toNat) false) then
    if ((0=0/\ 1=([BH.getD ((BE).toNat) 0]:List Int).length)/\ (0=0/\ x7=o2.length)/\ o2.length+([BH.getD ((BE).toNat) 0]:List Int).length<=As)/\ (0<=(BH.getD ((BE).toNat) 0)/\ (BH.getD ((BE).toNat) 0)<(x4.length:Int)) then
     bif (x4.getD ((BH.getD ((BE).toNat) 0).toNat) false) then
      if AH (x8+1)/\ AH (BE+1) then
       self (.l3 x3 x4 (o2.length+([BH.getD ((BE).toNat) 0]:List Int).length) (x8+1) x20 x21 BH Bz (BE+1) o1 (o2++([BH.getD ((BE).toNat) 0]:List Int)))
      else none
     else
      if AH (BE+1) then
       self (.l3 x3 x4 (o2.length+([BH.getD ((BE).toNat) 0]:List Int).length) x8 x20 x21 BH Bz (BE+1) o1 (o2++([BH.getD ((BE).toNat) 0]:List Int)))
      else none
    else none
   else
    if 0<=(BH.getD ((BE).toNat) 0)/\ (BH.getD ((BE).toNat) 0)<(x4.length:Int) then
     bif (x4.getD ((BH.getD ((BE).toNat) 0).toNat) false) then
      if AH (x8+1)/\ AH (BE+1) then
       self (.l3 x3 x4 x7 (x8+1) x20 x21 BH Bz (BE+1) o1 o2)
      else none
     else
      if AH (BE+1) then
       self (.l3 x3 x4 x7 x8 x20 x21 BH Bz (BE+1) o1 o2)
      else none
    else none
  else none
 else
  bif (decide ((x7:Int)<2)) then
   some (false,o1)
  else
   bif (decide (x8>2)) then
    some (false,o1)
   else
    self (.l4 x3 x4 x7 x8 x20 x21 x7 (x7:Int) 0 o1 o2)
def P6 (n:Nat) (self:Km -> Option (Bool×(List Int))) (c:AB) (q:AA) (pos:List Int) (ln:Nat) (lost:List Int) (x3 x4:List Bool) (x7:Nat) (x8 x20 x21:Int) (GZ:Nat) (GY Ah:Int) (o1 o2:List Int):Option (Bool×(List Int)):=
 bif (decide (Ah<GY)) then
  if (0<=Ah/\ Ah<(GZ:Int))/\ 0+((Ah).toNat)<o2.length then
   bif ((x7:Int)==2) then
    (Ft n (o2.getD (0+((Ah).toNat)) 0) c q pos ln o1).bind fun y1=>
     bif (x8==2) then
      if 0<=(o2.getD (0+((Ah).toNat)) 0)/\ (o2.getD (0+((Ah).toNat)) 0)<(x4.length:Int) then
       bif (!(x4.getD ((o2.getD (0+((Ah).toNat)) 0).toNat) false)) then
        (C5 n (o2.getD (0+((Ah).toNat)) 0) c.set c q pos ln y1).bind fun y2=>
         if AH (Ah+1) then
          self (.l4 x3 x4 x7 x8 x20 x21 GZ GY (Ah+1) y2 o2)
         else none
       else
        if AH (Ah+1) then
         self (.l4 x3 x4 x7 x8 x20 x21 GZ GY (Ah+1) y1 o2)
        else none
      else none
     else
      if AH (Ah+1) then
       self (.l4 x3 x4 x7 x8 x20 x21 GZ GY (Ah+1) y1 o2)
      else none
   else
    bif (x8==2) then
     if 0<=(o2.getD (0+((Ah).toNat)) 0)/\ (o2.getD (0+((Ah).toNat)) 0)<(x4.length:Int) then
      bif (!(x4.getD ((o2.getD (0+((Ah).toNat)) 0).toNat) false)) then
       (C5 n (o2.getD (0+((Ah).toNat)) 0) c.set c q pos ln o1).bind fun y1=>
        if AH (Ah+1) then
         self (.l4 x3 x4 x7 x8 x20 x21 GZ GY (Ah+1) y1 o2)
        else none
      else
       if AH (Ah+1) then
        self (.l4 x3 x4 x7 x8 x20 x21 GZ GY (Ah+1) o1 o2)
       else none
     else none
    else
     if AH (Ah+1) then
      self (.l4 x3 x4 x7 x8 x20 x21 GZ GY (Ah+1) o1 o2)
     else none
  else none
 else
  if AH (x21+1) then
   self (.l1 x3 x4 x20 (x21+1) o1)
  else none
def pQ (n:Nat) (self:Km -> Option (Bool×(List Int))) (c:AB) (q:AA) (pos:List Int) (ln:Nat) (lost:List Int):Option (Bool×(List Int)):=
 (Lz n c q pos ln lost).bind fun y1=>
  self (.l1 y1.1 y1.2.1 (y1.2.1.length:Int) 0 y1.2.2.2)
def CL (c:AB) (q:AA) (pos:List Int) (ln:Nat) (lost:List Int):Nat -> Km -> Option (Bool×(List Int))
 | 0,_=>none
 | n+1,.l1 x3 x4 x20 x21 o1=>P8 n (CL c q pos ln lost n) c q pos ln lost x3 x4 x20 x21 o1
 | n+1,.l2 x3 x4 x8 x20 x21 BH Bz BE o1=>P7 n (CL c q pos ln lost n) c q pos ln lost x3 x4 x8 x20 x21 BH Bz BE o1
 | n+1,.l3 x3 x4 x7 x8 x20 x21 BH Bz BE o1 o2=>L4 n (CL c q pos ln lost n) c q pos ln lost x3 x4 x7 x8 x20 x21 BH Bz BE o1 o2
 | n+1,.l4 x3 x4 x7 x8 x20 x21 GZ GY Ah o1 o2=>P6 n (CL c q pos ln lost n) c q pos ln lost x3 x4 x7 x8 x20 x21 GZ GY Ah o1 o2
def TE (n:Nat) (c:AB) (q:AA) (pos:List Int) (ln:Nat) (lost:List Int):Option (Bool×(List Int)):=pQ n (CL c q pos ln lost n) c q pos ln lost
def pR (n B:Nat) (N:Yd 2) (c:AB) (q:AA) (pos:List Int) (ln:Nat) (lost:List Int) (r:Bool×(List Int)):Km -> Prop
 | .l1 x3 x4 x20 x21 o1=>∀ m0:Nat,n<=m0 -> TW B N (FQ Tryz.f76 2 (.bool r.1) [some (.cells (AF c++AD q++[.ints pos,.msl 1 1 0 ln])),some (.ints r.2)]) (A2 m0 (BA (AX Tryz.f76) 0 [])) ⟨AM 95 [(0,.ref 0 0),(3,.bools x3),(4,.bools x4),(20,.i x20),(21,.i x21)],[some (.cells (AF c++AD q++[.ints pos,.msl 1 1 0 ln])),some (.ints o1)]⟩
 | .l2 x3 x4 x8 x20 x21 BH Bz BE o1=>∀ m0 m1:Nat,n<=m0 -> n<=m1 -> TW B N (FQ Tryz.f76 2 (.bool r.1) [some (.cells (AF c++AD q++[.ints pos,.msl 1 1 0 ln])),some (.ints r.2)]) (A2 m1 (BA (AX Tryz.f76) 2 [m0])) ⟨AM 95 [(0,.ref 0 0),(3,.bools x3),(4,.bools x4),(7,.nils),(8,.i x8),(20,.i x20),(21,.i x21),(36,.ints BH),(37,.i Bz),(38,.i BE)],[some (.cells (AF c++AD q++[.ints pos,.msl 1 1 0 ln])),some (.ints o1)]⟩
 | .l3 x3 x4 x7 x8 x20 x21 BH Bz BE o1 o2=>∀ m0 m1:Nat,n<=m0 -> n<=m1 -> TW B N (FQ Tryz.f76 2 (.bool r.1) [some (.cells (AF c++AD q++[.ints pos,.msl 1 1 0 ln])),some (.ints r.2)]) (A2 m1 (BA (AX Tryz.f76) 2 [m0])) ⟨AM 95 [(0,.ref 0 0),(3,.bools x3),(4,.bools x4),(7,.msl 2 1 0 x7),(8,.i x8),(20,.i x20),(21,.i x21),(36,.ints BH),(37,.i Bz),(38,.i BE)],[some (.cells (AF c++AD q++[.ints pos,.msl 1 1 0 ln])),some (.ints o1),some (.ints o2)]⟩
 | .l4 x3 x4 x7 x8 x20 x21 GZ GY Ah o1 o2=>∀ m0 m1:Nat,n<=m0 -> n<=m1 -> TW B N (FQ Tryz.f76 2 (.bool r.1) [some (.cells (AF c++AD q++[.ints pos,.msl 1 1 0 ln])),some (.ints r.2)]) (A2 m1 (BA (AX Tryz.f76) 4 [m0])) ⟨AM 95 [(0,.ref 0 0),(3,.bools x3),(4,.bools x4),(7,.msl 2 1 0 x7),(8,.i x8),(20,.i x20),(21,.i x21),(64,.msl 2 1 0 GZ),(65,.i GY),(66,.i Ah)],[some (.cells (AF c++AD q++[.ints pos,.msl 1 1 0 ln])),some (.ints o1),some (.ints o2)]⟩
theorem pS (B:Nat) (N:Yd 2) (c:AB) (q:AA) (pos:List Int) (ln:Nat) (lost:List Int):Al (CL c q pos ln lost) (pR · B N c q pos ln lost):=ia (fun _=>rfl) fun n AG pt r h=>by
 cases pt
 case l1 x3 x4 x20 x21 o1=>
  intro m0 AC;refine rd AC fun m0 AC=>?_
  revert r;apply gO;exact bi 22 (gi (bi 28 (gw 94 (lG AE [0,1] (AG _ _ · m0 AC))) (gi (lN AE [0,1] (AG _ _ · m0 n AC Nat.le.refl))))) (lE AE [2] [0,1])
 case l2 x3 x4 x8 x20 x21 BH Bz BE o1=>
  intro m0 m1 AC Ap;have AC:=zA AC;refine rd Ap fun m1 Ap=>?_
  revert r;apply gO;exact bi 39 (gc (gi (gi (bi 45 (gc (gi (gi (bi 53 (gc (gw 55 (gw 56 (lG AE [0,1,3] (AG _ _ · m0 m1 AC Ap))))) (gw 56 (lG AE [0,1,3] (AG _ _ · m0 m1 AC Ap))))))) (gi (bi 53 (gc (gw 55 (gw 56 (lG AE [0,1] (AG _ _ · m0 m1 AC Ap))))) (gw 56 (lG AE [0,1] (AG _ _ · m0 m1 AC Ap))))))))) (lE AE [2] [0,1])
 case l3 x3 x4 x7 x8 x20 x21 BH Bz BE o1 o2=>
  intro m0 m1 AC Ap;have AC:=zA AC;refine rd Ap fun m1 Ap=>?_
  revert r;apply gO;exact bi 39 (gc (gi (gi (bi 45 (gc (gi (gi (bi 53 (gc (gw 55 (gw 56 (lG AE [0,1,4] (AG _ _ · m0 m1 AC Ap))))) (gw 56 (lG AE [0,1,4] (AG _ _ · m0 m1 AC Ap))))))) (gi (bi 53 (gc (gw 55 (gw 56 (lG AE [0,1,2] (AG _ _ · m0 m1 AC Ap))))) (gw 56 (lG AE [0,1,2] (AG _ _ · m0 m1 AC Ap))))))))) (bi 59 (lE AE [2] [0,1]) (bi 62 (lE AE [2] [0,1]) (lN AE [0,1,2] (AG _ _ · m0 n AC Nat.le.refl))))
 case l4 x3 x4 x7 x8 x20 x21 GZ GY Ah o1 o2=>
  intro m0 m1 AC Ap;have AC:=zA AC;refine rd Ap fun m1 Ap=>?_
  revert r;apply gO;exact bi 67 (gc (gi (gi (bi 72 (ce Kh [0,1] [some (.cells (AF c++AD q++[.ints pos,.msl 1 1 0 ln])),some (.ints o1),some (.ints o2)] fun y1=>bi 77 (gi (bi 83 (ce FZ [0,1] [some (.cells (AF c++AD q++[.ints pos,.msl 1 1 0 ln])),some (.ints y1),some (.ints o2)] fun _=>gw 93 (lG AE [0,1,2] (AG _ _ · m0 m1 AC Ap))) (gw 93 (lG AE [0,1,2] (AG _ _ · m0 m1 AC Ap))))) (gw 93 (lG AE [0,1,2] (AG _ _ · m0 m1 AC Ap)))) (bi 77 (gi (bi 83 (ce FZ [0,1] [some (.cells (AF c++AD q++[.ints pos,.msl 1 1 0 ln])),some (.ints o1),some (.ints o2)] fun _=>gw 93 (lG AE [0,1,2] (AG _ _ · m0 m1 AC Ap))) (gw 93 (lG AE [0,1,2] (AG _ _ · m0 m1 AC Ap))))) (gw 93 (lG AE [0,1,2] (AG _ _ · m0 m1 AC Ap)))))))) (gw 94 (lG AE [0,1] (AG _ _ · m0 AC)))
theorem pP {n:Nat} {c:AB} {q:AA} {pos:List Int} {ln:Nat} {lost:List Int} {r:Bool×(List Int)} (h:TE n c q pos ln lost=some r):EQ 76 [.ref 0 0] [some (.cells (AF c++AD q++[.ints pos,.msl 1 1 0 ln])),some (.ints lost)] (.bool r.1) [some (.cells (AF c++AD q++[.ints pos,.msl 1 1 0 ln])),some (.ints r.2)] false:=by
 refine ot Tryz.func76 fun B N=>?_
 revert r;apply gO;exact ce cC [0,1] [some (.cells (AF c++AD q++[.ints pos,.msl 1 1 0 ln])),some (.ints lost)] fun _=>lN AE [0,1] ((pS B N c q pos ln lost n) _ _ · n Nat.le.refl)
end Go.Proofs.YtgkhhfnhacibcaaGreatDoor
namespace Go.Proofs.YtgkhhfnhacibcaaGreatDoor
open Go.RowKit
set_option maxRecDepth 100000
set_option maxHeartbeats 40000000
def Zz:ST:=.rd 0 (.rd 1 (.rd 2 (.rd 3 (.rd 4 (.rd 5 (.rd 6 (.rd 7 (.rd 8 (.rd 9 (.rd 10 (.rd 11 (.rd 12 (.rd 13 (.rd 14 (.rd 15 (.rd 16 (.rd 17 (.rd 18 (.rd 19 (.rd 20 (.rd 21 (.rd 22 (.rd 23 (.rd 24 (.rd 25 (.rd 26 (.rd 27 (.rd 28 (.ef 29 (.rd 30 (.fin [] [5,6])) (.no))))))))))))))))))))))))))))))
theorem k6:CI (BC Tryz.f103 2) [29] Zz:=by unfold CI;kernel_rfl
def Zy:ST:=.rd 0 (.rd 1 (.rd 2 (.rd 3 (.rd 4 (.rd 5 (.rd 6 (.rd 7 (.rd 8 (.rd 9 (.rd 10 (.rd 11 (.rd 12 (.rd 13 (.rd 14 (.rd 15 (.ef 16 (.rd 17 (.fin [] [5,6])) (.no)))))))))))))))))
theorem kz:CI (BC Tryz.f103 5) [16] Zy:=by unfold CI;kernel_rfl
def R7:Bb:=fun i=>match i with
 | 2=>.tre [29] Zz
 | 5=>.tre [16] Zy
 | _=>.no
def Zf (s_:Int×Int) (c:AB) (q:AA) (pos:List Int) (ln:Nat) (lost:List Int):St:=⟨(AM 59 [(5,.ref 4 0),(6,.bool (decide (s_.2<(c.runs.getD ((s_.1).toNat) 0))))]),([some (.cells [.ref 1 0]),some (.cells (AF c++AD q++[.ints pos,.msl 2 1 0 ln])),some (.ints lost),some (.cells [.i s_.1,.i s_.2]),some (.cells [.i s_.1,.i (s_.2+1)])]:DH)⟩
def Ze (c:AB) (q:AA) (pos:List Int) (ln:Nat) (lost:List Int) (s_:Int×Int):St:=⟨(AM 59 [(5,.ref 4 0),(6,.bool false)]),([some (.cells [.ref 1 0]),some (.cells (AF c++AD q++[.ints pos,.msl 2 1 0 ln])),some (.ints lost),some (.cells [.i s_.1,.i s_.2]),some (.cells [.i s_.1,.i (s_.2+1)])]:DH)⟩
def Zd (s_:Int×Int) (c:AB) (q:AA) (pos:List Int) (ln:Nat) (lost:List Int):St:=⟨(AM 59 [(5,.ref 4 0),(6,.bool (s_.2==(c.runs.getD ((s_.1).toNat) 0)))]),([some (.cells [.ref 1 0]),some (.cells (AF c++AD q++[.ints pos,.msl 2 1 0 ln])),some (.ints lost),some (.cells [.i s_.1,.i s_.2]),some (.cells [.i (s_.1+1),.i 0])]:DH)⟩
def cG (n:Nat) (s_:Int×Int) (AS:Bool) (c:AB) (q:AA) (pos:List Int) (ln:Nat) (lost:List Int):Option ((Int×Int)×Bool×(List Int)):=
 bif AS then
  if AH (s_.2+1) then
   bif (decide (s_.1<(c.runs.length:Int))) then
    if 0<=s_.1/\ s_.1<(c.runs.length:Int) then
     some ((s_.1,(s_.2+1)),(decide (s_.2<(c.runs.getD ((s_.1).toNat) 0))),lost)
    else none
   else
    some ((s_.1,(s_.2+1)),false,lost)
  else none
 else
  bif (s_.2==0) then
   some ((s_.1,s_.2),true,lost)
  else
   if AH (s_.1+1)/\ (0<=s_.1/\ s_.1<(c.runs.length:Int)) then
    some (((s_.1+1),0),(s_.2==(c.runs.getD ((s_.1).toNat) 0)),lost)
   else none
def Pv (n:Nat) (s_:Int×Int) (AS:Bool) (c:AB) (q:AA) (pos:List Int) (ln:Nat) (lost:List Int):Option ((Int×Int)×Bool×(List Int)):=cG n s_ AS c q pos ln lost
theorem Ki {n:Nat} {s_:Int×Int} {AS:Bool} {c:AB} {q:AA} {pos:List Int} {ln:Nat} {lost:List Int} {r:(Int×Int)×Bool×(List Int)} (h:Pv n s_ AS c q pos ln lost=some r):EQ 103 [.agg 2 (L1 [.i s_.1,.i s_.2]),.bool AS,.ref 0 0] [some (.cells [.ref 1 0]),some (.cells (AF c++AD q++[.ints pos,.msl 2 1 0 ln])),some (.ints lost)] (.tup 2 (L1 [.agg 2 (L1 [.i r.1.1,.i r.1.2]),.bool r.2.1])) [some (.cells [.ref 1 0]),some (.cells (AF c++AD q++[.ints pos,.msl 2 1 0 ln])),some (.ints r.2.2)] false:=by
 refine ot Tryz.func103 fun B N=>?_
 revert r;apply gO;exact bi 8 (jg k6 (gw 13 (bi 23 (gi (jt (jg (Eq.refl (Zf s_ c q pos ln lost)) (lE (tg:=[([(29,4)],(Zf s_ c q pos ln lost))]) R7 [5,6] [0,1,2,4])))) (jt (jg (Eq.refl (Ze c q pos ln lost s_)) (lE (tg:=[([(29,4)],(Ze c q pos ln lost s_))]) R7 [5,6] [0,1,2,4])))))) (bi 41 (jt (lE R7 [5,6] [0,1,2,4])) (jg kz (gc (gw 45 (gi (jt (jg (Eq.refl (Zd s_ c q pos ln lost)) (lE (tg:=[([(16,4)],(Zd s_ c q pos ln lost))]) R7 [5,6] [0,1,2,4]))))))))
theorem lJ:Ay (BC Tryz.f104 2) [] (List.range 22) []:=by unfold Ay;kernel_rfl
theorem lI:Ay (BC Tryz.f104 3) [] (List.range 22) []:=by unfold Ay;kernel_rfl
def aQ:Bb:=fun i=>match i with
 | 2=>.ord [] (List.range 22) []
 | 3=>.ord [] (List.range 22) []
 | _=>.no
def cz (n:Nat) (i_:Int) (AS:Bool) (c:AB) (q:AA) (pos:List Int) (ln:Nat) (lost:List Int):Option (Bool×(List Int)):=
 bif AS then
  if (0<=i_/\ i_<(c.cells.length:Int))/\ (0<=(c.cells.getD ((i_).toNat) 0)/\ (c.cells.getD ((i_).toNat) 0)<(pos.length:Int)) then
   some (((bits .and .i64 (pos.getD ((c.cells.getD ((i_).toNat) 0).toNat) 0) c.set) != 0),lost)
  else none
 else
  if (0<=i_/\ i_<(c.cells.length:Int))/\ (0<=(c.cells.getD ((i_).toNat) 0)/\ (c.cells.getD ((i_).toNat) 0)<(pos.length:Int)) then
   some (((bits .andNot .i64 (pos.getD ((c.cells.getD ((i_).toNat) 0).toNat) 0) c.set) != 0),lost)
  else none
def QG (n:Nat) (i_:Int) (AS:Bool) (c:AB) (q:AA) (pos:List Int) (ln:Nat) (lost:List Int):Option (Bool×(List Int)):=cz n i_ AS c q pos ln lost
theorem TL {n:Nat} {i_:Int} {AS:Bool} {c:AB} {q:AA} {pos:List Int} {ln:Nat} {lost:List Int} {r:Bool×(List Int)} (h:QG n i_ AS c q pos ln lost=some r):EQ 104 [.i i_,.bool AS,.ref 0 0] [some (.cells [.ref 1 0]),some (.cells (AF c++AD q++[.ints pos,.msl 2 1 0 ln])),some (.ints lost)] (.bool r.1) [some (.cells [.ref 1 0]),some (.cells (AF c++AD q++[.ints pos,.msl 2 1 0 ln])),some (.ints r.2)] false:=by
 refine ot Tryz.func104 fun B N=>?_
 revert r;apply gO;exact bi 6 (jg lJ (gc (gi (gi (lE aQ [5] [0,1,2]))))) (jg lI (gc (gi (gi (lE aQ [5] [0,1,2])))))
theorem kS:Ay (BC Tryz.f72 24) [] (List.range 6) [6]:=by unfold Ay;kernel_rfl
def Zq:ST:=.rd 0 (.rd 1 (.rd 2 (.rd 3 (.rd 4 (.rd 5 (.rd 6 (.rd 7 (.rd 8 (.rd 9 (.rd 10 (.rd 11 (.rd 12 (.rd 13 (.ef 14 (.fin [] [1,3,5,7,14,16,18]) (.no)))))))))))))))
theorem aW:CI (BC Tryz.f72 49) [] Zq:=by unfold CI;kernel_rfl
def Zp:ST:=.rd 0 (.rd 1 (.rd 2 (.rd 3 (.rd 4 (.rd 5 (.rd 6 (.rd 7 (.rd 8 (.ef 9 (.fin [] [1,3,5,7,14,16]) (.no))))))))))
theorem VZ:CI (BC Tryz.f72 51) [] Zp:=by unfold CI;kernel_rfl
def CA:Bb:=fun i=>match i with
 | 24=>.ord [] (List.range 6) [6]
 | 49=>.tre [] Zq
 | 51=>.tre [] Zp
 | _=>.no
def XQ (c:AB) (q:AA) (pos:List Int) (ln:Nat) (o1:List Int) (o3:List (Option KS)):DH:=[some (.cells (AF c++AD q++[.ints pos,.msl 1 1 0 ln])),some (.ints o1),some (.cells [.ref 0 0]),some (.mo (.sets 2 o3 none))]
def sQ (c:AB) (q:AA) (pos:List Int) (ln:Nat) (o1:List Int) (o3:List (Option KS)) (An:Int) (gk:LK):DH:=[some (.cells (AF c++AD q++[.ints pos,.msl 1 1 0 ln])),some (.ints o1),some (.cells [.ref 0 0]),some (.mo (.sets 2 o3 (some (0+((An).toNat),gk))))]
def sK (c:AB) (q:AA) (pos:List Int) (ln:Nat) (o1:List Int) (o3:List (Option KS)) (Af:Nat) (gk:LK) (o4:KS):DH:=[some (.cells (AF c++AD q++[.ints pos,.msl 1 1 0 ln])),some (.ints o1),some (.cells [.ref 0 0]),some (.mo (.sets 2 o3 (some (Af,gk)))),some (.mo (.mit 2 gk.1 gk.2.1 gk.2.2 o4 none))]
def dk (c:AB) (q:AA) (pos:List Int) (ln:Nat) (o1:List Int) (o3:List (Option KS)) (Af:Nat) (gk:LK) (o4:KS) (y1:List Int):DH:=[some (.cells (AF c++AD q++[.ints pos,.msl 1 1 0 ln])),some (.ints o1),some (.cells [.ref 0 0]),some (.mo (.sets 2 o3 (some (Af,gk)))),some (.mo (.mit 2 gk.1 gk.2.1 gk.2.2 (o4.erase y1) (some y1)))]
def XN (c:AB) (q:AA) (pos:List Int) (ln:Nat) (o1:List Int) (o3:List (Option KS)) (o4:KS):DH:=[some (.cells (AF c++AD q++[.ints pos,.msl 1 1 0 ln])),some (.ints o1),some (.cells [.ref 0 0]),some (.mo (.sets 2 o3 none)),some (.mo (.set 2 o4)),some (.mo (.set 2 ([]:KS))),some (.cells [.bool false,.bool false])]
def sI (c:AB) (q:AA) (pos:List Int) (ln:Nat) (o1:List Int) (o3:List (Option KS)) (AQ:Int) (gk:LK) (o4:KS):DH:=[some (.cells (AF c++AD q++[.ints pos,.msl 1 1 0 ln])),some (.ints o1),some (.cells [.ref 0 0]),some (.mo (.sets 2 o3 (some (0+((AQ).toNat),gk)))),some (.mo (.set 2 o4)),some (.mo (.set 2 ([]:KS))),some (.cells [.bool false,.bool false])]
def XM (c:AB) (q:AA) (pos:List Int) (ln:Nat) (o1:List Int) (o3:List (Option KS)) (Af:Nat) (gk:LK) (Ak Es:Int) (o5:KS) (Er:List Int):DH:=[some (.cells (AF c++AD q++[.ints pos,.msl 1 1 0 ln])),some (.ints o1),some (.cells [.ref 0 0]),some (.mo (.sets 2 o3 (some (Af,gk)))),some (.cells [.i Ak,.i Es]),some (.mo (.mit 2 gk.1 gk.2.1 gk.2.2 o5 (some Er))),some (.bools ([false,true]:List Bool))]
def sH (c:AB) (q:AA) (pos:List Int) (ln:Nat) (y1:(Int×Int)×Bool×(List Int)) (o3:List (Option KS)) (Af:Nat) (gk:LK) (Ak Es:Int) (o5:KS) (Er:List Int):DH:=[some (.cells (AF c++AD q++[.ints pos,.msl 1 1 0 ln])),some (.ints y1.2.2),some (.cells [.ref 0 0]),some (.mo (.sets 2 o3 (some (Af,gk)))),some (.cells [.i Ak,.i Es]),some (.mo (.mit 2 gk.1 gk.2.1 gk.2.2 o5 (some Er))),some (.bools ([false,true]:List Bool)),some (.cells [.i y1.1.1,.i y1.1.2])]
def sG (c:AB) (q:AA) (pos:List Int) (ln:Nat) (o1:List Int) (o3:List (Option KS)) (Af:Nat) (gk:LK) (o4 o7:KS):DH:=[some (.cells (AF c++AD q++[.ints pos,.msl 1 1 0 ln])),some (.ints o1),some (.cells [.ref 0 0]),some (.mo (.sets 2 o3 (some (Af,gk)))),some (.mo (.set 2 o4)),some (.mo (.set 2 ([]:KS))),some (.cells [.bool false,.bool false]),some (.mo (.mit 2 gk.1 gk.2.1 gk.2.2 o7 none))]
def ZW (c:AB) (AQ:Int) (q:AA) (pos:List Int) (ln:Nat) (y2:(List Int)) (o3:List (Option KS)) (o4:KS):St:=⟨(AM 208 [(1,.ref 2 0),(3,.fn 103 1 (L1 [.ref 2 0])),(5,.msl 3 1 0 ((((c.cells.length:Int)+1)).toNat)),(7,.fn 104 1 (L1 [.ref 2 0])),(14,.it 5),(16,.i AQ),(18,.ref 6 0)]),([some (.cells (AF c++AD q++[.ints pos,.msl 1 1 0 ln])),some (.ints y2),some (.cells [.ref 0 0]),some (.mo (.sets 2 o3 none)),some (.mo (.set 2 o4)),some (.mo (.set 2 ([]:KS))),some (.cells [.bool false,.bool false])]:DH)⟩
def sP (c:AB) (q:AA) (pos:List Int) (ln:Nat) (y2:(List Int)) (o3:List (Option KS)) (o4:KS):DH:=[some (.cells (AF c++AD q++[.ints pos,.msl 1 1 0 ln])),some (.ints y2),some (.cells [.ref 0 0]),some (.mo (.sets 2 o3 none)),some (.mo (.set 2 o4)),some (.mo (.set 2 ([]:KS))),some (.cells [.bool false,.bool false])]
def ZZ (c:AB) (AQ:Int) (q:AA) (pos:List Int) (ln:Nat) (y3:(List Int)) (o3:List (Option KS)) (o4:KS):St:=⟨(AM 208 [(1,.ref 2 0),(3,.fn 103 1 (L1 [.ref 2 0])),(5,.msl 3 1 0 ((((c.cells.length:Int)+1)).toNat)),(7,.fn 104 1 (L1 [.ref 2 0])),(14,.it 5),(16,.i AQ)]),([some (.cells (AF c++AD q++[.ints pos,.msl 1 1 0 ln])),some (.ints y3),some (.cells [.ref 0 0]),some (.mo (.sets 2 o3 none)),some (.mo (.set 2 o4)),some (.mo (.set 2 ([]:KS))),some (.cells [.bool false,.bool false])]:DH)⟩
def sO (c:AB) (q:AA) (pos:List Int) (ln:Nat) (o1:List Int) (o3:List (Option KS)) (Af:Nat) (gk:LK) (o4 o7:KS) (y1:List Int):DH:=[some (.cells (AF c++AD q++[.ints pos,.msl 1 1 0 ln])),some (.ints o1),some (.cells [.ref 0 0]),some (.mo (.sets 2 o3 (some (Af,gk)))),some (.mo (.set 2 o4)),some (.mo (.set 2 ([]:KS))),some (.cells [.bool false,.bool false]),some (.mo (.mit 2 gk.1 gk.2.1 gk.2.2 (o7.erase y1) (some y1)))]
def QW (c:AB) (q:AA) (pos:List Int) (ln:Nat) (o1:List Int) (o3:List (Option KS)) (Af:Nat) (gk:LK) (o4 o5:KS) (BP BQ:Bool) (C4 C3:Int) (o8:KS) (DP:List Int):DH:=[some (.cells (AF c++AD q++[.ints pos,.msl 1 1 0 ln])),some (.ints o1),some (.cells [.ref 0 0]),some (.mo (.sets 2 o3 (some (Af,gk)))),some (.mo (.set 2 o4)),some (.mo (.set 2 o5)),some (.cells [.bool BP,.bool BQ]),some (.cells [.i C4,.i C3]),some (.mo (.mit 2 gk.1 gk.2.1 gk.2.2 o8 (some DP))),some (.bools ([false,true]:List Bool))]
def XP (c:AB) (q:AA) (pos:List Int) (ln:Nat) (y1:(Int×Int)×Bool×(List Int)) (o3:List (Option KS)) (Af:Nat) (gk:LK) (o4 o5:KS) (BP BQ:Bool) (C4 C3:Int) (o8:KS) (DP:List Int):DH:=[some (.cells (AF c++AD q++[.ints pos,.msl 1 1 0 ln])),some (.ints y1.2.2),some (.cells [.ref 0 0]),some (.mo (.sets 2 o3 (some (Af,gk)))),some (.mo (.set 2 o4)),some (.mo (.set 2 o5)),some (.cells [.bool BP,.bool BQ]),some (.cells [.i C4,.i C3]),some (.mo (.mit 2 gk.1 gk.2.1 gk.2.2 o8 (some DP))),some (.bools ([false,true]:List Bool)),some (.cells [.i y1.1.1,.i y1.1.2])]
def sN (c:AB) (q:AA) (pos:List Int) (ln:Nat) (o1:List Int) (o3:List (Option KS)) (Af:Nat) (gk:LK) (o4:KS) (Ii:List Int):DH:=[some (.cells (AF c++AD q++[.ints pos,.msl 1 1 0 ln])),some (.ints o1),some (.cells [.ref 0 0]),some (.mo (.sets 2 o3 (some (Af,gk)))),some (.mo (.mit 2 gk.1 gk.2.1 gk.2.2 o4 (some Ii)))]
def sM (c:AB) (q:AA) (pos:List Int) (ln:Nat) (o1:List Int) (o3:List (Option KS)) (Af:Nat) (gk:LK) (o4 o5:KS) (BP BQ:Bool) (o7:KS) (Ih:List Int):DH:=[some (.cells (AF c++AD q++[.ints pos,.msl 1 1 0 ln])),some (.ints o1),some (.cells [.ref 0 0]),some (.mo (.sets 2 o3 (some (Af,gk)))),some (.mo (.set 2 o4)),some (.mo (.set 2 o5)),some (.cells [.bool BP,.bool BQ]),some (.mo (.mit 2 gk.1 gk.2.1 gk.2.2 o7 (some Ih)))]
def XO (c:AB) (q:AA) (pos:List Int) (ln:Nat) (o1:List Int) (o3:List (Option KS)) (o4 o5:KS) (BP BQ:Bool):DH:=[some (.cells (AF c++AD q++[.ints pos,.msl 1 1 0 ln])),some (.ints o1),some (.cells [.ref 0 0]),some (.mo (.sets 2 o3 none)),some (.mo (.set 2 o4)),some (.mo (.set 2 o5)),some (.cells [.bool BP,.bool BQ])]
def VG (c:AB) (AQ:Int) (q:AA) (pos:List Int) (ln:Nat) (y2:(List Int)) (o3:List (Option KS)) (o4 o5:KS) (BP BQ:Bool):St:=⟨(AM 208 [(1,.ref 2 0),(3,.fn 103 1 (L1 [.ref 2 0])),(5,.msl 3 1 0 ((((c.cells.length:Int)+1)).toNat)),(7,.fn 104 1 (L1 [.ref 2 0])),(14,.it 5),(16,.i AQ),(18,.ref 6 0)]),([some (.cells (AF c++AD q++[.ints pos,.msl 1 1 0 ln])),some (.ints y2),some (.cells [.ref 0 0]),some (.mo (.sets 2 o3 none)),some (.mo (.set 2 o4)),some (.mo (.set 2 o5)),some (.cells [.bool BP,.bool BQ])]:DH)⟩
def sL (c:AB) (q:AA) (pos:List Int) (ln:Nat) (y2:(List Int)) (o3:List (Option KS)) (o4 o5:KS) (BP BQ:Bool):DH:=[some (.cells (AF c++AD q++[.ints pos,.msl 1 1 0 ln])),some (.ints y2),some (.cells [.ref 0 0]),some (.mo (.sets 2 o3 none)),some (.mo (.set 2 o4)),some (.mo (.set 2 o5)),some (.cells [.bool BP,.bool BQ])]
def ZY (c:AB) (AQ:Int) (q:AA) (pos:List Int) (ln:Nat) (y3:(List Int)) (o3:List (Option KS)) (o4 o5:KS) (BP BQ:Bool):St:=⟨(AM 208 [(1,.ref 2 0),(3,.fn 103 1 (L1 [.ref 2 0])),(5,.msl 3 1 0 ((((c.cells.length:Int)+1)).toNat)),(7,.fn 104 1 (L1 [.ref 2 0])),(14,.it 5),(16,.i AQ)]),([some (.cells (AF c++AD q++[.ints pos,.msl 1 1 0 ln])),some (.ints y3),some (.cells [.ref 0 0]),some (.mo (.sets 2 o3 none)),some (.mo (.set 2 o4)),some (.mo (.set 2 o5)),some (.cells [.bool BP,.bool BQ])]:DH)⟩
def ZX (c:AB) (AQ:Int) (q:AA) (pos:List Int) (ln:Nat) (y2:(List Int)) (o3:List (Option KS)) (o4 o5:KS) (BP BQ:Bool):St:=⟨(AM 208 [(1,.ref 2 0),(3,.fn 103 1 (L1 [.ref 2 0])),(5,.msl 3 1 0 ((((c.cells.length:Int)+1)).toNat)),(7,.fn 104 1 (L1 [.ref 2 0])),(14,.it 5),(16,.i AQ)]),([some (.cells (AF c++AD q++[.ints pos,.msl 1 1 0 ln])),some (.ints y2),some (.cells [.ref 0 0]),some (.mo (.sets 2 o3 none)),some (.mo (.set 2 o4)),some (.mo (.set 2 o5)),some (.cells [.bool BP,.bool BQ])]:DH)⟩
def sJ (c:AB) (q:AA) (pos:List Int) (ln:Nat) (o1:List Int) (o3:List (Option KS)) (Af:Nat) (gk:LK) (o4 o5:KS) (BP BQ:Bool) (o7:KS) (y1:List Int):DH:=[some (.cells (AF c++AD q++[.ints pos,.msl 1 1 0 ln])),some (.ints o1),some (.cells [.ref 0 0]),some (.mo (.sets 2 o3 (some (Af,gk)))),some (.mo (.set 2 o4)),some (.mo (.set 2 o5)),some (.cells [.bool BP,.bool BQ]),some (.mo (.mit 2 gk.1 gk.2.1 gk.2.2 (o7.erase y1) (some y1)))]
inductive G9 where
 | l1 (Ej:Int) (o3:List (Option KS))
 | l2 (An:Int) (o1:List Int) (o3:List (Option KS))
 | l3 (x8 An:Int) (o1:List Int) (o3:List (Option KS)) (Af:Nat) (o4:KS)
 | l4 (AQ:Int) (o1:List Int) (o3:List (Option KS)) (o4:KS)
 | l5 (x8 An Ei:Int) (o1:List Int) (o3:List (Option KS)) (Af:Nat) (Ak Es:Int) (o5:KS) (Er:List Int)
 | l6 (AQ:Int) (o1:List Int) (o3:List (Option KS)) (Af:Nat) (o4 o7:KS)
 | l7 (AQ DK:Int) (o1:List Int) (o3:List (Option KS)) (Af:Nat) (o4 o5:KS) (BP BQ:Bool) (C4 C3:Int) (o8:KS) (DP:List Int)
 | l8 (x8 An:Int) (o1:List Int) (o3:List (Option KS)) (Af:Nat) (o4:KS) (Ii:List Int)
 | l9 (AQ:Int) (o1:List Int) (o3:List (Option KS)) (Af:Nat) (o4 o5:KS) (BP BQ:Bool) (o7:KS) (Ih:List Int)
def PF (n:Nat) (self:G9 -> Option (Bool×(List Int))) (c:AB) (q:AA) (pos:List Int) (ln:Nat) (lost:List Int) (Ej:Int) (o3:List (Option KS)):Option (Bool×(List Int)):=
 bif (decide (Ej<(((((c.cells.length:Int)+1)).toNat:Nat):Int))) then
  if (0<=Ej/\ Ej<(((((c.cells.length:Int)+1)).toNat:Nat):Int))/\ 0+((Ej).toNat)<o3.length/\ AH (Ej+1) then
   self (.l1 (Ej+1) (o3.set (0+((Ej).toNat)) (some ([]:KS))))
  else none
 else
  if ((0:Int)<=0/\ 0<(((((c.cells.length:Int)+1)).toNat:Nat):Int))/\ 0+0<o3.length/\ (o3.getD (0+0) none).isSome=true then
   self (.l2 0 lost (o3.set (0+0) (some (CD [0,0] ((o3.getD (0+0) none).getD [])))))
  else none
def Lg (n:Nat) (self:G9 -> Option (Bool×(List Int))) (c:AB) (q:AA) (pos:List Int) (ln:Nat) (lost:List Int) (An:Int) (o1:List Int) (o3:List (Option KS)):Option (Bool×(List Int)):=
 bif (decide (An<(c.cells.length:Int))) then
  if (o3.getD (0+((An).toNat)) none).isSome=true then
   if (0<=An/\ An<(((((c.cells.length:Int)+1)).toNat:Nat):Int))/\ 0+((An).toNat)<o3.length/\ (o3.getD (0+((An).toNat)) none).isSome=true then
    self (.l3 An An o1 o3 (0+((An).toNat)) ((o3.getD (0+((An).toNat)) none).getD []))
   else none
  else none
 else
  bif (decide ((c.runs.length:Int)>0)) then
   if AH ((c.runs.length:Int)-1)/\ ((0:Int)<=((c.runs.length:Int)-1)/\ ((c.runs.length:Int)-1)<(c.runs.length:Int))/\ AH ((c.cells.length:Int)-1) then
    self (.l4 ((c.cells.length:Int)-1) o1 o3 (CD [((c.runs.length:Int)-1),c.runs.getD ((((c.runs.length:Int)-1)).toNat) 0] (CD [(c.runs.length:Int),0] ([]:KS))))
   else none
  else
   if AH ((c.cells.length:Int)-1) then
    self (.l4 ((c.cells.length:Int)-1) o1 o3 (CD [(c.runs.length:Int),0] ([]:KS)))
   else none
def lj (n:Nat) (self:G9 -> Option (Bool×(List Int))) (c:AB) (q:AA) (pos:List Int) (ln:Nat) (lost:List Int) (x8 An:Int) (o1:List Int) (o3:List (Option KS)) (Af:Nat) (o4:KS):Option (Bool×(List Int)):=
 if (o3.getD Af none).isSome=true then
  HD o4 (
   if AH (An+1) then
    self (.l2 (An+1) o1 o3)
   else none) fun y1=>
   if (o3.getD Af none).isSome=true then
    self (.l5 x8 An 0 o1 o3 Af (y1.getD 0 0) (y1.getD 1 0) (o4.erase y1) y1)
   else none
 else none
def PE (n:Nat) (self:G9 -> Option (Bool×(List Int))) (c:AB) (q:AA) (pos:List Int) (ln:Nat) (lost:List Int) (AQ:Int) (o1:List Int) (o3:List (Option KS)) (o4:KS):Option (Bool×(List Int)):=
 bif (decide (AQ>=0)) then
  if (o3.getD (0+((AQ).toNat)) none).isSome=true then
   if (0<=AQ/\ AQ<(((((c.cells.length:Int)+1)).toNat:Nat):Int))/\ 0+((AQ).toNat)<o3.length/\ (o3.getD (0+((AQ).toNat)) none).isSome=true then
    self (.l6 AQ o1 o3 (0+((AQ).toNat)) o4 ((o3.getD (0+((AQ).toNat)) none).getD []))
   else none
  else none
 else
  some (true,o1)
def Lf (n:Nat) (self:G9 -> Option (Bool×(List Int))) (c:AB) (q:AA) (pos:List Int) (ln:Nat) (lost:List Int) (x8 An Ei:Int) (o1:List Int) (o3:List (Option KS)) (Af:Nat) (Ak Es:Int) (o5:KS) (Er:List Int):Option (Bool×(List Int)):=
 bif (decide (Ei<2)) then
  if (0<=Ei/\ Ei<((2:Nat):Int))/\ 0+((Ei).toNat)<([false,true]:List Bool).length then
   (Pv n (Ak,Es) (([false,true]:List Bool).getD (0+((Ei).toNat)) false) c q pos ln o1).bind fun y1=>
    bif y1.2.1 then
     (QG n x8 (([false,true]:List Bool).getD (0+((Ei).toNat)) false) c q pos ln y1.2.2).bind fun y2=>
      bif y2.1 then
       if AH (x8+1)/\ (0<=(x8+1)/\ (x8+1)<(((((c.cells.length:Int)+1)).toNat:Nat):Int))/\ 0+(((x8+1)).toNat)<o3.length/\ Af≠0+(((x8+1)).toNat)/\ (o3.getD (0+(((x8+1)).toNat)) none).isSome=true/\ AH (Ei+1) then
        self (.l5 x8 An (Ei+1) y2.2 (o3.set (0+(((x8+1)).toNat)) (some (CD [y1.1.1,y1.1.2] ((o3.getD (0+(((x8+1)).toNat)) none).getD [])))) Af Ak Es o5 Er)
       else none
      else
       if AH (Ei+1) then
        self (.l5 x8 An (Ei+1) y2.2 o3 Af Ak Es o5 Er)
       else none
    else
     if AH (Ei+1) then
      self (.l5 x8 An (Ei+1) y1.2.2 o3 Af Ak Es o5 Er)
     else none
  else none
 else
  self (.l8 x8 An o1 o3 Af o5 Er)
def li (n:Nat) (self:G9 -> Option (Bool×(List Int))) (c:AB) (q:AA) (pos:List Int) (ln:Nat) (lost:List Int) (AQ:Int) (o1:List Int) (o3:List (Option KS)) (Af:Nat) (o4 o7:KS):Option (Bool×(List Int)):=
 if (o3.getD Af none).isSome=true then
  HD o7 (
   if 0<=AQ/\ AQ<(c.cells.length:Int) then
    (C5 n (c.cells.getD ((AQ).toNat) 0) c.set c q pos ln o1).bind fun y2=>
     (Ft n (c.cells.getD ((AQ).toNat) 0) c q pos ln y2).bind fun y3=>
      if AH (AQ-1) then
       self (.l4 (AQ-1) y3 o3 ([]:KS))
      else none
   else none) fun y1=>
   if (o3.getD Af none).isSome=true then
    self (.l7 AQ 0 o1 o3 Af o4 ([]:KS) false false (y1.getD 0 0) (y1.getD 1 0) (o7.erase y1) y1)
   else none
 else none
def Le (n:Nat) (self:G9 -> Option (Bool×(List Int))) (c:AB) (q:AA) (pos:List Int) (ln:Nat) (lost:List Int) (AQ DK:Int) (o1:List Int) (o3:List (Option KS)) (Af:Nat) (o4 o5:KS) (BP BQ:Bool) (C4 C3:Int) (o8:KS) (DP:List Int):Option (Bool×(List Int)):=
 bif (decide (DK<2)) then
  if (0<=DK/\ DK<((2:Nat):Int))/\ 0+((DK).toNat)<([false,true]:List Bool).length then
   (Pv n (C4,C3) (([false,true]:List Bool).getD (0+((DK).toNat)) false) c q pos ln o1).bind fun y1=>
    bif y1.2.1 then
     (QG n AQ (([false,true]:List Bool).getD (0+((DK).toNat)) false) c q pos ln y1.2.2).bind fun y2=>
      bif y2.1 then
       bif (o4.contains [y1.1.1,y1.1.2]) then
        bif (DK==0) then
         if AH (DK+1) then
          self (.l7 AQ (DK+1) y2.2 o3 Af o4 (CD [C4,C3] o5) true BQ C4 C3 o8 DP)
         else none
        else
         bif (DK==1) then
          if AH (DK+1) then
           self (.l7 AQ (DK+1) y2.2 o3 Af o4 (CD [C4,C3] o5) BP true C4 C3 o8 DP)
          else none
         else
          none
       else
        if AH (DK+1) then
         self (.l7 AQ (DK+1) y2.2 o3 Af o4 o5 BP BQ C4 C3 o8 DP)
        else none
      else
       if AH (DK+1) then
        self (.l7 AQ (DK+1) y2.2 o3 Af o4 o5 BP BQ C4 C3 o8 DP)
       else none
    else
     if AH (DK+1) then
      self (.l7 AQ (DK+1) y1.2.2 o3 Af o4 o5 BP BQ C4 C3 o8 DP)
     else none
  else none
 else
  self (.l9 AQ o1 o3 Af o4 o5 BP BQ o8 DP)
def PD (n:Nat) (self:G9 -> Option (Bool×(List Int))) (c:AB) (q:AA) (pos:List Int) (ln:Nat) (lost:List Int) (x8 An:Int) (o1:List Int) (o3:List (Option KS)) (Af:Nat) (o4:KS) (Ii:List Int):Option (Bool×(List Int)):=
 if (o3.getD Af none).isSome=true then
  HD o4 (
   if AH (An+1) then
    self (.l2 (An+1) o1 o3)
   else none) fun y1=>
   if (o3.getD Af none).isSome=true then
    self (.l5 x8 An 0 o1 o3 Af (y1.getD 0 0) (y1.getD 1 0) (o4.erase y1) y1)
   else none
 else none
def PC (n:Nat) (self:G9 -> Option (Bool×(List Int))) (c:AB) (q:AA) (pos:List Int) (ln:Nat) (lost:List Int) (AQ:Int) (o1:List Int) (o3:List (Option KS)) (Af:Nat) (o4 o5:KS) (BP BQ:Bool) (o7:KS) (Ih:List Int):Option (Bool×(List Int)):=
 if (o3.getD Af none).isSome=true then
  HD o7 (
   bif (!BQ) then
    if 0<=AQ/\ AQ<(c.cells.length:Int) then
     (C5 n (c.cells.getD ((AQ).toNat) 0) c.set c q pos ln o1).bind fun y2=>
      bif (!BP) then
       (Ft n (c.cells.getD ((AQ).toNat) 0) c q pos ln y2).bind fun y3=>
        if AH (AQ-1) then
         self (.l4 (AQ-1) y3 o3 o5)
        else none
      else
       if AH (AQ-1) then
        self (.l4 (AQ-1) y2 o3 o5)
       else none
    else none
   else
    bif (!BP) then
     if 0<=AQ/\ AQ<(c.cells.length:Int) then
      (Ft n (c.cells.getD ((AQ).toNat) 0) c q pos ln o1).bind fun y2=>
       if AH (AQ-1) then
        self (.l4 (AQ-1) y2 o3 o5)
       else none
     else none
    else
     if AH (AQ-1) then
      self (.l4 (AQ-1) o1 o3 o5)
     else none) fun y1=>
   if (o3.getD Af none).isSome=true then
    self (.l7 AQ 0 o1 o3 Af o4 o5 BP BQ (y1.getD 0 0) (y1.getD 1 0) (o7.erase y1) y1)
   else none
 else none
def Vf (n:Nat) (self:G9 -> Option (Bool×(List Int))) (c:AB) (q:AA) (pos:List Int) (ln:Nat) (lost:List Int):Option (Bool×(List Int)):=
 bif ((c.cells.length:Int)==0) then
  some (((c.runs.length:Int)==0),lost)
 else
  if AH ((c.cells.length:Int)+1)/\ ((((c.cells.length:Int)+1):Int)=((c.cells.length:Int)+1)/\ (0:Int)<=((c.cells.length:Int)+1)/\ (((c.cells.length:Int)+1):Int)<=1000000000000) then
   self (.l1 0 (List.replicate ((((c.cells.length:Int)+1)).toNat) (none:Option KS)))
  else none
def BI (c:AB) (q:AA) (pos:List Int) (ln:Nat) (lost:List Int):Nat -> G9 -> Option (Bool×(List Int))
 | 0,_=>none
 | n+1,.l1 Ej o3=>PF n (BI c q pos ln lost n) c q pos ln lost Ej o3
 | n+1,.l2 An o1 o3=>Lg n (BI c q pos ln lost n) c q pos ln lost An o1 o3
 | n+1,.l3 x8 An o1 o3 Af o4=>lj n (BI c q pos ln lost n) c q pos ln lost x8 An o1 o3 Af o4
 | n+1,.l4 AQ o1 o3 o4=>PE n (BI c q pos ln lost n) c q pos ln lost AQ o1 o3 o4
 | n+1,.l5 x8 An Ei o1 o3 Af Ak Es o5 Er=>Lf n (BI c q pos ln lost n) c q pos ln lost x8 An Ei o1 o3 Af Ak Es o5 Er
 | n+1,.l6 AQ o1 o3 Af o4 o7=>li n (BI c q pos ln lost n) c q pos ln lost AQ o1 o3 Af o4 o7
 | n+1,.l7 AQ DK o1 o3 Af o4 o5 BP BQ C4 C3 o8 DP=>Le n (BI c q pos ln lost n) c q pos ln lost AQ DK o1 o3 Af o4 o5 BP BQ C4 C3 o8 DP
 | n+1,.l8 x8 An o1 o3 Af o4 Ii=>PD n (BI c q pos ln lost n) c q pos ln lost x8 An o1 o3 Af o4 Ii
 | n+1,.l9 AQ o1 o3 Af o4 o5 BP BQ o7 Ih=>PC n (BI c q pos ln lost n) c q pos ln lost AQ o1 o3 Af o4 o5 BP BQ o7 Ih
def NH (n:Nat) (c:AB) (q:AA) (pos:List Int) (ln:Nat) (lost:List Int):Option (Bool×(List Int)):=Vf n (BI c q pos ln lost n) c q pos ln lost
def ll (n B:Nat) (N:Yd 2) (c:AB) (q:AA) (pos:List Int) (ln:Nat) (lost:List Int) (r:Bool×(List Int)):G9 -> Prop
 | .l1 Ej o3=>∀ m0:Nat,n<=m0 -> TW B N (FQ Tryz.f72 2 (.bool r.1) [some (.cells (AF c++AD q++[.ints pos,.msl 1 1 0 ln])),some (.ints r.2)]) (A2 m0 (BA (AX Tryz.f72) 0 [])) ⟨AM 208 [(1,.ref 2 0),(3,.fn 103 1 (L1 [.ref 2 0])),(4,.i (c.cells.length:Int)),(5,.msl 3 1 0 ((((c.cells.length:Int)+1)).toNat)),(44,.i (((((c.cells.length:Int)+1)).toNat:Nat):Int)),(45,.i Ej)],[some (.cells (AF c++AD q++[.ints pos,.msl 1 1 0 ln])),some (.ints lost),some (.cells [.ref 0 0]),some (.mo (.sets 2 o3 none))]⟩
 | .l2 An o1 o3=>∀ m0:Nat,n<=m0 -> TW B N (FQ Tryz.f72 2 (.bool r.1) [some (.cells (AF c++AD q++[.ints pos,.msl 1 1 0 ln])),some (.ints r.2)]) (A2 m0 (BA (AX Tryz.f72) 2 [])) ⟨AM 208 [(1,.ref 2 0),(3,.fn 103 1 (L1 [.ref 2 0])),(4,.i (c.cells.length:Int)),(5,.msl 3 1 0 ((((c.cells.length:Int)+1)).toNat)),(7,.fn 104 1 (L1 [.ref 2 0])),(58,.i (c.cells.length:Int)),(59,.i An)],[some (.cells (AF c++AD q++[.ints pos,.msl 1 1 0 ln])),some (.ints o1),some (.cells [.ref 0 0]),some (.mo (.sets 2 o3 none))]⟩
 | .l3 x8 An o1 o3 Af o4=>∀ m0 m1:Nat,n<=m0 -> n<=m1 -> ∀ gk:LK,TW B N (FQ Tryz.f72 2 (.bool r.1) [some (.cells (AF c++AD q++[.ints pos,.msl 1 1 0 ln])),some (.ints r.2)]) (A2 m1 (BA (AX Tryz.f72) 4 [m0])) ⟨AM 208 [(1,.ref 2 0),(3,.fn 103 1 (L1 [.ref 2 0])),(4,.i (c.cells.length:Int)),(5,.msl 3 1 0 ((((c.cells.length:Int)+1)).toNat)),(7,.fn 104 1 (L1 [.ref 2 0])),(8,.i x8),(58,.i (c.cells.length:Int)),(59,.i An),(66,.it 4)],[some (.cells (AF c++AD q++[.ints pos,.msl 1 1 0 ln])),some (.ints o1),some (.cells [.ref 0 0]),some (.mo (.sets 2 o3 (some (Af,gk)))),some (.mo (.mit 2 gk.1 gk.2.1 gk.2.2 o4 none))]⟩
 | .l4 AQ o1 o3 o4=>∀ m0:Nat,n<=m0 -> TW B N (FQ Tryz.f72 2 (.bool r.1) [some (.cells (AF c++AD q++[.ints pos,.msl 1 1 0 ln])),some (.ints r.2)]) (A2 m0 (BA (AX Tryz.f72) 8 [])) ⟨AM 208 [(1,.ref 2 0),(3,.fn 103 1 (L1 [.ref 2 0])),(5,.msl 3 1 0 ((((c.cells.length:Int)+1)).toNat)),(7,.fn 104 1 (L1 [.ref 2 0])),(14,.it 4),(16,.i AQ)],[some (.cells (AF c++AD q++[.ints pos,.msl 1 1 0 ln])),some (.ints o1),some (.cells [.ref 0 0]),some (.mo (.sets 2 o3 none)),some (.mo (.set 2 o4))]⟩
 | .l5 x8 An Ei o1 o3 Af Ak Es o5 Er=>∀ m0 m1 m2:Nat,n<=m0 -> n<=m1 -> n<=m2 -> ∀ gk:LK,TW B N (FQ Tryz.f72 2 (.bool r.1) [some (.cells (AF c++AD q++[.ints pos,.msl 1 1 0 ln])),some (.ints r.2)]) (A2 m2 (BA (AX Tryz.f72) 6 [m0,m1])) ⟨AM 208 [(1,.ref 2 0),(3,.fn 103 1 (L1 [.ref 2 0])),(4,.i (c.cells.length:Int)),(5,.msl 3 1 0 ((((c.cells.length:Int)+1)).toNat)),(7,.fn 104 1 (L1 [.ref 2 0])),(8,.i x8),(9,.ref 4 0),(58,.i (c.cells.length:Int)),(59,.i An),(66,.it 5),(71,.msl 6 1 0 2),(72,.i 2),(73,.i Ei)],[some (.cells (AF c++AD q++[.ints pos,.msl 1 1 0 ln])),some (.ints o1),some (.cells [.ref 0 0]),some (.mo (.sets 2 o3 (some (Af,gk)))),some (.cells [.i Ak,.i Es]),some (.mo (.mit 2 gk.1 gk.2.1 gk.2.2 o5 (some Er))),some (.bools ([false,true]:List Bool))]⟩
 | .l6 AQ o1 o3 Af o4 o7=>∀ m0 m1:Nat,n<=m0 -> n<=m1 -> ∀ gk:LK,TW B N (FQ Tryz.f72 2 (.bool r.1) [some (.cells (AF c++AD q++[.ints pos,.msl 1 1 0 ln])),some (.ints r.2)]) (A2 m1 (BA (AX Tryz.f72) 10 [m0])) ⟨AM 208 [(1,.ref 2 0),(3,.fn 103 1 (L1 [.ref 2 0])),(5,.msl 3 1 0 ((((c.cells.length:Int)+1)).toNat)),(7,.fn 104 1 (L1 [.ref 2 0])),(14,.it 4),(16,.i AQ),(17,.it 5),(18,.ref 6 0),(140,.it 7)],[some (.cells (AF c++AD q++[.ints pos,.msl 1 1 0 ln])),some (.ints o1),some (.cells [.ref 0 0]),some (.mo (.sets 2 o3 (some (Af,gk)))),some (.mo (.set 2 o4)),some (.mo (.set 2 ([]:KS))),some (.cells [.bool false,.bool false]),some (.mo (.mit 2 gk.1 gk.2.1 gk.2.2 o7 none))]⟩
 | .l7 AQ DK o1 o3 Af o4 o5 BP BQ C4 C3 o8 DP=>∀ m0 m1 m2:Nat,n<=m0 -> n<=m1 -> n<=m2 -> ∀ gk:LK,TW B N (FQ Tryz.f72 2 (.bool r.1) [some (.cells (AF c++AD q++[.ints pos,.msl 1 1 0 ln])),some (.ints r.2)]) (A2 m2 (BA (AX Tryz.f72) 12 [m0,m1])) ⟨AM 208 [(1,.ref 2 0),(3,.fn 103 1 (L1 [.ref 2 0])),(5,.msl 3 1 0 ((((c.cells.length:Int)+1)).toNat)),(7,.fn 104 1 (L1 [.ref 2 0])),(14,.it 4),(16,.i AQ),(17,.it 5),(18,.ref 6 0),(19,.ref 7 0),(140,.it 8),(145,.msl 9 1 0 2),(146,.i 2),(147,.i DK)],[some (.cells (AF c++AD q++[.ints pos,.msl 1 1 0 ln])),some (.ints o1),some (.cells [.ref 0 0]),some (.mo (.sets 2 o3 (some (Af,gk)))),some (.mo (.set 2 o4)),some (.mo (.set 2 o5)),some (.cells [.bool BP,.bool BQ]),some (.cells [.i C4,.i C3]),some (.mo (.mit 2 gk.1 gk.2.1 gk.2.2 o8 (some DP))),some (.bools ([false,true]:List Bool))]⟩
 | .l8 x8 An o1 o3 Af o4 Ii=>∀ m0 m1:Nat,n<=m0 -> n<=m1 -> ∀ gk:LK,TW B N (FQ Tryz.f72 2 (.bool r.1) [some (.cells (AF c++AD q++[.ints pos,.msl 1 1 0 ln])),some (.ints r.2)]) (A2 m1 (BA (AX Tryz.f72) 4 [m0])) ⟨AM 208 [(1,.ref 2 0),(3,.fn 103 1 (L1 [.ref 2 0])),(4,.i (c.cells.length:Int)),(5,.msl 3 1 0 ((((c.cells.length:Int)+1)).toNat)),(7,.fn 104 1 (L1 [.ref 2 0])),(8,.i x8),(58,.i (c.cells.length:Int)),(59,.i An),(66,.it 4)],[some (.cells (AF c++AD q++[.ints pos,.msl 1 1 0 ln])),some (.ints o1),some (.cells [.ref 0 0]),some (.mo (.sets 2 o3 (some (Af,gk)))),some (.mo (.mit 2 gk.1 gk.2.1 gk.2.2 o4 (some Ii)))]⟩
 | .l9 AQ o1 o3 Af o4 o5 BP BQ o7 Ih=>∀ m0 m1:Nat,n<=m0 -> n<=m1 -> ∀ gk:LK,TW B N (FQ Tryz.f72 2 (.bool r.1) [some (.cells (AF c++AD q++[.ints pos,.msl 1 1 0 ln])),some (.ints r.2)]) (A2 m1 (BA (AX Tryz.f72) 10 [m0])) ⟨AM 208 [(1,.ref 2 0),(3,.fn 103 1 (L1 [.ref 2 0])),(5,.msl 3 1 0 ((((c.cells.length:Int)+1)).toNat)),(7,.fn 104 1 (L1 [.ref 2 0])),(14,.it 4),(16,.i AQ),(17,.it 5),(18,.ref 6 0),(140,.it 7)],[some (.cells (AF c++AD q++[.ints pos,.msl 1 1 0 ln])),some (.ints o1),some (.cells [.ref 0 0]),some (.mo (.sets 2 o3 (some (Af,gk)))),some (.mo (.set 2 o4)),some (.mo (.set 2 o5)),some (.cells [.bool BP,.bool BQ]),some (.mo (.mit 2 gk.1 gk.2.1 gk.2.2 o7 (some Ih)))]⟩
theorem lm (B:Nat) (N:Yd 2) (c:AB) (q:AA) (pos:List Int) (ln:Nat) (lost:List Int):Al (BI c q pos ln lost) (ll · B N c q pos ln lost):=ia (fun _=>rfl) fun n AG pt r h=>by
 cases pt
 case l1 Ej o3=>
  intro m0 AC;refine rd AC fun m0 AC=>?_
  revert r;apply gO;exact bi 46 (gc (gi (gc (gi (gw 52 (lG CA [0,1,2,5] (AG _ _ · m0 AC))))))) (gc (gi (gc (gi (gi (jg (pV (i:=0+0)) (lN CA [0,1,2,3] (AG _ _ · n Nat.le.refl))))))))
 case l2 An o1 o3=>
  intro m0 AC;refine rd AC fun m0 AC=>?_
  revert r;apply gO
  exact bi 60 (gn fun g0=>fun p r h=>by
   refine gs (AI 16 CA) [0,1,2,3] p (CP (AX Tryz.f72) 16 [m0]) (AM 208 [(1,.ref 2 0),(3,.fn 103 1 (L1 [.ref 2 0])),(4,.i (c.cells.length:Int)),(5,.msl 3 1 0 ((((c.cells.length:Int)+1)).toNat)),(7,.fn 104 1 (L1 [.ref 2 0])),(8,.i An),(58,.i (c.cells.length:Int)),(59,.i An)]) (XQ c q pos ln o1 o3) ?_;refine BV.lock 3 (0+((An).toNat)) 2 (by kernel_rfl) g0 (by kernel_rfl) (fun gk=>(sQ c q pos ln o1 o3 An gk)) (by kernel_rfl) fun gk=>?_
   revert r;apply gO;exact gc (gi (gc (gi (gi (jg (Eq.refl (0+((An).toNat))) (lN CA [0,1,2,3,4] (AG _ _ · m0 n AC Nat.le.refl gk)))))))) (bi 115 (gc (gn fun g0=>jw 118 g0 (jw 125 g0 (gc (gi (gw 130 (lN CA [0,1,2,3,4] (AG _ _ · n Nat.le.refl)))))))) (gw 130 (lN CA [0,1,2,3,4] (AG _ _ · n Nat.le.refl))))
 case l3 x8 An o1 o3 Af o4=>
  intro m0 m1 AC Ap gk;have AC:=zA AC;refine rd Ap fun m1 Ap=>?_
  have p:=H0;refine gs (AI 17 CA) [0,1,2,3,4] p (CP (AX Tryz.f72) 17 [m0,m1]) (AM 208 [(1,.ref 2 0),(3,.fn 103 1 (L1 [.ref 2 0])),(4,.i (c.cells.length:Int)),(5,.msl 3 1 0 ((((c.cells.length:Int)+1)).toNat)),(7,.fn 104 1 (L1 [.ref 2 0])),(8,.i x8),(58,.i (c.cells.length:Int)),(59,.i An),(66,.it 4)]) (sK c q pos ln o1 o3 Af gk o4) ?_;revert r;apply gO
  exact gn fun g0=>fun p r h=>by
   replace h:=Sz h;refine Az.nx (ops:=BC Tryz.f72 17) HC.x (by kernel_rfl) (by kernel_rfl) 4 3 Af 2 o3 gk o4 none [1,3,4,5,7,8,58,59,66,68] [0,1,2,3] (AM 208 [(1,.ref 2 0),(3,.fn 103 1 (L1 [.ref 2 0])),(4,.i (c.cells.length:Int)),(5,.msl 3 1 0 ((((c.cells.length:Int)+1)).toNat)),(7,.fn 104 1 (L1 [.ref 2 0])),(8,.i x8),(58,.i (c.cells.length:Int)),(59,.i An),(68,.bool false)]) (XQ c q pos ln o1 o3) [0,1,2,3,4] (fun y1=>AM 208 [(1,.ref 2 0),(3,.fn 103 1 (L1 [.ref 2 0])),(4,.i (c.cells.length:Int)),(5,.msl 3 1 0 ((((c.cells.length:Int)+1)).toNat)),(7,.fn 104 1 (L1 [.ref 2 0])),(8,.i x8),(58,.i (c.cells.length:Int)),(59,.i An),(66,.it 4),(68,.bool true)]) (fun y1=>(dk c q pos ln o1 o3 Af gk o4 y1)) (by kernel_rfl) (by kernel_rfl) (by kernel_rfl) (by decide) g0 (by kernel_rfl) (by kernel_rfl) (fun _=>by kernel_rfl) (fun he=>?_) (fun y1 he=>?_)
   ·replace h:=h.1 he;revert r;apply gO;exact gw 98 (lG CA [0,1,2,3] (AG _ _ · m0 AC))
   ·replace h:=h.2 y1 he;revert r;apply gO;exact gi (jg (Eq.refl gk.1) (jg (Eq.refl gk.2.1) (jg (Eq.refl gk.2.2) (jt (lN CA [0,1,2,3,5,4,6] (AG _ _ · m0 m1 n AC Ap Nat.le.refl gk))))))
 case l4 AQ o1 o3 o4=>
  intro m0 AC;refine rd AC fun m0 AC=>?_
  revert r;apply gO
  exact bi 132 (gn fun g0=>fun p r h=>by
   refine gs (AI 36 CA) [0,1,2,3,4,5,6] p (CP (AX Tryz.f72) 36 [m0]) (AM 208 [(1,.ref 2 0),(3,.fn 103 1 (L1 [.ref 2 0])),(5,.msl 3 1 0 ((((c.cells.length:Int)+1)).toNat)),(7,.fn 104 1 (L1 [.ref 2 0])),(14,.it 4),(16,.i AQ),(17,.it 5),(18,.ref 6 0)]) (XN c q pos ln o1 o3 o4) ?_;refine BV.lock 3 (0+((AQ).toNat)) 2 (by kernel_rfl) g0 (by kernel_rfl) (fun gk=>(sI c q pos ln o1 o3 AQ gk o4)) (by kernel_rfl) fun gk=>?_
   revert r;apply gO;exact gc (gi (gc (gi (gi (jg (Eq.refl (0+((AQ).toNat))) (lN CA [0,1,2,3,4,5,6,7] (AG _ _ · m0 n AC Nat.le.refl gk)))))))) (lE CA [2] [0,1])
 case l5 x8 An Ei o1 o3 Af Ak Es o5 Er=>
  intro m0 m1 m2 AC Ap FG gk;have AC:=zA AC;have Ap:=zA Ap;refine rd FG fun m2 FG=>?_
  revert r;apply gO;exact bj 74 (fun c0=>gc (gn fun g0=>jg g0 (gn fun g1=>jg g1 (cn fun y1 A7=>jc (em (Ki A7) [2,0,1] (XM c q pos ln o1 o3 Af gk Ak Es o5 Er)) (jt (bn (fun c1=>rO (jb 74 c0 (jg g0 (jg g1 (jc (em (Ki A7) [2,0,1] (XM c q pos ln o1 o3 Af gk Ak Es o5 Er)) (jb 83 c1 (jt (ce TL [2,0,1] (sH c q pos ln y1 o3 Af gk Ak Es o5 Er) fun _=>bi 89 (jg kS (gc (gw 93 (gc (gi (gc (gi (gc (gn fun g5=>gc (gi (jg (pU (g:=gk) g5) (gw 97 (lG CA [0,1,2,3,4,5,6] (AG _ _ · m0 m1 m2 AC Ap FG gk)))))))))))))) (gw 97 (lG CA [0,1,2,3,4,5,6] (AG _ _ · m0 m1 m2 AC Ap FG gk))))))))))) (fun c1=>rO (jb 74 c0 (jg g0 (jg g1 (jc (em (Ki A7) [2,0,1] (XM c q pos ln o1 o3 Af gk Ak Es o5 Er)) (jb 83 c1 (jt (gw 97 (lG CA [0,1,2,3,4,5,6] (AG _ _ · m0 m1 m2 AC Ap FG gk)))))))))))))))) (fun _=>lG CA [0,1,2,3,5] (AG _ _ · m0 m1 AC Ap gk))
 case l6 AQ o1 o3 Af o4 o7=>
  intro m0 m1 AC Ap gk;have AC:=zA AC;refine rd Ap fun m1 Ap=>?_
  have p:=H0;refine gs (AI 37 CA) [0,1,2,3,4,5,6,7] p (CP (AX Tryz.f72) 37 [m0,m1]) (AM 208 [(1,.ref 2 0),(3,.fn 103 1 (L1 [.ref 2 0])),(5,.msl 3 1 0 ((((c.cells.length:Int)+1)).toNat)),(7,.fn 104 1 (L1 [.ref 2 0])),(14,.it 4),(16,.i AQ),(17,.it 5),(18,.ref 6 0),(140,.it 7)]) (sG c q pos ln o1 o3 Af gk o4 o7) ?_;revert r;apply gO
  exact gn fun g0=>fun p r h=>by
   replace h:=Sz h;refine Az.nx (ops:=BC Tryz.f72 37) HC.x (by kernel_rfl) (by kernel_rfl) 7 3 Af 2 o3 gk o7 none [1,3,5,7,14,16,17,18,140,142] [0,1,2,3,4,5,6] (AM 208 [(1,.ref 2 0),(3,.fn 103 1 (L1 [.ref 2 0])),(5,.msl 3 1 0 ((((c.cells.length:Int)+1)).toNat)),(7,.fn 104 1 (L1 [.ref 2 0])),(14,.it 4),(16,.i AQ),(17,.it 5),(18,.ref 6 0),(142,.bool false)]) (XN c q pos ln o1 o3 o4) [0,1,2,3,4,5,6,7] (fun y1=>AM 208 [(1,.ref 2 0),(3,.fn 103 1 (L1 [.ref 2 0])),(5,.msl 3 1 0 ((((c.cells.length:Int)+1)).toNat)),(7,.fn 104 1 (L1 [.ref 2 0])),(14,.it 4),(16,.i AQ),(17,.it 5),(18,.ref 6 0),(140,.it 7),(142,.bool true)]) (fun y1=>(sO c q pos ln o1 o3 Af gk o4 o7 y1)) (by kernel_rfl) (by kernel_rfl) (by kernel_rfl) (by decide) g0 (by kernel_rfl) (by kernel_rfl) (fun _=>by kernel_rfl) (fun he=>?_) (fun y1 he=>?_)
   ·replace h:=h.1 he;revert r;apply gO;exact jg (by decide:(0:Int)<=1/\ 1<((2:Nat):Int)) (jg aW (gn fun g1=>jg g1 (ce FZ [0,1] (XN c q pos ln o1 o3 o4) fun y2=>jg (Eq.refl (ZW c AQ q pos ln y2 o3 o4)) (jg (by decide:(0:Int)<=0/\ 0<((2:Nat):Int)) (jg VZ (jg g1 (ce Kh [0,1] (sP c q pos ln y2 o3 o4) fun y3=>jg (Eq.refl (ZZ c AQ q pos ln y3 o3 o4)) (gw 134 (lG (tg:=[([],(ZW c AQ q pos ln y2 o3 o4)),([],(ZZ c AQ q pos ln y3 o3 o4))]) CA [0,1,2,3,5] (AG _ _ · m0 AC))))))))))
   ·replace h:=h.2 y1 he;revert r;apply gO;exact gi (jg (Eq.refl gk.1) (jg (Eq.refl gk.2.1) (jg (Eq.refl gk.2.2) (jt (lN CA [0,1,2,3,4,5,6,8,7,9] (AG _ _ · m0 m1 n AC Ap Nat.le.refl gk))))))
 case l7 AQ DK o1 o3 Af o4 o5 BP BQ C4 C3 o8 DP=>
  intro m0 m1 m2 AC Ap FG gk;have AC:=zA AC;have Ap:=zA Ap;refine rd FG fun m2 FG=>?_
  revert r;apply gO;exact bj 148 (fun c0=>gc (gn fun g0=>jg g0 (gn fun g1=>jg g1 (cn fun y1 A7=>jc (em (Ki A7) [2,0,1] (QW c q pos ln o1 o3 Af gk o4 o5 BP BQ C4 C3 o8 DP)) (jt (bn (fun c1=>rO (jb 148 c0 (jg g0 (jg g1 (jc (em (Ki A7) [2,0,1] (QW c q pos ln o1 o3 Af gk o4 o5 BP BQ C4 C3 o8 DP)) (jb 158 c1 (jt (cn fun y2 Bu=>jc (em (TL Bu) [2,0,1] (XP c q pos ln y1 o3 Af gk o4 o5 BP BQ C4 C3 o8 DP)) (bj 164 (fun c2=>bj 169 (fun c3=>bn (fun c4=>rO (jb 148 c0 (jo 149 (AT.int (k:=.i64) (eq_of_beq c4)) (jg g0 (jg g1 (jc (em (Ki A7) [2,0,1] (QW c q pos ln o1 o3 Af gk o4 o5 BP BQ C4 C3 o8 DP)) (jb 158 c1 (jt (jc (em (TL Bu) [2,0,1] (XP c q pos ln y1 o3 Af gk o4 o5 BP BQ C4 C3 o8 DP)) (jb 164 c2 (jb 169 c3 (jg (by decide:(0:Int)<=0/\ 0<((2:Nat):Int)) (jt (gw 175 (lG CA [0,1,2,3,4,5,6,7,8,9] (AG _ _ · m0 m1 m2 AC Ap FG gk)))))))))))))))) (fun c4=>bn (fun c6=>rO (jb 148 c0 (jo 149 (AT.int (k:=.i64) (eq_of_beq c6)) (jg g0 (jg g1 (jc (em (Ki A7) [2,0,1] (QW c q pos ln o1 o3 Af gk o4 o5 BP BQ C4 C3 o8 DP)) (jb 158 c1 (jt (jc (em (TL Bu) [2,0,1] (XP c q pos ln y1 o3 Af gk o4 o5 BP BQ C4 C3 o8 DP)) (jb 164 c2 (jb 169 c3 (jg (by decide:(0:Int)<=1/\ 1<((2:Nat):Int)) (jt (gw 175 (lG CA [0,1,2,3,4,5,6,7,8,9] (AG _ _ · m0 m1 m2 AC Ap FG gk)))))))))))))))) (fun c6=>nO))) (fun _=>gw 175 (lG CA [0,1,2,3,4,5,6,7,8,9] (AG _ _ · m0 m1 m2 AC Ap FG gk)))) (fun _=>gw 175 (lG CA [0,1,2,3,4,5,6,7,8,9] (AG _ _ · m0 m1 m2 AC Ap FG gk)))))))))))) (fun c1=>rO (jb 148 c0 (jg g0 (jg g1 (jc (em (Ki A7) [2,0,1] (QW c q pos ln o1 o3 Af gk o4 o5 BP BQ C4 C3 o8 DP)) (jb 158 c1 (jt (gw 175 (lG CA [0,1,2,3,4,5,6,7,8,9] (AG _ _ · m0 m1 m2 AC Ap FG gk)))))))))))))))) (fun _=>lG CA [0,1,2,3,4,5,6,8] (AG _ _ · m0 m1 AC Ap gk))
 case l8 x8 An o1 o3 Af o4 Ii=>
  intro m0 m1 AC Ap gk;have AC:=zA AC;refine rd Ap fun m1 Ap=>?_
  have p:=H0;refine gs (AI 17 CA) [0,1,2,3,4] p (CP (AX Tryz.f72) 17 [m0,m1]) (AM 208 [(1,.ref 2 0),(3,.fn 103 1 (L1 [.ref 2 0])),(4,.i (c.cells.length:Int)),(5,.msl 3 1 0 ((((c.cells.length:Int)+1)).toNat)),(7,.fn 104 1 (L1 [.ref 2 0])),(8,.i x8),(58,.i (c.cells.length:Int)),(59,.i An),(66,.it 4)]) (sN c q pos ln o1 o3 Af gk o4 Ii) ?_;revert r;apply gO
  exact gn fun g0=>fun p r h=>by
   replace h:=Sz h;refine Az.nx (ops:=BC Tryz.f72 17) HC.x (by kernel_rfl) (by kernel_rfl) 4 3 Af 2 o3 gk o4 (some Ii) [1,3,4,5,7,8,58,59,66,68] [0,1,2,3] (AM 208 [(1,.ref 2 0),(3,.fn 103 1 (L1 [.ref 2 0])),(4,.i (c.cells.length:Int)),(5,.msl 3 1 0 ((((c.cells.length:Int)+1)).toNat)),(7,.fn 104 1 (L1 [.ref 2 0])),(8,.i x8),(58,.i (c.cells.length:Int)),(59,.i An),(68,.bool false)]) (XQ c q pos ln o1 o3) [0,1,2,3,4] (fun y1=>AM 208 [(1,.ref 2 0),(3,.fn 103 1 (L1 [.ref 2 0])),(4,.i (c.cells.length:Int)),(5,.msl 3 1 0 ((((c.cells.length:Int)+1)).toNat)),(7,.fn 104 1 (L1 [.ref 2 0])),(8,.i x8),(58,.i (c.cells.length:Int)),(59,.i An),(66,.it 4),(68,.bool true)]) (fun y1=>(dk c q pos ln o1 o3 Af gk o4 y1)) (by kernel_rfl) (by kernel_rfl) (by kernel_rfl) (by decide) g0 (by kernel_rfl) (by kernel_rfl) (fun _=>by kernel_rfl) (fun he=>?_) (fun y1 he=>?_)
   ·replace h:=h.1 he;revert r;apply gO;exact gw 98 (lG CA [0,1,2,3] (AG _ _ · m0 AC))
   ·replace h:=h.2 y1 he;revert r;apply gO;exact gi (jg (Eq.refl gk.1) (jg (Eq.refl gk.2.1) (jg (Eq.refl gk.2.2) (jt (lN CA [0,1,2,3,5,4,6] (AG _ _ · m0 m1 n AC Ap Nat.le.refl gk))))))
 case l9 AQ o1 o3 Af o4 o5 BP BQ o7 Ih=>
  intro m0 m1 AC Ap gk;have AC:=zA AC;refine rd Ap fun m1 Ap=>?_
  have p:=H0;refine gs (AI 37 CA) [0,1,2,3,4,5,6,7] p (CP (AX Tryz.f72) 37 [m0,m1]) (AM 208 [(1,.ref 2 0),(3,.fn 103 1 (L1 [.ref 2 0])),(5,.msl 3 1 0 ((((c.cells.length:Int)+1)).toNat)),(7,.fn 104 1 (L1 [.ref 2 0])),(14,.it 4),(16,.i AQ),(17,.it 5),(18,.ref 6 0),(140,.it 7)]) (sM c q pos ln o1 o3 Af gk o4 o5 BP BQ o7 Ih) ?_;revert r;apply gO
  exact gn fun g0=>fun p r h=>by
   replace h:=Sz h;refine Az.nx (ops:=BC Tryz.f72 37) HC.x (by kernel_rfl) (by kernel_rfl) 7 3 Af 2 o3 gk o7 (some Ih) [1,3,5,7,14,16,17,18,140,142] [0,1,2,3,4,5,6] (AM 208 [(1,.ref 2 0),(3,.fn 103 1 (L1 [.ref 2 0])),(5,.msl 3 1 0 ((((c.cells.length:Int)+1)).toNat)),(7,.fn 104 1 (L1 [.ref 2 0])),(14,.it 4),(16,.i AQ),(17,.it 5),(18,.ref 6 0),(142,.bool false)]) (XO c q pos ln o1 o3 o4 o5 BP BQ) [0,1,2,3,4,5,6,7] (fun y1=>AM 208 [(1,.ref 2 0),(3,.fn 103 1 (L1 [.ref 2 0])),(5,.msl 3 1 0 ((((c.cells.length:Int)+1)).toNat)),(7,.fn 104 1 (L1 [.ref 2 0])),(14,.it 4),(16,.i AQ),(17,.it 5),(18,.ref 6 0),(140,.it 7),(142,.bool true)]) (fun y1=>(sJ c q pos ln o1 o3 Af gk o4 o5 BP BQ o7 y1)) (by kernel_rfl) (by kernel_rfl) (by kernel_rfl) (by decide) g0 (by kernel_rfl) (by kernel_rfl) (fun _=>by kernel_rfl) (fun he=>?_) (fun y1 he=>?_)
   ·replace h:=h.1 he;revert r;apply gO;exact jg (by decide:(0:Int)<=1/\ 1<((2:Nat):Int)) (bi 179 (jg aW (gn fun g1=>jg g1 (ce FZ [0,1] (XO c q pos ln o1 o3 o4 o5 BP BQ) fun y2=>jg (Eq.refl (VG c AQ q pos ln y2 o3 o4 o5 BP BQ)) (jg (by decide:(0:Int)<=0/\ 0<((2:Nat):Int)) (bi 197 (jg VZ (jg g1 (ce Kh [0,1] (sL c q pos ln y2 o3 o4 o5 BP BQ) fun y3=>jg (Eq.refl (ZY c AQ q pos ln y3 o3 o4 o5 BP BQ)) (gw 134 (lG (tg:=[([],(VG c AQ q pos ln y2 o3 o4 o5 BP BQ)),([],(ZY c AQ q pos ln y3 o3 o4 o5 BP BQ))]) CA [0,1,2,3,5] (AG _ _ · m0 AC)))))) (gw 134 (lG (tg:=[([],(VG c AQ q pos ln y2 o3 o4 o5 BP BQ))]) CA [0,1,2,3,5] (AG _ _ · m0 AC)))))))) (jg (by decide:(0:Int)<=0/\ 0<((2:Nat):Int)) (bi 197 (jg VZ (gi (ce Kh [0,1] (XO c q pos ln o1 o3 o4 o5 BP BQ) fun y2=>jg (Eq.refl (ZX c AQ q pos ln y2 o3 o4 o5 BP BQ)) (gw 134 (lG (tg:=[([],(ZX c AQ q pos ln y2 o3 o4 o5 BP BQ))]) CA [0,1,2,3,5] (AG _ _ · m0 AC)))))) (gw 134 (lG CA [0,1,2,3,5] (AG _ _ · m0 AC))))))
   ·replace h:=h.2 y1 he;revert r;apply gO;exact gi (jg (Eq.refl gk.1) (jg (Eq.refl gk.2.1) (jg (Eq.refl gk.2.2) (jt (lN CA [0,1,2,3,4,5,6,8,7,9] (AG _ _ · m0 m1 n AC Ap Nat.le.refl gk))))))
theorem lh {n:Nat} {c:AB} {q:AA} {pos:List Int} {ln:Nat} {lost:List Int} {r:Bool×(List Int)} (h:NH n c q pos ln lost=some r):EQ 72 [.ref 0 0] [some (.cells (AF c++AD q++[.ints pos,.msl 1 1 0 ln])),some (.ints lost)] (.bool r.1) [some (.cells (AF c++AD q++[.ints pos,.msl 1 1 0 ln])),some (.ints r.2)] false:=by
 refine ot Tryz.func72 fun B N=>?_
 revert r;apply gO;exact bi 32 (lE CA [2] [0,1]) (gc (gw 41 (gi (lN CA [0,1,2,3] ((lm B N c q pos ln lost n) _ _ · n Nat.le.refl)))))
end Go.Proofs.YtgkhhfnhacibcaaGreatDoor
