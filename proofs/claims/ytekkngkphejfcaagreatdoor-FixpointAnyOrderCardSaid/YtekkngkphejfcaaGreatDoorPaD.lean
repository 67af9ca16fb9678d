/- Part 4 of 6 of what the proofs of these laws stand on. -/
import Derived.Test.YtekkngkphejfcaaGreatDoorPaC
import Derived.Laws.BitsLemmas
import Derived.Shelf.Sort.Plain
set_option linter.all false
namespace Go.Proofs.YtekkngkphejfcaaGreatDoor
abbrev yQ:=@decide_eq_true_iff
abbrev yj:=@List.mem_append_left
abbrev yy:=@List.mem_append_right
abbrev yz:=@List.length_singleton
abbrev zT:=@List.getElem?_set_ne
abbrev zZ:=@List.getElem?_set_self
abbrev zh:=@Bool.false_and
abbrev z8:=@List.countP_cons
abbrev zAS:=@List.append_nil
abbrev zAX:=@List.append_assoc
abbrev zBA:=@Bool.and_false
end Go.Proofs.YtekkngkphejfcaaGreatDoor
namespace Go.Proofs.YtekkngkphejfcaaGreatDoor
open Go.RowKit
def nb (g:List (List Int)) (v:Int):List Int:=g.getD v.toNat []
structure Gr (g:List (List Int)):Prop where
 len:g.length<=256
 row: ∀ v,0<=v -> v<(g.length:Int) -> (nb g v).length<=256
 rng: ∀ v,0<=v -> v<(g.length:Int) -> ∀ u∈nb g v,0<=u/\ u<(g.length:Int)
 sym: ∀ v,0<=v -> v<(g.length:Int) -> ∀ u∈nb g v,v∈nb g u
theorem Gr.of {g:List (List Int)} (h:Hp g=true) (hr: ∀ r∈g,r.length<=LB):Gr g:=by
 unfold Hp at h;rw [yG,yQ,yL] at h
 have key: ∀ v,0<=v -> v<(g.length:Int) -> ∀ u∈nb g v,(0<=u/\ u<(g.length:Int))/\ v∈nb g u:=by
  intro v h0 h1 u hu;have h2:=h.2 v.toNat (yP.2 (by omega));unfold Gk at h2;rw [yL] at h2;obtain ⟨j,hj,e⟩:=zX hu;have h3:=h2 j (yP.2 hj);unfold Ek at h3
  have e2:(g.getD v.toNat []).getD j 0=u:=by
   show (nb g v).getD j 0=u
   rw [u8,xz hj];exact e
  simp only [e2,yG,yQ,zr] at h3;have e3:((v.toNat:Nat):Int)=v:=by omega
  rw [e3] at h3;exact ⟨⟨h3.1.1.1.1,h3.1.1.1.2⟩,h3.2⟩
 have grow: ∀ v,0<=v -> v<(g.length:Int) -> ∀ k,k<(nb g v).length -> (k:Int)<=(nb g v).getD k 0:=by
  intro v h0 h1 k;have h2:=h.2 v.toNat (yP.2 (by omega));unfold Gk at h2;rw [yL] at h2
  induction k with
  | zero=>
   intro hk;have h3:=h2 0 (yP.2 hk);unfold Ek at h3;simp only [yG,yQ] at h3;exact h3.1.1.1.1
  | succ k ih=>
   intro hk;have h3:=h2 (k+1) (yP.2 hk);unfold Ek at h3;have d:decide (0<k+1)=true:=yI (by omega);simp only [yG,yQ,d,yq,zv,Nat.add_sub_cancel] at h3;have h4:(nb g v).getD k 0<(nb g v).getD (k+1) 0:=h3.1.2;have:=ih (by omega);omega
 exact ⟨h.1,fun v h0 h1=>by
  refine zA0 fun hl=>?_
  have h2:=grow v h0 h1 256 hl;have h3:(nb g v).getD 256 0∈nb g v:=by rw [u8,xz hl];exact yZ hl
  have h4:=(key v h0 h1 _ h3).1;have:=h.1;omega,fun v h0 h1 u hu=>(key v h0 h1 u hu).1,fun v h0 h1 u hu=>(key v h0 h1 u hu).2⟩
inductive Rc (g:List (List Int)) (inn:List Bool) (s:Int):Int -> Prop
 | start:Rc g inn s s
 | step {a b:Int} (h:Rc g inn s a) (hb:b∈nb g a) (hi:inn.getD b.toNat false=true):Rc g inn s b
section
variable {g:List (List Int)} {inn:List Bool} {s:Int}
theorem Rc.rng (G:Gr g) (h0:0<=s) (h1:s<(g.length:Int)) {v:Int} (h:Rc g inn s v):0<=v/\ v<(g.length:Int):=by
 induction h with
 | start=>exact ⟨h0,h1⟩
 | step h hb hi ih=>exact G.rng _ ih.1 ih.2 _ hb
theorem Rc.isIn (hs:inn.getD s.toNat false=true) {v:Int} (h:Rc g inn s v):inn.getD v.toNat false=true:=by
 cases h with
 | start=>exact hs
 | step h hb hi=>exact hi
theorem Rc.trans {a b:Int} (h:Rc g inn s a) (h2:Rc g inn a b):Rc g inn s b:=by
 induction h2 with
 | start=>exact h
 | step _ hb hi ih=>exact .step ih hb hi
theorem Rc.symm (G:Gr g) (h0:0<=s) (h1:s<(g.length:Int)) (hs:inn.getD s.toNat false=true) {v:Int} (h:Rc g inn s v):Rc g inn v s:=by
 induction h with
 | start=>exact .start
 | step h hb hi ih=>
  have hr:=h.rng G h0 h1;exact (Rc.step Rc.start (G.sym _ hr.1 hr.2 _ hb) (h.isIn hs)).trans ih
theorem Rc.mono {d7:List Bool} (hm: ∀ v:Int,inn.getD v.toNat false=true -> d7.getD v.toNat false=true) {v:Int} (h:Rc g inn s v):Rc g d7 s v:=by
 induction h with
 | start=>exact .start
 | step h hb hi ih=>exact .step ih hb (hm _ hi)
def FB (l:List Bool):Nat:=l.countP fun b=>!b
theorem Uz: ∀ (l:List Bool) (i:Nat),i<l.length -> l.getD i false=false -> FB (l.set i true)+1=FB l
 | b::l,0,_,h=>by
  have h:b=false:=h;subst h;simp [FB,z8]
 | b::l,i+1,hi,h=>by
  have:=Uz l i (Nat.lt_of_succ_lt_succ hi) (by simpa using h)
  show FB (b::l.set i true)+1=FB (b::l)
  unfold FB at this ⊢;rw [z8,z8];omega
def C6 (inn:List Bool) (st:List Bool×List Int) (v:Int):List Bool×List Int:=bif inn.getD v.toNat false&&!st.1.getD v.toNat false then (st.1.set v.toNat true,st.2++[v]) else st
structure Bf (g:List (List Int)) (inn:List Bool) (s:Int) (met:List Bool) (Q P:List Int):Prop where
 len:met.length=g.length
 cnt:Q.length+FB met<=g.length
 nd:(P++Q).Nodup
 rc: ∀ v∈P++Q,Rc g inn s v
 rng: ∀ v∈P++Q,0<=v/\ v<(g.length:Int)
 met: ∀ v:Int,0<=v -> v<(g.length:Int) -> (met.getD v.toNat false=true↔v∈P++Q)
 cl: ∀ p∈P,∀ b∈nb g p,inn.getD b.toNat false=true -> b∈P++Q
 st:s∈P++Q
theorem Bf.ex (G:Gr g) {met:List Bool} {Q P:List Int} (h:Bf g inn s met Q P) {v u:Int} (hv:v∈Q) (hu:u∈nb g v):
 Bf g inn s (C6 inn (met,Q) u).1 (C6 inn (met,Q) u).2 P/\ (∃ t,(C6 inn (met,Q) u).2=Q++t)/\ (inn.getD u.toNat false=true -> u∈P++(C6 inn (met,Q) u).2)/\ 2*FB (C6 inn (met,Q) u).1+(C6 inn (met,Q) u).2.length<=2*FB met+Q.length:=by
 have Hh:=h.rng v (yy _ hv);have Ib:=G.rng v Hh.1 Hh.2 u hu;unfold C6
 dsimp only
 cases hi:inn.getD u.toNat false
 ·rw [zh,yB];exact ⟨h,⟨[],(zAS _).symm⟩,fun h=>(by cases h),yf _⟩
 ·cases hm:met.getD u.toNat false
  ·rw [zC,Bool.and_true,yF];have hn:u∉P++Q:=fun hh=>by rw [(h.met u Ib.1 Ib.2).2 hh] at hm;cases hm
   have hl:=h.len;have hc:=Uz met u.toNat (by omega) hm;have hcnt:=h.cnt;have Bx: ∀ x,x∈P++(Q++[u])↔x∈P++Q∨x=u:=fun x=>by simp [or_assoc]
   refine ⟨⟨by rw [yp];exact hl,by show (Q++[u]).length+FB (met.set u.toNat true)<=_;rw [yu,yz];omega,?_,fun x hx=>?_,fun x hx=>?_,fun x FL Ln=>?_,fun p hp b hb uQ=>(Bx b).2 (.inl (h.cl p hp b hb uQ)),(Bx s).2 (.inl h.st)⟩,⟨[u],rfl⟩,fun _=>(Bx u).2 (.inr rfl),by show 2*FB (met.set u.toNat true)+(Q++[u]).length<=_;rw [yu,yz];omega⟩
   ·rw [←zAX,List.nodup_append];exact ⟨h.nd,by simp,fun a ha b hb=>by rw [yV] at hb;subst hb;exact fun e=>hn (e▸ha)⟩
   ·rcases (Bx x).1 hx with hx | rfl
    ·exact h.rc x hx
    ·exact .step (h.rc v (yy _ hv)) hu hi
   ·rcases (Bx x).1 hx with hx | rfl
    ·exact h.rng x hx
    ·exact Ib
   ·rw [Bx,←h.met x FL Ln]
    by_cases e:x=u
    ·subst e;rw [u8,zZ (by omega)];exact ⟨fun _=>.inr rfl,fun _=>rfl⟩
    ·rw [u8,zT (by omega),←u8];exact ⟨.inl,fun h=>h.elim id fun h=>absurd h e⟩
  ·rw [yq,zBA,yB];exact ⟨h,⟨[],by simp⟩,fun _=>(h.met u Ib.1 Ib.2).1 hm,yf _⟩
theorem Bf.exs (G:Gr g) {v:Int} {P:List Int}: ∀ (l:List Int) {met:List Bool} {Q:List Int},Bf g inn s met Q P -> v∈Q -> (∀ u∈l,u∈nb g v) ->
 Bf g inn s (l.foldl (C6 inn) (met,Q)).1 (l.foldl (C6 inn) (met,Q)).2 P/\ (∃ t,(l.foldl (C6 inn) (met,Q)).2=Q++t)/\ (∀ u∈l,inn.getD u.toNat false=true -> u∈P++(l.foldl (C6 inn) (met,Q)).2)/\ 2*FB (l.foldl (C6 inn) (met,Q)).1+(l.foldl (C6 inn) (met,Q)).2.length<=2*FB met+Q.length
 | [],met,Q,h,hv,hl=>⟨h,⟨[],by simp⟩,fun u hu=>absurd hu z7,yf _⟩
 | u::l,met,Q,h,hv,hl=>by
  obtain ⟨h1,⟨t,ht⟩,h2,h3⟩:=h.ex G hv (hl u zM);obtain ⟨h4,⟨t',Tu⟩,h5,h6⟩:=Bf.exs G l h1 (by rw [ht];exact yj _ hv) fun x hx=>hl x (yo _ hx)
  refine ⟨h4,⟨t++t',?_⟩,fun x hx hi=>?_,yO h6 h3⟩
  ·show (List.foldl (C6 inn) (C6 inn (met,Q) u) l).2=_
   rw [Tu,ht,zAX]
  ·rcases yd.1 hx with rfl | hx
   ·show x∈P++(List.foldl (C6 inn) (C6 inn (met,Q) x) l).2
    rw [Tu,←zAX];exact yj _ (h2 hi)
   ·exact h5 x hx hi
theorem qD {n j:Nat} {l:List Int} {met:List Bool} {Q:List Int} (hI:inn.length=g.length) (hG:g.length<=256) (hm:met.length=g.length) (hQ:Q.length+FB met<=g.length) (hj:j<l.length) (hl:l.length<=256) (hr:0<=l.getD j 0/\ l.getD j 0<(g.length:Int)):
 Dp g s inn (n+1) (.l2 Q.length l (l.length:Int) (j:Int) met Q)=Dp g s inn n (.l2 (C6 inn (met,Q) (l.getD j 0)).2.length l (l.length:Int) ((j:Int)+1) (C6 inn (met,Q) (l.getD j 0)).1 (C6 inn (met,Q) (l.getD j 0)).2):=by
 have r1:AH ((j:Int)+1):=At.2 ⟨by omega,by omega⟩;have L:(1000000000000:Nat)=BT:=rfl
 show I1 n (Dp g s inn n) g s inn Q.length l (l.length:Int) (j:Int) met Q=_
 unfold I1 C6;simp only [yH,yX];rw [yI (by omega),yF,yC ⟨⟨by omega,by omega⟩,by omega,by omega⟩];cases hi:inn.getD (l.getD j 0).toNat false
 ·rw [yB,zh,yB,yC r1]
 ·rw [yF,ye,yC ⟨hr,by omega⟩];cases ht:met.getD (l.getD j 0).toNat false
  ·have hc:=Uz met (l.getD j 0).toNat (by omega) ht;rw [zC,yF,yF,yC ⟨⟨⟨trivial,rfl⟩,⟨trivial,trivial⟩,by rw [yz,←L];omega⟩,r1⟩,yu]
  ·rw [yq,yB,yB,yC r1]
theorem dk (hI:inn.length=g.length) (G:Gr g) {v:Int} {P:List Int} {l:List Int} (hl:l.length<=256) (X4: ∀ u∈l,u∈nb g v): ∀ (k j n:Nat) {met:List Bool} {Q:List Int},j+k=l.length -> Bf g inn s met Q P -> v∈Q ->
 Dp g s inn (n+k) (.l2 Q.length l (l.length:Int) (j:Int) met Q)=Dp g s inn n (.l2 ((l.drop j).foldl (C6 inn) (met,Q)).2.length l (l.length:Int) (l.length:Int) ((l.drop j).foldl (C6 inn) (met,Q)).1 ((l.drop j).foldl (C6 inn) (met,Q)).2)
 | 0,j,n,met,Q,e,h,hv=>by
  have e:j=l.length:=by omega
  subst e;rw [List.drop_length];rfl
 | k+1,j,n,met,Q,e,h,hv=>by
  have hj:j<l.length:=by omega
  have hu:l.getD j 0∈l:=by rw [u8,xz hj];exact yZ hj
  have Hh:=h.rng v (yy _ hv);have hr:=G.rng v Hh.1 Hh.2 _ (X4 _ hu);obtain ⟨h1,⟨t,ht⟩,_,_⟩:=h.ex G hv (X4 _ hu);rw [←zB,qD hI G.len h.len h.cnt hj hl hr];have:=dk hI G hl X4 k (j+1) n (by omega) h1 (by rw [ht];exact yj _ hv);have e1:(((j+1:Nat)):Int)=(j:Int)+1:=by omega
  rw [e1] at this;rw [this]
  have e2:l.drop j=l.getD j 0::l.drop (j+1):=by
   rw [yc hj,u8,xz hj];rfl
  rw [e2];rfl
def Kq (g:List (List Int)) (inn:List Bool) (s:Int) (P l:List Int):Prop:=(P++l).Nodup/\ (∀ v,v∈P++l↔Rc g inn s v)
theorem Bf.done {met:List Bool} {P:List Int} (h:Bf g inn s met [] P):Kq g inn s P []:=by
 refine ⟨h.nd,fun v=>⟨h.rc v,fun hv=>?_⟩⟩
 induction hv with
 | start=>exact h.st
 | step _ hb hi ih=>exact h.cl _ (by simpa using ih) _ hb hi
theorem Ab.map {R:Type} {f:Nat -> Option R} {Q:R -> Prop} {Q':R -> Prop} {m:R -> R} (h:Ab f Q) (hq: ∀ r,Q r -> Q' (m r)):Ab (fun n=>(f n).map m) Q':=by
 obtain ⟨N,h⟩:=h;refine ⟨N,fun n hn=>?_⟩;obtain ⟨r,h1,h2⟩:=h n hn;exact ⟨m r,by show (f n).map m=_;rw [h1];rfl,hq r h2⟩
theorem xC (G:Gr g) (hI:inn.length=g.length): ∀ (z:Nat) (met:List Bool) (Q P:List Int),2*FB met+Q.length=z -> Bf g inn s met Q P -> Ab (fun n=>Dp g s inn n (.l1 Q.length met Q)) (Kq g inn s P):=by
 intro z
 induction z using Nat.strongRecOn with
 | _ z ih=>
  intro met Q P hz h;cases Q with
  | nil=>
   refine Ev.p (r:=[]) ⟨1,fun n hn=>?_⟩ h.done;obtain ⟨n,rfl⟩: ∃ k,n=k+1:=⟨n-1,by omega⟩
   show LE n (Dp g s inn n) g s inn 0 met []=_
   unfold LE;rw [yA (by omega),yB]
  | cons v q=>
   have hv:v∈v::q:=zM;have Hh:=h.rng v (yy _ hv);obtain ⟨h1,⟨t,ht⟩,h2,h3⟩:=h.exs G (nb g v) hv (fun u hu=>hu);have hl:=G.row v Hh.1 Hh.2
   generalize E4:(nb g v).foldl (C6 inn) (met,v::q)=st at h1 ht h2 h3
   obtain ⟨M8,Q'⟩:=st;have ht:Q'=v::(q++t):=ht;subst ht
   have hB:Bf g inn s M8 (q++t) (P++[v]):=by
    have e:P++[v]++(q++t)=P++(v::(q++t)):=by simp
    have hc:=h1.cnt;simp only [zQ] at hc;refine ⟨h1.len,by omega,by rw [e];exact h1.nd,by rw [e];exact h1.rc,by rw [e];exact h1.rng,by rw [e];exact h1.met,?_,by rw [e];exact h1.st⟩;intro p hp b hb hi;rw [e];rcases yb.1 hp with hp | hp
    ·exact h1.cl p hp b hb hi
    ·rw [yV] at hp;subst hp;exact h2 b hb hi
   have qx:2*FB M8+(q++t).length<z:=by
    simp only [zQ] at h3;simp only [yu] at h3 ⊢;have:(v::q).length=q.length+1:=rfl;omega
   have IH:=ih _ qx M8 (q++t) (P++[v]) rfl hB
   have key:Ab (fun n=>Dp g s inn n (.l2 (v::(q++t)).length (nb g v) ((nb g v).length:Int) ((nb g v).length:Int) M8 (v::(q++t)))) (Kq g inn s (P++[v])):=by
    have g0:(0:Int)<=1/\ (1:Int)<=(((v::(q++t)).length:Nat):Int)/\ (((v::(q++t)).length:Nat):Int)<=(((v::(q++t)).length:Nat):Int):=⟨by omega,by rw [zQ];omega,zV _⟩;cases Xj:q++t with
    | nil=>
     rw [Xj] at hB;refine Ev.p (r:=[]) ⟨2,fun n hn=>?_⟩ hB.done;obtain ⟨n,rfl⟩: ∃ k,n=k+2:=⟨n-2,by omega⟩
     show I1 (n+1) (Dp g s inn (n+1)) g s inn 1 (nb g v) ((nb g v).length:Int) ((nb g v).length:Int) M8 [v]=_
     unfold I1;rw [yA (by omega),yB];rfl
    | cons a r=>
     rw [←Xj];refine Ab.step 1 (fun n=>?_) IH
     show I1 n (Dp g s inn n) g s inn (v::(q++t)).length (nb g v) ((nb g v).length:Int) ((nb g v).length:Int) M8 (v::(q++t))=_
     unfold I1;have e0:((v::(q++t)).length-1==0)=false:=by rw [Xj];rfl
     rw [yA (by omega),yB,e0,yB,yC g0,yC (by rw [zQ];omega)];rfl
   have qK:Ab (fun n=>Dp g s inn n (.l2 (v::q).length (nb g v) ((nb g v).length:Int) 0 met (v::q))) (Kq g inn s (P++[v])):=by
    refine Ab.step (nb g v).length (fun n=>?_) key;have:=dk hI G hl (fun u hu=>hu) (nb g v).length 0 n (by omega) h hv;rw [zA9,E4] at this;exact this
   have m: ∀ r:List Int,Kq g inn s (P++[v]) r -> Kq g inn s P (v::r):=fun r hr=>by
    have e:P++[v]++r=P++(v::r):=by simp
    unfold Kq at hr ⊢;rw [e] at hr;exact hr
   refine Ab.step 1 (fun n=>?_) (Ab.map qK m)
   show LE n (Dp g s inn n) g s inn (v::q).length met (v::q)=_
   unfold LE;have g1:((0:Int)<=0/\ 0<(((v::q).length:Nat):Int))/\ 0+0<(v::q).length:=by rw [zQ];omega
   rw [yI (by rw [zQ];omega),yF,yC g1];have e1:(v::q).getD (0+0) 0=v:=rfl;rw [e1,yC ⟨g1.1,g1.2,Hh⟩];rfl
theorem V9 (G:Gr g) (hI:inn.length=g.length) (h0:0<=s) (h1:s<(g.length:Int)):Ab (fun n=>Fc n g s inn) (fun l=>l.Nodup/\ ∀ v,v∈l↔Rc g inn s v):=by
 have Ae:((List.replicate g.length false).set s.toNat true).length=g.length:=by simp
 have hG:=G.len;have hc:=Uz (List.replicate g.length false) s.toNat (by rw [yY];omega) (by simp [u8,zL];split <;> rfl)
 have Hm:FB (List.replicate g.length false)<=g.length:=by
  have:=List.countP_le_length (p:=fun b=>!b) (l:=List.replicate g.length false);rw [yY] at this;exact this
 have hB:Bf g inn s ((List.replicate g.length false).set s.toNat true) [s] []:=by
  refine ⟨Ae,by rw [yz];omega,by simp,fun v hv=>?_,fun v hv=>?_,fun v Ia Bb=>?_,fun p hp=>absurd hp z7,by simp⟩
  ·have:v=s:=by simpa using hv
   subst this;exact .start
  ·have:v=s:=by simpa using hv
   subst this;exact ⟨h0,h1⟩
  ·by_cases e:v=s
   ·subst e;rw [u8,zZ (by rw [yY];omega)];simp
   ·rw [u8,zT (by omega),zL];simp only [zc,yV,e,iff_false];split <;> simp
 have:=xC G hI _ _ _ _ rfl hB;refine (Ab.mono (Q':=fun l=>l.Nodup/\ ∀ v,v∈l↔Rc g inn s v) this (fun l (hl:Kq g inn s [] l)=>(⟨hl.1,hl.2⟩:l.Nodup/\ ∀ v,v∈l↔Rc g inn s v))).eq fun n=>?_
 unfold Fc V8;rw [yC ⟨⟨rfl,by omega,by omega⟩,⟨h0,h1⟩,by simp only [yY];omega⟩,yX];rfl
end
end Go.Proofs.YtekkngkphejfcaaGreatDoor
namespace Go.Proofs.YtekkngkphejfcaaGreatDoor
abbrev zAR:=@BitVec.toNat_ofInt
abbrev zAb:=@Nat.pow_le_pow_right
abbrev zAx:=@Nat.testBit_lt_two_pow
end Go.Proofs.YtekkngkphejfcaaGreatDoor
namespace Go.Proofs.YtekkngkphejfcaaGreatDoor
def tb (x:Int) (i:Nat):Bool:=(BitVec.ofInt 64 x).getLsbD i
def Bl (x:Int):Prop:=-9223372036854775808<=x/\ x<=9223372036854775807
theorem Pi (x:Int):BitVec.ofInt 64 (IntKind.i64.wrap x)=BitVec.ofInt 64 x:=by
 apply BitVec.eq_of_toNat_eq;rw [zAR,zAR,zA1]
 congr 1
 omega
theorem TH (y:BitVec 64):BitVec.ofInt 64 (y.toNat:Int)=y:=by
 rw [zAa];simp
theorem jD (x:Int):Bl (IntKind.i64.wrap x):=by
 rw [zA1];constructor <;> omega
theorem GC (op:BinOp) (a b:Int):Bl (bits op .i64 a b):=jD _
theorem Kv (a b:Int) (i:Nat):tb (bits .or .i64 a b) i=(tb a i||tb b i):=by
 show (BitVec.ofInt 64 (IntKind.i64.wrap ((BitVec.ofInt 64 a||| BitVec.ofInt 64 b).toNat:Int))).getLsbD i=_
 rw [Pi,TH,BitVec.getLsbD_or];rfl
theorem IF (a b:Int) (i:Nat):tb (bits .and .i64 a b) i=(tb a i&&tb b i):=by
 show (BitVec.ofInt 64 (IntKind.i64.wrap ((BitVec.ofInt 64 a&&& BitVec.ofInt 64 b).toNat:Int))).getLsbD i=_
 rw [Pi,TH,BitVec.getLsbD_and];rfl
theorem HI {x:Int} {i:Nat} (h:64<=i):tb x i=false:=BitVec.getLsbD_of_ge _ _ h
theorem Kx (a b:Int) (i:Nat):tb (bits .andNot .i64 a b) i=(tb a i&&!tb b i):=by
 show (BitVec.ofInt 64 (IntKind.i64.wrap ((BitVec.ofInt 64 a&&& ~~~ BitVec.ofInt 64 b).toNat:Int))).getLsbD i=_
 rw [Pi,TH,BitVec.getLsbD_and,BitVec.getLsbD_not]
 by_cases h:i<64
 ·simp [h,tb]
 ·have h:64<=i:=by omega
  have:=HI (x:=a) h;unfold tb at*;rw [this];simp
theorem Rs (a:Int) {i:Nat} (h:i<64):tb (bits .xor .i64 (-1) a) i= !tb a i:=by
 show (BitVec.ofInt 64 (IntKind.i64.wrap ((BitVec.ofInt 64 (-1) ^^^ BitVec.ofInt 64 a).toNat:Int))).getLsbD i=_
 rw [Pi,TH,BitVec.getLsbD_xor];have:BitVec.ofInt 64 (-1)=BitVec.allOnes 64:=by decide
 rw [this,BitVec.getLsbD_allOnes];simp [h,tb]
theorem Vi (i:Nat):tb 0 i=false:=by
 unfold tb;rw [show BitVec.ofInt 64 0=0#64 from rfl];simp
theorem IG {i:Nat}: ¬ tb 0 i=true:=by rw [Vi];decide
theorem Jk {x y:Int} (hx:Bl x) (hy:Bl y) (h: ∀ i,i<64 -> tb x i=tb y i):x=y:=by
 have e:BitVec.ofInt 64 x=BitVec.ofInt 64 y:=BitVec.eq_of_getLsbD_eq fun i hi=>h i hi
 have e2:=congrArg BitVec.toNat e;rw [zAR,zAR] at e2;unfold Bl at*;omega
theorem Kw (m i:Nat) (hi:i<64):tb (m:Int) i=m.testBit i:=by
 unfold tb;rw [zAa,BitVec.getLsbD_ofNat];simp [hi]
def Sm (k:Nat) (x:Int):Prop:=0<=x/\ x<2 ^ k
theorem LJ {k:Nat} (hk:k<=62):(2:Int) ^ k<=4611686018427387904:=by
 have:(2:Nat) ^ k<=2 ^ 62:=zAb (by decide) hk;have h:((2 ^ k:Nat):Int)<=((2 ^ 62:Nat):Int):=by exact_mod_cast this
 simpa using h
theorem Sm.in64 {k:Nat} {x:Int} (hk:k<=62) (h:Sm k x):Bl x:=by
 have:=LJ hk;obtain ⟨h1,h2⟩:=h;constructor <;> omega
theorem Sm.hi {k:Nat} {x:Int} (h:Sm k x) {i:Nat} (hi:k<=i):tb x i=false:=by
 rcases zd i 64 with Fr | Fr
 ·obtain ⟨m,rfl⟩:=zAM h.1;rw [Kw m i Fr];apply zAx;have h2:(m:Int)<2 ^ k:=h.2;have h3:m<2 ^ k:=by exact_mod_cast h2
  exact yN h3 (zAb (by decide) hi)
 ·exact HI Fr
theorem kS {k:Nat} (hk:k<=62) {x:Int} (hx:Bl x) (h: ∀ i,k<=i -> i<64 -> tb x i=false):Sm k x:=by
 have hy:(BitVec.ofInt 64 x).toNat<2 ^ k:=by
  apply Nat.lt_pow_two_of_testBit;intro i hi;rcases zd i 64 with Fr | Fr
  ·have:=h i hi Fr;unfold tb at this
   rwa [BitVec.getLsbD] at this
  ·exact zAx (yN (BitVec.isLt _) (zAb (by decide) Fr))
 rw [zAR] at hy;have h1:=LJ hk;have h2:((2 ^ k:Nat):Int)=(2:Int) ^ k:=by simp
 unfold Bl at hx;unfold Sm;omega
theorem js {s i:Nat} (hi:i<64):tb ((2 ^ s:Nat):Int) i=decide (s=i):=by
 rw [Kw _ _ hi,Nat.testBit_two_pow]
theorem Mb {x:Int} (hx:Bl x):x=0↔∀ i,i<64 -> tb x i=false:=
 ⟨fun h i _=>by rw [h];exact Vi i,fun h=>Jk hx ⟨by decide,by decide⟩ fun i hi=>by rw [h i hi,Vi]⟩
theorem Et {x:Int} (hx:Bl x):x≠0↔∃ i,i<64/\ tb x i=true:=by
 rw [ne_eq,Mb hx];constructor
 ·intro h;refine Classical.byContradiction fun h2=>h fun i hi=>?_
  cases hb:tb x i with
  | false=>rfl
  | true=>exact absurd ⟨i,hi,hb⟩ h2
 ·rintro ⟨i,hi,hb⟩ h;rw [h i hi] at hb;cases hb
end Go.Proofs.YtekkngkphejfcaaGreatDoor
namespace Go.Proofs.YtekkngkphejfcaaGreatDoor
open Go.RowKit
theorem TO {S R:Type} (m:Nat -> S -> Int -> Option R) (len N0:Nat) (Inv:Nat -> S -> Prop)
 (h: ∀ (n i:Nat) (s:S),N0<=n -> i<len -> Inv i s -> ∃ s',m (n+1) s (i:Int)=m n s' ((i:Int)+1)/\ Inv (i+1) s'):
 ∀ (k i n:Nat) (s:S),i+k=len -> N0<=n -> Inv i s -> ∃ s',m (n+k) s (i:Int)=m n s' (len:Int)/\ Inv len s'
 | 0,i,n,s,e,_,hI=>by
  have:i=len:=by omega
  subst this;exact ⟨s,rfl,hI⟩
 | k+1,i,n,s,e,hn,hI=>by
  obtain ⟨s',h1,h2⟩:=h (n+k) i s (by omega) (by omega) hI;obtain ⟨s2,h3,h4⟩:=TO m len N0 Inv h k (i+1) n s' (by omega) hn h2;refine ⟨s2,?_,h4⟩;rw [show n+(k+1)=n+k+1 by omega,h1,←h3];rfl
theorem GR {S R:Type} (m:Nat -> S -> Int -> Option R) (len N0:Nat) (Inv:Nat -> S -> Prop)
 (h: ∀ (n i:Nat) (s:S),N0<=n -> i<len -> Inv i s -> ∃ s',m (n+1) s (i:Int)=m n s' ((i:Int)+1)/\ Inv (i+1) s')
 {n:Nat} {s:S} (hn:N0+len<=n) (hI:Inv 0 s): ∃ n' s',N0<=n'/\ n'+len=n/\ m n s 0=m n' s' (len:Int)/\ Inv len s':=by
 obtain ⟨s',h1,h2⟩:=TO m len N0 Inv h len 0 (n-len) s (by omega) (by omega) hI;rw [show n-len+len=n by omega] at h1;exact ⟨n-len,s',by omega,by omega,h1,h2⟩
structure B0 (c:AB) (k:Nat) (pos:List Int):Prop where
 cells: ∀ a,a<c.cells.length -> 0<=c.cells.getD a 0/\ c.cells.getD a 0<(pos.length:Int)
 len:c.cells.length<=256
 sm: ∀ i,i<pos.length -> Sm k (pos.getD i 0)
 k:k<=16
def AT (c:AB) (pos:List Int) (a:Nat):Int:=pos.getD (c.cells.getD a 0).toNat 0
def K4 (x:Int):Bool:=bits .and .i64 x (x-1)==0
section
variable {c:AB} {k:Nat} {pos lost:List Int} {q:AA}
theorem B0.at (W:B0 c k pos) {a:Nat} (ha:a<c.cells.length):Sm k (AT c pos a):=by
 have:=W.cells a ha;exact W.sm _ (by omega)
theorem B0.r64 (W:B0 c k pos) {a:Nat} (ha:a<c.cells.length):AH (AT c pos a-1)/\ AH ((a:Int)+1):=by
 have h:=W.at ha;have h2:=LJ (k:=k) (yO W.k (by decide));have h3:=W.len;obtain ⟨h0,h1⟩:=h;exact ⟨At.2 ⟨by omega,by omega⟩,At.2 ⟨by omega,by omega⟩⟩
theorem JC {n:Nat} {cell ss:Int} (h0:0<=cell) (h1:cell<(pos.length:Int)) (hl:lost.length=pos.length):
 ∃ l',Cv n cell ss c q pos pos.length lost=some l'/\ l'.length=pos.length/\ ∀ j s,tb (l'.getD j 0) s=(tb (lost.getD j 0) s||(decide (j=cell.toNat)&&(tb (pos.getD j 0) s&&tb ss s))):=by
 refine ⟨lost.set cell.toNat (bits .or .i64 (lost.getD cell.toNat 0) (bits .and .i64 (pos.getD cell.toNat 0) ss)),?_,by rw [yp];exact hl,fun j s=>?_⟩
 ·unfold Cv Wn;simp only [yX];rw [yC ⟨⟨h0,h1⟩,by omega,h0,h1⟩]
 ·by_cases hj:j=cell.toNat
  ·subst hj;rw [u8,zZ (by omega),z6,Kv,IF,yI rfl,ye]
  ·rw [u8,zT (fun e=>hj e.symm),←u8,yA hj,zh,zj]
theorem WX {n:Nat} {cell:Int} (h0:0<=cell) (h1:cell<(pos.length:Int)) (hl:lost.length=pos.length):
 ∃ l',Fg n cell c q pos pos.length lost=some l'/\ l'.length=pos.length/\ ∀ j s,tb (l'.getD j 0) s=(tb (lost.getD j 0) s||(decide (j=cell.toNat)&&(tb (pos.getD j 0) s&&!tb c.set s))):=by
 refine ⟨lost.set cell.toNat (bits .or .i64 (lost.getD cell.toNat 0) (bits .andNot .i64 (pos.getD cell.toNat 0) c.set)),?_,by rw [yp];exact hl,fun j s=>?_⟩
 ·unfold Fg WZ;simp only [yX];rw [yC ⟨⟨h0,h1⟩,by omega,h0,h1⟩]
 ·by_cases hj:j=cell.toNat
  ·subst hj;rw [u8,zZ (by omega),z6,Kv,Kx,yI rfl,ye]
  ·rw [u8,zT (fun e=>hj e.symm),←u8,yA hj,zh,zj]
def Sg (c:AB) (pos:List Int) (a s:Nat):Prop:=K4 (AT c pos a)=true/\ tb (AT c pos a) s=true
def Bn (c:AB) (pos lost:List Int) (i:Nat) (D:Nat -> Nat -> Prop) (l:List Int):Prop:=
 l.length=pos.length/\ ∀ j s,tb (l.getD j 0) s=true↔tb (lost.getD j 0) s=true∨∃ a,a<i/\ (c.cells.getD a 0).toNat=j/\ tb (AT c pos a) s=true/\ D a s
theorem Bn.step {D:Nat -> Nat -> Prop} {i:Nat} {l l':List Int} (h:Bn c pos lost i D l) (hl:l'.length=pos.length)
 (h1: ∀ j s,tb (l'.getD j 0) s=true↔tb (l.getD j 0) s=true∨((c.cells.getD i 0).toNat=j/\ tb (AT c pos i) s=true/\ D i s)):Bn c pos lost (i+1) D l':=by
 refine ⟨hl,fun j s=>?_⟩;rw [h1,h.2];constructor
 ·rintro ((h | ⟨a,ha,h⟩) | h)
  ·exact .inl h
  ·exact .inr ⟨a,by omega,h⟩
  ·exact .inr ⟨i,by omega,h⟩
 ·rintro (h3 | ⟨a,ha,h3⟩)
  ·exact .inl (.inl h3)
  ·rcases yR.1 ha with ha | rfl
   ·exact .inl (.inr ⟨a,ha,h3⟩)
   ·exact .inr h3
theorem Bn.zero {D:Nat -> Nat -> Prop} (hl:lost.length=pos.length):Bn c pos lost 0 D lost:=
 ⟨hl,fun j s=>⟨.inl,fun h=>h.elim id fun ⟨a,ha,_⟩=>absurd ha (yT a)⟩⟩
def Ny (c:AB) (pos:List Int) (a s:Nat):Prop:=∃ b,b<c.cells.length/\ b≠a/\ Sg c pos b s
theorem wA {n:Nat} (W:B0 c k pos) (hl:lost.length=pos.length) (hn:2*c.cells.length+2<=n):
 ∃ l,Nx n c q pos pos.length lost=some (true,l)/\ Bn c pos lost c.cells.length (Ny c pos) l:=by
 have lt: ∀ i,i<c.cells.length -> ((i:Nat):Int)<((c.cells.length:Nat):Int):=fun i hi=>by omega
 have S:=GR (fun n (s:Int×Int) i=>Ik c q pos pos.length lost n (.l1 s.1 s.2 i)) c.cells.length (c.cells.length+2)
  (fun i s=>(∀ j,tb s.1 j=true↔∃ a,a<i/\ Sg c pos a j)/\ (∀ j,tb s.2 j=true↔∃ a b,a<b/\ b<i/\ Sg c pos a j/\ Sg c pos b j))
  (fun n i s _ hi hI=>?_) (n:=n) (s:=(0,0)) (by omega) ?_
 ·obtain ⟨n1,⟨o,t⟩,G4,_,e1,ho,ht⟩:=S;obtain ⟨n2,rfl⟩: ∃ n2,n1=n2+1:=⟨n1-1,by omega⟩
  have T:=GR (fun n (s:List Int) i=>Ik c q pos pos.length lost n (.l2 o t i s)) c.cells.length 1
   (fun i s=>Bn c pos lost i (Ny c pos) s) (fun n i s E5 hi hI=>?_) (n:=n2) (s:=lost) (by omega) (Bn.zero hl)
  ·obtain ⟨n3,l,QR,_,e2,hL⟩:=T;obtain ⟨n4,rfl⟩: ∃ n4,n3=n4+1:=⟨n3-1,by omega⟩;refine ⟨l,?_,hL⟩;unfold Nx gv;refine e1.trans ?_
   show Q3 n2 (Ik c q pos pos.length lost n2) c q pos pos.length lost o t (c.cells.length:Int)=_
   unfold Q3;rw [yA (by omega),yB];refine e2.trans ?_
   show Q2 n4 (Ik c q pos pos.length lost n4) c q pos pos.length lost o t (c.cells.length:Int) l=_
   unfold Q2;rw [yA (by omega),yB]
  ·have hc:=W.cells i hi;have hr:=W.r64 hi
   show ∃ s',Q2 n (Ik c q pos pos.length lost n) c q pos pos.length lost o t (i:Int) s=_/\ _
   unfold Q2;rw [yI (lt i hi),yF];simp only [yH];rw [yC ⟨⟨by omega,lt i hi⟩,hc,hr.1⟩];have sg:(bits .and .i64 (pos.getD (c.cells.getD i 0).toNat 0) (pos.getD (c.cells.getD i 0).toNat 0-1)==0)=K4 (AT c pos i):=rfl;rw [sg];cases hs:K4 (AT c pos i)
   ·rw [yB];obtain ⟨l',h1,h2,h3⟩:=JC (n:=n) (ss:=o) (c:=c) (q:=q) hc.1 hc.2 hI.1;rw [h1,yD,yC hr.2];refine ⟨l',rfl,hI.step h2 fun j x=>?_⟩;rw [h3,ya,yG,yG,yQ,ho];constructor
    ·rintro (h | ⟨rfl,h4,b,hb,h5⟩)
     ·exact .inl h
     ·refine .inr ⟨rfl,h4,b,hb,?_,h5⟩;rintro rfl;rw [h5.1] at hs;cases hs
    ·rintro (h | ⟨rfl,h4,b,hb,_,h5⟩)
     ·exact .inl h
     ·exact .inr ⟨rfl,h4,b,hb,h5⟩
   ·rw [yF];obtain ⟨l',h1,h2,h3⟩:=JC (n:=n) (ss:=bits .or .i64 (bits .andNot .i64 o (pos.getD (c.cells.getD i 0).toNat 0)) t) (c:=c) (q:=q) hc.1 hc.2 hI.1;rw [h1,yD,yC hr.2];refine ⟨l',rfl,hI.step h2 fun j x=>?_⟩;rw [h3,ya,yG,yG,yQ,Kv,Kx,ya,yG,ht];constructor
    ·rintro (h | ⟨rfl,h4,⟨_,h5⟩ | ⟨x1,y1,h6,h7,h8,h9⟩⟩)
     ·exact .inl h
     ·rw [h4] at h5;cases h5
     ·refine .inr ⟨rfl,h4,?_⟩
      by_cases e:x1=i
      ·exact ⟨y1,h7,by omega,h9⟩
      ·exact ⟨x1,by omega,e,h8⟩
    ·rintro (h | ⟨rfl,h4,b,hb,h5,h6⟩)
     ·exact .inl h
     ·refine .inr ⟨rfl,h4,.inr ?_⟩;rcases Nat.lt_or_gt_of_ne h5 with h5 | h5
      ·exact ⟨b,i,h5,hi,h6,hs,h4⟩
      ·exact ⟨i,b,h5,hb,⟨hs,h4⟩,h6⟩
 ·obtain ⟨o,t⟩:=s;obtain ⟨h1,h2⟩:=hI;simp only at h1 h2;have hc:=W.cells i hi;have hr:=W.r64 hi
  show ∃ s',Q3 n (Ik c q pos pos.length lost n) c q pos pos.length lost o t (i:Int)=_/\ _
  unfold Q3;rw [yI (lt i hi),yF];simp only [yH];rw [yC ⟨⟨by omega,lt i hi⟩,hc,hr.1⟩];have sg:(bits .and .i64 (pos.getD (c.cells.getD i 0).toNat 0) (pos.getD (c.cells.getD i 0).toNat 0-1)==0)=K4 (AT c pos i):=rfl;rw [sg];cases hs:K4 (AT c pos i)
  ·rw [yB,yC hr.2];refine ⟨(o,t),rfl,fun j=>?_,fun j=>?_⟩
   ·rw [h1];constructor
    ·rintro ⟨a,ha,h⟩;exact ⟨a,by omega,h⟩
    ·rintro ⟨a,ha,h⟩;rcases yR.1 ha with ha | rfl
     ·exact ⟨a,ha,h⟩
     ·rw [h.1] at hs;cases hs
   ·rw [h2];constructor
    ·rintro ⟨a,b,G7,hb,h⟩;exact ⟨a,b,G7,by omega,h⟩
    ·rintro ⟨a,b,G7,hb,h⟩;rcases yR.1 hb with hb | rfl
     ·exact ⟨a,b,G7,hb,h⟩
     ·rw [h.2.1] at hs;cases hs
  ·rw [yF,yC hr.2];refine ⟨(bits .or .i64 o (AT c pos i),bits .or .i64 t (bits .and .i64 o (AT c pos i))),rfl,fun j=>?_,fun j=>?_⟩
   ·rw [Kv,ya,h1];constructor
    ·rintro (⟨a,ha,h⟩ | h)
     ·exact ⟨a,by omega,h⟩
     ·exact ⟨i,by omega,hs,h⟩
    ·rintro ⟨a,ha,h⟩;rcases yR.1 ha with ha | rfl
     ·exact .inl ⟨a,ha,h⟩
     ·exact .inr h.2
   ·rw [Kv,IF,ya,yG,h1,h2];constructor
    ·rintro (⟨a,b,G7,hb,h⟩ | ⟨⟨a,ha,h⟩,h3⟩)
     ·exact ⟨a,b,G7,by omega,h⟩
     ·exact ⟨a,i,ha,by omega,h,hs,h3⟩
    ·rintro ⟨a,b,G7,hb,h,h3⟩;rcases yR.1 hb with hb | rfl
     ·exact .inl ⟨a,b,G7,hb,h,h3⟩
     ·exact .inr ⟨⟨a,G7,h⟩,h3.2⟩
 ·exact ⟨fun j=>⟨fun h=>absurd h IG,fun ⟨a,ha,_⟩=>absurd ha (yT a)⟩,fun j=>⟨fun h=>absurd h IG,fun ⟨a,b,_,hb,_⟩=>absurd hb (yT b)⟩⟩
end
end Go.Proofs.YtekkngkphejfcaaGreatDoor
namespace Go.Proofs
open Go.Shelf
def Tryz.lays189_ren:Go.Shelf.Ren:=⟨fun | 189=>133 | 125=>148 | 257=>147 | 128=>160 | 129=>161 | 294=>151 | 295=>152 | 296=>153 | 297=>154 | 298=>155 | 299=>156 | 216=>157 | 300=>158 | 301=>159 | 328=>162 | 329=>163 | 330=>164 | 331=>165 | 332=>166 | 215=>167 | 343=>168 | n=>n,fun | 28=>22 | 3=>3 | 46=>86 | 0=>0 | 51=>122 | 53=>124 | 4=>4 | 183=>167 | 182=>166 | 131=>170 | 5=>5 | 9=>9 | 218=>172 | 222=>176 | 228=>178 | 229=>101 | n=>n,fun | n=>n⟩
theorem Tryz.lays189:Go.Proofs.Lays.n189 Tryz.prog Tryz.lays189_ren:={
 mixed:=by kernel_rfl
 f125:=Tryz.func148.trans (congrArg some (by kernel_rfl))
 f128:=Tryz.func160.trans (congrArg some (by kernel_rfl))
 f129:=Tryz.func161.trans (congrArg some (by kernel_rfl))
 f189:=Tryz.func133.trans (congrArg some (by kernel_rfl))
 f215:=Tryz.func167.trans (congrArg some (by kernel_rfl))
 f216:=Tryz.func157.trans (congrArg some (by kernel_rfl))
 f257:=Tryz.func147.trans (congrArg some (by kernel_rfl))
 f294:=Tryz.func151.trans (congrArg some (by kernel_rfl))
 f295:=Tryz.func152.trans (congrArg some (by kernel_rfl))
 f296:=Tryz.func153.trans (congrArg some (by kernel_rfl))
 f297:=Tryz.func154.trans (congrArg some (by kernel_rfl))
 f298:=Tryz.func155.trans (congrArg some (by kernel_rfl))
 f299:=Tryz.func156.trans (congrArg some (by kernel_rfl))
 f300:=Tryz.func158.trans (congrArg some (by kernel_rfl))
 f301:=Tryz.func159.trans (congrArg some (by kernel_rfl))
 f328:=Tryz.func162.trans (congrArg some (by kernel_rfl))
 f329:=Tryz.func163.trans (congrArg some (by kernel_rfl))
 f330:=Tryz.func164.trans (congrArg some (by kernel_rfl))
 f331:=Tryz.func165.trans (congrArg some (by kernel_rfl))
 f332:=Tryz.func166.trans (congrArg some (by kernel_rfl))
 f343:=Tryz.func168.trans (congrArg some (by kernel_rfl))
 t0:=Tryz.underlying0
 a0:=Tryz.isAgg0
 z0:=Tryz.sizeOf0
 v0:=Tryz.zeroValue0
 t3:=Tryz.underlying3
 a3:=Tryz.isAgg3
 z3:=Tryz.sizeOf3
 v3:=Tryz.zeroValue3
 t4:=Tryz.underlying4
 a4:=Tryz.isAgg4
 z4:=Tryz.sizeOf4
 v4:=Tryz.zeroValue4
 t5:=Tryz.underlying5
 a5:=Tryz.isAgg5
 z5:=Tryz.sizeOf5
 v5:=Tryz.zeroValue5
 t9:=Tryz.underlying9
 a9:=Tryz.isAgg9
 z9:=Tryz.sizeOf9
 v9:=Tryz.zeroValue9
 t28:=Tryz.underlying22
 a28:=Tryz.isAgg22
 z28:=Tryz.sizeOf22
 v28:=Tryz.zeroValue22
 t46:=Tryz.underlying86
 a46:=Tryz.isAgg86
 z46:=Tryz.sizeOf86
 v46:=Tryz.zeroValue86
 t51:=Tryz.underlying122
 a51:=Tryz.isAgg122
 z51:=Tryz.sizeOf122
 v51:=Tryz.zeroValue122
 t53:=Tryz.underlying124
 a53:=Tryz.isAgg124
 z53:=Tryz.sizeOf124
 v53:=Tryz.zeroValue124
 t131:=Tryz.underlying170
 a131:=Tryz.isAgg170
 z131:=Tryz.sizeOf170
 v131:=Tryz.zeroValue170
 t182:=Tryz.underlying166
 a182:=Tryz.isAgg166
 z182:=Tryz.sizeOf166
 v182:=Tryz.zeroValue166
 t183:=Tryz.underlying167
 a183:=Tryz.isAgg167
 z183:=Tryz.sizeOf167
 v183:=Tryz.zeroValue167
 t218:=Tryz.underlying172
 a218:=Tryz.isAgg172
 z218:=Tryz.sizeOf172
 v218:=Tryz.zeroValue172
 t222:=Tryz.underlying176
 a222:=Tryz.isAgg176
 z222:=Tryz.sizeOf176
 v222:=Tryz.zeroValue176
 t228:=Tryz.underlying178
 a228:=Tryz.isAgg178
 z228:=Tryz.sizeOf178
 v228:=Tryz.zeroValue178
 t229:=Tryz.underlying101
 a229:=Tryz.isAgg101
 z229:=Tryz.sizeOf101
 v229:=Tryz.zeroValue101 }
open Go.Sort Go.RowKit in
theorem Tryz.slices_Sort_int (blk off cap:Nat) (zs:List Int) (w:World) (hH:Holds (Value.int .i64) w blk off zs.toArray) (YN:blk<w.heap.size) (A2:zs.length<4611686018427387904):
 Calls Tryz.prog 133 #[.slice (some ⟨blk,off,none⟩) zs.length cap] w fun e w'=>
  e= .returned (.tuple #[])/\ ∃ n os,w'=grow (putRow (Value.int .i64) (Sort.ahead w n) blk off (zs.mergeSort fun x y=>decide (x<=y)).toArray) os:=Any.slices_Sort_int Tryz.lays189 blk off cap zs w hH YN A2
end Go.Proofs
namespace Go.Proofs.YtekkngkphejfcaaGreatDoor
open Go.RowKit
def NH (a:Int):List Int -> List Int
 | []=>[a]
 | b::l=>if a<=b then a::b::l else b::NH a l
def GL:List Int -> List Int
 | []=>[]
 | a::l=>NH a (GL l)
theorem XF (a:Int): ∀ l:List Int,(NH a l).Perm (a::l)
 | []=>zAw _
 | b::l=>by
  unfold NH;split
  ·exact zAw _
  ·exact ((XF a l).cons b).trans (List.Perm.swap a b l)
theorem R5: ∀ l:List Int,(GL l).Perm l
 | []=>zAw _
 | a::l=>(XF a _).trans ((R5 l).cons a)
theorem d6 (a:Int): ∀ l:List Int,l.Pairwise (· <= ·) -> (NH a l).Pairwise (· <= ·)
 | [],_=>List.pairwise_singleton _ _
 | b::l,h=>by
  have h':=List.pairwise_cons.1 h;unfold NH;split
  ·rename_i G7;refine List.pairwise_cons.2 ⟨fun x hx=>?_,h⟩;rcases yd.1 hx with rfl | hx
   ·exact G7
   ·exact Int.le_trans G7 (h'.1 x hx)
  ·rename_i G7;refine List.pairwise_cons.2 ⟨fun x hx=>?_,d6 a l h'.2⟩;rcases yd.1 ((XF a l).mem_iff.1 hx) with rfl | hx
   ·omega
   ·exact h'.1 x hx
theorem a6: ∀ l:List Int,(GL l).Pairwise (· <= ·)
 | []=>List.Pairwise.nil
 | a::l=>d6 a _ (a6 l)
theorem kQ (l:List Int):(l.mergeSort fun x y=>decide (x<=y))=GL l:=by
 refine List.Perm.eq_of_pairwise (le:=(· <= ·)) (fun a b _ _ h1 h2=>Int.le_antisymm h1 h2) ?_ (a6 l) ((List.mergeSort_perm l _).trans (R5 l).symm);have:=List.pairwise_mergeSort (le:=fun x y:Int=>decide (x<=y)) (fun a b c h1 h2=>by simp at h1 h2 ⊢;omega) (fun a b=>by simp;omega) l;exact this.imp fun h=>by simpa using h
theorem Ol (l:List Int):(GL l).length=l.length:=(R5 l).length_eq
theorem uH {w:World} {b o:Nat} {l l':List Int} {cs:Array Value} {t:TypeId} {z:Nat×Nat} (h:w.heap[b]? =some (.cells cs t z)) (hl:l.length=l'.length) (n:Nat) (os:Array Obj):
 ∃ EV,(Sort.grow (Sort.putRow (Value.int .i64) (Sort.ahead w n) b o l'.toArray) os).heap[b]? =some (.cells EV t z)/\ EV.size=cs.size/\ ∀ j,j<l.length -> o+j<cs.size -> EV[o+j]? =some (.int .i64 (l'.getD j 0)):=by
 have hb:b<w.heap.size:=(yE.1 h).1;refine ⟨Sort.putCells (Value.int .i64) o l'.toArray cs,?_,by simp [Sort.putCells],fun j hj hs=>?_⟩
 ·simp only [Sort.grow,Sort.putRow,Sort.mapBlock,Sort.ahead];rw [zo (by simpa using hb),zAD,yC rfl,h];rfl
 ·simp only [Sort.putCells,Array.getElem?_mapIdx];rw [zN hs];simp only [yi];rw [yC ⟨by omega,by simp;omega⟩];have:o+j-o=j:=by omega
  rw [this];have BI:j<l'.length:=by omega
  simp [BI,u8]
theorem jV {w:World} {b o:Nat} (hb:b<w.heap.size) (d:Array Int) (n:Nat) (os:Array Obj):AM (fun k=>k=b) w (Sort.grow (Sort.putRow (Value.int .i64) (Sort.ahead w n) b o d) os):=by
 refine ⟨rfl,rfl,rfl,by simp [Sort.ahead],fun k hk AV=>?_⟩;simp only [Sort.grow,Sort.putRow,Sort.mapBlock,Sort.ahead];rw [zo (by simpa using hk),zAD,yM (fun e=>AV e.symm)]
theorem kP (l:List Int) {n:Nat} (hn:n=l.length) (tZ:l.length<=BT):ES Tryz.prog GG 133 [.msl 0 1 0 n] [some (.ints l)] (.tup 0 fun j=>([]:List DV).getD j .any) [some (.ints (GL l))] false:=by
 subst hn;refine ⟨⟨_,Tryz.func133,by decide,rfl⟩,fun N ρ w args HR CK=>?_⟩;obtain ⟨p,hp,Cn⟩:=HR.obj 0 _ rfl;have Cn:AS w p l.length fun j u=>u= .int .i64 (l.getD j 0):=Cn
 have h0:=CK.2 0 (by simp);obtain ⟨p',cap,A6,hv,KN,T9,Tx⟩:=h0;have ep:p'=p:=yK (A6.symm.trans hp);subst ep;have A2:args.size=1:=by have:=CK.1;simpa using this.symm
 have ha:args= #[.slice (some ⟨p'.blk,p'.off,none⟩) l.length cap]:=by
  apply Array.ext
  ·simp [A2]
  ·intro i h1 h2;have:i=0:=by omega
   subst this;have e:args.getD 0 undef=args[0]:=by simp [Array.getD,A2]
   rw [e] at hv;rw [hv];simp
 have hH:Sort.Holds (Value.int .i64) w p'.blk p'.off l.toArray:=fun j hj=>by
  have hj:j<l.length:=by simpa using hj
  obtain ⟨u,c1,c2⟩:=Cn.cell hj;refine ⟨by rw [c1,c2];simp [hj,u8],Cn.frozen _⟩
 obtain ⟨Dc,cs,t,Dd,Ce,KE,_⟩:=Cn;have hb:p'.blk<w.heap.size:=(yE.1 Dd).1;subst ha;refine (Tryz.slices_Sort_int p'.blk p'.off cap l w hH hb (by unfold BT at tZ;omega)).mono ?_;rintro e w' ⟨rfl,m,os,rfl⟩;rw [kQ];obtain ⟨EV,k1,k2,k3⟩:=uH (o:=p'.off) Dd (Ol l).symm m os;have hu:AM p'.foot w (Sort.grow (Sort.putRow (Value.int .i64) (Sort.ahead w m) p'.blk p'.off (GL l).toArray) os):=by rw [Dc];exact jV (o:=p'.off) hb (GL l).toArray m os
 show ∃ v,Ending.returned (.tuple #[])=Ending.returned v/\ C9 Tryz.prog GG N _ ρ w false _ _ v (Sort.grow (Sort.putRow (Value.int .i64) (Sort.ahead w m) p'.blk p'.off (GL l).toArray) os)
 refine ⟨_,rfl,⟨⟨ρ,HR.write (o':=.ints (GL l)) rfl hp hu (fun b hb=>?_) ?_,⟨#[],rfl,rfl,fun j hj=>absurd hj (yT j)⟩,A8.write rfl hp hu,fun _ _ h=>h⟩,fun h=>by cases h⟩⟩
 ·rw [Dc] at hb;exact .cells (c:=EV) (t:=t) (z:=(0,0)) (by rw [show b=p'.blk from hb];exact k1)
 ·refine ⟨Dc,EV,t,k1,by rw [k2,Ol];exact Ce,by rw [k2];exact KE,fun j hj=>?_⟩;rw [Ol] at hj;exact ⟨_,k3 j hj (by omega),rfl⟩
end Go.Proofs.YtekkngkphejfcaaGreatDoor
namespace Go.Proofs.YtekkngkphejfcaaGreatDoor
open Go.RowKit
set_option maxRecDepth 100000
set_option maxHeartbeats 40000000
inductive JX where
 | s0
 | s1 (I3:Nat) (Gm:List Int)
def il:JX -> DH
 | .s0=>[none,some (.cells [.nils])]
 | .s1 I3 Gm=>[none,some (.cells [.msl 2 1 0 I3]),some (.ints Gm)]
def VD (n:Nat) (e6:Int):Option JX:=
 if (0=0/\ 1=([e6]:List Int).length)/\ 0<([e6]:List Int).length/\ ([e6]:List Int).length<=BT then
  some (.s1 (([e6]:List Int).length) ([e6]:List Int))
 else none
def VC (n:Nat) (e6:Int) (I3:Nat) (Gm:List Int):Option JX:=
 if (0=0/\ 1=([e6]:List Int).length)/\ (0=0/\ I3=Gm.length)/\ Gm.length+([e6]:List Int).length<=BT then
  some (.s1 (Gm.length+([e6]:List Int).length) (Gm++([e6]:List Int)))
 else none
def ZH (n:Nat) (e6:Int):JX -> Option JX
 | .s0=>VD n e6
 | .s1 I3 Gm=>VC n e6 I3 Gm
def H4 (n:Nat) (e6:Int) (s:JX):Option JX:=ZH n e6 s
theorem xS (n:Nat) (l B:Nat) (N:Yd 2) (e6:Int) (s:JX) (r:JX) (h:H4 n e6 s=some r):TA l B N (C8 2 [] 0 (il r)) Tryz.f146 6 ⟨AL 13 [(2,.ref 1 0),(6,.it 0),(7,.i e6)],il s⟩:=by
 cases s with
 | s0=>
  replace h:VD n e6=some r:=h;unfold VD at h;refine ag AE [0,1] H0 (AL 13 [(2,.ref 1 0),(5,.i e6)]) [none,some (.cells [.nils])] fun N=>?_
  revert r;apply gO;exact gi (jt (lF fun p=>rr AE [0,1,3] rfl p))
 | s1 I3 Gm=>
  replace h:VC n e6 I3 Gm=some r:=h;unfold VC at h;refine ag AE [0,1,2] H0 (AL 13 [(2,.ref 1 0),(5,.i e6)]) [none,some (.cells [.msl 2 1 0 I3]),some (.ints Gm)] fun N=>?_
  revert r;apply gO;exact gi (jt (lF fun p=>rr AE [0,1,4] rfl p))
def ZG (n:Nat) (l:List Int):Option ((List Int)):=
 (Bz (H4 n) l (.s0)).bind fun y1=>
  match y1 with
  | .s0=>
   none
  | .s1 VP VO=>
   if VP=VO.length then
    some VO
   else none
def RY (n:Nat) (l:List Int):Option ((List Int)):=ZG n l
theorem xR {n:Nat} {l:List Int} {r:(List Int)} (h:RY n l=some r):EQ 146 [.nils,.it 0] [some (.iter ((l).map Bs))] (.msl 1 1 0 r.length) [none,some (.ints r)] false:=by
 unfold RY ZG at h;refine ot Tryz.func146 fun B N=>?_
 revert r;apply gO
 exact cn fun y1 A5=>fun p r h=>by
  refine gs AE [0,1] p (GX (AZ Tryz.f146) 6 []) (AL 13 [(2,.ref 1 0),(6,.it 0)]) [some (.iter ((l).map Bs)),some (.cells [.nils])] ?_;refine r0 0 6 #[7] Bs 2 A5 (xS n) ?_;cases y1 with
  | s0=>
   dsimp only at h
   revert r;apply gO;exact nO
  | s1 VP VO=>
   dsimp only at h
   revert r;apply gO;exact gn fun g0=>lF fun p=>el AE [4] [0,2] p [] H0 [.msl 1 1 0 VP] (AN.mslN g0)
def Yv (n:Nat) (l:List Int):Option ((List Int)):=
 (RY n l).bind fun y1=>
  some y1
def Ux (n:Nat) (l:List Int):Option ((List Int)):=Yv n l
theorem wi {n:Nat} {l:List Int} {r:(List Int)} (h:Ux n l=some r):EQ 132 [.it 0] [some (.iter ((l).map Bs))] (.msl 1 1 0 r.length) [none,some (.ints r)] false:=by
 unfold Ux Yv at h;refine ot Tryz.func132 fun B N=>?_
 revert r;apply gO;exact ce xR [0] [some (.iter ((l).map Bs))] fun y1=>lF fun p=>el AE [2] [0,1] p [] H0 [.msl 1 1 0 y1.length] (AN.mslN rfl)
def Vs (n:Nat) (l:List Int):Option ((List Int)):=
 (Ux n l).bind fun y1=>
  if y1.length<=BT then
   if y1.length=(GL y1).length then
    some (GL y1)
   else none
  else none
def K3 (n:Nat) (l:List Int):Option ((List Int)):=Vs n l
theorem kN {n:Nat} {l:List Int} {r:(List Int)} (h:K3 n l=some r):EQ 126 [.it 0] [some (.iter ((l).map Bs))] (.msl 1 1 0 r.length) [none,some (.ints r)] false:=by
 unfold K3 Vs at h;refine ot Tryz.func126 fun B N=>?_
 revert r;apply gO;exact ce wi [0] [some (.iter ((l).map Bs))] fun y1=>gn fun g0=>jc (em (kP y1 (n:=y1.length) (Eq.refl y1.length) g0) [1] [none,some (.ints y1)]) (gn fun g1=>lF fun p=>el AE [2] [0,1] p [] H0 [.msl 1 1 0 y1.length] (AN.mslN g1))
def g8 (n:Nat) (g_:List (List Int)) (Ac:List Bool) (start:Int):Option ((List Int)×Int):=
 (KR n g_ ([Ac]:List (List Bool))).bind fun y1=>
  bif (y1 != 0) then
   some (([]:List Int),y1)
  else
   bif (decide (start<0)) then
    some (([]:List Int),1)
   else
    bif (decide (start>=(g_.length:Int))) then
     some (([]:List Int),1)
    else
     if 0<=start/\ start<(Ac.length:Int) then
      bif (!(Ac.getD ((start).toNat) false)) then
       some (([]:List Int),1)
      else
       (Fc n g_ start Ac).bind fun y2=>
        (K3 n y2).bind fun y3=>
         some (y3,0)
     else none
def N5 (n:Nat) (g_:List (List Int)) (Ac:List Bool) (start:Int):Option ((List Int)×Int):=g8 n g_ Ac start
theorem wg {n:Nat} {g_:List (List Int)} {Ac:List Bool} {start:Int} {r:(List Int)×Int} (h:N5 n g_ Ac start=some r):EQ 110 [.sl 1 g_.length (Ak BD g_),.bools Ac,.i start] [] (.tup 2 (L1 [.ints r.1,.i r.2])) [] true:=by
 refine ot Tryz.func110 fun B N=>?_
 revert r;apply gO;exact ja 10 0 1 (V4 (c:=U5) (L:=([Ac]:List (List Bool))) (vals:=[.bools Ac]) rfl ⟨⟨_,rfl,⟨BY,trivial⟩⟩,trivial⟩) (jz 10 0 (jg (Eq.refl 1) (cf fq [none] fun y1=>bi 13 (lF fun p=>el AE [6,7] [] p [] H0 [.nils,.i y1] (AN.tupL (l:=[.nils,.i y1]) (l':=[.ints ([]:List Int),.i y1]) rfl ⟨AN.ints_nil,BY,trivial⟩)) (bi 16 (lF fun p=>el AE [6,7] [] p [] H0 [.nils,.i 1] (AN.tupL (l:=[.nils,.i 1]) (l':=[.ints ([]:List Int),.i 1]) rfl ⟨AN.ints_nil,BY,trivial⟩)) (bi 21 (lF fun p=>el AE [6,7] [] p [] H0 [.nils,.i 1] (AN.tupL (l:=[.nils,.i 1]) (l':=[.ints ([]:List Int),.i 1]) rfl ⟨AN.ints_nil,BY,trivial⟩)) (gi (bi 28 (lF fun p=>el AE [6,7] [] p [] H0 [.nils,.i 1] (AN.tupL (l:=[.nils,.i 1]) (l':=[.ints ([]:List Int),.i 1]) rfl ⟨AN.ints_nil,BY,trivial⟩)) (cn fun y2 CQ=>jc (WA CQ [none]) (ce kN [1] [none,some (.iter ((y2).map Bs))] fun y3=>lF fun p=>ez AE [6,7] [2] p [0] (H0.g (Eq.refl y3.length)))))))))))
def aW:ST:=.rd 0 (.rd 1 (.ef 2 (.ef 3 (.fin [] [4,5]) (.no)) (.no)))
theorem lO:CA (BA Tryz.f113 11) [2] aW:=by unfold CA;kernel_rfl
def Jn:BU:=fun i=>match i with
 | 11=>.tre [2] aW
 | _=>.no
def s8 (g_:List (List Int)) (B8:Int) (y1 o1:List Int):DH:=[some (.cells [.msl 3 1 0 g_.length]),some (.cells [.i (B8+1)]),some (.iter ((y1).map Bs)),some (.ints o1)]
def aE (g_:List (List Int)) (o1:List Int) (B8:Int):St:=⟨(AL 42 [(4,.ref 0 0),(5,.ref 2 0)]),([some (.cells [.msl 1 1 0 g_.length]),some (.ints o1),some (.cells [.i B8])]:DH)⟩
inductive J2 where
 | s0 (IP:List Int)
def cS (g_:List (List Int)) (Ac:List Bool) (x13 B8:Int):J2 -> DH
 | .s0 IP=>[some (.cells [.msl 3 1 0 g_.length]),some (.cells [.i (B8+1)]),none,some (.ints IP)]
def Sv (n:Nat) (g_:List (List Int)) (Ac:List Bool) (x13 B8 GW:Int) (IP:List Int):Option J2:=
 if (0<=GW/\ GW<(g_.length:Int))/\ 0+((GW).toNat)<IP.length then
  some (.s0 (IP.set (0+((GW).toNat)) (B8+1)))
 else none
def cR (n:Nat) (g_:List (List Int)) (Ac:List Bool) (x13 B8 GW:Int):J2 -> Option J2
 | .s0 IP=>Sv n g_ Ac x13 B8 GW IP
def LO (n:Nat) (g_:List (List Int)) (Ac:List Bool) (x13 B8 GW:Int) (s:J2):Option J2:=cR n g_ Ac x13 B8 GW s
theorem oJ (n:Nat) (g_:List (List Int)) (Ac:List Bool) (x13 B8:Int) (l B:Nat) (N:Yd 3) (GW:Int) (s:J2) (r:J2) (h:LO n g_ Ac x13 B8 GW s=some r):TA l B N (C8 3 [] 0 (cS g_ Ac x13 B8 r)) Tryz.f113 33 ⟨AL 42 [(0,.sl 1 g_.length (Ak BD g_)),(1,.bools Ac),(4,.ref 0 0),(5,.ref 1 0),(12,.i (g_.length:Int)),(13,.i x13),(33,.it 2),(34,.i GW)],cS g_ Ac x13 B8 s⟩:=by
 cases s with
 | s0 IP=>
  replace h:Sv n g_ Ac x13 B8 GW IP=some r:=h;unfold Sv at h;refine ag Jn [0,1,2,3] H0 (AL 42 [(4,.ref 0 0),(5,.ref 1 0),(7,.i GW)]) [some (.cells [.msl 3 1 0 g_.length]),some (.cells [.i (B8+1)]),none,some (.ints IP)] fun N=>?_
  revert r;apply gO;exact gc (gi (gi (lF fun p=>rr Jn [0,1,2,3] rfl p)))
inductive Sw where
 | l1 (x13:Int) (o1:List Int) (B8:Int)
def Pb (n:Nat) (self:Sw -> Option ((List Int)×Int)) (g_:List (List Int)) (Ac:List Bool) (x13:Int) (o1:List Int) (B8:Int):Option ((List Int)×Int):=
 bif (decide (x13<(g_.length:Int))) then
  if 0<=x13/\ x13<(Ac.length:Int) then
   bif (!(Ac.getD ((x13).toNat) false)) then
    if AH (x13+1) then
     self (.l1 (x13+1) o1 B8)
    else none
   else
    if (0<=x13/\ x13<(g_.length:Int))/\ 0+((x13).toNat)<o1.length then
     bif (decide ((o1.getD (0+((x13).toNat)) 0)>0)) then
      if AH (x13+1) then
       self (.l1 (x13+1) o1 B8)
      else none
     else
      if AH (B8+1) then
       (Fc n g_ x13 Ac).bind fun y1=>
        (Bz (LO n g_ Ac x13 B8) y1 (.s0 o1)).bind fun y2=>
         match y2 with
         | .s0 Je=>
          if AH (x13+1) then
           self (.l1 (x13+1) Je (B8+1))
          else none
      else none
    else none
  else none
 else
  if g_.length=o1.length then
   some (o1,B8)
  else none
def cQ (n:Nat) (self:Sw -> Option ((List Int)×Int)) (g_:List (List Int)) (Ac:List Bool):Option ((List Int)×Int):=
 if ((g_.length:Int):Int)=(g_.length:Int)/\ 0<=(g_.length:Int)/\ ((g_.length:Int):Int)<=1000000000000 then
  self (.l1 0 (List.replicate g_.length (0:Int)) 0)
 else none
def Mz (g_:List (List Int)) (Ac:List Bool):Nat -> Sw -> Option ((List Int)×Int)
 | 0,_=>none
 | n+1,.l1 x13 o1 B8=>Pb n (Mz g_ Ac n) g_ Ac x13 o1 B8
def parts (n:Nat) (g_:List (List Int)) (Ac:List Bool):Option ((List Int)×Int):=cQ n (Mz g_ Ac n) g_ Ac
def oK (n B:Nat) (N:Yd 0) (g_:List (List Int)) (Ac:List Bool) (r:(List Int)×Int):Sw -> Prop
 | .l1 x13 o1 B8=>∀ m0:Nat,n<=m0 -> TW B N (FQ Tryz.f113 0 (.tup 2 (L1 [.ints r.1,.i r.2])) []) (Ai m0 (Ap (AZ Tryz.f113) 0 [])) ⟨AL 42 [(0,.sl 1 g_.length (Ak BD g_)),(1,.bools Ac),(4,.ref 0 0),(5,.ref 2 0),(12,.i (g_.length:Int)),(13,.i x13)],[some (.cells [.msl 1 1 0 g_.length]),some (.ints o1),some (.cells [.i B8])]⟩
theorem oL (B:Nat) (N:Yd 0) (g_:List (List Int)) (Ac:List Bool):Al (Mz g_ Ac) (oK · B N g_ Ac):=ia (fun _=>rfl) fun n AF pt r h=>by
 cases pt
 case l1 x13 o1 B8=>
  intro m0 AC;refine rd AC fun m0 AC=>?_
  revert r;apply gO
  exact bi 14 (gi (bi 20 (gw 39 (lG Jn [0,1,2] (AF _ _ · m0 AC))) (gc (gi (gi (bi 26 (gw 39 (lG Jn [0,1,2] (AF _ _ · m0 AC))) (gw 29 (jt (cn fun y1 A5=>jc (WA A5 [some (.cells [.msl 1 1 0 g_.length]),some (.ints o1),some (.cells [.i (B8+1)])]) (cn fun y2 CQ=>fun p r h=>by
   refine gs Jn [0,2,3,1] p (GX (AZ Tryz.f113) 33 [m0]) (AL 42 [(0,.sl 1 g_.length (Ak BD g_)),(1,.bools Ac),(4,.ref 0 0),(5,.ref 1 0),(12,.i (g_.length:Int)),(13,.i x13),(33,.it 2)]) (s8 g_ B8 y1 o1) ?_;refine r0 2 33 #[34] Bs 3 CQ (oJ n g_ Ac x13 B8) ?_;cases y2 with
   | s0 Je=>
    dsimp only at h
    revert r;apply gO;exact gw 39 (lG Jn [0,3,1] (AF _ _ · m0 AC)))))))))))) (jg lO (jt (jt (jg (Eq.refl (aE g_ o1 B8)) (gn fun g0=>lF fun p=>ez (tg:=[([(2,0)],(aE g_ o1 B8))]) Jn [4,5] [0,1,2] p [1] (H0.g g0))))))
theorem oH {n:Nat} {g_:List (List Int)} {Ac:List Bool} {r:(List Int)×Int} (h:parts n g_ Ac=some r):EQ 113 [.sl 1 g_.length (Ak BD g_),.bools Ac] [] (.tup 2 (L1 [.ints r.1,.i r.2])) [] true:=by
 refine ot Tryz.func113 fun B N=>?_
 revert r;apply gO;exact gi (jt (lN Jn [0,2,1] ((oL B N g_ Ac n) _ _ · n Nat.le.refl)))
end Go.Proofs.YtekkngkphejfcaaGreatDoor
namespace Go.Proofs.YtekkngkphejfcaaGreatDoor
open Go.RowKit
set_option maxRecDepth 100000
set_option maxHeartbeats 40000000
def VS (n:Nat) (n_:Int) (inn:List Bool):Option ((List Bool)):=
 (MD n inn).bind fun y1=>
  if (0<=n_/\ n_<(y1.length:Int))/\ 0+((n_).toNat)<y1.length then
   if y1.length=(y1.set (0+((n_).toNat)) false).length then
    some (y1.set (0+((n_).toNat)) false)
   else none
  else none
def OQ (n:Nat) (n_:Int) (inn:List Bool):Option ((List Bool)):=VS n n_ inn
theorem jM {n:Nat} {n_:Int} {inn:List Bool} {r:(List Bool)} (h:OQ n n_ inn=some r):EQ 112 [.i n_,.fp 1 (L1 [.bools inn])] [] (.msl 0 1 0 r.length) [some (.bools r)] true:=by
 unfold OQ VS at h;refine ot Tryz.func112 fun B N=>?_
 revert r;apply gO;exact cn fun y1 A5=>jc (ES.snapNew (ds:=[.bools inn]) (iE A5) [] (ZN (by kernel_rfl)) rfl) (gc (gi (gi (gn fun g2=>lF fun p=>el AE [3] [0] p [] H0 [.msl 0 1 0 y1.length] (AN.mslN g2)))))
theorem ko:Aj (BA Tryz.f92 16) [] (List.range 7) []:=by unfold Aj;kernel_rfl
def GM:BU:=fun i=>match i with
 | 16=>.ord [] (List.range 7) []
 | _=>.no
def eT (Ac Bw:List Bool) (BZ:Int):DH:=[some (.cells [.bools Ac]),some (.cells [.bools Bw]),some (.cells [.i BZ]),some (.cells [.bool false]),none]
def sK (Ac Bw:List Bool) (BZ:Int):DH:=[some (.cells [.bools Ac]),some (.cells [.bools Bw]),some (.cells [.i BZ]),some (.cells [.bool false]),none,none]
def sJ (Ac Bw:List Bool) (BZ:Int) (y3:(List Int)×Int):DH:=[some (.cells [.bools Ac]),some (.cells [.bools Bw]),some (.cells [.i BZ]),some (.cells [.bool false]),none,none,some (.cells [.ints y3.1]),some (.cells [.i 0])]
def sI (Bw:List Bool) (BZ:Int) (y3:(List Int)×Int) (y4:List Int):DH:=[some (.cells [.bools Bw]),some (.cells [.i BZ]),some (.cells [.bool false]),some (.cells [.ints y3.1]),some (.cells [.i 0]),some (.iter ((y4).map Bs))]
def sH (Bw:List Bool) (BZ:Int) (GO:Bool) (y3:(List Int)×Int) (Fe:Int):DH:=[some (.cells [.bools Bw]),some (.cells [.i BZ]),some (.cells [.bool GO]),some (.cells [.ints y3.1]),some (.cells [.i Fe]),none]
inductive Jm where
 | s0 (GO:Bool) (Fe:Int)
def ax (Bw:List Bool) (BZ:Int) (y3:(List Int)×Int):Jm -> DH
 | .s0 GO Fe=>[some (.cells [.bools Bw]),some (.cells [.i BZ]),some (.cells [.bool GO]),some (.cells [.ints y3.1]),some (.cells [.i Fe]),none]
def Ok (n:Nat) (Bw:List Bool) (BZ:Int) (y3:(List Int)×Int) (Eo:Int) (GO:Bool) (Fe:Int):Option (Jm×Nat):=
 bif (Eo==BZ) then
  some (.s0 GO Fe,0)
 else
  if 0<=Eo/\ Eo<(Bw.length:Int) then
   bif (!(Bw.getD ((Eo).toNat) false)) then
    some (.s0 GO Fe,0)
   else
    bif (Fe==0) then
     if 0<=Eo/\ Eo<(y3.1.length:Int) then
      some (.s0 GO (y3.1.getD ((Eo).toNat) 0),0)
     else none
    else
     if 0<=Eo/\ Eo<(y3.1.length:Int) then
      bif ((y3.1.getD ((Eo).toNat) 0) != Fe) then
       some (.s0 true Fe,1)
      else
       some (.s0 GO Fe,0)
     else none
  else none
def kM (n:Nat) (Bw:List Bool) (BZ:Int) (y3:(List Int)×Int) (Eo:Int):Jm -> Option (Jm×Nat)
 | .s0 GO Fe=>Ok n Bw BZ y3 Eo GO Fe
def Ge (n:Nat) (Bw:List Bool) (BZ:Int) (y3:(List Int)×Int) (Eo:Int) (s:Jm):Option (Jm×Nat):=kM n Bw BZ y3 Eo s
theorem kL (n:Nat) (Bw:List Bool) (BZ:Int) (y3:(List Int)×Int) (l B:Nat) (N:Yd 6) (Eo:Int) (s:Jm) (r:Jm×Nat) (h:Ge n Bw BZ y3 Eo s=some r):TA l B N (C8 6 [.exit 0] r.2 (ax Bw BZ y3 r.1)) Tryz.f92 48 ⟨AL 76 [(6,.ref 0 0),(7,.ref 1 0),(8,.ref 2 0),(11,.ref 3 0),(13,.ref 4 0),(48,.it 5),(49,.i Eo)],ax Bw BZ y3 s⟩:=by
 cases s with
 | s0 GO Fe=>
  refine ag GM [0,1,2,3,4,5] H0 (AL 76 [(6,.ref 0 0),(7,.ref 1 0),(8,.ref 2 0),(11,.ref 3 0),(13,.ref 4 0),(14,.i Eo)]) (sH Bw BZ GO y3 Fe) fun N=>?_
  revert r;apply gO;exact bi 53 (lF fun p=>rr GM [0,1,2,3,4,5] rfl p) (gi (bi 59 (lF fun p=>rr GM [0,1,2,3,4,5] rfl p) (bi 63 (gi (jt (lF fun p=>rr GM [0,1,2,3,4,5] rfl p))) (jg ko (gi (bi 74 (jt (lF fun p=>rr GM [0,1,2,3,4,5] rfl p)) (lF fun p=>rr GM [0,1,2,3,4,5] rfl p)))))))
def aw (n:Nat) (g_:List (List Int)) (Ac Bw:List Bool) (BZ:Int):Option (Bool×Int):=
 (KR n g_ ([Ac,Bw]:List (List Bool))).bind fun y1=>
  bif (y1 != 0) then
   some (false,y1)
  else
   bif (decide (BZ<0)) then
    some (false,1)
   else
    bif (decide (BZ>=(g_.length:Int))) then
     some (false,1)
    else
     if 0<=BZ/\ BZ<(Ac.length:Int) then
      bif (!(Ac.getD ((BZ).toNat) false)) then
       some (false,0)
      else
       (OQ n BZ Ac).bind fun y2=>
        (parts n g_ y2).bind fun y3=>
         (Fc n g_ BZ Ac).bind fun y4=>
          (ED (Ge n Bw BZ y3) y4 (.s0 false 0)).bind fun y5=>
           bif y5.2==0 then
            match y5.1 with
            | .s0 OO VN=>
             some (OO,0)
           else
            bif y5.2==1 then
             match y5.1 with
             | .s0 OO VN=>
              some (OO,0)
            else
             none
     else none
def K1 (n:Nat) (g_:List (List Int)) (Ac Bw:List Bool) (BZ:Int):Option (Bool×Int):=aw n g_ Ac Bw BZ
theorem kJ {n:Nat} {g_:List (List Int)} {Ac Bw:List Bool} {BZ:Int} {r:Bool×Int} (h:K1 n g_ Ac Bw BZ=some r):EQ 92 [.sl 1 g_.length (Ak BD g_),.bools Ac,.bools Bw,.i BZ] [] (.tup 2 (L1 [.bool r.1,.i r.2])) [] true:=by
 refine ot Tryz.func92 fun B N=>?_
 revert r;apply gO
 exact ja 18 4 1 (V4 (c:=U5) (L:=([Ac,Bw]:List (List Bool))) (vals:=[.bools Ac,.bools Bw]) rfl ⟨⟨_,rfl,⟨BY,trivial⟩⟩,⟨_,rfl,⟨BY,trivial⟩⟩,trivial⟩) (jz 18 4 (jg (Eq.refl 2) (cf fq (eT Ac Bw BZ) fun _=>bi 21 (jt (lE GM [8,9] [3])) (bi 24 (jt (lE GM [8,9] [3])) (bi 29 (jt (lE GM [8,9] [3])) (gi (bi 35 (jt (lE GM [8,9] [3])) (cn fun y2 CQ=>jc (ES.snapNew (ds:=[.i BZ,.ref 0 0]) (jM CQ) (eT Ac Bw BZ) ⟨Ad.plain (by kernel_rfl),(Ad.refL (l:=[.bools Ac]) (l0:=[.bools Ac]) rfl ⟨Ad.plain (by kernel_rfl),trivial⟩),trivial⟩ rfl) (jz 41 5 (jg (Eq.refl y2.length) (cf oH (sK Ac Bw BZ) fun y3=>jt (jt (cn fun y4 QC=>jc (WA QC (sJ Ac Bw BZ y3)) (cn fun y5 QB=>fun p r h=>by
  refine gs GM [1,2,3,6,7,8] p (GX (AZ Tryz.f92) 48 []) (AL 76 [(6,.ref 0 0),(7,.ref 1 0),(8,.ref 2 0),(11,.ref 3 0),(13,.ref 4 0),(48,.it 5)]) (sI Bw BZ y3 y4) ?_;refine rx [.exit 0] 5 48 #[49] Bs 6 QB (kL n Bw BZ y3) fun e he=>?_
  replace h:=JV h;rcases h with ⟨ON,h⟩ | ⟨ON,h⟩
  ·rw [eq_of_beq ON] at he;cases he;revert h;cases y5.1 with
   | s0 OO VN=>
    intro h
    dsimp only at h
    revert r;apply gO;exact jt (lE GM [8,9] [2])
  ·replace h:=JV h;rcases h with ⟨ON,h⟩ | ⟨ON,h⟩
   ·rw [eq_of_beq ON] at he;cases he;refine DJ.exitTo (by kernel_rfl) ?_;revert h;cases y5.1 with
    | s0 OO VN=>
     intro h
     dsimp only at h
     revert r;apply gO;exact jt (lE GM [8,9] [2])
   ·cases h))))))))))))))
end Go.Proofs.YtekkngkphejfcaaGreatDoor
namespace Go.Proofs.YtekkngkphejfcaaGreatDoor
open Go.RowKit
theorem Ab.bindU {R T:Type} {a:Nat -> Option T} {b:Nat -> T -> Option R} {A:T -> Prop} {Q:R -> Prop} (ha:Ab a A) (hb: ∃ M,∀ n,M<=n -> ∀ x,A x -> ∃ r,b n x=some r/\ Q r):Ab (fun n=>(a n).bind (b n)) Q:=by
 obtain ⟨N,ha⟩:=ha;obtain ⟨M,hb⟩:=hb;refine ⟨max N M,fun n hn=>?_⟩;obtain ⟨x,h1,h2⟩:=ha n (by omega);obtain ⟨r,h3,h4⟩:=hb n (by omega) x h2;exact ⟨r,by show (a n).bind (b n)=_;rw [h1,yD];exact h3,h4⟩
structure MU (g:List (List Int)):Prop where
 ok:Hp g=true
 row: ∀ r∈g,r.length<=LB
theorem MU.gr {g:List (List Int)} (h:MU g):Gr g:=Gr.of h.ok h.row
section
variable {g:List (List Int)} {inn some':List Bool} {s:Int}
theorem ft {sets:List (List Bool)} (hs: ∀ x∈sets,x.length=g.length) (hl:sets.length<=256): ∀ (k i n:Nat),i+k=sets.length -> k+1<=n -> Nc g sets n (.l1 (i:Int))=some 0
 | 0,i,n,e,hn=>by
  obtain ⟨n,rfl⟩: ∃ k,n=k+1:=⟨n-1,by omega⟩
  show Qm n (Nc g sets n) g sets i=_
  unfold Qm;rw [yA (by omega),yB]
 | k+1,i,n,e,hn=>by
  obtain ⟨n,rfl⟩: ∃ k,n=k+1:=⟨n-1,by omega⟩;have hi:i<sets.length:=by omega
  have hm:sets.getD i []∈sets:=by rw [u8,xz hi];exact yZ hi
  have e2:(((sets.getD i []).length:Int) != (g.length:Int))=false:=by rw [hs _ hm];simp
  have:=ft hs hl k (i+1) n (by omega) (by omega)
  show Qm n (Nc g sets n) g sets i=_
  unfold Qm;rw [yI (by omega),yF,yC ⟨by omega,by omega⟩,yH,e2,yB,yC (At.2 ⟨by omega,by omega⟩)];exact this
theorem fv (G:MU g) {sets:List (List Bool)} (hs: ∀ x∈sets,x.length=g.length) (hl:sets.length<=256):Ev (fun n=>KR n g sets) 0:=by
 refine ⟨2*Ec g+1+sets.length+1,fun n hn=>?_⟩
 show KR n g sets=some 0
 unfold KR fu;rw [gA G.row (by omega),G.ok];exact ft hs hl sets.length 0 n (by omega) (by omega)
theorem im {n:Nat}: ∀ (l x:List Int),(x++l).length<=BT -> Bz (H4 n) l (.s1 x.length x)=some (.s1 (x++l).length (x++l))
 | [],x,h=>by rw [zAS];rfl
 | a::l,x,h=>by
  have e:x++a::l=x++[a]++l:=by simp
  rw [e] at h ⊢;have h2:x.length+1<=BT:=by simp only [yu,yz] at h;omega
  have e1:H4 n a (.s1 x.length x)=some (.s1 (x++[a]).length (x++[a])):=by
   unfold H4 ZH VC
   dsimp only
   rw [yC ⟨⟨rfl,rfl⟩,⟨rfl,rfl⟩,by simpa using h2⟩,yu]
  show (H4 n a (.s1 x.length x)).bind (Bz (H4 n) l)=_
  rw [e1,yD];exact im l (x++[a]) h
theorem kO {n:Nat} {l:List Int} (h0:l≠[]) (hl:l.length<=256):K3 n l=some (GL l):=by
 have L:(1000000000000:Nat)=BT:=rfl;cases l with
 | nil=>exact absurd rfl h0
 | cons a l=>
  have e1:H4 n a .s0=some (.s1 [a].length [a]):=by
   unfold H4 ZH VD
   dsimp only
   rw [yC ⟨⟨rfl,rfl⟩,by simp,by rw [←L];simp⟩]
  have e2:=im (n:=n) l [a] (by rw [←L];simp only [List.singleton_append];omega)
  have e3:RY n (a::l)=some (a::l):=by
   unfold RY ZG
   show ((H4 n a .s0).bind (Bz (H4 n) l)).bind _=_
   rw [e1,yD,e2,yD]
   dsimp only
   rw [yC rfl];rfl
  unfold K3 Vs Ux Yv;rw [e3,yD,yD,yC (by rw [←L];omega),yC (Ol _).symm]
theorem nI {l:List Int} (h: ∀ v,v∈l↔Rc g inn s v):l≠[]:=fun e=>by
 have:=(h s).2 .start;rw [e] at this;cases this
theorem nJ (G:Gr g) (h0:0<=s) (h1:s<(g.length:Int)) {l:List Int} (hn:l.Nodup) (h: ∀ v,v∈l↔Rc g inn s v):l.length<=256:=
 yO (M4 g.length l hn fun x hx=>((h x).1 hx).rng G h0 h1) G.len
theorem wh (G:MU g) (hI:inn.length=g.length) (h0:0<=s) (h1:s<(g.length:Int)) (hs:inn.getD s.toNat false=true):
 Ab (fun n=>N5 n g inn s) (fun r=>r.2=0/\ r.1.length<=256/\ ∀ v,v∈r.1↔Rc g inn s v):=by
 have e: ∀ n,N5 n g inn s=(KR n g [inn]).bind fun y1=>bif (y1 != 0) then some (([]:List Int),y1) else (Fc n g s inn).bind fun y2=>(K3 n y2).bind fun y3=>some (y3,0):=fun n=>by
  unfold N5 g8
  congr 1
  funext y1
  rw [yA (by omega),yB,yA (by omega),yB,yC ⟨by omega,by omega⟩,hs,yq,yB]
 refine Ab.eq ?_ e;refine Ab.bind (fv G (fun x hx=>by rw [yV.1 hx];exact hI) (by simp)) ?_
 show Ab (fun n=>(Fc n g s inn).bind fun y2=>(K3 n y2).bind fun y3=>some (y3,0)) _
 refine Ab.bindU (V9 G.gr hI h0 h1) ⟨0,fun n _ l hl=>?_⟩;have Ae:=nJ G.gr h0 h1 hl.1 hl.2;rw [kO (nI hl.2) Ae,yD];exact ⟨_,rfl,rfl,by rw [Ol];exact Ae,fun v=>by rw [(R5 l).mem_iff];exact hl.2 v⟩
structure Pt (g:List (List Int)) (inn:List Bool) (i:Nat) (part:List Int) (Ds:Int):Prop where
 len:part.length=g.length
 m0:0<=Ds
 m1:Ds<=(i:Int)
 lo: ∀ v,v<g.length -> 0<=part.getD v 0/\ part.getD v 0<=Ds
 isIn: ∀ v,v<g.length -> 0<part.getD v 0 -> inn.getD v false=true
 same: ∀ u v:Nat,u<g.length -> v<g.length -> 0<part.getD u 0 -> Rc g inn u v -> part.getD v 0=part.getD u 0
 con: ∀ u v:Nat,u<g.length -> v<g.length -> 0<part.getD u 0 -> part.getD v 0=part.getD u 0 -> Rc g inn u v
 all: ∀ v,v<i -> v<g.length -> inn.getD v false=true -> 0<part.getD v 0
theorem cT {n:Nat} {x13 m:Int}: ∀ (l:List Int) (part:List Int),part.length=g.length -> (∀ v∈l,0<=v/\ v<(g.length:Int)) ->
 ∃ GP,Bz (LO n g inn x13 m) l (.s0 part)=some (.s0 GP)/\ GP.length=g.length/\ ∀ v:Nat,GP.getD v 0=if (v:Int)∈l/\ v<g.length then m+1 else part.getD v 0
 | [],part,hp,_=>⟨part,rfl,hp,fun v=>by simp⟩
 | a::l,part,hp,hl=>by
  have ha:=hl a zM
  have e1:LO n g inn x13 m a (.s0 part)=some (.s0 (part.set a.toNat (m+1))):=by
   unfold LO cR Sv
   dsimp only
   rw [yC ⟨ha,by omega⟩,yX]
  obtain ⟨GP,h1,h2,h3⟩:=cT (n:=n) (x13:=x13) (m:=m) l (part.set a.toNat (m+1)) (by rw [yp];exact hp) fun v hv=>hl v (yo _ hv)
  refine ⟨GP,?_,h2,fun v=>?_⟩
  ·show (LO n g inn x13 m a (.s0 part)).bind (Bz (LO n g inn x13 m) l)=_
   rw [e1,yD];exact h1
  ·rw [h3]
   by_cases hv:(v:Int)∈l/\ v<g.length
   ·rw [yC hv,yC ⟨yo _ hv.1,hv.2⟩]
   ·rw [yM hv]
    by_cases e:(v:Int)=a
    ·subst e;rw [yC ⟨zM,by omega⟩,yH,u8,zZ (by omega)];rfl
    ·rw [yM (fun h=>by
      rcases yd.1 h.1 with h4 | h4
      ·exact e h4
      ·exact hv ⟨h4,h.2⟩),u8,zT (by omega),←u8]
theorem Pt.go (G:Gr g) {i:Nat} {part GP:List Int} {Ds:Int} (h:Pt g inn i part Ds) (hi:i<g.length) (B5:inn.getD i false=true) (h0: ¬ part.getD i 0>0) {l:List Int} (hl: ∀ v,v∈l↔Rc g inn i v) (Ae:GP.length=g.length)
 (hp: ∀ v:Nat,GP.getD v 0=if (v:Int)∈l/\ v<g.length then Ds+1 else part.getD v 0):Pt g inn (i+1) GP (Ds+1):=by
 have m0:=h.m0;have m1:=h.m1;have Ks: ∀ v:Nat,v<g.length -> Rc g inn i v -> GP.getD v 0=Ds+1:=fun v hv hr=>by rw [hp,yC ⟨(hl v).2 hr,hv⟩]
 have no: ∀ v:Nat,¬ Rc g inn i v -> GP.getD v 0=part.getD v 0:=fun v hr=>by rw [hp,yM (fun h=>hr ((hl v).1 h.1))]
 have sym: ∀ u v:Nat,u<g.length -> inn.getD u false=true -> Rc g inn u v -> Rc g inn v u:=fun u v hu rP hr=>hr.symm G (by omega) (by omega) (by rw [yH];exact rP)
 refine ⟨Ae,by omega,by omega,fun v hv=>?_,fun v hv Hj=>?_,fun u v hu hv Hj hr=>?_,fun u v hu hv Hj he=>?_,fun v hv FM DE=>?_⟩
 ·have:=h.lo v hv
  by_cases hr:Rc g inn i v
  ·rw [Ks v hv hr];omega
  ·rw [no v hr];omega
 ·by_cases hr:Rc g inn i v
  ·have:=hr.isIn (by rw [yH];exact B5)
   rwa [yH] at this
  ·rw [no v hr] at Hj;exact h.isIn v hv Hj
 ·by_cases h1:Rc g inn i u
  ·rw [Ks u hu h1,Ks v hv (h1.trans hr)]
  ·rw [no u h1] at Hj ⊢;have h2: ¬ Rc g inn i v:=fun h2=>h1 (h2.trans (sym u v hu (h.isIn u hu Hj) hr))
   rw [no v h2];exact h.same u v hu hv Hj hr
 ·have hb:=(h.lo v hv).2
  by_cases h1:Rc g inn i u
  ·rw [Ks u hu h1] at he
   by_cases h2:Rc g inn i v
   ·exact (sym i u hi B5 h1).trans h2
   ·rw [no v h2] at he;omega
  ·rw [no u h1] at Hj he;have hb:=(h.lo u hu).2
   by_cases h2:Rc g inn i v
   ·rw [Ks v hv h2] at he;omega
   ·rw [no v h2] at he;exact h.con u v hu hv Hj he
 ·rcases yR.1 hv with hv | rfl
  ·have:=h.all v hv FM DE
   by_cases hr:Rc g inn i v
   ·rw [Ks v FM hr];omega
   ·rw [no v hr];exact this
  ·rw [Ks v FM .start];omega
def xr (g:List (List Int)) (inn:List Bool) (r:List Int×Int):Prop:=r.1.length=g.length/\ (∀ v,v<g.length -> inn.getD v false=true -> 0<r.1.getD v 0)/\ ∀ u v:Nat,u<g.length -> v<g.length -> inn.getD u false=true -> (r.1.getD v 0=r.1.getD u 0↔Rc g inn u v)
theorem oI (G:Gr g) (hI:inn.length=g.length):Ab (fun n=>parts n g inn) (xr g inn):=by
 have hG:=G.len;obtain ⟨N,hN⟩:=Ab.range (F:=fun (i:Nat) n=>Fc n g i inn) (A:=fun i l=>l.Nodup/\ ∀ v,v∈l↔Rc g inn i v) g.length fun i hi=>V9 G hI (by omega) (by omega)
 have hN: ∀ n,N<=n -> ∀ i:Nat,i<g.length -> ∃ l,Fc n g i inn=some l/\ l.Nodup/\ ∀ v,v∈l↔Rc g inn i v:=hN;refine ⟨N+g.length+1,fun n hn=>?_⟩;have S:=GR (fun n (s:List Int×Int) i=>Mz g inn n (.l1 i s.1 s.2)) g.length (N+1) (fun i s=>Pt g inn i s.1 s.2) (fun n i s E5 hi hP=>?_) (n:=n) (s:=(List.replicate g.length 0,0)) (by omega) ?_
 ·obtain ⟨n1,⟨part,Ds⟩,G4,_,e1,hP⟩:=S;obtain ⟨n2,rfl⟩: ∃ n2,n1=n2+1:=⟨n1-1,by omega⟩;refine ⟨(part,Ds),?_,hP.len,fun v hv hi=>hP.all v hv hv hi,fun u v hu hv hi=>?_⟩
  ·show parts n g inn=some (part,Ds)
   unfold parts cQ;rw [yC ⟨rfl,by omega,by omega⟩];refine Eq.trans e1 ?_
   show Pb n2 (Mz g inn n2) g inn (g.length:Int) part Ds=_
   unfold Pb;rw [yA (by omega),yB,yC hP.len.symm]
  ·have BR:=hP.all u hu hu hi;exact ⟨hP.con u v hu hv BR,hP.same u v hu hv BR⟩
 ·obtain ⟨part,Ds⟩:=s;have hP:Pt g inn i part Ds:=hP;have r1:AH ((i:Int)+1):=At.2 ⟨by omega,by omega⟩
  show ∃ s',Pb n (Mz g inn n) g inn (i:Int) part Ds=_/\ _
  unfold Pb;simp only [yH,yX];rw [yI (by omega),yF,yC ⟨by omega,by omega⟩];cases B5:inn.getD i false
  ·rw [zC,yF,yC r1];have m1:=hP.m1;refine ⟨(part,Ds),rfl,hP.len,hP.m0,by show Ds<=((i+1:Nat):Int);omega,hP.lo,hP.isIn,hP.same,hP.con,fun v hv FM DE=>?_⟩;rcases yR.1 hv with hv | rfl
   ·exact hP.all v hv FM DE
   ·rw [B5] at DE;cases DE
  ·have Ae:=hP.len;rw [yq,yB,yC ⟨⟨by omega,by omega⟩,by omega⟩]
   by_cases h0:part.getD i 0>0
   ·rw [yI h0,yF,yC r1];have m1:=hP.m1;refine ⟨(part,Ds),rfl,hP.len,hP.m0,by show Ds<=((i+1:Nat):Int);omega,hP.lo,hP.isIn,hP.same,hP.con,fun v hv FM DE=>?_⟩;rcases yR.1 hv with hv | rfl
    ·exact hP.all v hv FM DE
    ·exact h0
   ·obtain ⟨l,e2,Aw,hl⟩:=hN n (by omega) i hi;obtain ⟨GP,e3,h3,h4⟩:=cT (n:=n) (inn:=inn) (x13:=(i:Int)) (m:=Ds) l part hP.len fun v hv=>((hl v).1 hv).rng G (by omega) (by omega)
    have m0:=hP.m0;have m1:=hP.m1;rw [yA h0,yB,yC (At.2 ⟨by omega,by omega⟩),e2,yD,e3,yD]
    dsimp only
    rw [yC r1];exact ⟨(GP,Ds+1),rfl,hP.go G hi B5 h0 hl h3 h4⟩
 ·have z: ∀ v:Nat,(List.replicate g.length (0:Int)).getD v 0=0:=fun v=>by
   rw [u8,zL];split <;> rfl
  exact ⟨by simp,zV _,zV _,fun v _=>by rw [z];exact ⟨zV _,zV _⟩,fun v _ h=>by rw [z] at h;omega,fun u v _ _ h=>by rw [z] at h;omega,fun u v _ _ h=>by rw [z] at h;omega,fun v hv=>absurd hv (yT v)⟩
def Sp (g:List (List Int)) (inn some':List Bool) (a:Int):Prop:=∃ u v:Int,u≠a/\ v≠a/\ some'.getD u.toNat false=true/\ some'.getD v.toNat false=true/\ Rc g inn a u/\ Rc g inn a v/\ ¬ Rc g (inn.set a.toNat false) u v
theorem ay {n:Nat} {a f:Int} {y3:List Int×Int} (hS:some'.length=g.length) (hy:y3.1.length=g.length) (hf:f≠0): ∀ (l:List Int),(∀ v∈l,0<=v/\ v<(g.length:Int)) ->
 ∃ b f' c,ED (Ge n some' a y3) l (.s0 false f)=some (.s0 b f',c)/\ (c=0∨c=1)/\ (b=true↔∃ v∈l,v≠a/\ some'.getD v.toNat false=true/\ y3.1.getD v.toNat 0≠f)
 | [],_=>⟨false,f,0,rfl,.inl rfl,by simp⟩
 | x::l,hl=>by
  have hx:=hl x zM;obtain ⟨b,f',c,h1,h2,h3⟩:=ay (n:=n) (a:=a) hS hy hf l fun v hv=>hl v (yo _ hv)
  have skip:Ge n some' a y3 x (.s0 false f)=some (.s0 false f,0) -> ¬ (x≠a/\ some'.getD x.toNat false=true/\ y3.1.getD x.toNat 0≠f) -> ∃ b f' c,ED (Ge n some' a y3) (x::l) (.s0 false f)=some (.s0 b f',c)/\ (c=0∨c=1)/\ (b=true↔∃ v∈x::l,v≠a/\ some'.getD v.toNat false=true/\ y3.1.getD v.toNat 0≠f):=by
   intro e hn;refine ⟨b,f',c,?_,h2,?_⟩
   ·unfold ED;rw [e,yD];exact h1
   ·rw [h3];constructor
    ·rintro ⟨v,hv,h⟩;exact ⟨v,yo _ hv,h⟩
    ·rintro ⟨v,hv,h⟩;rcases yd.1 hv with rfl | hv
     ·exact absurd h hn
     ·exact ⟨v,hv,h⟩
  have f0:(f==0)=false:=zH.2 hf;have U:Ge n some' a y3 x (.s0 false f)=Ok n some' a y3 x false f:=rfl;unfold Ok at U
  by_cases e1:x=a
  ·have:(x==a)=true:=yk.2 e1;rw [this,yF] at U;exact skip U fun h=>h.1 e1
  ·have:(x==a)=false:=zH.2 e1;rw [this,yB,yC ⟨by omega,by omega⟩] at U;cases e2:some'.getD x.toNat false
   ·rw [e2,zC,yF] at U;exact skip U fun h=>by rw [e2] at h;cases h.2.1
   ·rw [e2,yq,yB,f0,yB,yC ⟨by omega,by omega⟩] at U
    by_cases e3:y3.1.getD x.toNat 0=f
    ·have e4:(y3.1.getD x.toNat 0 != f)=false:=by rw [e3];simp
     rw [e4,yB] at U;exact skip U fun h=>h.2.2 e3
    ·have e4:(y3.1.getD x.toNat 0 != f)=true:=by simpa using e3
     rw [e4,yF] at U;refine ⟨true,f,1,?_,.inr rfl,?_⟩
     ·unfold ED;rw [U,yD];rfl
     ·exact ⟨fun _=>⟨x,zM,e1,e2,e3⟩,fun _=>rfl⟩
theorem az {n:Nat} {a:Int} {y3:List Int×Int} (hS:some'.length=g.length) (hy:y3.1.length=g.length): ∀ (l:List Int),(∀ v∈l,0<=v/\ v<(g.length:Int)) -> (∀ v∈l,v≠a -> y3.1.getD v.toNat 0≠0) ->
 ∃ b f' c,ED (Ge n some' a y3) l (.s0 false 0)=some (.s0 b f',c)/\ (c=0∨c=1)/\ (b=true↔∃ u∈l,∃ v∈l,u≠a/\ v≠a/\ some'.getD u.toNat false=true/\ some'.getD v.toNat false=true/\ y3.1.getD v.toNat 0≠y3.1.getD u.toNat 0)
 | [],_,_=>⟨false,0,0,rfl,.inl rfl,by simp⟩
 | x::l,hl,hz=>by
  have hx:=hl x zM;have Dt: ∀ v∈l,0<=v/\ v<(g.length:Int):=fun v hv=>hl v (yo _ hv)
  have skip:Ge n some' a y3 x (.s0 false 0)=some (.s0 false 0,0) -> ¬ (x≠a/\ some'.getD x.toNat false=true) -> ∃ b f' c,ED (Ge n some' a y3) (x::l) (.s0 false 0)=some (.s0 b f',c)/\ (c=0∨c=1)/\ (b=true↔∃ u∈x::l,∃ v∈x::l,u≠a/\ v≠a/\ some'.getD u.toNat false=true/\ some'.getD v.toNat false=true/\ y3.1.getD v.toNat 0≠y3.1.getD u.toNat 0):=by
   intro e hn;obtain ⟨b,f',c,h1,h2,h3⟩:=az (n:=n) (a:=a) hS hy l Dt fun v hv=>hz v (yo _ hv)
   refine ⟨b,f',c,?_,h2,?_⟩
   ·unfold ED;rw [e,yD];exact h1
   ·rw [h3];constructor
    ·rintro ⟨u,hu,v,hv,h⟩;exact ⟨u,yo _ hu,v,yo _ hv,h⟩
    ·rintro ⟨u,hu,v,hv,h4,h5,h6,h7,h8⟩;rcases yd.1 hu with rfl | hu
     ·exact absurd ⟨h4,h6⟩ hn
     ·rcases yd.1 hv with rfl | hv
      ·exact absurd ⟨h5,h7⟩ hn
      ·exact ⟨u,hu,v,hv,h4,h5,h6,h7,h8⟩
  have U:Ge n some' a y3 x (.s0 false 0)=Ok n some' a y3 x false 0:=rfl;unfold Ok at U
  by_cases e1:x=a
  ·have:(x==a)=true:=yk.2 e1;rw [this,yF] at U;exact skip U fun h=>h.1 e1
  ·have:(x==a)=false:=zH.2 e1;rw [this,yB,yC ⟨by omega,by omega⟩] at U;cases e2:some'.getD x.toNat false
   ·rw [e2,zC,yF] at U;exact skip U fun h=>by rw [e2] at h;cases h.2
   ·have z0:((0:Int)==0)=true:=rfl;rw [e2,yq,yB,z0,yF,yC ⟨by omega,by omega⟩] at U;obtain ⟨b,f',c,h1,h2,h3⟩:=ay (n:=n) (a:=a) hS hy (hz x zM e1) l Dt;refine ⟨b,f',c,?_,h2,?_⟩
    ·unfold ED;rw [U,yD];exact h1
    ·rw [h3];constructor
     ·rintro ⟨v,hv,h4,h5,h6⟩;exact ⟨x,zM,v,yo _ hv,e1,h4,e2,h5,h6⟩
     ·rintro ⟨u,hu,v,hv,h4,h5,h6,h7,h8⟩
      by_cases e3:y3.1.getD u.toNat 0=y3.1.getD x.toNat 0
      ·rcases yd.1 hv with rfl | hv
       ·exact absurd e3.symm h8
       ·exact ⟨v,hv,h5,h7,fun e=>h8 (e.trans e3.symm)⟩
      ·rcases yd.1 hu with rfl | hu
       ·exact absurd rfl e3
       ·exact ⟨u,hu,h4,h6,e3⟩
theorem kK (G:MU g) (hI:inn.length=g.length) (hS:some'.length=g.length) {a:Nat} (ha:a<g.length) (fG:inn.getD a false=true):
 Ab (fun n=>K1 n g inn some' (a:Int)) (fun r=>r.2=0/\ (r.1=true↔Sp g inn some' (a:Int))):=by
 have hG:=G.gr.len;have L:(1000000000000:Nat)=BT:=rfl
 have hw: ∀ n,OQ n (a:Int) inn=some (inn.set a false):=fun n=>by
  unfold OQ VS MD Yy;rw [yC ⟨by omega,trivial,⟨rfl,rfl⟩,by rw [←L];simp only [za];omega⟩,yC (by simp),yD,zc,yC ⟨⟨by omega,by omega⟩,by omega⟩,yC (by simp),yX,yH]
 have uo:(inn.set a false).length=g.length:=by rw [yp];exact hI
 have e: ∀ n,K1 n g inn some' (a:Int)=(KR n g [inn,some']).bind fun y1=>bif (y1 != 0) then some (false,y1) else (parts n g (inn.set a false)).bind fun y3=>(Fc n g a inn).bind fun y4=>(ED (Ge n some' a y3) y4 (.s0 false 0)).bind fun y5=>bif y5.2==0 then (match y5.1 with | .s0 b _=>some (b,0)) else bif y5.2==1 then (match y5.1 with | .s0 b _=>some (b,0)) else none:=fun n=>by
  unfold K1 aw
  congr 1
  funext y1
  rw [yA (by omega),yB,yA (by omega),yB,yC ⟨by omega,by omega⟩,yH,fG,yq,yB,hw,yD]
 refine Ab.eq ?_ e
 refine Ab.bind (fv G (fun x hx=>by
  rcases yd.1 hx with rfl | hx
  ·exact hI
  ·rw [yV.1 hx];exact hS) (by simp)) ?_
 show Ab (R:=Bool×Int) (fun n=>(parts n g (inn.set a false)).bind fun y3=>(Fc n g a inn).bind fun y4=>(ED (Ge n some' a y3) y4 (.s0 false 0)).bind fun y5=>bif y5.2==0 then (match y5.1 with | .s0 b _=>some (b,0)) else bif y5.2==1 then (match y5.1 with | .s0 b _=>some (b,0)) else none) _
 obtain ⟨N,hN⟩:=V9 G.gr hI (s:=(a:Int)) (by omega) (by omega);refine Ab.bindU (oI G.gr uo) ⟨N,fun n hn y3 hy=>?_⟩;obtain ⟨l,hl,Aw,NV⟩:=hN n hn;have hl:Fc n g (a:Int) inn=some l:=hl;have hr: ∀ v∈l,0<=v/\ v<(g.length:Int):=fun v hv=>((NV v).1 hv).rng G.gr (by omega) (by omega)
 have B5: ∀ v∈l,v≠(a:Int) -> (inn.set a false).getD v.toNat false=true:=fun v hv AV=>by
  have h1:=hr v hv;rw [u8,zT (by omega),←u8];exact ((NV v).1 hv).isIn (by rw [yH];exact fG)
 obtain ⟨b,f',c,h1,h2,h3⟩:=az (n:=n) (some':=some') (a:=(a:Int)) (y3:=y3) hS hy.1 l hr fun v hv AV=>by
  have h1:=hr v hv;have:=hy.2.1 v.toNat (by omega) (B5 v hv AV);omega
 rw [hl,yD,h1,yD];refine ⟨(b,0),?_,rfl,?_⟩
 ·rcases h2 with rfl | rfl <;> rfl
 ·show b=true↔_
  rw [h3]
  have key: ∀ u v:Int,u∈l -> v∈l -> u≠a -> (y3.1.getD v.toNat 0=y3.1.getD u.toNat 0↔Rc g (inn.set a false) u v):=fun u v hu hv AV=>by
   have h1:=hr u hu;have h2:=hr v hv;have:=hy.2.2 u.toNat v.toNat (by omega) (by omega) (B5 u hu AV)
   rwa [Int.toNat_of_nonneg h1.1,Int.toNat_of_nonneg h2.1] at this
  constructor
  ·rintro ⟨u,hu,v,hv,h4,h5,h6,h7,h8⟩;exact ⟨u,v,h4,h5,h6,h7,(NV u).1 hu,(NV v).1 hv,fun h=>h8 ((key u v hu hv h4).2 h)⟩
  ·rintro ⟨u,v,h4,h5,h6,h7,h8,h9,L6⟩;have hu:=(NV u).2 h8;have hv:=(NV v).2 h9;exact ⟨u,hu,v,hv,h4,h5,h6,h7,fun h=>L6 ((key u v hu hv h4).1 h)⟩
end
end Go.Proofs.YtekkngkphejfcaaGreatDoor
namespace Go.Proofs.YtekkngkphejfcaaGreatDoor
open Go.RowKit
def Dr (c:AB) (pos:List Int) (a:Nat):Bool:=bits .andNot .i64 (AT c pos a) c.set==0
def El (c:AB) (pos:List Int) (a:Nat):Bool:=Dr c pos a||(bits .and .i64 (AT c pos a) c.set != 0)
def cnt (p:Nat -> Bool) (i:Nat):Int:=(((List.range i).countP p:Nat):Int)
theorem N6 {p:Nat -> Bool} {i:Nat}:cnt p (i+1)=cnt p i+(if p i then 1 else 0):=by
 unfold cnt;rw [List.range_succ,List.countP_append,List.countP_singleton];split <;> simp
theorem iC {p:Nat -> Bool} {i:Nat}:0<=cnt p i/\ cnt p i<=i:=by
 unfold cnt;have:=List.countP_le_length (p:=p) (l:=List.range i);rw [zAF] at this;omega
def Ke (c:AB) (pos:List Int):Bool:=!decide (cnt (Dr c pos) c.cells.length>c.hi)&&!decide (cnt (El c pos) c.cells.length<c.lo)
def Hv (c:AB) (pos:List Int) (a s:Nat):Bool:=
 ((cnt (Dr c pos) c.cells.length==c.hi)&&(bits .andNot .i64 (AT c pos a) c.set != 0)&&tb c.set s)||((cnt (El c pos) c.cells.length==c.lo)&&(bits .and .i64 (AT c pos a) c.set != 0)&&!tb c.set s)
section
variable {c:AB} {k:Nat} {pos lost:List Int} {q:AA}
theorem wM {n:Nat} {x3 x4:Int} (W:B0 c k pos) (hl:lost.length=pos.length) (h3:x3=cnt (Dr c pos) c.cells.length) (h4:x4=cnt (El c pos) c.cells.length) (hn:c.cells.length+1<=n):
 ∃ l,Hw c q pos pos.length lost n (.l2 x3 x4 0 lost)=some (true,l)/\ Bn c pos lost c.cells.length (fun a s=>Hv c pos a s=true) l:=by
 have lt: ∀ i,i<c.cells.length -> ((i:Nat):Int)<((c.cells.length:Nat):Int):=fun i hi=>by omega
 have T:=GR (fun n (s:List Int) i=>Hw c q pos pos.length lost n (.l2 x3 x4 i s)) c.cells.length 1
  (fun i s=>Bn c pos lost i (fun a s=>Hv c pos a s=true) s) (fun n i s E5 hi hI=>?_) (n:=n) (s:=lost) (by omega) (Bn.zero hl)
 ·obtain ⟨n3,l,QR,_,e2,hL⟩:=T;obtain ⟨n4,rfl⟩: ∃ n4,n3=n4+1:=⟨n3-1,by omega⟩;refine ⟨l,e2.trans ?_,hL⟩
  show Q8 n4 (Hw c q pos pos.length lost n4) c q pos pos.length lost x3 x4 (c.cells.length:Int) l=_
  unfold Q8;rw [yA (by omega),yB]
 ·have hc:=W.cells i hi;have hr:=W.r64 hi
  have key: ∀ l':List Int,l'.length=pos.length -> (∀ j x,tb (l'.getD j 0) x=(tb (s.getD j 0) x||(decide (j=(c.cells.getD i 0).toNat)&&(tb (pos.getD j 0) x&&Hv c pos i x)))) -> Bn c pos lost (i+1) (fun a s=>Hv c pos a s=true) l':=by
   intro l' h1 h2;refine hI.step h1 fun j x=>?_
   rw [h2,ya,yG,yG,yQ];constructor
   ·rintro (h | ⟨rfl,h⟩)
    ·exact .inl h
    ·exact .inr ⟨rfl,h⟩
   ·rintro (h | ⟨rfl,h⟩)
    ·exact .inl h
    ·exact .inr ⟨rfl,h⟩
  obtain ⟨l1,e1,n1,f1⟩:=JC (lost:=s) (n:=n) (ss:=c.set) (c:=c) (q:=q) hc.1 hc.2 hI.1;obtain ⟨l2,e2,n2,f2⟩:=WX (lost:=l1) (n:=n) (c:=c) (q:=q) hc.1 hc.2 n1;obtain ⟨l3,e3,n3,f3⟩:=WX (lost:=s) (n:=n) (c:=c) (q:=q) hc.1 hc.2 hI.1;have d0:decide ((i:Int)<((c.cells.length:Nat):Int))=true:=yI (lt i hi);have g0:(0:Int)<=(i:Int)/\ (i:Int)<((c.cells.length:Nat):Int):=⟨by omega,lt i hi⟩
  show ∃ s',Q8 n (Hw c q pos pos.length lost n) c q pos pos.length lost x3 x4 (i:Int) s=_/\ _
  unfold Q8;rw [d0,yF,yC g0];simp only [yH];have X: ∀ x,Hv c pos i x=(((x3==c.hi)&&(bits .andNot .i64 (pos.getD (c.cells.getD i 0).toNat 0) c.set != 0)&&tb c.set x)||((x4==c.lo)&&(bits .and .i64 (pos.getD (c.cells.getD i 0).toNat 0) c.set != 0)&&!tb c.set x)):=fun x=>by rw [h3,h4];rfl
  cases hA:(x3==c.hi) <;> cases hC:(x4==c.lo) <;> cases hB:(bits .andNot .i64 (pos.getD (c.cells.getD i 0).toNat 0) c.set != 0) <;> cases hE:(bits .and .i64 (pos.getD (c.cells.getD i 0).toNat 0) c.set != 0) <;>
   simp only [hA,hB,hC,hE,ye,zh,zBA,Bool.and_true,zj,zv] at X <;>
   simp only [yF,yB,yC hc,e1,e2,e3,yD,yC hr.2]
  all_goals first
   | exact ⟨s,rfl,key s hI.1 fun j x=>by rw [X,zBA,zBA,zj]⟩
   | exact ⟨l1,rfl,key l1 n1 fun j x=>by rw [f1,X]⟩
   | exact ⟨l3,rfl,key l3 n3 fun j x=>by rw [f3,X]⟩
   | exact ⟨l2,rfl,key l2 n2 fun j x=>by
    rw [f2,f1,X];cases tb (s.getD j 0) x <;> cases decide (j=(c.cells.getD i 0).toNat) <;> cases tb (pos.getD j 0) x <;> cases tb c.set x <;> rfl⟩
theorem wN {n:Nat} (W:B0 c k pos) (hl:lost.length=pos.length) (hn:2*c.cells.length+3<=n):
 ∃ l,N4 n c q pos pos.length lost=some (Ke c pos,l)/\ (Ke c pos=true -> Bn c pos lost c.cells.length (fun a s=>Hv c pos a s=true) l):=by
 have lt: ∀ i,i<c.cells.length -> ((i:Nat):Int)<((c.cells.length:Nat):Int):=fun i hi=>by omega
 have S:=GR (fun n (s:Int×Int) i=>Hw c q pos pos.length lost n (.l1 s.1 s.2 i)) c.cells.length (c.cells.length+3)
  (fun i s=>s.1=cnt (Dr c pos) i/\ s.2=cnt (El c pos) i) (fun n i s _ hi hI=>?_) (n:=n) (s:=(0,0)) (by omega) ⟨rfl,rfl⟩
 ·obtain ⟨n1,⟨x3,x4⟩,G4,_,e1,h3,h4⟩:=S;obtain ⟨n2,rfl⟩: ∃ n2,n1=n2+1:=⟨n1-1,by omega⟩;have e2:N4 n c q pos pos.length lost=Q9 n2 (Hw c q pos pos.length lost n2) c q pos pos.length lost x3 x4 (c.cells.length:Int):=e1;have h3:x3=cnt (Dr c pos) c.cells.length:=h3;have h4:x4=cnt (El c pos) c.cells.length:=h4;unfold Q9 at e2;rw [yA (by omega),yB] at e2;unfold Ke;rw [←h3,←h4];cases h5:decide (x3>c.hi)
  ·cases h6:decide (x4<c.lo)
   ·obtain ⟨l,e3,hL⟩:=wM (q:=q) (n:=n2) W hl h3 h4 (by omega);rw [h5,h6,yB,yB,e3] at e2;exact ⟨l,e2,fun _=>hL⟩
   ·rw [h5,h6,yB,yF] at e2;exact ⟨lost,e2,fun h=>by cases h⟩
  ·rw [h5,yF] at e2;exact ⟨lost,e2,fun h=>by cases h⟩
 ·obtain ⟨x3,x4⟩:=s;obtain ⟨h3,h4⟩:=hI;simp only at h3 h4;have hc:=W.cells i hi;have hr:=W.r64 hi;have b3:=iC (p:=Dr c pos) (i:=i);have b4:=iC (p:=El c pos) (i:=i);have Ae:=W.len;have r3:AH (x3+1):=At.2 ⟨by omega,by omega⟩;have r4:AH (x4+1):=At.2 ⟨by omega,by omega⟩
  show ∃ s',Q9 n (Hw c q pos pos.length lost n) c q pos pos.length lost x3 x4 (i:Int)=_/\ _
  unfold Q9;rw [yI (lt i hi),yF];simp only [yH];rw [yC ⟨⟨by omega,lt i hi⟩,hc⟩];have m1:(bits .andNot .i64 (pos.getD (c.cells.getD i 0).toNat 0) c.set==0)=Dr c pos i:=rfl;have m2:(Dr c pos i||(bits .and .i64 (pos.getD (c.cells.getD i 0).toNat 0) c.set != 0))=El c pos i:=rfl;rw [m1];cases hm:Dr c pos i
  ·rw [hm,zv] at m2;rw [yB,m2];cases hy:El c pos i
   ·rw [yB,yC hr.2];exact ⟨(x3,x4),rfl,by rw [N6,hm];simpa using h3,by rw [N6,hy];simpa using h4⟩
   ·rw [yF,yC ⟨r4,hr.2⟩];exact ⟨(x3,x4+1),rfl,by rw [N6,hm];simpa using h3,by rw [N6,hy];simpa using h4⟩
  ·have hy:El c pos i=true:=by rw [←m2,hm];rfl
   rw [yF,yC ⟨r3,r4,hr.2⟩];exact ⟨(x3+1,x4+1),rfl,by rw [N6,hm];simpa using h3,by rw [N6,hy];simpa using h4⟩
end
end Go.Proofs.YtekkngkphejfcaaGreatDoor
namespace Go.Proofs.YtekkngkphejfcaaGreatDoor
abbrev zG:=@Nat.lt_of_not_le
end Go.Proofs.YtekkngkphejfcaaGreatDoor
namespace Go.Proofs.YtekkngkphejfcaaGreatDoor
open Go.RowKit
theorem jr (x:Int) (i:Nat):tb (IntKind.i64.wrap x) i=tb x i:=by unfold tb;rw [Pi]
theorem Ob {s:Nat} (hs:s<64) (i:Nat):tb (IntKind.i64.wrap (1*2 ^ s)) i=decide (s=i):=by
 rw [jr,Int.one_mul];rcases zd i 64 with h | h
 ·have e:((2 ^ s:Nat):Int)=(2:Int) ^ s:=by simp
  rw [←e];exact js h
 ·rw [HI h,yA (by omega)]
theorem Fi {k:Nat} {x:Int} (h:Sm k x) (hk:k<=62) {e:Int}:e∈BO x↔∃ s:Nat,e=(s:Int)/\ s<k/\ tb x s=true:=by
 obtain ⟨m,rfl⟩:=zAM h.1;unfold BO D1;simp only [zK,zx,yP,yH];constructor
 ·rintro ⟨s,⟨h1,h2⟩,rfl⟩;have h3:tb (m:Int) s=true:=by rw [Kw m s h1];exact h2
  refine ⟨s,rfl,?_,h3⟩;refine zG fun CW=>?_
  rw [h.hi CW] at h3;cases h3
 ·rintro ⟨s,rfl,h1,h2⟩;exact ⟨s,⟨by omega,by rw [Kw m s (by omega)] at h2;exact h2⟩,rfl⟩
theorem UX {α σ:Type} {f:α -> σ -> Option σ} (Inv:List α -> σ -> Prop): ∀ (l pre:List α) (s:σ),Inv pre s -> (∀ pre x s,x∈l -> Inv pre s -> ∃ s',f x s=some s'/\ Inv (pre++[x]) s') -> ∃ s',Bz f l s=some s'/\ Inv (pre++l) s'
 | [],pre,s,h,_=>⟨s,rfl,by rw [zAS];exact h⟩
 | x::l,pre,s,h,hs=>by
  obtain ⟨s',h1,h2⟩:=hs pre x s (.head _) h;obtain ⟨s2,h3,h4⟩:=UX Inv l (pre++[x]) s' h2 fun pre y s hy=>hs pre y s (.tail _ hy)
  refine ⟨s2,?_,by rw [zAX] at h4;exact h4⟩;simp only [Bz];rw [h1,yD,h3]
structure FU (q:AA) (k:Nat):Prop where
 len:k<=q.values.length
 val: ∀ s,s<k -> 0<=q.values.getD s 0/\ q.values.getD s 0<=99
def JD (q:AA) (a e:Int):Int:=if q.values.getD e.toNat 0<a then q.values.getD e.toNat 0 else a
def JP (q:AA) (a e:Int):Int:=if q.values.getD e.toNat 0>a then q.values.getD e.toNat 0 else a
def D7 (q:AA) (x:Int):Int:=(BO x).foldl (JD q) 100
def EA (q:AA) (x:Int):Int:=(BO x).foldl (JP q) (-1)
section
variable {c:AB} {k:Nat} {pos lost:List Int} {q:AA}
theorem dc: ∀ (l:List Int) (a:Int),(∀ e∈l,0<=q.values.getD e.toNat 0/\ q.values.getD e.toNat 0<=99) -> 0<=a/\ a<=100 -> 0<=l.foldl (JD q) a/\ l.foldl (JD q) a<=100
 | [],_,_,h=>h
 | e::l,a,hv,h=>by
  have:=hv e (.head _);refine dc l (JD q a e) (fun e he=>hv e (.tail _ he)) ?_;unfold JD;split <;> omega
theorem fH: ∀ (l:List Int) (a:Int),(∀ e∈l,0<=q.values.getD e.toNat 0/\ q.values.getD e.toNat 0<=99) -> -1<=a/\ a<=99 -> -1<=l.foldl (JP q) a/\ l.foldl (JP q) a<=99
 | [],_,_,h=>h
 | e::l,a,hv,h=>by
  have:=hv e (.head _);refine fH l (JP q a e) (fun e he=>hv e (.tail _ he)) ?_;unfold JP;split <;> omega
theorem FU.sym (V:FU q k) (hk:k<=16) {x:Int} (h:Sm k x): ∀ e∈BO x,(0<=e/\ e<((q.values.length:Nat):Int))/\ 0<=q.values.getD e.toNat 0/\ q.values.getD e.toNat 0<=99:=by
 intro e he;obtain ⟨s,rfl,h1,_⟩:=(Fi h (yO hk (by decide))).1 he;have:=V.len;rw [yH];exact ⟨by omega,V.val s h1⟩
theorem FU.lo (V:FU q k) (hk:k<=16) {x:Int} (h:Sm k x):0<=D7 q x/\ D7 q x<=100:=dc _ _ (fun e he=>(V.sym hk h e he).2) (by decide)
theorem FU.hi (V:FU q k) (hk:k<=16) {x:Int} (h:Sm k x): -1<=EA q x/\ EA q x<=99:=fH _ _ (fun e he=>(V.sym hk h e he).2) (by decide)
theorem gY {n ln:Nat}: ∀ (l:List Int) (a b:Int),(∀ e∈l,0<=e/\ e<((q.values.length:Nat):Int)) -> Bz (Qy n c q pos ln lost) l (.s0 a b)=some (.s0 (l.foldl (JD q) a) (l.foldl (JP q) b))
 | [],_,_,_=>rfl
 | e::l,a,b,h=>by
  have e1:Qy n c q pos ln lost e (.s0 a b)=some (.s0 (JD q a e) (JP q b e)):=by
   unfold Qy ga gb
   dsimp only
   rw [yC (h e (.head _))];rfl
  simp only [Bz];rw [e1,yD,gY l _ _ fun e he=>h e (.tail _ he)];rfl
theorem gX {n ln:Nat} (V:FU q k) (hk:k<=16) {x:Int} (h:Sm k x):Qz n x c q pos ln lost=some (D7 q x,EA q x,lost):=by
 have fm:=LJ (k:=k) (yO hk (by decide));have h2:=h.2;unfold Qz gZ;rw [yC ⟨h.1,by omega⟩,gY (BO x) 100 (-1) fun e he=>(V.sym hk h e he).1];rfl
def EJ (f:Nat -> Int):Nat -> Int
 | 0=>0
 | i+1=>EJ f i+f i
theorem OZ {f:Nat -> Int}: ∀ (i:Nat),(∀ a,a<i -> -1<=f a/\ f a<=100) -> -(i:Int)<=EJ f i/\ EJ f i<=100*(i:Int)
 | 0,_=>by simp [EJ]
 | i+1,h=>by
  have h1:=OZ i fun a ha=>h a (by omega)
  have h2:=h i (by omega);simp only [EJ];omega
def JB (q:AA) (c:AB) (pos:List Int):Int:=EJ (fun a=>D7 q (AT c pos a)) c.cells.length
def JO (q:AA) (c:AB) (pos:List Int):Int:=EJ (fun a=>EA q (AT c pos a)) c.cells.length
def Jl (q:AA) (c:AB) (pos:List Int):Bool:=!decide (JB q c pos>c.hi)&&!decide (JO q c pos<c.lo)
def HK (q:AA) (c:AB) (pos:List Int) (a s:Nat):Bool:=
 decide (JB q c pos-D7 q (AT c pos a)+q.values.getD s 0>c.hi)||decide (JO q c pos-EA q (AT c pos a)+q.values.getD s 0<c.lo)
theorem dZ {T:Type} {n:Nat} (W:B0 c k pos) {i:Nat} (hi:i<c.cells.length) (hl:lost.length=pos.length) (mk:List Int -> T) (f:Int -> T -> Option T) (X:Nat -> Bool)
 (hf: ∀ (s:Nat) (l:List Int),s<k -> l.length=pos.length -> f (s:Int) (mk l)=bif X s then (Cv n (c.cells.getD i 0) (IntKind.i64.wrap (1*2 ^ s)) c q pos pos.length l).map mk else some (mk l)):
 ∃ l',Bz f (BO (AT c pos i)) (mk lost)=some (mk l')/\ l'.length=pos.length/\
  ∀ j s,tb (l'.getD j 0) s=true↔tb (lost.getD j 0) s=true∨((c.cells.getD i 0).toNat=j/\ tb (AT c pos i) s=true/\ X s=true):=by
 have hc:=W.cells i hi;have CR:=W.at hi;have hk:=W.k
 have key:=UX (f:=f)
  (fun pre s=>∃ l',s=mk l'/\ l'.length=pos.length/\ ∀ j s,tb (l'.getD j 0) s=true↔tb (lost.getD j 0) s=true∨((c.cells.getD i 0).toNat=j/\ tb (AT c pos i) s=true/\ (s:Int)∈pre/\ X s=true))
  (BO (AT c pos i)) [] (mk lost) ⟨lost,rfl,hl,fun j s=>⟨.inl,fun h=>h.elim id fun h=>(by cases h.2.2.1)⟩⟩ ?_
 ·obtain ⟨_,h1,l',rfl,h2,h3⟩:=key;refine ⟨l',h1,h2,fun j s=>?_⟩;rw [h3,zc];constructor
  ·rintro (h | ⟨a1,a2,_,a3⟩)
   ·exact .inl h
   ·exact .inr ⟨a1,a2,a3⟩
  ·rintro (h | ⟨a1,a2,a3⟩)
   ·exact .inl h
   ·refine .inr ⟨a1,a2,(Fi CR (yO hk (by decide))).2 ⟨s,rfl,zG fun CW=>?_,a2⟩,a3⟩;rw [CR.hi CW] at a2;cases a2
 ·rintro pre e _ he ⟨l',rfl,h2,h3⟩;obtain ⟨s,rfl,hs,hbit⟩:=(Fi CR (yO hk (by decide))).1 he;rw [hf s l' hs h2];cases hx:X s
  ·rw [yB];refine ⟨_,rfl,l',rfl,h2,fun j x=>?_⟩;rw [h3];constructor
   ·rintro (h | ⟨a1,a2,a3,a4⟩)
    ·exact .inl h
    ·exact .inr ⟨a1,a2,yj _ a3,a4⟩
   ·rintro (h | ⟨a1,a2,a3,a4⟩)
    ·exact .inl h
    ·rcases yb.1 a3 with a3 | a3
     ·exact .inr ⟨a1,a2,a3,a4⟩
     ·have:x=s:=by have:=yV.1 a3;omega
      subst this;rw [hx] at a4;cases a4
  ·obtain ⟨l2,e2,n2,f2⟩:=JC (lost:=l') (n:=n) (ss:=IntKind.i64.wrap (1*2 ^ s)) (c:=c) (q:=q) hc.1 hc.2 h2;rw [yF,e2,yi];refine ⟨_,rfl,l2,rfl,n2,fun j x=>?_⟩;rw [f2,ya,yG,yG,yQ,h3,Ob (by omega),yQ];constructor
   ·rintro ((h | ⟨a1,a2,a3,a4⟩) | ⟨rfl,a2,rfl⟩)
    ·exact .inl h
    ·exact .inr ⟨a1,a2,yj _ a3,a4⟩
    ·exact .inr ⟨rfl,a2,yy _ (.head _),hx⟩
   ·rintro (h | ⟨a1,a2,a3,a4⟩)
    ·exact .inl (.inl h)
    ·rcases yb.1 a3 with a3 | a3
     ·exact .inl (.inr ⟨a1,a2,a3,a4⟩)
     ·have:x=s:=by have:=yV.1 a3;omega
      subst this;subst a1;exact .inr ⟨rfl,a2,rfl⟩
theorem kA {n:Nat} (W:B0 c k pos) (V:FU q k) {i:Nat} (hi:i<c.cells.length) {low high:Int} (T7:low=JB q c pos) (fI:high=JO q c pos) (hl:lost.length=pos.length):
 ∃ l',Bz (Ry n c (i:Int) q pos pos.length low high (D7 q (AT c pos i),EA q (AT c pos i),lost)) (BO (AT c pos i)) (.s0 lost)=some (.s0 l')/\ l'.length=pos.length/\
  ∀ j s,tb (l'.getD j 0) s=true↔tb (lost.getD j 0) s=true∨((c.cells.getD i 0).toNat=j/\ tb (AT c pos i) s=true/\ HK q c pos i s=true):=by
 have hc:=W.cells i hi;have CR:=W.at hi;have hk:=W.k;have Ae:=W.len;have bl:=V.lo hk CR;have bh:=V.hi hk CR;have tl:=OZ (f:=fun a=>D7 q (AT c pos a)) c.cells.length fun a ha=>by have:=V.lo hk (W.at ha);omega
 have th:=OZ (f:=fun a=>EA q (AT c pos a)) c.cells.length fun a ha=>by have:=V.hi hk (W.at ha);omega
 have tl: -(c.cells.length:Int)<=low/\ low<=100*(c.cells.length:Int):=by rw [T7];exact tl
 have th: -(c.cells.length:Int)<=high/\ high<=100*(c.cells.length:Int):=by rw [fI];exact th
 refine dZ (n:=n) (q:=q) W hi hl Is.s0 _ (HK q c pos i) fun s l hs hl=>?_
 have hv:=V.val s hs;have FM:=V.len;have r1:AH (low-D7 q (AT c pos i)):=At.2 ⟨by omega,by omega⟩;have r2:AH (low-D7 q (AT c pos i)+q.values.getD s 0):=At.2 ⟨by omega,by omega⟩;have r3:AH (high-EA q (AT c pos i)):=At.2 ⟨by omega,by omega⟩;have r4:AH (high-EA q (AT c pos i)+q.values.getD s 0):=At.2 ⟨by omega,by omega⟩;have g1:(0:Int)<=(s:Int)/\ (s:Int)<((q.values.length:Nat):Int):=by omega
 have g2:(0:Int)<=(s:Int)/\ (s:Int)<=((IntKind.i64.bits:Nat):Int):=⟨by omega,by show (s:Int)<=64;omega⟩;obtain ⟨l2,e2,_,_⟩:=JC (lost:=l) (n:=n) (ss:=IntKind.i64.wrap (1*2 ^ s)) (c:=c) (q:=q) hc.1 hc.2 hl;have X:HK q c pos i s=(decide (low-D7 q (AT c pos i)+q.values.getD s 0>c.hi)||decide (high-EA q (AT c pos i)+q.values.getD s 0<c.lo)):=by rw [T7,fI];rfl
 rw [X];unfold Ry aj Rx
 dsimp only
 simp only [yH];rw [yC ⟨g1,r1,r2⟩];cases hA:decide (low-D7 q (AT c pos i)+q.values.getD s 0>c.hi)
 ·rw [yB,yC ⟨r3,r4⟩,zv];cases hB:decide (high-EA q (AT c pos i)+q.values.getD s 0<c.lo)
  ·rfl
  ·rw [yF,yF,yC g2,e2];rfl
 ·rw [yF,Bool.true_or,yF,yC g2,e2];rfl
theorem j7 {n:Nat} (W:B0 c k pos) (V:FU q k) (hl:lost.length=pos.length) (hn:c.cells.length+1<=n):
 ∃ l,HL c q pos pos.length lost n (.l2 0 lost (JB q c pos) (JO q c pos))=some (true,l)/\ Bn c pos lost c.cells.length (fun a s=>HK q c pos a s=true) l:=by
 have lt: ∀ i,i<c.cells.length -> ((i:Nat):Int)<((c.cells.length:Nat):Int):=fun i hi=>by omega
 have T:=GR (fun n (s:List Int) i=>HL c q pos pos.length lost n (.l2 i s (JB q c pos) (JO q c pos))) c.cells.length 1
  (fun i s=>Bn c pos lost i (fun a s=>HK q c pos a s=true) s) (fun n i s E5 hi hI=>?_) (n:=n) (s:=lost) (by omega) (Bn.zero hl)
 ·obtain ⟨n3,l,QR,_,e2,hL⟩:=T;obtain ⟨n4,rfl⟩: ∃ n4,n3=n4+1:=⟨n3-1,by omega⟩;refine ⟨l,e2.trans ?_,hL⟩
  show Od n4 (HL c q pos pos.length lost n4) c q pos pos.length lost (c.cells.length:Int) l _ _=_
  unfold Od;rw [yA (by omega),yB]
 ·have hc:=W.cells i hi;have hr:=W.r64 hi;have CR:=W.at hi;have fm:=LJ (k:=k) (yO W.k (by decide));have KE:=CR.2;obtain ⟨l',e1,n1,f1⟩:=kA (n:=n) W V hi rfl rfl hI.1
  show ∃ s',Od n (HL c q pos pos.length lost n) c q pos pos.length lost (i:Int) s _ _=_/\ _
  unfold Od;rw [yI (lt i hi),yF];simp only [yH];have sa:pos.getD (c.cells.getD i 0).toNat 0=AT c pos i:=rfl;rw [yC ⟨⟨by omega,lt i hi⟩,hc⟩,sa,gX V W.k CR,yD,yC ⟨CR.1,by show AT c pos i<_;omega⟩];refine ⟨l',?_,hI.step n1 f1⟩;refine (congrArg (fun z=>Option.bind z _) e1).trans ?_;rw [yD];simp only;rw [yC hr.2]
theorem j8 {n:Nat} (W:B0 c k pos) (V:FU q k) (hl:lost.length=pos.length) (hn:2*c.cells.length+3<=n):
 ∃ l,Me n c q pos pos.length lost=some (Jl q c pos,l)/\ (Jl q c pos=true -> Bn c pos lost c.cells.length (fun a s=>HK q c pos a s=true) l):=by
 have lt: ∀ i,i<c.cells.length -> ((i:Nat):Int)<((c.cells.length:Nat):Int):=fun i hi=>by omega
 have S:=GR (fun n (s:List Int×Int×Int) i=>HL c q pos pos.length lost n (.l1 i s.1 s.2.1 s.2.2)) c.cells.length (c.cells.length+3)
  (fun i s=>s.1=lost/\ s.2.1=EJ (fun a=>D7 q (AT c pos a)) i/\ s.2.2=EJ (fun a=>EA q (AT c pos a)) i) (fun n i s _ hi hI=>?_) (n:=n) (s:=(lost,0,0)) (by omega) ⟨rfl,rfl,rfl⟩
 ·obtain ⟨n1,⟨l0,x3,x4⟩,G4,_,e1,h0,h3,h4⟩:=S;obtain ⟨n2,rfl⟩: ∃ n2,n1=n2+1:=⟨n1-1,by omega⟩;obtain rfl:l0=lost:=h0;obtain rfl:x3=JB q c pos:=h3;obtain rfl:x4=JO q c pos:=h4;have e2:Me n c q pos pos.length l0=Oe n2 (HL c q pos pos.length l0 n2) c q pos pos.length l0 (c.cells.length:Int) l0 (JB q c pos) (JO q c pos):=e1;unfold Oe at e2;rw [yA (by omega),yB] at e2;unfold Jl;cases h5:decide (JB q c pos>c.hi)
  ·cases h6:decide (JO q c pos<c.lo)
   ·obtain ⟨l,e3,hL⟩:=j7 (n:=n2) W V hl (by omega);rw [h5,h6,yB,yB,e3] at e2;exact ⟨l,e2,fun _=>hL⟩
   ·rw [h5,h6,yB,yF] at e2;exact ⟨l0,e2,fun h=>by cases h⟩
  ·rw [h5,yF] at e2;exact ⟨l0,e2,fun h=>by cases h⟩
 ·obtain ⟨l0,x3,x4⟩:=s;obtain ⟨h0,h3,h4⟩:=hI;simp only at h0 h3 h4;have hc:=W.cells i hi;have hr:=W.r64 hi;have CR:=W.at hi;have b3:=OZ (f:=fun a=>D7 q (AT c pos a)) i fun a ha=>by have:=V.lo W.k (W.at (Nat.lt_trans ha hi));omega
  have b4:=OZ (f:=fun a=>EA q (AT c pos a)) i fun a ha=>by have:=V.hi W.k (W.at (Nat.lt_trans ha hi));omega
  have bl:=V.lo W.k CR;have bh:=V.hi W.k CR;have Ae:=W.len;rw [←h3] at b3;rw [←h4] at b4;have r3:AH (x3+D7 q (AT c pos i)):=At.2 ⟨by omega,by omega⟩;have r4:AH (x4+EA q (AT c pos i)):=At.2 ⟨by omega,by omega⟩
  show ∃ s',Oe n (HL c q pos pos.length lost n) c q pos pos.length lost (i:Int) l0 x3 x4=_/\ _
  unfold Oe;rw [yI (lt i hi),yF];simp only [yH];have sa:pos.getD (c.cells.getD i 0).toNat 0=AT c pos i:=rfl;rw [yC ⟨⟨by omega,lt i hi⟩,hc⟩,sa,gX V W.k CR,yD,yC ⟨r3,r4,hr.2⟩];exact ⟨(l0,x3+D7 q (AT c pos i),x4+EA q (AT c pos i)),rfl,h0,by simp only [EJ];rw [h3],by simp only [EJ];rw [h4]⟩
end
end Go.Proofs.YtekkngkphejfcaaGreatDoor
namespace Go.Proofs.YtekkngkphejfcaaGreatDoor
open Go.RowKit
set_option maxRecDepth 100000
set_option maxHeartbeats 40000000
def aV:ST:=.rd 0 (.rd 1 (.rd 3 (.rd 4 (.ef 2 (.ef 5 (.ef 6 (.ef 7 (.ef 8 (.ef 9 (.fin [0,1,2,3] [1,3,4,5,58,91,92,104,148]) (.no)) (.no)) (.no)) (.ef 7 (.ef 6 (.ef 8 (.ef 9 (.fin [0,1,3,2] [1,3,4,5,58,91,92,104,148]) (.no)) (.no)) (.no)) (.no))) (.ef 6 (.ef 5 (.ef 7 (.ef 8 (.ef 9 (.fin [0,2,1,3] [1,3,4,5,58,91,92,104,148]) (.no)) (.no)) (.no)) (.ef 7 (.ef 5 (.ef 8 (.ef 9 (.fin [0,3,1,2] [1,3,4,5,58,91,92,104,148]) (.no)) (.no)) (.ef 8 (.ef 5 (.ef 9 (.fin [0,3,1,2] [1,3,4,5,58,91,92,104,148]) (.no)) (.no)) (.no))) (.no))) (.ef 7 (.ef 5 (.ef 6 (.ef 8 (.ef 9 (.fin [0,2,3,1] [1,3,4,5,58,91,92,104,148]) (.no)) (.no)) (.no)) (.ef 6 (.ef 5 (.ef 8 (.ef 9 (.fin [0,3,2,1] [1,3,4,5,58,91,92,104,148]) (.no)) (.no)) (.ef 8 (.ef 5 (.ef 9 (.fin [0,3,2,1] [1,3,4,5,58,91,92,104,148]) (.no)) (.no)) (.no))) (.no))) (.no)))) (.ef 5 (.ef 2 (.ef 6 (.ef 7 (.ef 8 (.ef 9 (.fin [1,0,2,3] [1,3,4,5,58,91,92,104,148]) (.no)) (.no)) (.no)) (.ef 7 (.ef 6 (.ef 8 (.ef 9 (.fin [1,0,3,2] [1,3,4,5,58,91,92,104,148]) (.no)) (.no)) (.no)) (.no))) (.ef 6 (.ef 2 (.ef 7 (.ef 8 (.ef 9 (.fin [2,0,1,3] [1,3,4,5,58,91,92,104,148]) (.no)) (.no)) (.no)) (.ef 7 (.ef 2 (.ef 8 (.ef 9 (.fin [3,0,1,2] [1,3,4,5,58,91,92,104,148]) (.no)) (.no)) (.no)) (.no))) (.ef 7 (.ef 2 (.ef 6 (.ef 8 (.ef 9 (.fin [2,0,3,1] [1,3,4,5,58,91,92,104,148]) (.no)) (.no)) (.no)) (.ef 6 (.ef 2 (.ef 8 (.ef 9 (.fin [3,0,2,1] [1,3,4,5,58,91,92,104,148]) (.no)) (.no)) (.no)) (.no))) (.no)))) (.ef 6 (.ef 2 (.ef 5 (.ef 7 (.ef 8 (.ef 9 (.fin [1,2,0,3] [1,3,4,5,58,91,92,104,148]) (.no)) (.no)) (.no)) (.ef 7 (.ef 5 (.ef 8 (.ef 9 (.fin [1,3,0,2] [1,3,4,5,58,91,92,104,148]) (.no)) (.no)) (.ef 8 (.ef 5 (.ef 9 (.fin [1,3,0,2] [1,3,4,5,58,91,92,104,148]) (.no)) (.no)) (.no))) (.no))) (.ef 5 (.ef 2 (.ef 7 (.ef 8 (.ef 9 (.fin [2,1,0,3] [1,3,4,5,58,91,92,104,148]) (.no)) (.no)) (.no)) (.ef 7 (.ef 2 (.ef 8 (.ef 9 (.fin [3,1,0,2] [1,3,4,5,58,91,92,104,148]) (.no)) (.no)) (.no)) (.no))) (.ef 7 (.ef 2 (.ef 5 (.ef 8 (.ef 9 (.fin [2,3,0,1] [1,3,4,5,58,91,92,104,148]) (.no)) (.no)) (.ef 8 (.ef 5 (.ef 9 (.fin [2,3,0,1] [1,3,4,5,58,91,92,104,148]) (.no)) (.no)) (.no))) (.ef 5 (.ef 2 (.ef 8 (.ef 9 (.fin [3,2,0,1] [1,3,4,5,58,91,92,104,148]) (.no)) (.no)) (.no)) (.no))) (.no)))) (.ef 7 (.ef 2 (.ef 5 (.ef 6 (.ef 8 (.ef 9 (.fin [1,2,3,0] [1,3,4,5,58,91,92,104,148]) (.no)) (.no)) (.no)) (.ef 6 (.ef 5 (.ef 8 (.ef 9 (.fin [1,3,2,0] [1,3,4,5,58,91,92,104,148]) (.no)) (.no)) (.ef 8 (.ef 5 (.ef 9 (.fin [1,3,2,0] [1,3,4,5,58,91,92,104,148]) (.no)) (.no)) (.no))) (.no))) (.ef 5 (.ef 2 (.ef 6 (.ef 8 (.ef 9 (.fin [2,1,3,0] [1,3,4,5,58,91,92,104,148]) (.no)) (.no)) (.no)) (.ef 6 (.ef 2 (.ef 8 (.ef 9 (.fin [3,1,2,0] [1,3,4,5,58,91,92,104,148]) (.no)) (.no)) (.no)) (.no))) (.ef 6 (.ef 2 (.ef 5 (.ef 8 (.ef 9 (.fin [2,3,1,0] [1,3,4,5,58,91,92,104,148]) (.no)) (.no)) (.ef 8 (.ef 5 (.ef 9 (.fin [2,3,1,0] [1,3,4,5,58,91,92,104,148]) (.no)) (.no)) (.no))) (.ef 5 (.ef 2 (.ef 8 (.ef 9 (.fin [3,2,1,0] [1,3,4,5,58,91,92,104,148]) (.no)) (.no)) (.no)) (.no))) (.no)))) (.no))))))))
theorem lD:CA (BA Tryz.f60 2) [2,5,6,7,8] aV:=by unfold CA;kernel_rfl
def aU:ST:=.rd 0 (.rd 1 (.rd 2 (.rd 3 (.ef 4 (.rd 5 (.ef 6 (.fin [] [1,4,5,58,91,92,104,148]) (.no))) (.no)))))
theorem lA:CA (BA Tryz.f60 3) [4] aU:=by unfold CA;kernel_rfl
theorem lH:Aj (BA Tryz.f60 12) [] (List.range 11) [11]:=by unfold Aj;kernel_rfl
theorem lC:Aj (BA Tryz.f60 22) [] (List.range 9) [9]:=by unfold Aj;kernel_rfl
theorem lB:Aj (BA Tryz.f60 26) [([0,1,2,3,4,5,6],7)] [] []:=by unfold Aj;kernel_rfl
def aT:ST:=.rd 0 (.rd 1 (.rd 2 (.rd 3 (.ef 4 (.fin [] [2]) (.no)))))
theorem bM:CA (BA Tryz.f60 30) [] aT:=by unfold CA;kernel_rfl
def Dm:BU:=fun i=>match i with
 | 2=>.tre [2,5,6,7,8] aV
 | 3=>.tre [4] aU
 | 12=>.ord [] (List.range 11) [11]
 | 22=>.ord [] (List.range 9) [9]
 | 26=>.ord [([0,1,2,3,4,5,6],7)] [] []
 | 30=>.tre [] aT
 | _=>.no
def CL (c:AB) (q:AA) (pos:List Int) (ln:Nat) (lost:List Int):St:=⟨(AL 178 [(1,.ref 2 0),(3,.i (c.cells.length:Int)),(4,.ref 5 0),(5,.ref 6 0)]),([some (.cells (AG c++AD q++[.ints pos,.msl 1 1 0 ln])),some (.ints lost),some (.cells [.ref 0 0]),some (.ints (List.replicate ((((c.cells.length:Int)+1)).toNat) (0:Int))),some (.ints (List.replicate ((((c.cells.length:Int)+1)).toNat) (0:Int))),some (.cells [.msl 3 1 0 ((((c.cells.length:Int)+1)).toNat)]),some (.cells [.msl 4 1 0 ((((c.cells.length:Int)+1)).toNat)])]:DH)⟩
def aD (c:AB) (q:AA) (pos:List Int) (ln:Nat) (lost:List Int):St:=⟨(AL 178 [(1,.ref 2 0),(4,.ref 5 0),(5,.ref 6 0)]),([some (.cells (AG c++AD q++[.ints pos,.msl 1 1 0 ln])),some (.ints lost),some (.cells [.ref 0 0]),some (.ints ((List.replicate ((((c.cells.length:Int)+1)).toNat) (0:Int)).set (0+0) (-1))),some (.ints ((List.replicate ((((c.cells.length:Int)+1)).toNat) (0:Int)).set (0+c.cells.length) 100)),some (.cells [.msl 3 1 0 ((((c.cells.length:Int)+1)).toNat)]),some (.cells [.msl 4 1 0 ((((c.cells.length:Int)+1)).toNat)])]:DH)⟩
def sp (c:AB) (q:AA) (pos:List Int) (ln:Nat) (lost o4:List Int) (A9:Int):DH:=[some (.cells (AG c++AD q++[.ints pos,.msl 1 1 0 ln])),some (.ints lost),some (.cells [.ref 0 0]),some (.cells [.msl 4 1 0 ((((c.cells.length:Int)+1)).toNat)]),some (.ints (o4.set (0+(((A9+1)).toNat)) 100)),some (.cells [.msl 6 1 0 ((((c.cells.length:Int)+1)).toNat)]),some (.ints ((List.replicate ((((c.cells.length:Int)+1)).toNat) (0:Int)).set (0+c.cells.length) 100)),some (.cells [.i A9])]
def sn (c:AB) (q:AA) (pos:List Int) (ln:Nat) (lost:List Int) (A9:Int) (o4:List Int):DH:=[some (.cells (AG c++AD q++[.ints pos,.msl 1 1 0 ln])),some (.ints lost),some (.cells [.ref 0 0]),some (.cells [.msl 7 1 0 ((((c.cells.length:Int)+1)).toNat)]),some (.cells [.msl 8 1 0 ((((c.cells.length:Int)+1)).toNat)]),some (.cells [.i A9]),some (.iter ((BO (pos.getD ((c.cells.getD ((A9).toNat) 0).toNat) 0)).map Bs)),some (.ints (o4.set (0+(((A9+1)).toNat)) 100)),some (.ints ((List.replicate ((((c.cells.length:Int)+1)).toNat) (0:Int)).set (0+c.cells.length) 100))]
def sk (c:AB) (q:AA) (pos:List Int) (ln:Nat) (lost o4:List Int):DH:=[some (.cells (AG c++AD q++[.ints pos,.msl 1 1 0 ln])),some (.ints lost),some (.cells [.ref 0 0]),some (.cells [.msl 4 1 0 ((((c.cells.length:Int)+1)).toNat)]),some (.ints o4),some (.cells [.msl 6 1 0 ((((c.cells.length:Int)+1)).toNat)]),some (.ints ((List.replicate ((((c.cells.length:Int)+1)).toNat) (0:Int)).set (0+c.cells.length) 100))]
def sj (c:AB) (q:AA) (pos:List Int) (ln:Nat) (lost:List Int) (y1:List (Int×Int)) (o4:List Int):DH:=[some (.cells (AG c++AD q++[.ints pos,.msl 1 1 0 ln])),some (.ints lost),some (.cells [.ref 0 0]),some (.cells [.msl 6 1 0 ((((c.cells.length:Int)+1)).toNat)]),some (.cells [.msl 7 1 0 ((((c.cells.length:Int)+1)).toNat)]),some (.iter ((y1).map MA)),some (.ints o4),some (.ints ((List.replicate ((((c.cells.length:Int)+1)).toNat) (0:Int)).set (0+c.cells.length) 100))]
def si (c:AB) (q:AA) (pos:List Int) (ln:Nat) (o1 o4 o6:List Int) (A0:Int):DH:=[some (.cells (AG c++AD q++[.ints pos,.msl 1 1 0 ln])),some (.ints o1),some (.cells [.ref 0 0]),some (.cells [.msl 4 1 0 ((((c.cells.length:Int)+1)).toNat)]),some (.ints o4),some (.cells [.msl 6 1 0 ((((c.cells.length:Int)+1)).toNat)]),some (.ints o6),some (.cells [.i A0]),some (.cells [.i (c.cells.getD ((A0).toNat) 0)])]
def sh (c:AB) (q:AA) (pos:List Int) (ln:Nat) (o1:List Int) (A0:Int) (o4 o6:List Int):DH:=[some (.cells (AG c++AD q++[.ints pos,.msl 1 1 0 ln])),some (.ints o1),some (.cells [.ref 0 0]),some (.cells [.msl 8 1 0 ((((c.cells.length:Int)+1)).toNat)]),some (.cells [.msl 9 1 0 ((((c.cells.length:Int)+1)).toNat)]),some (.cells [.i A0]),some (.cells [.i (c.cells.getD ((A0).toNat) 0)]),some (.iter ((BO (pos.getD ((c.cells.getD ((A0).toNat) 0).toNat) 0)).map Bs)),some (.ints o4),some (.ints o6)]
def sf (c:AB) (q:AA) (pos:List Int) (ln:Nat) (lost:List Int) (A9:Int) (Ey:List Int):DH:=[some (.cells (AG c++AD q++[.ints pos,.msl 1 1 0 ln])),some (.ints lost),some (.cells [.ref 0 0]),some (.cells [.msl 7 1 0 ((((c.cells.length:Int)+1)).toNat)]),some (.cells [.msl 8 1 0 ((((c.cells.length:Int)+1)).toNat)]),some (.cells [.i A9]),none,some (.ints Ey),some (.ints ((List.replicate ((((c.cells.length:Int)+1)).toNat) (0:Int)).set (0+c.cells.length) 100))]
def se (c:AB) (q:AA) (pos:List Int) (ln:Nat) (lost o4 Ee:List Int) (BE:Int×Int):DH:=[some (.cells (AG c++AD q++[.ints pos,.msl 1 1 0 ln])),some (.ints lost),some (.cells [.ref 0 0]),some (.cells [.msl 6 1 0 ((((c.cells.length:Int)+1)).toNat)]),some (.cells [.msl 7 1 0 ((((c.cells.length:Int)+1)).toNat)]),none,some (.ints o4),some (.ints Ee),some (.cells [.i BE.1])]
def su (c:AB) (q:AA) (pos:List Int) (ln:Nat) (lost o4 Ee:List Int) (BE:Int×Int):DH:=[some (.cells (AG c++AD q++[.ints pos,.msl 1 1 0 ln])),some (.ints lost),some (.cells [.ref 0 0]),some (.cells [.msl 6 1 0 ((((c.cells.length:Int)+1)).toNat)]),some (.cells [.msl 7 1 0 ((((c.cells.length:Int)+1)).toNat)]),none,some (.ints o4),some (.ints (Ee.set (0+((BE.1).toNat)) (-1))),some (.cells [.i BE.1])]
def sr (c:AB) (q:AA) (pos:List Int) (ln:Nat) (lost:List Int) (BE:Int×Int) (o4 Ee:List Int):DH:=[some (.cells (AG c++AD q++[.ints pos,.msl 1 1 0 ln])),some (.ints lost),some (.cells [.ref 0 0]),some (.cells [.msl 8 1 0 ((((c.cells.length:Int)+1)).toNat)]),some (.cells [.msl 9 1 0 ((((c.cells.length:Int)+1)).toNat)]),none,some (.cells [.i BE.1]),some (.iter ((BO (pos.getD ((BE.2).toNat) 0)).map Bs)),some (.ints o4),some (.ints (Ee.set (0+((BE.1).toNat)) (-1)))]
def Xz (c:AB) (q:AA) (pos:List Int) (ln:Nat) (Ff:List Int) (A0:Int) (o4 o6:List Int):DH:=[some (.cells (AG c++AD q++[.ints pos,.msl 1 1 0 ln])),some (.ints Ff),some (.cells [.ref 0 0]),some (.cells [.msl 8 1 0 ((((c.cells.length:Int)+1)).toNat)]),some (.cells [.msl 9 1 0 ((((c.cells.length:Int)+1)).toNat)]),some (.cells [.i A0]),some (.cells [.i (c.cells.getD ((A0).toNat) 0)]),none,some (.ints o4),some (.ints o6)]
def Rr (c:AB) (q:AA) (pos:List Int) (ln:Nat) (H2:(List Int)) (A0:Int) (o4 o6:List Int):St:=⟨(AL 178 []),([some (.cells (AG c++AD q++[.ints pos,.msl 1 1 0 ln])),some (.ints H2),some (.cells [.ref 0 0]),some (.cells [.msl 8 1 0 ((((c.cells.length:Int)+1)).toNat)]),some (.cells [.msl 9 1 0 ((((c.cells.length:Int)+1)).toNat)]),some (.cells [.i A0]),some (.cells [.i (c.cells.getD ((A0).toNat) 0)]),none,some (.ints o4),some (.ints o6)]:DH)⟩
def sq (c:AB) (q:AA) (pos:List Int) (ln:Nat) (lost:List Int) (BE:Int×Int) (o4 Ez:List Int):DH:=[some (.cells (AG c++AD q++[.ints pos,.msl 1 1 0 ln])),some (.ints lost),some (.cells [.ref 0 0]),some (.cells [.msl 8 1 0 ((((c.cells.length:Int)+1)).toNat)]),some (.cells [.msl 9 1 0 ((((c.cells.length:Int)+1)).toNat)]),none,some (.cells [.i BE.1]),none,some (.ints o4),some (.ints Ez)]
inductive Jv where
 | s0 (Ez:List Int)
def bg (c:AB) (q:AA) (pos:List Int) (ln:Nat) (lost:List Int) (BE:Int×Int) (o4:List Int):Jv -> DH
 | .s0 Ez=>[some (.cells (AG c++AD q++[.ints pos,.msl 1 1 0 ln])),some (.ints lost),some (.cells [.ref 0 0]),some (.cells [.msl 8 1 0 ((((c.cells.length:Int)+1)).toNat)]),some (.cells [.msl 9 1 0 ((((c.cells.length:Int)+1)).toNat)]),none,some (.cells [.i BE.1]),none,some (.ints o4),some (.ints Ez)]
def SN (n:Nat) (c:AB) (q:AA) (pos:List Int) (ln:Nat) (lost:List Int) (BE:Int×Int) (o4:List Int) (GB:Int) (Ez:List Int):Option Jv:=
 if (0<=GB/\ GB<(q.values.length:Int))/\ AH (BE.1+1)/\ (0<=(BE.1+1)/\ (BE.1+1)<(((((c.cells.length:Int)+1)).toNat:Nat):Int))/\ 0+(((BE.1+1)).toNat)<Ez.length then
  bif (decide ((q.values.getD ((GB).toNat) 0)<(Ez.getD (0+(((BE.1+1)).toNat)) 0))) then
   if (0<=BE.1/\ BE.1<(((((c.cells.length:Int)+1)).toNat:Nat):Int))/\ 0+((BE.1).toNat)<Ez.length then
    some (.s0 (Ez.set (0+((BE.1).toNat)) (if (q.values.getD ((GB).toNat) 0)>(Ez.getD (0+((BE.1).toNat)) 0) then (q.values.getD ((GB).toNat) 0) else (Ez.getD (0+((BE.1).toNat)) 0))))
   else none
  else
   some (.s0 Ez)
 else none
def bf (n:Nat) (c:AB) (q:AA) (pos:List Int) (ln:Nat) (lost:List Int) (BE:Int×Int) (o4:List Int) (GB:Int):Jv -> Option Jv
 | .s0 Ez=>SN n c q pos ln lost BE o4 GB Ez
def PC (n:Nat) (c:AB) (q:AA) (pos:List Int) (ln:Nat) (lost:List Int) (BE:Int×Int) (o4:List Int) (GB:Int) (s:Jv):Option Jv:=bf n c q pos ln lost BE o4 GB s
theorem mr (n:Nat) (c:AB) (q:AA) (pos:List Int) (ln:Nat) (lost:List Int) (BE:Int×Int) (o4:List Int) (l B:Nat) (N:Yd 8) (GB:Int) (s:Jv) (r:Jv) (h:PC n c q pos ln lost BE o4 GB s=some r):TA l B N (C8 8 [] 0 (bg c q pos ln lost BE o4 r)) Tryz.f60 103 ⟨AL 178 [(1,.ref 2 0),(5,.ref 4 0),(10,.ref 6 0),(103,.it 7),(104,.i GB)],bg c q pos ln lost BE o4 s⟩:=by
 cases s with
 | s0 Ez=>
  replace h:SN n c q pos ln lost BE o4 GB Ez=some r:=h;unfold SN at h;refine ag Dm [0,1,2,3,4,5,6,7,8,9] H0 (AL 178 [(1,.ref 2 0),(5,.ref 4 0),(10,.ref 6 0),(12,.i GB)]) (sq c q pos ln lost BE o4 Ez) fun N=>?_
  revert r;apply gO;exact gc (gi (gc (gw 116 (gc (gi (gi (bi 119 (jg lC (gc (gn fun ic=>jg ic (gn fun ib=>jg ib (jg ic (jg ib (lF fun p=>rr Dm [0,1,2,3,4,5,6,7,8,9] rfl p))))))) (lF fun p=>rr Dm [0,1,2,3,4,5,6,7,8,9] rfl p))))))))
inductive Iy where
 | s0 (Ff:List Int)
def br (c:AB) (A0:Int) (q:AA) (pos:List Int) (ln:Nat) (o4 o6:List Int):Iy -> DH
 | .s0 Ff=>[some (.cells (AG c++AD q++[.ints pos,.msl 1 1 0 ln])),some (.ints Ff),some (.cells [.ref 0 0]),some (.cells [.msl 8 1 0 ((((c.cells.length:Int)+1)).toNat)]),some (.cells [.msl 9 1 0 ((((c.cells.length:Int)+1)).toNat)]),some (.cells [.i A0]),some (.cells [.i (c.cells.getD ((A0).toNat) 0)]),none,some (.ints o4),some (.ints o6)]
def SP (n:Nat) (c:AB) (A0:Int) (q:AA) (pos:List Int) (ln:Nat) (o4 o6:List Int) (EU:Int) (Ff:List Int):Option Iy:=
 if (0<=EU/\ EU<(q.values.length:Int))/\ (0<=A0/\ A0<(((((c.cells.length:Int)+1)).toNat:Nat):Int))/\ 0+((A0).toNat)<o4.length then
  bif (decide ((q.values.getD ((EU).toNat) 0)<=(o4.getD (0+((A0).toNat)) 0))) then
   if 0<=EU/\ EU<=(IntKind.i64.bits:Int) then
    (Cv n (c.cells.getD ((A0).toNat) 0) (IntKind.i64.wrap (1*2 ^ (EU).toNat)) c q pos ln Ff).bind fun H2=>
     some (.s0 H2)
   else none
  else
   if AH (A0+1)/\ (0<=(A0+1)/\ (A0+1)<(((((c.cells.length:Int)+1)).toNat:Nat):Int))/\ 0+(((A0+1)).toNat)<o6.length then
    bif (decide ((q.values.getD ((EU).toNat) 0)>=(o6.getD (0+(((A0+1)).toNat)) 0))) then
     if 0<=EU/\ EU<=(IntKind.i64.bits:Int) then
      (Cv n (c.cells.getD ((A0).toNat) 0) (IntKind.i64.wrap (1*2 ^ (EU).toNat)) c q pos ln Ff).bind fun H2=>
       some (.s0 H2)
     else none
    else
     some (.s0 Ff)
   else none
 else none
def bq (n:Nat) (c:AB) (A0:Int) (q:AA) (pos:List Int) (ln:Nat) (o4 o6:List Int) (EU:Int):Iy -> Option Iy
 | .s0 Ff=>SP n c A0 q pos ln o4 o6 EU Ff
def SQ (n:Nat) (c:AB) (A0:Int) (q:AA) (pos:List Int) (ln:Nat) (o4 o6:List Int) (EU:Int) (s:Iy):Option Iy:=bq n c A0 q pos ln o4 o6 EU s
theorem mw (n:Nat) (c:AB) (A0:Int) (q:AA) (pos:List Int) (ln:Nat) (o4 o6:List Int) (l B:Nat) (N:Yd 8) (EU:Int) (s:Iy) (r:Iy) (h:SQ n c A0 q pos ln o4 o6 EU s=some r):TA l B N (C8 8 [] 0 (br c A0 q pos ln o4 o6 r)) Tryz.f60 147 ⟨AL 178 [(1,.ref 2 0),(4,.ref 3 0),(5,.ref 4 0),(14,.ref 5 0),(15,.ref 6 0),(133,.ints c.cells),(134,.i (c.cells.length:Int)),(135,.i A0),(147,.it 7),(148,.i EU)],br c A0 q pos ln o4 o6 s⟩:=by
 cases s with
 | s0 Ff=>
  replace h:SP n c A0 q pos ln o4 o6 EU Ff=some r:=h;unfold SP at h;refine ag Dm [0,1,2,3,4,5,6,7,8,9] H0 (AL 178 [(1,.ref 2 0),(4,.ref 3 0),(5,.ref 4 0),(14,.ref 5 0),(15,.ref 6 0),(16,.i EU)]) (Xz c q pos ln Ff A0 o4 o6) fun N=>?_
  revert r;apply gO;exact gc (gi (gc (gi (gi (bi 162 (jg bM (gi (ce FJ [0,1] (Xz c q pos ln Ff A0 o4 o6) fun H2=>jg (Eq.refl (Rr c q pos ln H2 A0 o4 o6)) (lF fun p=>rr (tg:=[([],(Rr c q pos ln H2 A0 o4 o6))]) Dm [0,1,2,3,4,5,6,7,8,9] rfl p)))) (gc (gw 167 (gc (gi (gi (bi 170 (jg bM (gi (ce FJ [0,1] (Xz c q pos ln Ff A0 o4 o6) fun H2=>jg (Eq.refl (Rr c q pos ln H2 A0 o4 o6)) (lF fun p=>rr (tg:=[([],(Rr c q pos ln H2 A0 o4 o6))]) Dm [0,1,2,3,4,5,6,7,8,9] rfl p)))) (lF fun p=>rr Dm [0,1,2,3,4,5,6,7,8,9] rfl p))))))))))))
inductive Jw where
 | s0 (Ee:List Int)
def bk (c:AB) (q:AA) (pos:List Int) (ln:Nat) (lost o4:List Int):Jw -> DH
 | .s0 Ee=>[some (.cells (AG c++AD q++[.ints pos,.msl 1 1 0 ln])),some (.ints lost),some (.cells [.ref 0 0]),some (.cells [.msl 6 1 0 ((((c.cells.length:Int)+1)).toNat)]),some (.cells [.msl 7 1 0 ((((c.cells.length:Int)+1)).toNat)]),none,some (.ints o4),some (.ints Ee)]
def SM (n:Nat) (c:AB) (q:AA) (pos:List Int) (ln:Nat) (lost o4:List Int) (BE:Int×Int) (Ee:List Int):Option Jw:=
 if (0<=BE.1/\ BE.1<(((((c.cells.length:Int)+1)).toNat:Nat):Int))/\ 0+((BE.1).toNat)<Ee.length/\ (0<=BE.2/\ BE.2<(pos.length:Int))/\ (0<=(pos.getD ((BE.2).toNat) 0)/\ (pos.getD ((BE.2).toNat) 0)<9223372036854775808) then
  (Bz (PC n c q pos ln lost BE o4) (BO (pos.getD ((BE.2).toNat) 0)) (.s0 (Ee.set (0+((BE.1).toNat)) (-1)))).bind fun Y8=>
   match Y8 with
   | .s0 iV=>
    some (.s0 iV)
 else none
def be (n:Nat) (c:AB) (q:AA) (pos:List Int) (ln:Nat) (lost o4:List Int) (BE:Int×Int):Jw -> Option Jw
 | .s0 Ee=>SM n c q pos ln lost o4 BE Ee
def PD (n:Nat) (c:AB) (q:AA) (pos:List Int) (ln:Nat) (lost o4:List Int) (BE:Int×Int) (s:Jw):Option Jw:=be n c q pos ln lost o4 BE s
theorem mn (n:Nat) (c:AB) (q:AA) (pos:List Int) (ln:Nat) (lost o4:List Int) (l B:Nat) (N:Yd 6) (BE:Int×Int) (s:Jw) (r:Jw) (h:PD n c q pos ln lost o4 BE s=some r):TA l B N (C8 6 [] 0 (bk c q pos ln lost o4 r)) Tryz.f60 90 ⟨AL 178 [(1,.ref 2 0),(4,.ref 3 0),(5,.ref 4 0),(90,.it 5),(91,.i BE.1),(92,.i BE.2)],bk c q pos ln lost o4 s⟩:=by
 cases s with
 | s0 Ee=>
  replace h:SM n c q pos ln lost o4 BE Ee=some r:=h;unfold SM at h;refine ag Dm [0,1,2,3,4,5,6,7,8] (H0.t) (AL 178 [(1,.ref 2 0),(5,.ref 4 0),(10,.ref 8 0),(11,.i BE.2)]) (se c q pos ln lost o4 Ee BE) fun N=>?_
  revert r;apply gO
  exact gc (gi (gc (gi (gc (gi (gn fun xO=>jc (Ir xO (su c q pos ln lost o4 Ee BE)) (cn fun Y8 uS=>fun p r h=>by
   refine gs Dm [0,1,2,3,4,5,8,9,6,7] p (GX (SR Tryz.f60 90) 103 []) (AL 178 [(1,.ref 2 0),(5,.ref 4 0),(10,.ref 6 0),(103,.it 7)]) (sr c q pos ln lost BE o4 Ee) ?_;refine r0 7 103 #[104] Bs 8 uS (mr n c q pos ln lost BE o4) ?_;cases Y8 with
   | s0 iV=>
    dsimp only at h
    revert r;apply gO;exact lF fun p=>rr Dm [0,1,2,3,4,5,8,9] rfl p)))))))
inductive Jy where
 | s0 (Ey:List Int)
def bp (c:AB) (A9:Int) (q:AA) (pos:List Int) (ln:Nat) (lost:List Int):Jy -> DH
 | .s0 Ey=>[some (.cells (AG c++AD q++[.ints pos,.msl 1 1 0 ln])),some (.ints lost),some (.cells [.ref 0 0]),some (.cells [.msl 7 1 0 ((((c.cells.length:Int)+1)).toNat)]),some (.cells [.msl 8 1 0 ((((c.cells.length:Int)+1)).toNat)]),some (.cells [.i A9]),none,some (.ints Ey),some (.ints ((List.replicate ((((c.cells.length:Int)+1)).toNat) (0:Int)).set (0+c.cells.length) 100))]
def SO (n:Nat) (c:AB) (A9:Int) (q:AA) (pos:List Int) (ln:Nat) (lost:List Int) (GA:Int) (Ey:List Int):Option Jy:=
 if (0<=GA/\ GA<(q.values.length:Int))/\ (0<=A9/\ A9<(((((c.cells.length:Int)+1)).toNat:Nat):Int))/\ 0+((A9).toNat)<Ey.length then
  bif (decide ((q.values.getD ((GA).toNat) 0)>(Ey.getD (0+((A9).toNat)) 0))) then
   if AH (A9+1)/\ (0<=(A9+1)/\ (A9+1)<(((((c.cells.length:Int)+1)).toNat:Nat):Int))/\ 0+(((A9+1)).toNat)<Ey.length then
    some (.s0 (Ey.set (0+(((A9+1)).toNat)) (if (q.values.getD ((GA).toNat) 0)<(Ey.getD (0+(((A9+1)).toNat)) 0) then (q.values.getD ((GA).toNat) 0) else (Ey.getD (0+(((A9+1)).toNat)) 0))))
   else none
  else
   some (.s0 Ey)
 else none
def bo (n:Nat) (c:AB) (A9:Int) (q:AA) (pos:List Int) (ln:Nat) (lost:List Int) (GA:Int):Jy -> Option Jy
 | .s0 Ey=>SO n c A9 q pos ln lost GA Ey
def PE (n:Nat) (c:AB) (A9:Int) (q:AA) (pos:List Int) (ln:Nat) (lost:List Int) (GA:Int) (s:Jy):Option Jy:=bo n c A9 q pos ln lost GA s
theorem mu (n:Nat) (c:AB) (A9:Int) (q:AA) (pos:List Int) (ln:Nat) (lost:List Int) (l B:Nat) (N:Yd 7) (GA:Int) (s:Jy) (r:Jy) (h:PE n c A9 q pos ln lost GA s=some r):TA l B N (C8 7 [] 0 (bp c A9 q pos ln lost r)) Tryz.f60 57 ⟨AL 178 [(1,.ref 2 0),(4,.ref 3 0),(5,.ref 4 0),(6,.ref 5 0),(39,.ints c.cells),(40,.i (c.cells.length:Int)),(41,.i A9),(57,.it 6),(58,.i GA)],bp c A9 q pos ln lost s⟩:=by
 cases s with
 | s0 Ey=>
  replace h:SO n c A9 q pos ln lost GA Ey=some r:=h;unfold SO at h;refine ag Dm [0,1,2,3,4,5,6,7,8] H0 (AL 178 [(1,.ref 2 0),(4,.ref 3 0),(6,.ref 5 0),(8,.i GA)]) (sf c q pos ln lost A9 Ey) fun N=>?_
  revert r;apply gO;exact gc (gi (gc (gi (gi (bi 72 (jg lH (gc (gn fun iZ=>jw 75 iZ (jw 78 iZ (gc (gn fun iY=>jg iY (gn fun iX=>jg iX (jg iY (jg iX (lF fun p=>rr Dm [0,1,2,3,4,5,6,7,8] rfl p)))))))))) (lF fun p=>rr Dm [0,1,2,3,4,5,6,7,8] rfl p))))))
inductive PF where
 | l1 (A9:Int) (o4:List Int)
 | l2 (A0:Int) (o1 o4 o6:List Int)
def PB (n:Nat) (self:PF -> Option (Bool×(List Int))) (c:AB) (q:AA) (pos:List Int) (ln:Nat) (lost:List Int) (A9:Int) (o4:List Int):Option (Bool×(List Int)):=
 bif (decide (A9<(c.cells.length:Int))) then
  if (0<=A9/\ A9<(c.cells.length:Int))/\ AH (A9+1)/\ (0<=(A9+1)/\ (A9+1)<(((((c.cells.length:Int)+1)).toNat:Nat):Int))/\ 0+(((A9+1)).toNat)<o4.length/\ (0<=(c.cells.getD ((A9).toNat) 0)/\ (c.cells.getD ((A9).toNat) 0)<(pos.length:Int))/\ (0<=(pos.getD ((c.cells.getD ((A9).toNat) 0).toNat) 0)/\ (pos.getD ((c.cells.getD ((A9).toNat) 0).toNat) 0)<9223372036854775808) then
   (Bz (PE n c A9 q pos ln lost) (BO (pos.getD ((c.cells.getD ((A9).toNat) 0).toNat) 0)) (.s0 (o4.set (0+(((A9+1)).toNat)) 100))).bind fun y1=>
    match y1 with
    | .s0 DB=>
     if AH (A9+1) then
      self (.l1 (A9+1) DB)
     else none
  else none
 else
  (back n c.cells).bind fun y1=>
   (Bz (PD n c q pos ln lost o4) y1 (.s0 ((List.replicate ((((c.cells.length:Int)+1)).toNat) (0:Int)).set (0+c.cells.length) 100))).bind fun y2=>
    match y2 with
    | .s0 Je=>
     self (.l2 0 lost o4 Je)
def PA (n:Nat) (self:PF -> Option (Bool×(List Int))) (c:AB) (q:AA) (pos:List Int) (ln:Nat) (lost:List Int) (A0:Int) (o1 o4 o6:List Int):Option (Bool×(List Int)):=
 bif (decide (A0<(c.cells.length:Int))) then
  if (0<=A0/\ A0<(c.cells.length:Int))/\ (0<=(c.cells.getD ((A0).toNat) 0)/\ (c.cells.getD ((A0).toNat) 0)<(pos.length:Int))/\ (0<=(pos.getD ((c.cells.getD ((A0).toNat) 0).toNat) 0)/\ (pos.getD ((c.cells.getD ((A0).toNat) 0).toNat) 0)<9223372036854775808) then
   (Bz (SQ n c A0 q pos ln o4 o6) (BO (pos.getD ((c.cells.getD ((A0).toNat) 0).toNat) 0)) (.s0 o1)).bind fun y1=>
    match y1 with
    | .s0 DB=>
     if AH (A0+1) then
      self (.l2 (A0+1) DB o4 o6)
     else none
  else none
 else
  some (true,o1)
def bc (n:Nat) (self:PF -> Option (Bool×(List Int))) (c:AB) (q:AA) (pos:List Int) (ln:Nat) (lost:List Int):Option (Bool×(List Int)):=
 if AH ((c.cells.length:Int)+1)/\ ((((c.cells.length:Int)+1):Int)=((c.cells.length:Int)+1)/\ (0:Int)<=((c.cells.length:Int)+1)/\ (((c.cells.length:Int)+1):Int)<=1000000000000)/\ ((0:Int)<=0/\ 0<(((((c.cells.length:Int)+1)).toNat:Nat):Int))/\ 0+0<(List.replicate ((((c.cells.length:Int)+1)).toNat) (0:Int)).length/\ (0<=(c.cells.length:Int)/\ (c.cells.length:Int)<(((((c.cells.length:Int)+1)).toNat:Nat):Int))/\ 0+c.cells.length<(List.replicate ((((c.cells.length:Int)+1)).toNat) (0:Int)).length then
  self (.l1 0 ((List.replicate ((((c.cells.length:Int)+1)).toNat) (0:Int)).set (0+0) (-1)))
 else none
def Gl (c:AB) (q:AA) (pos:List Int) (ln:Nat) (lost:List Int):Nat -> PF -> Option (Bool×(List Int))
 | 0,_=>none
 | n+1,.l1 A9 o4=>PB n (Gl c q pos ln lost n) c q pos ln lost A9 o4
 | n+1,.l2 A0 o1 o4 o6=>PA n (Gl c q pos ln lost n) c q pos ln lost A0 o1 o4 o6
def Jz (n:Nat) (c:AB) (q:AA) (pos:List Int) (ln:Nat) (lost:List Int):Option (Bool×(List Int)):=bc n (Gl c q pos ln lost n) c q pos ln lost
def mx (n B:Nat) (N:Yd 2) (c:AB) (q:AA) (pos:List Int) (ln:Nat) (lost:List Int) (r:Bool×(List Int)):PF -> Prop
 | .l1 A9 o4=>∀ m0:Nat,n<=m0 -> TW B N (FQ Tryz.f60 2 (.bool r.1) [some (.cells (AG c++AD q++[.ints pos,.msl 1 1 0 ln])),some (.ints r.2)]) (Ai m0 (Ap (AZ Tryz.f60) 0 [])) ⟨AL 178 [(1,.ref 2 0),(4,.ref 3 0),(5,.ref 5 0),(39,.ints c.cells),(40,.i (c.cells.length:Int)),(41,.i A9)],[some (.cells (AG c++AD q++[.ints pos,.msl 1 1 0 ln])),some (.ints lost),some (.cells [.ref 0 0]),some (.cells [.msl 4 1 0 ((((c.cells.length:Int)+1)).toNat)]),some (.ints o4),some (.cells [.msl 6 1 0 ((((c.cells.length:Int)+1)).toNat)]),some (.ints ((List.replicate ((((c.cells.length:Int)+1)).toNat) (0:Int)).set (0+c.cells.length) 100))]⟩
 | .l2 A0 o1 o4 o6=>∀ m0:Nat,n<=m0 -> TW B N (FQ Tryz.f60 2 (.bool r.1) [some (.cells (AG c++AD q++[.ints pos,.msl 1 1 0 ln])),some (.ints r.2)]) (Ai m0 (Ap (AZ Tryz.f60) 8 [])) ⟨AL 178 [(1,.ref 2 0),(4,.ref 3 0),(5,.ref 5 0),(133,.ints c.cells),(134,.i (c.cells.length:Int)),(135,.i A0)],[some (.cells (AG c++AD q++[.ints pos,.msl 1 1 0 ln])),some (.ints o1),some (.cells [.ref 0 0]),some (.cells [.msl 4 1 0 ((((c.cells.length:Int)+1)).toNat)]),some (.ints o4),some (.cells [.msl 6 1 0 ((((c.cells.length:Int)+1)).toNat)]),some (.ints o6)]⟩
theorem my (B:Nat) (N:Yd 2) (c:AB) (q:AA) (pos:List Int) (ln:Nat) (lost:List Int):Al (Gl c q pos ln lost) (mx · B N c q pos ln lost):=ia (fun _=>rfl) fun n AF pt r h=>by
 cases pt
 case l1 A9 o4=>
  intro m0 AC;refine rd AC fun m0 AC=>?_
  revert r;apply gO
  exact bi 42 (gc (gi (jt (gc (gw 48 (gc (gi (gc (gi (gc (gi (gn fun g5=>jc (Ir g5 (sp c q pos ln lost o4 A9)) (cn fun y1 A5=>fun p r h=>by
   refine gs Dm [0,1,2,3,5,7,8,4,6] p (GX (AZ Tryz.f60) 57 [m0]) (AL 178 [(1,.ref 2 0),(4,.ref 3 0),(5,.ref 4 0),(6,.ref 5 0),(39,.ints c.cells),(40,.i (c.cells.length:Int)),(41,.i A9),(57,.it 6)]) (sn c q pos ln lost A9 o4) ?_;refine r0 6 57 #[58] Bs 7 A5 (mu n c A9 q pos ln lost) ?_;cases y1 with
   | s0 DB=>
    dsimp only at h
    revert r;apply gO;exact gw 84 (lG Dm [0,1,2,3,7,4,8] (AF _ _ · m0 AC))))))))))))))) (cn fun y1 A5=>jc (xM A5 (sk c q pos ln lost o4)) (cn fun y2 CQ=>fun p r h=>by
   refine gs Dm [0,1,2,3,5,7,4,6] p (GX (AZ Tryz.f60) 90 []) (AL 178 [(1,.ref 2 0),(4,.ref 3 0),(5,.ref 4 0),(90,.it 5)]) (sj c q pos ln lost y1 o4) ?_;refine r0 5 90 #[91,92] MA 6 CQ (mn n c q pos ln lost o4) ?_;cases y2 with
   | s0 Je=>
    dsimp only at h
    revert r;apply gO;exact lN Dm [0,1,2,3,6,4,7] (AF _ _ · n Nat.le.refl)))
 case l2 A0 o1 o4 o6=>
  intro m0 AC;refine rd AC fun m0 AC=>?_
  revert r;apply gO
  exact bi 136 (gc (gi (jt (jt (jg lB (gc (gi (gn fun g2=>jc (Ir g2 (si c q pos ln o1 o4 o6 A0)) (cn fun y1 A5=>fun p r h=>by
   refine gs Dm [0,1,2,3,5,7,8,9,4,6] p (GX (AZ Tryz.f60) 147 [m0]) (AL 178 [(1,.ref 2 0),(4,.ref 3 0),(5,.ref 4 0),(14,.ref 5 0),(15,.ref 6 0),(133,.ints c.cells),(134,.i (c.cells.length:Int)),(135,.i A0),(147,.it 7)]) (sh c q pos ln o1 A0 o4 o6) ?_;refine r0 7 147 #[148] Bs 8 A5 (mw n c A0 q pos ln o4 o6) ?_;cases y1 with
   | s0 DB=>
    dsimp only at h
    revert r;apply gO;exact gw 177 (lG Dm [0,1,2,3,8,4,9] (AF _ _ · m0 AC))))))))))) (lE Dm [2] [0,1])
theorem mm {n:Nat} {c:AB} {q:AA} {pos:List Int} {ln:Nat} {lost:List Int} {r:Bool×(List Int)} (h:Jz n c q pos ln lost=some r):EQ 60 [.ref 0 0] [some (.cells (AG c++AD q++[.ints pos,.msl 1 1 0 ln])),some (.ints lost)] (.bool r.1) [some (.cells (AG c++AD q++[.ints pos,.msl 1 1 0 ln])),some (.ints r.2)] false:=by
 refine ot Tryz.func60 fun B N=>?_
 revert r;apply gO;exact jg lD (gc (gn fun g0=>jw 25 g0 (jw 28 g0 (gc (gn fun g1=>jg g1 (jg g1 (jt (jt (jg (Eq.refl (CL c q pos ln lost)) (jt (jt (jg (Eq.refl (CL c q pos ln lost)) (jg g1 (jt (jt (jg (Eq.refl (CL c q pos ln lost)) (jg g1 (jt (jt (jg (Eq.refl (CL c q pos ln lost)) (jt (jg g1 (jt (jg (Eq.refl (CL c q pos ln lost)) (jg g1 (jt (jt (jg (Eq.refl (CL c q pos ln lost)) (jg g1 (jt (jt (jg (Eq.refl (CL c q pos ln lost)) (jt (jg g1 (jt (jg (Eq.refl (CL c q pos ln lost)) (jg g1 (jg g1 (jt (jt (jg (Eq.refl (CL c q pos ln lost)) (jt (jt (jg (Eq.refl (CL c q pos ln lost)) (jg g1 (jt (jt (jg (Eq.refl (CL c q pos ln lost)) (jg g1 (jt (jt (jg (Eq.refl (CL c q pos ln lost)) (jg g1 (jt (jt (jg (Eq.refl (CL c q pos ln lost)) (jg g1 (jt (jt (jg (Eq.refl (CL c q pos ln lost)) (jg g1 (jg g1 (jt (jt (jg (Eq.refl (CL c q pos ln lost)) (jg g1 (jt (jt (jg (Eq.refl (CL c q pos ln lost)) (jt (jg g1 (jt (jg (Eq.refl (CL c q pos ln lost)) (jg g1 (jg g1 (jt (jt (jg (Eq.refl (CL c q pos ln lost)) (jg g1 (jt (jt (jg (Eq.refl (CL c q pos ln lost)) (jg g1 (jg g1 (jt (jt (jg (Eq.refl (CL c q pos ln lost)) (jt (jg g1 (jt (jg (Eq.refl (CL c q pos ln lost)) (jg g1 (jg g1 (jt (jt (jg (Eq.refl (CL c q pos ln lost)) (jg g1 (jg g1 (jt (jt (jg (Eq.refl (CL c q pos ln lost)) (jg g1 (jt (jt (jg (Eq.refl (CL c q pos ln lost)) (jt (jg g1 (jt (jg (Eq.refl (CL c q pos ln lost)) (jg g1 (jg g1 (jt (jt (jg (Eq.refl (CL c q pos ln lost)) (jg g1 (jt (jt (jg (Eq.refl (CL c q pos ln lost)) (jg g1 (jg g1 (jt (jt (jg (Eq.refl (CL c q pos ln lost)) (jt (jg g1 (jt (jg (Eq.refl (CL c q pos ln lost)) (jg g1 (jg g1 (jt (jt (jg (Eq.refl (CL c q pos ln lost)) (jg lA (gc (gi (gc (gi (gc (gi (gi (jg (Eq.refl (aD c q pos ln lost)) (lN (tg:=[([],(CL c q pos ln lost)),([(4,3)],(aD c q pos ln lost))]) Dm [0,1,2,5,3,6,4] ((my B N c q pos ln lost n) _ _ · n Nat.le.refl)))))))))))))))))))))))))))))))))))))))))))))))))))))))))))))))))))))))))))))))))))))))))))))))))))))))))))))))))))))))))))))))))))))))))))))))
end Go.Proofs.YtekkngkphejfcaaGreatDoor
namespace Go.Proofs.YtekkngkphejfcaaGreatDoor
open Go.RowKit
theorem KU {l:List Int} {i:Nat} {a:Int} (h:i<l.length):(l.set i a).getD i 0=a:=by
 rw [u8,zZ h];rfl
theorem getD_set_ne {l:List Int} {i j:Nat} {a:Int} (h:i≠j):(l.set i a).getD j 0=l.getD j 0:=by
 rw [u8,zT h,←u8]
def Ma (q:AA) (b a e:Int):Int:=if q.values.getD e.toNat 0>b then (if q.values.getD e.toNat 0<a then q.values.getD e.toNat 0 else a) else a
def MC (q:AA) (b a e:Int):Int:=if q.values.getD e.toNat 0<b then (if q.values.getD e.toNat 0>a then q.values.getD e.toNat 0 else a) else a
def JW (q:AA) (c:AB) (pos:List Int):Nat -> Int
 | 0=>-1
 | i+1=>(BO (AT c pos i)).foldl (Ma q (JW q c pos i)) 100
def OG (q:AA) (c:AB) (pos:List Int):Nat -> Int
 | 0=>100
 | m+1=>(BO (AT c pos (c.cells.length-1-m))).foldl (MC q (OG q c pos m)) (-1)
def H6 (q:AA) (c:AB) (pos:List Int) (i:Nat):Int:=OG q c pos (c.cells.length-i)
def IL (q:AA) (c:AB) (pos:List Int) (a s:Nat):Bool:=decide (q.values.getD s 0<=JW q c pos a)||decide (q.values.getD s 0>=H6 q c pos (a+1))
def RR (l:List Int):Nat -> List (Int×Int)
 | 0=>[]
 | m+1=>((m:Int),l.getD m 0)::RR l m
theorem iS {l:List Int}: ∀ (m n:Nat),m<=l.length -> l.length<=LB -> m+1<=n -> Ki l n (.l1 ((m:Int)-1))=some (RR l m)
 | 0,n,_,_,hn=>by
  obtain ⟨n,rfl⟩: ∃ k,n=k+1:=⟨n-1,by omega⟩
  show MG n (Ki l n) l _=_
  unfold MG;rw [yA (by omega),yB];rfl
 | m+1,n,hm,hl,hn=>by
  obtain ⟨n,rfl⟩: ∃ k,n=k+1:=⟨n-1,by omega⟩;have e:((m+1:Nat):Int)-1=(m:Int):=by omega
  have hb:LB<=9223372036854775807:=by decide
  rw [e]
  show MG n (Ki l n) l _=_
  unfold MG;rw [yI (by omega),yF,yC ⟨by omega,by omega⟩,yC (At.2 ⟨by omega,by omega⟩),iS m n (by omega) hl (by omega),yH];rfl
theorem xJ {l:List Int} {n:Nat} (hl:l.length<=LB) (hn:l.length+1<=n):back n l=some (RR l l.length):=by
 have hb:LB<=9223372036854775807:=by decide
 unfold back Y6;rw [yC (At.2 ⟨by omega,by omega⟩),iS l.length n (yf _) hl hn]
section
variable {c:AB} {k:Nat} {pos lost:List Int} {q:AA}
theorem bY {n ln i:Nat} (Ae:c.cells.length<=256) (hi:i<c.cells.length) {o:List Int} (ho:o.length=c.cells.length+1): ∀ (l:List Int) (a:Int),(∀ e∈l,0<=e/\ e<((q.values.length:Nat):Int)) ->
 Bz (PE n c (i:Int) q pos ln lost) l (.s0 (o.set (i+1) a))=some (.s0 (o.set (i+1) (l.foldl (Ma q (o.getD i 0)) a)))
 | [],_,_=>rfl
 | e::l,a,h=>by
  have t1:((((c.cells.length:Nat):Int)+1).toNat:Nat)=c.cells.length+1:=by omega
  have t2:(((i:Int)+1).toNat:Nat)=i+1:=by omega
  have e1:PE n c (i:Int) q pos ln lost e (.s0 (o.set (i+1) a))=some (.s0 (o.set (i+1) (Ma q (o.getD i 0) a e))):=by
   unfold PE bo SO
   dsimp only
   simp only [yH,t1,t2,yX,yp,ho];rw [yC ⟨h e (.head _),by omega,by omega⟩,getD_set_ne (by omega),KU (by omega),List.set_set];unfold Ma
   by_cases hA:q.values.getD e.toNat 0>o.getD i 0
   ·rw [yI hA,yF,yC ⟨At.2 ⟨by omega,by omega⟩,by omega,by omega⟩,yC hA]
   ·rw [yA hA,yB,yM hA]
  simp only [Bz];rw [e1,yD,bY Ae hi ho l _ fun e he=>h e (.tail _ he)];rfl
theorem bZ {n ln i:Nat} {x:Int} {o4:List Int} (Ae:c.cells.length<=256) (hi:i<c.cells.length) {o:List Int} (ho:o.length=c.cells.length+1): ∀ (l:List Int) (a:Int),(∀ e∈l,0<=e/\ e<((q.values.length:Nat):Int)) ->
 Bz (PC n c q pos ln lost ((i:Int),x) o4) l (.s0 (o.set i a))=some (.s0 (o.set i (l.foldl (MC q (o.getD (i+1) 0)) a)))
 | [],_,_=>rfl
 | e::l,a,h=>by
  have t1:((((c.cells.length:Nat):Int)+1).toNat:Nat)=c.cells.length+1:=by omega
  have t2:(((i:Int)+1).toNat:Nat)=i+1:=by omega
  have e1:PC n c q pos ln lost ((i:Int),x) o4 e (.s0 (o.set i a))=some (.s0 (o.set i (MC q (o.getD (i+1) 0) a e))):=by
   unfold PC bf SN
   dsimp only
   simp only [yH,t1,t2,yX,yp,ho];rw [yC ⟨h e (.head _),At.2 ⟨by omega,by omega⟩,by omega,by omega⟩,getD_set_ne (by omega),KU (by omega),List.set_set];unfold MC
   by_cases hA:q.values.getD e.toNat 0<o.getD (i+1) 0
   ·rw [yI hA,yF,yC ⟨by omega,by omega⟩,yC hA]
   ·rw [yA hA,yB,yM hA]
  simp only [Bz];rw [e1,yD,bZ Ae hi ho l _ fun e he=>h e (.tail _ he)];rfl
theorem Sm.i63 (hk:k<=16) {x:Int} (h:Sm k x):0<=x/\ x<9223372036854775808:=by
 have h1:=LJ (k:=k) (yO hk (by decide));obtain ⟨h2,h3⟩:=h;omega
theorem ba {n:Nat} {o4:List Int} (W:B0 c k pos) (V:FU q k): ∀ (m:Nat) (o:List Int),m<=c.cells.length -> o.length=c.cells.length+1 -> (∀ j,m<=j -> j<=c.cells.length -> o.getD j 0=H6 q c pos j) ->
 ∃ o',Bz (PD n c q pos pos.length lost o4) (RR c.cells m) (.s0 o)=some (.s0 o')/\ o'.length=c.cells.length+1/\ ∀ j,j<=c.cells.length -> o'.getD j 0=H6 q c pos j
 | 0,o,_,ho,h=>⟨o,rfl,ho,fun j hj=>h j (zz _) hj⟩
 | m+1,o,hm,ho,h=>by
  have hc:=W.cells m (by omega);have CR:=W.at (a:=m) (by omega);have Ae:=W.len;have t1:((((c.cells.length:Nat):Int)+1).toNat:Nat)=c.cells.length+1:=by omega
  have e1:PD n c q pos pos.length lost o4 ((m:Int),c.cells.getD m 0) (.s0 o)=some (.s0 (o.set m (H6 q c pos m))):=by
   unfold PD be SM
   dsimp only
   simp only [yH,t1,yX];rw [yC ⟨by omega,by omega,hc,CR.i63 W.k⟩];refine (congrArg (fun z=>Option.bind z _) (bZ Ae (by omega) ho (BO (AT c pos m)) (-1) fun e he=>(V.sym W.k CR e he).1)).trans ?_;rw [yD]
   have e2:H6 q c pos m=(BO (AT c pos m)).foldl (MC q (o.getD (m+1) 0)) (-1):=by
    rw [h (m+1) (yf _) hm];unfold H6;rw [show c.cells.length-m=c.cells.length-(m+1)+1 by omega];simp only [OG];rw [show c.cells.length-1-(c.cells.length-(m+1))=m by omega]
   rw [e2]
  obtain ⟨o',h1,h2,h3⟩:=ba W V m (o.set m (H6 q c pos m)) (by omega) (by rw [yp];exact ho) fun j hj F8=>by
   by_cases e:m=j
   ·subst e;exact KU (by omega)
   ·rw [getD_set_ne e];exact h j (by omega) F8
  refine ⟨o',?_,h2,h3⟩;simp only [RR,Bz];rw [e1,yD,h1]
theorem mi {n:Nat} {o4 o6:List Int} (W:B0 c k pos) (V:FU q k) (h4:o4.length=c.cells.length+1) (h6:o6.length=c.cells.length+1) (hb: ∀ j,j<=c.cells.length -> o4.getD j 0=JW q c pos j) (ha: ∀ j,j<=c.cells.length -> o6.getD j 0=H6 q c pos j) (hl:lost.length=pos.length) (hn:c.cells.length+1<=n):
 ∃ l,Gl c q pos pos.length lost n (.l2 0 lost o4 o6)=some (true,l)/\ Bn c pos lost c.cells.length (fun a s=>IL q c pos a s=true) l:=by
 have lt: ∀ i,i<c.cells.length -> ((i:Nat):Int)<((c.cells.length:Nat):Int):=fun i hi=>by omega
 have t1:((((c.cells.length:Nat):Int)+1).toNat:Nat)=c.cells.length+1:=by omega
 have Ae:=W.len
 have T:=GR (fun n (s:List Int) i=>Gl c q pos pos.length lost n (.l2 i s o4 o6)) c.cells.length 1
  (fun i s=>Bn c pos lost i (fun a s=>IL q c pos a s=true) s) (fun n i s E5 hi hI=>?_) (n:=n) (s:=lost) (by omega) (Bn.zero hl)
 ·obtain ⟨n3,l,QR,_,e2,hL⟩:=T;obtain ⟨n4,rfl⟩: ∃ n4,n3=n4+1:=⟨n3-1,by omega⟩;refine ⟨l,e2.trans ?_,hL⟩
  show PA n4 (Gl c q pos pos.length lost n4) c q pos pos.length lost (c.cells.length:Int) l o4 o6=_
  unfold PA;rw [yA (by omega),yB]
 ·have hc:=W.cells i hi;have hr:=W.r64 hi;have CR:=W.at hi;have t2:(((i:Int)+1).toNat:Nat)=i+1:=by omega
  obtain ⟨l',e1,n1,f1⟩:=dZ (n:=n) (q:=q) W hi hI.1 Iy.s0 (SQ n c (i:Int) q pos pos.length o4 o6) (IL q c pos i) fun s l hs hl=>by
   have FM:=V.len;have g1:(0:Int)<=(s:Int)/\ (s:Int)<((q.values.length:Nat):Int):=by omega
   have hk:=W.k;have g2:(0:Int)<=(s:Int)/\ (s:Int)<=((IntKind.i64.bits:Nat):Int):=⟨by omega,by show (s:Int)<=64;omega⟩;obtain ⟨l2,e2,_,_⟩:=JC (lost:=l) (n:=n) (ss:=IntKind.i64.wrap (1*2 ^ s)) (c:=c) (q:=q) hc.1 hc.2 hl;unfold IL SQ bq SP
   dsimp only
   simp only [yH,t1,t2,yX,h4,h6];rw [yC ⟨g1,by omega,by omega⟩,hb i (by omega),ha (i+1) (by omega)];cases hA:decide (q.values.getD s 0<=JW q c pos i)
   ·rw [yB,yC ⟨At.2 ⟨by omega,by omega⟩,by omega,by omega⟩,zv];cases hB:decide (q.values.getD s 0>=H6 q c pos (i+1))
    ·rfl
    ·rw [yF,yF,yC g2,e2];rfl
   ·rw [yF,Bool.true_or,yF,yC g2,e2];rfl
  show ∃ s',PA n (Gl c q pos pos.length lost n) c q pos pos.length lost (i:Int) s o4 o6=_/\ _
  unfold PA;rw [yI (lt i hi),yF];simp only [yH];rw [yC ⟨⟨by omega,lt i hi⟩,hc,CR.i63 W.k⟩];refine ⟨l',?_,hI.step n1 f1⟩;refine (congrArg (fun z=>Option.bind z _) e1).trans ?_;rw [yD];simp only;rw [yC hr.2]
theorem mj {n:Nat} (W:B0 c k pos) (V:FU q k) (hl:lost.length=pos.length) (hn:2*c.cells.length+3<=n):
 ∃ l,Jz n c q pos pos.length lost=some (true,l)/\ Bn c pos lost c.cells.length (fun a s=>IL q c pos a s=true) l:=by
 have lt: ∀ i,i<c.cells.length -> ((i:Nat):Int)<((c.cells.length:Nat):Int):=fun i hi=>by omega
 have t1:((((c.cells.length:Nat):Int)+1).toNat:Nat)=c.cells.length+1:=by omega
 have Ae:=W.len
 have S:=GR (fun n (s:List Int) i=>Gl c q pos pos.length lost n (.l1 i s)) c.cells.length (c.cells.length+3)
  (fun i s=>s.length=c.cells.length+1/\ ∀ j,j<=i -> s.getD j 0=JW q c pos j) (fun n i s _ hi hI=>?_) (n:=n) (s:=(List.replicate (c.cells.length+1) (0:Int)).set 0 (-1)) (by omega) ⟨by simp,fun j hj=>?_⟩
 ·obtain ⟨n1,o4,G4,_,e1,h4,hb⟩:=S;obtain ⟨n2,rfl⟩: ∃ n2,n1=n2+1:=⟨n1-1,by omega⟩
  have e0:Jz n c q pos pos.length lost=Gl c q pos pos.length lost n (.l1 0 ((List.replicate (c.cells.length+1) (0:Int)).set 0 (-1))):=by
   unfold Jz bc;simp only [t1,yX,yY];rw [yC ⟨At.2 ⟨by omega,by omega⟩,⟨trivial,by omega,by omega⟩,⟨by omega,by omega⟩,by omega,⟨by omega,by omega⟩,by omega⟩]
  have e2:Jz n c q pos pos.length lost=PB n2 (Gl c q pos pos.length lost n2) c q pos pos.length lost (c.cells.length:Int) o4:=e0.trans e1;unfold PB at e2;rw [yA (by omega),yB,xJ (yO Ae (by decide)) (by omega),yD] at e2;simp only [t1,yX] at e2
  obtain ⟨o6,e3,h6,ha⟩:=ba (lost:=lost) (n:=n2) (o4:=o4) W V c.cells.length ((List.replicate (c.cells.length+1) (0:Int)).set c.cells.length 100) (yf _) (by simp) fun j hj F8=>by
   obtain rfl:j=c.cells.length:=by omega
   rw [KU (by simp)];unfold H6;rw [Nat.sub_self];rfl
  rw [e3,yD] at e2;obtain ⟨l,e4,hL⟩:=mi (n:=n2) W V h4 h6 (fun j hj=>hb j hj) ha hl (by omega);exact ⟨l,e2.trans e4,hL⟩
 ·obtain ⟨h4,hb⟩:=hI;have hc:=W.cells i hi;have hr:=W.r64 hi;have CR:=W.at hi;have t2:(((i:Int)+1).toNat:Nat)=i+1:=by omega
  show ∃ s',PB n (Gl c q pos pos.length lost n) c q pos pos.length lost (i:Int) s=_/\ _
  unfold PB;rw [yI (lt i hi),yF];simp only [yH,t1,t2,yX];rw [yC ⟨⟨by omega,lt i hi⟩,hr.2,by omega,by omega,hc,CR.i63 W.k⟩];refine ⟨s.set (i+1) (JW q c pos (i+1)),?_,by rw [yp];exact h4,fun j hj=>?_⟩
  ·refine (congrArg (fun z=>Option.bind z _) (bY Ae hi h4 (BO (AT c pos i)) 100 fun e he=>(V.sym W.k CR e he).1)).trans ?_;rw [yD];simp only;rw [yC hr.2,hb i (yf _)];rfl
  ·by_cases e:i+1=j
   ·subst e;exact KU (by omega)
   ·rw [getD_set_ne e];exact hb j (by omega)
 ·obtain rfl:j=0:=by omega
  rw [KU (by simp)];rfl
end
end Go.Proofs.YtekkngkphejfcaaGreatDoor
namespace Go.Proofs.YtekkngkphejfcaaGreatDoor
open Go.RowKit
section
variable {k:Nat}
theorem cW {T1 T2:Type} (JA:List Int -> Int -> Int -> T1) (M7:List Int -> Int -> Int -> T2) (f1:Int -> Int -> T1 -> Option T1) (f2:Int -> T2 -> Option T2) (ok:Nat -> Nat -> Bool) {a b:Int} (ha:Sm k a) (hb:Sm k b) (hk:k<=16)
 (h1: ∀ (s t:Nat) (l:List Int) (x y:Int),s<k -> t<k -> f1 s t (JA l x y)=some (bif ok s t then JA l (bits .or .i64 x (IntKind.i64.wrap (1*2 ^ s))) (bits .or .i64 y (IntKind.i64.wrap (1*2 ^ t))) else JA l x y))
 (h2: ∀ (s:Nat) (l:List Int) (x y x' y':Int),s<k -> Bz (f1 s) (BO b) (JA l x y)=some (JA l x' y') -> f2 s (M7 l x y)=some (M7 l x' y')) (l:List Int):
 ∃ x y,Bz f2 (BO a) (M7 l 0 0)=some (M7 l x y)/\ (∀ u,tb x u=true↔tb a u=true/\ ∃ t,tb b t=true/\ ok u t=true)/\ (∀ u,tb y u=true↔tb b u=true/\ ∃ s,tb a s=true/\ ok s u=true):=by
 have IZ:k<=62:=yO hk (by decide)
 have qT: ∀ (s:Nat) (x y:Int),s<k -> ∃ x' y',Bz (f1 s) (BO b) (JA l x y)=some (JA l x' y')/\ (∀ u,tb x' u=true↔tb x u=true∨(u=s/\ ∃ t,tb b t=true/\ ok s t=true))/\ (∀ u,tb y' u=true↔tb y u=true∨(tb b u=true/\ ok s u=true)):=by
  intro s x y hs
  have key:=UX (f:=f1 s) (fun pre st=>∃ x' y',st=JA l x' y'/\ (∀ u,tb x' u=true↔tb x u=true∨(u=s/\ ∃ t:Nat,(t:Int)∈pre/\ ok s t=true))/\ (∀ u:Nat,tb y' u=true↔tb y u=true∨((u:Int)∈pre/\ ok s u=true)))
   (BO b) [] (JA l x y) ⟨x,y,rfl,fun u=>⟨.inl,fun h=>h.elim id fun ⟨_,t,h,_⟩=>(by cases h)⟩,fun u=>⟨.inl,fun h=>h.elim id fun ⟨h,_⟩=>(by cases h)⟩⟩ ?_
  ·obtain ⟨st,e,x',y',rfl,hx,hy⟩:=key;refine ⟨x',y',e,fun u=>?_,fun u=>?_⟩
   ·rw [hx,zc];constructor
    ·rintro (h | ⟨e1,t,h,h3⟩)
     ·exact .inl h
     ·obtain ⟨t',e2,_,h4⟩:=(Fi hb IZ).1 h;have:t=t':=by omega
      subst this;exact .inr ⟨e1,t,h4,h3⟩
    ·rintro (h | ⟨e1,t,h,h3⟩)
     ·exact .inl h
     ·exact .inr ⟨e1,t,(Fi hb IZ).2 ⟨t,rfl,zG fun CW=>(by rw [hb.hi CW] at h;cases h),h⟩,h3⟩
   ·rw [hy,zc];constructor
    ·rintro (h | ⟨h,h3⟩)
     ·exact .inl h
     ·obtain ⟨t',e2,_,h4⟩:=(Fi hb IZ).1 h;have:u=t':=by omega
      subst this;exact .inr ⟨h4,h3⟩
    ·rintro (h | ⟨h,h3⟩)
     ·exact .inl h
     ·exact .inr ⟨(Fi hb IZ).2 ⟨u,rfl,zG fun CW=>(by rw [hb.hi CW] at h;cases h),h⟩,h3⟩
  ·rintro pre e _ he ⟨x',y',rfl,hx,hy⟩;obtain ⟨t,rfl,ht,_⟩:=(Fi hb IZ).1 he;rw [h1 s t l x' y' hs ht];cases ho:ok s t
   ·rw [yB];refine ⟨_,rfl,x',y',rfl,fun u=>?_,fun u=>?_⟩
    ·rw [hx];constructor
     ·rintro (h | ⟨e1,t',h,h3⟩)
      ·exact .inl h
      ·exact .inr ⟨e1,t',yj _ h,h3⟩
     ·rintro (h | ⟨e1,t',h,h3⟩)
      ·exact .inl h
      ·rcases yb.1 h with h | h
       ·exact .inr ⟨e1,t',h,h3⟩
       ·have:t'=t:=by have:=yV.1 h;omega
        subst this;rw [ho] at h3;cases h3
    ·rw [hy];constructor
     ·rintro (h | ⟨h,h3⟩)
      ·exact .inl h
      ·exact .inr ⟨yj _ h,h3⟩
     ·rintro (h | ⟨h,h3⟩)
      ·exact .inl h
      ·rcases yb.1 h with h | h
       ·exact .inr ⟨h,h3⟩
       ·have:u=t:=by have:=yV.1 h;omega
        subst this;rw [ho] at h3;cases h3
   ·rw [yF];refine ⟨_,rfl,_,_,rfl,fun u=>?_,fun u=>?_⟩
    ·rw [Kv,ya,hx,Ob (by omega),yQ];constructor
     ·rintro ((h | ⟨e1,t',h,h3⟩) | rfl)
      ·exact .inl h
      ·exact .inr ⟨e1,t',yj _ h,h3⟩
      ·exact .inr ⟨rfl,t,yy _ (.head _),ho⟩
     ·rintro (h | ⟨e1,t',h,h3⟩)
      ·exact .inl (.inl h)
      ·exact .inr e1.symm
    ·rw [Kv,ya,hy,Ob (by omega),yQ];constructor
     ·rintro ((h | ⟨h,h3⟩) | rfl)
      ·exact .inl h
      ·exact .inr ⟨yj _ h,h3⟩
      ·exact .inr ⟨yy _ (.head _),ho⟩
     ·rintro (h | ⟨h,h3⟩)
      ·exact .inl (.inl h)
      ·rcases yb.1 h with h | h
       ·exact .inl (.inr ⟨h,h3⟩)
       ·exact .inr (by have:=yV.1 h;omega)
 have key:=UX (f:=f2) (fun pre st=>∃ x y,st=M7 l x y/\ (∀ u:Nat,tb x u=true↔(u:Int)∈pre/\ ∃ t,tb b t=true/\ ok u t=true)/\ (∀ u,tb y u=true↔tb b u=true/\ ∃ s:Nat,(s:Int)∈pre/\ ok s u=true))
  (BO a) [] (M7 l 0 0) ⟨0,0,rfl,fun u=>⟨fun h=>absurd h IG,fun ⟨h,_⟩=>(by cases h)⟩,fun u=>⟨fun h=>absurd h IG,fun ⟨_,s,h,_⟩=>(by cases h)⟩⟩ ?_
 ·obtain ⟨st,e,x,y,rfl,hx,hy⟩:=key;refine ⟨x,y,e,fun u=>?_,fun u=>?_⟩
  ·rw [hx,zc];constructor
   ·rintro ⟨h,h2⟩;obtain ⟨t',e2,_,h4⟩:=(Fi ha IZ).1 h;have:u=t':=by omega
    subst this;exact ⟨h4,h2⟩
   ·rintro ⟨h,h2⟩;exact ⟨(Fi ha IZ).2 ⟨u,rfl,zG fun CW=>(by rw [ha.hi CW] at h;cases h),h⟩,h2⟩
  ·rw [hy,zc];constructor
   ·rintro ⟨h0,s,h,h3⟩;obtain ⟨t',e2,_,h4⟩:=(Fi ha IZ).1 h;have:s=t':=by omega
    subst this;exact ⟨h0,s,h4,h3⟩
   ·rintro ⟨h0,s,h,h3⟩;exact ⟨h0,s,(Fi ha IZ).2 ⟨s,rfl,zG fun CW=>(by rw [ha.hi CW] at h;cases h),h⟩,h3⟩
 ·rintro pre e _ he ⟨x,y,rfl,hx,hy⟩;obtain ⟨s,rfl,hs,_⟩:=(Fi ha IZ).1 he;obtain ⟨x',y',e1,XY,rF⟩:=qT s x y hs;refine ⟨_,h2 s l x y x' y' hs e1,x',y',rfl,fun u=>?_,fun u=>?_⟩
  ·rw [XY,hx];constructor
   ·rintro (⟨h,h2⟩ | ⟨rfl,h2⟩)
    ·exact ⟨yj _ h,h2⟩
    ·exact ⟨yy _ (.head _),h2⟩
   ·rintro ⟨h,h2⟩;rcases yb.1 h with h | h
    ·exact .inl ⟨h,h2⟩
    ·have:u=s:=by have:=yV.1 h;omega
     subst this;exact .inr ⟨rfl,h2⟩
  ·rw [rF,hy];constructor
   ·rintro (⟨h,s',h2,h3⟩ | ⟨h,h2⟩)
    ·exact ⟨h,s',yj _ h2,h3⟩
    ·exact ⟨h,s,yy _ (.head _),h2⟩
   ·rintro ⟨h,s',h2,h3⟩;rcases yb.1 h2 with h2 | h2
    ·exact .inl ⟨h,s',h2,h3⟩
    ·have:s'=s:=by have:=yV.1 h2;omega
     subst this;exact .inr ⟨h,h3⟩
end
theorem U6 {s:Nat} (hs:s<64) (x:Int):(bits .and .i64 (IntKind.i64.wrap (1*2 ^ s)) x==0)= !tb x s:=by
 rw [zR,yk,Mb (GC _ _ _)];constructor
 ·intro h;have:=h s hs;rw [IF,Ob hs,yI rfl,ye] at this;rw [this];rfl
 ·intro h i hi;rw [IF,Ob hs]
  by_cases e:s=i
  ·subst e;rw [yI rfl,ye];cases hx:tb x s
   ·rfl
   ·rw [hx] at h;cases h
  ·rw [yA e,zh]
def LT (q:AA) (c:AB) (s t:Nat):Bool:=decide ((if 0-(q.values.getD s 0-q.values.getD t 0)>q.values.getD s 0-q.values.getD t 0 then 0-(q.values.getD s 0-q.values.getD t 0) else q.values.getD s 0-q.values.getD t 0)>=c.lo)
def J5 (c:AB) (s t:Nat):Bool:=(!tb c.set s|| !tb c.other t)&&(!tb c.set t|| !tb c.other s)
def F1 (ok:Nat -> Nat -> Bool) (c:AB) (pos:List Int) (a s:Nat):Prop:=
 if a=0 then ¬ ∃ t,tb (AT c pos 1) t=true/\ ok s t=true else ¬ ∃ t,tb (AT c pos 0) t=true/\ ok t s=true
section
variable {c:AB} {k:Nat} {pos lost:List Int} {q:AA}
theorem xU {n ln:Nat} (V:FU q k) {s t:Nat} (hs:s<k) (ht:t<k):VE n s t c q pos ln lost=some (LT q c s t,lost):=by
 have h1:=V.val s hs;have h2:=V.val t ht;have h3:=V.len;unfold VE io;simp only [yH];rw [yC ⟨by omega,by omega,At.2 ⟨by omega,by omega⟩,At.2 ⟨by omega,by omega⟩⟩];rfl
theorem oz {n ln:Nat} {s t:Nat} (hs:s<64) (ht:t<64):TJ n s t c q pos ln lost=some (J5 c s t,lost):=by
 have g: ∀ s:Nat,s<64 -> (0:Int)<=(s:Int)/\ (s:Int)<=((IntKind.i64.bits:Nat):Int):=fun s hs=>⟨by omega,by show (s:Int)<=64;omega⟩
 unfold TJ dA;simp only [yH];rw [yC ⟨g s hs,g t ht⟩,U6 hs,U6 hs,U6 ht,U6 ht];unfold J5;cases tb c.set s <;> cases tb c.set t <;> cases tb c.other s <;> cases tb c.other t <;> rfl
theorem cX {n:Nat} (W:B0 c k pos) (h2:c.cells.length=2) (hl:lost.length=pos.length) (ok:Nat -> Nat -> Bool) {x y:Int}
 (hx: ∀ u,tb x u=true↔tb (AT c pos 0) u=true/\ ∃ t,tb (AT c pos 1) t=true/\ ok u t=true) (hy: ∀ u,tb y u=true↔tb (AT c pos 1) u=true/\ ∃ s,tb (AT c pos 0) s=true/\ ok s u=true):
 ∃ l1 l,Cv n (c.cells.getD 0 0) (bits .xor .i64 (-1) x) c q pos pos.length lost=some l1/\ Cv n (c.cells.getD 1 0) (bits .xor .i64 (-1) y) c q pos pos.length l1=some l/\ Bn c pos lost c.cells.length (F1 ok c pos) l:=by
 have c0:=W.cells 0 (by omega);have c1:=W.cells 1 (by omega);obtain ⟨l1,e1,n1,f1⟩:=JC (lost:=lost) (n:=n) (ss:=bits .xor .i64 (-1) x) (c:=c) (q:=q) c0.1 c0.2 hl;obtain ⟨l,e2,n2,f2⟩:=JC (lost:=l1) (n:=n) (ss:=bits .xor .i64 (-1) y) (c:=c) (q:=q) c1.1 c1.2 n1;refine ⟨l1,l,e1,e2,?_⟩;have lt: ∀ {a:Nat} {s:Nat},a<c.cells.length -> tb (AT c pos a) s=true -> s<64:=fun {a s} ha h=>zG fun CW=>by rw [HI CW] at h;cases h
 rw [h2];refine Bn.step (i:=1) (l:=l1) (Bn.step (i:=0) (l:=lost) (Bn.zero hl) n1 fun j s=>?_) n2 fun j s=>?_
 ·rw [f1,ya,yG,yG,yQ];constructor
  ·rintro (h | ⟨rfl,h3,h4⟩)
   ·exact .inl h
   ·refine .inr ⟨rfl,h3,?_⟩;rw [Rs _ (lt (a:=0) (by omega) h3)] at h4;unfold F1;rw [yC rfl];intro h5;rw [(hx s).2 ⟨h3,h5⟩] at h4;cases h4
  ·rintro (h | ⟨rfl,h3,h4⟩)
   ·exact .inl h
   ·refine .inr ⟨rfl,h3,?_⟩;rw [Rs _ (lt (a:=0) (by omega) h3)];unfold F1 at h4;rw [yC rfl] at h4;cases hb:tb x s
    ·rfl
    ·exact absurd ((hx s).1 hb).2 h4
 ·rw [f2,ya,yG,yG,yQ];constructor
  ·rintro (h | ⟨rfl,h3,h4⟩)
   ·exact .inl h
   ·refine .inr ⟨rfl,h3,?_⟩;rw [Rs _ (lt (a:=1) (by omega) h3)] at h4;unfold F1;rw [yM (by decide)];intro h5;rw [(hy s).2 ⟨h3,h5⟩] at h4;cases h4
  ·rintro (h | ⟨rfl,h3,h4⟩)
   ·exact .inl h
   ·refine .inr ⟨rfl,h3,?_⟩;rw [Rs _ (lt (a:=1) (by omega) h3)];unfold F1 at h4;rw [yM (by decide)] at h4;cases hb:tb y s
    ·rfl
    ·exact absurd ((hy s).1 hb).2 h4
theorem xV {n:Nat} (W:B0 c k pos) (V:FU q k) (h2:c.cells.length=2) (hl:lost.length=pos.length):
 ∃ l,MK n c q pos pos.length lost=some (true,l)/\ Bn c pos lost c.cells.length (F1 (LT q c) c pos) l:=by
 have c0:=W.cells 0 (by omega);have c1:=W.cells 1 (by omega);have s0:=W.at (a:=0) (by omega);have s1:=W.at (a:=1) (by omega);have hk:=W.k;have g: ∀ s:Nat,s<k -> (0:Int)<=(s:Int)/\ (s:Int)<=((IntKind.i64.bits:Nat):Int):=fun s hs=>⟨by omega,by show (s:Int)<=64;omega⟩
 obtain ⟨x,y,e,hx,hy⟩:=cW I7.s0 I8.s0 (S7 n c q pos pos.length) (S8 n c q pos pos.length) (LT q c) s0 s1 hk
  (fun s t l x y hs ht=>by
   unfold S7 cj S6
   dsimp only
   rw [xU V hs ht,yD];cases LT q c s t
   ·rfl
   ·simp only [yF,yH];rw [yC ⟨g s hs,g t ht⟩])
  (fun s l x y x' y' hs he=>by
   unfold S8 ci S5
   dsimp only
   rw [yC (show 0<=pos.getD (c.cells.getD 1 0).toNat 0/\ pos.getD (c.cells.getD 1 0).toNat 0<9223372036854775808 from s1.i63 hk)];refine (congrArg (fun z=>Option.bind z _) he).trans ?_;rfl) lost
 obtain ⟨l1,l,e1,e2,hL⟩:=cX (n:=n) (q:=q) W h2 hl (LT q c) hx hy;refine ⟨l,?_,hL⟩;unfold MK ZJ WS cg;rw [yC ⟨by omega,by omega,c0,c1,s0.i63 hk⟩];refine (congrArg (fun z=>Option.bind (Option.bind z _) _) e).trans ?_;rw [yD];simp only;rw [e1,yD,e2];rfl
theorem o9 {n:Nat} (W:B0 c k pos) (h2:c.cells.length=2) (hl:lost.length=pos.length):
 ∃ l,LV n c q pos pos.length lost=some (true,l)/\ Bn c pos lost c.cells.length (F1 (J5 c) c pos) l:=by
 have c0:=W.cells 0 (by omega);have c1:=W.cells 1 (by omega);have s0:=W.at (a:=0) (by omega);have s1:=W.at (a:=1) (by omega);have hk:=W.k;have g: ∀ s:Nat,s<k -> (0:Int)<=(s:Int)/\ (s:Int)<=((IntKind.i64.bits:Nat):Int):=fun s hs=>⟨by omega,by show (s:Int)<=64;omega⟩
 obtain ⟨x,y,e,hx,hy⟩:=cW I5.s0 I6.s0 (Sz n c q pos pos.length) (S0 n c q pos pos.length) (J5 c) s0 s1 hk
  (fun s t l x y hs ht=>by
   unfold Sz ca Sy
   dsimp only
   rw [oz (by omega) (by omega),yD];cases J5 c s t
   ·rfl
   ·simp only [yF,yH];rw [yC ⟨g s hs,g t ht⟩])
  (fun s l x y x' y' hs he=>by
   unfold S0 cZ Sx
   dsimp only
   rw [yC (show 0<=pos.getD (c.cells.getD 1 0).toNat 0/\ pos.getD (c.cells.getD 1 0).toNat 0<9223372036854775808 from s1.i63 hk)];refine (congrArg (fun z=>Option.bind z _) he).trans ?_;rfl) lost
 obtain ⟨l1,l,e1,e2,hL⟩:=cX (n:=n) (q:=q) W h2 hl (J5 c) hx hy;refine ⟨l,?_,hL⟩;unfold LV We WR cY;rw [yC ⟨by omega,by omega,c0,c1,s0.i63 hk⟩];refine (congrArg (fun z=>Option.bind (Option.bind z _) _) e).trans ?_;rw [yD];simp only;rw [e1,yD,e2];rfl
end
end Go.Proofs.YtekkngkphejfcaaGreatDoor
namespace Go.Proofs.YtekkngkphejfcaaGreatDoor
open Go.RowKit
set_option maxRecDepth 100000
set_option maxHeartbeats 40000000
def aY:ST:=.rd 0 (.rd 1 (.rd 2 (.rd 3 (.rd 4 (.rd 6 (.rd 7 (.rd 8 (.rd 9 (.rd 10 (.ef 5 (.rd 12 (.ef 11 (.rd 13 (.fin [0,1] [0,2,3])) (.no))) (.ef 11 (.ef 5 (.rd 12 (.rd 13 (.fin [1,0] [0,2,3]))) (.no)) (.no))))))))))))
theorem ld:CA (BA Tryz.f91 1) [5,11] aY:=by unfold CA;kernel_rfl
def aX:ST:=.rd 0 (.rd 1 (.rd 2 (.rd 3 (.rd 4 (.rd 5 (.rd 6 (.rd 7 (.rd 8 (.rd 9 (.rd 10 (.rd 11 (.rd 12 (.rd 13 (.rd 14 (.rd 15 (.rd 16 (.rd 17 (.rd 18 (.rd 19 (.rd 20 (.rd 21 (.rd 22 (.rd 23 (.rd 24 (.rd 25 (.rd 26 (.rd 27 (.rd 28 (.rd 29 (.rd 30 (.rd 31 (.rd 32 (.ef 33 (.rd 34 (.ef 35 (.fin [] [0,2,3,30,31,32]) (.no))) (.no))))))))))))))))))))))))))))))))))
theorem lZ:CA (BA Tryz.f91 5) [33] aX:=by unfold CA;kernel_rfl
def IJ:BU:=fun i=>match i with
 | 1=>.tre [5,11] aY
 | 5=>.tre [33] aX
 | _=>.no
def Vh (pos:List Int) (c:AB) (q:AA) (ln:Nat) (lost:List Int):St:=⟨(AL 120 [(0,.ref 0 0),(2,.msl 2 1 0 pos.length),(3,.msl 3 1 0 pos.length)]),([some (.cells (AG c++AD q++[.ints pos,.msl 1 1 0 ln])),some (.ints lost),some (.bools (List.replicate pos.length false)),some (.bools (List.replicate pos.length false))]:DH)⟩
def aF (pos:List Int) (c:AB) (Ch:Int) (q:AA) (ln:Nat) (lost:List Int) (o2 o3:List Bool):St:=⟨(AL 120 [(0,.ref 0 0),(2,.msl 2 1 0 pos.length),(3,.msl 3 1 0 pos.length),(30,.ints c.cells),(31,.i (c.cells.length:Int)),(32,.i Ch)]),([some (.cells (AG c++AD q++[.ints pos,.msl 1 1 0 ln])),some (.ints lost),some (.bools (o2.set (0+((c.cells.getD ((Ch).toNat) 0).toNat)) ((bits .and .i64 (pos.getD ((c.cells.getD ((Ch).toNat) 0).toNat) 0) c.set) != 0))),some (.bools (o3.set (0+((c.cells.getD ((Ch).toNat) 0).toNat)) ((bits .andNot .i64 (pos.getD ((c.cells.getD ((Ch).toNat) 0).toNat) 0) c.set)==0)))]:DH)⟩
def eo (c:AB) (q:AA) (pos:List Int) (ln:Nat) (lost:List Int) (o2 o3:List Bool):DH:=[some (.cells (AG c++AD q++[.ints pos,.msl 1 1 0 ln])),some (.ints lost),some (.bools o2),some (.bools o3)]
def eh (c:AB) (q:AA) (pos:List Int) (ln:Nat) (lost:List Int) (o3:List Bool) (y2:(List Bool)):DH:=[some (.cells (AG c++AD q++[.ints pos,.msl 1 1 0 ln])),some (.ints lost),none,some (.bools o3),some (.bools y2)]
inductive M5 where
 | l1 (Ch:Int) (o2 o3:List Bool)
 | l2 (Ea:List Bool) (x8:Nat) (Gb:List Int) (Jf FY:Int) (o2 o3:List Bool)
 | l3 (Ea:List Bool) (x8:Nat) (Io Cr:Int) (o1:List Int) (o2 o3:List Bool)
def Pn (n:Nat) (self:M5 -> Option ((List Bool)×(List Bool)×Bool×(List Int))) (c:AB) (q:AA) (pos:List Int) (ln:Nat) (lost:List Int) (Ch:Int) (o2 o3:List Bool):Option ((List Bool)×(List Bool)×Bool×(List Int)):=
 bif (decide (Ch<(c.cells.length:Int))) then
  if (0<=Ch/\ Ch<(c.cells.length:Int))/\ (0<=(c.cells.getD ((Ch).toNat) 0)/\ (c.cells.getD ((Ch).toNat) 0)<(pos.length:Int))/\ 0+((c.cells.getD ((Ch).toNat) 0).toNat)<o2.length/\ 0+((c.cells.getD ((Ch).toNat) 0).toNat)<o3.length/\ AH (Ch+1) then
   self (.l1 (Ch+1) (o2.set (0+((c.cells.getD ((Ch).toNat) 0).toNat)) ((bits .and .i64 (pos.getD ((c.cells.getD ((Ch).toNat) 0).toNat) 0) c.set) != 0)) (o3.set (0+((c.cells.getD ((Ch).toNat) 0).toNat)) ((bits .andNot .i64 (pos.getD ((c.cells.getD ((Ch).toNat) 0).toNat) 0) c.set)==0)))
  else none
 else
  if pos.length=o3.length then
   (To n o3 true).bind fun y1=>
    bif (decide (y1<0)) then
     if pos.length=o2.length then
      some (o2,o3,false,lost)
     else none
    else
     if pos.length=o2.length then
      (MD n o2).bind fun y2=>
       (N5 n q.nbrs o2 y1).bind fun y3=>
        self (.l2 o2 y2.length y3.1 (y3.1.length:Int) 0 o3 y2)
     else none
  else none
def Pm (n:Nat) (self:M5 -> Option ((List Bool)×(List Bool)×Bool×(List Int))) (c:AB) (q:AA) (pos:List Int) (ln:Nat) (lost:List Int) (Ea:List Bool) (x8:Nat) (Gb:List Int) (Jf FY:Int) (o2 o3:List Bool):Option ((List Bool)×(List Bool)×Bool×(List Int)):=
 bif (decide (FY<Jf)) then
  if (0<=FY/\ FY<(Gb.length:Int))/\ (0<=(Gb.getD ((FY).toNat) 0)/\ (Gb.getD ((FY).toNat) 0)<(x8:Int))/\ 0+((Gb.getD ((FY).toNat) 0).toNat)<o3.length/\ AH (FY+1) then
   self (.l2 Ea x8 Gb Jf (FY+1) o2 (o3.set (0+((Gb.getD ((FY).toNat) 0).toNat)) false))
  else none
 else
  self (.l3 Ea x8 (x8:Int) 0 lost o2 o3)
def Pk (n:Nat) (self:M5 -> Option ((List Bool)×(List Bool)×Bool×(List Int))) (c:AB) (q:AA) (pos:List Int) (ln:Nat) (lost:List Int) (Ea:List Bool) (x8:Nat) (Io Cr:Int) (o1:List Int) (o2 o3:List Bool):Option ((List Bool)×(List Bool)×Bool×(List Int)):=
 bif (decide (Cr<Io)) then
  if (0<=Cr/\ Cr<(x8:Int))/\ 0+((Cr).toNat)<o3.length then
   bif (o3.getD (0+((Cr).toNat)) false) then
    (Cv n Cr c.set c q pos ln o1).bind fun y1=>
     if AH (Cr+1) then
      self (.l3 Ea x8 Io (Cr+1) y1 o2 o3)
     else none
   else
    if AH (Cr+1) then
     self (.l3 Ea x8 Io (Cr+1) o1 o2 o3)
    else none
  else none
 else
  if pos.length=o2.length then
   some (Ea,o2,true,o1)
  else none
def dF (n:Nat) (self:M5 -> Option ((List Bool)×(List Bool)×Bool×(List Int))) (c:AB) (q:AA) (pos:List Int) (ln:Nat) (lost:List Int):Option ((List Bool)×(List Bool)×Bool×(List Int)):=
 if ((pos.length:Int):Int)=(pos.length:Int)/\ 0<=(pos.length:Int)/\ ((pos.length:Int):Int)<=1000000000000 then
  self (.l1 0 (List.replicate pos.length false) (List.replicate pos.length false))
 else none
def D6 (c:AB) (q:AA) (pos:List Int) (ln:Nat) (lost:List Int):Nat -> M5 -> Option ((List Bool)×(List Bool)×Bool×(List Int))
 | 0,_=>none
 | n+1,.l1 Ch o2 o3=>Pn n (D6 c q pos ln lost n) c q pos ln lost Ch o2 o3
 | n+1,.l2 Ea x8 Gb Jf FY o2 o3=>Pm n (D6 c q pos ln lost n) c q pos ln lost Ea x8 Gb Jf FY o2 o3
 | n+1,.l3 Ea x8 Io Cr o1 o2 o3=>Pk n (D6 c q pos ln lost n) c q pos ln lost Ea x8 Io Cr o1 o2 o3
def LX (n:Nat) (c:AB) (q:AA) (pos:List Int) (ln:Nat) (lost:List Int):Option ((List Bool)×(List Bool)×Bool×(List Int)):=dF n (D6 c q pos ln lost n) c q pos ln lost
def pF (n B:Nat) (N:Yd 2) (c:AB) (q:AA) (pos:List Int) (ln:Nat) (lost:List Int) (r:(List Bool)×(List Bool)×Bool×(List Int)):M5 -> Prop
 | .l1 Ch o2 o3=>∀ m0:Nat,n<=m0 -> TW B N (FQ Tryz.f91 2 (.tup 3 (L1 [.bools r.1,.bools r.2.1,.bool r.2.2.1])) [some (.cells (AG c++AD q++[.ints pos,.msl 1 1 0 ln])),some (.ints r.2.2.2)]) (Ai m0 (Ap (AZ Tryz.f91) 0 [])) ⟨AL 120 [(0,.ref 0 0),(2,.msl 2 1 0 pos.length),(3,.msl 3 1 0 pos.length),(30,.ints c.cells),(31,.i (c.cells.length:Int)),(32,.i Ch)],[some (.cells (AG c++AD q++[.ints pos,.msl 1 1 0 ln])),some (.ints lost),some (.bools o2),some (.bools o3)]⟩
 | .l2 Ea x8 Gb Jf FY o2 o3=>∀ m0:Nat,n<=m0 -> TW B N (FQ Tryz.f91 2 (.tup 3 (L1 [.bools r.1,.bools r.2.1,.bool r.2.2.1])) [some (.cells (AG c++AD q++[.ints pos,.msl 1 1 0 ln])),some (.ints r.2.2.2)]) (Ai m0 (Ap (AZ Tryz.f91) 2 [])) ⟨AL 120 [(0,.ref 0 0),(2,.bools Ea),(3,.msl 2 1 0 pos.length),(8,.msl 3 1 0 x8),(90,.ints Gb),(91,.i Jf),(92,.i FY)],[some (.cells (AG c++AD q++[.ints pos,.msl 1 1 0 ln])),some (.ints lost),some (.bools o2),some (.bools o3)]⟩
 | .l3 Ea x8 Io Cr o1 o2 o3=>∀ m0:Nat,n<=m0 -> TW B N (FQ Tryz.f91 2 (.tup 3 (L1 [.bools r.1,.bools r.2.1,.bool r.2.2.1])) [some (.cells (AG c++AD q++[.ints pos,.msl 1 1 0 ln])),some (.ints r.2.2.2)]) (Ai m0 (Ap (AZ Tryz.f91) 4 [])) ⟨AL 120 [(0,.ref 0 0),(2,.bools Ea),(3,.msl 2 1 0 pos.length),(8,.msl 3 1 0 x8),(101,.i Io),(102,.i Cr)],[some (.cells (AG c++AD q++[.ints pos,.msl 1 1 0 ln])),some (.ints o1),some (.bools o2),some (.bools o3)]⟩
theorem pG (B:Nat) (N:Yd 2) (c:AB) (q:AA) (pos:List Int) (ln:Nat) (lost:List Int):Al (D6 c q pos ln lost) (pF · B N c q pos ln lost):=ia (fun _=>rfl) fun n AF pt r h=>by
 cases pt
 case l1 Ch o2 o3=>
  intro m0 AC;refine rd AC fun m0 AC=>?_
  revert r;apply gO
  exact bi 33 (gc (gi (jg lZ (gc (gn fun g1=>jg g1 (jg g1 (jg g1 (gc (gi (jg g1 (gc (gi (jg (Eq.refl (aF pos c Ch q ln lost o2 o3)) (gw 70 (lG (tg:=[([(33,2)],(aF pos c Ch q ln lost o2 o3))]) IJ [0,1,2,3] (AF _ _ · m0 AC)))))))))))))))) (gn fun g0=>cn fun y1 A5=>jc (sb [.msl 3 1 0 pos.length,.bool true] (qn A5) (eo c q pos ln lost o2 o3) ⟨Ad.bools rfl g0,Ad.plain (by kernel_rfl),trivial⟩) (bi 74 (gn fun g1=>lF fun p=>ez IJ [2,3,4] [0,1,2,3] p [2,3] (H0.g g1 |>.g g0)) (gn fun g1=>cn fun y2 CQ=>jc (ES.snapNew (ds:=[.msl 2 1 0 pos.length]) (iE CQ) (eo c q pos ln lost o2 o3) ⟨Ad.bools rfl g1,trivial⟩ rfl) (fun p r h=>by
   refine gz (BQ 11 IJ) [0,1,2,3,4] p [2] (H0.g g1) (H3 (AZ Tryz.f91) 11 []) (AL 120 [(0,.ref 0 0),(2,.bools o2),(3,.msl 3 1 0 pos.length),(7,.i y1),(8,.msl 4 1 0 y2.length)]) (eh c q pos ln lost o3 y2) ?_;revert r;apply gO;exact cf wg (eh c q pos ln lost o3 y2) fun _=>lN IJ [0,1,3,4] (AF _ _ · n Nat.le.refl)))))
 case l2 Ea x8 Gb Jf FY o2 o3=>
  intro m0 AC;refine rd AC fun m0 AC=>?_
  revert r;apply gO;exact bi 93 (gc (gi (gc (gi (gc (gi (gw 99 (lG IJ [0,1,2,3] (AF _ _ · m0 AC))))))))) (lN IJ [0,1,2,3] (AF _ _ · n Nat.le.refl))
 case l3 Ea x8 Io Cr o1 o2 o3=>
  intro m0 AC;refine rd AC fun m0 AC=>?_
  revert r;apply gO;exact bi 103 (gc (gi (gi (bi 108 (ce FJ [0,1] [some (.cells (AG c++AD q++[.ints pos,.msl 1 1 0 ln])),some (.ints o1),some (.bools o2),some (.bools o3)] fun _=>gw 117 (lG IJ [0,1,2,3] (AF _ _ · m0 AC))) (gw 117 (lG IJ [0,1,2,3] (AF _ _ · m0 AC))))))) (gn fun g0=>lF fun p=>ez IJ [2,3,4] [0,1,2] p [2] (H0.g g0))
theorem dE {n:Nat} {c:AB} {q:AA} {pos:List Int} {ln:Nat} {lost:List Int} {r:(List Bool)×(List Bool)×Bool×(List Int)} (h:LX n c q pos ln lost=some r):EQ 91 [.ref 0 0] [some (.cells (AG c++AD q++[.ints pos,.msl 1 1 0 ln])),some (.ints lost)] (.tup 3 (L1 [.bools r.1,.bools r.2.1,.bool r.2.2.1])) [some (.cells (AG c++AD q++[.ints pos,.msl 1 1 0 ln])),some (.ints r.2.2.2)] false:=by
 refine ot Tryz.func91 fun B N=>?_
 revert r;apply gO;exact jg ld (gn fun g0=>jg g0 (jg g0 (jg (Eq.refl (Vh pos c q ln lost)) (jg g0 (jg g0 (jg (Eq.refl (Vh pos c q ln lost)) (lN (tg:=[([],(Vh pos c q ln lost))]) IJ [0,1,2,3] ((pG B N c q pos ln lost n) _ _ · n Nat.le.refl))))))))
inductive Uv where
 | l1 (x3 x4:List Bool) (x5:Bool) (AP As:Int) (o1:List Int)
def RD (n:Nat) (self:Uv -> Option (Bool×(List Int))) (c:AB) (q:AA) (pos:List Int) (ln:Nat) (lost:List Int) (x3 x4:List Bool) (x5:Bool) (AP As:Int) (o1:List Int):Option (Bool×(List Int)):=
 bif (decide (As<AP)) then
  bif (!x5) then
   if AH (As+1) then
    self (.l1 x3 x4 x5 AP (As+1) o1)
   else none
  else
   if 0<=As/\ As<(x3.length:Int) then
    bif (!(x3.getD ((As).toNat) false)) then
     if AH (As+1) then
      self (.l1 x3 x4 x5 AP (As+1) o1)
     else none
    else
     if 0<=As/\ As<(x4.length:Int) then
      bif (x4.getD ((As).toNat) false) then
       if AH (As+1) then
        self (.l1 x3 x4 x5 AP (As+1) o1)
       else none
      else
       (K1 n q.nbrs x3 x4 As).bind fun y1=>
        bif y1.1 then
         (Fg n As c q pos ln o1).bind fun y2=>
          if AH (As+1) then
           self (.l1 x3 x4 x5 AP (As+1) y2)
          else none
        else
         if AH (As+1) then
          self (.l1 x3 x4 x5 AP (As+1) o1)
         else none
     else none
   else none
 else
  some (true,o1)
def wc (n:Nat) (self:Uv -> Option (Bool×(List Int))) (c:AB) (q:AA) (pos:List Int) (ln:Nat) (lost:List Int):Option (Bool×(List Int)):=
 (LX n c q pos ln lost).bind fun y1=>
  self (.l1 y1.1 y1.2.1 y1.2.2.1 (y1.1.length:Int) 0 y1.2.2.2)
def Kg (c:AB) (q:AA) (pos:List Int) (ln:Nat) (lost:List Int):Nat -> Uv -> Option (Bool×(List Int))
 | 0,_=>none
 | n+1,.l1 x3 x4 x5 AP As o1=>RD n (Kg c q pos ln lost n) c q pos ln lost x3 x4 x5 AP As o1
def Uw (n:Nat) (c:AB) (q:AA) (pos:List Int) (ln:Nat) (lost:List Int):Option (Bool×(List Int)):=wc n (Kg c q pos ln lost n) c q pos ln lost
def wd (n B:Nat) (N:Yd 2) (c:AB) (q:AA) (pos:List Int) (ln:Nat) (lost:List Int) (r:Bool×(List Int)):Uv -> Prop
 | .l1 x3 x4 x5 AP As o1=>∀ m0:Nat,n<=m0 -> TW B N (FQ Tryz.f64 2 (.bool r.1) [some (.cells (AG c++AD q++[.ints pos,.msl 1 1 0 ln])),some (.ints r.2)]) (Ai m0 (Ap (AZ Tryz.f64) 0 [])) ⟨AL 52 [(0,.ref 0 0),(3,.bools x3),(4,.bools x4),(5,.bool x5),(16,.i AP),(17,.i As)],[some (.cells (AG c++AD q++[.ints pos,.msl 1 1 0 ln])),some (.ints o1)]⟩
theorem we (B:Nat) (N:Yd 2) (c:AB) (q:AA) (pos:List Int) (ln:Nat) (lost:List Int):Al (Kg c q pos ln lost) (wd · B N c q pos ln lost):=ia (fun _=>rfl) fun n AF pt r h=>by
 cases pt
 case l1 x3 x4 x5 AP As o1=>
  intro m0 AC;refine rd AC fun m0 AC=>?_
  revert r;apply gO;exact bi 18 (bi 21 (gw 51 (lG AE [0,1] (AF _ _ · m0 AC))) (gi (bi 27 (gw 51 (lG AE [0,1] (AF _ _ · m0 AC))) (gi (bi 33 (gw 51 (lG AE [0,1] (AF _ _ · m0 AC))) (cf kJ [some (.cells (AG c++AD q++[.ints pos,.msl 1 1 0 ln])),some (.ints o1)] fun _=>bi 45 (ce J4 [0,1] [some (.cells (AG c++AD q++[.ints pos,.msl 1 1 0 ln])),some (.ints o1)] fun _=>gw 51 (lG AE [0,1] (AF _ _ · m0 AC))) (gw 51 (lG AE [0,1] (AF _ _ · m0 AC))))))))) (lE AE [2] [0,1])
theorem wb {n:Nat} {c:AB} {q:AA} {pos:List Int} {ln:Nat} {lost:List Int} {r:Bool×(List Int)} (h:Uw n c q pos ln lost=some r):EQ 64 [.ref 0 0] [some (.cells (AG c++AD q++[.ints pos,.msl 1 1 0 ln])),some (.ints lost)] (.bool r.1) [some (.cells (AG c++AD q++[.ints pos,.msl 1 1 0 ln])),some (.ints r.2)] false:=by
 refine ot Tryz.func64 fun B N=>?_
 revert r;apply gO;exact ce dE [0,1] [some (.cells (AG c++AD q++[.ints pos,.msl 1 1 0 ln])),some (.ints lost)] fun _=>lN AE [0,1] ((we B N c q pos ln lost n) _ _ · n Nat.le.refl)
inductive J9 where
 | l1 (x3 x4:List Bool) (x20 x21:Int) (o1:List Int)
 | l2 (x3 x4:List Bool) (x8 x20 x21:Int) (BL:List Int) (DL Az:Int) (o1:List Int)
 | l3 (x3 x4:List Bool) (x7:Nat) (x8 x20 x21:Int) (BL:List Int) (DL Az:Int) (o1 o2:List Int)
 | l4 (x3 x4:List Bool) (x7:Nat) (x8 x20 x21:Int) (GJ:Nat) (GI AW:Int) (o1 o2:List Int)
def Pv (n:Nat) (self:J9 -> Option (Bool×(List Int))) (c:AB) (q:AA) (pos:List Int) (ln:Nat) (lost:List Int) (x3 x4:List Bool) (x20 x21:Int) (o1:List Int):Option (Bool×(List Int)):=
 bif (decide (x21<x20)) then
  if 0<=x21/\ x21<(x4.length:Int) then
   bif (!(x4.getD ((x21).toNat) false)) then
    if AH (x21+1) then
     self (.l1 x3 x4 x20 (x21+1) o1)
    else none
   else
    if 0<=x21/\ x21<(q.nbrs.length:Int) then
     self (.l2 x3 x4 0 x20 x21 (q.nbrs.getD ((x21).toNat) []) (((q.nbrs.getD ((x21).toNat) []).length:Nat):Int) 0 o1)
    else none
  else none
 else
  some (true,o1)
def Pu (n:Nat) (self:J9 -> Option (Bool×(List Int))) (c:AB) (q:AA) (pos:List Int) (ln:Nat) (lost:List Int) (x3 x4:List Bool) (x8 x20 x21:Int) (BL:List Int) (DL Az:Int) (o1:List Int):Option (Bool×(List Int)):=
 bif (decide (Az<DL)) then
  if (0<=Az/\ Az<(BL.length:Int))/\ (0<=(BL.getD ((Az).toNat) 0)/\ (BL.getD ((Az).toNat) 0)<(x3.length:Int)) then
   bif (x3.getD ((BL.getD ((Az).toNat) 0).toNat) false) then
    if ((0=0/\ 1=([BL.getD ((Az).toNat) 0]:List Int).length)/\ 0<([BL.getD ((Az).toNat) 0]:List Int).length/\ ([BL.getD ((Az).toNat) 0]:List Int).length<=BT)/\ (0<=(BL.getD ((Az).toNat) 0)/\ (BL.getD ((Az).toNat) 0)<(x4.length:Int)) then
     bif (x4.getD ((BL.getD ((Az).toNat) 0).toNat) false) then
      if AH (x8+1)/\ AH (Az+1) then
       self (.l3 x3 x4 (([BL.getD ((Az).toNat) 0]:List Int).length) (x8+1) x20 x21 BL DL (Az+1) o1 ([BL.getD ((Az).toNat) 0]:List Int))
      else none
     else
      if AH (Az+1) then
       self (.l3 x3 x4 (([BL.getD ((Az).toNat) 0]:List Int).length) x8 x20 x21 BL DL (Az+1) o1 ([BL.getD ((Az).toNat) 0]:List Int))
      else none
    else none
   else
    if 0<=(BL.getD ((Az).toNat) 0)/\ (BL.getD ((Az).toNat) 0)<(x4.length:Int) then
     bif (x4.getD ((BL.getD ((Az).toNat) 0).toNat) false) then
      if AH (x8+1)/\ AH (Az+1) then
       self (.l2 x3 x4 (x8+1) x20 x21 BL DL (Az+1) o1)
      else none
     else
      if AH (Az+1) then
       self (.l2 x3 x4 x8 x20 x21 BL DL (Az+1) o1)
      else none
    else none
  else none
 else
  some (false,o1)
def Lc (n:Nat) (self:J9 -> Option (Bool×(List Int))) (c:AB) (q:AA) (pos:List Int) (ln:Nat) (lost:List Int) (x3 x4:List Bool) (x7:Nat) (x8 x20 x21:Int) (BL:List Int) (DL Az:Int) (o1 o2:List Int):Option (Bool×(List Int)):=
 bif (decide (Az<DL)) then
  if (0<=Az/\ Az<(BL.length:Int))/\ (0<=(BL.getD ((Az).toNat) 0)/\ (BL.getD ((Az).toNat) 0)<(x3.length:Int)) then
   bif (x3.getD ((BL.getD ((Az).toNat) 0).toNat) false) then
    if ((0=0/\ 1=([BL.getD ((Az).toNat) 0]:List Int).length)/\ (0=0/\ x7=o2.length)/\ o2.length+([BL.getD ((Az).toNat) 0]:List Int).length<=BT)/\ (0<=(BL.getD ((Az).toNat) 0)/\ (BL.getD ((Az).toNat) 0)<(x4.length:Int)) then
     bif (x4.getD ((BL.getD ((Az).toNat) 0).toNat) false) then
      if AH (x8+1)/\ AH (Az+1) then
       self (.l3 x3 x4 (o2.length+([BL.getD ((Az).toNat) 0]:List Int).length) (x8+1) x20 x21 BL DL (Az+1) o1 (o2++([BL.getD ((Az).toNat) 0]:List Int)))
      else none
     else
      if AH (Az+1) then
       self (.l3 x3 x4 (o2.length+([BL.getD ((Az).toNat) 0]:List Int).length) x8 x20 x21 BL DL (Az+1) o1 (o2++([BL.getD ((Az).toNat) 0]:List Int)))
      else none
    else none
   else
    if 0<=(BL.getD ((Az).toNat) 0)/\ (BL.getD ((Az).toNat) 0)<(x4.length:Int) then
     bif (x4.getD ((BL.getD ((Az).toNat) 0).toNat) false) then
      if AH (x8+1)/\ AH (Az+1) then
       self (.l3 x3 x4 x7 (x8+1) x20 x21 BL DL (Az+1) o1 o2)
      else none
     else
      if AH (Az+1) then
       self (.l3 x3 x4 x7 x8 x20 x21 BL DL (Az+1) o1 o2)
      else none
    else none
  else none
 else
  bif (decide ((x7:Int)<2)) then
   some (false,o1)
  else
   bif (decide (x8>2)) then
    some (false,o1)
   else
    self (.l4 x3 x4 x7 x8 x20 x21 x7 (x7:Int) 0 o1 o2)
def Ps (n:Nat) (self:J9 -> Option (Bool×(List Int))) (c:AB) (q:AA) (pos:List Int) (ln:Nat) (lost:List Int) (x3 x4:List Bool) (x7:Nat) (x8 x20 x21:Int) (GJ:Nat) (GI AW:Int) (o1 o2:List Int):Option (Bool×(List Int)):=
 bif (decide (AW<GI)) then
  if (0<=AW/\ AW<(GJ:Int))/\ 0+((AW).toNat)<o2.length then
   bif ((x7:Int)==2) then
    (Fg n (o2.getD (0+((AW).toNat)) 0) c q pos ln o1).bind fun y1=>
     bif (x8==2) then
      if 0<=(o2.getD (0+((AW).toNat)) 0)/\ (o2.getD (0+((AW).toNat)) 0)<(x4.length:Int) then
       bif (!(x4.getD ((o2.getD (0+((AW).toNat)) 0).toNat) false)) then
        (Cv n (o2.getD (0+((AW).toNat)) 0) c.set c q pos ln y1).bind fun y2=>
         if AH (AW+1) then
          self (.l4 x3 x4 x7 x8 x20 x21 GJ GI (AW+1) y2 o2)
         else none
       else
        if AH (AW+1) then
         self (.l4 x3 x4 x7 x8 x20 x21 GJ GI (AW+1) y1 o2)
        else none
      else none
     else
      if AH (AW+1) then
       self (.l4 x3 x4 x7 x8 x20 x21 GJ GI (AW+1) y1 o2)
      else none
   else
    bif (x8==2) then
     if 0<=(o2.getD (0+((AW).toNat)) 0)/\ (o2.getD (0+((AW).toNat)) 0)<(x4.length:Int) then
      bif (!(x4.getD ((o2.getD (0+((AW).toNat)) 0).toNat) false)) then
       (Cv n (o2.getD (0+((AW).toNat)) 0) c.set c q pos ln o1).bind fun y1=>
        if AH (AW+1) then
         self (.l4 x3 x4 x7 x8 x20 x21 GJ GI (AW+1) y1 o2)
        else none
      else
       if AH (AW+1) then
        self (.l4 x3 x4 x7 x8 x20 x21 GJ GI (AW+1) o1 o2)
       else none
     else none
    else
     if AH (AW+1) then
      self (.l4 x3 x4 x7 x8 x20 x21 GJ GI (AW+1) o1 o2)
     else none
  else none
 else
  if AH (x21+1) then
   self (.l1 x3 x4 x20 (x21+1) o1)
  else none
def pZ (n:Nat) (self:J9 -> Option (Bool×(List Int))) (c:AB) (q:AA) (pos:List Int) (ln:Nat) (lost:List Int):Option (Bool×(List Int)):=
 (LX n c q pos ln lost).bind fun y1=>
  self (.l1 y1.1 y1.2.1 (y1.2.1.length:Int) 0 y1.2.2.2)
def CD (c:AB) (q:AA) (pos:List Int) (ln:Nat) (lost:List Int):Nat -> J9 -> Option (Bool×(List Int))
 | 0,_=>none
 | n+1,.l1 x3 x4 x20 x21 o1=>Pv n (CD c q pos ln lost n) c q pos ln lost x3 x4 x20 x21 o1
 | n+1,.l2 x3 x4 x8 x20 x21 BL DL Az o1=>Pu n (CD c q pos ln lost n) c q pos ln lost x3 x4 x8 x20 x21 BL DL Az o1
 | n+1,.l3 x3 x4 x7 x8 x20 x21 BL DL Az o1 o2=>Lc n (CD c q pos ln lost n) c q pos ln lost x3 x4 x7 x8 x20 x21 BL DL Az o1 o2
 | n+1,.l4 x3 x4 x7 x8 x20 x21 GJ GI AW o1 o2=>Ps n (CD c q pos ln lost n) c q pos ln lost x3 x4 x7 x8 x20 x21 GJ GI AW o1 o2
def TN (n:Nat) (c:AB) (q:AA) (pos:List Int) (ln:Nat) (lost:List Int):Option (Bool×(List Int)):=pZ n (CD c q pos ln lost n) c q pos ln lost
def pa (n B:Nat) (N:Yd 2) (c:AB) (q:AA) (pos:List Int) (ln:Nat) (lost:List Int) (r:Bool×(List Int)):J9 -> Prop
 | .l1 x3 x4 x20 x21 o1=>∀ m0:Nat,n<=m0 -> TW B N (FQ Tryz.f65 2 (.bool r.1) [some (.cells (AG c++AD q++[.ints pos,.msl 1 1 0 ln])),some (.ints r.2)]) (Ai m0 (Ap (AZ Tryz.f65) 0 [])) ⟨AL 95 [(0,.ref 0 0),(3,.bools x3),(4,.bools x4),(20,.i x20),(21,.i x21)],[some (.cells (AG c++AD q++[.ints pos,.msl 1 1 0 ln])),some (.ints o1)]⟩
 | .l2 x3 x4 x8 x20 x21 BL DL Az o1=>∀ m0 m1:Nat,n<=m0 -> n<=m1 -> TW B N (FQ Tryz.f65 2 (.bool r.1) [some (.cells (AG c++AD q++[.ints pos,.msl 1 1 0 ln])),some (.ints r.2)]) (Ai m1 (Ap (AZ Tryz.f65) 2 [m0])) ⟨AL 95 [(0,.ref 0 0),(3,.bools x3),(4,.bools x4),(7,.nils),(8,.i x8),(20,.i x20),(21,.i x21),(36,.ints BL),(37,.i DL),(38,.i Az)],[some (.cells (AG c++AD q++[.ints pos,.msl 1 1 0 ln])),some (.ints o1)]⟩
 | .l3 x3 x4 x7 x8 x20 x21 BL DL Az o1 o2=>∀ m0 m1:Nat,n<=m0 -> n<=m1 -> TW B N (FQ Tryz.f65 2 (.bool r.1) [some (.cells (AG c++AD q++[.ints pos,.msl 1 1 0 ln])),some (.ints r.2)]) (Ai m1 (Ap (AZ Tryz.f65) 2 [m0])) ⟨AL 95 [(0,.ref 0 0),(3,.bools x3),(4,.bools x4),(7,.msl 2 1 0 x7),(8,.i x8),(20,.i x20),(21,.i x21),(36,.ints BL),(37,.i DL),(38,.i Az)],[some (.cells (AG c++AD q++[.ints pos,.msl 1 1 0 ln])),some (.ints o1),some (.ints o2)]⟩
 | .l4 x3 x4 x7 x8 x20 x21 GJ GI AW o1 o2=>∀ m0 m1:Nat,n<=m0 -> n<=m1 -> TW B N (FQ Tryz.f65 2 (.bool r.1) [some (.cells (AG c++AD q++[.ints pos,.msl 1 1 0 ln])),some (.ints r.2)]) (Ai m1 (Ap (AZ Tryz.f65) 4 [m0])) ⟨AL 95 [(0,.ref 0 0),(3,.bools x3),(4,.bools x4),(7,.msl 2 1 0 x7),(8,.i x8),(20,.i x20),(21,.i x21),(64,.msl 2 1 0 GJ),(65,.i GI),(66,.i AW)],[some (.cells (AG c++AD q++[.ints pos,.msl 1 1 0 ln])),some (.ints o1),some (.ints o2)]⟩
theorem pb (B:Nat) (N:Yd 2) (c:AB) (q:AA) (pos:List Int) (ln:Nat) (lost:List Int):Al (CD c q pos ln lost) (pa · B N c q pos ln lost):=ia (fun _=>rfl) fun n AF pt r h=>by
 cases pt
 case l1 x3 x4 x20 x21 o1=>
  intro m0 AC;refine rd AC fun m0 AC=>?_
  revert r;apply gO;exact bi 22 (gi (bi 28 (gw 94 (lG AE [0,1] (AF _ _ · m0 AC))) (gi (lN AE [0,1] (AF _ _ · m0 n AC Nat.le.refl))))) (lE AE [2] [0,1])
 case l2 x3 x4 x8 x20 x21 BL DL Az o1=>
  intro m0 m1 AC Af;have AC:=yw AC;refine rd Af fun m1 Af=>?_
  revert r;apply gO;exact bi 39 (gc (gi (gi (bi 45 (gc (gi (gi (bi 53 (gc (gw 55 (gw 56 (lG AE [0,1,3] (AF _ _ · m0 m1 AC Af))))) (gw 56 (lG AE [0,1,3] (AF _ _ · m0 m1 AC Af))))))) (gi (bi 53 (gc (gw 55 (gw 56 (lG AE [0,1] (AF _ _ · m0 m1 AC Af))))) (gw 56 (lG AE [0,1] (AF _ _ · m0 m1 AC Af))))))))) (lE AE [2] [0,1])
 case l3 x3 x4 x7 x8 x20 x21 BL DL Az o1 o2=>
  intro m0 m1 AC Af;have AC:=yw AC;refine rd Af fun m1 Af=>?_
  revert r;apply gO;exact bi 39 (gc (gi (gi (bi 45 (gc (gi (gi (bi 53 (gc (gw 55 (gw 56 (lG AE [0,1,4] (AF _ _ · m0 m1 AC Af))))) (gw 56 (lG AE [0,1,4] (AF _ _ · m0 m1 AC Af))))))) (gi (bi 53 (gc (gw 55 (gw 56 (lG AE [0,1,2] (AF _ _ · m0 m1 AC Af))))) (gw 56 (lG AE [0,1,2] (AF _ _ · m0 m1 AC Af))))))))) (bi 59 (lE AE [2] [0,1]) (bi 62 (lE AE [2] [0,1]) (lN AE [0,1,2] (AF _ _ · m0 n AC Nat.le.refl))))
 case l4 x3 x4 x7 x8 x20 x21 GJ GI AW o1 o2=>
  intro m0 m1 AC Af;have AC:=yw AC;refine rd Af fun m1 Af=>?_
  revert r;apply gO;exact bi 67 (gc (gi (gi (bi 72 (ce J4 [0,1] [some (.cells (AG c++AD q++[.ints pos,.msl 1 1 0 ln])),some (.ints o1),some (.ints o2)] fun y1=>bi 77 (gi (bi 83 (ce FJ [0,1] [some (.cells (AG c++AD q++[.ints pos,.msl 1 1 0 ln])),some (.ints y1),some (.ints o2)] fun _=>gw 93 (lG AE [0,1,2] (AF _ _ · m0 m1 AC Af))) (gw 93 (lG AE [0,1,2] (AF _ _ · m0 m1 AC Af))))) (gw 93 (lG AE [0,1,2] (AF _ _ · m0 m1 AC Af)))) (bi 77 (gi (bi 83 (ce FJ [0,1] [some (.cells (AG c++AD q++[.ints pos,.msl 1 1 0 ln])),some (.ints o1),some (.ints o2)] fun _=>gw 93 (lG AE [0,1,2] (AF _ _ · m0 m1 AC Af))) (gw 93 (lG AE [0,1,2] (AF _ _ · m0 m1 AC Af))))) (gw 93 (lG AE [0,1,2] (AF _ _ · m0 m1 AC Af)))))))) (gw 94 (lG AE [0,1] (AF _ _ · m0 AC)))
theorem pY {n:Nat} {c:AB} {q:AA} {pos:List Int} {ln:Nat} {lost:List Int} {r:Bool×(List Int)} (h:TN n c q pos ln lost=some r):EQ 65 [.ref 0 0] [some (.cells (AG c++AD q++[.ints pos,.msl 1 1 0 ln])),some (.ints lost)] (.bool r.1) [some (.cells (AG c++AD q++[.ints pos,.msl 1 1 0 ln])),some (.ints r.2)] false:=by
 refine ot Tryz.func65 fun B N=>?_
 revert r;apply gO;exact ce dE [0,1] [some (.cells (AG c++AD q++[.ints pos,.msl 1 1 0 ln])),some (.ints lost)] fun _=>lN AE [0,1] ((pb B N c q pos ln lost n) _ _ · n Nat.le.refl)
end Go.Proofs.YtekkngkphejfcaaGreatDoor
namespace Go.Proofs.YtekkngkphejfcaaGreatDoor
open Go.RowKit
set_option maxRecDepth 100000
set_option maxHeartbeats 40000000
def aa:ST:=.rd 0 (.rd 1 (.rd 2 (.rd 3 (.rd 4 (.rd 5 (.rd 6 (.rd 7 (.rd 8 (.rd 9 (.rd 10 (.rd 11 (.rd 12 (.rd 13 (.rd 14 (.rd 15 (.rd 16 (.rd 17 (.rd 18 (.rd 19 (.rd 20 (.rd 21 (.rd 22 (.rd 23 (.rd 24 (.rd 25 (.rd 26 (.rd 27 (.rd 28 (.ef 29 (.rd 30 (.fin [] [5,6])) (.no))))))))))))))))))))))))))))))
theorem lg:CA (BA Tryz.f86 2) [29] aa:=by unfold CA;kernel_rfl
def aZ:ST:=.rd 0 (.rd 1 (.rd 2 (.rd 3 (.rd 4 (.rd 5 (.rd 6 (.rd 7 (.rd 8 (.rd 9 (.rd 10 (.rd 11 (.rd 12 (.rd 13 (.rd 14 (.rd 15 (.ef 16 (.rd 17 (.fin [] [5,6])) (.no)))))))))))))))))
theorem lf:CA (BA Tryz.f86 5) [16] aZ:=by unfold CA;kernel_rfl
def R8:BU:=fun i=>match i with
 | 2=>.tre [29] aa
 | 5=>.tre [16] aZ
 | _=>.no
def aI (s_:Int×Int) (c:AB) (q:AA) (pos:List Int) (ln:Nat) (lost:List Int):St:=⟨(AL 59 [(5,.ref 4 0),(6,.bool (decide (s_.2<(c.runs.getD ((s_.1).toNat) 0))))]),([some (.cells [.ref 1 0]),some (.cells (AG c++AD q++[.ints pos,.msl 2 1 0 ln])),some (.ints lost),some (.cells [.i s_.1,.i s_.2]),some (.cells [.i s_.1,.i (s_.2+1)])]:DH)⟩
def aH (c:AB) (q:AA) (pos:List Int) (ln:Nat) (lost:List Int) (s_:Int×Int):St:=⟨(AL 59 [(5,.ref 4 0),(6,.bool false)]),([some (.cells [.ref 1 0]),some (.cells (AG c++AD q++[.ints pos,.msl 2 1 0 ln])),some (.ints lost),some (.cells [.i s_.1,.i s_.2]),some (.cells [.i s_.1,.i (s_.2+1)])]:DH)⟩
def aG (s_:Int×Int) (c:AB) (q:AA) (pos:List Int) (ln:Nat) (lost:List Int):St:=⟨(AL 59 [(5,.ref 4 0),(6,.bool (s_.2==(c.runs.getD ((s_.1).toNat) 0)))]),([some (.cells [.ref 1 0]),some (.cells (AG c++AD q++[.ints pos,.msl 2 1 0 ln])),some (.ints lost),some (.cells [.i s_.1,.i s_.2]),some (.cells [.i (s_.1+1),.i 0])]:DH)⟩
def dI (n:Nat) (s_:Int×Int) (Ac:Bool) (c:AB) (q:AA) (pos:List Int) (ln:Nat) (lost:List Int):Option ((Int×Int)×Bool×(List Int)):=
 bif Ac then
  if AH (s_.2+1) then
   bif (decide (s_.1<(c.runs.length:Int))) then
    if 0<=s_.1/\ s_.1<(c.runs.length:Int) then
     some ((s_.1,(s_.2+1)),(decide (s_.2<(c.runs.getD ((s_.1).toNat) 0))),lost)
    else none
   else
    some ((s_.1,(s_.2+1)),false,lost)
  else none
 else
  bif (s_.2==0) then
   some ((s_.1,s_.2),true,lost)
  else
   if AH (s_.1+1)/\ (0<=s_.1/\ s_.1<(c.runs.length:Int)) then
    some (((s_.1+1),0),(s_.2==(c.runs.getD ((s_.1).toNat) 0)),lost)
   else none
def Pp (n:Nat) (s_:Int×Int) (Ac:Bool) (c:AB) (q:AA) (pos:List Int) (ln:Nat) (lost:List Int):Option ((Int×Int)×Bool×(List Int)):=dI n s_ Ac c q pos ln lost
theorem J6 {n:Nat} {s_:Int×Int} {Ac:Bool} {c:AB} {q:AA} {pos:List Int} {ln:Nat} {lost:List Int} {r:(Int×Int)×Bool×(List Int)} (h:Pp n s_ Ac c q pos ln lost=some r):EQ 86 [.agg 2 (L1 [.i s_.1,.i s_.2]),.bool Ac,.ref 0 0] [some (.cells [.ref 1 0]),some (.cells (AG c++AD q++[.ints pos,.msl 2 1 0 ln])),some (.ints lost)] (.tup 2 (L1 [.agg 2 (L1 [.i r.1.1,.i r.1.2]),.bool r.2.1])) [some (.cells [.ref 1 0]),some (.cells (AG c++AD q++[.ints pos,.msl 2 1 0 ln])),some (.ints r.2.2)] false:=by
 refine ot Tryz.func86 fun B N=>?_
 revert r;apply gO;exact bi 8 (jg lg (gw 13 (bi 23 (gi (jt (jg (Eq.refl (aI s_ c q pos ln lost)) (lE (tg:=[([(29,4)],(aI s_ c q pos ln lost))]) R8 [5,6] [0,1,2,4])))) (jt (jg (Eq.refl (aH c q pos ln lost s_)) (lE (tg:=[([(29,4)],(aH c q pos ln lost s_))]) R8 [5,6] [0,1,2,4])))))) (bi 41 (jt (lE R8 [5,6] [0,1,2,4])) (jg lf (gc (gw 45 (gi (jt (jg (Eq.refl (aG s_ c q pos ln lost)) (lE (tg:=[([(16,4)],(aG s_ c q pos ln lost))]) R8 [5,6] [0,1,2,4]))))))))
theorem lj:Aj (BA Tryz.f87 2) [] (List.range 22) []:=by unfold Aj;kernel_rfl
theorem li:Aj (BA Tryz.f87 3) [] (List.range 22) []:=by unfold Aj;kernel_rfl
def bF:BU:=fun i=>match i with
 | 2=>.ord [] (List.range 22) []
 | 3=>.ord [] (List.range 22) []
 | _=>.no
def dq (n:Nat) (i_:Int) (Ac:Bool) (c:AB) (q:AA) (pos:List Int) (ln:Nat) (lost:List Int):Option (Bool×(List Int)):=
 bif Ac then
  if (0<=i_/\ i_<(c.cells.length:Int))/\ (0<=(c.cells.getD ((i_).toNat) 0)/\ (c.cells.getD ((i_).toNat) 0)<(pos.length:Int)) then
   some (((bits .and .i64 (pos.getD ((c.cells.getD ((i_).toNat) 0).toNat) 0) c.set) != 0),lost)
  else none
 else
  if (0<=i_/\ i_<(c.cells.length:Int))/\ (0<=(c.cells.getD ((i_).toNat) 0)/\ (c.cells.getD ((i_).toNat) 0)<(pos.length:Int)) then
   some (((bits .andNot .i64 (pos.getD ((c.cells.getD ((i_).toNat) 0).toNat) 0) c.set) != 0),lost)
  else none
def P4 (n:Nat) (i_:Int) (Ac:Bool) (c:AB) (q:AA) (pos:List Int) (ln:Nat) (lost:List Int):Option (Bool×(List Int)):=dq n i_ Ac c q pos ln lost
theorem TV {n:Nat} {i_:Int} {Ac:Bool} {c:AB} {q:AA} {pos:List Int} {ln:Nat} {lost:List Int} {r:Bool×(List Int)} (h:P4 n i_ Ac c q pos ln lost=some r):EQ 87 [.i i_,.bool Ac,.ref 0 0] [some (.cells [.ref 1 0]),some (.cells (AG c++AD q++[.ints pos,.msl 2 1 0 ln])),some (.ints lost)] (.bool r.1) [some (.cells [.ref 1 0]),some (.cells (AG c++AD q++[.ints pos,.msl 2 1 0 ln])),some (.ints r.2)] false:=by
 refine ot Tryz.func87 fun B N=>?_
 revert r;apply gO;exact bi 6 (jg lj (gc (gi (gi (lE bF [5] [0,1,2]))))) (jg li (gc (gi (gi (lE bF [5] [0,1,2])))))
theorem kw:Aj (BA Tryz.f61 24) [] (List.range 6) [6]:=by unfold Aj;kernel_rfl
def aS:ST:=.rd 0 (.rd 1 (.rd 2 (.rd 3 (.rd 4 (.rd 5 (.rd 6 (.rd 7 (.rd 8 (.rd 9 (.rd 10 (.rd 11 (.rd 12 (.rd 13 (.ef 14 (.fin [] [1,3,5,7,14,16,18]) (.no)))))))))))))))
theorem bL:CA (BA Tryz.f61 49) [] aS:=by unfold CA;kernel_rfl
def aR:ST:=.rd 0 (.rd 1 (.rd 2 (.rd 3 (.rd 4 (.rd 5 (.rd 6 (.rd 7 (.rd 8 (.ef 9 (.fin [] [1,3,5,7,14,16]) (.no))))))))))
theorem Vx:CA (BA Tryz.f61 51) [] aR:=by unfold CA;kernel_rfl
def B3:BU:=fun i=>match i with
 | 24=>.ord [] (List.range 6) [6]
 | 49=>.tre [] aS
 | 51=>.tre [] aR
 | _=>.no
def Xy (c:AB) (q:AA) (pos:List Int) (ln:Nat) (o1:List Int) (o3:List (Option KS)):DH:=[some (.cells (AG c++AD q++[.ints pos,.msl 1 1 0 ln])),some (.ints o1),some (.cells [.ref 0 0]),some (.mo (.sets 2 o3 none))]
def sd (c:AB) (q:AA) (pos:List Int) (ln:Nat) (o1:List Int) (o3:List (Option KS)) (Ag:Int) (gk:LK):DH:=[some (.cells (AG c++AD q++[.ints pos,.msl 1 1 0 ln])),some (.ints o1),some (.cells [.ref 0 0]),some (.mo (.sets 2 o3 (some (0+((Ag).toNat),gk))))]
def sV (c:AB) (q:AA) (pos:List Int) (ln:Nat) (o1:List Int) (o3:List (Option KS)) (AU:Nat) (gk:LK) (o4:KS):DH:=[some (.cells (AG c++AD q++[.ints pos,.msl 1 1 0 ln])),some (.ints o1),some (.cells [.ref 0 0]),some (.mo (.sets 2 o3 (some (AU,gk)))),some (.mo (.mit 2 gk.1 gk.2.1 gk.2.2 o4 none))]
def eU (c:AB) (q:AA) (pos:List Int) (ln:Nat) (o1:List Int) (o3:List (Option KS)) (AU:Nat) (gk:LK) (o4:KS) (y1:List Int):DH:=[some (.cells (AG c++AD q++[.ints pos,.msl 1 1 0 ln])),some (.ints o1),some (.cells [.ref 0 0]),some (.mo (.sets 2 o3 (some (AU,gk)))),some (.mo (.mit 2 gk.1 gk.2.1 gk.2.2 (o4.erase y1) (some y1)))]
def Xv (c:AB) (q:AA) (pos:List Int) (ln:Nat) (o1:List Int) (o3:List (Option KS)) (o4:KS):DH:=[some (.cells (AG c++AD q++[.ints pos,.msl 1 1 0 ln])),some (.ints o1),some (.cells [.ref 0 0]),some (.mo (.sets 2 o3 none)),some (.mo (.set 2 o4)),some (.mo (.set 2 ([]:KS))),some (.cells [.bool false,.bool false])]
def sT (c:AB) (q:AA) (pos:List Int) (ln:Nat) (o1:List Int) (o3:List (Option KS)) (AP:Int) (gk:LK) (o4:KS):DH:=[some (.cells (AG c++AD q++[.ints pos,.msl 1 1 0 ln])),some (.ints o1),some (.cells [.ref 0 0]),some (.mo (.sets 2 o3 (some (0+((AP).toNat),gk)))),some (.mo (.set 2 o4)),some (.mo (.set 2 ([]:KS))),some (.cells [.bool false,.bool false])]
def Xu (c:AB) (q:AA) (pos:List Int) (ln:Nat) (o1:List Int) (o3:List (Option KS)) (AU:Nat) (gk:LK) (Aa Ej:Int) (o5:KS) (Ei:List Int):DH:=[some (.cells (AG c++AD q++[.ints pos,.msl 1 1 0 ln])),some (.ints o1),some (.cells [.ref 0 0]),some (.mo (.sets 2 o3 (some (AU,gk)))),some (.cells [.i Aa,.i Ej]),some (.mo (.mit 2 gk.1 gk.2.1 gk.2.2 o5 (some Ei))),some (.bools ([false,true]:List Bool))]
def sS (c:AB) (q:AA) (pos:List Int) (ln:Nat) (y1:(Int×Int)×Bool×(List Int)) (o3:List (Option KS)) (AU:Nat) (gk:LK) (Aa Ej:Int) (o5:KS) (Ei:List Int):DH:=[some (.cells (AG c++AD q++[.ints pos,.msl 1 1 0 ln])),some (.ints y1.2.2),some (.cells [.ref 0 0]),some (.mo (.sets 2 o3 (some (AU,gk)))),some (.cells [.i Aa,.i Ej]),some (.mo (.mit 2 gk.1 gk.2.1 gk.2.2 o5 (some Ei))),some (.bools ([false,true]:List Bool)),some (.cells [.i y1.1.1,.i y1.1.2])]
def sR (c:AB) (q:AA) (pos:List Int) (ln:Nat) (o1:List Int) (o3:List (Option KS)) (AU:Nat) (gk:LK) (o4 o7:KS):DH:=[some (.cells (AG c++AD q++[.ints pos,.msl 1 1 0 ln])),some (.ints o1),some (.cells [.ref 0 0]),some (.mo (.sets 2 o3 (some (AU,gk)))),some (.mo (.set 2 o4)),some (.mo (.set 2 ([]:KS))),some (.cells [.bool false,.bool false]),some (.mo (.mit 2 gk.1 gk.2.1 gk.2.2 o7 none))]
def Z9 (c:AB) (AP:Int) (q:AA) (pos:List Int) (ln:Nat) (y2:(List Int)) (o3:List (Option KS)) (o4:KS):St:=⟨(AL 208 [(1,.ref 2 0),(3,.fn 86 1 (L1 [.ref 2 0])),(5,.msl 3 1 0 ((((c.cells.length:Int)+1)).toNat)),(7,.fn 87 1 (L1 [.ref 2 0])),(14,.it 5),(16,.i AP),(18,.ref 6 0)]),([some (.cells (AG c++AD q++[.ints pos,.msl 1 1 0 ln])),some (.ints y2),some (.cells [.ref 0 0]),some (.mo (.sets 2 o3 none)),some (.mo (.set 2 o4)),some (.mo (.set 2 ([]:KS))),some (.cells [.bool false,.bool false])]:DH)⟩
def sc (c:AB) (q:AA) (pos:List Int) (ln:Nat) (y2:(List Int)) (o3:List (Option KS)) (o4:KS):DH:=[some (.cells (AG c++AD q++[.ints pos,.msl 1 1 0 ln])),some (.ints y2),some (.cells [.ref 0 0]),some (.mo (.sets 2 o3 none)),some (.mo (.set 2 o4)),some (.mo (.set 2 ([]:KS))),some (.cells [.bool false,.bool false])]
def aC (c:AB) (AP:Int) (q:AA) (pos:List Int) (ln:Nat) (y3:(List Int)) (o3:List (Option KS)) (o4:KS):St:=⟨(AL 208 [(1,.ref 2 0),(3,.fn 86 1 (L1 [.ref 2 0])),(5,.msl 3 1 0 ((((c.cells.length:Int)+1)).toNat)),(7,.fn 87 1 (L1 [.ref 2 0])),(14,.it 5),(16,.i AP)]),([some (.cells (AG c++AD q++[.ints pos,.msl 1 1 0 ln])),some (.ints y3),some (.cells [.ref 0 0]),some (.mo (.sets 2 o3 none)),some (.mo (.set 2 o4)),some (.mo (.set 2 ([]:KS))),some (.cells [.bool false,.bool false])]:DH)⟩
def sZ (c:AB) (q:AA) (pos:List Int) (ln:Nat) (o1:List Int) (o3:List (Option KS)) (AU:Nat) (gk:LK) (o4 o7:KS) (y1:List Int):DH:=[some (.cells (AG c++AD q++[.ints pos,.msl 1 1 0 ln])),some (.ints o1),some (.cells [.ref 0 0]),some (.mo (.sets 2 o3 (some (AU,gk)))),some (.mo (.set 2 o4)),some (.mo (.set 2 ([]:KS))),some (.cells [.bool false,.bool false]),some (.mo (.mit 2 gk.1 gk.2.1 gk.2.2 (o7.erase y1) (some y1)))]
def QN (c:AB) (q:AA) (pos:List Int) (ln:Nat) (o1:List Int) (o3:List (Option KS)) (AU:Nat) (gk:LK) (o4 o5:KS) (BB BC:Bool) (Cu Ct:Int) (o8:KS) (DD:List Int):DH:=[some (.cells (AG c++AD q++[.ints pos,.msl 1 1 0 ln])),some (.ints o1),some (.cells [.ref 0 0]),some (.mo (.sets 2 o3 (some (AU,gk)))),some (.mo (.set 2 o4)),some (.mo (.set 2 o5)),some (.cells [.bool BB,.bool BC]),some (.cells [.i Cu,.i Ct]),some (.mo (.mit 2 gk.1 gk.2.1 gk.2.2 o8 (some DD))),some (.bools ([false,true]:List Bool))]
def Xx (c:AB) (q:AA) (pos:List Int) (ln:Nat) (y1:(Int×Int)×Bool×(List Int)) (o3:List (Option KS)) (AU:Nat) (gk:LK) (o4 o5:KS) (BB BC:Bool) (Cu Ct:Int) (o8:KS) (DD:List Int):DH:=[some (.cells (AG c++AD q++[.ints pos,.msl 1 1 0 ln])),some (.ints y1.2.2),some (.cells [.ref 0 0]),some (.mo (.sets 2 o3 (some (AU,gk)))),some (.mo (.set 2 o4)),some (.mo (.set 2 o5)),some (.cells [.bool BB,.bool BC]),some (.cells [.i Cu,.i Ct]),some (.mo (.mit 2 gk.1 gk.2.1 gk.2.2 o8 (some DD))),some (.bools ([false,true]:List Bool)),some (.cells [.i y1.1.1,.i y1.1.2])]
def sY (c:AB) (q:AA) (pos:List Int) (ln:Nat) (o1:List Int) (o3:List (Option KS)) (AU:Nat) (gk:LK) (o4:KS) (IV:List Int):DH:=[some (.cells (AG c++AD q++[.ints pos,.msl 1 1 0 ln])),some (.ints o1),some (.cells [.ref 0 0]),some (.mo (.sets 2 o3 (some (AU,gk)))),some (.mo (.mit 2 gk.1 gk.2.1 gk.2.2 o4 (some IV)))]
def sX (c:AB) (q:AA) (pos:List Int) (ln:Nat) (o1:List Int) (o3:List (Option KS)) (AU:Nat) (gk:LK) (o4 o5:KS) (BB BC:Bool) (o7:KS) (IU:List Int):DH:=[some (.cells (AG c++AD q++[.ints pos,.msl 1 1 0 ln])),some (.ints o1),some (.cells [.ref 0 0]),some (.mo (.sets 2 o3 (some (AU,gk)))),some (.mo (.set 2 o4)),some (.mo (.set 2 o5)),some (.cells [.bool BB,.bool BC]),some (.mo (.mit 2 gk.1 gk.2.1 gk.2.2 o7 (some IU)))]
def Xw (c:AB) (q:AA) (pos:List Int) (ln:Nat) (o1:List Int) (o3:List (Option KS)) (o4 o5:KS) (BB BC:Bool):DH:=[some (.cells (AG c++AD q++[.ints pos,.msl 1 1 0 ln])),some (.ints o1),some (.cells [.ref 0 0]),some (.mo (.sets 2 o3 none)),some (.mo (.set 2 o4)),some (.mo (.set 2 o5)),some (.cells [.bool BB,.bool BC])]
def Vg (c:AB) (AP:Int) (q:AA) (pos:List Int) (ln:Nat) (y2:(List Int)) (o3:List (Option KS)) (o4 o5:KS) (BB BC:Bool):St:=⟨(AL 208 [(1,.ref 2 0),(3,.fn 86 1 (L1 [.ref 2 0])),(5,.msl 3 1 0 ((((c.cells.length:Int)+1)).toNat)),(7,.fn 87 1 (L1 [.ref 2 0])),(14,.it 5),(16,.i AP),(18,.ref 6 0)]),([some (.cells (AG c++AD q++[.ints pos,.msl 1 1 0 ln])),some (.ints y2),some (.cells [.ref 0 0]),some (.mo (.sets 2 o3 none)),some (.mo (.set 2 o4)),some (.mo (.set 2 o5)),some (.cells [.bool BB,.bool BC])]:DH)⟩
def sW (c:AB) (q:AA) (pos:List Int) (ln:Nat) (y2:(List Int)) (o3:List (Option KS)) (o4 o5:KS) (BB BC:Bool):DH:=[some (.cells (AG c++AD q++[.ints pos,.msl 1 1 0 ln])),some (.ints y2),some (.cells [.ref 0 0]),some (.mo (.sets 2 o3 none)),some (.mo (.set 2 o4)),some (.mo (.set 2 o5)),some (.cells [.bool BB,.bool BC])]
def aB (c:AB) (AP:Int) (q:AA) (pos:List Int) (ln:Nat) (y3:(List Int)) (o3:List (Option KS)) (o4 o5:KS) (BB BC:Bool):St:=⟨(AL 208 [(1,.ref 2 0),(3,.fn 86 1 (L1 [.ref 2 0])),(5,.msl 3 1 0 ((((c.cells.length:Int)+1)).toNat)),(7,.fn 87 1 (L1 [.ref 2 0])),(14,.it 5),(16,.i AP)]),([some (.cells (AG c++AD q++[.ints pos,.msl 1 1 0 ln])),some (.ints y3),some (.cells [.ref 0 0]),some (.mo (.sets 2 o3 none)),some (.mo (.set 2 o4)),some (.mo (.set 2 o5)),some (.cells [.bool BB,.bool BC])]:DH)⟩
def aA (c:AB) (AP:Int) (q:AA) (pos:List Int) (ln:Nat) (y2:(List Int)) (o3:List (Option KS)) (o4 o5:KS) (BB BC:Bool):St:=⟨(AL 208 [(1,.ref 2 0),(3,.fn 86 1 (L1 [.ref 2 0])),(5,.msl 3 1 0 ((((c.cells.length:Int)+1)).toNat)),(7,.fn 87 1 (L1 [.ref 2 0])),(14,.it 5),(16,.i AP)]),([some (.cells (AG c++AD q++[.ints pos,.msl 1 1 0 ln])),some (.ints y2),some (.cells [.ref 0 0]),some (.mo (.sets 2 o3 none)),some (.mo (.set 2 o4)),some (.mo (.set 2 o5)),some (.cells [.bool BB,.bool BC])]:DH)⟩
def sU (c:AB) (q:AA) (pos:List Int) (ln:Nat) (o1:List Int) (o3:List (Option KS)) (AU:Nat) (gk:LK) (o4 o5:KS) (BB BC:Bool) (o7:KS) (y1:List Int):DH:=[some (.cells (AG c++AD q++[.ints pos,.msl 1 1 0 ln])),some (.ints o1),some (.cells [.ref 0 0]),some (.mo (.sets 2 o3 (some (AU,gk)))),some (.mo (.set 2 o4)),some (.mo (.set 2 o5)),some (.cells [.bool BB,.bool BC]),some (.mo (.mit 2 gk.1 gk.2.1 gk.2.2 (o7.erase y1) (some y1)))]
inductive Gi where
 | l1 (Cg:Int) (o3:List (Option KS))
 | l2 (Ag:Int) (o1:List Int) (o3:List (Option KS))
 | l3 (x8 Ag:Int) (o1:List Int) (o3:List (Option KS)) (AU:Nat) (o4:KS)
 | l4 (AP:Int) (o1:List Int) (o3:List (Option KS)) (o4:KS)
 | l5 (x8 Ag EZ:Int) (o1:List Int) (o3:List (Option KS)) (AU:Nat) (Aa Ej:Int) (o5:KS) (Ei:List Int)
 | l6 (AP:Int) (o1:List Int) (o3:List (Option KS)) (AU:Nat) (o4 o7:KS)
 | l7 (AP DC:Int) (o1:List Int) (o3:List (Option KS)) (AU:Nat) (o4 o5:KS) (BB BC:Bool) (Cu Ct:Int) (o8:KS) (DD:List Int)
 | l8 (x8 Ag:Int) (o1:List Int) (o3:List (Option KS)) (AU:Nat) (o4:KS) (IV:List Int)
 | l9 (AP:Int) (o1:List Int) (o3:List (Option KS)) (AU:Nat) (o4 o5:KS) (BB BC:Bool) (o7:KS) (IU:List Int)
def O4 (n:Nat) (self:Gi -> Option (Bool×(List Int))) (c:AB) (q:AA) (pos:List Int) (ln:Nat) (lost:List Int) (Cg:Int) (o3:List (Option KS)):Option (Bool×(List Int)):=
 bif (decide (Cg<(((((c.cells.length:Int)+1)).toNat:Nat):Int))) then
  if (0<=Cg/\ Cg<(((((c.cells.length:Int)+1)).toNat:Nat):Int))/\ 0+((Cg).toNat)<o3.length/\ AH (Cg+1) then
   self (.l1 (Cg+1) (o3.set (0+((Cg).toNat)) (some ([]:KS))))
  else none
 else
  if ((0:Int)<=0/\ 0<(((((c.cells.length:Int)+1)).toNat:Nat):Int))/\ 0+0<o3.length/\ (o3.getD (0+0) none).isSome=true then
   self (.l2 0 lost (o3.set (0+0) (some (B7 [0,0] ((o3.getD (0+0) none).getD [])))))
  else none
def K8 (n:Nat) (self:Gi -> Option (Bool×(List Int))) (c:AB) (q:AA) (pos:List Int) (ln:Nat) (lost:List Int) (Ag:Int) (o1:List Int) (o3:List (Option KS)):Option (Bool×(List Int)):=
 bif (decide (Ag<(c.cells.length:Int))) then
  if (o3.getD (0+((Ag).toNat)) none).isSome=true then
   if (0<=Ag/\ Ag<(((((c.cells.length:Int)+1)).toNat:Nat):Int))/\ 0+((Ag).toNat)<o3.length/\ (o3.getD (0+((Ag).toNat)) none).isSome=true then
    self (.l3 Ag Ag o1 o3 (0+((Ag).toNat)) ((o3.getD (0+((Ag).toNat)) none).getD []))
   else none
  else none
 else
  bif (decide ((c.runs.length:Int)>0)) then
   if AH ((c.runs.length:Int)-1)/\ ((0:Int)<=((c.runs.length:Int)-1)/\ ((c.runs.length:Int)-1)<(c.runs.length:Int))/\ AH ((c.cells.length:Int)-1) then
    self (.l4 ((c.cells.length:Int)-1) o1 o3 (B7 [((c.runs.length:Int)-1),c.runs.getD ((((c.runs.length:Int)-1)).toNat) 0] (B7 [(c.runs.length:Int),0] ([]:KS))))
   else none
  else
   if AH ((c.cells.length:Int)-1) then
    self (.l4 ((c.cells.length:Int)-1) o1 o3 (B7 [(c.runs.length:Int),0] ([]:KS)))
   else none
def mK (n:Nat) (self:Gi -> Option (Bool×(List Int))) (c:AB) (q:AA) (pos:List Int) (ln:Nat) (lost:List Int) (x8 Ag:Int) (o1:List Int) (o3:List (Option KS)) (AU:Nat) (o4:KS):Option (Bool×(List Int)):=
 if (o3.getD AU none).isSome=true then
  Gp o4 (
   if AH (Ag+1) then
    self (.l2 (Ag+1) o1 o3)
   else none) fun y1=>
   if (o3.getD AU none).isSome=true then
    self (.l5 x8 Ag 0 o1 o3 AU (y1.getD 0 0) (y1.getD 1 0) (o4.erase y1) y1)
   else none
 else none
def O3 (n:Nat) (self:Gi -> Option (Bool×(List Int))) (c:AB) (q:AA) (pos:List Int) (ln:Nat) (lost:List Int) (AP:Int) (o1:List Int) (o3:List (Option KS)) (o4:KS):Option (Bool×(List Int)):=
 bif (decide (AP>=0)) then
  if (o3.getD (0+((AP).toNat)) none).isSome=true then
   if (0<=AP/\ AP<(((((c.cells.length:Int)+1)).toNat:Nat):Int))/\ 0+((AP).toNat)<o3.length/\ (o3.getD (0+((AP).toNat)) none).isSome=true then
    self (.l6 AP o1 o3 (0+((AP).toNat)) o4 ((o3.getD (0+((AP).toNat)) none).getD []))
   else none
  else none
 else
  some (true,o1)
def K7 (n:Nat) (self:Gi -> Option (Bool×(List Int))) (c:AB) (q:AA) (pos:List Int) (ln:Nat) (lost:List Int) (x8 Ag EZ:Int) (o1:List Int) (o3:List (Option KS)) (AU:Nat) (Aa Ej:Int) (o5:KS) (Ei:List Int):Option (Bool×(List Int)):=
 bif (decide (EZ<2)) then
  if (0<=EZ/\ EZ<((2:Nat):Int))/\ 0+((EZ).toNat)<([false,true]:List Bool).length then
   (Pp n (Aa,Ej) (([false,true]:List Bool).getD (0+((EZ).toNat)) false) c q pos ln o1).bind fun y1=>
    bif y1.2.1 then
     (P4 n x8 (([false,true]:List Bool).getD (0+((EZ).toNat)) false) c q pos ln y1.2.2).bind fun y2=>
      bif y2.1 then
       if AH (x8+1)/\ (0<=(x8+1)/\ (x8+1)<(((((c.cells.length:Int)+1)).toNat:Nat):Int))/\ 0+(((x8+1)).toNat)<o3.length/\ AU≠0+(((x8+1)).toNat)/\ (o3.getD (0+(((x8+1)).toNat)) none).isSome=true/\ AH (EZ+1) then
        self (.l5 x8 Ag (EZ+1) y2.2 (o3.set (0+(((x8+1)).toNat)) (some (B7 [y1.1.1,y1.1.2] ((o3.getD (0+(((x8+1)).toNat)) none).getD [])))) AU Aa Ej o5 Ei)
       else none
      else
       if AH (EZ+1) then
        self (.l5 x8 Ag (EZ+1) y2.2 o3 AU Aa Ej o5 Ei)
       else none
    else
     if AH (EZ+1) then
      self (.l5 x8 Ag (EZ+1) y1.2.2 o3 AU Aa Ej o5 Ei)
     else none
  else none
 else
  self (.l8 x8 Ag o1 o3 AU o5 Ei)
def mJ (n:Nat) (self:Gi -> Option (Bool×(List Int))) (c:AB) (q:AA) (pos:List Int) (ln:Nat) (lost:List Int) (AP:Int) (o1:List Int) (o3:List (Option KS)) (AU:Nat) (o4 o7:KS):Option (Bool×(List Int)):=
 if (o3.getD AU none).isSome=true then
  Gp o7 (
   if 0<=AP/\ AP<(c.cells.length:Int) then
    (Cv n (c.cells.getD ((AP).toNat) 0) c.set c q pos ln o1).bind fun y2=>
     (Fg n (c.cells.getD ((AP).toNat) 0) c q pos ln y2).bind fun y3=>
      if AH (AP-1) then
       self (.l4 (AP-1) y3 o3 ([]:KS))
      else none
   else none) fun y1=>
   if (o3.getD AU none).isSome=true then
    self (.l7 AP 0 o1 o3 AU o4 ([]:KS) false false (y1.getD 0 0) (y1.getD 1 0) (o7.erase y1) y1)
   else none
 else none
def K6 (n:Nat) (self:Gi -> Option (Bool×(List Int))) (c:AB) (q:AA) (pos:List Int) (ln:Nat) (lost:List Int) (AP DC:Int) (o1:List Int) (o3:List (Option KS)) (AU:Nat) (o4 o5:KS) (BB BC:Bool) (Cu Ct:Int) (o8:KS) (DD:List Int):Option (Bool×(List Int)):=
 bif (decide (DC<2)) then
  if (0<=DC/\ DC<((2:Nat):Int))/\ 0+((DC).toNat)<([false,true]:List Bool).length then
   (Pp n (Cu,Ct) (([false,true]:List Bool).getD (0+((DC).toNat)) false) c q pos ln o1).bind fun y1=>
    bif y1.2.1 then
     (P4 n AP (([false,true]:List Bool).getD (0+((DC).toNat)) false) c q pos ln y1.2.2).bind fun y2=>
      bif y2.1 then
       bif (o4.contains [y1.1.1,y1.1.2]) then
        bif (DC==0) then
         if AH (DC+1) then
          self (.l7 AP (DC+1) y2.2 o3 AU o4 (B7 [Cu,Ct] o5) true BC Cu Ct o8 DD)
         else none
        else
         bif (DC==1) then
          if AH (DC+1) then
           self (.l7 AP (DC+1) y2.2 o3 AU o4 (B7 [Cu,Ct] o5) BB true Cu Ct o8 DD)
          else none
         else
          none
       else
        if AH (DC+1) then
         self (.l7 AP (DC+1) y2.2 o3 AU o4 o5 BB BC Cu Ct o8 DD)
        else none
      else
       if AH (DC+1) then
        self (.l7 AP (DC+1) y2.2 o3 AU o4 o5 BB BC Cu Ct o8 DD)
       else none
    else
     if AH (DC+1) then
      self (.l7 AP (DC+1) y1.2.2 o3 AU o4 o5 BB BC Cu Ct o8 DD)
     else none
  else none
 else
  self (.l9 AP o1 o3 AU o4 o5 BB BC o8 DD)
def O1 (n:Nat) (self:Gi -> Option (Bool×(List Int))) (c:AB) (q:AA) (pos:List Int) (ln:Nat) (lost:List Int) (x8 Ag:Int) (o1:List Int) (o3:List (Option KS)) (AU:Nat) (o4:KS) (IV:List Int):Option (Bool×(List Int)):=
 if (o3.getD AU none).isSome=true then
  Gp o4 (
   if AH (Ag+1) then
    self (.l2 (Ag+1) o1 o3)
   else none) fun y1=>
   if (o3.getD AU none).isSome=true then
    self (.l5 x8 Ag 0 o1 o3 AU (y1.getD 0 0) (y1.getD 1 0) (o4.erase y1) y1)
   else none
 else none
def O0 (n:Nat) (self:Gi -> Option (Bool×(List Int))) (c:AB) (q:AA) (pos:List Int) (ln:Nat) (lost:List Int) (AP:Int) (o1:List Int) (o3:List (Option KS)) (AU:Nat) (o4 o5:KS) (BB BC:Bool) (o7:KS) (IU:List Int):Option (Bool×(List Int)):=
 if (o3.getD AU none).isSome=true then
  Gp o7 (
   bif (!BC) then
    if 0<=AP/\ AP<(c.cells.length:Int) then
     (Cv n (c.cells.getD ((AP).toNat) 0) c.set c q pos ln o1).bind fun y2=>
      bif (!BB) then
       (Fg n (c.cells.getD ((AP).toNat) 0) c q pos ln y2).bind fun y3=>
        if AH (AP-1) then
         self (.l4 (AP-1) y3 o3 o5)
        else none
      else
       if AH (AP-1) then
        self (.l4 (AP-1) y2 o3 o5)
       else none
    else none
   else
    bif (!BB) then
     if 0<=AP/\ AP<(c.cells.length:Int) then
      (Fg n (c.cells.getD ((AP).toNat) 0) c q pos ln o1).bind fun y2=>
       if AH (AP-1) then
        self (.l4 (AP-1) y2 o3 o5)
       else none
     else none
    else
     if AH (AP-1) then
      self (.l4 (AP-1) o1 o3 o5)
     else none) fun y1=>
   if (o3.getD AU none).isSome=true then
    self (.l7 AP 0 o1 o3 AU o4 o5 BB BC (y1.getD 0 0) (y1.getD 1 0) (o7.erase y1) y1)
   else none
 else none
def V0 (n:Nat) (self:Gi -> Option (Bool×(List Int))) (c:AB) (q:AA) (pos:List Int) (ln:Nat) (lost:List Int):Option (Bool×(List Int)):=
 bif ((c.cells.length:Int)==0) then
  some (((c.runs.length:Int)==0),lost)
 else
  if AH ((c.cells.length:Int)+1)/\ ((((c.cells.length:Int)+1):Int)=((c.cells.length:Int)+1)/\ (0:Int)<=((c.cells.length:Int)+1)/\ (((c.cells.length:Int)+1):Int)<=1000000000000) then
   self (.l1 0 (List.replicate ((((c.cells.length:Int)+1)).toNat) (none:Option KS)))
  else none
def A1 (c:AB) (q:AA) (pos:List Int) (ln:Nat) (lost:List Int):Nat -> Gi -> Option (Bool×(List Int))
 | 0,_=>none
 | n+1,.l1 Cg o3=>O4 n (A1 c q pos ln lost n) c q pos ln lost Cg o3
 | n+1,.l2 Ag o1 o3=>K8 n (A1 c q pos ln lost n) c q pos ln lost Ag o1 o3
 | n+1,.l3 x8 Ag o1 o3 AU o4=>mK n (A1 c q pos ln lost n) c q pos ln lost x8 Ag o1 o3 AU o4
 | n+1,.l4 AP o1 o3 o4=>O3 n (A1 c q pos ln lost n) c q pos ln lost AP o1 o3 o4
 | n+1,.l5 x8 Ag EZ o1 o3 AU Aa Ej o5 Ei=>K7 n (A1 c q pos ln lost n) c q pos ln lost x8 Ag EZ o1 o3 AU Aa Ej o5 Ei
 | n+1,.l6 AP o1 o3 AU o4 o7=>mJ n (A1 c q pos ln lost n) c q pos ln lost AP o1 o3 AU o4 o7
 | n+1,.l7 AP DC o1 o3 AU o4 o5 BB BC Cu Ct o8 DD=>K6 n (A1 c q pos ln lost n) c q pos ln lost AP DC o1 o3 AU o4 o5 BB BC Cu Ct o8 DD
 | n+1,.l8 x8 Ag o1 o3 AU o4 IV=>O1 n (A1 c q pos ln lost n) c q pos ln lost x8 Ag o1 o3 AU o4 IV
 | n+1,.l9 AP o1 o3 AU o4 o5 BB BC o7 IU=>O0 n (A1 c q pos ln lost n) c q pos ln lost AP o1 o3 AU o4 o5 BB BC o7 IU
def Mn (n:Nat) (c:AB) (q:AA) (pos:List Int) (ln:Nat) (lost:List Int):Option (Bool×(List Int)):=V0 n (A1 c q pos ln lost n) c q pos ln lost
def mL (n B:Nat) (N:Yd 2) (c:AB) (q:AA) (pos:List Int) (ln:Nat) (lost:List Int) (r:Bool×(List Int)):Gi -> Prop
 | .l1 Cg o3=>∀ m0:Nat,n<=m0 -> TW B N (FQ Tryz.f61 2 (.bool r.1) [some (.cells (AG c++AD q++[.ints pos,.msl 1 1 0 ln])),some (.ints r.2)]) (Ai m0 (Ap (AZ Tryz.f61) 0 [])) ⟨AL 208 [(1,.ref 2 0),(3,.fn 86 1 (L1 [.ref 2 0])),(4,.i (c.cells.length:Int)),(5,.msl 3 1 0 ((((c.cells.length:Int)+1)).toNat)),(44,.i (((((c.cells.length:Int)+1)).toNat:Nat):Int)),(45,.i Cg)],[some (.cells (AG c++AD q++[.ints pos,.msl 1 1 0 ln])),some (.ints lost),some (.cells [.ref 0 0]),some (.mo (.sets 2 o3 none))]⟩
 | .l2 Ag o1 o3=>∀ m0:Nat,n<=m0 -> TW B N (FQ Tryz.f61 2 (.bool r.1) [some (.cells (AG c++AD q++[.ints pos,.msl 1 1 0 ln])),some (.ints r.2)]) (Ai m0 (Ap (AZ Tryz.f61) 2 [])) ⟨AL 208 [(1,.ref 2 0),(3,.fn 86 1 (L1 [.ref 2 0])),(4,.i (c.cells.length:Int)),(5,.msl 3 1 0 ((((c.cells.length:Int)+1)).toNat)),(7,.fn 87 1 (L1 [.ref 2 0])),(58,.i (c.cells.length:Int)),(59,.i Ag)],[some (.cells (AG c++AD q++[.ints pos,.msl 1 1 0 ln])),some (.ints o1),some (.cells [.ref 0 0]),some (.mo (.sets 2 o3 none))]⟩
 | .l3 x8 Ag o1 o3 AU o4=>∀ m0 m1:Nat,n<=m0 -> n<=m1 -> ∀ gk:LK,TW B N (FQ Tryz.f61 2 (.bool r.1) [some (.cells (AG c++AD q++[.ints pos,.msl 1 1 0 ln])),some (.ints r.2)]) (Ai m1 (Ap (AZ Tryz.f61) 4 [m0])) ⟨AL 208 [(1,.ref 2 0),(3,.fn 86 1 (L1 [.ref 2 0])),(4,.i (c.cells.length:Int)),(5,.msl 3 1 0 ((((c.cells.length:Int)+1)).toNat)),(7,.fn 87 1 (L1 [.ref 2 0])),(8,.i x8),(58,.i (c.cells.length:Int)),(59,.i Ag),(66,.it 4)],[some (.cells (AG c++AD q++[.ints pos,.msl 1 1 0 ln])),some (.ints o1),some (.cells [.ref 0 0]),some (.mo (.sets 2 o3 (some (AU,gk)))),some (.mo (.mit 2 gk.1 gk.2.1 gk.2.2 o4 none))]⟩
 | .l4 AP o1 o3 o4=>∀ m0:Nat,n<=m0 -> TW B N (FQ Tryz.f61 2 (.bool r.1) [some (.cells (AG c++AD q++[.ints pos,.msl 1 1 0 ln])),some (.ints r.2)]) (Ai m0 (Ap (AZ Tryz.f61) 8 [])) ⟨AL 208 [(1,.ref 2 0),(3,.fn 86 1 (L1 [.ref 2 0])),(5,.msl 3 1 0 ((((c.cells.length:Int)+1)).toNat)),(7,.fn 87 1 (L1 [.ref 2 0])),(14,.it 4),(16,.i AP)],[some (.cells (AG c++AD q++[.ints pos,.msl 1 1 0 ln])),some (.ints o1),some (.cells [.ref 0 0]),some (.mo (.sets 2 o3 none)),some (.mo (.set 2 o4))]⟩
 | .l5 x8 Ag EZ o1 o3 AU Aa Ej o5 Ei=>∀ m0 m1 m2:Nat,n<=m0 -> n<=m1 -> n<=m2 -> ∀ gk:LK,TW B N (FQ Tryz.f61 2 (.bool r.1) [some (.cells (AG c++AD q++[.ints pos,.msl 1 1 0 ln])),some (.ints r.2)]) (Ai m2 (Ap (AZ Tryz.f61) 6 [m0,m1])) ⟨AL 208 [(1,.ref 2 0),(3,.fn 86 1 (L1 [.ref 2 0])),(4,.i (c.cells.length:Int)),(5,.msl 3 1 0 ((((c.cells.length:Int)+1)).toNat)),(7,.fn 87 1 (L1 [.ref 2 0])),(8,.i x8),(9,.ref 4 0),(58,.i (c.cells.length:Int)),(59,.i Ag),(66,.it 5),(71,.msl 6 1 0 2),(72,.i 2),(73,.i EZ)],[some (.cells (AG c++AD q++[.ints pos,.msl 1 1 0 ln])),some (.ints o1),some (.cells [.ref 0 0]),some (.mo (.sets 2 o3 (some (AU,gk)))),some (.cells [.i Aa,.i Ej]),some (.mo (.mit 2 gk.1 gk.2.1 gk.2.2 o5 (some Ei))),some (.bools ([false,true]:List Bool))]⟩
 | .l6 AP o1 o3 AU o4 o7=>∀ m0 m1:Nat,n<=m0 -> n<=m1 -> ∀ gk:LK,TW B N (FQ Tryz.f61 2 (.bool r.1) [some (.cells (AG c++AD q++[.ints pos,.msl 1 1 0 ln])),some (.ints r.2)]) (Ai m1 (Ap (AZ Tryz.f61) 10 [m0])) ⟨AL 208 [(1,.ref 2 0),(3,.fn 86 1 (L1 [.ref 2 0])),(5,.msl 3 1 0 ((((c.cells.length:Int)+1)).toNat)),(7,.fn 87 1 (L1 [.ref 2 0])),(14,.it 4),(16,.i AP),(17,.it 5),(18,.ref 6 0),(140,.it 7)],[some (.cells (AG c++AD q++[.ints pos,.msl 1 1 0 ln])),some (.ints o1),some (.cells [.ref 0 0]),some (.mo (.sets 2 o3 (some (AU,gk)))),some (.mo (.set 2 o4)),some (.mo (.set 2 ([]:KS))),some (.cells [.bool false,.bool false]),some (.mo (.mit 2 gk.1 gk.2.1 gk.2.2 o7 none))]⟩
 | .l7 AP DC o1 o3 AU o4 o5 BB BC Cu Ct o8 DD=>∀ m0 m1 m2:Nat,n<=m0 -> n<=m1 -> n<=m2 -> ∀ gk:LK,TW B N (FQ Tryz.f61 2 (.bool r.1) [some (.cells (AG c++AD q++[.ints pos,.msl 1 1 0 ln])),some (.ints r.2)]) (Ai m2 (Ap (AZ Tryz.f61) 12 [m0,m1])) ⟨AL 208 [(1,.ref 2 0),(3,.fn 86 1 (L1 [.ref 2 0])),(5,.msl 3 1 0 ((((c.cells.length:Int)+1)).toNat)),(7,.fn 87 1 (L1 [.ref 2 0])),(14,.it 4),(16,.i AP),(17,.it 5),(18,.ref 6 0),(19,.ref 7 0),(140,.it 8),(145,.msl 9 1 0 2),(146,.i 2),(147,.i DC)],[some (.cells (AG c++AD q++[.ints pos,.msl 1 1 0 ln])),some (.ints o1),some (.cells [.ref 0 0]),some (.mo (.sets 2 o3 (some (AU,gk)))),some (.mo (.set 2 o4)),some (.mo (.set 2 o5)),some (.cells [.bool BB,.bool BC]),some (.cells [.i Cu,.i Ct]),some (.mo (.mit 2 gk.1 gk.2.1 gk.2.2 o8 (some DD))),some (.bools ([false,true]:List Bool))]⟩
 | .l8 x8 Ag o1 o3 AU o4 IV=>∀ m0 m1:Nat,n<=m0 -> n<=m1 -> ∀ gk:LK,TW B N (FQ Tryz.f61 2 (.bool r.1) [some (.cells (AG c++AD q++[.ints pos,.msl 1 1 0 ln])),some (.ints r.2)]) (Ai m1 (Ap (AZ Tryz.f61) 4 [m0])) ⟨AL 208 [(1,.ref 2 0),(3,.fn 86 1 (L1 [.ref 2 0])),(4,.i (c.cells.length:Int)),(5,.msl 3 1 0 ((((c.cells.length:Int)+1)).toNat)),(7,.fn 87 1 (L1 [.ref 2 0])),(8,.i x8),(58,.i (c.cells.length:Int)),(59,.i Ag),(66,.it 4)],[some (.cells (AG c++AD q++[.ints pos,.msl 1 1 0 ln])),some (.ints o1),some (.cells [.ref 0 0]),some (.mo (.sets 2 o3 (some (AU,gk)))),some (.mo (.mit 2 gk.1 gk.2.1 gk.2.2 o4 (some IV)))]⟩
 | .l9 AP o1 o3 AU o4 o5 BB BC o7 IU=>∀ m0 m1:Nat,n<=m0 -> n<=m1 -> ∀ gk:LK,TW B N (FQ Tryz.f61 2 (.bool r.1) [some (.cells (AG c++AD q++[.ints pos,.msl 1 1 0 ln])),some (.ints r.2)]) (Ai m1 (Ap (AZ Tryz.f61) 10 [m0])) ⟨AL 208 [(1,.ref 2 0),(3,.fn 86 1 (L1 [.ref 2 0])),(5,.msl 3 1 0 ((((c.cells.length:Int)+1)).toNat)),(7,.fn 87 1 (L1 [.ref 2 0])),(14,.it 4),(16,.i AP),(17,.it 5),(18,.ref 6 0),(140,.it 7)],[some (.cells (AG c++AD q++[.ints pos,.msl 1 1 0 ln])),some (.ints o1),some (.cells [.ref 0 0]),some (.mo (.sets 2 o3 (some (AU,gk)))),some (.mo (.set 2 o4)),some (.mo (.set 2 o5)),some (.cells [.bool BB,.bool BC]),some (.mo (.mit 2 gk.1 gk.2.1 gk.2.2 o7 (some IU)))]⟩
theorem mM (B:Nat) (N:Yd 2) (c:AB) (q:AA) (pos:List Int) (ln:Nat) (lost:List Int):Al (A1 c q pos ln lost) (mL · B N c q pos ln lost):=ia (fun _=>rfl) fun n AF pt r h=>by
 cases pt
 case l1 Cg o3=>
  intro m0 AC;refine rd AC fun m0 AC=>?_
  revert r;apply gO;exact bi 46 (gc (gi (gc (gi (gw 52 (lG B3 [0,1,2,5] (AF _ _ · m0 AC))))))) (gc (gi (gc (gi (gi (jg (pg (i:=0+0)) (lN B3 [0,1,2,3] (AF _ _ · n Nat.le.refl))))))))
 case l2 Ag o1 o3=>
  intro m0 AC;refine rd AC fun m0 AC=>?_
  revert r;apply gO
  exact bi 60 (gn fun g0=>fun p r h=>by
   refine gs (BQ 16 B3) [0,1,2,3] p (H3 (AZ Tryz.f61) 16 [m0]) (AL 208 [(1,.ref 2 0),(3,.fn 86 1 (L1 [.ref 2 0])),(4,.i (c.cells.length:Int)),(5,.msl 3 1 0 ((((c.cells.length:Int)+1)).toNat)),(7,.fn 87 1 (L1 [.ref 2 0])),(8,.i Ag),(58,.i (c.cells.length:Int)),(59,.i Ag)]) (Xy c q pos ln o1 o3) ?_;refine BJ.lock 3 (0+((Ag).toNat)) 2 (by kernel_rfl) g0 (by kernel_rfl) (fun gk=>(sd c q pos ln o1 o3 Ag gk)) (by kernel_rfl) fun gk=>?_
   revert r;apply gO;exact gc (gi (gc (gi (gi (jg (Eq.refl (0+((Ag).toNat))) (lN B3 [0,1,2,3,4] (AF _ _ · m0 n AC Nat.le.refl gk)))))))) (bi 115 (gc (gn fun g0=>jw 118 g0 (jw 125 g0 (gc (gi (gw 130 (lN B3 [0,1,2,3,4] (AF _ _ · n Nat.le.refl)))))))) (gw 130 (lN B3 [0,1,2,3,4] (AF _ _ · n Nat.le.refl))))
 case l3 x8 Ag o1 o3 AU o4=>
  intro m0 m1 AC Af gk;have AC:=yw AC;refine rd Af fun m1 Af=>?_
  have p:=H0;refine gs (BQ 17 B3) [0,1,2,3,4] p (H3 (AZ Tryz.f61) 17 [m0,m1]) (AL 208 [(1,.ref 2 0),(3,.fn 86 1 (L1 [.ref 2 0])),(4,.i (c.cells.length:Int)),(5,.msl 3 1 0 ((((c.cells.length:Int)+1)).toNat)),(7,.fn 87 1 (L1 [.ref 2 0])),(8,.i x8),(58,.i (c.cells.length:Int)),(59,.i Ag),(66,.it 4)]) (sV c q pos ln o1 o3 AU gk o4) ?_;revert r;apply gO
  exact gn fun g0=>fun p r h=>by
   replace h:=TG h;refine Aq.nx (ops:=BA Tryz.f61 17) HC.x (by kernel_rfl) (by kernel_rfl) 4 3 AU 2 o3 gk o4 none [1,3,4,5,7,8,58,59,66,68] [0,1,2,3] (AL 208 [(1,.ref 2 0),(3,.fn 86 1 (L1 [.ref 2 0])),(4,.i (c.cells.length:Int)),(5,.msl 3 1 0 ((((c.cells.length:Int)+1)).toNat)),(7,.fn 87 1 (L1 [.ref 2 0])),(8,.i x8),(58,.i (c.cells.length:Int)),(59,.i Ag),(68,.bool false)]) (Xy c q pos ln o1 o3) [0,1,2,3,4] (fun y1=>AL 208 [(1,.ref 2 0),(3,.fn 86 1 (L1 [.ref 2 0])),(4,.i (c.cells.length:Int)),(5,.msl 3 1 0 ((((c.cells.length:Int)+1)).toNat)),(7,.fn 87 1 (L1 [.ref 2 0])),(8,.i x8),(58,.i (c.cells.length:Int)),(59,.i Ag),(66,.it 4),(68,.bool true)]) (fun y1=>(eU c q pos ln o1 o3 AU gk o4 y1)) (by kernel_rfl) (by kernel_rfl) (by kernel_rfl) (by decide) g0 (by kernel_rfl) (by kernel_rfl) (fun _=>by kernel_rfl) (fun he=>?_) (fun y1 he=>?_)
   ·replace h:=h.1 he;revert r;apply gO;exact gw 98 (lG B3 [0,1,2,3] (AF _ _ · m0 AC))
   ·replace h:=h.2 y1 he;revert r;apply gO;exact gi (jg (Eq.refl gk.1) (jg (Eq.refl gk.2.1) (jg (Eq.refl gk.2.2) (jt (lN B3 [0,1,2,3,5,4,6] (AF _ _ · m0 m1 n AC Af Nat.le.refl gk))))))
 case l4 AP o1 o3 o4=>
  intro m0 AC;refine rd AC fun m0 AC=>?_
  revert r;apply gO
  exact bi 132 (gn fun g0=>fun p r h=>by
   refine gs (BQ 36 B3) [0,1,2,3,4,5,6] p (H3 (AZ Tryz.f61) 36 [m0]) (AL 208 [(1,.ref 2 0),(3,.fn 86 1 (L1 [.ref 2 0])),(5,.msl 3 1 0 ((((c.cells.length:Int)+1)).toNat)),(7,.fn 87 1 (L1 [.ref 2 0])),(14,.it 4),(16,.i AP),(17,.it 5),(18,.ref 6 0)]) (Xv c q pos ln o1 o3 o4) ?_;refine BJ.lock 3 (0+((AP).toNat)) 2 (by kernel_rfl) g0 (by kernel_rfl) (fun gk=>(sT c q pos ln o1 o3 AP gk o4)) (by kernel_rfl) fun gk=>?_
   revert r;apply gO;exact gc (gi (gc (gi (gi (jg (Eq.refl (0+((AP).toNat))) (lN B3 [0,1,2,3,4,5,6,7] (AF _ _ · m0 n AC Nat.le.refl gk)))))))) (lE B3 [2] [0,1])
 case l5 x8 Ag EZ o1 o3 AU Aa Ej o5 Ei=>
  intro m0 m1 m2 AC Af Fo gk;have AC:=yw AC;have Af:=yw Af;refine rd Fo fun m2 Fo=>?_
  revert r;apply gO;exact bj 74 (fun c0=>gc (gn fun g0=>jg g0 (gn fun g1=>jg g1 (cn fun y1 A5=>jc (em (J6 A5) [2,0,1] (Xu c q pos ln o1 o3 AU gk Aa Ej o5 Ei)) (jt (bn (fun c1=>rO (jb 74 c0 (jg g0 (jg g1 (jc (em (J6 A5) [2,0,1] (Xu c q pos ln o1 o3 AU gk Aa Ej o5 Ei)) (jb 83 c1 (jt (ce TV [2,0,1] (sS c q pos ln y1 o3 AU gk Aa Ej o5 Ei) fun _=>bi 89 (jg kw (gc (gw 93 (gc (gi (gc (gi (gc (gn fun g5=>gc (gi (jg (pf (g:=gk) g5) (gw 97 (lG B3 [0,1,2,3,4,5,6] (AF _ _ · m0 m1 m2 AC Af Fo gk)))))))))))))) (gw 97 (lG B3 [0,1,2,3,4,5,6] (AF _ _ · m0 m1 m2 AC Af Fo gk))))))))))) (fun c1=>rO (jb 74 c0 (jg g0 (jg g1 (jc (em (J6 A5) [2,0,1] (Xu c q pos ln o1 o3 AU gk Aa Ej o5 Ei)) (jb 83 c1 (jt (gw 97 (lG B3 [0,1,2,3,4,5,6] (AF _ _ · m0 m1 m2 AC Af Fo gk)))))))))))))))) (fun _=>lG B3 [0,1,2,3,5] (AF _ _ · m0 m1 AC Af gk))
 case l6 AP o1 o3 AU o4 o7=>
  intro m0 m1 AC Af gk;have AC:=yw AC;refine rd Af fun m1 Af=>?_
  have p:=H0;refine gs (BQ 37 B3) [0,1,2,3,4,5,6,7] p (H3 (AZ Tryz.f61) 37 [m0,m1]) (AL 208 [(1,.ref 2 0),(3,.fn 86 1 (L1 [.ref 2 0])),(5,.msl 3 1 0 ((((c.cells.length:Int)+1)).toNat)),(7,.fn 87 1 (L1 [.ref 2 0])),(14,.it 4),(16,.i AP),(17,.it 5),(18,.ref 6 0),(140,.it 7)]) (sR c q pos ln o1 o3 AU gk o4 o7) ?_;revert r;apply gO
  exact gn fun g0=>fun p r h=>by
   replace h:=TG h;refine Aq.nx (ops:=BA Tryz.f61 37) HC.x (by kernel_rfl) (by kernel_rfl) 7 3 AU 2 o3 gk o7 none [1,3,5,7,14,16,17,18,140,142] [0,1,2,3,4,5,6] (AL 208 [(1,.ref 2 0),(3,.fn 86 1 (L1 [.ref 2 0])),(5,.msl 3 1 0 ((((c.cells.length:Int)+1)).toNat)),(7,.fn 87 1 (L1 [.ref 2 0])),(14,.it 4),(16,.i AP),(17,.it 5),(18,.ref 6 0),(142,.bool false)]) (Xv c q pos ln o1 o3 o4) [0,1,2,3,4,5,6,7] (fun y1=>AL 208 [(1,.ref 2 0),(3,.fn 86 1 (L1 [.ref 2 0])),(5,.msl 3 1 0 ((((c.cells.length:Int)+1)).toNat)),(7,.fn 87 1 (L1 [.ref 2 0])),(14,.it 4),(16,.i AP),(17,.it 5),(18,.ref 6 0),(140,.it 7),(142,.bool true)]) (fun y1=>(sZ c q pos ln o1 o3 AU gk o4 o7 y1)) (by kernel_rfl) (by kernel_rfl) (by kernel_rfl) (by decide) g0 (by kernel_rfl) (by kernel_rfl) (fun _=>by kernel_rfl) (fun he=>?_) (fun y1 he=>?_)
   ·replace h:=h.1 he;revert r;apply gO;exact jg (by decide:(0:Int)<=1/\ 1<((2:Nat):Int)) (jg bL (gn fun g1=>jg g1 (ce FJ [0,1] (Xv c q pos ln o1 o3 o4) fun y2=>jg (Eq.refl (Z9 c AP q pos ln y2 o3 o4)) (jg (by decide:(0:Int)<=0/\ 0<((2:Nat):Int)) (jg Vx (jg g1 (ce J4 [0,1] (sc c q pos ln y2 o3 o4) fun y3=>jg (Eq.refl (aC c AP q pos ln y3 o3 o4)) (gw 134 (lG (tg:=[([],(Z9 c AP q pos ln y2 o3 o4)),([],(aC c AP q pos ln y3 o3 o4))]) B3 [0,1,2,3,5] (AF _ _ · m0 AC))))))))))
   ·replace h:=h.2 y1 he;revert r;apply gO;exact gi (jg (Eq.refl gk.1) (jg (Eq.refl gk.2.1) (jg (Eq.refl gk.2.2) (jt (lN B3 [0,1,2,3,4,5,6,8,7,9] (AF _ _ · m0 m1 n AC Af Nat.le.refl gk))))))
 case l7 AP DC o1 o3 AU o4 o5 BB BC Cu Ct o8 DD=>
  intro m0 m1 m2 AC Af Fo gk;have AC:=yw AC;have Af:=yw Af;refine rd Fo fun m2 Fo=>?_
  revert r;apply gO;exact bj 148 (fun c0=>gc (gn fun g0=>jg g0 (gn fun g1=>jg g1 (cn fun y1 A5=>jc (em (J6 A5) [2,0,1] (QN c q pos ln o1 o3 AU gk o4 o5 BB BC Cu Ct o8 DD)) (jt (bn (fun c1=>rO (jb 148 c0 (jg g0 (jg g1 (jc (em (J6 A5) [2,0,1] (QN c q pos ln o1 o3 AU gk o4 o5 BB BC Cu Ct o8 DD)) (jb 158 c1 (jt (cn fun y2 CQ=>jc (em (TV CQ) [2,0,1] (Xx c q pos ln y1 o3 AU gk o4 o5 BB BC Cu Ct o8 DD)) (bj 164 (fun c2=>bj 169 (fun c3=>bn (fun c4=>rO (jb 148 c0 (jo 149 (AN.int (k:=.i64) (eq_of_beq c4)) (jg g0 (jg g1 (jc (em (J6 A5) [2,0,1] (QN c q pos ln o1 o3 AU gk o4 o5 BB BC Cu Ct o8 DD)) (jb 158 c1 (jt (jc (em (TV CQ) [2,0,1] (Xx c q pos ln y1 o3 AU gk o4 o5 BB BC Cu Ct o8 DD)) (jb 164 c2 (jb 169 c3 (jg (by decide:(0:Int)<=0/\ 0<((2:Nat):Int)) (jt (gw 175 (lG B3 [0,1,2,3,4,5,6,7,8,9] (AF _ _ · m0 m1 m2 AC Af Fo gk)))))))))))))))) (fun c4=>bn (fun c6=>rO (jb 148 c0 (jo 149 (AN.int (k:=.i64) (eq_of_beq c6)) (jg g0 (jg g1 (jc (em (J6 A5) [2,0,1] (QN c q pos ln o1 o3 AU gk o4 o5 BB BC Cu Ct o8 DD)) (jb 158 c1 (jt (jc (em (TV CQ) [2,0,1] (Xx c q pos ln y1 o3 AU gk o4 o5 BB BC Cu Ct o8 DD)) (jb 164 c2 (jb 169 c3 (jg (by decide:(0:Int)<=1/\ 1<((2:Nat):Int)) (jt (gw 175 (lG B3 [0,1,2,3,4,5,6,7,8,9] (AF _ _ · m0 m1 m2 AC Af Fo gk)))))))))))))))) (fun c6=>nO))) (fun _=>gw 175 (lG B3 [0,1,2,3,4,5,6,7,8,9] (AF _ _ · m0 m1 m2 AC Af Fo gk)))) (fun _=>gw 175 (lG B3 [0,1,2,3,4,5,6,7,8,9] (AF _ _ · m0 m1 m2 AC Af Fo gk)))))))))))) (fun c1=>rO (jb 148 c0 (jg g0 (jg g1 (jc (em (J6 A5) [2,0,1] (QN c q pos ln o1 o3 AU gk o4 o5 BB BC Cu Ct o8 DD)) (jb 158 c1 (jt (gw 175 (lG B3 [0,1,2,3,4,5,6,7,8,9] (AF _ _ · m0 m1 m2 AC Af Fo gk)))))))))))))))) (fun _=>lG B3 [0,1,2,3,4,5,6,8] (AF _ _ · m0 m1 AC Af gk))
 case l8 x8 Ag o1 o3 AU o4 IV=>
  intro m0 m1 AC Af gk;have AC:=yw AC;refine rd Af fun m1 Af=>?_
  have p:=H0;refine gs (BQ 17 B3) [0,1,2,3,4] p (H3 (AZ Tryz.f61) 17 [m0,m1]) (AL 208 [(1,.ref 2 0),(3,.fn 86 1 (L1 [.ref 2 0])),(4,.i (c.cells.length:Int)),(5,.msl 3 1 0 ((((c.cells.length:Int)+1)).toNat)),(7,.fn 87 1 (L1 [.ref 2 0])),(8,.i x8),(58,.i (c.cells.length:Int)),(59,.i Ag),(66,.it 4)]) (sY c q pos ln o1 o3 AU gk o4 IV) ?_;revert r;apply gO
  exact gn fun g0=>fun p r h=>by
   replace h:=TG h;refine Aq.nx (ops:=BA Tryz.f61 17) HC.x (by kernel_rfl) (by kernel_rfl) 4 3 AU 2 o3 gk o4 (some IV) [1,3,4,5,7,8,58,59,66,68] [0,1,2,3] (AL 208 [(1,.ref 2 0),(3,.fn 86 1 (L1 [.ref 2 0])),(4,.i (c.cells.length:Int)),(5,.msl 3 1 0 ((((c.cells.length:Int)+1)).toNat)),(7,.fn 87 1 (L1 [.ref 2 0])),(8,.i x8),(58,.i (c.cells.length:Int)),(59,.i Ag),(68,.bool false)]) (Xy c q pos ln o1 o3) [0,1,2,3,4] (fun y1=>AL 208 [(1,.ref 2 0),(3,.fn 86 1 (L1 [.ref 2 0])),(4,.i (c.cells.length:Int)),(5,.msl 3 1 0 ((((c.cells.length:Int)+1)).toNat)),(7,.fn 87 1 (L1 [.ref 2 0])),(8,.i x8),(58,.i (c.cells.length:Int)),(59,.i Ag),(66,.it 4),(68,.bool true)]) (fun y1=>(eU c q pos ln o1 o3 AU gk o4 y1)) (by kernel_rfl) (by kernel_rfl) (by kernel_rfl) (by decide) g0 (by kernel_rfl) (by kernel_rfl) (fun _=>by kernel_rfl) (fun he=>?_) (fun y1 he=>?_)
   ·replace h:=h.1 he;revert r;apply gO;exact gw 98 (lG B3 [0,1,2,3] (AF _ _ · m0 AC))
   ·replace h:=h.2 y1 he;revert r;apply gO;exact gi (jg (Eq.refl gk.1) (jg (Eq.refl gk.2.1) (jg (Eq.refl gk.2.2) (jt (lN B3 [0,1,2,3,5,4,6] (AF _ _ · m0 m1 n AC Af Nat.le.refl gk))))))
 case l9 AP o1 o3 AU o4 o5 BB BC o7 IU=>
  intro m0 m1 AC Af gk;have AC:=yw AC;refine rd Af fun m1 Af=>?_
  have p:=H0;refine gs (BQ 37 B3) [0,1,2,3,4,5,6,7] p (H3 (AZ Tryz.f61) 37 [m0,m1]) (AL 208 [(1,.ref 2 0),(3,.fn 86 1 (L1 [.ref 2 0])),(5,.msl 3 1 0 ((((c.cells.length:Int)+1)).toNat)),(7,.fn 87 1 (L1 [.ref 2 0])),(14,.it 4),(16,.i AP),(17,.it 5),(18,.ref 6 0),(140,.it 7)]) (sX c q pos ln o1 o3 AU gk o4 o5 BB BC o7 IU) ?_;revert r;apply gO
  exact gn fun g0=>fun p r h=>by
   replace h:=TG h;refine Aq.nx (ops:=BA Tryz.f61 37) HC.x (by kernel_rfl) (by kernel_rfl) 7 3 AU 2 o3 gk o7 (some IU) [1,3,5,7,14,16,17,18,140,142] [0,1,2,3,4,5,6] (AL 208 [(1,.ref 2 0),(3,.fn 86 1 (L1 [.ref 2 0])),(5,.msl 3 1 0 ((((c.cells.length:Int)+1)).toNat)),(7,.fn 87 1 (L1 [.ref 2 0])),(14,.it 4),(16,.i AP),(17,.it 5),(18,.ref 6 0),(142,.bool false)]) (Xw c q pos ln o1 o3 o4 o5 BB BC) [0,1,2,3,4,5,6,7] (fun y1=>AL 208 [(1,.ref 2 0),(3,.fn 86 1 (L1 [.ref 2 0])),(5,.msl 3 1 0 ((((c.cells.length:Int)+1)).toNat)),(7,.fn 87 1 (L1 [.ref 2 0])),(14,.it 4),(16,.i AP),(17,.it 5),(18,.ref 6 0),(140,.it 7),(142,.bool true)]) (fun y1=>(sU c q pos ln o1 o3 AU gk o4 o5 BB BC o7 y1)) (by kernel_rfl) (by kernel_rfl) (by kernel_rfl) (by decide) g0 (by kernel_rfl) (by kernel_rfl) (fun _=>by kernel_rfl) (fun he=>?_) (fun y1 he=>?_)
   ·replace h:=h.1 he;revert r;apply gO;exact jg (by decide:(0:Int)<=1/\ 1<((2:Nat):Int)) (bi 179 (jg bL (gn fun g1=>jg g1 (ce FJ [0,1] (Xw c q pos ln o1 o3 o4 o5 BB BC) fun y2=>jg (Eq.refl (Vg c AP q pos ln y2 o3 o4 o5 BB BC)) (jg (by decide:(0:Int)<=0/\ 0<((2:Nat):Int)) (bi 197 (jg Vx (jg g1 (ce J4 [0,1] (sW c q pos ln y2 o3 o4 o5 BB BC) fun y3=>jg (Eq.refl (aB c AP q pos ln y3 o3 o4 o5 BB BC)) (gw 134 (lG (tg:=[([],(Vg c AP q pos ln y2 o3 o4 o5 BB BC)),([],(aB c AP q pos ln y3 o3 o4 o5 BB BC))]) B3 [0,1,2,3,5] (AF _ _ · m0 AC)))))) (gw 134 (lG (tg:=[([],(Vg c AP q pos ln y2 o3 o4 o5 BB BC))]) B3 [0,1,2,3,5] (AF _ _ · m0 AC)))))))) (jg (by decide:(0:Int)<=0/\ 0<((2:Nat):Int)) (bi 197 (jg Vx (gi (ce J4 [0,1] (Xw c q pos ln o1 o3 o4 o5 BB BC) fun y2=>jg (Eq.refl (aA c AP q pos ln y2 o3 o4 o5 BB BC)) (gw 134 (lG (tg:=[([],(aA c AP q pos ln y2 o3 o4 o5 BB BC))]) B3 [0,1,2,3,5] (AF _ _ · m0 AC)))))) (gw 134 (lG B3 [0,1,2,3,5] (AF _ _ · m0 AC))))))
   ·replace h:=h.2 y1 he;revert r;apply gO;exact gi (jg (Eq.refl gk.1) (jg (Eq.refl gk.2.1) (jg (Eq.refl gk.2.2) (jt (lN B3 [0,1,2,3,4,5,6,8,7,9] (AF _ _ · m0 m1 n AC Af Nat.le.refl gk))))))
theorem mI {n:Nat} {c:AB} {q:AA} {pos:List Int} {ln:Nat} {lost:List Int} {r:Bool×(List Int)} (h:Mn n c q pos ln lost=some r):EQ 61 [.ref 0 0] [some (.cells (AG c++AD q++[.ints pos,.msl 1 1 0 ln])),some (.ints lost)] (.bool r.1) [some (.cells (AG c++AD q++[.ints pos,.msl 1 1 0 ln])),some (.ints r.2)] false:=by
 refine ot Tryz.func61 fun B N=>?_
 revert r;apply gO;exact bi 32 (lE B3 [2] [0,1]) (gc (gw 41 (gi (lN B3 [0,1,2,3] ((mM B N c q pos ln lost n) _ _ · n Nat.le.refl)))))
end Go.Proofs.YtekkngkphejfcaaGreatDoor
