/- Part 4 of 6 of what the proofs of these laws stand on. -/
import Derived.Test.YtgkhhfnhacibcaaGreatDoorPcC
import Derived.Laws.BitsLemmas
import Derived.Shelf.Sort.Plain
set_option linter.all false
namespace Go.Proofs.YtgkhhfnhacibcaaGreatDoor
abbrev ye:=@decide_eq_true_iff
abbrev zA:=@List.mem_append_left
abbrev zE:=@List.length_singleton
abbrev zQ:=@List.mem_append_right
abbrev zd:=@List.getElem?_set_self
abbrev z2:=@Bool.false_and
abbrev zAK:=@List.append_nil
abbrev zAL:=@List.countP_cons
abbrev zAk:=@List.countP_le_length
abbrev zAn:=@List.append_assoc
abbrev zAs:=@Bool.and_false
end Go.Proofs.YtgkhhfnhacibcaaGreatDoor
namespace Go.Proofs.YtgkhhfnhacibcaaGreatDoor
open Go.RowKit
def nb (g:List (List Int)) (v:Int):List Int:=g.getD v.toNat []
structure Gr (g:List (List Int)):Prop where
 len:g.length<=256
 row: ∀ v,0<=v -> v<(g.length:Int) -> (nb g v).length<=256
 rng: ∀ v,0<=v -> v<(g.length:Int) -> ∀ u∈nb g v,0<=u/\ u<(g.length:Int)
 sym: ∀ v,0<=v -> v<(g.length:Int) -> ∀ u∈nb g v,v∈nb g u
theorem Gr.of {g:List (List Int)} (h:J5 g=true) (hr: ∀ r∈g,r.length<=LB):Gr g:=by
 unfold J5 at h;rw [yT,ye,ya] at h
 have key: ∀ v,0<=v -> v<(g.length:Int) -> ∀ u∈nb g v,(0<=u/\ u<(g.length:Int))/\ v∈nb g u:=by
  intro v h0 h1 u hu;have h2:=h.2 v.toNat (yh.2 (by omega));unfold Ih at h2;rw [ya] at h2;obtain ⟨j,hj,e⟩:=zk hu;have h3:=h2 j (yh.2 hj);unfold Gm at h3
  have e2:(g.getD v.toNat []).getD j 0=u:=by
   show (nb g v).getD j 0=u
   rw [u8,yQ hj];exact e
  simp only [e2,yT,ye,zAj] at h3;have e3:((v.toNat:Nat):Int)=v:=by omega
  rw [e3] at h3;exact ⟨⟨h3.1.1.1.1,h3.1.1.1.2⟩,h3.2⟩
 have grow: ∀ v,0<=v -> v<(g.length:Int) -> ∀ k,k<(nb g v).length -> (k:Int)<=(nb g v).getD k 0:=by
  intro v h0 h1 k;have h2:=h.2 v.toNat (yh.2 (by omega));unfold Ih at h2;rw [ya] at h2
  induction k with
  | zero=>
   intro hk;have h3:=h2 0 (yh.2 hk);unfold Gm at h3;simp only [yT,ye] at h3;exact h3.1.1.1.1
  | succ k ih=>
   intro hk;have h3:=h2 (k+1) (yh.2 hk);unfold Gm at h3;have d:decide (0<k+1)=true:=yW (by omega);simp only [yT,ye,d,zS,zAG,Nat.add_sub_cancel] at h3;have h4:(nb g v).getD k 0<(nb g v).getD (k+1) 0:=h3.1.2;have:=ih (by omega);omega
 exact ⟨h.1,fun v h0 h1=>by
  refine zBL fun hl=>?_
  have h2:=grow v h0 h1 256 hl;have h3:(nb g v).getD 256 0∈nb g v:=by rw [u8,yQ hl];exact yw hl
  have h4:=(key v h0 h1 _ h3).1;have:=h.1;omega,fun v h0 h1 u hu=>(key v h0 h1 u hu).1,fun v h0 h1 u hu=>(key v h0 h1 u hu).2⟩
inductive Rc (g:List (List Int)) (inn:List Bool) (s:Int):Int -> Prop
 | start:Rc g inn s s
 | step {a b:Int} (h:Rc g inn s a) (hb:b∈nb g a) (hi:inn.getD b.toNat false=true):Rc g inn s b
section
variable {g:List (List Int)} {inn:List Bool} {s:Int}
theorem Rc.rng (G:Gr g) (h0:0<=s) (h1:s<(g.length:Int)) {v:Int} (h:Rc g inn s v):0<=v/\ v<(g.length:Int):=by
 induction h with
 | start=>exact ⟨h0,h1⟩
 | step h hb hi ih=>exact G.rng _ ih.1 ih.2 _ hb
theorem Rc.isIn (hs:inn.getD s.toNat false=true) {v:Int} (h:Rc g inn s v):inn.getD v.toNat false=true:=by
 cases h with
 | start=>exact hs
 | step h hb hi=>exact hi
theorem Rc.trans {a b:Int} (h:Rc g inn s a) (h2:Rc g inn a b):Rc g inn s b:=by
 induction h2 with
 | start=>exact h
 | step _ hb hi ih=>exact .step ih hb hi
theorem Rc.symm (G:Gr g) (h0:0<=s) (h1:s<(g.length:Int)) (hs:inn.getD s.toNat false=true) {v:Int} (h:Rc g inn s v):Rc g inn v s:=by
 induction h with
 | start=>exact .start
 | step h hb hi ih=>
  have hr:=h.rng G h0 h1;exact (Rc.step Rc.start (G.sym _ hr.1 hr.2 _ hb) (h.isIn hs)).trans ih
theorem Rc.mono {dl:List Bool} (hm: ∀ v:Int,inn.getD v.toNat false=true -> dl.getD v.toNat false=true) {v:Int} (h:Rc g inn s v):Rc g dl s v:=by
 induction h with
 | start=>exact .start
 | step h hb hi ih=>exact .step ih hb (hm _ hi)
def FO (l:List Bool):Nat:=l.countP fun b=>!b
theorem Ul: ∀ (l:List Bool) (i:Nat),i<l.length -> l.getD i false=false -> FO (l.set i true)+1=FO l
 | b::l,0,_,h=>by
  have h:b=false:=h;subst h;simp [FO,zAL]
 | b::l,i+1,hi,h=>by
  have:=Ul l i (Nat.lt_of_succ_lt_succ hi) (by simpa using h)
  show FO (b::l.set i true)+1=FO (b::l)
  unfold FO at this ⊢;rw [zAL,zAL];omega
def DM (inn:List Bool) (st:List Bool×List Int) (v:Int):List Bool×List Int:=bif inn.getD v.toNat false&&!st.1.getD v.toNat false then (st.1.set v.toNat true,st.2++[v]) else st
structure Bf (g:List (List Int)) (inn:List Bool) (s:Int) (met:List Bool) (Q P:List Int):Prop where
 len:met.length=g.length
 cnt:Q.length+FO met<=g.length
 nd:(P++Q).Nodup
 rc: ∀ v∈P++Q,Rc g inn s v
 rng: ∀ v∈P++Q,0<=v/\ v<(g.length:Int)
 met: ∀ v:Int,0<=v -> v<(g.length:Int) -> (met.getD v.toNat false=true↔v∈P++Q)
 cl: ∀ p∈P,∀ b∈nb g p,inn.getD b.toNat false=true -> b∈P++Q
 st:s∈P++Q
theorem Bf.ex (G:Gr g) {met:List Bool} {Q P:List Int} (h:Bf g inn s met Q P) {v u:Int} (hv:v∈Q) (hu:u∈nb g v):
 Bf g inn s (DM inn (met,Q) u).1 (DM inn (met,Q) u).2 P/\ (∃ t,(DM inn (met,Q) u).2=Q++t)/\ (inn.getD u.toNat false=true -> u∈P++(DM inn (met,Q) u).2)/\ 2*FO (DM inn (met,Q) u).1+(DM inn (met,Q) u).2.length<=2*FO met+Q.length:=by
 have F4:=h.rng v (zQ _ hv);have Iz:=G.rng v F4.1 F4.2 u hu;unfold DM
 dsimp only
 cases hi:inn.getD u.toNat false
 ·rw [z2,yO];exact ⟨h,⟨[],(zAK _).symm⟩,fun h=>(by cases h),ym _⟩
 ·cases hm:met.getD u.toNat false
  ·rw [zg,Bool.and_true,yV];have hn:u∉P++Q:=fun hh=>by rw [(h.met u Iz.1 Iz.2).2 hh] at hm;cases hm
   have hl:=h.len;have hc:=Ul met u.toNat (by omega) hm;have hcnt:=h.cnt;have DW: ∀ x,x∈P++(Q++[u])↔x∈P++Q∨x=u:=fun x=>by simp [or_assoc]
   refine ⟨⟨by rw [yu];exact hl,by show (Q++[u]).length+FO (met.set u.toNat true)<=_;rw [yz,zE];omega,?_,fun x hx=>?_,fun x hx=>?_,fun x Fh Gs=>?_,fun p hp b hb uo=>(DW b).2 (.inl (h.cl p hp b hb uo)),(DW s).2 (.inl h.st)⟩,⟨[u],rfl⟩,fun _=>(DW u).2 (.inr rfl),by show 2*FO (met.set u.toNat true)+(Q++[u]).length<=_;rw [yz,zE];omega⟩
   ·rw [←zAn,List.nodup_append];exact ⟨h.nd,by simp,fun a ha b hb=>by rw [yp] at hb;subst hb;exact fun e=>hn (e▸ha)⟩
   ·rcases (DW x).1 hx with hx | rfl
    ·exact h.rc x hx
    ·exact .step (h.rc v (zQ _ hv)) hu hi
   ·rcases (DW x).1 hx with hx | rfl
    ·exact h.rng x hx
    ·exact Iz
   ·rw [DW,←h.met x Fh Gs]
    by_cases e:x=u
    ·subst e;rw [u8,zd (by omega)];exact ⟨fun _=>.inr rfl,fun _=>rfl⟩
    ·rw [u8,zU (by omega),←u8];exact ⟨.inl,fun h=>h.elim id fun h=>absurd h e⟩
  ·rw [zS,zAs,yO];exact ⟨h,⟨[],by simp⟩,fun _=>(h.met u Iz.1 Iz.2).1 hm,ym _⟩
theorem Bf.exs (G:Gr g) {v:Int} {P:List Int}: ∀ (l:List Int) {met:List Bool} {Q:List Int},Bf g inn s met Q P -> v∈Q -> (∀ u∈l,u∈nb g v) ->
 Bf g inn s (l.foldl (DM inn) (met,Q)).1 (l.foldl (DM inn) (met,Q)).2 P/\ (∃ t,(l.foldl (DM inn) (met,Q)).2=Q++t)/\ (∀ u∈l,inn.getD u.toNat false=true -> u∈P++(l.foldl (DM inn) (met,Q)).2)/\ 2*FO (l.foldl (DM inn) (met,Q)).1+(l.foldl (DM inn) (met,Q)).2.length<=2*FO met+Q.length
 | [],met,Q,h,hv,hl=>⟨h,⟨[],by simp⟩,fun u hu=>absurd hu zAA,ym _⟩
 | u::l,met,Q,h,hv,hl=>by
  obtain ⟨h1,⟨t,ht⟩,h2,h3⟩:=h.ex G hv (hl u zT);obtain ⟨h4,⟨t',Tk⟩,h5,h6⟩:=Bf.exs G l h1 (by rw [ht];exact zA _ hv) fun x hx=>hl x (yx _ hx)
  refine ⟨h4,⟨t++t',?_⟩,fun x hx hi=>?_,yf h6 h3⟩
  ·show (List.foldl (DM inn) (DM inn (met,Q) u) l).2=_
   rw [Tk,ht,zAn]
  ·rcases yq.1 hx with rfl | hx
   ·show x∈P++(List.foldl (DM inn) (DM inn (met,Q) x) l).2
    rw [Tk,←zAn];exact zA _ (h2 hi)
   ·exact h5 x hx hi
theorem qe {n j:Nat} {l:List Int} {met:List Bool} {Q:List Int} (hI:inn.length=g.length) (hG:g.length<=256) (hm:met.length=g.length) (hQ:Q.length+FO met<=g.length) (hj:j<l.length) (hl:l.length<=256) (hr:0<=l.getD j 0/\ l.getD j 0<(g.length:Int)):
 D6 g s inn (n+1) (.l2 Q.length l (l.length:Int) (j:Int) met Q)=D6 g s inn n (.l2 (DM inn (met,Q) (l.getD j 0)).2.length l (l.length:Int) ((j:Int)+1) (DM inn (met,Q) (l.getD j 0)).1 (DM inn (met,Q) (l.getD j 0)).2):=by
 have r1:AL ((j:Int)+1):=A2.2 ⟨by omega,by omega⟩;have L:(1000000000000:Nat)=Ax:=rfl
 show Je n (D6 g s inn n) g s inn Q.length l (l.length:Int) (j:Int) met Q=_
 unfold Je DM;simp only [yU,yt];rw [yW (by omega),yV,yP ⟨⟨by omega,by omega⟩,by omega,by omega⟩];cases hi:inn.getD (l.getD j 0).toNat false
 ·rw [yO,z2,yO,yP r1]
 ·rw [yV,zJ,yP ⟨hr,by omega⟩];cases ht:met.getD (l.getD j 0).toNat false
  ·have hc:=Ul met (l.getD j 0).toNat (by omega) ht;rw [zg,yV,yV,yP ⟨⟨⟨trivial,rfl⟩,⟨trivial,trivial⟩,by rw [zE,←L];omega⟩,r1⟩,yz]
  ·rw [zS,yO,yO,yP r1]
theorem dU (hI:inn.length=g.length) (G:Gr g) {v:Int} {P:List Int} {l:List Int} (hl:l.length<=256) (Xi: ∀ u∈l,u∈nb g v): ∀ (k j n:Nat) {met:List Bool} {Q:List Int},j+k=l.length -> Bf g inn s met Q P -> v∈Q ->
 D6 g s inn (n+k) (.l2 Q.length l (l.length:Int) (j:Int) met Q)=D6 g s inn n (.l2 ((l.drop j).foldl (DM inn) (met,Q)).2.length l (l.length:Int) (l.length:Int) ((l.drop j).foldl (DM inn) (met,Q)).1 ((l.drop j).foldl (DM inn) (met,Q)).2)
 | 0,j,n,met,Q,e,h,hv=>by
  have e:j=l.length:=by omega
  subst e;rw [List.drop_length];rfl
 | k+1,j,n,met,Q,e,h,hv=>by
  have hj:j<l.length:=by omega
  have hu:l.getD j 0∈l:=by rw [u8,yQ hj];exact yw hj
  have F4:=h.rng v (zQ _ hv);have hr:=G.rng v F4.1 F4.2 _ (Xi _ hu);obtain ⟨h1,⟨t,ht⟩,_,_⟩:=h.ex G hv (Xi _ hu);rw [←zN,qe hI G.len h.len h.cnt hj hl hr];have:=dU hI G hl Xi k (j+1) n (by omega) h1 (by rw [ht];exact zA _ hv);have e1:(((j+1:Nat)):Int)=(j:Int)+1:=by omega
  rw [e1] at this;rw [this]
  have e2:l.drop j=l.getD j 0::l.drop (j+1):=by
   rw [zF hj,u8,yQ hj];rfl
  rw [e2];rfl
def La (g:List (List Int)) (inn:List Bool) (s:Int) (P l:List Int):Prop:=(P++l).Nodup/\ (∀ v,v∈P++l↔Rc g inn s v)
theorem Bf.done {met:List Bool} {P:List Int} (h:Bf g inn s met [] P):La g inn s P []:=by
 refine ⟨h.nd,fun v=>⟨h.rc v,fun hv=>?_⟩⟩
 induction hv with
 | start=>exact h.st
 | step _ hb hi ih=>exact h.cl _ (by simpa using ih) _ hb hi
theorem Ae.map {R:Type} {f:Nat -> Option R} {Q:R -> Prop} {Q':R -> Prop} {m:R -> R} (h:Ae f Q) (hq: ∀ r,Q r -> Q' (m r)):Ae (fun n=>(f n).map m) Q':=by
 obtain ⟨N,h⟩:=h;refine ⟨N,fun n hn=>?_⟩;obtain ⟨r,h1,h2⟩:=h n hn;exact ⟨m r,by show (f n).map m=_;rw [h1];rfl,hq r h2⟩
theorem xS (G:Gr g) (hI:inn.length=g.length): ∀ (z:Nat) (met:List Bool) (Q P:List Int),2*FO met+Q.length=z -> Bf g inn s met Q P -> Ae (fun n=>D6 g s inn n (.l1 Q.length met Q)) (La g inn s P):=by
 intro z
 induction z using Nat.strongRecOn with
 | _ z ih=>
  intro met Q P hz h;cases Q with
  | nil=>
   refine Ev.p (r:=[]) ⟨1,fun n hn=>?_⟩ h.done;obtain ⟨n,rfl⟩: ∃ k,n=k+1:=⟨n-1,by omega⟩
   show Ly n (D6 g s inn n) g s inn 0 met []=_
   unfold Ly;rw [yS (by omega),yO]
  | cons v q=>
   have hv:v∈v::q:=zT;have F4:=h.rng v (zQ _ hv);obtain ⟨h1,⟨t,ht⟩,h2,h3⟩:=h.exs G (nb g v) hv (fun u hu=>hu);have hl:=G.row v F4.1 F4.2
   generalize D9:(nb g v).foldl (DM inn) (met,v::q)=st at h1 ht h2 h3
   obtain ⟨Nm,Q'⟩:=st;have ht:Q'=v::(q++t):=ht;subst ht
   have hB:Bf g inn s Nm (q++t) (P++[v]):=by
    have e:P++[v]++(q++t)=P++(v::(q++t)):=by simp
    have hc:=h1.cnt;simp only [zY] at hc;refine ⟨h1.len,by omega,by rw [e];exact h1.nd,by rw [e];exact h1.rc,by rw [e];exact h1.rng,by rw [e];exact h1.met,?_,by rw [e];exact h1.st⟩;intro p hp b hb hi;rw [e];rcases zP.1 hp with hp | hp
    ·exact h1.cl p hp b hb hi
    ·rw [yp] at hp;subst hp;exact h2 b hb hi
   have rU:2*FO Nm+(q++t).length<z:=by
    simp only [zY] at h3;simp only [yz] at h3 ⊢;have:(v::q).length=q.length+1:=rfl;omega
   have IH:=ih _ rU Nm (q++t) (P++[v]) rfl hB
   have key:Ae (fun n=>D6 g s inn n (.l2 (v::(q++t)).length (nb g v) ((nb g v).length:Int) ((nb g v).length:Int) Nm (v::(q++t)))) (La g inn s (P++[v])):=by
    have g0:(0:Int)<=1/\ (1:Int)<=(((v::(q++t)).length:Nat):Int)/\ (((v::(q++t)).length:Nat):Int)<=(((v::(q++t)).length:Nat):Int):=⟨by omega,by rw [zY];omega,zO _⟩;cases XQ:q++t with
    | nil=>
     rw [XQ] at hB;refine Ev.p (r:=[]) ⟨2,fun n hn=>?_⟩ hB.done;obtain ⟨n,rfl⟩: ∃ k,n=k+2:=⟨n-2,by omega⟩
     show Je (n+1) (D6 g s inn (n+1)) g s inn 1 (nb g v) ((nb g v).length:Int) ((nb g v).length:Int) Nm [v]=_
     unfold Je;rw [yS (by omega),yO];rfl
    | cons a r=>
     rw [←XQ];refine Ae.step 1 (fun n=>?_) IH
     show Je n (D6 g s inn n) g s inn (v::(q++t)).length (nb g v) ((nb g v).length:Int) ((nb g v).length:Int) Nm (v::(q++t))=_
     unfold Je;have e0:((v::(q++t)).length-1==0)=false:=by rw [XQ];rfl
     rw [yS (by omega),yO,e0,yO,yP g0,yP (by rw [zY];omega)];rfl
   have ql:Ae (fun n=>D6 g s inn n (.l2 (v::q).length (nb g v) ((nb g v).length:Int) 0 met (v::q))) (La g inn s (P++[v])):=by
    refine Ae.step (nb g v).length (fun n=>?_) key;have:=dU hI G hl (fun u hu=>hu) (nb g v).length 0 n (by omega) h hv;rw [zAr,D9] at this;exact this
   have m: ∀ r:List Int,La g inn s (P++[v]) r -> La g inn s P (v::r):=fun r hr=>by
    have e:P++[v]++r=P++(v::r):=by simp
    unfold La at hr ⊢;rw [e] at hr;exact hr
   refine Ae.step 1 (fun n=>?_) (Ae.map ql m)
   show Ly n (D6 g s inn n) g s inn (v::q).length met (v::q)=_
   unfold Ly;have g1:((0:Int)<=0/\ 0<(((v::q).length:Nat):Int))/\ 0+0<(v::q).length:=by rw [zY];omega
   rw [yW (by rw [zY];omega),yV,yP g1];have e1:(v::q).getD (0+0) 0=v:=rfl;rw [e1,yP ⟨g1.1,g1.2,F4⟩];rfl
theorem V0 (G:Gr g) (hI:inn.length=g.length) (h0:0<=s) (h1:s<(g.length:Int)):Ae (fun n=>Ft n g s inn) (fun l=>l.Nodup/\ ∀ v,v∈l↔Rc g inn s v):=by
 have Ay:((List.replicate g.length false).set s.toNat true).length=g.length:=by simp
 have hG:=G.len;have hc:=Ul (List.replicate g.length false) s.toNat (by rw [yi];omega) (by simp [u8,zj];split <;> rfl)
 have LA:FO (List.replicate g.length false)<=g.length:=by
  have:=zAk (p:=fun b=>!b) (l:=List.replicate g.length false);rw [yi] at this;exact this
 have hB:Bf g inn s ((List.replicate g.length false).set s.toNat true) [s] []:=by
  refine ⟨Ay,by rw [zE];omega,by simp,fun v hv=>?_,fun v hv=>?_,fun v K2 B3=>?_,fun p hp=>absurd hp zAA,by simp⟩
  ·have:v=s:=by simpa using hv
   subst this;exact .start
  ·have:v=s:=by simpa using hv
   subst this;exact ⟨h0,h1⟩
  ·by_cases e:v=s
   ·subst e;rw [u8,zd (by rw [yi];omega)];simp
   ·rw [u8,zU (by omega),zj];simp only [zw,yp,e,iff_false];split <;> simp
 have:=xS G hI _ _ _ _ rfl hB;refine (Ae.mono (Q':=fun l=>l.Nodup/\ ∀ v,v∈l↔Rc g inn s v) this (fun l (hl:La g inn s [] l)=>(⟨hl.1,hl.2⟩:l.Nodup/\ ∀ v,v∈l↔Rc g inn s v))).eq fun n=>?_
 unfold Ft Vz;rw [yP ⟨⟨rfl,by omega,by omega⟩,⟨h0,h1⟩,by simp only [yi];omega⟩,yt];rfl
end
end Go.Proofs.YtgkhhfnhacibcaaGreatDoor
namespace Go.Proofs.YtgkhhfnhacibcaaGreatDoor
abbrev zAe:=@BitVec.toNat_ofInt
abbrev zAt:=@Nat.pow_le_pow_right
abbrev zBH:=@Nat.testBit_lt_two_pow
abbrev zBT:=@Nat.testBit_two_pow
end Go.Proofs.YtgkhhfnhacibcaaGreatDoor
namespace Go.Proofs.YtgkhhfnhacibcaaGreatDoor
def tb (x:Int) (i:Nat):Bool:=(BitVec.ofInt 64 x).getLsbD i
def B4 (x:Int):Prop:=-9223372036854775808<=x/\ x<=9223372036854775807
theorem Pu (x:Int):BitVec.ofInt 64 (IntKind.i64.wrap x)=BitVec.ofInt 64 x:=by
 apply BitVec.eq_of_toNat_eq;rw [zAe,zAe,IntKind.wrap_i64]
 congr 1
 omega
theorem S7 (y:BitVec 64):BitVec.ofInt 64 (y.toNat:Int)=y:=by
 rw [zAq];simp
theorem Re (x:Int):B4 (IntKind.i64.wrap x):=by
 rw [IntKind.wrap_i64];constructor <;> omega
theorem FP (op:BinOp) (a b:Int):B4 (bits op .i64 a b):=Re _
theorem JS (a b:Int) (i:Nat):tb (bits .or .i64 a b) i=(tb a i||tb b i):=by
 show (BitVec.ofInt 64 (IntKind.i64.wrap ((BitVec.ofInt 64 a||| BitVec.ofInt 64 b).toNat:Int))).getLsbD i=_
 rw [Pu,S7,BitVec.getLsbD_or];rfl
theorem Ia (a b:Int) (i:Nat):tb (bits .and .i64 a b) i=(tb a i&&tb b i):=by
 show (BitVec.ofInt 64 (IntKind.i64.wrap ((BitVec.ofInt 64 a&&& BitVec.ofInt 64 b).toNat:Int))).getLsbD i=_
 rw [Pu,S7,BitVec.getLsbD_and];rfl
theorem IZ {x:Int} {i:Nat} (h:64<=i):tb x i=false:=BitVec.getLsbD_of_ge _ _ h
theorem JT (a b:Int) (i:Nat):tb (bits .andNot .i64 a b) i=(tb a i&&!tb b i):=by
 show (BitVec.ofInt 64 (IntKind.i64.wrap ((BitVec.ofInt 64 a&&& ~~~ BitVec.ofInt 64 b).toNat:Int))).getLsbD i=_
 rw [Pu,S7,BitVec.getLsbD_and,BitVec.getLsbD_not]
 by_cases h:i<64
 ·simp [h,tb]
 ·have h:64<=i:=by omega
  have:=IZ (x:=a) h;unfold tb at*;rw [this];simp
theorem Rp (a:Int) {i:Nat} (h:i<64):tb (bits .xor .i64 (-1) a) i= !tb a i:=by
 show (BitVec.ofInt 64 (IntKind.i64.wrap ((BitVec.ofInt 64 (-1) ^^^ BitVec.ofInt 64 a).toNat:Int))).getLsbD i=_
 rw [Pu,S7,BitVec.getLsbD_xor];have:BitVec.ofInt 64 (-1)=BitVec.allOnes 64:=by decide
 rw [this,BitVec.getLsbD_allOnes];simp [h,tb]
theorem Ro (i:Nat):tb 0 i=false:=by
 unfold tb;rw [show BitVec.ofInt 64 0=0#64 from rfl];simp
theorem Ib {i:Nat}: ¬ tb 0 i=true:=by rw [Ro];decide
theorem NH {x y:Int} (hx:B4 x) (hy:B4 y) (h: ∀ i,i<64 -> tb x i=tb y i):x=y:=by
 have e:BitVec.ofInt 64 x=BitVec.ofInt 64 y:=BitVec.eq_of_getLsbD_eq fun i hi=>h i hi
 have e2:=congrArg BitVec.toNat e;rw [zAe,zAe] at e2;unfold B4 at*;omega
theorem Hj (m i:Nat) (hi:i<64):tb (m:Int) i=m.testBit i:=by
 unfold tb;rw [zAq,BitVec.getLsbD_ofNat];simp [hi]
def Sm (k:Nat) (x:Int):Prop:=0<=x/\ x<2 ^ k
theorem Ko {k:Nat} (hk:k<=62):(2:Int) ^ k<=4611686018427387904:=by
 have:(2:Nat) ^ k<=2 ^ 62:=zAt (by decide) hk;have h:((2 ^ k:Nat):Int)<=((2 ^ 62:Nat):Int):=by exact_mod_cast this
 simpa using h
theorem Sm.in64 {k:Nat} {x:Int} (hk:k<=62) (h:Sm k x):B4 x:=by
 have:=Ko hk;obtain ⟨h1,h2⟩:=h;constructor <;> omega
theorem Sm.hi {k:Nat} {x:Int} (h:Sm k x) {i:Nat} (hi:k<=i):tb x i=false:=by
 rcases zt i 64 with Gw | Gw
 ·obtain ⟨m,rfl⟩:=zAJ h.1;rw [Hj m i Gw];apply zBH;have h2:(m:Int)<2 ^ k:=h.2;have h3:m<2 ^ k:=by exact_mod_cast h2
  exact yc h3 (zAt (by decide) hi)
 ·exact IZ Gw
theorem VY {k:Nat} (hk:k<=62) {x:Int} (hx:B4 x) (h: ∀ i,k<=i -> i<64 -> tb x i=false):Sm k x:=by
 have hy:(BitVec.ofInt 64 x).toNat<2 ^ k:=by
  apply Nat.lt_pow_two_of_testBit;intro i hi;rcases zt i 64 with Gw | Gw
  ·have:=h i hi Gw;unfold tb at this
   rwa [BitVec.getLsbD] at this
  ·exact zBH (yc (BitVec.isLt _) (zAt (by decide) Gw))
 rw [zAe] at hy;have h1:=Ko hk;have h2:((2 ^ k:Nat):Int)=(2:Int) ^ k:=by simp
 unfold B4 at hx;unfold Sm;omega
theorem jV {s i:Nat} (hi:i<64):tb ((2 ^ s:Nat):Int) i=decide (s=i):=by
 rw [Hj _ _ hi,zBT]
theorem KV {x:Int} (hx:B4 x):x=0↔∀ i,i<64 -> tb x i=false:=
 ⟨fun h i _=>by rw [h];exact Ro i,fun h=>NH hx ⟨by decide,by decide⟩ fun i hi=>by rw [h i hi,Ro]⟩
theorem FC {x:Int} (hx:B4 x):x≠0↔∃ i,i<64/\ tb x i=true:=by
 rw [ne_eq,KV hx];constructor
 ·intro h;refine Classical.byContradiction fun h2=>h fun i hi=>?_
  cases hb:tb x i with
  | false=>rfl
  | true=>exact absurd ⟨i,hi,hb⟩ h2
 ·rintro ⟨i,hi,hb⟩ h;rw [h i hi] at hb;cases hb
theorem aa {k s:Nat} {x:Int} (h:Sm k x) (hk:k<=62) (hs:s<64):bits .and .i64 (x/2 ^ s) 1=if tb x s then 1 else 0:=by
 obtain ⟨m,rfl⟩:=zAJ h.1;have hm:=h.2;have YF:=Ko hk;have e:(m:Int)/2 ^ s=((m/2 ^ s:Nat):Int):=by simp
 have key: ∀ t,t<64 -> tb (bits .and .i64 ((m:Int)/2 ^ s) 1) t=(decide (t=0)&&tb (m:Int) s):=fun t ht=>by
  rw [Ia,e,Hj _ _ ht,Hj m s hs,show (1:Int)=((1:Nat):Int) from rfl,Hj 1 t ht,Nat.testBit_div_two_pow]
  by_cases h0:t=0
  ·subst h0;simp
  ·rw [yS h0,z2]
   have:Nat.testBit 1 t=false:=by
    rw [show (1:Nat)=2 ^ 0 from rfl,zBT];simpa using fun h=>h0 h.symm
   rw [this,zAs]
 cases hb:tb (m:Int) s with
 | true=>
  rw [yP rfl];refine NH (FP _ _ _) ⟨by decide,by decide⟩ fun t ht=>?_
  rw [key t ht,hb,show (1:Int)=((1:Nat):Int) from rfl,Hj 1 t ht,Bool.and_true]
  by_cases h0:t=0
  ·subst h0;rfl
  ·rw [yS h0];rw [show (1:Nat)=2 ^ 0 from rfl,zBT];symm;simpa using fun h=>h0 h.symm
 | false=>
  rw [yb zAN];exact (KV (FP _ _ _)).2 fun t ht=>by rw [key t ht,hb,zAs]
theorem kU {k s:Nat} {x:Int} (h:Sm k x) (hk:k<=62) (hs:s<64):(bits .and .i64 (x/2 ^ s) 1==1)=tb x s:=by
 rw [aa h hk hs];cases tb x s <;> rfl
theorem kT {k s:Nat} {x:Int} (h:Sm k x) (hk:k<=62) (hs:s<64):(bits .and .i64 (x/2 ^ s) 1==0)= !tb x s:=by
 rw [aa h hk hs];cases tb x s <;> rfl
end Go.Proofs.YtgkhhfnhacibcaaGreatDoor
namespace Go.Proofs.YtgkhhfnhacibcaaGreatDoor
open Go.RowKit
theorem TI {S R:Type} (m:Nat -> S -> Int -> Option R) (len N0:Nat) (Inv:Nat -> S -> Prop)
 (h: ∀ (n i:Nat) (s:S),N0<=n -> i<len -> Inv i s -> ∃ s',m (n+1) s (i:Int)=m n s' ((i:Int)+1)/\ Inv (i+1) s'):
 ∀ (k i n:Nat) (s:S),i+k=len -> N0<=n -> Inv i s -> ∃ s',m (n+k) s (i:Int)=m n s' (len:Int)/\ Inv len s'
 | 0,i,n,s,e,_,hI=>by
  have:i=len:=by omega
  subst this;exact ⟨s,rfl,hI⟩
 | k+1,i,n,s,e,hn,hI=>by
  obtain ⟨s',h1,h2⟩:=h (n+k) i s (by omega) (by omega) hI;obtain ⟨s2,h3,h4⟩:=TI m len N0 Inv h k (i+1) n s' (by omega) hn h2;refine ⟨s2,?_,h4⟩;rw [show n+(k+1)=n+k+1 by omega,h1,←h3];rfl
theorem Gn {S R:Type} (m:Nat -> S -> Int -> Option R) (len N0:Nat) (Inv:Nat -> S -> Prop)
 (h: ∀ (n i:Nat) (s:S),N0<=n -> i<len -> Inv i s -> ∃ s',m (n+1) s (i:Int)=m n s' ((i:Int)+1)/\ Inv (i+1) s')
 {n:Nat} {s:S} (hn:N0+len<=n) (hI:Inv 0 s): ∃ n' s',N0<=n'/\ n'+len=n/\ m n s 0=m n' s' (len:Int)/\ Inv len s':=by
 obtain ⟨s',h1,h2⟩:=TI m len N0 Inv h len 0 (n-len) s (by omega) (by omega) hI;rw [show n-len+len=n by omega] at h1;exact ⟨n-len,s',by omega,by omega,h1,h2⟩
structure Bs (c:AB) (k:Nat) (pos:List Int):Prop where
 cells: ∀ a,a<c.cells.length -> 0<=c.cells.getD a 0/\ c.cells.getD a 0<(pos.length:Int)
 len:c.cells.length<=256
 sm: ∀ i,i<pos.length -> Sm k (pos.getD i 0)
 k:k<=16
def AY (c:AB) (pos:List Int) (a:Nat):Int:=pos.getD (c.cells.getD a 0).toNat 0
def Kb (x:Int):Bool:=bits .and .i64 x (x-1)==0
section
variable {c:AB} {k:Nat} {pos lost:List Int} {q:AA}
theorem Bs.at (W:Bs c k pos) {a:Nat} (ha:a<c.cells.length):Sm k (AY c pos a):=by
 have:=W.cells a ha;exact W.sm _ (by omega)
theorem Bs.r64 (W:Bs c k pos) {a:Nat} (ha:a<c.cells.length):AL (AY c pos a-1)/\ AL ((a:Int)+1):=by
 have h:=W.at ha;have h2:=Ko (k:=k) (yf W.k (by decide));have h3:=W.len;obtain ⟨h0,h1⟩:=h;exact ⟨A2.2 ⟨by omega,by omega⟩,A2.2 ⟨by omega,by omega⟩⟩
theorem Jo {n:Nat} {cell ss:Int} (h0:0<=cell) (h1:cell<(pos.length:Int)) (hl:lost.length=pos.length):
 ∃ l',DA n cell ss c q pos pos.length lost=some l'/\ l'.length=pos.length/\ ∀ j s,tb (l'.getD j 0) s=(tb (lost.getD j 0) s||(decide (j=cell.toNat)&&(tb (pos.getD j 0) s&&tb ss s))):=by
 refine ⟨lost.set cell.toNat (bits .or .i64 (lost.getD cell.toNat 0) (bits .and .i64 (pos.getD cell.toNat 0) ss)),?_,by rw [yu];exact hl,fun j s=>?_⟩
 ·unfold DA Wl;simp only [yt];rw [yP ⟨⟨h0,h1⟩,by omega,h0,h1⟩]
 ·by_cases hj:j=cell.toNat
  ·subst hj;rw [u8,zd (by omega),z8,JS,Ia,yW rfl,zJ]
  ·rw [u8,zU (fun e=>hj e.symm),←u8,yS hj,z2,zz]
theorem WP {n:Nat} {cell:Int} (h0:0<=cell) (h1:cell<(pos.length:Int)) (hl:lost.length=pos.length):
 ∃ l',Fx n cell c q pos pos.length lost=some l'/\ l'.length=pos.length/\ ∀ j s,tb (l'.getD j 0) s=(tb (lost.getD j 0) s||(decide (j=cell.toNat)&&(tb (pos.getD j 0) s&&!tb c.set s))):=by
 refine ⟨lost.set cell.toNat (bits .or .i64 (lost.getD cell.toNat 0) (bits .andNot .i64 (pos.getD cell.toNat 0) c.set)),?_,by rw [yu];exact hl,fun j s=>?_⟩
 ·unfold Fx WR;simp only [yt];rw [yP ⟨⟨h0,h1⟩,by omega,h0,h1⟩]
 ·by_cases hj:j=cell.toNat
  ·subst hj;rw [u8,zd (by omega),z8,JS,JT,yW rfl,zJ]
  ·rw [u8,zU (fun e=>hj e.symm),←u8,yS hj,z2,zz]
def Sg (c:AB) (pos:List Int) (a s:Nat):Prop:=Kb (AY c pos a)=true/\ tb (AY c pos a) s=true
def B1 (c:AB) (pos lost:List Int) (i:Nat) (D:Nat -> Nat -> Prop) (l:List Int):Prop:=
 l.length=pos.length/\ ∀ j s,tb (l.getD j 0) s=true↔tb (lost.getD j 0) s=true∨∃ a,a<i/\ (c.cells.getD a 0).toNat=j/\ tb (AY c pos a) s=true/\ D a s
theorem B1.step {D:Nat -> Nat -> Prop} {i:Nat} {l l':List Int} (h:B1 c pos lost i D l) (hl:l'.length=pos.length)
 (h1: ∀ j s,tb (l'.getD j 0) s=true↔tb (l.getD j 0) s=true∨((c.cells.getD i 0).toNat=j/\ tb (AY c pos i) s=true/\ D i s)):B1 c pos lost (i+1) D l':=by
 refine ⟨hl,fun j s=>?_⟩;rw [h1,h.2];constructor
 ·rintro ((h | ⟨a,ha,h⟩) | h)
  ·exact .inl h
  ·exact .inr ⟨a,by omega,h⟩
  ·exact .inr ⟨i,by omega,h⟩
 ·rintro (h3 | ⟨a,ha,h3⟩)
  ·exact .inl (.inl h3)
  ·rcases yd.1 ha with ha | rfl
   ·exact .inl (.inr ⟨a,ha,h3⟩)
   ·exact .inr h3
theorem B1.zero {D:Nat -> Nat -> Prop} (hl:lost.length=pos.length):B1 c pos lost 0 D lost:=
 ⟨hl,fun j s=>⟨.inl,fun h=>h.elim id fun ⟨a,ha,_⟩=>absurd ha (yg a)⟩⟩
def Mx (c:AB) (pos:List Int) (a s:Nat):Prop:=∃ b,b<c.cells.length/\ b≠a/\ Sg c pos b s
theorem wL {n:Nat} (W:Bs c k pos) (hl:lost.length=pos.length) (hn:2*c.cells.length+2<=n):
 ∃ l,OZ n c q pos pos.length lost=some (true,l)/\ B1 c pos lost c.cells.length (Mx c pos) l:=by
 have lt: ∀ i,i<c.cells.length -> ((i:Nat):Int)<((c.cells.length:Nat):Int):=fun i hi=>by omega
 have S:=Gn (fun n (s:Int×Int) i=>JD c q pos pos.length lost n (.l1 s.1 s.2 i)) c.cells.length (c.cells.length+2)
  (fun i s=>(∀ j,tb s.1 j=true↔∃ a,a<i/\ Sg c pos a j)/\ (∀ j,tb s.2 j=true↔∃ a b,a<b/\ b<i/\ Sg c pos a j/\ Sg c pos b j))
  (fun n i s _ hi hI=>?_) (n:=n) (s:=(0,0)) (by omega) ?_
 ·obtain ⟨n1,⟨o,t⟩,F6,_,e1,ho,ht⟩:=S;obtain ⟨n2,rfl⟩: ∃ n2,n1=n2+1:=⟨n1-1,by omega⟩
  have T:=Gn (fun n (s:List Int) i=>JD c q pos pos.length lost n (.l2 o t i s)) c.cells.length 1
   (fun i s=>B1 c pos lost i (Mx c pos) s) (fun n i s HQ hi hI=>?_) (n:=n2) (s:=lost) (by omega) (B1.zero hl)
  ·obtain ⟨n3,l,QW,_,e2,hL⟩:=T;obtain ⟨n4,rfl⟩: ∃ n4,n3=n4+1:=⟨n3-1,by omega⟩;refine ⟨l,?_,hL⟩;unfold OZ gM;refine e1.trans ?_
   show Qz n2 (JD c q pos pos.length lost n2) c q pos pos.length lost o t (c.cells.length:Int)=_
   unfold Qz;rw [yS (by omega),yO];refine e2.trans ?_
   show Qy n4 (JD c q pos pos.length lost n4) c q pos pos.length lost o t (c.cells.length:Int) l=_
   unfold Qy;rw [yS (by omega),yO]
  ·have hc:=W.cells i hi;have hr:=W.r64 hi
   show ∃ s',Qy n (JD c q pos pos.length lost n) c q pos pos.length lost o t (i:Int) s=_/\ _
   unfold Qy;rw [yW (lt i hi),yV];simp only [yU];rw [yP ⟨⟨by omega,lt i hi⟩,hc,hr.1⟩];have sg:(bits .and .i64 (pos.getD (c.cells.getD i 0).toNat 0) (pos.getD (c.cells.getD i 0).toNat 0-1)==0)=Kb (AY c pos i):=rfl;rw [sg];cases hs:Kb (AY c pos i)
   ·rw [yO];obtain ⟨l',h1,h2,h3⟩:=Jo (n:=n) (ss:=o) (c:=c) (q:=q) hc.1 hc.2 hI.1;rw [h1,yX,yP hr.2];refine ⟨l',rfl,hI.step h2 fun j x=>?_⟩;rw [h3,yk,yT,yT,ye,ho];constructor
    ·rintro (h | ⟨rfl,h4,b,hb,h5⟩)
     ·exact .inl h
     ·refine .inr ⟨rfl,h4,b,hb,?_,h5⟩;rintro rfl;rw [h5.1] at hs;cases hs
    ·rintro (h | ⟨rfl,h4,b,hb,_,h5⟩)
     ·exact .inl h
     ·exact .inr ⟨rfl,h4,b,hb,h5⟩
   ·rw [yV];obtain ⟨l',h1,h2,h3⟩:=Jo (n:=n) (ss:=bits .or .i64 (bits .andNot .i64 o (pos.getD (c.cells.getD i 0).toNat 0)) t) (c:=c) (q:=q) hc.1 hc.2 hI.1;rw [h1,yX,yP hr.2];refine ⟨l',rfl,hI.step h2 fun j x=>?_⟩;rw [h3,yk,yT,yT,ye,JS,JT,yk,yT,ht];constructor
    ·rintro (h | ⟨rfl,h4,⟨_,h5⟩ | ⟨x1,y1,h6,h7,h8,h9⟩⟩)
     ·exact .inl h
     ·rw [h4] at h5;cases h5
     ·refine .inr ⟨rfl,h4,?_⟩
      by_cases e:x1=i
      ·exact ⟨y1,h7,by omega,h9⟩
      ·exact ⟨x1,by omega,e,h8⟩
    ·rintro (h | ⟨rfl,h4,b,hb,h5,h6⟩)
     ·exact .inl h
     ·refine .inr ⟨rfl,h4,.inr ?_⟩;rcases Nat.lt_or_gt_of_ne h5 with h5 | h5
      ·exact ⟨b,i,h5,hi,h6,hs,h4⟩
      ·exact ⟨i,b,h5,hb,⟨hs,h4⟩,h6⟩
 ·obtain ⟨o,t⟩:=s;obtain ⟨h1,h2⟩:=hI;simp only at h1 h2;have hc:=W.cells i hi;have hr:=W.r64 hi
  show ∃ s',Qz n (JD c q pos pos.length lost n) c q pos pos.length lost o t (i:Int)=_/\ _
  unfold Qz;rw [yW (lt i hi),yV];simp only [yU];rw [yP ⟨⟨by omega,lt i hi⟩,hc,hr.1⟩];have sg:(bits .and .i64 (pos.getD (c.cells.getD i 0).toNat 0) (pos.getD (c.cells.getD i 0).toNat 0-1)==0)=Kb (AY c pos i):=rfl;rw [sg];cases hs:Kb (AY c pos i)
  ·rw [yO,yP hr.2];refine ⟨(o,t),rfl,fun j=>?_,fun j=>?_⟩
   ·rw [h1];constructor
    ·rintro ⟨a,ha,h⟩;exact ⟨a,by omega,h⟩
    ·rintro ⟨a,ha,h⟩;rcases yd.1 ha with ha | rfl
     ·exact ⟨a,ha,h⟩
     ·rw [h.1] at hs;cases hs
   ·rw [h2];constructor
    ·rintro ⟨a,b,HU,hb,h⟩;exact ⟨a,b,HU,by omega,h⟩
    ·rintro ⟨a,b,HU,hb,h⟩;rcases yd.1 hb with hb | rfl
     ·exact ⟨a,b,HU,hb,h⟩
     ·rw [h.2.1] at hs;cases hs
  ·rw [yV,yP hr.2];refine ⟨(bits .or .i64 o (AY c pos i),bits .or .i64 t (bits .and .i64 o (AY c pos i))),rfl,fun j=>?_,fun j=>?_⟩
   ·rw [JS,yk,h1];constructor
    ·rintro (⟨a,ha,h⟩ | h)
     ·exact ⟨a,by omega,h⟩
     ·exact ⟨i,by omega,hs,h⟩
    ·rintro ⟨a,ha,h⟩;rcases yd.1 ha with ha | rfl
     ·exact .inl ⟨a,ha,h⟩
     ·exact .inr h.2
   ·rw [JS,Ia,yk,yT,h1,h2];constructor
    ·rintro (⟨a,b,HU,hb,h⟩ | ⟨⟨a,ha,h⟩,h3⟩)
     ·exact ⟨a,b,HU,by omega,h⟩
     ·exact ⟨a,i,ha,by omega,h,hs,h3⟩
    ·rintro ⟨a,b,HU,hb,h,h3⟩;rcases yd.1 hb with hb | rfl
     ·exact .inl ⟨a,b,HU,hb,h,h3⟩
     ·exact .inr ⟨⟨a,HU,h⟩,h3.2⟩
 ·exact ⟨fun j=>⟨fun h=>absurd h Ib,fun ⟨a,ha,_⟩=>absurd ha (yg a)⟩,fun j=>⟨fun h=>absurd h Ib,fun ⟨a,b,_,hb,_⟩=>absurd hb (yg b)⟩⟩
end
end Go.Proofs.YtgkhhfnhacibcaaGreatDoor
namespace Go.Proofs
open Go.Shelf
def Tryz.lays189_ren:Go.Shelf.Ren:=⟨fun | 189=>133 | 125=>135 | 257=>134 | 128=>145 | 129=>146 | 294=>136 | 295=>137 | 296=>138 | 297=>139 | 298=>140 | 299=>141 | 216=>142 | 300=>143 | 301=>144 | 328=>147 | 329=>148 | 330=>149 | 331=>150 | 332=>151 | 215=>152 | 343=>153 | n=>n,fun | 28=>22 | 3=>3 | 46=>41 | 0=>0 | 51=>149 | 53=>66 | 4=>4 | 183=>158 | 182=>157 | 131=>161 | 5=>5 | 9=>9 | 218=>163 | 222=>167 | 228=>169 | 229=>116 | n=>n,fun | n=>n⟩
theorem Tryz.lays189:Go.Proofs.Lays.n189 Tryz.prog Tryz.lays189_ren:={
 mixed:=by kernel_rfl
 f125:=Tryz.func135.trans (congrArg some (by kernel_rfl))
 f128:=Tryz.func145.trans (congrArg some (by kernel_rfl))
 f129:=Tryz.func146.trans (congrArg some (by kernel_rfl))
 f189:=Tryz.func133.trans (congrArg some (by kernel_rfl))
 f215:=Tryz.func152.trans (congrArg some (by kernel_rfl))
 f216:=Tryz.func142.trans (congrArg some (by kernel_rfl))
 f257:=Tryz.func134.trans (congrArg some (by kernel_rfl))
 f294:=Tryz.func136.trans (congrArg some (by kernel_rfl))
 f295:=Tryz.func137.trans (congrArg some (by kernel_rfl))
 f296:=Tryz.func138.trans (congrArg some (by kernel_rfl))
 f297:=Tryz.func139.trans (congrArg some (by kernel_rfl))
 f298:=Tryz.func140.trans (congrArg some (by kernel_rfl))
 f299:=Tryz.func141.trans (congrArg some (by kernel_rfl))
 f300:=Tryz.func143.trans (congrArg some (by kernel_rfl))
 f301:=Tryz.func144.trans (congrArg some (by kernel_rfl))
 f328:=Tryz.func147.trans (congrArg some (by kernel_rfl))
 f329:=Tryz.func148.trans (congrArg some (by kernel_rfl))
 f330:=Tryz.func149.trans (congrArg some (by kernel_rfl))
 f331:=Tryz.func150.trans (congrArg some (by kernel_rfl))
 f332:=Tryz.func151.trans (congrArg some (by kernel_rfl))
 f343:=Tryz.func153.trans (congrArg some (by kernel_rfl))
 t0:=Tryz.underlying0
 a0:=Tryz.isAgg0
 z0:=Tryz.sizeOf0
 v0:=Tryz.zeroValue0
 t3:=Tryz.underlying3
 a3:=Tryz.isAgg3
 z3:=Tryz.sizeOf3
 v3:=Tryz.zeroValue3
 t4:=Tryz.underlying4
 a4:=Tryz.isAgg4
 z4:=Tryz.sizeOf4
 v4:=Tryz.zeroValue4
 t5:=Tryz.underlying5
 a5:=Tryz.isAgg5
 z5:=Tryz.sizeOf5
 v5:=Tryz.zeroValue5
 t9:=Tryz.underlying9
 a9:=Tryz.isAgg9
 z9:=Tryz.sizeOf9
 v9:=Tryz.zeroValue9
 t28:=Tryz.underlying22
 a28:=Tryz.isAgg22
 z28:=Tryz.sizeOf22
 v28:=Tryz.zeroValue22
 t46:=Tryz.underlying41
 a46:=Tryz.isAgg41
 z46:=Tryz.sizeOf41
 v46:=Tryz.zeroValue41
 t51:=Tryz.underlying149
 a51:=Tryz.isAgg149
 z51:=Tryz.sizeOf149
 v51:=Tryz.zeroValue149
 t53:=Tryz.underlying66
 a53:=Tryz.isAgg66
 z53:=Tryz.sizeOf66
 v53:=Tryz.zeroValue66
 t131:=Tryz.underlying161
 a131:=Tryz.isAgg161
 z131:=Tryz.sizeOf161
 v131:=Tryz.zeroValue161
 t182:=Tryz.underlying157
 a182:=Tryz.isAgg157
 z182:=Tryz.sizeOf157
 v182:=Tryz.zeroValue157
 t183:=Tryz.underlying158
 a183:=Tryz.isAgg158
 z183:=Tryz.sizeOf158
 v183:=Tryz.zeroValue158
 t218:=Tryz.underlying163
 a218:=Tryz.isAgg163
 z218:=Tryz.sizeOf163
 v218:=Tryz.zeroValue163
 t222:=Tryz.underlying167
 a222:=Tryz.isAgg167
 z222:=Tryz.sizeOf167
 v222:=Tryz.zeroValue167
 t228:=Tryz.underlying169
 a228:=Tryz.isAgg169
 z228:=Tryz.sizeOf169
 v228:=Tryz.zeroValue169
 t229:=Tryz.underlying116
 a229:=Tryz.isAgg116
 z229:=Tryz.sizeOf116
 v229:=Tryz.zeroValue116 }
open Go.Sort Go.RowKit in
theorem Tryz.slices_Sort_int (blk off cap:Nat) (zs:List Int) (w:World) (hH:Holds (Value.int .i64) w blk off zs.toArray) (X2:blk<w.heap.size) (A5:zs.length<4611686018427387904):
 Calls Tryz.prog 133 #[.slice (some ⟨blk,off,none⟩) zs.length cap] w fun e w'=>
  e= .returned (.tuple #[])/\ ∃ n os,w'=grow (putRow (Value.int .i64) (Sort.ahead w n) blk off (zs.mergeSort fun x y=>decide (x<=y)).toArray) os:=Any.slices_Sort_int Tryz.lays189 blk off cap zs w hH X2 A5
end Go.Proofs
namespace Go.Proofs.YtgkhhfnhacibcaaGreatDoor
abbrev zA6:=@List.pairwise_cons
end Go.Proofs.YtgkhhfnhacibcaaGreatDoor
namespace Go.Proofs.YtgkhhfnhacibcaaGreatDoor
open Go.RowKit
def Nu (a:Int):List Int -> List Int
 | []=>[a]
 | b::l=>if a<=b then a::b::l else b::Nu a l
def Gc:List Int -> List Int
 | []=>[]
 | a::l=>Nu a (Gc l)
theorem W8 (a:Int): ∀ l:List Int,(Nu a l).Perm (a::l)
 | []=>zBE _
 | b::l=>by
  unfold Nu;split
  ·exact zBE _
  ·exact ((W8 a l).cons b).trans (List.Perm.swap a b l)
theorem Rz: ∀ l:List Int,(Gc l).Perm l
 | []=>zBE _
 | a::l=>(W8 a _).trans ((Rz l).cons a)
theorem dk (a:Int): ∀ l:List Int,l.Pairwise (· <= ·) -> (Nu a l).Pairwise (· <= ·)
 | [],_=>List.pairwise_singleton _ _
 | b::l,h=>by
  have h':=zA6.1 h;unfold Nu;split
  ·rename_i HU;refine zA6.2 ⟨fun x hx=>?_,h⟩;rcases yq.1 hx with rfl | hx
   ·exact HU
   ·exact Int.le_trans HU (h'.1 x hx)
  ·rename_i HU;refine zA6.2 ⟨fun x hx=>?_,dk a l h'.2⟩;rcases yq.1 ((W8 a l).mem_iff.1 hx) with rfl | hx
   ·omega
   ·exact h'.1 x hx
theorem aT: ∀ l:List Int,(Gc l).Pairwise (· <= ·)
 | []=>List.Pairwise.nil
 | a::l=>dk a _ (aT l)
theorem kF (l:List Int):(l.mergeSort fun x y=>decide (x<=y))=Gc l:=by
 refine List.Perm.eq_of_pairwise (le:=(· <= ·)) (fun a b _ _ h1 h2=>Int.le_antisymm h1 h2) ?_ (aT l) ((List.mergeSort_perm l _).trans (Rz l).symm);have:=List.pairwise_mergeSort (le:=fun x y:Int=>decide (x<=y)) (fun a b c h1 h2=>by simp at h1 h2 ⊢;omega) (fun a b=>by simp;omega) l;exact this.imp fun h=>by simpa using h
theorem O9 (l:List Int):(Gc l).length=l.length:=(Rz l).length_eq
theorem ue {w:World} {b o:Nat} {l l':List Int} {cs:Array Value} {t:TypeId} {z:Nat×Nat} (h:w.heap[b]? =some (.cells cs t z)) (hl:l.length=l'.length) (n:Nat) (os:Array Obj):
 ∃ Dz,(Sort.grow (Sort.putRow (Value.int .i64) (Sort.ahead w n) b o l'.toArray) os).heap[b]? =some (.cells Dz t z)/\ Dz.size=cs.size/\ ∀ j,j<l.length -> o+j<cs.size -> Dz[o+j]? =some (.int .i64 (l'.getD j 0)):=by
 have hb:b<w.heap.size:=(yR.1 h).1;refine ⟨Sort.putCells (Value.int .i64) o l'.toArray cs,?_,by simp [Sort.putCells],fun j hj hs=>?_⟩
 ·simp only [Sort.grow,Sort.putRow,Sort.mapBlock,Sort.ahead];rw [zAB (by simpa using hb),zAP,yP rfl,h];rfl
 ·simp only [Sort.putCells,Array.getElem?_mapIdx];rw [zB hs];simp only [zD];rw [yP ⟨by omega,by simp;omega⟩];have:o+j-o=j:=by omega
  rw [this];have BM:j<l'.length:=by omega
  simp [BM,u8]
theorem jH {w:World} {b o:Nat} (hb:b<w.heap.size) (d:Array Int) (n:Nat) (os:Array Obj):AQ (fun k=>k=b) w (Sort.grow (Sort.putRow (Value.int .i64) (Sort.ahead w n) b o d) os):=by
 refine ⟨rfl,rfl,rfl,by simp [Sort.ahead],fun k hk Ap=>?_⟩;simp only [Sort.grow,Sort.putRow,Sort.mapBlock,Sort.ahead];rw [zAB (by simpa using hk),zAP,yb (fun e=>Ap e.symm)]
theorem kE (l:List Int) {n:Nat} (hn:n=l.length) (uE:l.length<=Ax):ES Tryz.prog GG 133 [.msl 0 1 0 n] [some (.ints l)] (.tup 0 fun j=>([]:List DV).getD j .any) [some (.ints (Gc l))] false:=by
 subst hn;refine ⟨⟨_,Tryz.func133,by decide,rfl⟩,fun N ρ w args HR Ci=>?_⟩;obtain ⟨p,hp,C0⟩:=HR.obj 0 _ rfl;have C0:Ak w p l.length fun j u=>u= .int .i64 (l.getD j 0):=C0
 have h0:=Ci.2 0 (by simp);obtain ⟨p',cap,BJ,hv,K9,Tw,Tm⟩:=h0;have ep:p'=p:=yY (BJ.symm.trans hp);subst ep;have A5:args.size=1:=by have:=Ci.1;simpa using this.symm
 have ha:args= #[.slice (some ⟨p'.blk,p'.off,none⟩) l.length cap]:=by
  apply Array.ext
  ·simp [A5]
  ·intro i h1 h2;have:i=0:=by omega
   subst this;have e:args.getD 0 undef=args[0]:=by simp [Array.getD,A5]
   rw [e] at hv;rw [hv];simp
 have hH:Sort.Holds (Value.int .i64) w p'.blk p'.off l.toArray:=fun j hj=>by
  have hj:j<l.length:=by simpa using hj
  obtain ⟨u,c1,c2⟩:=C0.cell hj;refine ⟨by rw [c1,c2];simp [hj,u8],C0.frozen _⟩
 obtain ⟨Eh,cs,t,DC,Cc,Ju,_⟩:=C0;have hb:p'.blk<w.heap.size:=(yR.1 DC).1;subst ha;refine (Tryz.slices_Sort_int p'.blk p'.off cap l w hH hb (by unfold Ax at uE;omega)).mono ?_;rintro e w' ⟨rfl,m,os,rfl⟩;rw [kF];obtain ⟨Dz,k1,k2,k3⟩:=ue (o:=p'.off) DC (O9 l).symm m os;have hu:AQ p'.foot w (Sort.grow (Sort.putRow (Value.int .i64) (Sort.ahead w m) p'.blk p'.off (Gc l).toArray) os):=by rw [Eh];exact jH (o:=p'.off) hb (Gc l).toArray m os
 show ∃ v,Ending.returned (.tuple #[])=Ending.returned v/\ C6 Tryz.prog GG N _ ρ w false _ _ v (Sort.grow (Sort.putRow (Value.int .i64) (Sort.ahead w m) p'.blk p'.off (Gc l).toArray) os)
 refine ⟨_,rfl,⟨⟨ρ,HR.write (o':=.ints (Gc l)) rfl hp hu (fun b hb=>?_) ?_,⟨#[],rfl,rfl,fun j hj=>absurd hj (yg j)⟩,BO.write rfl hp hu,fun _ _ h=>h⟩,fun h=>by cases h⟩⟩
 ·rw [Eh] at hb;exact .cells (c:=Dz) (t:=t) (z:=(0,0)) (by rw [show b=p'.blk from hb];exact k1)
 ·refine ⟨Eh,Dz,t,k1,by rw [k2,O9];exact Cc,by rw [k2];exact Ju,fun j hj=>?_⟩;rw [O9] at hj;exact ⟨_,k3 j hj (by omega),rfl⟩
end Go.Proofs.YtgkhhfnhacibcaaGreatDoor
namespace Go.Proofs.YtgkhhfnhacibcaaGreatDoor
open Go.RowKit
set_option maxRecDepth 100000
set_option maxHeartbeats 40000000
inductive KE where
 | s0
 | s1 (Eb:Nat) (DF:List Int)
def iW:KE -> DH
 | .s0=>[none,some (.cells [.nils])]
 | .s1 Eb DF=>[none,some (.cells [.msl 2 1 0 Eb]),some (.ints DF)]
def Uu (n:Nat) (e6:Int):Option KE:=
 if (0=0/\ 1=([e6]:List Int).length)/\ 0<([e6]:List Int).length/\ ([e6]:List Int).length<=Ax then
  some (.s1 (([e6]:List Int).length) ([e6]:List Int))
 else none
def Ut (n:Nat) (e6:Int) (Eb:Nat) (DF:List Int):Option KE:=
 if (0=0/\ 1=([e6]:List Int).length)/\ (0=0/\ Eb=DF.length)/\ DF.length+([e6]:List Int).length<=Ax then
  some (.s1 (DF.length+([e6]:List Int).length) (DF++([e6]:List Int)))
 else none
def Y7 (n:Nat) (e6:Int):KE -> Option KE
 | .s0=>Uu n e6
 | .s1 Eb DF=>Ut n e6 Eb DF
def IR (n:Nat) (e6:Int) (s:KE):Option KE:=Y7 n e6 s
theorem xl (n:Nat) (l B:Nat) (N:Yd 2) (e6:Int) (s:KE) (r:KE) (h:IR n e6 s=some r):TA l B N (Cs 2 [] 0 (iW r)) Tryz.f113 6 ⟨AM 13 [(2,.ref 1 0),(6,.it 0),(7,.i e6)],iW s⟩:=by
 cases s with
 | s0=>
  replace h:Uu n e6=some r:=h;unfold Uu at h;refine ag AF [0,1] H0 (AM 13 [(2,.ref 1 0),(5,.i e6)]) [none,some (.cells [.nils])] fun N=>?_
  revert r;apply gO;exact gi (jt (lF fun p=>rr AF [0,1,3] rfl p))
 | s1 Eb DF=>
  replace h:Ut n e6 Eb DF=some r:=h;unfold Ut at h;refine ag AF [0,1,2] H0 (AM 13 [(2,.ref 1 0),(5,.i e6)]) [none,some (.cells [.msl 2 1 0 Eb]),some (.ints DF)] fun N=>?_
  revert r;apply gO;exact gi (jt (lF fun p=>rr AF [0,1,4] rfl p))
def Y6 (n:Nat) (l:List Int):Option ((List Int)):=
 (By (IR n) l (.s0)).bind fun y1=>
  match y1 with
  | .s0=>
   none
  | .s1 JJ JI=>
   if JJ=JI.length then
    some JI
   else none
def RP (n:Nat) (l:List Int):Option ((List Int)):=Y6 n l
theorem xk {n:Nat} {l:List Int} {r:(List Int)} (h:RP n l=some r):EQ 113 [.nils,.it 0] [some (.iter ((l).map BV))] (.msl 1 1 0 r.length) [none,some (.ints r)] false:=by
 unfold RP Y6 at h;refine ot Tryz.func113 fun B N=>?_
 revert r;apply gO
 exact cn fun y1 BB=>fun p r h=>by
  refine gs AF [0,1] p (Fl (Ab Tryz.f113) 6 []) (AM 13 [(2,.ref 1 0),(6,.it 0)]) [some (.iter ((l).map BV)),some (.cells [.nils])] ?_;refine r0 0 6 #[7] BV 2 BB (xl n) ?_;cases y1 with
  | s0=>
   dsimp only at h
   revert r;apply gO;exact nO
  | s1 JJ JI=>
   dsimp only at h
   revert r;apply gO;exact gn fun g0=>lF fun p=>el AF [4] [0,2] p [] H0 [.msl 1 1 0 JJ] (AS.mslN g0)
def Yi (n:Nat) (l:List Int):Option ((List Int)):=
 (RP n l).bind fun y1=>
  some y1
def Uj (n:Nat) (l:List Int):Option ((List Int)):=Yi n l
theorem w8 {n:Nat} {l:List Int} {r:(List Int)} (h:Uj n l=some r):EQ 86 [.it 0] [some (.iter ((l).map BV))] (.msl 1 1 0 r.length) [none,some (.ints r)] false:=by
 unfold Uj Yi at h;refine ot Tryz.func86 fun B N=>?_
 revert r;apply gO;exact ce xk [0] [some (.iter ((l).map BV))] fun y1=>lF fun p=>el AF [2] [0,1] p [] H0 [.msl 1 1 0 y1.length] (AS.mslN rfl)
def VW (n:Nat) (l:List Int):Option ((List Int)):=
 (Uj n l).bind fun y1=>
  if y1.length<=Ax then
   if y1.length=(Gc y1).length then
    some (Gc y1)
   else none
  else none
def Lo (n:Nat) (l:List Int):Option ((List Int)):=VW n l
theorem kC {n:Nat} {l:List Int} {r:(List Int)} (h:Lo n l=some r):EQ 131 [.it 0] [some (.iter ((l).map BV))] (.msl 1 1 0 r.length) [none,some (.ints r)] false:=by
 unfold Lo VW at h;refine ot Tryz.func131 fun B N=>?_
 revert r;apply gO;exact ce w8 [0] [some (.iter ((l).map BV))] fun y1=>gn fun g0=>jc (em (kE y1 (n:=y1.length) (Eq.refl y1.length) g0) [1] [none,some (.ints y1)]) (gn fun g1=>lF fun p=>el AF [2] [0,1] p [] H0 [.msl 1 1 0 y1.length] (AS.mslN g1))
def gR (n:Nat) (g_:List (List Int)) (AT:List Bool) (start:Int):Option ((List Int)×Int):=
 (JA n g_ ([AT]:List (List Bool))).bind fun y1=>
  bif (y1 != 0) then
   some (([]:List Int),y1)
  else
   bif (decide (start<0)) then
    some (([]:List Int),1)
   else
    bif (decide (start>=(g_.length:Int))) then
     some (([]:List Int),1)
    else
     if 0<=start/\ start<(AT.length:Int) then
      bif (!(AT.getD ((start).toNat) false)) then
       some (([]:List Int),1)
      else
       (Ft n g_ start AT).bind fun y2=>
        (Lo n y2).bind fun y3=>
         some (y3,0)
     else none
def Od (n:Nat) (g_:List (List Int)) (AT:List Bool) (start:Int):Option ((List Int)×Int):=gR n g_ AT start
theorem w6 {n:Nat} {g_:List (List Int)} {AT:List Bool} {start:Int} {r:(List Int)×Int} (h:Od n g_ AT start=some r):EQ 123 [.sl 1 g_.length (Aq At g_),.bools AT,.i start] [] (.tup 2 (L1 [.ints r.1,.i r.2])) [] true:=by
 refine ot Tryz.func123 fun B N=>?_
 revert r;apply gO;exact ja 10 0 1 (DQ (c:=Of) (L:=([AT]:List (List Bool))) (vals:=[.bools AT]) rfl ⟨⟨_,rfl,⟨AK,trivial⟩⟩,trivial⟩) (jz 10 0 (jg (Eq.refl 1) (cf T6 [none] fun y1=>bi 13 (lF fun p=>el AF [6,7] [] p [] H0 [.nils,.i y1] (AS.tupL (l:=[.nils,.i y1]) (l':=[.ints ([]:List Int),.i y1]) rfl ⟨AS.ints_nil,AK,trivial⟩)) (bi 16 (lF fun p=>el AF [6,7] [] p [] H0 [.nils,.i 1] (AS.tupL (l:=[.nils,.i 1]) (l':=[.ints ([]:List Int),.i 1]) rfl ⟨AS.ints_nil,AK,trivial⟩)) (bi 21 (lF fun p=>el AF [6,7] [] p [] H0 [.nils,.i 1] (AS.tupL (l:=[.nils,.i 1]) (l':=[.ints ([]:List Int),.i 1]) rfl ⟨AS.ints_nil,AK,trivial⟩)) (gi (bi 28 (lF fun p=>el AF [6,7] [] p [] H0 [.nils,.i 1] (AS.tupL (l:=[.nils,.i 1]) (l':=[.ints ([]:List Int),.i 1]) rfl ⟨AS.ints_nil,AK,trivial⟩)) (cn fun y2 Bq=>jc (V1 Bq [none]) (ce kC [1] [none,some (.iter ((y2).map BV))] fun y3=>lF fun p=>ez AF [6,7] [2] p [0] (H0.g (Eq.refl y3.length)))))))))))
def Z9:ST:=.rd 0 (.rd 1 (.ef 2 (.ef 3 (.fin [] [4,5]) (.no)) (.no)))
theorem lZ:CF (BG Tryz.f126 11) [2] Z9:=by unfold CF;kernel_rfl
def Kc:Bh:=fun i=>match i with
 | 11=>.tre [2] Z9
 | _=>.no
def tL (g_:List (List Int)) (CM:Int) (y1 o1:List Int):DH:=[some (.cells [.msl 3 1 0 g_.length]),some (.cells [.i (CM+1)]),some (.iter ((y1).map BV)),some (.ints o1)]
def Zp (g_:List (List Int)) (o1:List Int) (CM:Int):St:=⟨(AM 42 [(4,.ref 0 0),(5,.ref 2 0)]),([some (.cells [.msl 1 1 0 g_.length]),some (.ints o1),some (.cells [.i CM])]:DH)⟩
inductive Kp where
 | s0 (Im:List Int)
def b9 (g_:List (List Int)) (AT:List Bool) (x13 CM:Int):Kp -> DH
 | .s0 Im=>[some (.cells [.msl 3 1 0 g_.length]),some (.cells [.i (CM+1)]),none,some (.ints Im)]
def Sl (n:Nat) (g_:List (List Int)) (AT:List Bool) (x13 CM Gy:Int) (Im:List Int):Option Kp:=
 if (0<=Gy/\ Gy<(g_.length:Int))/\ 0+((Gy).toNat)<Im.length then
  some (.s0 (Im.set (0+((Gy).toNat)) (CM+1)))
 else none
def b7 (n:Nat) (g_:List (List Int)) (AT:List Bool) (x13 CM Gy:Int):Kp -> Option Kp
 | .s0 Im=>Sl n g_ AT x13 CM Gy Im
def L5 (n:Nat) (g_:List (List Int)) (AT:List Bool) (x13 CM Gy:Int) (s:Kp):Option Kp:=b7 n g_ AT x13 CM Gy s
theorem oP (n:Nat) (g_:List (List Int)) (AT:List Bool) (x13 CM:Int) (l B:Nat) (N:Yd 3) (Gy:Int) (s:Kp) (r:Kp) (h:L5 n g_ AT x13 CM Gy s=some r):TA l B N (Cs 3 [] 0 (b9 g_ AT x13 CM r)) Tryz.f126 33 ⟨AM 42 [(0,.sl 1 g_.length (Aq At g_)),(1,.bools AT),(4,.ref 0 0),(5,.ref 1 0),(12,.i (g_.length:Int)),(13,.i x13),(33,.it 2),(34,.i Gy)],b9 g_ AT x13 CM s⟩:=by
 cases s with
 | s0 Im=>
  replace h:Sl n g_ AT x13 CM Gy Im=some r:=h;unfold Sl at h;refine ag Kc [0,1,2,3] H0 (AM 42 [(4,.ref 0 0),(5,.ref 1 0),(7,.i Gy)]) [some (.cells [.msl 3 1 0 g_.length]),some (.cells [.i (CM+1)]),none,some (.ints Im)] fun N=>?_
  revert r;apply gO;exact gc (gi (gi (lF fun p=>rr Kc [0,1,2,3] rfl p)))
inductive Sn where
 | l1 (x13:Int) (o1:List Int) (CM:Int)
def Pn (n:Nat) (self:Sn -> Option ((List Int)×Int)) (g_:List (List Int)) (AT:List Bool) (x13:Int) (o1:List Int) (CM:Int):Option ((List Int)×Int):=
 bif (decide (x13<(g_.length:Int))) then
  if 0<=x13/\ x13<(AT.length:Int) then
   bif (!(AT.getD ((x13).toNat) false)) then
    if AL (x13+1) then
     self (.l1 (x13+1) o1 CM)
    else none
   else
    if (0<=x13/\ x13<(g_.length:Int))/\ 0+((x13).toNat)<o1.length then
     bif (decide ((o1.getD (0+((x13).toNat)) 0)>0)) then
      if AL (x13+1) then
       self (.l1 (x13+1) o1 CM)
      else none
     else
      if AL (CM+1) then
       (Ft n g_ x13 AT).bind fun y1=>
        (By (L5 n g_ AT x13 CM) y1 (.s0 o1)).bind fun y2=>
         match y2 with
         | .s0 KM=>
          if AL (x13+1) then
           self (.l1 (x13+1) KM (CM+1))
          else none
      else none
    else none
  else none
 else
  if g_.length=o1.length then
   some (o1,CM)
  else none
def b6 (n:Nat) (self:Sn -> Option ((List Int)×Int)) (g_:List (List Int)) (AT:List Bool):Option ((List Int)×Int):=
 if ((g_.length:Int):Int)=(g_.length:Int)/\ 0<=(g_.length:Int)/\ ((g_.length:Int):Int)<=1000000000000 then
  self (.l1 0 (List.replicate g_.length (0:Int)) 0)
 else none
def Nd (g_:List (List Int)) (AT:List Bool):Nat -> Sn -> Option ((List Int)×Int)
 | 0,_=>none
 | n+1,.l1 x13 o1 CM=>Pn n (Nd g_ AT n) g_ AT x13 o1 CM
def parts (n:Nat) (g_:List (List Int)) (AT:List Bool):Option ((List Int)×Int):=b6 n (Nd g_ AT n) g_ AT
def oQ (n B:Nat) (N:Yd 0) (g_:List (List Int)) (AT:List Bool) (r:(List Int)×Int):Sn -> Prop
 | .l1 x13 o1 CM=>∀ m0:Nat,n<=m0 -> TW B N (FQ Tryz.f126 0 (.tup 2 (L1 [.ints r.1,.i r.2])) []) (A4 m0 (BF (Ab Tryz.f126) 0 [])) ⟨AM 42 [(0,.sl 1 g_.length (Aq At g_)),(1,.bools AT),(4,.ref 0 0),(5,.ref 2 0),(12,.i (g_.length:Int)),(13,.i x13)],[some (.cells [.msl 1 1 0 g_.length]),some (.ints o1),some (.cells [.i CM])]⟩
theorem oR (B:Nat) (N:Yd 0) (g_:List (List Int)) (AT:List Bool):Al (Nd g_ AT) (oQ · B N g_ AT):=ia (fun _=>rfl) fun n AH pt r h=>by
 cases pt
 case l1 x13 o1 CM=>
  intro m0 AC;refine rd AC fun m0 AC=>?_
  revert r;apply gO
  exact bi 14 (gi (bi 20 (gw 39 (lG Kc [0,1,2] (AH _ _ · m0 AC))) (gc (gi (gi (bi 26 (gw 39 (lG Kc [0,1,2] (AH _ _ · m0 AC))) (gw 29 (jt (cn fun y1 BB=>jc (V1 BB [some (.cells [.msl 1 1 0 g_.length]),some (.ints o1),some (.cells [.i (CM+1)])]) (cn fun y2 Bq=>fun p r h=>by
   refine gs Kc [0,2,3,1] p (Fl (Ab Tryz.f126) 33 [m0]) (AM 42 [(0,.sl 1 g_.length (Aq At g_)),(1,.bools AT),(4,.ref 0 0),(5,.ref 1 0),(12,.i (g_.length:Int)),(13,.i x13),(33,.it 2)]) (tL g_ CM y1 o1) ?_;refine r0 2 33 #[34] BV 3 Bq (oP n g_ AT x13 CM) ?_;cases y2 with
   | s0 KM=>
    dsimp only at h
    revert r;apply gO;exact gw 39 (lG Kc [0,3,1] (AH _ _ · m0 AC)))))))))))) (jg lZ (jt (jt (jg (Eq.refl (Zp g_ o1 CM)) (gn fun g0=>lF fun p=>ez (tg:=[([(2,0)],(Zp g_ o1 CM))]) Kc [4,5] [0,1,2] p [1] (H0.g g0))))))
theorem WJ {n:Nat} {g_:List (List Int)} {AT:List Bool} {r:(List Int)×Int} (h:parts n g_ AT=some r):EQ 126 [.sl 1 g_.length (Aq At g_),.bools AT] [] (.tup 2 (L1 [.ints r.1,.i r.2])) [] true:=by
 refine ot Tryz.func126 fun B N=>?_
 revert r;apply gO;exact gi (jt (lN Kc [0,2,1] ((oR B N g_ AT n) _ _ · n Nat.le.refl)))
end Go.Proofs.YtgkhhfnhacibcaaGreatDoor
namespace Go.Proofs.YtgkhhfnhacibcaaGreatDoor
open Go.RowKit
set_option maxRecDepth 100000
set_option maxHeartbeats 40000000
def U7 (n:Nat) (n_:Int) (inn:List Bool):Option ((List Bool)):=
 (M1 n inn).bind fun y1=>
  if (0<=n_/\ n_<(y1.length:Int))/\ 0+((n_).toNat)<y1.length then
   if y1.length=(y1.set (0+((n_).toNat)) false).length then
    some (y1.set (0+((n_).toNat)) false)
   else none
  else none
def Ov (n:Nat) (n_:Int) (inn:List Bool):Option ((List Bool)):=U7 n n_ inn
theorem jA {n:Nat} {n_:Int} {inn:List Bool} {r:(List Bool)} (h:Ov n n_ inn=some r):EQ 125 [.i n_,.fp 1 (L1 [.bools inn])] [] (.msl 0 1 0 r.length) [some (.bools r)] true:=by
 unfold Ov U7 at h;refine ot Tryz.func125 fun B N=>?_
 revert r;apply gO;exact cn fun y1 BB=>jc (ES.snapNew (ds:=[.bools inn]) (gX BB) [] (ZE (by kernel_rfl)) rfl) (gc (gi (gi (gn fun g2=>lF fun p=>el AF [3] [0] p [] H0 [.msl 0 1 0 y1.length] (AS.mslN g2)))))
theorem lL:A0 (BG Tryz.f109 16) [] (List.range 7) []:=by unfold A0;kernel_rfl
def Ge:Bh:=fun i=>match i with
 | 16=>.ord [] (List.range 7) []
 | _=>.no
def eG (AT CA:List Bool) (Ba:Int):DH:=[some (.cells [.bools AT]),some (.cells [.bools CA]),some (.cells [.i Ba]),some (.cells [.bool false]),none]
def sZ (AT CA:List Bool) (Ba:Int):DH:=[some (.cells [.bools AT]),some (.cells [.bools CA]),some (.cells [.i Ba]),some (.cells [.bool false]),none,none]
def sY (AT CA:List Bool) (Ba:Int) (y3:(List Int)×Int):DH:=[some (.cells [.bools AT]),some (.cells [.bools CA]),some (.cells [.i Ba]),some (.cells [.bool false]),none,none,some (.cells [.ints y3.1]),some (.cells [.i 0])]
def sX (CA:List Bool) (Ba:Int) (y3:(List Int)×Int) (y4:List Int):DH:=[some (.cells [.bools CA]),some (.cells [.i Ba]),some (.cells [.bool false]),some (.cells [.ints y3.1]),some (.cells [.i 0]),some (.iter ((y4).map BV))]
def sW (CA:List Bool) (Ba:Int) (Gh:Bool) (y3:(List Int)×Int) (Fv:Int):DH:=[some (.cells [.bools CA]),some (.cells [.i Ba]),some (.cells [.bool Gh]),some (.cells [.ints y3.1]),some (.cells [.i Fv]),none]
inductive Ka where
 | s0 (Gh:Bool) (Fv:Int)
def aQ (CA:List Bool) (Ba:Int) (y3:(List Int)×Int):Ka -> DH
 | .s0 Gh Fv=>[some (.cells [.bools CA]),some (.cells [.i Ba]),some (.cells [.bool Gh]),some (.cells [.ints y3.1]),some (.cells [.i Fv]),none]
def O8 (n:Nat) (CA:List Bool) (Ba:Int) (y3:(List Int)×Int) (E8:Int) (Gh:Bool) (Fv:Int):Option (Ka×Nat):=
 bif (E8==Ba) then
  some (.s0 Gh Fv,0)
 else
  if 0<=E8/\ E8<(CA.length:Int) then
   bif (!(CA.getD ((E8).toNat) false)) then
    some (.s0 Gh Fv,0)
   else
    bif (Fv==0) then
     if 0<=E8/\ E8<(y3.1.length:Int) then
      some (.s0 Gh (y3.1.getD ((E8).toNat) 0),0)
     else none
    else
     if 0<=E8/\ E8<(y3.1.length:Int) then
      bif ((y3.1.getD ((E8).toNat) 0) != Fv) then
       some (.s0 true Fv,1)
      else
       some (.s0 Gh Fv,0)
     else none
  else none
def kA (n:Nat) (CA:List Bool) (Ba:Int) (y3:(List Int)×Int) (E8:Int):Ka -> Option (Ka×Nat)
 | .s0 Gh Fv=>O8 n CA Ba y3 E8 Gh Fv
def HB (n:Nat) (CA:List Bool) (Ba:Int) (y3:(List Int)×Int) (E8:Int) (s:Ka):Option (Ka×Nat):=kA n CA Ba y3 E8 s
theorem j9 (n:Nat) (CA:List Bool) (Ba:Int) (y3:(List Int)×Int) (l B:Nat) (N:Yd 6) (E8:Int) (s:Ka) (r:Ka×Nat) (h:HB n CA Ba y3 E8 s=some r):TA l B N (Cs 6 [.exit 0] r.2 (aQ CA Ba y3 r.1)) Tryz.f109 48 ⟨AM 76 [(6,.ref 0 0),(7,.ref 1 0),(8,.ref 2 0),(11,.ref 3 0),(13,.ref 4 0),(48,.it 5),(49,.i E8)],aQ CA Ba y3 s⟩:=by
 cases s with
 | s0 Gh Fv=>
  refine ag Ge [0,1,2,3,4,5] H0 (AM 76 [(6,.ref 0 0),(7,.ref 1 0),(8,.ref 2 0),(11,.ref 3 0),(13,.ref 4 0),(14,.i E8)]) (sW CA Ba Gh y3 Fv) fun N=>?_
  revert r;apply gO;exact bi 53 (lF fun p=>rr Ge [0,1,2,3,4,5] rfl p) (gi (bi 59 (lF fun p=>rr Ge [0,1,2,3,4,5] rfl p) (bi 63 (gi (jt (lF fun p=>rr Ge [0,1,2,3,4,5] rfl p))) (jg lL (gi (bi 74 (jt (lF fun p=>rr Ge [0,1,2,3,4,5] rfl p)) (lF fun p=>rr Ge [0,1,2,3,4,5] rfl p)))))))
def aP (n:Nat) (g_:List (List Int)) (AT CA:List Bool) (Ba:Int):Option (Bool×Int):=
 (JA n g_ ([AT,CA]:List (List Bool))).bind fun y1=>
  bif (y1 != 0) then
   some (false,y1)
  else
   bif (decide (Ba<0)) then
    some (false,1)
   else
    bif (decide (Ba>=(g_.length:Int))) then
     some (false,1)
    else
     if 0<=Ba/\ Ba<(AT.length:Int) then
      bif (!(AT.getD ((Ba).toNat) false)) then
       some (false,0)
      else
       (Ov n Ba AT).bind fun y2=>
        (parts n g_ y2).bind fun y3=>
         (Ft n g_ Ba AT).bind fun y4=>
          (ET (HB n CA Ba y3) y4 (.s0 false 0)).bind fun y5=>
           bif y5.2==0 then
            match y5.1 with
            | .s0 Ot U4=>
             some (Ot,0)
           else
            bif y5.2==1 then
             match y5.1 with
             | .s0 Ot U4=>
              some (Ot,0)
            else
             none
     else none
def Lm (n:Nat) (g_:List (List Int)) (AT CA:List Bool) (Ba:Int):Option (Bool×Int):=aP n g_ AT CA Ba
theorem j7 {n:Nat} {g_:List (List Int)} {AT CA:List Bool} {Ba:Int} {r:Bool×Int} (h:Lm n g_ AT CA Ba=some r):EQ 109 [.sl 1 g_.length (Aq At g_),.bools AT,.bools CA,.i Ba] [] (.tup 2 (L1 [.bool r.1,.i r.2])) [] true:=by
 refine ot Tryz.func109 fun B N=>?_
 revert r;apply gO
 exact ja 18 4 1 (DQ (c:=Of) (L:=([AT,CA]:List (List Bool))) (vals:=[.bools AT,.bools CA]) rfl ⟨⟨_,rfl,⟨AK,trivial⟩⟩,⟨_,rfl,⟨AK,trivial⟩⟩,trivial⟩) (jz 18 4 (jg (Eq.refl 2) (cf T6 (eG AT CA Ba) fun _=>bi 21 (jt (lE Ge [8,9] [3])) (bi 24 (jt (lE Ge [8,9] [3])) (bi 29 (jt (lE Ge [8,9] [3])) (gi (bi 35 (jt (lE Ge [8,9] [3])) (cn fun y2 Bq=>jc (ES.snapNew (ds:=[.i Ba,.ref 0 0]) (jA Bq) (eG AT CA Ba) ⟨Aa.plain (by kernel_rfl),(Aa.refL (l:=[.bools AT]) (l0:=[.bools AT]) rfl ⟨Aa.plain (by kernel_rfl),trivial⟩),trivial⟩ rfl) (jz 41 5 (jg (Eq.refl y2.length) (cf WJ (sZ AT CA Ba) fun y3=>jt (jt (cn fun y4 H6=>jc (V1 H6 (sY AT CA Ba y3)) (cn fun y5 rX=>fun p r h=>by
  refine gs Ge [1,2,3,6,7,8] p (Fl (Ab Tryz.f109) 48 []) (AM 76 [(6,.ref 0 0),(7,.ref 1 0),(8,.ref 2 0),(11,.ref 3 0),(13,.ref 4 0),(48,.it 5)]) (sX CA Ba y3 y4) ?_;refine rx [.exit 0] 5 48 #[49] BV 6 rX (j9 n CA Ba y3) fun e he=>?_
  replace h:=GV h;rcases h with ⟨Oq,h⟩ | ⟨Oq,h⟩
  ·rw [eq_of_beq Oq] at he;cases he;revert h;cases y5.1 with
   | s0 Ot U4=>
    intro h
    dsimp only at h
    revert r;apply gO;exact jt (lE Ge [8,9] [2])
  ·replace h:=GV h;rcases h with ⟨Oq,h⟩ | ⟨Oq,h⟩
   ·rw [eq_of_beq Oq] at he;cases he;refine DZ.exitTo (by kernel_rfl) ?_;revert h;cases y5.1 with
    | s0 Ot U4=>
     intro h
     dsimp only at h
     revert r;apply gO;exact jt (lE Ge [8,9] [2])
   ·cases h))))))))))))))
end Go.Proofs.YtgkhhfnhacibcaaGreatDoor
namespace Go.Proofs.YtgkhhfnhacibcaaGreatDoor
open Go.RowKit
theorem Ae.bindU {R T:Type} {a:Nat -> Option T} {b:Nat -> T -> Option R} {A:T -> Prop} {Q:R -> Prop} (ha:Ae a A) (hb: ∃ M,∀ n,M<=n -> ∀ x,A x -> ∃ r,b n x=some r/\ Q r):Ae (fun n=>(a n).bind (b n)) Q:=by
 obtain ⟨N,ha⟩:=ha;obtain ⟨M,hb⟩:=hb;refine ⟨max N M,fun n hn=>?_⟩;obtain ⟨x,h1,h2⟩:=ha n (by omega);obtain ⟨r,h3,h4⟩:=hb n (by omega) x h2;exact ⟨r,by show (a n).bind (b n)=_;rw [h1,yX];exact h3,h4⟩
structure Hh (g:List (List Int)):Prop where
 ok:J5 g=true
 row: ∀ r∈g,r.length<=LB
theorem Hh.gr {g:List (List Int)} (h:Hh g):Gr g:=Gr.of h.ok h.row
section
variable {g:List (List Int)} {inn some':List Bool} {s:Int}
theorem fU {sets:List (List Bool)} (hs: ∀ x∈sets,x.length=g.length) (hl:sets.length<=256): ∀ (k i n:Nat),i+k=sets.length -> k+1<=n -> OK g sets n (.l1 (i:Int))=some 0
 | 0,i,n,e,hn=>by
  obtain ⟨n,rfl⟩: ∃ k,n=k+1:=⟨n-1,by omega⟩
  show Qg n (OK g sets n) g sets i=_
  unfold Qg;rw [yS (by omega),yO]
 | k+1,i,n,e,hn=>by
  obtain ⟨n,rfl⟩: ∃ k,n=k+1:=⟨n-1,by omega⟩;have hi:i<sets.length:=by omega
  have hm:sets.getD i []∈sets:=by rw [u8,yQ hi];exact yw hi
  have e2:(((sets.getD i []).length:Int) != (g.length:Int))=false:=by rw [hs _ hm];simp
  have:=fU hs hl k (i+1) n (by omega) (by omega)
  show Qg n (OK g sets n) g sets i=_
  unfold Qg;rw [yW (by omega),yV,yP ⟨by omega,by omega⟩,yU,e2,yO,yP (A2.2 ⟨by omega,by omega⟩)];exact this
theorem T7 (G:Hh g) {sets:List (List Bool)} (hs: ∀ x∈sets,x.length=g.length) (hl:sets.length<=256):Ev (fun n=>JA n g sets) 0:=by
 refine ⟨2*Gb g+1+sets.length+1,fun n hn=>?_⟩
 show JA n g sets=some 0
 unfold JA fV;rw [fe G.row (by omega),G.ok];exact fU hs hl sets.length 0 n (by omega) (by omega)
theorem iY {n:Nat}: ∀ (l x:List Int),(x++l).length<=Ax -> By (IR n) l (.s1 x.length x)=some (.s1 (x++l).length (x++l))
 | [],x,h=>by rw [zAK];rfl
 | a::l,x,h=>by
  have e:x++a::l=x++[a]++l:=by simp
  rw [e] at h ⊢;have h2:x.length+1<=Ax:=by simp only [yz,zE] at h;omega
  have e1:IR n a (.s1 x.length x)=some (.s1 (x++[a]).length (x++[a])):=by
   unfold IR Y7 Ut
   dsimp only
   rw [yP ⟨⟨rfl,rfl⟩,⟨rfl,rfl⟩,by simpa using h2⟩,yz]
  show (IR n a (.s1 x.length x)).bind (By (IR n) l)=_
  rw [e1,yX];exact iY l (x++[a]) h
theorem kD {n:Nat} {l:List Int} (h0:l≠[]) (hl:l.length<=256):Lo n l=some (Gc l):=by
 have L:(1000000000000:Nat)=Ax:=rfl;cases l with
 | nil=>exact absurd rfl h0
 | cons a l=>
  have e1:IR n a .s0=some (.s1 [a].length [a]):=by
   unfold IR Y7 Uu
   dsimp only
   rw [yP ⟨⟨rfl,rfl⟩,by simp,by rw [←L];simp⟩]
  have e2:=iY (n:=n) l [a] (by rw [←L];simp only [List.singleton_append];omega)
  have e3:RP n (a::l)=some (a::l):=by
   unfold RP Y6
   show ((IR n a .s0).bind (By (IR n) l)).bind _=_
   rw [e1,yX,e2,yX]
   dsimp only
   rw [yP rfl];rfl
  unfold Lo VW Uj Yi;rw [e3,yX,yX,yP (by rw [←L];omega),yP (O9 _).symm]
theorem nk {l:List Int} (h: ∀ v,v∈l↔Rc g inn s v):l≠[]:=fun e=>by
 have:=(h s).2 .start;rw [e] at this;cases this
theorem nl (G:Gr g) (h0:0<=s) (h1:s<(g.length:Int)) {l:List Int} (hn:l.Nodup) (h: ∀ v,v∈l↔Rc g inn s v):l.length<=256:=
 yf (WW g.length l hn fun x hx=>((h x).1 hx).rng G h0 h1) G.len
theorem w7 (G:Hh g) (hI:inn.length=g.length) (h0:0<=s) (h1:s<(g.length:Int)) (hs:inn.getD s.toNat false=true):
 Ae (fun n=>Od n g inn s) (fun r=>r.2=0/\ r.1.length<=256/\ ∀ v,v∈r.1↔Rc g inn s v):=by
 have e: ∀ n,Od n g inn s=(JA n g [inn]).bind fun y1=>bif (y1 != 0) then some (([]:List Int),y1) else (Ft n g s inn).bind fun y2=>(Lo n y2).bind fun y3=>some (y3,0):=fun n=>by
  unfold Od gR
  congr 1
  funext y1
  rw [yS (by omega),yO,yS (by omega),yO,yP ⟨by omega,by omega⟩,hs,zS,yO]
 refine Ae.eq ?_ e;refine Ae.bind (T7 G (fun x hx=>by rw [yp.1 hx];exact hI) (by simp)) ?_
 show Ae (fun n=>(Ft n g s inn).bind fun y2=>(Lo n y2).bind fun y3=>some (y3,0)) _
 refine Ae.bindU (V0 G.gr hI h0 h1) ⟨0,fun n _ l hl=>?_⟩;have Ay:=nl G.gr h0 h1 hl.1 hl.2;rw [kD (nk hl.2) Ay,yX];exact ⟨_,rfl,rfl,by rw [O9];exact Ay,fun v=>by rw [(Rz l).mem_iff];exact hl.2 v⟩
structure Pt (g:List (List Int)) (inn:List Bool) (i:Nat) (part:List Int) (Bp:Int):Prop where
 len:part.length=g.length
 m0:0<=Bp
 m1:Bp<=(i:Int)
 lo: ∀ v,v<g.length -> 0<=part.getD v 0/\ part.getD v 0<=Bp
 isIn: ∀ v,v<g.length -> 0<part.getD v 0 -> inn.getD v false=true
 same: ∀ u v:Nat,u<g.length -> v<g.length -> 0<part.getD u 0 -> Rc g inn u v -> part.getD v 0=part.getD u 0
 con: ∀ u v:Nat,u<g.length -> v<g.length -> 0<part.getD u 0 -> part.getD v 0=part.getD u 0 -> Rc g inn u v
 all: ∀ v,v<i -> v<g.length -> inn.getD v false=true -> 0<part.getD v 0
 sur: ∀ m,0<m -> m<=Bp -> ∃ v,v<g.length/\ part.getD v 0=m
theorem cA {n:Nat} {x13 m:Int}: ∀ (l:List Int) (part:List Int),part.length=g.length -> (∀ v∈l,0<=v/\ v<(g.length:Int)) ->
 ∃ Gi,By (L5 n g inn x13 m) l (.s0 part)=some (.s0 Gi)/\ Gi.length=g.length/\ ∀ v:Nat,Gi.getD v 0=if (v:Int)∈l/\ v<g.length then m+1 else part.getD v 0
 | [],part,hp,_=>⟨part,rfl,hp,fun v=>by simp⟩
 | a::l,part,hp,hl=>by
  have ha:=hl a zT
  have e1:L5 n g inn x13 m a (.s0 part)=some (.s0 (part.set a.toNat (m+1))):=by
   unfold L5 b7 Sl
   dsimp only
   rw [yP ⟨ha,by omega⟩,yt]
  obtain ⟨Gi,h1,h2,h3⟩:=cA (n:=n) (x13:=x13) (m:=m) l (part.set a.toNat (m+1)) (by rw [yu];exact hp) fun v hv=>hl v (yx _ hv)
  refine ⟨Gi,?_,h2,fun v=>?_⟩
  ·show (L5 n g inn x13 m a (.s0 part)).bind (By (L5 n g inn x13 m) l)=_
   rw [e1,yX];exact h1
  ·rw [h3]
   by_cases hv:(v:Int)∈l/\ v<g.length
   ·rw [yP hv,yP ⟨yx _ hv.1,hv.2⟩]
   ·rw [yb hv]
    by_cases e:(v:Int)=a
    ·subst e;rw [yP ⟨zT,by omega⟩,yU,u8,zd (by omega)];rfl
    ·rw [yb (fun h=>by
      rcases yq.1 h.1 with h4 | h4
      ·exact e h4
      ·exact hv ⟨h4,h.2⟩),u8,zU (by omega),←u8]
theorem Pt.go (G:Gr g) {i:Nat} {part Gi:List Int} {Bp:Int} (h:Pt g inn i part Bp) (hi:i<g.length) (Cd:inn.getD i false=true) (h0: ¬ part.getD i 0>0) {l:List Int} (hl: ∀ v,v∈l↔Rc g inn i v) (Ay:Gi.length=g.length)
 (hp: ∀ v:Nat,Gi.getD v 0=if (v:Int)∈l/\ v<g.length then Bp+1 else part.getD v 0):Pt g inn (i+1) Gi (Bp+1):=by
 have m0:=h.m0;have m1:=h.m1;have KL: ∀ v:Nat,v<g.length -> Rc g inn i v -> Gi.getD v 0=Bp+1:=fun v hv hr=>by rw [hp,yP ⟨(hl v).2 hr,hv⟩]
 have no: ∀ v:Nat,¬ Rc g inn i v -> Gi.getD v 0=part.getD v 0:=fun v hr=>by rw [hp,yb (fun h=>hr ((hl v).1 h.1))]
 have sym: ∀ u v:Nat,u<g.length -> inn.getD u false=true -> Rc g inn u v -> Rc g inn v u:=fun u v hu rp hr=>hr.symm G (by omega) (by omega) (by rw [yU];exact rp)
 refine ⟨Ay,by omega,by omega,fun v hv=>?_,fun v hv H9=>?_,fun u v hu hv H9 hr=>?_,fun u v hu hv H9 he=>?_,fun v hv GN Ch=>?_,fun m h1 h2=>?_⟩
 ·have:=h.lo v hv
  by_cases hr:Rc g inn i v
  ·rw [KL v hv hr];omega
  ·rw [no v hr];omega
 ·by_cases hr:Rc g inn i v
  ·have:=hr.isIn (by rw [yU];exact Cd)
   rwa [yU] at this
  ·rw [no v hr] at H9;exact h.isIn v hv H9
 ·by_cases h1:Rc g inn i u
  ·rw [KL u hu h1,KL v hv (h1.trans hr)]
  ·rw [no u h1] at H9 ⊢;have h2: ¬ Rc g inn i v:=fun h2=>h1 (h2.trans (sym u v hu (h.isIn u hu H9) hr))
   rw [no v h2];exact h.same u v hu hv H9 hr
 ·have hb:=(h.lo v hv).2
  by_cases h1:Rc g inn i u
  ·rw [KL u hu h1] at he
   by_cases h2:Rc g inn i v
   ·exact (sym i u hi Cd h1).trans h2
   ·rw [no v h2] at he;omega
  ·rw [no u h1] at H9 he;have hb:=(h.lo u hu).2
   by_cases h2:Rc g inn i v
   ·rw [KL v hv h2] at he;omega
   ·rw [no v h2] at he;exact h.con u v hu hv H9 he
 ·rcases yd.1 hv with hv | rfl
  ·have:=h.all v hv GN Ch
   by_cases hr:Rc g inn i v
   ·rw [KL v GN hr];omega
   ·rw [no v hr];exact this
  ·rw [KL v GN .start];omega
 ·by_cases e:m=Bp+1
  ·exact ⟨i,hi,by rw [KL i hi .start,e]⟩
  ·obtain ⟨v,hv,MV⟩:=h.sur m h1 (by omega);refine ⟨v,hv,?_⟩;rw [no v fun hr=>h0 ?_,MV];have:=h.same v i hv hi (by omega) (sym i v hi Cd hr);omega
def yI (g:List (List Int)) (inn:List Bool) (r:List Int×Int):Prop:=r.1.length=g.length/\ (∀ v,v<g.length -> inn.getD v false=true -> 0<r.1.getD v 0)/\ ∀ u v:Nat,u<g.length -> v<g.length -> inn.getD u false=true -> (r.1.getD v 0=r.1.getD u 0↔Rc g inn u v)
theorem WH (G:Gr g) (hI:inn.length=g.length):Ae (fun n=>parts n g inn) (fun r=>Pt g inn g.length r.1 r.2):=by
 have hG:=G.len;obtain ⟨N,hN⟩:=Ae.range (F:=fun (i:Nat) n=>Ft n g i inn) (A:=fun i l=>l.Nodup/\ ∀ v,v∈l↔Rc g inn i v) g.length fun i hi=>V0 G hI (by omega) (by omega)
 have hN: ∀ n,N<=n -> ∀ i:Nat,i<g.length -> ∃ l,Ft n g i inn=some l/\ l.Nodup/\ ∀ v,v∈l↔Rc g inn i v:=hN;refine ⟨N+g.length+1,fun n hn=>?_⟩;have S:=Gn (fun n (s:List Int×Int) i=>Nd g inn n (.l1 i s.1 s.2)) g.length (N+1) (fun i s=>Pt g inn i s.1 s.2) (fun n i s HQ hi hP=>?_) (n:=n) (s:=(List.replicate g.length 0,0)) (by omega) ?_
 ·obtain ⟨n1,⟨part,Bp⟩,F6,_,e1,hP⟩:=S;obtain ⟨n2,rfl⟩: ∃ n2,n1=n2+1:=⟨n1-1,by omega⟩;refine ⟨(part,Bp),?_,hP⟩
  show parts n g inn=some (part,Bp)
  unfold parts b6;rw [yP ⟨rfl,by omega,by omega⟩];refine Eq.trans e1 ?_
  show Pn n2 (Nd g inn n2) g inn (g.length:Int) part Bp=_
  unfold Pn;rw [yS (by omega),yO,yP hP.len.symm]
 ·obtain ⟨part,Bp⟩:=s;have hP:Pt g inn i part Bp:=hP;have r1:AL ((i:Int)+1):=A2.2 ⟨by omega,by omega⟩
  show ∃ s',Pn n (Nd g inn n) g inn (i:Int) part Bp=_/\ _
  unfold Pn;simp only [yU,yt];rw [yW (by omega),yV,yP ⟨by omega,by omega⟩];cases Cd:inn.getD i false
  ·rw [zg,yV,yP r1];have m1:=hP.m1;refine ⟨(part,Bp),rfl,hP.len,hP.m0,by show Bp<=((i+1:Nat):Int);omega,hP.lo,hP.isIn,hP.same,hP.con,fun v hv GN Ch=>?_,hP.sur⟩;rcases yd.1 hv with hv | rfl
   ·exact hP.all v hv GN Ch
   ·rw [Cd] at Ch;cases Ch
  ·have Ay:=hP.len;rw [zS,yO,yP ⟨⟨by omega,by omega⟩,by omega⟩]
   by_cases h0:part.getD i 0>0
   ·rw [yW h0,yV,yP r1];have m1:=hP.m1;refine ⟨(part,Bp),rfl,hP.len,hP.m0,by show Bp<=((i+1:Nat):Int);omega,hP.lo,hP.isIn,hP.same,hP.con,fun v hv GN Ch=>?_,hP.sur⟩;rcases yd.1 hv with hv | rfl
    ·exact hP.all v hv GN Ch
    ·exact h0
   ·obtain ⟨l,e2,BA,hl⟩:=hN n (by omega) i hi;obtain ⟨Gi,e3,h3,h4⟩:=cA (n:=n) (inn:=inn) (x13:=(i:Int)) (m:=Bp) l part hP.len fun v hv=>((hl v).1 hv).rng G (by omega) (by omega)
    have m0:=hP.m0;have m1:=hP.m1;rw [yS h0,yO,yP (A2.2 ⟨by omega,by omega⟩),e2,yX,e3,yX]
    dsimp only
    rw [yP r1];exact ⟨(Gi,Bp+1),rfl,hP.go G hi Cd h0 hl h3 h4⟩
 ·have z: ∀ v:Nat,(List.replicate g.length (0:Int)).getD v 0=0:=fun v=>by
   rw [u8,zj];split <;> rfl
  exact ⟨by simp,zO _,zO _,fun v _=>by rw [z];exact ⟨zO _,zO _⟩,fun v _ h=>by rw [z] at h;omega,fun u v _ _ h=>by rw [z] at h;omega,fun u v _ _ h=>by rw [z] at h;omega,fun v hv=>absurd hv (yg v),fun m h1 h2=>by have h2:m<=0:=h2;omega⟩
theorem oO (G:Gr g) (hI:inn.length=g.length):Ae (fun n=>parts n g inn) (yI g inn):=(WH G hI).mono fun r hP=>⟨hP.len,fun v hv hi=>hP.all v hv hv hi,fun u v hu hv hi=>by
 have Be:=hP.all u hu hu hi;exact ⟨hP.con u v hu hv Be,hP.same u v hu hv Be⟩⟩
def Sp (g:List (List Int)) (inn some':List Bool) (a:Int):Prop:=∃ u v:Int,u≠a/\ v≠a/\ some'.getD u.toNat false=true/\ some'.getD v.toNat false=true/\ Rc g inn a u/\ Rc g inn a v/\ ¬ Rc g (inn.set a.toNat false) u v
theorem aR {n:Nat} {a f:Int} {y3:List Int×Int} (hS:some'.length=g.length) (hy:y3.1.length=g.length) (hf:f≠0): ∀ (l:List Int),(∀ v∈l,0<=v/\ v<(g.length:Int)) ->
 ∃ b f' c,ET (HB n some' a y3) l (.s0 false f)=some (.s0 b f',c)/\ (c=0∨c=1)/\ (b=true↔∃ v∈l,v≠a/\ some'.getD v.toNat false=true/\ y3.1.getD v.toNat 0≠f)
 | [],_=>⟨false,f,0,rfl,.inl rfl,by simp⟩
 | x::l,hl=>by
  have hx:=hl x zT;obtain ⟨b,f',c,h1,h2,h3⟩:=aR (n:=n) (a:=a) hS hy hf l fun v hv=>hl v (yx _ hv)
  have skip:HB n some' a y3 x (.s0 false f)=some (.s0 false f,0) -> ¬ (x≠a/\ some'.getD x.toNat false=true/\ y3.1.getD x.toNat 0≠f) -> ∃ b f' c,ET (HB n some' a y3) (x::l) (.s0 false f)=some (.s0 b f',c)/\ (c=0∨c=1)/\ (b=true↔∃ v∈x::l,v≠a/\ some'.getD v.toNat false=true/\ y3.1.getD v.toNat 0≠f):=by
   intro e hn;refine ⟨b,f',c,?_,h2,?_⟩
   ·unfold ET;rw [e,yX];exact h1
   ·rw [h3];constructor
    ·rintro ⟨v,hv,h⟩;exact ⟨v,yx _ hv,h⟩
    ·rintro ⟨v,hv,h⟩;rcases yq.1 hv with rfl | hv
     ·exact absurd h hn
     ·exact ⟨v,hv,h⟩
  have f0:(f==0)=false:=zW.2 hf;have U:HB n some' a y3 x (.s0 false f)=O8 n some' a y3 x false f:=rfl;unfold O8 at U
  by_cases e1:x=a
  ·have:(x==a)=true:=yo.2 e1;rw [this,yV] at U;exact skip U fun h=>h.1 e1
  ·have:(x==a)=false:=zW.2 e1;rw [this,yO,yP ⟨by omega,by omega⟩] at U;cases e2:some'.getD x.toNat false
   ·rw [e2,zg,yV] at U;exact skip U fun h=>by rw [e2] at h;cases h.2.1
   ·rw [e2,zS,yO,f0,yO,yP ⟨by omega,by omega⟩] at U
    by_cases e3:y3.1.getD x.toNat 0=f
    ·have e4:(y3.1.getD x.toNat 0 != f)=false:=by rw [e3];simp
     rw [e4,yO] at U;exact skip U fun h=>h.2.2 e3
    ·have e4:(y3.1.getD x.toNat 0 != f)=true:=by simpa using e3
     rw [e4,yV] at U;refine ⟨true,f,1,?_,.inr rfl,?_⟩
     ·unfold ET;rw [U,yX];rfl
     ·exact ⟨fun _=>⟨x,zT,e1,e2,e3⟩,fun _=>rfl⟩
theorem aS {n:Nat} {a:Int} {y3:List Int×Int} (hS:some'.length=g.length) (hy:y3.1.length=g.length): ∀ (l:List Int),(∀ v∈l,0<=v/\ v<(g.length:Int)) -> (∀ v∈l,v≠a -> y3.1.getD v.toNat 0≠0) ->
 ∃ b f' c,ET (HB n some' a y3) l (.s0 false 0)=some (.s0 b f',c)/\ (c=0∨c=1)/\ (b=true↔∃ u∈l,∃ v∈l,u≠a/\ v≠a/\ some'.getD u.toNat false=true/\ some'.getD v.toNat false=true/\ y3.1.getD v.toNat 0≠y3.1.getD u.toNat 0)
 | [],_,_=>⟨false,0,0,rfl,.inl rfl,by simp⟩
 | x::l,hl,hz=>by
  have hx:=hl x zT;have EA: ∀ v∈l,0<=v/\ v<(g.length:Int):=fun v hv=>hl v (yx _ hv)
  have skip:HB n some' a y3 x (.s0 false 0)=some (.s0 false 0,0) -> ¬ (x≠a/\ some'.getD x.toNat false=true) -> ∃ b f' c,ET (HB n some' a y3) (x::l) (.s0 false 0)=some (.s0 b f',c)/\ (c=0∨c=1)/\ (b=true↔∃ u∈x::l,∃ v∈x::l,u≠a/\ v≠a/\ some'.getD u.toNat false=true/\ some'.getD v.toNat false=true/\ y3.1.getD v.toNat 0≠y3.1.getD u.toNat 0):=by
   intro e hn;obtain ⟨b,f',c,h1,h2,h3⟩:=aS (n:=n) (a:=a) hS hy l EA fun v hv=>hz v (yx _ hv)
   refine ⟨b,f',c,?_,h2,?_⟩
   ·unfold ET;rw [e,yX];exact h1
   ·rw [h3];constructor
    ·rintro ⟨u,hu,v,hv,h⟩;exact ⟨u,yx _ hu,v,yx _ hv,h⟩
    ·rintro ⟨u,hu,v,hv,h4,h5,h6,h7,h8⟩;rcases yq.1 hu with rfl | hu
     ·exact absurd ⟨h4,h6⟩ hn
     ·rcases yq.1 hv with rfl | hv
      ·exact absurd ⟨h5,h7⟩ hn
      ·exact ⟨u,hu,v,hv,h4,h5,h6,h7,h8⟩
  have U:HB n some' a y3 x (.s0 false 0)=O8 n some' a y3 x false 0:=rfl;unfold O8 at U
  by_cases e1:x=a
  ·have:(x==a)=true:=yo.2 e1;rw [this,yV] at U;exact skip U fun h=>h.1 e1
  ·have:(x==a)=false:=zW.2 e1;rw [this,yO,yP ⟨by omega,by omega⟩] at U;cases e2:some'.getD x.toNat false
   ·rw [e2,zg,yV] at U;exact skip U fun h=>by rw [e2] at h;cases h.2
   ·have z0:((0:Int)==0)=true:=rfl;rw [e2,zS,yO,z0,yV,yP ⟨by omega,by omega⟩] at U;obtain ⟨b,f',c,h1,h2,h3⟩:=aR (n:=n) (a:=a) hS hy (hz x zT e1) l EA;refine ⟨b,f',c,?_,h2,?_⟩
    ·unfold ET;rw [U,yX];exact h1
    ·rw [h3];constructor
     ·rintro ⟨v,hv,h4,h5,h6⟩;exact ⟨x,zT,v,yx _ hv,e1,h4,e2,h5,h6⟩
     ·rintro ⟨u,hu,v,hv,h4,h5,h6,h7,h8⟩
      by_cases e3:y3.1.getD u.toNat 0=y3.1.getD x.toNat 0
      ·rcases yq.1 hv with rfl | hv
       ·exact absurd e3.symm h8
       ·exact ⟨v,hv,h5,h7,fun e=>h8 (e.trans e3.symm)⟩
      ·rcases yq.1 hu with rfl | hu
       ·exact absurd rfl e3
       ·exact ⟨u,hu,h4,h6,e3⟩
theorem j8 (G:Hh g) (hI:inn.length=g.length) (hS:some'.length=g.length) {a:Nat} (ha:a<g.length) (eX:inn.getD a false=true):
 Ae (fun n=>Lm n g inn some' (a:Int)) (fun r=>r.2=0/\ (r.1=true↔Sp g inn some' (a:Int))):=by
 have hG:=G.gr.len;have L:(1000000000000:Nat)=Ax:=rfl
 have hw: ∀ n,Ov n (a:Int) inn=some (inn.set a false):=fun n=>by
  unfold Ov U7 M1 Yo;rw [yP ⟨by omega,trivial,⟨rfl,rfl⟩,by rw [←L];simp only [zm];omega⟩,yP (by simp),yX,zw,yP ⟨⟨by omega,by omega⟩,by omega⟩,yP (by simp),yt,yU]
 have vA:(inn.set a false).length=g.length:=by rw [yu];exact hI
 have e: ∀ n,Lm n g inn some' (a:Int)=(JA n g [inn,some']).bind fun y1=>bif (y1 != 0) then some (false,y1) else (parts n g (inn.set a false)).bind fun y3=>(Ft n g a inn).bind fun y4=>(ET (HB n some' a y3) y4 (.s0 false 0)).bind fun y5=>bif y5.2==0 then (match y5.1 with | .s0 b _=>some (b,0)) else bif y5.2==1 then (match y5.1 with | .s0 b _=>some (b,0)) else none:=fun n=>by
  unfold Lm aP
  congr 1
  funext y1
  rw [yS (by omega),yO,yS (by omega),yO,yP ⟨by omega,by omega⟩,yU,eX,zS,yO,hw,yX]
 refine Ae.eq ?_ e
 refine Ae.bind (T7 G (fun x hx=>by
  rcases yq.1 hx with rfl | hx
  ·exact hI
  ·rw [yp.1 hx];exact hS) (by simp)) ?_
 show Ae (R:=Bool×Int) (fun n=>(parts n g (inn.set a false)).bind fun y3=>(Ft n g a inn).bind fun y4=>(ET (HB n some' a y3) y4 (.s0 false 0)).bind fun y5=>bif y5.2==0 then (match y5.1 with | .s0 b _=>some (b,0)) else bif y5.2==1 then (match y5.1 with | .s0 b _=>some (b,0)) else none) _
 obtain ⟨N,hN⟩:=V0 G.gr hI (s:=(a:Int)) (by omega) (by omega);refine Ae.bindU (oO G.gr vA) ⟨N,fun n hn y3 hy=>?_⟩;obtain ⟨l,hl,BA,OB⟩:=hN n hn;have hl:Ft n g (a:Int) inn=some l:=hl;have hr: ∀ v∈l,0<=v/\ v<(g.length:Int):=fun v hv=>((OB v).1 hv).rng G.gr (by omega) (by omega)
 have Cd: ∀ v∈l,v≠(a:Int) -> (inn.set a false).getD v.toNat false=true:=fun v hv Ap=>by
  have h1:=hr v hv;rw [u8,zU (by omega),←u8];exact ((OB v).1 hv).isIn (by rw [yU];exact eX)
 obtain ⟨b,f',c,h1,h2,h3⟩:=aS (n:=n) (some':=some') (a:=(a:Int)) (y3:=y3) hS hy.1 l hr fun v hv Ap=>by
  have h1:=hr v hv;have:=hy.2.1 v.toNat (by omega) (Cd v hv Ap);omega
 rw [hl,yX,h1,yX];refine ⟨(b,0),?_,rfl,?_⟩
 ·rcases h2 with rfl | rfl <;> rfl
 ·show b=true↔_
  rw [h3]
  have key: ∀ u v:Int,u∈l -> v∈l -> u≠a -> (y3.1.getD v.toNat 0=y3.1.getD u.toNat 0↔Rc g (inn.set a false) u v):=fun u v hu hv Ap=>by
   have h1:=hr u hu;have h2:=hr v hv;have:=hy.2.2 u.toNat v.toNat (by omega) (by omega) (Cd u hu Ap)
   rwa [Int.toNat_of_nonneg h1.1,Int.toNat_of_nonneg h2.1] at this
  constructor
  ·rintro ⟨u,hu,v,hv,h4,h5,h6,h7,h8⟩;exact ⟨u,v,h4,h5,h6,h7,(OB u).1 hu,(OB v).1 hv,fun h=>h8 ((key u v hu hv h4).2 h)⟩
  ·rintro ⟨u,v,h4,h5,h6,h7,h8,h9,Mr⟩;have hu:=(OB u).2 h8;have hv:=(OB v).2 h9;exact ⟨u,hu,v,hv,h4,h5,h6,h7,fun h=>Mr ((key u v hu hv h4).1 h)⟩
end
end Go.Proofs.YtgkhhfnhacibcaaGreatDoor
namespace Go.Proofs.YtgkhhfnhacibcaaGreatDoor
abbrev zBK:=@List.countP_singleton
end Go.Proofs.YtgkhhfnhacibcaaGreatDoor
namespace Go.Proofs.YtgkhhfnhacibcaaGreatDoor
open Go.RowKit
def DT (c:AB) (pos:List Int) (a:Nat):Bool:=bits .andNot .i64 (AY c pos a) c.set==0
def D8 (c:AB) (pos:List Int) (a:Nat):Bool:=DT c pos a||(bits .and .i64 (AY c pos a) c.set != 0)
def cnt (p:Nat -> Bool) (i:Nat):Int:=(((List.range i).countP p:Nat):Int)
theorem KD {p:Nat -> Bool} {i:Nat}:cnt p (i+1)=cnt p i+(if p i then 1 else 0):=by
 unfold cnt;rw [List.range_succ,List.countP_append,zBK];split <;> simp
theorem Yk {p:Nat -> Bool} {i:Nat}:0<=cnt p i/\ cnt p i<=i:=by
 unfold cnt;have:=zAk (p:=p) (l:=List.range i);rw [zAl] at this;omega
def KB (c:AB) (pos:List Int):Bool:=!decide (cnt (DT c pos) c.cells.length>c.hi)&&!decide (cnt (D8 c pos) c.cells.length<c.lo)
def HZ (c:AB) (pos:List Int) (a s:Nat):Bool:=
 ((cnt (DT c pos) c.cells.length==c.hi)&&(bits .andNot .i64 (AY c pos a) c.set != 0)&&tb c.set s)||((cnt (D8 c pos) c.cells.length==c.lo)&&(bits .and .i64 (AY c pos a) c.set != 0)&&!tb c.set s)
section
variable {c:AB} {k:Nat} {pos lost:List Int} {q:AA}
theorem wX {n:Nat} {x3 x4:Int} (W:Bs c k pos) (hl:lost.length=pos.length) (h3:x3=cnt (DT c pos) c.cells.length) (h4:x4=cnt (D8 c pos) c.cells.length) (hn:c.cells.length+1<=n):
 ∃ l,IL c q pos pos.length lost n (.l2 x3 x4 0 lost)=some (true,l)/\ B1 c pos lost c.cells.length (fun a s=>HZ c pos a s=true) l:=by
 have lt: ∀ i,i<c.cells.length -> ((i:Nat):Int)<((c.cells.length:Nat):Int):=fun i hi=>by omega
 have T:=Gn (fun n (s:List Int) i=>IL c q pos pos.length lost n (.l2 x3 x4 i s)) c.cells.length 1
  (fun i s=>B1 c pos lost i (fun a s=>HZ c pos a s=true) s) (fun n i s HQ hi hI=>?_) (n:=n) (s:=lost) (by omega) (B1.zero hl)
 ·obtain ⟨n3,l,QW,_,e2,hL⟩:=T;obtain ⟨n4,rfl⟩: ∃ n4,n3=n4+1:=⟨n3-1,by omega⟩;refine ⟨l,e2.trans ?_,hL⟩
  show Q4 n4 (IL c q pos pos.length lost n4) c q pos pos.length lost x3 x4 (c.cells.length:Int) l=_
  unfold Q4;rw [yS (by omega),yO]
 ·have hc:=W.cells i hi;have hr:=W.r64 hi
  have key: ∀ l':List Int,l'.length=pos.length -> (∀ j x,tb (l'.getD j 0) x=(tb (s.getD j 0) x||(decide (j=(c.cells.getD i 0).toNat)&&(tb (pos.getD j 0) x&&HZ c pos i x)))) -> B1 c pos lost (i+1) (fun a s=>HZ c pos a s=true) l':=by
   intro l' h1 h2;refine hI.step h1 fun j x=>?_
   rw [h2,yk,yT,yT,ye];constructor
   ·rintro (h | ⟨rfl,h⟩)
    ·exact .inl h
    ·exact .inr ⟨rfl,h⟩
   ·rintro (h | ⟨rfl,h⟩)
    ·exact .inl h
    ·exact .inr ⟨rfl,h⟩
  obtain ⟨l1,e1,n1,f1⟩:=Jo (lost:=s) (n:=n) (ss:=c.set) (c:=c) (q:=q) hc.1 hc.2 hI.1;obtain ⟨l2,e2,n2,f2⟩:=WP (lost:=l1) (n:=n) (c:=c) (q:=q) hc.1 hc.2 n1;obtain ⟨l3,e3,n3,f3⟩:=WP (lost:=s) (n:=n) (c:=c) (q:=q) hc.1 hc.2 hI.1;have d0:decide ((i:Int)<((c.cells.length:Nat):Int))=true:=yW (lt i hi);have g0:(0:Int)<=(i:Int)/\ (i:Int)<((c.cells.length:Nat):Int):=⟨by omega,lt i hi⟩
  show ∃ s',Q4 n (IL c q pos pos.length lost n) c q pos pos.length lost x3 x4 (i:Int) s=_/\ _
  unfold Q4;rw [d0,yV,yP g0];simp only [yU];have X: ∀ x,HZ c pos i x=(((x3==c.hi)&&(bits .andNot .i64 (pos.getD (c.cells.getD i 0).toNat 0) c.set != 0)&&tb c.set x)||((x4==c.lo)&&(bits .and .i64 (pos.getD (c.cells.getD i 0).toNat 0) c.set != 0)&&!tb c.set x)):=fun x=>by rw [h3,h4];rfl
  cases hA:(x3==c.hi) <;> cases hC:(x4==c.lo) <;> cases hB:(bits .andNot .i64 (pos.getD (c.cells.getD i 0).toNat 0) c.set != 0) <;> cases hE:(bits .and .i64 (pos.getD (c.cells.getD i 0).toNat 0) c.set != 0) <;>
   simp only [hA,hB,hC,hE,zJ,z2,zAs,Bool.and_true,zz,zAG] at X <;>
   simp only [yV,yO,yP hc,e1,e2,e3,yX,yP hr.2]
  all_goals first
   | exact ⟨s,rfl,key s hI.1 fun j x=>by rw [X,zAs,zAs,zz]⟩
   | exact ⟨l1,rfl,key l1 n1 fun j x=>by rw [f1,X]⟩
   | exact ⟨l3,rfl,key l3 n3 fun j x=>by rw [f3,X]⟩
   | exact ⟨l2,rfl,key l2 n2 fun j x=>by
    rw [f2,f1,X];cases tb (s.getD j 0) x <;> cases decide (j=(c.cells.getD i 0).toNat) <;> cases tb (pos.getD j 0) x <;> cases tb c.set x <;> rfl⟩
theorem wY {n:Nat} (W:Bs c k pos) (hl:lost.length=pos.length) (hn:2*c.cells.length+3<=n):
 ∃ l,Ob n c q pos pos.length lost=some (KB c pos,l)/\ (KB c pos=true -> B1 c pos lost c.cells.length (fun a s=>HZ c pos a s=true) l):=by
 have lt: ∀ i,i<c.cells.length -> ((i:Nat):Int)<((c.cells.length:Nat):Int):=fun i hi=>by omega
 have S:=Gn (fun n (s:Int×Int) i=>IL c q pos pos.length lost n (.l1 s.1 s.2 i)) c.cells.length (c.cells.length+3)
  (fun i s=>s.1=cnt (DT c pos) i/\ s.2=cnt (D8 c pos) i) (fun n i s _ hi hI=>?_) (n:=n) (s:=(0,0)) (by omega) ⟨rfl,rfl⟩
 ·obtain ⟨n1,⟨x3,x4⟩,F6,_,e1,h3,h4⟩:=S;obtain ⟨n2,rfl⟩: ∃ n2,n1=n2+1:=⟨n1-1,by omega⟩;have e2:Ob n c q pos pos.length lost=Q5 n2 (IL c q pos pos.length lost n2) c q pos pos.length lost x3 x4 (c.cells.length:Int):=e1;have h3:x3=cnt (DT c pos) c.cells.length:=h3;have h4:x4=cnt (D8 c pos) c.cells.length:=h4;unfold Q5 at e2;rw [yS (by omega),yO] at e2;unfold KB;rw [←h3,←h4];cases h5:decide (x3>c.hi)
  ·cases h6:decide (x4<c.lo)
   ·obtain ⟨l,e3,hL⟩:=wX (q:=q) (n:=n2) W hl h3 h4 (by omega);rw [h5,h6,yO,yO,e3] at e2;exact ⟨l,e2,fun _=>hL⟩
   ·rw [h5,h6,yO,yV] at e2;exact ⟨lost,e2,fun h=>by cases h⟩
  ·rw [h5,yV] at e2;exact ⟨lost,e2,fun h=>by cases h⟩
 ·obtain ⟨x3,x4⟩:=s;obtain ⟨h3,h4⟩:=hI;simp only at h3 h4;have hc:=W.cells i hi;have hr:=W.r64 hi;have b3:=Yk (p:=DT c pos) (i:=i);have b4:=Yk (p:=D8 c pos) (i:=i);have Ay:=W.len;have r3:AL (x3+1):=A2.2 ⟨by omega,by omega⟩;have r4:AL (x4+1):=A2.2 ⟨by omega,by omega⟩
  show ∃ s',Q5 n (IL c q pos pos.length lost n) c q pos pos.length lost x3 x4 (i:Int)=_/\ _
  unfold Q5;rw [yW (lt i hi),yV];simp only [yU];rw [yP ⟨⟨by omega,lt i hi⟩,hc⟩];have m1:(bits .andNot .i64 (pos.getD (c.cells.getD i 0).toNat 0) c.set==0)=DT c pos i:=rfl;have m2:(DT c pos i||(bits .and .i64 (pos.getD (c.cells.getD i 0).toNat 0) c.set != 0))=D8 c pos i:=rfl;rw [m1];cases hm:DT c pos i
  ·rw [hm,zAG] at m2;rw [yO,m2];cases hy:D8 c pos i
   ·rw [yO,yP hr.2];exact ⟨(x3,x4),rfl,by rw [KD,hm];simpa using h3,by rw [KD,hy];simpa using h4⟩
   ·rw [yV,yP ⟨r4,hr.2⟩];exact ⟨(x3,x4+1),rfl,by rw [KD,hm];simpa using h3,by rw [KD,hy];simpa using h4⟩
  ·have hy:D8 c pos i=true:=by rw [←m2,hm];rfl
   rw [yV,yP ⟨r3,r4,hr.2⟩];exact ⟨(x3+1,x4+1),rfl,by rw [KD,hm];simpa using h3,by rw [KD,hy];simpa using h4⟩
end
end Go.Proofs.YtgkhhfnhacibcaaGreatDoor
namespace Go.Proofs.YtgkhhfnhacibcaaGreatDoor
abbrev zH:=@Nat.lt_of_not_le
end Go.Proofs.YtgkhhfnhacibcaaGreatDoor
namespace Go.Proofs.YtgkhhfnhacibcaaGreatDoor
open Go.RowKit
theorem jU (x:Int) (i:Nat):tb (IntKind.i64.wrap x) i=tb x i:=by unfold tb;rw [Pu]
theorem Hi {s:Nat} (hs:s<64) (i:Nat):tb (IntKind.i64.wrap (1*2 ^ s)) i=decide (s=i):=by
 rw [jU,Int.one_mul];rcases zt i 64 with h | h
 ·have e:((2 ^ s:Nat):Int)=(2:Int) ^ s:=by simp
  rw [←e];exact jV h
 ·rw [IZ h,yS (by omega)]
theorem Eg {k:Nat} {x:Int} (h:Sm k x) (hk:k<=62) {e:Int}:e∈BK x↔∃ s:Nat,e=(s:Int)/\ s<k/\ tb x s=true:=by
 obtain ⟨m,rfl⟩:=zAJ h.1;unfold BK EJ;simp only [zh,zAQ,yh,yU];constructor
 ·rintro ⟨s,⟨h1,h2⟩,rfl⟩;have h3:tb (m:Int) s=true:=by rw [Hj m s h1];exact h2
  refine ⟨s,rfl,?_,h3⟩;refine zH fun CR=>?_
  rw [h.hi CR] at h3;cases h3
 ·rintro ⟨s,rfl,h1,h2⟩;exact ⟨s,⟨by omega,by rw [Hj m s (by omega)] at h2;exact h2⟩,rfl⟩
theorem UH {α σ:Type} {f:α -> σ -> Option σ} (Inv:List α -> σ -> Prop): ∀ (l pre:List α) (s:σ),Inv pre s -> (∀ pre x s,x∈l -> Inv pre s -> ∃ s',f x s=some s'/\ Inv (pre++[x]) s') -> ∃ s',By f l s=some s'/\ Inv (pre++l) s'
 | [],pre,s,h,_=>⟨s,rfl,by rw [zAK];exact h⟩
 | x::l,pre,s,h,hs=>by
  obtain ⟨s',h1,h2⟩:=hs pre x s (.head _) h;obtain ⟨s2,h3,h4⟩:=UH Inv l (pre++[x]) s' h2 fun pre y s hy=>hs pre y s (.tail _ hy)
  refine ⟨s2,?_,by rw [zAn] at h4;exact h4⟩;simp only [By];rw [h1,yX,h3]
structure DY (q:AA) (k:Nat):Prop where
 len:k<=q.values.length
 val: ∀ s,s<k -> 0<=q.values.getD s 0/\ q.values.getD s 0<=99
def It (q:AA) (a e:Int):Int:=if q.values.getD e.toNat 0<a then q.values.getD e.toNat 0 else a
def I3 (q:AA) (a e:Int):Int:=if q.values.getD e.toNat 0>a then q.values.getD e.toNat 0 else a
def Dt (q:AA) (x:Int):Int:=(BK x).foldl (It q) 100
def Dw (q:AA) (x:Int):Int:=(BK x).foldl (I3 q) (-1)
section
variable {c:AB} {k:Nat} {pos lost:List Int} {q:AA}
theorem dI: ∀ (l:List Int) (a:Int),(∀ e∈l,0<=q.values.getD e.toNat 0/\ q.values.getD e.toNat 0<=99) -> 0<=a/\ a<=100 -> 0<=l.foldl (It q) a/\ l.foldl (It q) a<=100
 | [],_,_,h=>h
 | e::l,a,hv,h=>by
  have:=hv e (.head _);refine dI l (It q a e) (fun e he=>hv e (.tail _ he)) ?_;unfold It;split <;> omega
theorem eY: ∀ (l:List Int) (a:Int),(∀ e∈l,0<=q.values.getD e.toNat 0/\ q.values.getD e.toNat 0<=99) -> -1<=a/\ a<=99 -> -1<=l.foldl (I3 q) a/\ l.foldl (I3 q) a<=99
 | [],_,_,h=>h
 | e::l,a,hv,h=>by
  have:=hv e (.head _);refine eY l (I3 q a e) (fun e he=>hv e (.tail _ he)) ?_;unfold I3;split <;> omega
theorem DY.sym (V:DY q k) (hk:k<=16) {x:Int} (h:Sm k x): ∀ e∈BK x,(0<=e/\ e<((q.values.length:Nat):Int))/\ 0<=q.values.getD e.toNat 0/\ q.values.getD e.toNat 0<=99:=by
 intro e he;obtain ⟨s,rfl,h1,_⟩:=(Eg h (yf hk (by decide))).1 he;have:=V.len;rw [yU];exact ⟨by omega,V.val s h1⟩
theorem DY.lo (V:DY q k) (hk:k<=16) {x:Int} (h:Sm k x):0<=Dt q x/\ Dt q x<=100:=dI _ _ (fun e he=>(V.sym hk h e he).2) (by decide)
theorem DY.hi (V:DY q k) (hk:k<=16) {x:Int} (h:Sm k x): -1<=Dw q x/\ Dw q x<=99:=eY _ _ (fun e he=>(V.sym hk h e he).2) (by decide)
theorem gC {n ln:Nat}: ∀ (l:List Int) (a b:Int),(∀ e∈l,0<=e/\ e<((q.values.length:Nat):Int)) -> By (Qt n c q pos ln lost) l (.s0 a b)=some (.s0 (l.foldl (It q) a) (l.foldl (I3 q) b))
 | [],_,_,_=>rfl
 | e::l,a,b,h=>by
  have e1:Qt n c q pos ln lost e (.s0 a b)=some (.s0 (It q a e) (I3 q b e)):=by
   unfold Qt gE gF
   dsimp only
   rw [yP (h e (.head _))];rfl
  simp only [By];rw [e1,yX,gC l _ _ fun e he=>h e (.tail _ he)];rfl
theorem gB {n ln:Nat} (V:DY q k) (hk:k<=16) {x:Int} (h:Sm k x):Qu n x c q pos ln lost=some (Dt q x,Dw q x,lost):=by
 have YF:=Ko (k:=k) (yf hk (by decide));have h2:=h.2;unfold Qu gD;rw [yP ⟨h.1,by omega⟩,gC (BK x) 100 (-1) fun e he=>(V.sym hk h e he).1];rfl
def CJ (f:Nat -> Int):Nat -> Int
 | 0=>0
 | i+1=>CJ f i+f i
theorem NG {f:Nat -> Int}: ∀ (i:Nat),(∀ a,a<i -> -1<=f a/\ f a<=100) -> -(i:Int)<=CJ f i/\ CJ f i<=100*(i:Int)
 | 0,_=>by simp [CJ]
 | i+1,h=>by
  have h1:=NG i fun a ha=>h a (by omega)
  have h2:=h i (by omega);simp only [CJ];omega
def Is (q:AA) (c:AB) (pos:List Int):Int:=CJ (fun a=>Dt q (AY c pos a)) c.cells.length
def I2 (q:AA) (c:AB) (pos:List Int):Int:=CJ (fun a=>Dw q (AY c pos a)) c.cells.length
def JV (q:AA) (c:AB) (pos:List Int):Bool:=!decide (Is q c pos>c.hi)&&!decide (I2 q c pos<c.lo)
def HA (q:AA) (c:AB) (pos:List Int) (a s:Nat):Bool:=
 decide (Is q c pos-Dt q (AY c pos a)+q.values.getD s 0>c.hi)||decide (I2 q c pos-Dw q (AY c pos a)+q.values.getD s 0<c.lo)
theorem dF {T:Type} {n:Nat} (W:Bs c k pos) {i:Nat} (hi:i<c.cells.length) (hl:lost.length=pos.length) (mk:List Int -> T) (f:Int -> T -> Option T) (X:Nat -> Bool)
 (hf: ∀ (s:Nat) (l:List Int),s<k -> l.length=pos.length -> f (s:Int) (mk l)=bif X s then (DA n (c.cells.getD i 0) (IntKind.i64.wrap (1*2 ^ s)) c q pos pos.length l).map mk else some (mk l)):
 ∃ l',By f (BK (AY c pos i)) (mk lost)=some (mk l')/\ l'.length=pos.length/\
  ∀ j s,tb (l'.getD j 0) s=true↔tb (lost.getD j 0) s=true∨((c.cells.getD i 0).toNat=j/\ tb (AY c pos i) s=true/\ X s=true):=by
 have hc:=W.cells i hi;have Cb:=W.at hi;have hk:=W.k
 have key:=UH (f:=f)
  (fun pre s=>∃ l',s=mk l'/\ l'.length=pos.length/\ ∀ j s,tb (l'.getD j 0) s=true↔tb (lost.getD j 0) s=true∨((c.cells.getD i 0).toNat=j/\ tb (AY c pos i) s=true/\ (s:Int)∈pre/\ X s=true))
  (BK (AY c pos i)) [] (mk lost) ⟨lost,rfl,hl,fun j s=>⟨.inl,fun h=>h.elim id fun h=>(by cases h.2.2.1)⟩⟩ ?_
 ·obtain ⟨_,h1,l',rfl,h2,h3⟩:=key;refine ⟨l',h1,h2,fun j s=>?_⟩;rw [h3,zw];constructor
  ·rintro (h | ⟨a1,a2,_,a3⟩)
   ·exact .inl h
   ·exact .inr ⟨a1,a2,a3⟩
  ·rintro (h | ⟨a1,a2,a3⟩)
   ·exact .inl h
   ·refine .inr ⟨a1,a2,(Eg Cb (yf hk (by decide))).2 ⟨s,rfl,zH fun CR=>?_,a2⟩,a3⟩;rw [Cb.hi CR] at a2;cases a2
 ·rintro pre e _ he ⟨l',rfl,h2,h3⟩;obtain ⟨s,rfl,hs,hbit⟩:=(Eg Cb (yf hk (by decide))).1 he;rw [hf s l' hs h2];cases hx:X s
  ·rw [yO];refine ⟨_,rfl,l',rfl,h2,fun j x=>?_⟩;rw [h3];constructor
   ·rintro (h | ⟨a1,a2,a3,a4⟩)
    ·exact .inl h
    ·exact .inr ⟨a1,a2,zA _ a3,a4⟩
   ·rintro (h | ⟨a1,a2,a3,a4⟩)
    ·exact .inl h
    ·rcases zP.1 a3 with a3 | a3
     ·exact .inr ⟨a1,a2,a3,a4⟩
     ·have:x=s:=by have:=yp.1 a3;omega
      subst this;rw [hx] at a4;cases a4
  ·obtain ⟨l2,e2,n2,f2⟩:=Jo (lost:=l') (n:=n) (ss:=IntKind.i64.wrap (1*2 ^ s)) (c:=c) (q:=q) hc.1 hc.2 h2;rw [yV,e2,zD];refine ⟨_,rfl,l2,rfl,n2,fun j x=>?_⟩;rw [f2,yk,yT,yT,ye,h3,Hi (by omega),ye];constructor
   ·rintro ((h | ⟨a1,a2,a3,a4⟩) | ⟨rfl,a2,rfl⟩)
    ·exact .inl h
    ·exact .inr ⟨a1,a2,zA _ a3,a4⟩
    ·exact .inr ⟨rfl,a2,zQ _ (.head _),hx⟩
   ·rintro (h | ⟨a1,a2,a3,a4⟩)
    ·exact .inl (.inl h)
    ·rcases zP.1 a3 with a3 | a3
     ·exact .inl (.inr ⟨a1,a2,a3,a4⟩)
     ·have:x=s:=by have:=yp.1 a3;omega
      subst this;subst a1;exact .inr ⟨rfl,a2,rfl⟩
theorem jr {n:Nat} (W:Bs c k pos) (V:DY q k) {i:Nat} (hi:i<c.cells.length) {low high:Int} (Tu:low=Is q c pos) (ea:high=I2 q c pos) (hl:lost.length=pos.length):
 ∃ l',By (Ru n c (i:Int) q pos pos.length low high (Dt q (AY c pos i),Dw q (AY c pos i),lost)) (BK (AY c pos i)) (.s0 lost)=some (.s0 l')/\ l'.length=pos.length/\
  ∀ j s,tb (l'.getD j 0) s=true↔tb (lost.getD j 0) s=true∨((c.cells.getD i 0).toNat=j/\ tb (AY c pos i) s=true/\ HA q c pos i s=true):=by
 have hc:=W.cells i hi;have Cb:=W.at hi;have hk:=W.k;have Ay:=W.len;have bl:=V.lo hk Cb;have bh:=V.hi hk Cb;have tl:=NG (f:=fun a=>Dt q (AY c pos a)) c.cells.length fun a ha=>by have:=V.lo hk (W.at ha);omega
 have th:=NG (f:=fun a=>Dw q (AY c pos a)) c.cells.length fun a ha=>by have:=V.hi hk (W.at ha);omega
 have tl: -(c.cells.length:Int)<=low/\ low<=100*(c.cells.length:Int):=by rw [Tu];exact tl
 have th: -(c.cells.length:Int)<=high/\ high<=100*(c.cells.length:Int):=by rw [ea];exact th
 refine dF (n:=n) (q:=q) W hi hl JU.s0 _ (HA q c pos i) fun s l hs hl=>?_
 have hv:=V.val s hs;have GN:=V.len;have r1:AL (low-Dt q (AY c pos i)):=A2.2 ⟨by omega,by omega⟩;have r2:AL (low-Dt q (AY c pos i)+q.values.getD s 0):=A2.2 ⟨by omega,by omega⟩;have r3:AL (high-Dw q (AY c pos i)):=A2.2 ⟨by omega,by omega⟩;have r4:AL (high-Dw q (AY c pos i)+q.values.getD s 0):=A2.2 ⟨by omega,by omega⟩;have g1:(0:Int)<=(s:Int)/\ (s:Int)<((q.values.length:Nat):Int):=by omega
 have g2:(0:Int)<=(s:Int)/\ (s:Int)<=((IntKind.i64.bits:Nat):Int):=⟨by omega,by show (s:Int)<=64;omega⟩;obtain ⟨l2,e2,_,_⟩:=Jo (lost:=l) (n:=n) (ss:=IntKind.i64.wrap (1*2 ^ s)) (c:=c) (q:=q) hc.1 hc.2 hl;have X:HA q c pos i s=(decide (low-Dt q (AY c pos i)+q.values.getD s 0>c.hi)||decide (high-Dw q (AY c pos i)+q.values.getD s 0<c.lo)):=by rw [Tu,ea];rfl
 rw [X];unfold Ru aK Rt
 dsimp only
 simp only [yU];rw [yP ⟨g1,r1,r2⟩];cases hA:decide (low-Dt q (AY c pos i)+q.values.getD s 0>c.hi)
 ·rw [yO,yP ⟨r3,r4⟩,zAG];cases hB:decide (high-Dw q (AY c pos i)+q.values.getD s 0<c.lo)
  ·rfl
  ·rw [yV,yV,yP g2,e2];rfl
 ·rw [yV,Bool.true_or,yV,yP g2,e2];rfl
theorem jl {n:Nat} (W:Bs c k pos) (V:DY q k) (hl:lost.length=pos.length) (hn:c.cells.length+1<=n):
 ∃ l,Hm c q pos pos.length lost n (.l2 0 lost (Is q c pos) (I2 q c pos))=some (true,l)/\ B1 c pos lost c.cells.length (fun a s=>HA q c pos a s=true) l:=by
 have lt: ∀ i,i<c.cells.length -> ((i:Nat):Int)<((c.cells.length:Nat):Int):=fun i hi=>by omega
 have T:=Gn (fun n (s:List Int) i=>Hm c q pos pos.length lost n (.l2 i s (Is q c pos) (I2 q c pos))) c.cells.length 1
  (fun i s=>B1 c pos lost i (fun a s=>HA q c pos a s=true) s) (fun n i s HQ hi hI=>?_) (n:=n) (s:=lost) (by omega) (B1.zero hl)
 ·obtain ⟨n3,l,QW,_,e2,hL⟩:=T;obtain ⟨n4,rfl⟩: ∃ n4,n3=n4+1:=⟨n3-1,by omega⟩;refine ⟨l,e2.trans ?_,hL⟩
  show O1 n4 (Hm c q pos pos.length lost n4) c q pos pos.length lost (c.cells.length:Int) l _ _=_
  unfold O1;rw [yS (by omega),yO]
 ·have hc:=W.cells i hi;have hr:=W.r64 hi;have Cb:=W.at hi;have YF:=Ko (k:=k) (yf W.k (by decide));have Ju:=Cb.2;obtain ⟨l',e1,n1,f1⟩:=jr (n:=n) W V hi rfl rfl hI.1
  show ∃ s',O1 n (Hm c q pos pos.length lost n) c q pos pos.length lost (i:Int) s _ _=_/\ _
  unfold O1;rw [yW (lt i hi),yV];simp only [yU];have sa:pos.getD (c.cells.getD i 0).toNat 0=AY c pos i:=rfl;rw [yP ⟨⟨by omega,lt i hi⟩,hc⟩,sa,gB V W.k Cb,yX,yP ⟨Cb.1,by show AY c pos i<_;omega⟩];refine ⟨l',?_,hI.step n1 f1⟩;refine (congrArg (fun z=>Option.bind z _) e1).trans ?_;rw [yX];simp only;rw [yP hr.2]
theorem jm {n:Nat} (W:Bs c k pos) (V:DY q k) (hl:lost.length=pos.length) (hn:2*c.cells.length+3<=n):
 ∃ l,NJ n c q pos pos.length lost=some (JV q c pos,l)/\ (JV q c pos=true -> B1 c pos lost c.cells.length (fun a s=>HA q c pos a s=true) l):=by
 have lt: ∀ i,i<c.cells.length -> ((i:Nat):Int)<((c.cells.length:Nat):Int):=fun i hi=>by omega
 have S:=Gn (fun n (s:List Int×Int×Int) i=>Hm c q pos pos.length lost n (.l1 i s.1 s.2.1 s.2.2)) c.cells.length (c.cells.length+3)
  (fun i s=>s.1=lost/\ s.2.1=CJ (fun a=>Dt q (AY c pos a)) i/\ s.2.2=CJ (fun a=>Dw q (AY c pos a)) i) (fun n i s _ hi hI=>?_) (n:=n) (s:=(lost,0,0)) (by omega) ⟨rfl,rfl,rfl⟩
 ·obtain ⟨n1,⟨l0,x3,x4⟩,F6,_,e1,h0,h3,h4⟩:=S;obtain ⟨n2,rfl⟩: ∃ n2,n1=n2+1:=⟨n1-1,by omega⟩;obtain rfl:l0=lost:=h0;obtain rfl:x3=Is q c pos:=h3;obtain rfl:x4=I2 q c pos:=h4;have e2:NJ n c q pos pos.length l0=O2 n2 (Hm c q pos pos.length l0 n2) c q pos pos.length l0 (c.cells.length:Int) l0 (Is q c pos) (I2 q c pos):=e1;unfold O2 at e2;rw [yS (by omega),yO] at e2;unfold JV;cases h5:decide (Is q c pos>c.hi)
  ·cases h6:decide (I2 q c pos<c.lo)
   ·obtain ⟨l,e3,hL⟩:=jl (n:=n2) W V hl (by omega);rw [h5,h6,yO,yO,e3] at e2;exact ⟨l,e2,fun _=>hL⟩
   ·rw [h5,h6,yO,yV] at e2;exact ⟨l0,e2,fun h=>by cases h⟩
  ·rw [h5,yV] at e2;exact ⟨l0,e2,fun h=>by cases h⟩
 ·obtain ⟨l0,x3,x4⟩:=s;obtain ⟨h0,h3,h4⟩:=hI;simp only at h0 h3 h4;have hc:=W.cells i hi;have hr:=W.r64 hi;have Cb:=W.at hi;have b3:=NG (f:=fun a=>Dt q (AY c pos a)) i fun a ha=>by have:=V.lo W.k (W.at (Nat.lt_trans ha hi));omega
  have b4:=NG (f:=fun a=>Dw q (AY c pos a)) i fun a ha=>by have:=V.hi W.k (W.at (Nat.lt_trans ha hi));omega
  have bl:=V.lo W.k Cb;have bh:=V.hi W.k Cb;have Ay:=W.len;rw [←h3] at b3;rw [←h4] at b4;have r3:AL (x3+Dt q (AY c pos i)):=A2.2 ⟨by omega,by omega⟩;have r4:AL (x4+Dw q (AY c pos i)):=A2.2 ⟨by omega,by omega⟩
  show ∃ s',O2 n (Hm c q pos pos.length lost n) c q pos pos.length lost (i:Int) l0 x3 x4=_/\ _
  unfold O2;rw [yW (lt i hi),yV];simp only [yU];have sa:pos.getD (c.cells.getD i 0).toNat 0=AY c pos i:=rfl;rw [yP ⟨⟨by omega,lt i hi⟩,hc⟩,sa,gB V W.k Cb,yX,yP ⟨r3,r4,hr.2⟩];exact ⟨(l0,x3+Dt q (AY c pos i),x4+Dw q (AY c pos i)),rfl,h0,by simp only [CJ];rw [h3],by simp only [CJ];rw [h4]⟩
end
end Go.Proofs.YtgkhhfnhacibcaaGreatDoor
namespace Go.Proofs.YtgkhhfnhacibcaaGreatDoor
open Go.RowKit
set_option maxRecDepth 100000
set_option maxHeartbeats 40000000
def Z8:ST:=.rd 0 (.rd 1 (.rd 3 (.rd 4 (.ef 2 (.ef 5 (.ef 6 (.ef 7 (.ef 8 (.ef 9 (.fin [0,1,2,3] [1,3,4,5,58,91,92,104,148]) (.no)) (.no)) (.no)) (.ef 7 (.ef 6 (.ef 8 (.ef 9 (.fin [0,1,3,2] [1,3,4,5,58,91,92,104,148]) (.no)) (.no)) (.no)) (.no))) (.ef 6 (.ef 5 (.ef 7 (.ef 8 (.ef 9 (.fin [0,2,1,3] [1,3,4,5,58,91,92,104,148]) (.no)) (.no)) (.no)) (.ef 7 (.ef 5 (.ef 8 (.ef 9 (.fin [0,3,1,2] [1,3,4,5,58,91,92,104,148]) (.no)) (.no)) (.ef 8 (.ef 5 (.ef 9 (.fin [0,3,1,2] [1,3,4,5,58,91,92,104,148]) (.no)) (.no)) (.no))) (.no))) (.ef 7 (.ef 5 (.ef 6 (.ef 8 (.ef 9 (.fin [0,2,3,1] [1,3,4,5,58,91,92,104,148]) (.no)) (.no)) (.no)) (.ef 6 (.ef 5 (.ef 8 (.ef 9 (.fin [0,3,2,1] [1,3,4,5,58,91,92,104,148]) (.no)) (.no)) (.ef 8 (.ef 5 (.ef 9 (.fin [0,3,2,1] [1,3,4,5,58,91,92,104,148]) (.no)) (.no)) (.no))) (.no))) (.no)))) (.ef 5 (.ef 2 (.ef 6 (.ef 7 (.ef 8 (.ef 9 (.fin [1,0,2,3] [1,3,4,5,58,91,92,104,148]) (.no)) (.no)) (.no)) (.ef 7 (.ef 6 (.ef 8 (.ef 9 (.fin [1,0,3,2] [1,3,4,5,58,91,92,104,148]) (.no)) (.no)) (.no)) (.no))) (.ef 6 (.ef 2 (.ef 7 (.ef 8 (.ef 9 (.fin [2,0,1,3] [1,3,4,5,58,91,92,104,148]) (.no)) (.no)) (.no)) (.ef 7 (.ef 2 (.ef 8 (.ef 9 (.fin [3,0,1,2] [1,3,4,5,58,91,92,104,148]) (.no)) (.no)) (.no)) (.no))) (.ef 7 (.ef 2 (.ef 6 (.ef 8 (.ef 9 (.fin [2,0,3,1] [1,3,4,5,58,91,92,104,148]) (.no)) (.no)) (.no)) (.ef 6 (.ef 2 (.ef 8 (.ef 9 (.fin [3,0,2,1] [1,3,4,5,58,91,92,104,148]) (.no)) (.no)) (.no)) (.no))) (.no)))) (.ef 6 (.ef 2 (.ef 5 (.ef 7 (.ef 8 (.ef 9 (.fin [1,2,0,3] [1,3,4,5,58,91,92,104,148]) (.no)) (.no)) (.no)) (.ef 7 (.ef 5 (.ef 8 (.ef 9 (.fin [1,3,0,2] [1,3,4,5,58,91,92,104,148]) (.no)) (.no)) (.ef 8 (.ef 5 (.ef 9 (.fin [1,3,0,2] [1,3,4,5,58,91,92,104,148]) (.no)) (.no)) (.no))) (.no))) (.ef 5 (.ef 2 (.ef 7 (.ef 8 (.ef 9 (.fin [2,1,0,3] [1,3,4,5,58,91,92,104,148]) (.no)) (.no)) (.no)) (.ef 7 (.ef 2 (.ef 8 (.ef 9 (.fin [3,1,0,2] [1,3,4,5,58,91,92,104,148]) (.no)) (.no)) (.no)) (.no))) (.ef 7 (.ef 2 (.ef 5 (.ef 8 (.ef 9 (.fin [2,3,0,1] [1,3,4,5,58,91,92,104,148]) (.no)) (.no)) (.ef 8 (.ef 5 (.ef 9 (.fin [2,3,0,1] [1,3,4,5,58,91,92,104,148]) (.no)) (.no)) (.no))) (.ef 5 (.ef 2 (.ef 8 (.ef 9 (.fin [3,2,0,1] [1,3,4,5,58,91,92,104,148]) (.no)) (.no)) (.no)) (.no))) (.no)))) (.ef 7 (.ef 2 (.ef 5 (.ef 6 (.ef 8 (.ef 9 (.fin [1,2,3,0] [1,3,4,5,58,91,92,104,148]) (.no)) (.no)) (.no)) (.ef 6 (.ef 5 (.ef 8 (.ef 9 (.fin [1,3,2,0] [1,3,4,5,58,91,92,104,148]) (.no)) (.no)) (.ef 8 (.ef 5 (.ef 9 (.fin [1,3,2,0] [1,3,4,5,58,91,92,104,148]) (.no)) (.no)) (.no))) (.no))) (.ef 5 (.ef 2 (.ef 6 (.ef 8 (.ef 9 (.fin [2,1,3,0] [1,3,4,5,58,91,92,104,148]) (.no)) (.no)) (.no)) (.ef 6 (.ef 2 (.ef 8 (.ef 9 (.fin [3,1,2,0] [1,3,4,5,58,91,92,104,148]) (.no)) (.no)) (.no)) (.no))) (.ef 6 (.ef 2 (.ef 5 (.ef 8 (.ef 9 (.fin [2,3,1,0] [1,3,4,5,58,91,92,104,148]) (.no)) (.no)) (.ef 8 (.ef 5 (.ef 9 (.fin [2,3,1,0] [1,3,4,5,58,91,92,104,148]) (.no)) (.no)) (.no))) (.ef 5 (.ef 2 (.ef 8 (.ef 9 (.fin [3,2,1,0] [1,3,4,5,58,91,92,104,148]) (.no)) (.no)) (.no)) (.no))) (.no)))) (.no))))))))
theorem lU:CF (BG Tryz.f71 2) [2,5,6,7,8] Z8:=by unfold CF;kernel_rfl
def Z7:ST:=.rd 0 (.rd 1 (.rd 2 (.rd 3 (.ef 4 (.rd 5 (.ef 6 (.fin [] [1,4,5,58,91,92,104,148]) (.no))) (.no)))))
theorem lR:CF (BG Tryz.f71 3) [4] Z7:=by unfold CF;kernel_rfl
theorem lV:A0 (BG Tryz.f71 12) [] (List.range 11) [11]:=by unfold A0;kernel_rfl
theorem lT:A0 (BG Tryz.f71 22) [] (List.range 9) [9]:=by unfold A0;kernel_rfl
theorem lS:A0 (BG Tryz.f71 26) [([0,1,2,3,4,5,6],7)] [] []:=by unfold A0;kernel_rfl
def Z6:ST:=.rd 0 (.rd 1 (.rd 2 (.rd 3 (.ef 4 (.fin [] [2]) (.no)))))
theorem ar:CF (BG Tryz.f71 30) [] Z6:=by unfold CF;kernel_rfl
def D4:Bh:=fun i=>match i with
 | 2=>.tre [2,5,6,7,8] Z8
 | 3=>.tre [4] Z7
 | 12=>.ord [] (List.range 11) [11]
 | 22=>.ord [] (List.range 9) [9]
 | 26=>.ord [([0,1,2,3,4,5,6],7)] [] []
 | 30=>.tre [] Z6
 | _=>.no
def CX (c:AB) (q:AA) (pos:List Int) (ln:Nat) (lost:List Int):St:=⟨(AM 178 [(1,.ref 2 0),(3,.i (c.cells.length:Int)),(4,.ref 5 0),(5,.ref 6 0)]),([some (.cells (AG c++AE q++[.ints pos,.msl 1 1 0 ln])),some (.ints lost),some (.cells [.ref 0 0]),some (.ints (List.replicate ((((c.cells.length:Int)+1)).toNat) (0:Int))),some (.ints (List.replicate ((((c.cells.length:Int)+1)).toNat) (0:Int))),some (.cells [.msl 3 1 0 ((((c.cells.length:Int)+1)).toNat)]),some (.cells [.msl 4 1 0 ((((c.cells.length:Int)+1)).toNat)])]:DH)⟩
def Zo (c:AB) (q:AA) (pos:List Int) (ln:Nat) (lost:List Int):St:=⟨(AM 178 [(1,.ref 2 0),(4,.ref 5 0),(5,.ref 6 0)]),([some (.cells (AG c++AE q++[.ints pos,.msl 1 1 0 ln])),some (.ints lost),some (.cells [.ref 0 0]),some (.ints ((List.replicate ((((c.cells.length:Int)+1)).toNat) (0:Int)).set (0+0) (-1))),some (.ints ((List.replicate ((((c.cells.length:Int)+1)).toNat) (0:Int)).set (0+c.cells.length) 100)),some (.cells [.msl 3 1 0 ((((c.cells.length:Int)+1)).toNat)]),some (.cells [.msl 4 1 0 ((((c.cells.length:Int)+1)).toNat)])]:DH)⟩
def tE (c:AB) (q:AA) (pos:List Int) (ln:Nat) (lost o4:List Int) (BP:Int):DH:=[some (.cells (AG c++AE q++[.ints pos,.msl 1 1 0 ln])),some (.ints lost),some (.cells [.ref 0 0]),some (.cells [.msl 4 1 0 ((((c.cells.length:Int)+1)).toNat)]),some (.ints (o4.set (0+(((BP+1)).toNat)) 100)),some (.cells [.msl 6 1 0 ((((c.cells.length:Int)+1)).toNat)]),some (.ints ((List.replicate ((((c.cells.length:Int)+1)).toNat) (0:Int)).set (0+c.cells.length) 100)),some (.cells [.i BP])]
def tD (c:AB) (q:AA) (pos:List Int) (ln:Nat) (lost:List Int) (BP:Int) (o4:List Int):DH:=[some (.cells (AG c++AE q++[.ints pos,.msl 1 1 0 ln])),some (.ints lost),some (.cells [.ref 0 0]),some (.cells [.msl 7 1 0 ((((c.cells.length:Int)+1)).toNat)]),some (.cells [.msl 8 1 0 ((((c.cells.length:Int)+1)).toNat)]),some (.cells [.i BP]),some (.iter ((BK (pos.getD ((c.cells.getD ((BP).toNat) 0).toNat) 0)).map BV)),some (.ints (o4.set (0+(((BP+1)).toNat)) 100)),some (.ints ((List.replicate ((((c.cells.length:Int)+1)).toNat) (0:Int)).set (0+c.cells.length) 100))]
def tC (c:AB) (q:AA) (pos:List Int) (ln:Nat) (lost o4:List Int):DH:=[some (.cells (AG c++AE q++[.ints pos,.msl 1 1 0 ln])),some (.ints lost),some (.cells [.ref 0 0]),some (.cells [.msl 4 1 0 ((((c.cells.length:Int)+1)).toNat)]),some (.ints o4),some (.cells [.msl 6 1 0 ((((c.cells.length:Int)+1)).toNat)]),some (.ints ((List.replicate ((((c.cells.length:Int)+1)).toNat) (0:Int)).set (0+c.cells.length) 100))]
def tB (c:AB) (q:AA) (pos:List Int) (ln:Nat) (lost:List Int) (y1:List (Int×Int)) (o4:List Int):DH:=[some (.cells (AG c++AE q++[.ints pos,.msl 1 1 0 ln])),some (.ints lost),some (.cells [.ref 0 0]),some (.cells [.msl 6 1 0 ((((c.cells.length:Int)+1)).toNat)]),some (.cells [.msl 7 1 0 ((((c.cells.length:Int)+1)).toNat)]),some (.iter ((y1).map Mv)),some (.ints o4),some (.ints ((List.replicate ((((c.cells.length:Int)+1)).toNat) (0:Int)).set (0+c.cells.length) 100))]
def tA (c:AB) (q:AA) (pos:List Int) (ln:Nat) (o1 o4 o6:List Int) (BE:Int):DH:=[some (.cells (AG c++AE q++[.ints pos,.msl 1 1 0 ln])),some (.ints o1),some (.cells [.ref 0 0]),some (.cells [.msl 4 1 0 ((((c.cells.length:Int)+1)).toNat)]),some (.ints o4),some (.cells [.msl 6 1 0 ((((c.cells.length:Int)+1)).toNat)]),some (.ints o6),some (.cells [.i BE]),some (.cells [.i (c.cells.getD ((BE).toNat) 0)])]
def s9 (c:AB) (q:AA) (pos:List Int) (ln:Nat) (o1:List Int) (BE:Int) (o4 o6:List Int):DH:=[some (.cells (AG c++AE q++[.ints pos,.msl 1 1 0 ln])),some (.ints o1),some (.cells [.ref 0 0]),some (.cells [.msl 8 1 0 ((((c.cells.length:Int)+1)).toNat)]),some (.cells [.msl 9 1 0 ((((c.cells.length:Int)+1)).toNat)]),some (.cells [.i BE]),some (.cells [.i (c.cells.getD ((BE).toNat) 0)]),some (.iter ((BK (pos.getD ((c.cells.getD ((BE).toNat) 0).toNat) 0)).map BV)),some (.ints o4),some (.ints o6)]
def s8 (c:AB) (q:AA) (pos:List Int) (ln:Nat) (lost:List Int) (BP:Int) (FF:List Int):DH:=[some (.cells (AG c++AE q++[.ints pos,.msl 1 1 0 ln])),some (.ints lost),some (.cells [.ref 0 0]),some (.cells [.msl 7 1 0 ((((c.cells.length:Int)+1)).toNat)]),some (.cells [.msl 8 1 0 ((((c.cells.length:Int)+1)).toNat)]),some (.cells [.i BP]),none,some (.ints FF),some (.ints ((List.replicate ((((c.cells.length:Int)+1)).toNat) (0:Int)).set (0+c.cells.length) 100))]
def s7 (c:AB) (q:AA) (pos:List Int) (ln:Nat) (lost o4 Ex:List Int) (BS:Int×Int):DH:=[some (.cells (AG c++AE q++[.ints pos,.msl 1 1 0 ln])),some (.ints lost),some (.cells [.ref 0 0]),some (.cells [.msl 6 1 0 ((((c.cells.length:Int)+1)).toNat)]),some (.cells [.msl 7 1 0 ((((c.cells.length:Int)+1)).toNat)]),none,some (.ints o4),some (.ints Ex),some (.cells [.i BS.1])]
def tH (c:AB) (q:AA) (pos:List Int) (ln:Nat) (lost o4 Ex:List Int) (BS:Int×Int):DH:=[some (.cells (AG c++AE q++[.ints pos,.msl 1 1 0 ln])),some (.ints lost),some (.cells [.ref 0 0]),some (.cells [.msl 6 1 0 ((((c.cells.length:Int)+1)).toNat)]),some (.cells [.msl 7 1 0 ((((c.cells.length:Int)+1)).toNat)]),none,some (.ints o4),some (.ints (Ex.set (0+((BS.1).toNat)) (-1))),some (.cells [.i BS.1])]
def tG (c:AB) (q:AA) (pos:List Int) (ln:Nat) (lost:List Int) (BS:Int×Int) (o4 Ex:List Int):DH:=[some (.cells (AG c++AE q++[.ints pos,.msl 1 1 0 ln])),some (.ints lost),some (.cells [.ref 0 0]),some (.cells [.msl 8 1 0 ((((c.cells.length:Int)+1)).toNat)]),some (.cells [.msl 9 1 0 ((((c.cells.length:Int)+1)).toNat)]),none,some (.cells [.i BS.1]),some (.iter ((BK (pos.getD ((BS.2).toNat) 0)).map BV)),some (.ints o4),some (.ints (Ex.set (0+((BS.1).toNat)) (-1)))]
def Xa (c:AB) (q:AA) (pos:List Int) (ln:Nat) (Fw:List Int) (BE:Int) (o4 o6:List Int):DH:=[some (.cells (AG c++AE q++[.ints pos,.msl 1 1 0 ln])),some (.ints Fw),some (.cells [.ref 0 0]),some (.cells [.msl 8 1 0 ((((c.cells.length:Int)+1)).toNat)]),some (.cells [.msl 9 1 0 ((((c.cells.length:Int)+1)).toNat)]),some (.cells [.i BE]),some (.cells [.i (c.cells.getD ((BE).toNat) 0)]),none,some (.ints o4),some (.ints o6)]
def Rn (c:AB) (q:AA) (pos:List Int) (ln:Nat) (IQ:(List Int)) (BE:Int) (o4 o6:List Int):St:=⟨(AM 178 []),([some (.cells (AG c++AE q++[.ints pos,.msl 1 1 0 ln])),some (.ints IQ),some (.cells [.ref 0 0]),some (.cells [.msl 8 1 0 ((((c.cells.length:Int)+1)).toNat)]),some (.cells [.msl 9 1 0 ((((c.cells.length:Int)+1)).toNat)]),some (.cells [.i BE]),some (.cells [.i (c.cells.getD ((BE).toNat) 0)]),none,some (.ints o4),some (.ints o6)]:DH)⟩
def tF (c:AB) (q:AA) (pos:List Int) (ln:Nat) (lost:List Int) (BS:Int×Int) (o4 FG:List Int):DH:=[some (.cells (AG c++AE q++[.ints pos,.msl 1 1 0 ln])),some (.ints lost),some (.cells [.ref 0 0]),some (.cells [.msl 8 1 0 ((((c.cells.length:Int)+1)).toNat)]),some (.cells [.msl 9 1 0 ((((c.cells.length:Int)+1)).toNat)]),none,some (.cells [.i BS.1]),none,some (.ints o4),some (.ints FG)]
inductive Kh where
 | s0 (FG:List Int)
def bN (c:AB) (q:AA) (pos:List Int) (ln:Nat) (lost:List Int) (BS:Int×Int) (o4:List Int):Kh -> DH
 | .s0 FG=>[some (.cells (AG c++AE q++[.ints pos,.msl 1 1 0 ln])),some (.ints lost),some (.cells [.ref 0 0]),some (.cells [.msl 8 1 0 ((((c.cells.length:Int)+1)).toNat)]),some (.cells [.msl 9 1 0 ((((c.cells.length:Int)+1)).toNat)]),none,some (.cells [.i BS.1]),none,some (.ints o4),some (.ints FG)]
def SM (n:Nat) (c:AB) (q:AA) (pos:List Int) (ln:Nat) (lost:List Int) (BS:Int×Int) (o4:List Int) (GT:Int) (FG:List Int):Option Kh:=
 if (0<=GT/\ GT<(q.values.length:Int))/\ AL (BS.1+1)/\ (0<=(BS.1+1)/\ (BS.1+1)<(((((c.cells.length:Int)+1)).toNat:Nat):Int))/\ 0+(((BS.1+1)).toNat)<FG.length then
  bif (decide ((q.values.getD ((GT).toNat) 0)<(FG.getD (0+(((BS.1+1)).toNat)) 0))) then
   if (0<=BS.1/\ BS.1<(((((c.cells.length:Int)+1)).toNat:Nat):Int))/\ 0+((BS.1).toNat)<FG.length then
    some (.s0 (FG.set (0+((BS.1).toNat)) (if (q.values.getD ((GT).toNat) 0)>(FG.getD (0+((BS.1).toNat)) 0) then (q.values.getD ((GT).toNat) 0) else (FG.getD (0+((BS.1).toNat)) 0))))
   else none
  else
   some (.s0 FG)
 else none
def bM (n:Nat) (c:AB) (q:AA) (pos:List Int) (ln:Nat) (lost:List Int) (BS:Int×Int) (o4:List Int) (GT:Int):Kh -> Option Kh
 | .s0 FG=>SM n c q pos ln lost BS o4 GT FG
def PU (n:Nat) (c:AB) (q:AA) (pos:List Int) (ln:Nat) (lost:List Int) (BS:Int×Int) (o4:List Int) (GT:Int) (s:Kh):Option Kh:=bM n c q pos ln lost BS o4 GT s
theorem nH (n:Nat) (c:AB) (q:AA) (pos:List Int) (ln:Nat) (lost:List Int) (BS:Int×Int) (o4:List Int) (l B:Nat) (N:Yd 8) (GT:Int) (s:Kh) (r:Kh) (h:PU n c q pos ln lost BS o4 GT s=some r):TA l B N (Cs 8 [] 0 (bN c q pos ln lost BS o4 r)) Tryz.f71 103 ⟨AM 178 [(1,.ref 2 0),(5,.ref 4 0),(10,.ref 6 0),(103,.it 7),(104,.i GT)],bN c q pos ln lost BS o4 s⟩:=by
 cases s with
 | s0 FG=>
  replace h:SM n c q pos ln lost BS o4 GT FG=some r:=h;unfold SM at h;refine ag D4 [0,1,2,3,4,5,6,7,8,9] H0 (AM 178 [(1,.ref 2 0),(5,.ref 4 0),(10,.ref 6 0),(12,.i GT)]) (tF c q pos ln lost BS o4 FG) fun N=>?_
  revert r;apply gO;exact gc (gi (gc (gw 116 (gc (gi (gi (bi 119 (jg lT (gc (gn fun iQ=>jg iQ (gn fun iP=>jg iP (jg iQ (jg iP (lF fun p=>rr D4 [0,1,2,3,4,5,6,7,8,9] rfl p))))))) (lF fun p=>rr D4 [0,1,2,3,4,5,6,7,8,9] rfl p))))))))
inductive Jb where
 | s0 (Fw:List Int)
def bS (c:AB) (BE:Int) (q:AA) (pos:List Int) (ln:Nat) (o4 o6:List Int):Jb -> DH
 | .s0 Fw=>[some (.cells (AG c++AE q++[.ints pos,.msl 1 1 0 ln])),some (.ints Fw),some (.cells [.ref 0 0]),some (.cells [.msl 8 1 0 ((((c.cells.length:Int)+1)).toNat)]),some (.cells [.msl 9 1 0 ((((c.cells.length:Int)+1)).toNat)]),some (.cells [.i BE]),some (.cells [.i (c.cells.getD ((BE).toNat) 0)]),none,some (.ints o4),some (.ints o6)]
def SO (n:Nat) (c:AB) (BE:Int) (q:AA) (pos:List Int) (ln:Nat) (o4 o6:List Int) (En:Int) (Fw:List Int):Option Jb:=
 if (0<=En/\ En<(q.values.length:Int))/\ (0<=BE/\ BE<(((((c.cells.length:Int)+1)).toNat:Nat):Int))/\ 0+((BE).toNat)<o4.length then
  bif (decide ((q.values.getD ((En).toNat) 0)<=(o4.getD (0+((BE).toNat)) 0))) then
   if 0<=En/\ En<=(IntKind.i64.bits:Int) then
    (DA n (c.cells.getD ((BE).toNat) 0) (IntKind.i64.wrap (1*2 ^ (En).toNat)) c q pos ln Fw).bind fun IQ=>
     some (.s0 IQ)
   else none
  else
   if AL (BE+1)/\ (0<=(BE+1)/\ (BE+1)<(((((c.cells.length:Int)+1)).toNat:Nat):Int))/\ 0+(((BE+1)).toNat)<o6.length then
    bif (decide ((q.values.getD ((En).toNat) 0)>=(o6.getD (0+(((BE+1)).toNat)) 0))) then
     if 0<=En/\ En<=(IntKind.i64.bits:Int) then
      (DA n (c.cells.getD ((BE).toNat) 0) (IntKind.i64.wrap (1*2 ^ (En).toNat)) c q pos ln Fw).bind fun IQ=>
       some (.s0 IQ)
     else none
    else
     some (.s0 Fw)
   else none
 else none
def bR (n:Nat) (c:AB) (BE:Int) (q:AA) (pos:List Int) (ln:Nat) (o4 o6:List Int) (En:Int):Jb -> Option Jb
 | .s0 Fw=>SO n c BE q pos ln o4 o6 En Fw
def SP (n:Nat) (c:AB) (BE:Int) (q:AA) (pos:List Int) (ln:Nat) (o4 o6:List Int) (En:Int) (s:Jb):Option Jb:=bR n c BE q pos ln o4 o6 En s
theorem nJ (n:Nat) (c:AB) (BE:Int) (q:AA) (pos:List Int) (ln:Nat) (o4 o6:List Int) (l B:Nat) (N:Yd 8) (En:Int) (s:Jb) (r:Jb) (h:SP n c BE q pos ln o4 o6 En s=some r):TA l B N (Cs 8 [] 0 (bS c BE q pos ln o4 o6 r)) Tryz.f71 147 ⟨AM 178 [(1,.ref 2 0),(4,.ref 3 0),(5,.ref 4 0),(14,.ref 5 0),(15,.ref 6 0),(133,.ints c.cells),(134,.i (c.cells.length:Int)),(135,.i BE),(147,.it 7),(148,.i En)],bS c BE q pos ln o4 o6 s⟩:=by
 cases s with
 | s0 Fw=>
  replace h:SO n c BE q pos ln o4 o6 En Fw=some r:=h;unfold SO at h;refine ag D4 [0,1,2,3,4,5,6,7,8,9] H0 (AM 178 [(1,.ref 2 0),(4,.ref 3 0),(5,.ref 4 0),(14,.ref 5 0),(15,.ref 6 0),(16,.i En)]) (Xa c q pos ln Fw BE o4 o6) fun N=>?_
  revert r;apply gO;exact gc (gi (gc (gi (gi (bi 162 (jg ar (gi (ce Fe [0,1] (Xa c q pos ln Fw BE o4 o6) fun IQ=>jg (Eq.refl (Rn c q pos ln IQ BE o4 o6)) (lF fun p=>rr (tg:=[([],(Rn c q pos ln IQ BE o4 o6))]) D4 [0,1,2,3,4,5,6,7,8,9] rfl p)))) (gc (gw 167 (gc (gi (gi (bi 170 (jg ar (gi (ce Fe [0,1] (Xa c q pos ln Fw BE o4 o6) fun IQ=>jg (Eq.refl (Rn c q pos ln IQ BE o4 o6)) (lF fun p=>rr (tg:=[([],(Rn c q pos ln IQ BE o4 o6))]) D4 [0,1,2,3,4,5,6,7,8,9] rfl p)))) (lF fun p=>rr D4 [0,1,2,3,4,5,6,7,8,9] rfl p))))))))))))
inductive Ki where
 | s0 (Ex:List Int)
def bO (c:AB) (q:AA) (pos:List Int) (ln:Nat) (lost o4:List Int):Ki -> DH
 | .s0 Ex=>[some (.cells (AG c++AE q++[.ints pos,.msl 1 1 0 ln])),some (.ints lost),some (.cells [.ref 0 0]),some (.cells [.msl 6 1 0 ((((c.cells.length:Int)+1)).toNat)]),some (.cells [.msl 7 1 0 ((((c.cells.length:Int)+1)).toNat)]),none,some (.ints o4),some (.ints Ex)]
def SL (n:Nat) (c:AB) (q:AA) (pos:List Int) (ln:Nat) (lost o4:List Int) (BS:Int×Int) (Ex:List Int):Option Ki:=
 if (0<=BS.1/\ BS.1<(((((c.cells.length:Int)+1)).toNat:Nat):Int))/\ 0+((BS.1).toNat)<Ex.length/\ (0<=BS.2/\ BS.2<(pos.length:Int))/\ (0<=(pos.getD ((BS.2).toNat) 0)/\ (pos.getD ((BS.2).toNat) 0)<9223372036854775808) then
  (By (PU n c q pos ln lost BS o4) (BK (pos.getD ((BS.2).toNat) 0)) (.s0 (Ex.set (0+((BS.1).toNat)) (-1)))).bind fun Yw=>
   match Yw with
   | .s0 iK=>
    some (.s0 iK)
 else none
def bL (n:Nat) (c:AB) (q:AA) (pos:List Int) (ln:Nat) (lost o4:List Int) (BS:Int×Int):Ki -> Option Ki
 | .s0 Ex=>SL n c q pos ln lost o4 BS Ex
def PV (n:Nat) (c:AB) (q:AA) (pos:List Int) (ln:Nat) (lost o4:List Int) (BS:Int×Int) (s:Ki):Option Ki:=bL n c q pos ln lost o4 BS s
theorem nF (n:Nat) (c:AB) (q:AA) (pos:List Int) (ln:Nat) (lost o4:List Int) (l B:Nat) (N:Yd 6) (BS:Int×Int) (s:Ki) (r:Ki) (h:PV n c q pos ln lost o4 BS s=some r):TA l B N (Cs 6 [] 0 (bO c q pos ln lost o4 r)) Tryz.f71 90 ⟨AM 178 [(1,.ref 2 0),(4,.ref 3 0),(5,.ref 4 0),(90,.it 5),(91,.i BS.1),(92,.i BS.2)],bO c q pos ln lost o4 s⟩:=by
 cases s with
 | s0 Ex=>
  replace h:SL n c q pos ln lost o4 BS Ex=some r:=h;unfold SL at h;refine ag D4 [0,1,2,3,4,5,6,7,8] (H0.t) (AM 178 [(1,.ref 2 0),(5,.ref 4 0),(10,.ref 8 0),(11,.i BS.2)]) (s7 c q pos ln lost o4 Ex BS) fun N=>?_
  revert r;apply gO
  exact gc (gi (gc (gi (gc (gi (gn fun xc=>jc (Hl xc (tH c q pos ln lost o4 Ex BS)) (cn fun Yw ur=>fun p r h=>by
   refine gs D4 [0,1,2,3,4,5,8,9,6,7] p (Fl (SS Tryz.f71 90) 103 []) (AM 178 [(1,.ref 2 0),(5,.ref 4 0),(10,.ref 6 0),(103,.it 7)]) (tG c q pos ln lost BS o4 Ex) ?_;refine r0 7 103 #[104] BV 8 ur (nH n c q pos ln lost BS o4) ?_;cases Yw with
   | s0 iK=>
    dsimp only at h
    revert r;apply gO;exact lF fun p=>rr D4 [0,1,2,3,4,5,8,9] rfl p)))))))
inductive Kj where
 | s0 (FF:List Int)
def bQ (c:AB) (BP:Int) (q:AA) (pos:List Int) (ln:Nat) (lost:List Int):Kj -> DH
 | .s0 FF=>[some (.cells (AG c++AE q++[.ints pos,.msl 1 1 0 ln])),some (.ints lost),some (.cells [.ref 0 0]),some (.cells [.msl 7 1 0 ((((c.cells.length:Int)+1)).toNat)]),some (.cells [.msl 8 1 0 ((((c.cells.length:Int)+1)).toNat)]),some (.cells [.i BP]),none,some (.ints FF),some (.ints ((List.replicate ((((c.cells.length:Int)+1)).toNat) (0:Int)).set (0+c.cells.length) 100))]
def SN (n:Nat) (c:AB) (BP:Int) (q:AA) (pos:List Int) (ln:Nat) (lost:List Int) (GS:Int) (FF:List Int):Option Kj:=
 if (0<=GS/\ GS<(q.values.length:Int))/\ (0<=BP/\ BP<(((((c.cells.length:Int)+1)).toNat:Nat):Int))/\ 0+((BP).toNat)<FF.length then
  bif (decide ((q.values.getD ((GS).toNat) 0)>(FF.getD (0+((BP).toNat)) 0))) then
   if AL (BP+1)/\ (0<=(BP+1)/\ (BP+1)<(((((c.cells.length:Int)+1)).toNat:Nat):Int))/\ 0+(((BP+1)).toNat)<FF.length then
    some (.s0 (FF.set (0+(((BP+1)).toNat)) (if (q.values.getD ((GS).toNat) 0)<(FF.getD (0+(((BP+1)).toNat)) 0) then (q.values.getD ((GS).toNat) 0) else (FF.getD (0+(((BP+1)).toNat)) 0))))
   else none
  else
   some (.s0 FF)
 else none
def bP (n:Nat) (c:AB) (BP:Int) (q:AA) (pos:List Int) (ln:Nat) (lost:List Int) (GS:Int):Kj -> Option Kj
 | .s0 FF=>SN n c BP q pos ln lost GS FF
def PW (n:Nat) (c:AB) (BP:Int) (q:AA) (pos:List Int) (ln:Nat) (lost:List Int) (GS:Int) (s:Kj):Option Kj:=bP n c BP q pos ln lost GS s
theorem nI (n:Nat) (c:AB) (BP:Int) (q:AA) (pos:List Int) (ln:Nat) (lost:List Int) (l B:Nat) (N:Yd 7) (GS:Int) (s:Kj) (r:Kj) (h:PW n c BP q pos ln lost GS s=some r):TA l B N (Cs 7 [] 0 (bQ c BP q pos ln lost r)) Tryz.f71 57 ⟨AM 178 [(1,.ref 2 0),(4,.ref 3 0),(5,.ref 4 0),(6,.ref 5 0),(39,.ints c.cells),(40,.i (c.cells.length:Int)),(41,.i BP),(57,.it 6),(58,.i GS)],bQ c BP q pos ln lost s⟩:=by
 cases s with
 | s0 FF=>
  replace h:SN n c BP q pos ln lost GS FF=some r:=h;unfold SN at h;refine ag D4 [0,1,2,3,4,5,6,7,8] H0 (AM 178 [(1,.ref 2 0),(4,.ref 3 0),(6,.ref 5 0),(8,.i GS)]) (s8 c q pos ln lost BP FF) fun N=>?_
  revert r;apply gO;exact gc (gi (gc (gi (gi (bi 72 (jg lV (gc (gn fun iO=>jw 75 iO (jw 78 iO (gc (gn fun iN=>jg iN (gn fun iM=>jg iM (jg iN (jg iM (lF fun p=>rr D4 [0,1,2,3,4,5,6,7,8] rfl p)))))))))) (lF fun p=>rr D4 [0,1,2,3,4,5,6,7,8] rfl p))))))
inductive PX where
 | l1 (BP:Int) (o4:List Int)
 | l2 (BE:Int) (o1 o4 o6:List Int)
def PT (n:Nat) (self:PX -> Option (Bool×(List Int))) (c:AB) (q:AA) (pos:List Int) (ln:Nat) (lost:List Int) (BP:Int) (o4:List Int):Option (Bool×(List Int)):=
 bif (decide (BP<(c.cells.length:Int))) then
  if (0<=BP/\ BP<(c.cells.length:Int))/\ AL (BP+1)/\ (0<=(BP+1)/\ (BP+1)<(((((c.cells.length:Int)+1)).toNat:Nat):Int))/\ 0+(((BP+1)).toNat)<o4.length/\ (0<=(c.cells.getD ((BP).toNat) 0)/\ (c.cells.getD ((BP).toNat) 0)<(pos.length:Int))/\ (0<=(pos.getD ((c.cells.getD ((BP).toNat) 0).toNat) 0)/\ (pos.getD ((c.cells.getD ((BP).toNat) 0).toNat) 0)<9223372036854775808) then
   (By (PW n c BP q pos ln lost) (BK (pos.getD ((c.cells.getD ((BP).toNat) 0).toNat) 0)) (.s0 (o4.set (0+(((BP+1)).toNat)) 100))).bind fun y1=>
    match y1 with
    | .s0 Cu=>
     if AL (BP+1) then
      self (.l1 (BP+1) Cu)
     else none
  else none
 else
  (back n c.cells).bind fun y1=>
   (By (PV n c q pos ln lost o4) y1 (.s0 ((List.replicate ((((c.cells.length:Int)+1)).toNat) (0:Int)).set (0+c.cells.length) 100))).bind fun y2=>
    match y2 with
    | .s0 KM=>
     self (.l2 0 lost o4 KM)
def PS (n:Nat) (self:PX -> Option (Bool×(List Int))) (c:AB) (q:AA) (pos:List Int) (ln:Nat) (lost:List Int) (BE:Int) (o1 o4 o6:List Int):Option (Bool×(List Int)):=
 bif (decide (BE<(c.cells.length:Int))) then
  if (0<=BE/\ BE<(c.cells.length:Int))/\ (0<=(c.cells.getD ((BE).toNat) 0)/\ (c.cells.getD ((BE).toNat) 0)<(pos.length:Int))/\ (0<=(pos.getD ((c.cells.getD ((BE).toNat) 0).toNat) 0)/\ (pos.getD ((c.cells.getD ((BE).toNat) 0).toNat) 0)<9223372036854775808) then
   (By (SP n c BE q pos ln o4 o6) (BK (pos.getD ((c.cells.getD ((BE).toNat) 0).toNat) 0)) (.s0 o1)).bind fun y1=>
    match y1 with
    | .s0 Cu=>
     if AL (BE+1) then
      self (.l2 (BE+1) Cu o4 o6)
     else none
  else none
 else
  some (true,o1)
def bK (n:Nat) (self:PX -> Option (Bool×(List Int))) (c:AB) (q:AA) (pos:List Int) (ln:Nat) (lost:List Int):Option (Bool×(List Int)):=
 if AL ((c.cells.length:Int)+1)/\ ((((c.cells.length:Int)+1):Int)=((c.cells.length:Int)+1)/\ (0:Int)<=((c.cells.length:Int)+1)/\ (((c.cells.length:Int)+1):Int)<=1000000000000)/\ ((0:Int)<=0/\ 0<(((((c.cells.length:Int)+1)).toNat:Nat):Int))/\ 0+0<(List.replicate ((((c.cells.length:Int)+1)).toNat) (0:Int)).length/\ (0<=(c.cells.length:Int)/\ (c.cells.length:Int)<(((((c.cells.length:Int)+1)).toNat:Nat):Int))/\ 0+c.cells.length<(List.replicate ((((c.cells.length:Int)+1)).toNat) (0:Int)).length then
  self (.l1 0 ((List.replicate ((((c.cells.length:Int)+1)).toNat) (0:Int)).set (0+0) (-1)))
 else none
def HH (c:AB) (q:AA) (pos:List Int) (ln:Nat) (lost:List Int):Nat -> PX -> Option (Bool×(List Int))
 | 0,_=>none
 | n+1,.l1 BP o4=>PT n (HH c q pos ln lost n) c q pos ln lost BP o4
 | n+1,.l2 BE o1 o4 o6=>PS n (HH c q pos ln lost n) c q pos ln lost BE o1 o4 o6
def Kk (n:Nat) (c:AB) (q:AA) (pos:List Int) (ln:Nat) (lost:List Int):Option (Bool×(List Int)):=bK n (HH c q pos ln lost n) c q pos ln lost
def nK (n B:Nat) (N:Yd 2) (c:AB) (q:AA) (pos:List Int) (ln:Nat) (lost:List Int) (r:Bool×(List Int)):PX -> Prop
 | .l1 BP o4=>∀ m0:Nat,n<=m0 -> TW B N (FQ Tryz.f71 2 (.bool r.1) [some (.cells (AG c++AE q++[.ints pos,.msl 1 1 0 ln])),some (.ints r.2)]) (A4 m0 (BF (Ab Tryz.f71) 0 [])) ⟨AM 178 [(1,.ref 2 0),(4,.ref 3 0),(5,.ref 5 0),(39,.ints c.cells),(40,.i (c.cells.length:Int)),(41,.i BP)],[some (.cells (AG c++AE q++[.ints pos,.msl 1 1 0 ln])),some (.ints lost),some (.cells [.ref 0 0]),some (.cells [.msl 4 1 0 ((((c.cells.length:Int)+1)).toNat)]),some (.ints o4),some (.cells [.msl 6 1 0 ((((c.cells.length:Int)+1)).toNat)]),some (.ints ((List.replicate ((((c.cells.length:Int)+1)).toNat) (0:Int)).set (0+c.cells.length) 100))]⟩
 | .l2 BE o1 o4 o6=>∀ m0:Nat,n<=m0 -> TW B N (FQ Tryz.f71 2 (.bool r.1) [some (.cells (AG c++AE q++[.ints pos,.msl 1 1 0 ln])),some (.ints r.2)]) (A4 m0 (BF (Ab Tryz.f71) 8 [])) ⟨AM 178 [(1,.ref 2 0),(4,.ref 3 0),(5,.ref 5 0),(133,.ints c.cells),(134,.i (c.cells.length:Int)),(135,.i BE)],[some (.cells (AG c++AE q++[.ints pos,.msl 1 1 0 ln])),some (.ints o1),some (.cells [.ref 0 0]),some (.cells [.msl 4 1 0 ((((c.cells.length:Int)+1)).toNat)]),some (.ints o4),some (.cells [.msl 6 1 0 ((((c.cells.length:Int)+1)).toNat)]),some (.ints o6)]⟩
theorem nL (B:Nat) (N:Yd 2) (c:AB) (q:AA) (pos:List Int) (ln:Nat) (lost:List Int):Al (HH c q pos ln lost) (nK · B N c q pos ln lost):=ia (fun _=>rfl) fun n AH pt r h=>by
 cases pt
 case l1 BP o4=>
  intro m0 AC;refine rd AC fun m0 AC=>?_
  revert r;apply gO
  exact bi 42 (gc (gi (jt (gc (gw 48 (gc (gi (gc (gi (gc (gi (gn fun g5=>jc (Hl g5 (tE c q pos ln lost o4 BP)) (cn fun y1 BB=>fun p r h=>by
   refine gs D4 [0,1,2,3,5,7,8,4,6] p (Fl (Ab Tryz.f71) 57 [m0]) (AM 178 [(1,.ref 2 0),(4,.ref 3 0),(5,.ref 4 0),(6,.ref 5 0),(39,.ints c.cells),(40,.i (c.cells.length:Int)),(41,.i BP),(57,.it 6)]) (tD c q pos ln lost BP o4) ?_;refine r0 6 57 #[58] BV 7 BB (nI n c BP q pos ln lost) ?_;cases y1 with
   | s0 Cu=>
    dsimp only at h
    revert r;apply gO;exact gw 84 (lG D4 [0,1,2,3,7,4,8] (AH _ _ · m0 AC))))))))))))))) (cn fun y1 BB=>jc (xa BB (tC c q pos ln lost o4)) (cn fun y2 Bq=>fun p r h=>by
   refine gs D4 [0,1,2,3,5,7,4,6] p (Fl (Ab Tryz.f71) 90 []) (AM 178 [(1,.ref 2 0),(4,.ref 3 0),(5,.ref 4 0),(90,.it 5)]) (tB c q pos ln lost y1 o4) ?_;refine r0 5 90 #[91,92] Mv 6 Bq (nF n c q pos ln lost o4) ?_;cases y2 with
   | s0 KM=>
    dsimp only at h
    revert r;apply gO;exact lN D4 [0,1,2,3,6,4,7] (AH _ _ · n Nat.le.refl)))
 case l2 BE o1 o4 o6=>
  intro m0 AC;refine rd AC fun m0 AC=>?_
  revert r;apply gO
  exact bi 136 (gc (gi (jt (jt (jg lS (gc (gi (gn fun g2=>jc (Hl g2 (tA c q pos ln o1 o4 o6 BE)) (cn fun y1 BB=>fun p r h=>by
   refine gs D4 [0,1,2,3,5,7,8,9,4,6] p (Fl (Ab Tryz.f71) 147 [m0]) (AM 178 [(1,.ref 2 0),(4,.ref 3 0),(5,.ref 4 0),(14,.ref 5 0),(15,.ref 6 0),(133,.ints c.cells),(134,.i (c.cells.length:Int)),(135,.i BE),(147,.it 7)]) (s9 c q pos ln o1 BE o4 o6) ?_;refine r0 7 147 #[148] BV 8 BB (nJ n c BE q pos ln o4 o6) ?_;cases y1 with
   | s0 Cu=>
    dsimp only at h
    revert r;apply gO;exact gw 177 (lG D4 [0,1,2,3,8,4,9] (AH _ _ · m0 AC))))))))))) (lE D4 [2] [0,1])
theorem nE {n:Nat} {c:AB} {q:AA} {pos:List Int} {ln:Nat} {lost:List Int} {r:Bool×(List Int)} (h:Kk n c q pos ln lost=some r):EQ 71 [.ref 0 0] [some (.cells (AG c++AE q++[.ints pos,.msl 1 1 0 ln])),some (.ints lost)] (.bool r.1) [some (.cells (AG c++AE q++[.ints pos,.msl 1 1 0 ln])),some (.ints r.2)] false:=by
 refine ot Tryz.func71 fun B N=>?_
 revert r;apply gO;exact jg lU (gc (gn fun g0=>jw 25 g0 (jw 28 g0 (gc (gn fun g1=>jg g1 (jg g1 (jt (jt (jg (Eq.refl (CX c q pos ln lost)) (jt (jt (jg (Eq.refl (CX c q pos ln lost)) (jg g1 (jt (jt (jg (Eq.refl (CX c q pos ln lost)) (jg g1 (jt (jt (jg (Eq.refl (CX c q pos ln lost)) (jt (jg g1 (jt (jg (Eq.refl (CX c q pos ln lost)) (jg g1 (jt (jt (jg (Eq.refl (CX c q pos ln lost)) (jg g1 (jt (jt (jg (Eq.refl (CX c q pos ln lost)) (jt (jg g1 (jt (jg (Eq.refl (CX c q pos ln lost)) (jg g1 (jg g1 (jt (jt (jg (Eq.refl (CX c q pos ln lost)) (jt (jt (jg (Eq.refl (CX c q pos ln lost)) (jg g1 (jt (jt (jg (Eq.refl (CX c q pos ln lost)) (jg g1 (jt (jt (jg (Eq.refl (CX c q pos ln lost)) (jg g1 (jt (jt (jg (Eq.refl (CX c q pos ln lost)) (jg g1 (jt (jt (jg (Eq.refl (CX c q pos ln lost)) (jg g1 (jg g1 (jt (jt (jg (Eq.refl (CX c q pos ln lost)) (jg g1 (jt (jt (jg (Eq.refl (CX c q pos ln lost)) (jt (jg g1 (jt (jg (Eq.refl (CX c q pos ln lost)) (jg g1 (jg g1 (jt (jt (jg (Eq.refl (CX c q pos ln lost)) (jg g1 (jt (jt (jg (Eq.refl (CX c q pos ln lost)) (jg g1 (jg g1 (jt (jt (jg (Eq.refl (CX c q pos ln lost)) (jt (jg g1 (jt (jg (Eq.refl (CX c q pos ln lost)) (jg g1 (jg g1 (jt (jt (jg (Eq.refl (CX c q pos ln lost)) (jg g1 (jg g1 (jt (jt (jg (Eq.refl (CX c q pos ln lost)) (jg g1 (jt (jt (jg (Eq.refl (CX c q pos ln lost)) (jt (jg g1 (jt (jg (Eq.refl (CX c q pos ln lost)) (jg g1 (jg g1 (jt (jt (jg (Eq.refl (CX c q pos ln lost)) (jg g1 (jt (jt (jg (Eq.refl (CX c q pos ln lost)) (jg g1 (jg g1 (jt (jt (jg (Eq.refl (CX c q pos ln lost)) (jt (jg g1 (jt (jg (Eq.refl (CX c q pos ln lost)) (jg g1 (jg g1 (jt (jt (jg (Eq.refl (CX c q pos ln lost)) (jg lR (gc (gi (gc (gi (gc (gi (gi (jg (Eq.refl (Zo c q pos ln lost)) (lN (tg:=[([],(CX c q pos ln lost)),([(4,3)],(Zo c q pos ln lost))]) D4 [0,1,2,5,3,6,4] ((nL B N c q pos ln lost n) _ _ · n Nat.le.refl)))))))))))))))))))))))))))))))))))))))))))))))))))))))))))))))))))))))))))))))))))))))))))))))))))))))))))))))))))))))))))))))))))))))))))))))
end Go.Proofs.YtgkhhfnhacibcaaGreatDoor
namespace Go.Proofs.YtgkhhfnhacibcaaGreatDoor
open Go.RowKit
theorem J6 {l:List Int} {i:Nat} {a:Int} (h:i<l.length):(l.set i a).getD i 0=a:=by
 rw [u8,zd h];rfl
theorem getD_set_ne {l:List Int} {i j:Nat} {a:Int} (h:i≠j):(l.set i a).getD j 0=l.getD j 0:=by
 rw [u8,zU h,←u8]
def IX (q:AA) (b a e:Int):Int:=if q.values.getD e.toNat 0>b then (if q.values.getD e.toNat 0<a then q.values.getD e.toNat 0 else a) else a
def IJ (q:AA) (b a e:Int):Int:=if q.values.getD e.toNat 0<b then (if q.values.getD e.toNat 0>a then q.values.getD e.toNat 0 else a) else a
def E9 (q:AA) (c:AB) (pos:List Int):Nat -> Int
 | 0=>-1
 | i+1=>(BK (AY c pos i)).foldl (IX q (E9 q c pos i)) 100
def GX (q:AA) (c:AB) (pos:List Int):Nat -> Int
 | 0=>100
 | m+1=>(BK (AY c pos (c.cells.length-1-m))).foldl (IJ q (GX q c pos m)) (-1)
def Hc (q:AA) (c:AB) (pos:List Int) (i:Nat):Int:=GX q c pos (c.cells.length-i)
def Gf (q:AA) (c:AB) (pos:List Int) (a s:Nat):Bool:=decide (q.values.getD s 0<=E9 q c pos a)||decide (q.values.getD s 0>=Hc q c pos (a+1))
def RG (l:List Int):Nat -> List (Int×Int)
 | 0=>[]
 | m+1=>((m:Int),l.getD m 0)::RG l m
theorem iH {l:List Int}: ∀ (m n:Nat),m<=l.length -> l.length<=LB -> m+1<=n -> LS l n (.l1 ((m:Int)-1))=some (RG l m)
 | 0,n,_,_,hn=>by
  obtain ⟨n,rfl⟩: ∃ k,n=k+1:=⟨n-1,by omega⟩
  show M5 n (LS l n) l _=_
  unfold M5;rw [yS (by omega),yO];rfl
 | m+1,n,hm,hl,hn=>by
  obtain ⟨n,rfl⟩: ∃ k,n=k+1:=⟨n-1,by omega⟩;have e:((m+1:Nat):Int)-1=(m:Int):=by omega
  have hb:LB<=9223372036854775807:=by decide
  rw [e]
  show M5 n (LS l n) l _=_
  unfold M5;rw [yW (by omega),yV,yP ⟨by omega,by omega⟩,yP (A2.2 ⟨by omega,by omega⟩),iH m n (by omega) hl (by omega),yU];rfl
theorem xX {l:List Int} {n:Nat} (hl:l.length<=LB) (hn:l.length+1<=n):back n l=some (RG l l.length):=by
 have hb:LB<=9223372036854775807:=by decide
 unfold back Yu;rw [yP (A2.2 ⟨by omega,by omega⟩),iH l.length n (ym _) hl hn]
section
variable {c:AB} {k:Nat} {pos lost:List Int} {q:AA}
theorem bH {n ln i:Nat} (Ay:c.cells.length<=256) (hi:i<c.cells.length) {o:List Int} (ho:o.length=c.cells.length+1): ∀ (l:List Int) (a:Int),(∀ e∈l,0<=e/\ e<((q.values.length:Nat):Int)) ->
 By (PW n c (i:Int) q pos ln lost) l (.s0 (o.set (i+1) a))=some (.s0 (o.set (i+1) (l.foldl (IX q (o.getD i 0)) a)))
 | [],_,_=>rfl
 | e::l,a,h=>by
  have t1:((((c.cells.length:Nat):Int)+1).toNat:Nat)=c.cells.length+1:=by omega
  have t2:(((i:Int)+1).toNat:Nat)=i+1:=by omega
  have e1:PW n c (i:Int) q pos ln lost e (.s0 (o.set (i+1) a))=some (.s0 (o.set (i+1) (IX q (o.getD i 0) a e))):=by
   unfold PW bP SN
   dsimp only
   simp only [yU,t1,t2,yt,yu,ho];rw [yP ⟨h e (.head _),by omega,by omega⟩,getD_set_ne (by omega),J6 (by omega),List.set_set];unfold IX
   by_cases hA:q.values.getD e.toNat 0>o.getD i 0
   ·rw [yW hA,yV,yP ⟨A2.2 ⟨by omega,by omega⟩,by omega,by omega⟩,yP hA]
   ·rw [yS hA,yO,yb hA]
  simp only [By];rw [e1,yX,bH Ay hi ho l _ fun e he=>h e (.tail _ he)];rfl
theorem bI {n ln i:Nat} {x:Int} {o4:List Int} (Ay:c.cells.length<=256) (hi:i<c.cells.length) {o:List Int} (ho:o.length=c.cells.length+1): ∀ (l:List Int) (a:Int),(∀ e∈l,0<=e/\ e<((q.values.length:Nat):Int)) ->
 By (PU n c q pos ln lost ((i:Int),x) o4) l (.s0 (o.set i a))=some (.s0 (o.set i (l.foldl (IJ q (o.getD (i+1) 0)) a)))
 | [],_,_=>rfl
 | e::l,a,h=>by
  have t1:((((c.cells.length:Nat):Int)+1).toNat:Nat)=c.cells.length+1:=by omega
  have t2:(((i:Int)+1).toNat:Nat)=i+1:=by omega
  have e1:PU n c q pos ln lost ((i:Int),x) o4 e (.s0 (o.set i a))=some (.s0 (o.set i (IJ q (o.getD (i+1) 0) a e))):=by
   unfold PU bM SM
   dsimp only
   simp only [yU,t1,t2,yt,yu,ho];rw [yP ⟨h e (.head _),A2.2 ⟨by omega,by omega⟩,by omega,by omega⟩,getD_set_ne (by omega),J6 (by omega),List.set_set];unfold IJ
   by_cases hA:q.values.getD e.toNat 0<o.getD (i+1) 0
   ·rw [yW hA,yV,yP ⟨by omega,by omega⟩,yP hA]
   ·rw [yS hA,yO,yb hA]
  simp only [By];rw [e1,yX,bI Ay hi ho l _ fun e he=>h e (.tail _ he)];rfl
theorem Sm.i63 (hk:k<=16) {x:Int} (h:Sm k x):0<=x/\ x<9223372036854775808:=by
 have h1:=Ko (k:=k) (yf hk (by decide));obtain ⟨h2,h3⟩:=h;omega
theorem bJ {n:Nat} {o4:List Int} (W:Bs c k pos) (V:DY q k): ∀ (m:Nat) (o:List Int),m<=c.cells.length -> o.length=c.cells.length+1 -> (∀ j,m<=j -> j<=c.cells.length -> o.getD j 0=Hc q c pos j) ->
 ∃ o',By (PV n c q pos pos.length lost o4) (RG c.cells m) (.s0 o)=some (.s0 o')/\ o'.length=c.cells.length+1/\ ∀ j,j<=c.cells.length -> o'.getD j 0=Hc q c pos j
 | 0,o,_,ho,h=>⟨o,rfl,ho,fun j hj=>h j (zr _) hj⟩
 | m+1,o,hm,ho,h=>by
  have hc:=W.cells m (by omega);have Cb:=W.at (a:=m) (by omega);have Ay:=W.len;have t1:((((c.cells.length:Nat):Int)+1).toNat:Nat)=c.cells.length+1:=by omega
  have e1:PV n c q pos pos.length lost o4 ((m:Int),c.cells.getD m 0) (.s0 o)=some (.s0 (o.set m (Hc q c pos m))):=by
   unfold PV bL SL
   dsimp only
   simp only [yU,t1,yt];rw [yP ⟨by omega,by omega,hc,Cb.i63 W.k⟩];refine (congrArg (fun z=>Option.bind z _) (bI Ay (by omega) ho (BK (AY c pos m)) (-1) fun e he=>(V.sym W.k Cb e he).1)).trans ?_;rw [yX]
   have e2:Hc q c pos m=(BK (AY c pos m)).foldl (IJ q (o.getD (m+1) 0)) (-1):=by
    rw [h (m+1) (ym _) hm];unfold Hc;rw [show c.cells.length-m=c.cells.length-(m+1)+1 by omega];simp only [GX];rw [show c.cells.length-1-(c.cells.length-(m+1))=m by omega]
   rw [e2]
  obtain ⟨o',h1,h2,h3⟩:=bJ W V m (o.set m (Hc q c pos m)) (by omega) (by rw [yu];exact ho) fun j hj GQ=>by
   by_cases e:m=j
   ·subst e;exact J6 (by omega)
   ·rw [getD_set_ne e];exact h j (by omega) GQ
  refine ⟨o',?_,h2,h3⟩;simp only [RG,By];rw [e1,yX,h1]
theorem m9 {n:Nat} {o4 o6:List Int} (W:Bs c k pos) (V:DY q k) (h4:o4.length=c.cells.length+1) (h6:o6.length=c.cells.length+1) (hb: ∀ j,j<=c.cells.length -> o4.getD j 0=E9 q c pos j) (ha: ∀ j,j<=c.cells.length -> o6.getD j 0=Hc q c pos j) (hl:lost.length=pos.length) (hn:c.cells.length+1<=n):
 ∃ l,HH c q pos pos.length lost n (.l2 0 lost o4 o6)=some (true,l)/\ B1 c pos lost c.cells.length (fun a s=>Gf q c pos a s=true) l:=by
 have lt: ∀ i,i<c.cells.length -> ((i:Nat):Int)<((c.cells.length:Nat):Int):=fun i hi=>by omega
 have t1:((((c.cells.length:Nat):Int)+1).toNat:Nat)=c.cells.length+1:=by omega
 have Ay:=W.len
 have T:=Gn (fun n (s:List Int) i=>HH c q pos pos.length lost n (.l2 i s o4 o6)) c.cells.length 1
  (fun i s=>B1 c pos lost i (fun a s=>Gf q c pos a s=true) s) (fun n i s HQ hi hI=>?_) (n:=n) (s:=lost) (by omega) (B1.zero hl)
 ·obtain ⟨n3,l,QW,_,e2,hL⟩:=T;obtain ⟨n4,rfl⟩: ∃ n4,n3=n4+1:=⟨n3-1,by omega⟩;refine ⟨l,e2.trans ?_,hL⟩
  show PS n4 (HH c q pos pos.length lost n4) c q pos pos.length lost (c.cells.length:Int) l o4 o6=_
  unfold PS;rw [yS (by omega),yO]
 ·have hc:=W.cells i hi;have hr:=W.r64 hi;have Cb:=W.at hi;have t2:(((i:Int)+1).toNat:Nat)=i+1:=by omega
  obtain ⟨l',e1,n1,f1⟩:=dF (n:=n) (q:=q) W hi hI.1 Jb.s0 (SP n c (i:Int) q pos pos.length o4 o6) (Gf q c pos i) fun s l hs hl=>by
   have GN:=V.len;have g1:(0:Int)<=(s:Int)/\ (s:Int)<((q.values.length:Nat):Int):=by omega
   have hk:=W.k;have g2:(0:Int)<=(s:Int)/\ (s:Int)<=((IntKind.i64.bits:Nat):Int):=⟨by omega,by show (s:Int)<=64;omega⟩;obtain ⟨l2,e2,_,_⟩:=Jo (lost:=l) (n:=n) (ss:=IntKind.i64.wrap (1*2 ^ s)) (c:=c) (q:=q) hc.1 hc.2 hl;unfold Gf SP bR SO
   dsimp only
   simp only [yU,t1,t2,yt,h4,h6];rw [yP ⟨g1,by omega,by omega⟩,hb i (by omega),ha (i+1) (by omega)];cases hA:decide (q.values.getD s 0<=E9 q c pos i)
   ·rw [yO,yP ⟨A2.2 ⟨by omega,by omega⟩,by omega,by omega⟩,zAG];cases hB:decide (q.values.getD s 0>=Hc q c pos (i+1))
    ·rfl
    ·rw [yV,yV,yP g2,e2];rfl
   ·rw [yV,Bool.true_or,yV,yP g2,e2];rfl
  show ∃ s',PS n (HH c q pos pos.length lost n) c q pos pos.length lost (i:Int) s o4 o6=_/\ _
  unfold PS;rw [yW (lt i hi),yV];simp only [yU];rw [yP ⟨⟨by omega,lt i hi⟩,hc,Cb.i63 W.k⟩];refine ⟨l',?_,hI.step n1 f1⟩;refine (congrArg (fun z=>Option.bind z _) e1).trans ?_;rw [yX];simp only;rw [yP hr.2]
theorem nA {n:Nat} (W:Bs c k pos) (V:DY q k) (hl:lost.length=pos.length) (hn:2*c.cells.length+3<=n):
 ∃ l,Kk n c q pos pos.length lost=some (true,l)/\ B1 c pos lost c.cells.length (fun a s=>Gf q c pos a s=true) l:=by
 have lt: ∀ i,i<c.cells.length -> ((i:Nat):Int)<((c.cells.length:Nat):Int):=fun i hi=>by omega
 have t1:((((c.cells.length:Nat):Int)+1).toNat:Nat)=c.cells.length+1:=by omega
 have Ay:=W.len
 have S:=Gn (fun n (s:List Int) i=>HH c q pos pos.length lost n (.l1 i s)) c.cells.length (c.cells.length+3)
  (fun i s=>s.length=c.cells.length+1/\ ∀ j,j<=i -> s.getD j 0=E9 q c pos j) (fun n i s _ hi hI=>?_) (n:=n) (s:=(List.replicate (c.cells.length+1) (0:Int)).set 0 (-1)) (by omega) ⟨by simp,fun j hj=>?_⟩
 ·obtain ⟨n1,o4,F6,_,e1,h4,hb⟩:=S;obtain ⟨n2,rfl⟩: ∃ n2,n1=n2+1:=⟨n1-1,by omega⟩
  have e0:Kk n c q pos pos.length lost=HH c q pos pos.length lost n (.l1 0 ((List.replicate (c.cells.length+1) (0:Int)).set 0 (-1))):=by
   unfold Kk bK;simp only [t1,yt,yi];rw [yP ⟨A2.2 ⟨by omega,by omega⟩,⟨trivial,by omega,by omega⟩,⟨by omega,by omega⟩,by omega,⟨by omega,by omega⟩,by omega⟩]
  have e2:Kk n c q pos pos.length lost=PT n2 (HH c q pos pos.length lost n2) c q pos pos.length lost (c.cells.length:Int) o4:=e0.trans e1;unfold PT at e2;rw [yS (by omega),yO,xX (yf Ay (by decide)) (by omega),yX] at e2;simp only [t1,yt] at e2
  obtain ⟨o6,e3,h6,ha⟩:=bJ (lost:=lost) (n:=n2) (o4:=o4) W V c.cells.length ((List.replicate (c.cells.length+1) (0:Int)).set c.cells.length 100) (ym _) (by simp) fun j hj GQ=>by
   obtain rfl:j=c.cells.length:=by omega
   rw [J6 (by simp)];unfold Hc;rw [Nat.sub_self];rfl
  rw [e3,yX] at e2;obtain ⟨l,e4,hL⟩:=m9 (n:=n2) W V h4 h6 (fun j hj=>hb j hj) ha hl (by omega);exact ⟨l,e2.trans e4,hL⟩
 ·obtain ⟨h4,hb⟩:=hI;have hc:=W.cells i hi;have hr:=W.r64 hi;have Cb:=W.at hi;have t2:(((i:Int)+1).toNat:Nat)=i+1:=by omega
  show ∃ s',PT n (HH c q pos pos.length lost n) c q pos pos.length lost (i:Int) s=_/\ _
  unfold PT;rw [yW (lt i hi),yV];simp only [yU,t1,t2,yt];rw [yP ⟨⟨by omega,lt i hi⟩,hr.2,by omega,by omega,hc,Cb.i63 W.k⟩];refine ⟨s.set (i+1) (E9 q c pos (i+1)),?_,by rw [yu];exact h4,fun j hj=>?_⟩
  ·refine (congrArg (fun z=>Option.bind z _) (bH Ay hi h4 (BK (AY c pos i)) 100 fun e he=>(V.sym W.k Cb e he).1)).trans ?_;rw [yX];simp only;rw [yP hr.2,hb i (ym _)];rfl
  ·by_cases e:i+1=j
   ·subst e;exact J6 (by omega)
   ·rw [getD_set_ne e];exact hb j (by omega)
 ·obtain rfl:j=0:=by omega
  rw [J6 (by simp)];rfl
end
end Go.Proofs.YtgkhhfnhacibcaaGreatDoor
namespace Go.Proofs.YtgkhhfnhacibcaaGreatDoor
open Go.RowKit
section
variable {k:Nat}
theorem cE {T1 T2:Type} (Jm:List Int -> Int -> Int -> T1) (Nl:List Int -> Int -> Int -> T2) (f1:Int -> Int -> T1 -> Option T1) (f2:Int -> T2 -> Option T2) (ok:Nat -> Nat -> Bool) {a b:Int} (ha:Sm k a) (hb:Sm k b) (hk:k<=16)
 (h1: ∀ (s t:Nat) (l:List Int) (x y:Int),s<k -> t<k -> f1 s t (Jm l x y)=some (bif ok s t then Jm l (bits .or .i64 x (IntKind.i64.wrap (1*2 ^ s))) (bits .or .i64 y (IntKind.i64.wrap (1*2 ^ t))) else Jm l x y))
 (h2: ∀ (s:Nat) (l:List Int) (x y x' y':Int),s<k -> By (f1 s) (BK b) (Jm l x y)=some (Jm l x' y') -> f2 s (Nl l x y)=some (Nl l x' y')) (l:List Int):
 ∃ x y,By f2 (BK a) (Nl l 0 0)=some (Nl l x y)/\ (∀ u,tb x u=true↔tb a u=true/\ ∃ t,tb b t=true/\ ok u t=true)/\ (∀ u,tb y u=true↔tb b u=true/\ ∃ s,tb a s=true/\ ok s u=true):=by
 have Iv:k<=62:=yf hk (by decide)
 have qw: ∀ (s:Nat) (x y:Int),s<k -> ∃ x' y',By (f1 s) (BK b) (Jm l x y)=some (Jm l x' y')/\ (∀ u,tb x' u=true↔tb x u=true∨(u=s/\ ∃ t,tb b t=true/\ ok s t=true))/\ (∀ u,tb y' u=true↔tb y u=true∨(tb b u=true/\ ok s u=true)):=by
  intro s x y hs
  have key:=UH (f:=f1 s) (fun pre st=>∃ x' y',st=Jm l x' y'/\ (∀ u,tb x' u=true↔tb x u=true∨(u=s/\ ∃ t:Nat,(t:Int)∈pre/\ ok s t=true))/\ (∀ u:Nat,tb y' u=true↔tb y u=true∨((u:Int)∈pre/\ ok s u=true)))
   (BK b) [] (Jm l x y) ⟨x,y,rfl,fun u=>⟨.inl,fun h=>h.elim id fun ⟨_,t,h,_⟩=>(by cases h)⟩,fun u=>⟨.inl,fun h=>h.elim id fun ⟨h,_⟩=>(by cases h)⟩⟩ ?_
  ·obtain ⟨st,e,x',y',rfl,hx,hy⟩:=key;refine ⟨x',y',e,fun u=>?_,fun u=>?_⟩
   ·rw [hx,zw];constructor
    ·rintro (h | ⟨e1,t,h,h3⟩)
     ·exact .inl h
     ·obtain ⟨t',e2,_,h4⟩:=(Eg hb Iv).1 h;have:t=t':=by omega
      subst this;exact .inr ⟨e1,t,h4,h3⟩
    ·rintro (h | ⟨e1,t,h,h3⟩)
     ·exact .inl h
     ·exact .inr ⟨e1,t,(Eg hb Iv).2 ⟨t,rfl,zH fun CR=>(by rw [hb.hi CR] at h;cases h),h⟩,h3⟩
   ·rw [hy,zw];constructor
    ·rintro (h | ⟨h,h3⟩)
     ·exact .inl h
     ·obtain ⟨t',e2,_,h4⟩:=(Eg hb Iv).1 h;have:u=t':=by omega
      subst this;exact .inr ⟨h4,h3⟩
    ·rintro (h | ⟨h,h3⟩)
     ·exact .inl h
     ·exact .inr ⟨(Eg hb Iv).2 ⟨u,rfl,zH fun CR=>(by rw [hb.hi CR] at h;cases h),h⟩,h3⟩
  ·rintro pre e _ he ⟨x',y',rfl,hx,hy⟩;obtain ⟨t,rfl,ht,_⟩:=(Eg hb Iv).1 he;rw [h1 s t l x' y' hs ht];cases ho:ok s t
   ·rw [yO];refine ⟨_,rfl,x',y',rfl,fun u=>?_,fun u=>?_⟩
    ·rw [hx];constructor
     ·rintro (h | ⟨e1,t',h,h3⟩)
      ·exact .inl h
      ·exact .inr ⟨e1,t',zA _ h,h3⟩
     ·rintro (h | ⟨e1,t',h,h3⟩)
      ·exact .inl h
      ·rcases zP.1 h with h | h
       ·exact .inr ⟨e1,t',h,h3⟩
       ·have:t'=t:=by have:=yp.1 h;omega
        subst this;rw [ho] at h3;cases h3
    ·rw [hy];constructor
     ·rintro (h | ⟨h,h3⟩)
      ·exact .inl h
      ·exact .inr ⟨zA _ h,h3⟩
     ·rintro (h | ⟨h,h3⟩)
      ·exact .inl h
      ·rcases zP.1 h with h | h
       ·exact .inr ⟨h,h3⟩
       ·have:u=t:=by have:=yp.1 h;omega
        subst this;rw [ho] at h3;cases h3
   ·rw [yV];refine ⟨_,rfl,_,_,rfl,fun u=>?_,fun u=>?_⟩
    ·rw [JS,yk,hx,Hi (by omega),ye];constructor
     ·rintro ((h | ⟨e1,t',h,h3⟩) | rfl)
      ·exact .inl h
      ·exact .inr ⟨e1,t',zA _ h,h3⟩
      ·exact .inr ⟨rfl,t,zQ _ (.head _),ho⟩
     ·rintro (h | ⟨e1,t',h,h3⟩)
      ·exact .inl (.inl h)
      ·exact .inr e1.symm
    ·rw [JS,yk,hy,Hi (by omega),ye];constructor
     ·rintro ((h | ⟨h,h3⟩) | rfl)
      ·exact .inl h
      ·exact .inr ⟨zA _ h,h3⟩
      ·exact .inr ⟨zQ _ (.head _),ho⟩
     ·rintro (h | ⟨h,h3⟩)
      ·exact .inl (.inl h)
      ·rcases zP.1 h with h | h
       ·exact .inl (.inr ⟨h,h3⟩)
       ·exact .inr (by have:=yp.1 h;omega)
 have key:=UH (f:=f2) (fun pre st=>∃ x y,st=Nl l x y/\ (∀ u:Nat,tb x u=true↔(u:Int)∈pre/\ ∃ t,tb b t=true/\ ok u t=true)/\ (∀ u,tb y u=true↔tb b u=true/\ ∃ s:Nat,(s:Int)∈pre/\ ok s u=true))
  (BK a) [] (Nl l 0 0) ⟨0,0,rfl,fun u=>⟨fun h=>absurd h Ib,fun ⟨h,_⟩=>(by cases h)⟩,fun u=>⟨fun h=>absurd h Ib,fun ⟨_,s,h,_⟩=>(by cases h)⟩⟩ ?_
 ·obtain ⟨st,e,x,y,rfl,hx,hy⟩:=key;refine ⟨x,y,e,fun u=>?_,fun u=>?_⟩
  ·rw [hx,zw];constructor
   ·rintro ⟨h,h2⟩;obtain ⟨t',e2,_,h4⟩:=(Eg ha Iv).1 h;have:u=t':=by omega
    subst this;exact ⟨h4,h2⟩
   ·rintro ⟨h,h2⟩;exact ⟨(Eg ha Iv).2 ⟨u,rfl,zH fun CR=>(by rw [ha.hi CR] at h;cases h),h⟩,h2⟩
  ·rw [hy,zw];constructor
   ·rintro ⟨h0,s,h,h3⟩;obtain ⟨t',e2,_,h4⟩:=(Eg ha Iv).1 h;have:s=t':=by omega
    subst this;exact ⟨h0,s,h4,h3⟩
   ·rintro ⟨h0,s,h,h3⟩;exact ⟨h0,s,(Eg ha Iv).2 ⟨s,rfl,zH fun CR=>(by rw [ha.hi CR] at h;cases h),h⟩,h3⟩
 ·rintro pre e _ he ⟨x,y,rfl,hx,hy⟩;obtain ⟨s,rfl,hs,_⟩:=(Eg ha Iv).1 he;obtain ⟨x',y',e1,Ti,rZ⟩:=qw s x y hs;refine ⟨_,h2 s l x y x' y' hs e1,x',y',rfl,fun u=>?_,fun u=>?_⟩
  ·rw [Ti,hx];constructor
   ·rintro (⟨h,h2⟩ | ⟨rfl,h2⟩)
    ·exact ⟨zA _ h,h2⟩
    ·exact ⟨zQ _ (.head _),h2⟩
   ·rintro ⟨h,h2⟩;rcases zP.1 h with h | h
    ·exact .inl ⟨h,h2⟩
    ·have:u=s:=by have:=yp.1 h;omega
     subst this;exact .inr ⟨rfl,h2⟩
  ·rw [rZ,hy];constructor
   ·rintro (⟨h,s',h2,h3⟩ | ⟨h,h2⟩)
    ·exact ⟨h,s',zA _ h2,h3⟩
    ·exact ⟨h,s,zQ _ (.head _),h2⟩
   ·rintro ⟨h,s',h2,h3⟩;rcases zP.1 h2 with h2 | h2
    ·exact .inl ⟨h,s',h2,h3⟩
    ·have:s'=s:=by have:=yp.1 h2;omega
     subst this;exact .inr ⟨h,h3⟩
end
theorem RF {s:Nat} (hs:s<64) (x:Int):(bits .and .i64 (IntKind.i64.wrap (1*2 ^ s)) x==0)= !tb x s:=by
 rw [z6,yo,KV (FP _ _ _)];constructor
 ·intro h;have:=h s hs;rw [Ia,Hi hs,yW rfl,zJ] at this;rw [this];rfl
 ·intro h i hi;rw [Ia,Hi hs]
  by_cases e:s=i
  ·subst e;rw [yW rfl,zJ];cases hx:tb x s
   ·rfl
   ·rw [hx] at h;cases h
  ·rw [yS e,z2]
def Gk (q:AA) (c:AB) (s t:Nat):Bool:=decide ((if 0-(q.values.getD s 0-q.values.getD t 0)>q.values.getD s 0-q.values.getD t 0 then 0-(q.values.getD s 0-q.values.getD t 0) else q.values.getD s 0-q.values.getD t 0)>=c.lo)
def GL (c:AB) (s t:Nat):Bool:=(!tb c.set s|| !tb c.other t)&&(!tb c.set t|| !tb c.other s)
def Fc (ok:Nat -> Nat -> Bool) (c:AB) (pos:List Int) (a s:Nat):Prop:=
 if a=0 then ¬ ∃ t,tb (AY c pos 1) t=true/\ ok s t=true else ¬ ∃ t,tb (AY c pos 0) t=true/\ ok t s=true
section
variable {c:AB} {k:Nat} {pos lost:List Int} {q:AA}
theorem xq {n ln:Nat} (V:DY q k) {s t:Nat} (hs:s<k) (ht:t<k):Ux n s t c q pos ln lost=some (Gk q c s t,lost):=by
 have h1:=V.val s hs;have h2:=V.val t ht;have h3:=V.len;unfold Ux ic;simp only [yU];rw [yP ⟨by omega,by omega,A2.2 ⟨by omega,by omega⟩,A2.2 ⟨by omega,by omega⟩⟩];rfl
theorem pA {n ln:Nat} {s t:Nat} (hs:s<64) (ht:t<64):S9 n s t c q pos ln lost=some (GL c s t,lost):=by
 have g: ∀ s:Nat,s<64 -> (0:Int)<=(s:Int)/\ (s:Int)<=((IntKind.i64.bits:Nat):Int):=fun s hs=>⟨by omega,by show (s:Int)<=64;omega⟩
 unfold S9 cU;simp only [yU];rw [yP ⟨g s hs,g t ht⟩,RF hs,RF hs,RF ht,RF ht];unfold GL;cases tb c.set s <;> cases tb c.set t <;> cases tb c.other s <;> cases tb c.other t <;> rfl
theorem cF {n:Nat} (W:Bs c k pos) (h2:c.cells.length=2) (hl:lost.length=pos.length) (ok:Nat -> Nat -> Bool) {x y:Int}
 (hx: ∀ u,tb x u=true↔tb (AY c pos 0) u=true/\ ∃ t,tb (AY c pos 1) t=true/\ ok u t=true) (hy: ∀ u,tb y u=true↔tb (AY c pos 1) u=true/\ ∃ s,tb (AY c pos 0) s=true/\ ok s u=true):
 ∃ l1 l,DA n (c.cells.getD 0 0) (bits .xor .i64 (-1) x) c q pos pos.length lost=some l1/\ DA n (c.cells.getD 1 0) (bits .xor .i64 (-1) y) c q pos pos.length l1=some l/\ B1 c pos lost c.cells.length (Fc ok c pos) l:=by
 have c0:=W.cells 0 (by omega);have c1:=W.cells 1 (by omega);obtain ⟨l1,e1,n1,f1⟩:=Jo (lost:=lost) (n:=n) (ss:=bits .xor .i64 (-1) x) (c:=c) (q:=q) c0.1 c0.2 hl;obtain ⟨l,e2,n2,f2⟩:=Jo (lost:=l1) (n:=n) (ss:=bits .xor .i64 (-1) y) (c:=c) (q:=q) c1.1 c1.2 n1;refine ⟨l1,l,e1,e2,?_⟩;have lt: ∀ {a:Nat} {s:Nat},a<c.cells.length -> tb (AY c pos a) s=true -> s<64:=fun {a s} ha h=>zH fun CR=>by rw [IZ CR] at h;cases h
 rw [h2];refine B1.step (i:=1) (l:=l1) (B1.step (i:=0) (l:=lost) (B1.zero hl) n1 fun j s=>?_) n2 fun j s=>?_
 ·rw [f1,yk,yT,yT,ye];constructor
  ·rintro (h | ⟨rfl,h3,h4⟩)
   ·exact .inl h
   ·refine .inr ⟨rfl,h3,?_⟩;rw [Rp _ (lt (a:=0) (by omega) h3)] at h4;unfold Fc;rw [yP rfl];intro h5;rw [(hx s).2 ⟨h3,h5⟩] at h4;cases h4
  ·rintro (h | ⟨rfl,h3,h4⟩)
   ·exact .inl h
   ·refine .inr ⟨rfl,h3,?_⟩;rw [Rp _ (lt (a:=0) (by omega) h3)];unfold Fc at h4;rw [yP rfl] at h4;cases hb:tb x s
    ·rfl
    ·exact absurd ((hx s).1 hb).2 h4
 ·rw [f2,yk,yT,yT,ye];constructor
  ·rintro (h | ⟨rfl,h3,h4⟩)
   ·exact .inl h
   ·refine .inr ⟨rfl,h3,?_⟩;rw [Rp _ (lt (a:=1) (by omega) h3)] at h4;unfold Fc;rw [yb (by decide)];intro h5;rw [(hy s).2 ⟨h3,h5⟩] at h4;cases h4
  ·rintro (h | ⟨rfl,h3,h4⟩)
   ·exact .inl h
   ·refine .inr ⟨rfl,h3,?_⟩;rw [Rp _ (lt (a:=1) (by omega) h3)];unfold Fc at h4;rw [yb (by decide)] at h4;cases hb:tb y s
    ·rfl
    ·exact absurd ((hy s).1 hb).2 h4
theorem xt {n:Nat} (W:Bs c k pos) (V:DY q k) (h2:c.cells.length=2) (hl:lost.length=pos.length):
 ∃ l,M9 n c q pos pos.length lost=some (true,l)/\ B1 c pos lost c.cells.length (Fc (Gk q c) c pos) l:=by
 have c0:=W.cells 0 (by omega);have c1:=W.cells 1 (by omega);have s0:=W.at (a:=0) (by omega);have s1:=W.at (a:=1) (by omega);have hk:=W.k;have g: ∀ s:Nat,s<k -> (0:Int)<=(s:Int)/\ (s:Int)<=((IntKind.i64.bits:Nat):Int):=fun s hs=>⟨by omega,by show (s:Int)<=64;omega⟩
 obtain ⟨x,y,e,hx,hy⟩:=cE Ji.s0 Jj.s0 (Sx n c q pos pos.length) (Sy n c q pos pos.length) (Gk q c) s0 s1 hk
  (fun s t l x y hs ht=>by
   unfold Sx cN Sw
   dsimp only
   rw [xq V hs ht,yX];cases Gk q c s t
   ·rfl
   ·simp only [yV,yU];rw [yP ⟨g s hs,g t ht⟩])
  (fun s l x y x' y' hs he=>by
   unfold Sy cM Su
   dsimp only
   rw [yP (show 0<=pos.getD (c.cells.getD 1 0).toNat 0/\ pos.getD (c.cells.getD 1 0).toNat 0<9223372036854775808 from s1.i63 hk)];refine (congrArg (fun z=>Option.bind z _) he).trans ?_;rfl) lost
 obtain ⟨l1,l,e1,e2,hL⟩:=cF (n:=n) (q:=q) W h2 hl (Gk q c) hx hy;refine ⟨l,?_,hL⟩;unfold M9 ZA WL cL;rw [yP ⟨by omega,by omega,c0,c1,s0.i63 hk⟩];refine (congrArg (fun z=>Option.bind (Option.bind z _) _) e).trans ?_;rw [yX];simp only;rw [e1,yX,e2];rfl
theorem pC {n:Nat} (W:Bs c k pos) (h2:c.cells.length=2) (hl:lost.length=pos.length):
 ∃ l,MA n c q pos pos.length lost=some (true,l)/\ B1 c pos lost c.cells.length (Fc (GL c) c pos) l:=by
 have c0:=W.cells 0 (by omega);have c1:=W.cells 1 (by omega);have s0:=W.at (a:=0) (by omega);have s1:=W.at (a:=1) (by omega);have hk:=W.k;have g: ∀ s:Nat,s<k -> (0:Int)<=(s:Int)/\ (s:Int)<=((IntKind.i64.bits:Nat):Int):=fun s hs=>⟨by omega,by show (s:Int)<=64;omega⟩
 obtain ⟨x,y,e,hx,hy⟩:=cE Jg.s0 Jh.s0 (Sr n c q pos pos.length) (Ss n c q pos pos.length) (GL c) s0 s1 hk
  (fun s t l x y hs ht=>by
   unfold Sr cI Sq
   dsimp only
   rw [pA (by omega) (by omega),yX];cases GL c s t
   ·rfl
   ·simp only [yV,yU];rw [yP ⟨g s hs,g t ht⟩])
  (fun s l x y x' y' hs he=>by
   unfold Ss cH So
   dsimp only
   rw [yP (show 0<=pos.getD (c.cells.getD 1 0).toNat 0/\ pos.getD (c.cells.getD 1 0).toNat 0<9223372036854775808 from s1.i63 hk)];refine (congrArg (fun z=>Option.bind z _) he).trans ?_;rfl) lost
 obtain ⟨l1,l,e1,e2,hL⟩:=cF (n:=n) (q:=q) W h2 hl (GL c) hx hy;refine ⟨l,?_,hL⟩;unfold MA WV WK cG;rw [yP ⟨by omega,by omega,c0,c1,s0.i63 hk⟩];refine (congrArg (fun z=>Option.bind (Option.bind z _) _) e).trans ?_;rw [yX];simp only;rw [e1,yX,e2];rfl
end
end Go.Proofs.YtgkhhfnhacibcaaGreatDoor
namespace Go.Proofs.YtgkhhfnhacibcaaGreatDoor
open Go.RowKit
set_option maxRecDepth 100000
set_option maxHeartbeats 40000000
def aB:ST:=.rd 0 (.rd 1 (.rd 2 (.rd 3 (.rd 4 (.rd 6 (.rd 7 (.rd 8 (.rd 9 (.rd 10 (.ef 5 (.rd 12 (.ef 11 (.rd 13 (.fin [0,1] [0,2,3])) (.no))) (.ef 11 (.ef 5 (.rd 12 (.rd 13 (.fin [1,0] [0,2,3]))) (.no)) (.no))))))))))))
theorem lw:CF (BG Tryz.f108 1) [5,11] aB:=by unfold CF;kernel_rfl
def aA:ST:=.rd 0 (.rd 1 (.rd 2 (.rd 3 (.rd 4 (.rd 5 (.rd 6 (.rd 7 (.rd 8 (.rd 9 (.rd 10 (.rd 11 (.rd 12 (.rd 13 (.rd 14 (.rd 15 (.rd 16 (.rd 17 (.rd 18 (.rd 19 (.rd 20 (.rd 21 (.rd 22 (.rd 23 (.rd 24 (.rd 25 (.rd 26 (.rd 27 (.rd 28 (.rd 29 (.rd 30 (.rd 31 (.rd 32 (.ef 33 (.rd 34 (.ef 35 (.fin [] [0,2,3,30,31,32]) (.no))) (.no))))))))))))))))))))))))))))))))))
theorem lv:CF (BG Tryz.f108 5) [33] aA:=by unfold CF;kernel_rfl
def Ic:Bh:=fun i=>match i with
 | 1=>.tre [5,11] aB
 | 5=>.tre [33] aA
 | _=>.no
def VM (pos:List Int) (c:AB) (q:AA) (ln:Nat) (lost:List Int):St:=⟨(AM 120 [(0,.ref 0 0),(2,.msl 2 1 0 pos.length),(3,.msl 3 1 0 pos.length)]),([some (.cells (AG c++AE q++[.ints pos,.msl 1 1 0 ln])),some (.ints lost),some (.bools (List.replicate pos.length false)),some (.bools (List.replicate pos.length false))]:DH)⟩
def Zq (pos:List Int) (c:AB) (Cv:Int) (q:AA) (ln:Nat) (lost:List Int) (o2 o3:List Bool):St:=⟨(AM 120 [(0,.ref 0 0),(2,.msl 2 1 0 pos.length),(3,.msl 3 1 0 pos.length),(30,.ints c.cells),(31,.i (c.cells.length:Int)),(32,.i Cv)]),([some (.cells (AG c++AE q++[.ints pos,.msl 1 1 0 ln])),some (.ints lost),some (.bools (o2.set (0+((c.cells.getD ((Cv).toNat) 0).toNat)) ((bits .and .i64 (pos.getD ((c.cells.getD ((Cv).toNat) 0).toNat) 0) c.set) != 0))),some (.bools (o3.set (0+((c.cells.getD ((Cv).toNat) 0).toNat)) ((bits .andNot .i64 (pos.getD ((c.cells.getD ((Cv).toNat) 0).toNat) 0) c.set)==0)))]:DH)⟩
def eO (c:AB) (q:AA) (pos:List Int) (ln:Nat) (lost:List Int) (o2 o3:List Bool):DH:=[some (.cells (AG c++AE q++[.ints pos,.msl 1 1 0 ln])),some (.ints lost),some (.bools o2),some (.bools o3)]
def eN (c:AB) (q:AA) (pos:List Int) (ln:Nat) (lost:List Int) (o3:List Bool) (y2:(List Bool)):DH:=[some (.cells (AG c++AE q++[.ints pos,.msl 1 1 0 ln])),some (.ints lost),none,some (.bools o3),some (.bools y2)]
inductive Nh where
 | l1 (Cv:Int) (o2 o3:List Bool)
 | l2 (Et:List Bool) (x8:Nat) (G8:List Int) (KN Fq:Int) (o2 o3:List Bool)
 | l3 (Et:List Bool) (x8:Nat) (JN FV:Int) (o1:List Int) (o2 o3:List Bool)
def Py (n:Nat) (self:Nh -> Option ((List Bool)×(List Bool)×Bool×(List Int))) (c:AB) (q:AA) (pos:List Int) (ln:Nat) (lost:List Int) (Cv:Int) (o2 o3:List Bool):Option ((List Bool)×(List Bool)×Bool×(List Int)):=
 bif (decide (Cv<(c.cells.length:Int))) then
  if (0<=Cv/\ Cv<(c.cells.length:Int))/\ (0<=(c.cells.getD ((Cv).toNat) 0)/\ (c.cells.getD ((Cv).toNat) 0)<(pos.length:Int))/\ 0+((c.cells.getD ((Cv).toNat) 0).toNat)<o2.length/\ 0+((c.cells.getD ((Cv).toNat) 0).toNat)<o3.length/\ AL (Cv+1) then
   self (.l1 (Cv+1) (o2.set (0+((c.cells.getD ((Cv).toNat) 0).toNat)) ((bits .and .i64 (pos.getD ((c.cells.getD ((Cv).toNat) 0).toNat) 0) c.set) != 0)) (o3.set (0+((c.cells.getD ((Cv).toNat) 0).toNat)) ((bits .andNot .i64 (pos.getD ((c.cells.getD ((Cv).toNat) 0).toNat) 0) c.set)==0)))
  else none
 else
  if pos.length=o3.length then
   (Tf n o3 true).bind fun y1=>
    bif (decide (y1<0)) then
     if pos.length=o2.length then
      some (o2,o3,false,lost)
     else none
    else
     if pos.length=o2.length then
      (M1 n o2).bind fun y2=>
       (Od n q.nbrs o2 y1).bind fun y3=>
        self (.l2 o2 y2.length y3.1 (y3.1.length:Int) 0 o3 y2)
     else none
  else none
def Px (n:Nat) (self:Nh -> Option ((List Bool)×(List Bool)×Bool×(List Int))) (c:AB) (q:AA) (pos:List Int) (ln:Nat) (lost:List Int) (Et:List Bool) (x8:Nat) (G8:List Int) (KN Fq:Int) (o2 o3:List Bool):Option ((List Bool)×(List Bool)×Bool×(List Int)):=
 bif (decide (Fq<KN)) then
  if (0<=Fq/\ Fq<(G8.length:Int))/\ (0<=(G8.getD ((Fq).toNat) 0)/\ (G8.getD ((Fq).toNat) 0)<(x8:Int))/\ 0+((G8.getD ((Fq).toNat) 0).toNat)<o3.length/\ AL (Fq+1) then
   self (.l2 Et x8 G8 KN (Fq+1) o2 (o3.set (0+((G8.getD ((Fq).toNat) 0).toNat)) false))
  else none
 else
  self (.l3 Et x8 (x8:Int) 0 lost o2 o3)
def Pw (n:Nat) (self:Nh -> Option ((List Bool)×(List Bool)×Bool×(List Int))) (c:AB) (q:AA) (pos:List Int) (ln:Nat) (lost:List Int) (Et:List Bool) (x8:Nat) (JN FV:Int) (o1:List Int) (o2 o3:List Bool):Option ((List Bool)×(List Bool)×Bool×(List Int)):=
 bif (decide (FV<JN)) then
  if (0<=FV/\ FV<(x8:Int))/\ 0+((FV).toNat)<o3.length then
   bif (o3.getD (0+((FV).toNat)) false) then
    (DA n FV c.set c q pos ln o1).bind fun y1=>
     if AL (FV+1) then
      self (.l3 Et x8 JN (FV+1) y1 o2 o3)
     else none
   else
    if AL (FV+1) then
     self (.l3 Et x8 JN (FV+1) o1 o2 o3)
    else none
  else none
 else
  if pos.length=o2.length then
   some (Et,o2,true,o1)
  else none
def cX (n:Nat) (self:Nh -> Option ((List Bool)×(List Bool)×Bool×(List Int))) (c:AB) (q:AA) (pos:List Int) (ln:Nat) (lost:List Int):Option ((List Bool)×(List Bool)×Bool×(List Int)):=
 if ((pos.length:Int):Int)=(pos.length:Int)/\ 0<=(pos.length:Int)/\ ((pos.length:Int):Int)<=1000000000000 then
  self (.l1 0 (List.replicate pos.length false) (List.replicate pos.length false))
 else none
def EN (c:AB) (q:AA) (pos:List Int) (ln:Nat) (lost:List Int):Nat -> Nh -> Option ((List Bool)×(List Bool)×Bool×(List Int))
 | 0,_=>none
 | n+1,.l1 Cv o2 o3=>Py n (EN c q pos ln lost n) c q pos ln lost Cv o2 o3
 | n+1,.l2 Et x8 G8 KN Fq o2 o3=>Px n (EN c q pos ln lost n) c q pos ln lost Et x8 G8 KN Fq o2 o3
 | n+1,.l3 Et x8 JN FV o1 o2 o3=>Pw n (EN c q pos ln lost n) c q pos ln lost Et x8 JN FV o1 o2 o3
def MB (n:Nat) (c:AB) (q:AA) (pos:List Int) (ln:Nat) (lost:List Int):Option ((List Bool)×(List Bool)×Bool×(List Int)):=cX n (EN c q pos ln lost n) c q pos ln lost
def pH (n B:Nat) (N:Yd 2) (c:AB) (q:AA) (pos:List Int) (ln:Nat) (lost:List Int) (r:(List Bool)×(List Bool)×Bool×(List Int)):Nh -> Prop
 | .l1 Cv o2 o3=>∀ m0:Nat,n<=m0 -> TW B N (FQ Tryz.f108 2 (.tup 3 (L1 [.bools r.1,.bools r.2.1,.bool r.2.2.1])) [some (.cells (AG c++AE q++[.ints pos,.msl 1 1 0 ln])),some (.ints r.2.2.2)]) (A4 m0 (BF (Ab Tryz.f108) 0 [])) ⟨AM 120 [(0,.ref 0 0),(2,.msl 2 1 0 pos.length),(3,.msl 3 1 0 pos.length),(30,.ints c.cells),(31,.i (c.cells.length:Int)),(32,.i Cv)],[some (.cells (AG c++AE q++[.ints pos,.msl 1 1 0 ln])),some (.ints lost),some (.bools o2),some (.bools o3)]⟩
 | .l2 Et x8 G8 KN Fq o2 o3=>∀ m0:Nat,n<=m0 -> TW B N (FQ Tryz.f108 2 (.tup 3 (L1 [.bools r.1,.bools r.2.1,.bool r.2.2.1])) [some (.cells (AG c++AE q++[.ints pos,.msl 1 1 0 ln])),some (.ints r.2.2.2)]) (A4 m0 (BF (Ab Tryz.f108) 2 [])) ⟨AM 120 [(0,.ref 0 0),(2,.bools Et),(3,.msl 2 1 0 pos.length),(8,.msl 3 1 0 x8),(90,.ints G8),(91,.i KN),(92,.i Fq)],[some (.cells (AG c++AE q++[.ints pos,.msl 1 1 0 ln])),some (.ints lost),some (.bools o2),some (.bools o3)]⟩
 | .l3 Et x8 JN FV o1 o2 o3=>∀ m0:Nat,n<=m0 -> TW B N (FQ Tryz.f108 2 (.tup 3 (L1 [.bools r.1,.bools r.2.1,.bool r.2.2.1])) [some (.cells (AG c++AE q++[.ints pos,.msl 1 1 0 ln])),some (.ints r.2.2.2)]) (A4 m0 (BF (Ab Tryz.f108) 4 [])) ⟨AM 120 [(0,.ref 0 0),(2,.bools Et),(3,.msl 2 1 0 pos.length),(8,.msl 3 1 0 x8),(101,.i JN),(102,.i FV)],[some (.cells (AG c++AE q++[.ints pos,.msl 1 1 0 ln])),some (.ints o1),some (.bools o2),some (.bools o3)]⟩
theorem pI (B:Nat) (N:Yd 2) (c:AB) (q:AA) (pos:List Int) (ln:Nat) (lost:List Int):Al (EN c q pos ln lost) (pH · B N c q pos ln lost):=ia (fun _=>rfl) fun n AH pt r h=>by
 cases pt
 case l1 Cv o2 o3=>
  intro m0 AC;refine rd AC fun m0 AC=>?_
  revert r;apply gO
  exact bi 33 (gc (gi (jg lv (gc (gn fun g1=>jg g1 (jg g1 (jg g1 (gc (gi (jg g1 (gc (gi (jg (Eq.refl (Zq pos c Cv q ln lost o2 o3)) (gw 70 (lG (tg:=[([(33,2)],(Zq pos c Cv q ln lost o2 o3))]) Ic [0,1,2,3] (AH _ _ · m0 AC)))))))))))))))) (gn fun g0=>cn fun y1 BB=>jc (sb [.msl 3 1 0 pos.length,.bool true] (rJ BB) (eO c q pos ln lost o2 o3) ⟨Aa.bools rfl g0,Aa.plain (by kernel_rfl),trivial⟩) (bi 74 (gn fun g1=>lF fun p=>ez Ic [2,3,4] [0,1,2,3] p [2,3] (H0.g g1 |>.g g0)) (gn fun g1=>cn fun y2 Bq=>jc (ES.snapNew (ds:=[.msl 2 1 0 pos.length]) (gX Bq) (eO c q pos ln lost o2 o3) ⟨Aa.bools rfl g1,trivial⟩ rfl) (fun p r h=>by
   refine gz (AI 11 Ic) [0,1,2,3,4] p [2] (H0.g g1) (CW (Ab Tryz.f108) 11 []) (AM 120 [(0,.ref 0 0),(2,.bools o2),(3,.msl 3 1 0 pos.length),(7,.i y1),(8,.msl 4 1 0 y2.length)]) (eN c q pos ln lost o3 y2) ?_;revert r;apply gO;exact cf w6 (eN c q pos ln lost o3 y2) fun _=>lN Ic [0,1,3,4] (AH _ _ · n Nat.le.refl)))))
 case l2 Et x8 G8 KN Fq o2 o3=>
  intro m0 AC;refine rd AC fun m0 AC=>?_
  revert r;apply gO;exact bi 93 (gc (gi (gc (gi (gc (gi (gw 99 (lG Ic [0,1,2,3] (AH _ _ · m0 AC))))))))) (lN Ic [0,1,2,3] (AH _ _ · n Nat.le.refl))
 case l3 Et x8 JN FV o1 o2 o3=>
  intro m0 AC;refine rd AC fun m0 AC=>?_
  revert r;apply gO;exact bi 103 (gc (gi (gi (bi 108 (ce Fe [0,1] [some (.cells (AG c++AE q++[.ints pos,.msl 1 1 0 ln])),some (.ints o1),some (.bools o2),some (.bools o3)] fun _=>gw 117 (lG Ic [0,1,2,3] (AH _ _ · m0 AC))) (gw 117 (lG Ic [0,1,2,3] (AH _ _ · m0 AC))))))) (gn fun g0=>lF fun p=>ez Ic [2,3,4] [0,1,2] p [2] (H0.g g0))
theorem cW {n:Nat} {c:AB} {q:AA} {pos:List Int} {ln:Nat} {lost:List Int} {r:(List Bool)×(List Bool)×Bool×(List Int)} (h:MB n c q pos ln lost=some r):EQ 108 [.ref 0 0] [some (.cells (AG c++AE q++[.ints pos,.msl 1 1 0 ln])),some (.ints lost)] (.tup 3 (L1 [.bools r.1,.bools r.2.1,.bool r.2.2.1])) [some (.cells (AG c++AE q++[.ints pos,.msl 1 1 0 ln])),some (.ints r.2.2.2)] false:=by
 refine ot Tryz.func108 fun B N=>?_
 revert r;apply gO;exact jg lw (gn fun g0=>jg g0 (jg g0 (jg (Eq.refl (VM pos c q ln lost)) (jg g0 (jg g0 (jg (Eq.refl (VM pos c q ln lost)) (lN (tg:=[([],(VM pos c q ln lost))]) Ic [0,1,2,3] ((pI B N c q pos ln lost n) _ _ · n Nat.le.refl))))))))
inductive Uf where
 | l1 (x3 x4:List Bool) (x5:Bool) (AW BD:Int) (o1:List Int)
def Q9 (n:Nat) (self:Uf -> Option (Bool×(List Int))) (c:AB) (q:AA) (pos:List Int) (ln:Nat) (lost:List Int) (x3 x4:List Bool) (x5:Bool) (AW BD:Int) (o1:List Int):Option (Bool×(List Int)):=
 bif (decide (BD<AW)) then
  bif (!x5) then
   if AL (BD+1) then
    self (.l1 x3 x4 x5 AW (BD+1) o1)
   else none
  else
   if 0<=BD/\ BD<(x3.length:Int) then
    bif (!(x3.getD ((BD).toNat) false)) then
     if AL (BD+1) then
      self (.l1 x3 x4 x5 AW (BD+1) o1)
     else none
    else
     if 0<=BD/\ BD<(x4.length:Int) then
      bif (x4.getD ((BD).toNat) false) then
       if AL (BD+1) then
        self (.l1 x3 x4 x5 AW (BD+1) o1)
       else none
      else
       (Lm n q.nbrs x3 x4 BD).bind fun y1=>
        bif y1.1 then
         (Fx n BD c q pos ln o1).bind fun y2=>
          if AL (BD+1) then
           self (.l1 x3 x4 x5 AW (BD+1) y2)
          else none
        else
         if AL (BD+1) then
          self (.l1 x3 x4 x5 AW (BD+1) o1)
         else none
     else none
   else none
 else
  some (true,o1)
def wu (n:Nat) (self:Uf -> Option (Bool×(List Int))) (c:AB) (q:AA) (pos:List Int) (ln:Nat) (lost:List Int):Option (Bool×(List Int)):=
 (MB n c q pos ln lost).bind fun y1=>
  self (.l1 y1.1 y1.2.1 y1.2.2.1 (y1.1.length:Int) 0 y1.2.2.2)
def LR (c:AB) (q:AA) (pos:List Int) (ln:Nat) (lost:List Int):Nat -> Uf -> Option (Bool×(List Int))
 | 0,_=>none
 | n+1,.l1 x3 x4 x5 AW BD o1=>Q9 n (LR c q pos ln lost n) c q pos ln lost x3 x4 x5 AW BD o1
def Ug (n:Nat) (c:AB) (q:AA) (pos:List Int) (ln:Nat) (lost:List Int):Option (Bool×(List Int)):=wu n (LR c q pos ln lost n) c q pos ln lost
def wv (n B:Nat) (N:Yd 2) (c:AB) (q:AA) (pos:List Int) (ln:Nat) (lost:List Int) (r:Bool×(List Int)):Uf -> Prop
 | .l1 x3 x4 x5 AW BD o1=>∀ m0:Nat,n<=m0 -> TW B N (FQ Tryz.f75 2 (.bool r.1) [some (.cells (AG c++AE q++[.ints pos,.msl 1 1 0 ln])),some (.ints r.2)]) (A4 m0 (BF (Ab Tryz.f75) 0 [])) ⟨AM 52 [(0,.ref 0 0),(3,.bools x3),(4,.bools x4),(5,.bool x5),(16,.i AW),(17,.i BD)],[some (.cells (AG c++AE q++[.ints pos,.msl 1 1 0 ln])),some (.ints o1)]⟩
theorem ww (B:Nat) (N:Yd 2) (c:AB) (q:AA) (pos:List Int) (ln:Nat) (lost:List Int):Al (LR c q pos ln lost) (wv · B N c q pos ln lost):=ia (fun _=>rfl) fun n AH pt r h=>by
 cases pt
 case l1 x3 x4 x5 AW BD o1=>
  intro m0 AC;refine rd AC fun m0 AC=>?_
  revert r;apply gO;exact bi 18 (bi 21 (gw 51 (lG AF [0,1] (AH _ _ · m0 AC))) (gi (bi 27 (gw 51 (lG AF [0,1] (AH _ _ · m0 AC))) (gi (bi 33 (gw 51 (lG AF [0,1] (AH _ _ · m0 AC))) (cf j7 [some (.cells (AG c++AE q++[.ints pos,.msl 1 1 0 ln])),some (.ints o1)] fun _=>bi 45 (ce Kr [0,1] [some (.cells (AG c++AE q++[.ints pos,.msl 1 1 0 ln])),some (.ints o1)] fun _=>gw 51 (lG AF [0,1] (AH _ _ · m0 AC))) (gw 51 (lG AF [0,1] (AH _ _ · m0 AC))))))))) (lE AF [2] [0,1])
theorem wt {n:Nat} {c:AB} {q:AA} {pos:List Int} {ln:Nat} {lost:List Int} {r:Bool×(List Int)} (h:Ug n c q pos ln lost=some r):EQ 75 [.ref 0 0] [some (.cells (AG c++AE q++[.ints pos,.msl 1 1 0 ln])),some (.ints lost)] (.bool r.1) [some (.cells (AG c++AE q++[.ints pos,.msl 1 1 0 ln])),some (.ints r.2)] false:=by
 refine ot Tryz.func75 fun B N=>?_
 revert r;apply gO;exact ce cW [0,1] [some (.cells (AG c++AE q++[.ints pos,.msl 1 1 0 ln])),some (.ints lost)] fun _=>lN AF [0,1] ((ww B N c q pos ln lost n) _ _ · n Nat.le.refl)
inductive Kv where
 | l1 (x3 x4:List Bool) (x20 x21:Int) (o1:List Int)
 | l2 (x3 x4:List Bool) (x8 x20 x21:Int) (BH:List Int) (B6 BC:Int) (o1:List Int)
 | l3 (x3 x4:List Bool) (x7:Nat) (x8 x20 x21:Int) (BH:List Int) (B6 BC:Int) (o1 o2:List Int)
 | l4 (x3 x4:List Bool) (x7:Nat) (x8 x20 x21:Int) (Ga:Nat) (GZ Aj:Int) (o1 o2:List Int)
def QA (n:Nat) (self:Kv -> Option (Bool×(List Int))) (c:AB) (q:AA) (pos:List Int) (ln:Nat) (lost:List Int) (x3 x4:List Bool) (x20 x21:Int) (o1:List Int):Option (Bool×(List Int)):=
 bif (decide (x21<x20)) then
  if 0<=x21/\ x21<(x4.length:Int) then
   bif (!(x4.getD ((x21).toNat) false)) then
    if AL (x21+1) then
     self (.l1 x3 x4 x20 (x21+1) o1)
    else none
   else
    if 0<=x21/\ x21<(q.nbrs.length:Int) then
     self (.l2 x3 x4 0 x20 x21 (q.nbrs.getD ((x21).toNat) []) (((q.nbrs.getD ((x21).toNat) []).length:Nat):Int) 0 o1)
    else none
  else none
 else
  some (true,o1)
def P9 (n:Nat) (self:Kv -> Option (Bool×(List Int))) (c:AB) (q:AA) (pos:List Int) (ln:Nat) (lost:List Int) (x3 x4:List Bool) (x8 x20 x21:Int) (BH:List Int) (B6 BC:Int) (o1:List Int):Option (Bool×(List Int)):=
 bif (decide (BC<B6)) then
  if (0<=BC/\ BC<(BH.length:Int))/\ (0<=(BH.getD ((BC).toNat) 0)/\ (BH.getD ((BC).toNat) 0)<(x3.length:Int)) then
   bif (x3.getD ((BH.getD ((BC).toNat) 0).toNat) false) then
    if ((0=0/\ 1=([BH.getD ((BC).toNat) 0]:List Int).length)/\ 0<([BH.getD ((BC).toNat) 0]:List Int).length/\ ([BH.getD ((BC).toNat) 0]:List Int).length<=Ax)/\ (0<=(BH.getD ((BC).toNat) 0)/\ (BH.getD ((BC).toNat) 0)<(x4.length:Int)) then
     bif (x4.getD ((BH.getD ((BC).toNat) 0).toNat) false) then
      if AL (x8+1)/\ AL (BC+1) then
       self (.l3 x3 x4 (([BH.getD ((BC).toNat) 0]:List Int).length) (x8+1) x20 x21 BH B6 (BC+1) o1 ([BH.getD ((BC).toNat) 0]:List Int))
      else none
     else
      if AL (BC+1) then
       self (.l3 x3 x4 (([BH.getD ((BC).toNat) 0]:List Int).length) x8 x20 x21 BH B6 (BC+1) o1 ([BH.getD ((BC).toNat) 0]:List Int))
      else none
    else none
   else
    if 0<=(BH.getD ((BC).toNat) 0)/\ (BH.getD ((BC).toNat) 0)<(x4.length:Int) then
     bif (x4.getD ((BH.getD ((BC).toNat) 0).toNat) false) then
      if AL (x8+1)/\ AL (BC+1) then
       self (.l2 x3 x4 (x8+1) x20 x21 BH B6 (BC+1) o1)
      else none
     else
      if AL (BC+1) then
       self (.l2 x3 x4 x8 x20 x21 BH B6 (BC+1) o1)
      else none
    else none
  else none
 else
  some (false,o1)
def MF (n:Nat) (self:Kv -> Option (Bool×(List Int))) (c:AB) (q:AA) (pos:List Int) (ln:Nat) (lost:List Int) (x3 x4:List Bool) (x7:Nat) (x8 x20 x21:Int) (BH:List Int) (B6 BC:Int) (o1 o2:List Int):Option (Bool×(List Int)):=
 bif (decide (BC<B6)) then
  if (0<=BC/\ BC<(BH.length:Int))/\ (0<=(BH.getD ((BC).toNat) 0)/\ (BH.getD ((BC).toNat) 0)<(x3.length:Int)) then
   bif (x3.getD ((BH.getD ((BC).toNat) 0).toNat) false) then
    if ((0=0/\ 1=([BH.getD ((BC).toNat) 0]:List Int).length)/\ (0=0/\ x7=o2.length)/\ o2.length+([BH.getD ((BC).toNat) 0]:List Int).length<=Ax)/\ (0<=(BH.getD ((BC).toNat) 0)/\ (BH.getD ((BC).toNat) 0)<(x4.length:Int)) then
     bif (x4.getD ((BH.getD ((BC).toNat) 0).toNat) false) then
      if AL (x8+1)/\ AL (BC+1) then
       self (.l3 x3 x4 (o2.length+([BH.getD ((BC).toNat) 0]:List Int).length) (x8+1) x20 x21 BH B6 (BC+1) o1 (o2++([BH.getD ((BC).toNat) 0]:List Int)))
      else none
     else
      if AL (BC+1) then
       self (.l3 x3 x4 (o2.length+([BH.getD ((BC).toNat) 0]:List Int).length) x8 x20 x21 BH B6 (BC+1) o1 (o2++([BH.getD ((BC).toNat) 0]:List Int)))
      else none
    else none
   else
    if 0<=(BH.getD ((BC).toNat) 0)/\ (BH.getD ((BC).toNat) 0)<(x4.length:Int) then
     bif (x4.getD ((BH.getD ((BC).toNat) 0).toNat) false) then
      if AL (x8+1)/\ AL (BC+1) then
       self (.l3 x3 x4 x7 (x8+1) x20 x21 BH B6 (BC+1) o1 o2)
      else none
     else
      if AL (BC+1) then
       self (.l3 x3 x4 x7 x8 x20 x21 BH B6 (BC+1) o1 o2)
      else none
    else none
  else none
 else
  bif (decide ((x7:Int)<2)) then
   some (false,o1)
  else
   bif (decide (x8>2)) then
    some (false,o1)
   else
    self (.l4 x3 x4 x7 x8 x20 x21 x7 (x7:Int) 0 o1 o2)
def P8 (n:Nat) (self:Kv -> Option (Bool×(List Int))) (c:AB) (q:AA) (pos:List Int) (ln:Nat) (lost:List Int) (x3 x4:List Bool) (x7:Nat) (x8 x20 x21:Int) (Ga:Nat) (GZ Aj:Int) (o1 o2:List Int):Option (Bool×(List Int)):=
 bif (decide (Aj<GZ)) then
  if (0<=Aj/\ Aj<(Ga:Int))/\ 0+((Aj).toNat)<o2.length then
   bif ((x7:Int)==2) then
    (Fx n (o2.getD (0+((Aj).toNat)) 0) c q pos ln o1).bind fun y1=>
     bif (x8==2) then
      if 0<=(o2.getD (0+((Aj).toNat)) 0)/\ (o2.getD (0+((Aj).toNat)) 0)<(x4.length:Int) then
       bif (!(x4.getD ((o2.getD (0+((Aj).toNat)) 0).toNat) false)) then
        (DA n (o2.getD (0+((Aj).toNat)) 0) c.set c q pos ln y1).bind fun y2=>
         if AL (Aj+1) then
          self (.l4 x3 x4 x7 x8 x20 x21 Ga GZ (Aj+1) y2 o2)
         else none
       else
        if AL (Aj+1) then
         self (.l4 x3 x4 x7 x8 x20 x21 Ga GZ (Aj+1) y1 o2)
        else none
      else none
     else
      if AL (Aj+1) then
       self (.l4 x3 x4 x7 x8 x20 x21 Ga GZ (Aj+1) y1 o2)
      else none
   else
    bif (x8==2) then
     if 0<=(o2.getD (0+((Aj).toNat)) 0)/\ (o2.getD (0+((Aj).toNat)) 0)<(x4.length:Int) then
      bif (!(x4.getD ((o2.getD (0+((Aj).toNat)) 0).toNat) false)) then
       (DA n (o2.getD (0+((Aj).toNat)) 0) c.set c q pos ln o1).bind fun y1=>
        if AL (Aj+1) then
         self (.l4 x3 x4 x7 x8 x20 x21 Ga GZ (Aj+1) y1 o2)
        else none
      else
       if AL (Aj+1) then
        self (.l4 x3 x4 x7 x8 x20 x21 Ga GZ (Aj+1) o1 o2)
       else none
     else none
    else
     if AL (Aj+1) then
      self (.l4 x3 x4 x7 x8 x20 x21 Ga GZ (Aj+1) o1 o2)
     else none
  else none
 else
  if AL (x21+1) then
   self (.l1 x3 x4 x20 (x21+1) o1)
  else none
def py (n:Nat) (self:Kv -> Option (Bool×(List Int))) (c:AB) (q:AA) (pos:List Int) (ln:Nat) (lost:List Int):Option (Bool×(List Int)):=
 (MB n c q pos ln lost).bind fun y1=>
  self (.l1 y1.1 y1.2.1 (y1.2.1.length:Int) 0 y1.2.2.2)
def CQ (c:AB) (q:AA) (pos:List Int) (ln:Nat) (lost:List Int):Nat -> Kv -> Option (Bool×(List Int))
 | 0,_=>none
 | n+1,.l1 x3 x4 x20 x21 o1=>QA n (CQ c q pos ln lost n) c q pos ln lost x3 x4 x20 x21 o1
 | n+1,.l2 x3 x4 x8 x20 x21 BH B6 BC o1=>P9 n (CQ c q pos ln lost n) c q pos ln lost x3 x4 x8 x20 x21 BH B6 BC o1
 | n+1,.l3 x3 x4 x7 x8 x20 x21 BH B6 BC o1 o2=>MF n (CQ c q pos ln lost n) c q pos ln lost x3 x4 x7 x8 x20 x21 BH B6 BC o1 o2
 | n+1,.l4 x3 x4 x7 x8 x20 x21 Ga GZ Aj o1 o2=>P8 n (CQ c q pos ln lost n) c q pos ln lost x3 x4 x7 x8 x20 x21 Ga GZ Aj o1 o2
def TH (n:Nat) (c:AB) (q:AA) (pos:List Int) (ln:Nat) (lost:List Int):Option (Bool×(List Int)):=py n (CQ c q pos ln lost n) c q pos ln lost
def pz (n B:Nat) (N:Yd 2) (c:AB) (q:AA) (pos:List Int) (ln:Nat) (lost:List Int) (r:Bool×(List Int)):Kv -> Prop
 | .l1 x3 x4 x20 x21 o1=>∀ m0:Nat,n<=m0 -> TW B N (FQ Tryz.f76 2 (.bool r.1) [some (.cells (AG c++AE q++[.ints pos,.msl 1 1 0 ln])),some (.ints r.2)]) (A4 m0 (BF (Ab Tryz.f76) 0 [])) ⟨AM 95 [(0,.ref 0 0),(3,.bools x3),(4,.bools x4),(20,.i x20),(21,.i x21)],[some (.cells (AG c++AE q++[.ints pos,.msl 1 1 0 ln])),some (.ints o1)]⟩
 | .l2 x3 x4 x8 x20 x21 BH B6 BC o1=>∀ m0 m1:Nat,n<=m0 -> n<=m1 -> TW B N (FQ Tryz.f76 2 (.bool r.1) [some (.cells (AG c++AE q++[.ints pos,.msl 1 1 0 ln])),some (.ints r.2)]) (A4 m1 (BF (Ab Tryz.f76) 2 [m0])) ⟨AM 95 [(0,.ref 0 0),(3,.bools x3),(4,.bools x4),(7,.nils),(8,.i x8),(20,.i x20),(21,.i x21),(36,.ints BH),(37,.i B6),(38,.i BC)],[some (.cells (AG c++AE q++[.ints pos,.msl 1 1 0 ln])),some (.ints o1)]⟩
 | .l3 x3 x4 x7 x8 x20 x21 BH B6 BC o1 o2=>∀ m0 m1:Nat,n<=m0 -> n<=m1 -> TW B N (FQ Tryz.f76 2 (.bool r.1) [some (.cells (AG c++AE q++[.ints pos,.msl 1 1 0 ln])),some (.ints r.2)]) (A4 m1 (BF (Ab Tryz.f76) 2 [m0])) ⟨AM 95 [(0,.ref 0 0),(3,.bools x3),(4,.bools x4),(7,.msl 2 1 0 x7),(8,.i x8),(20,.i x20),(21,.i x21),(36,.ints BH),(37,.i B6),(38,.i BC)],[some (.cells (AG c++AE q++[.ints pos,.msl 1 1 0 ln])),some (.ints o1),some (.ints o2)]⟩
 | .l4 x3 x4 x7 x8 x20 x21 Ga GZ Aj o1 o2=>∀ m0 m1:Nat,n<=m0 -> n<=m1 -> TW B N (FQ Tryz.f76 2 (.bool r.1) [some (.cells (AG c++AE q++[.ints pos,.msl 1 1 0 ln])),some (.ints r.2)]) (A4 m1 (BF (Ab Tryz.f76) 4 [m0])) ⟨AM 95 [(0,.ref 0 0),(3,.bools x3),(4,.bools x4),(7,.msl 2 1 0 x7),(8,.i x8),(20,.i x20),(21,.i x21),(64,.msl 2 1 0 Ga),(65,.i GZ),(66,.i Aj)],[some (.cells (AG c++AE q++[.ints pos,.msl 1 1 0 ln])),some (.ints o1),some (.ints o2)]⟩
theorem p5 (B:Nat) (N:Yd 2) (c:AB) (q:AA) (pos:List Int) (ln:Nat) (lost:List Int):Al (CQ c q pos ln lost) (pz · B N c q pos ln lost):=ia (fun _=>rfl) fun n AH pt r h=>by
 cases pt
 case l1 x3 x4 x20 x21 o1=>
  intro m0 AC;refine rd AC fun m0 AC=>?_
  revert r;apply gO;exact bi 22 (gi (bi 28 (gw 94 (lG AF [0,1] (AH _ _ · m0 AC))) (gi (lN AF [0,1] (AH _ _ · m0 n AC Nat.le.refl))))) (lE AF [2] [0,1])
 case l2 x3 x4 x8 x20 x21 BH B6 BC o1=>
  intro m0 m1 AC A7;have AC:=zZ AC;refine rd A7 fun m1 A7=>?_
  revert r;apply gO;exact bi 39 (gc (gi (gi (bi 45 (gc (gi (gi (bi 53 (gc (gw 55 (gw 56 (lG AF [0,1,3] (AH _ _ · m0 m1 AC A7))))) (gw 56 (lG AF [0,1,3] (AH _ _ · m0 m1 AC A7))))))) (gi (bi 53 (gc (gw 55 (gw 56 (lG AF [0,1] (AH _ _ · m0 m1 AC A7))))) (gw 56 (lG AF [0,1] (AH _ _ · m0 m1 AC A7))))))))) (lE AF [2] [0,1])
 case l3 x3 x4 x7 x8 x20 x21 BH B6 BC o1 o2=>
  intro m0 m1 AC A7;have AC:=zZ AC;refine rd A7 fun m1 A7=>?_
  revert r;apply gO;exact bi 39 (gc (gi (gi (bi 45 (gc (gi (gi (bi 53 (gc (gw 55 (gw 56 (lG AF [0,1,4] (AH _ _ · m0 m1 AC A7))))) (gw 56 (lG AF [0,1,4] (AH _ _ · m0 m1 AC A7))))))) (gi (bi 53 (gc (gw 55 (gw 56 (lG AF [0,1,2] (AH _ _ · m0 m1 AC A7))))) (gw 56 (lG AF [0,1,2] (AH _ _ · m0 m1 AC A7))))))))) (bi 59 (lE AF [2] [0,1]) (bi 62 (lE AF [2] [0,1]) (lN AF [0,1,2] (AH _ _ · m0 n AC Nat.le.refl))))
 case l4 x3 x4 x7 x8 x20 x21 Ga GZ Aj o1 o2=>
  intro m0 m1 AC A7;have AC:=zZ AC;refine rd A7 fun m1 A7=>?_
  revert r;apply gO;exact bi 67 (gc (gi (gi (bi 72 (ce Kr [0,1] [some (.cells (AG c++AE q++[.ints pos,.msl 1 1 0 ln])),some (.ints o1),some (.ints o2)] fun y1=>bi 77 (gi (bi 83 (ce Fe [0,1] [some (.cells (AG c++AE q++[.ints pos,.msl 1 1 0 ln])),some (.ints y1),some (.ints o2)] fun _=>gw 93 (lG AF [0,1,2] (AH _ _ · m0 m1 AC A7))) (gw 93 (lG AF [0,1,2] (AH _ _ · m0 m1 AC A7))))) (gw 93 (lG AF [0,1,2] (AH _ _ · m0 m1 AC A7)))) (bi 77 (gi (bi 83 (ce Fe [0,1] [some (.cells (AG c++AE q++[.ints pos,.msl 1 1 0 ln])),some (.ints o1),some (.ints o2)] fun _=>gw 93 (lG AF [0,1,2] (AH _ _ · m0 m1 AC A7))) (gw 93 (lG AF [0,1,2] (AH _ _ · m0 m1 AC A7))))) (gw 93 (lG AF [0,1,2] (AH _ _ · m0 m1 AC A7)))))))) (gw 94 (lG AF [0,1] (AH _ _ · m0 AC)))
theorem px {n:Nat} {c:AB} {q:AA} {pos:List Int} {ln:Nat} {lost:List Int} {r:Bool×(List Int)} (h:TH n c q pos ln lost=some r):EQ 76 [.ref 0 0] [some (.cells (AG c++AE q++[.ints pos,.msl 1 1 0 ln])),some (.ints lost)] (.bool r.1) [some (.cells (AG c++AE q++[.ints pos,.msl 1 1 0 ln])),some (.ints r.2)] false:=by
 refine ot Tryz.func76 fun B N=>?_
 revert r;apply gO;exact ce cW [0,1] [some (.cells (AG c++AE q++[.ints pos,.msl 1 1 0 ln])),some (.ints lost)] fun _=>lN AF [0,1] ((p5 B N c q pos ln lost n) _ _ · n Nat.le.refl)
end Go.Proofs.YtgkhhfnhacibcaaGreatDoor
namespace Go.Proofs.YtgkhhfnhacibcaaGreatDoor
open Go.RowKit
set_option maxRecDepth 100000
set_option maxHeartbeats 40000000
def aD:ST:=.rd 0 (.rd 1 (.rd 2 (.rd 3 (.rd 4 (.rd 5 (.rd 6 (.rd 7 (.rd 8 (.rd 9 (.rd 10 (.rd 11 (.rd 12 (.rd 13 (.rd 14 (.rd 15 (.rd 16 (.rd 17 (.rd 18 (.rd 19 (.rd 20 (.rd 21 (.rd 22 (.rd 23 (.rd 24 (.rd 25 (.rd 26 (.rd 27 (.rd 28 (.ef 29 (.rd 30 (.fin [] [5,6])) (.no))))))))))))))))))))))))))))))
theorem ly:CF (BG Tryz.f103 2) [29] aD:=by unfold CF;kernel_rfl
def aC:ST:=.rd 0 (.rd 1 (.rd 2 (.rd 3 (.rd 4 (.rd 5 (.rd 6 (.rd 7 (.rd 8 (.rd 9 (.rd 10 (.rd 11 (.rd 12 (.rd 13 (.rd 14 (.rd 15 (.ef 16 (.rd 17 (.fin [] [5,6])) (.no)))))))))))))))))
theorem lx:CF (BG Tryz.f103 5) [16] aC:=by unfold CF;kernel_rfl
def R9:Bh:=fun i=>match i with
 | 2=>.tre [29] aD
 | 5=>.tre [16] aC
 | _=>.no
def Zu (s_:Int×Int) (c:AB) (q:AA) (pos:List Int) (ln:Nat) (lost:List Int):St:=⟨(AM 59 [(5,.ref 4 0),(6,.bool (decide (s_.2<(c.runs.getD ((s_.1).toNat) 0))))]),([some (.cells [.ref 1 0]),some (.cells (AG c++AE q++[.ints pos,.msl 2 1 0 ln])),some (.ints lost),some (.cells [.i s_.1,.i s_.2]),some (.cells [.i s_.1,.i (s_.2+1)])]:DH)⟩
def Zt (c:AB) (q:AA) (pos:List Int) (ln:Nat) (lost:List Int) (s_:Int×Int):St:=⟨(AM 59 [(5,.ref 4 0),(6,.bool false)]),([some (.cells [.ref 1 0]),some (.cells (AG c++AE q++[.ints pos,.msl 2 1 0 ln])),some (.ints lost),some (.cells [.i s_.1,.i s_.2]),some (.cells [.i s_.1,.i (s_.2+1)])]:DH)⟩
def Zr (s_:Int×Int) (c:AB) (q:AA) (pos:List Int) (ln:Nat) (lost:List Int):St:=⟨(AM 59 [(5,.ref 4 0),(6,.bool (s_.2==(c.runs.getD ((s_.1).toNat) 0)))]),([some (.cells [.ref 1 0]),some (.cells (AG c++AE q++[.ints pos,.msl 2 1 0 ln])),some (.ints lost),some (.cells [.i s_.1,.i s_.2]),some (.cells [.i (s_.1+1),.i 0])]:DH)⟩
def ca (n:Nat) (s_:Int×Int) (AT:Bool) (c:AB) (q:AA) (pos:List Int) (ln:Nat) (lost:List Int):Option ((Int×Int)×Bool×(List Int)):=
 bif AT then
  if AL (s_.2+1) then
   bif (decide (s_.1<(c.runs.length:Int))) then
    if 0<=s_.1/\ s_.1<(c.runs.length:Int) then
     some ((s_.1,(s_.2+1)),(decide (s_.2<(c.runs.getD ((s_.1).toNat) 0))),lost)
    else none
   else
    some ((s_.1,(s_.2+1)),false,lost)
  else none
 else
  bif (s_.2==0) then
   some ((s_.1,s_.2),true,lost)
  else
   if AL (s_.1+1)/\ (0<=s_.1/\ s_.1<(c.runs.length:Int)) then
    some (((s_.1+1),0),(s_.2==(c.runs.getD ((s_.1).toNat) 0)),lost)
   else none
def P0 (n:Nat) (s_:Int×Int) (AT:Bool) (c:AB) (q:AA) (pos:List Int) (ln:Nat) (lost:List Int):Option ((Int×Int)×Bool×(List Int)):=ca n s_ AT c q pos ln lost
theorem Ks {n:Nat} {s_:Int×Int} {AT:Bool} {c:AB} {q:AA} {pos:List Int} {ln:Nat} {lost:List Int} {r:(Int×Int)×Bool×(List Int)} (h:P0 n s_ AT c q pos ln lost=some r):EQ 103 [.agg 2 (L1 [.i s_.1,.i s_.2]),.bool AT,.ref 0 0] [some (.cells [.ref 1 0]),some (.cells (AG c++AE q++[.ints pos,.msl 2 1 0 ln])),some (.ints lost)] (.tup 2 (L1 [.agg 2 (L1 [.i r.1.1,.i r.1.2]),.bool r.2.1])) [some (.cells [.ref 1 0]),some (.cells (AG c++AE q++[.ints pos,.msl 2 1 0 ln])),some (.ints r.2.2)] false:=by
 refine ot Tryz.func103 fun B N=>?_
 revert r;apply gO;exact bi 8 (jg ly (gw 13 (bi 23 (gi (jt (jg (Eq.refl (Zu s_ c q pos ln lost)) (lE (tg:=[([(29,4)],(Zu s_ c q pos ln lost))]) R9 [5,6] [0,1,2,4])))) (jt (jg (Eq.refl (Zt c q pos ln lost s_)) (lE (tg:=[([(29,4)],(Zt c q pos ln lost s_))]) R9 [5,6] [0,1,2,4])))))) (bi 41 (jt (lE R9 [5,6] [0,1,2,4])) (jg lx (gc (gw 45 (gi (jt (jg (Eq.refl (Zr s_ c q pos ln lost)) (lE (tg:=[([(16,4)],(Zr s_ c q pos ln lost))]) R9 [5,6] [0,1,2,4]))))))))
theorem mH:A0 (BG Tryz.f104 2) [] (List.range 22) []:=by unfold A0;kernel_rfl
theorem mG:A0 (BG Tryz.f104 3) [] (List.range 22) []:=by unfold A0;kernel_rfl
def ah:Bh:=fun i=>match i with
 | 2=>.ord [] (List.range 22) []
 | 3=>.ord [] (List.range 22) []
 | _=>.no
def dX (n:Nat) (i_:Int) (AT:Bool) (c:AB) (q:AA) (pos:List Int) (ln:Nat) (lost:List Int):Option (Bool×(List Int)):=
 bif AT then
  if (0<=i_/\ i_<(c.cells.length:Int))/\ (0<=(c.cells.getD ((i_).toNat) 0)/\ (c.cells.getD ((i_).toNat) 0)<(pos.length:Int)) then
   some (((bits .and .i64 (pos.getD ((c.cells.getD ((i_).toNat) 0).toNat) 0) c.set) != 0),lost)
  else none
 else
  if (0<=i_/\ i_<(c.cells.length:Int))/\ (0<=(c.cells.getD ((i_).toNat) 0)/\ (c.cells.getD ((i_).toNat) 0)<(pos.length:Int)) then
   some (((bits .andNot .i64 (pos.getD ((c.cells.getD ((i_).toNat) 0).toNat) 0) c.set) != 0),lost)
  else none
def QC (n:Nat) (i_:Int) (AT:Bool) (c:AB) (q:AA) (pos:List Int) (ln:Nat) (lost:List Int):Option (Bool×(List Int)):=dX n i_ AT c q pos ln lost
theorem TP {n:Nat} {i_:Int} {AT:Bool} {c:AB} {q:AA} {pos:List Int} {ln:Nat} {lost:List Int} {r:Bool×(List Int)} (h:QC n i_ AT c q pos ln lost=some r):EQ 104 [.i i_,.bool AT,.ref 0 0] [some (.cells [.ref 1 0]),some (.cells (AG c++AE q++[.ints pos,.msl 2 1 0 ln])),some (.ints lost)] (.bool r.1) [some (.cells [.ref 1 0]),some (.cells (AG c++AE q++[.ints pos,.msl 2 1 0 ln])),some (.ints r.2)] false:=by
 refine ot Tryz.func104 fun B N=>?_
 revert r;apply gO;exact bi 6 (jg mH (gc (gi (gi (lE ah [5] [0,1,2]))))) (jg mG (gc (gi (gi (lE ah [5] [0,1,2])))))
theorem lP:A0 (BG Tryz.f72 24) [] (List.range 6) [6]:=by unfold A0;kernel_rfl
def Z5:ST:=.rd 0 (.rd 1 (.rd 2 (.rd 3 (.rd 4 (.rd 5 (.rd 6 (.rd 7 (.rd 8 (.rd 9 (.rd 10 (.rd 11 (.rd 12 (.rd 13 (.ef 14 (.fin [] [1,3,5,7,14,16,18]) (.no)))))))))))))))
theorem aq:CF (BG Tryz.f72 49) [] Z5:=by unfold CF;kernel_rfl
def Z4:ST:=.rd 0 (.rd 1 (.rd 2 (.rd 3 (.rd 4 (.rd 5 (.rd 6 (.rd 7 (.rd 8 (.ef 9 (.fin [] [1,3,5,7,14,16]) (.no))))))))))
theorem Vf:CF (BG Tryz.f72 51) [] Z4:=by unfold CF;kernel_rfl
def CH:Bh:=fun i=>match i with
 | 24=>.ord [] (List.range 6) [6]
 | 49=>.tre [] Z5
 | 51=>.tre [] Z4
 | _=>.no
def XZ (c:AB) (q:AA) (pos:List Int) (ln:Nat) (o1:List Int) (o3:List (Option KS)):DH:=[some (.cells (AG c++AE q++[.ints pos,.msl 1 1 0 ln])),some (.ints o1),some (.cells [.ref 0 0]),some (.mo (.sets 2 o3 none))]
def s6 (c:AB) (q:AA) (pos:List Int) (ln:Nat) (o1:List Int) (o3:List (Option KS)) (Ar:Int) (gk:LK):DH:=[some (.cells (AG c++AE q++[.ints pos,.msl 1 1 0 ln])),some (.ints o1),some (.cells [.ref 0 0]),some (.mo (.sets 2 o3 (some (0+((Ar).toNat),gk))))]
def sq (c:AB) (q:AA) (pos:List Int) (ln:Nat) (o1:List Int) (o3:List (Option KS)) (Ag:Nat) (gk:LK) (o4:KS):DH:=[some (.cells (AG c++AE q++[.ints pos,.msl 1 1 0 ln])),some (.ints o1),some (.cells [.ref 0 0]),some (.mo (.sets 2 o3 (some (Ag,gk)))),some (.mo (.mit 2 gk.1 gk.2.1 gk.2.2 o4 none))]
def eI (c:AB) (q:AA) (pos:List Int) (ln:Nat) (o1:List Int) (o3:List (Option KS)) (Ag:Nat) (gk:LK) (o4:KS) (y1:List Int):DH:=[some (.cells (AG c++AE q++[.ints pos,.msl 1 1 0 ln])),some (.ints o1),some (.cells [.ref 0 0]),some (.mo (.sets 2 o3 (some (Ag,gk)))),some (.mo (.mit 2 gk.1 gk.2.1 gk.2.2 (o4.erase y1) (some y1)))]
def XW (c:AB) (q:AA) (pos:List Int) (ln:Nat) (o1:List Int) (o3:List (Option KS)) (o4:KS):DH:=[some (.cells (AG c++AE q++[.ints pos,.msl 1 1 0 ln])),some (.ints o1),some (.cells [.ref 0 0]),some (.mo (.sets 2 o3 none)),some (.mo (.set 2 o4)),some (.mo (.set 2 ([]:KS))),some (.cells [.bool false,.bool false])]
def sn (c:AB) (q:AA) (pos:List Int) (ln:Nat) (o1:List Int) (o3:List (Option KS)) (AW:Int) (gk:LK) (o4:KS):DH:=[some (.cells (AG c++AE q++[.ints pos,.msl 1 1 0 ln])),some (.ints o1),some (.cells [.ref 0 0]),some (.mo (.sets 2 o3 (some (0+((AW).toNat),gk)))),some (.mo (.set 2 o4)),some (.mo (.set 2 ([]:KS))),some (.cells [.bool false,.bool false])]
def XV (c:AB) (q:AA) (pos:List Int) (ln:Nat) (o1:List Int) (o3:List (Option KS)) (Ag:Nat) (gk:LK) (Ao E2:Int) (o5:KS) (E1:List Int):DH:=[some (.cells (AG c++AE q++[.ints pos,.msl 1 1 0 ln])),some (.ints o1),some (.cells [.ref 0 0]),some (.mo (.sets 2 o3 (some (Ag,gk)))),some (.cells [.i Ao,.i E2]),some (.mo (.mit 2 gk.1 gk.2.1 gk.2.2 o5 (some E1))),some (.bools ([false,true]:List Bool))]
def sk (c:AB) (q:AA) (pos:List Int) (ln:Nat) (y1:(Int×Int)×Bool×(List Int)) (o3:List (Option KS)) (Ag:Nat) (gk:LK) (Ao E2:Int) (o5:KS) (E1:List Int):DH:=[some (.cells (AG c++AE q++[.ints pos,.msl 1 1 0 ln])),some (.ints y1.2.2),some (.cells [.ref 0 0]),some (.mo (.sets 2 o3 (some (Ag,gk)))),some (.cells [.i Ao,.i E2]),some (.mo (.mit 2 gk.1 gk.2.1 gk.2.2 o5 (some E1))),some (.bools ([false,true]:List Bool)),some (.cells [.i y1.1.1,.i y1.1.2])]
def sj (c:AB) (q:AA) (pos:List Int) (ln:Nat) (o1:List Int) (o3:List (Option KS)) (Ag:Nat) (gk:LK) (o4 o7:KS):DH:=[some (.cells (AG c++AE q++[.ints pos,.msl 1 1 0 ln])),some (.ints o1),some (.cells [.ref 0 0]),some (.mo (.sets 2 o3 (some (Ag,gk)))),some (.mo (.set 2 o4)),some (.mo (.set 2 ([]:KS))),some (.cells [.bool false,.bool false]),some (.mo (.mit 2 gk.1 gk.2.1 gk.2.2 o7 none))]
def Zk (c:AB) (AW:Int) (q:AA) (pos:List Int) (ln:Nat) (y2:(List Int)) (o3:List (Option KS)) (o4:KS):St:=⟨(AM 208 [(1,.ref 2 0),(3,.fn 103 1 (L1 [.ref 2 0])),(5,.msl 3 1 0 ((((c.cells.length:Int)+1)).toNat)),(7,.fn 104 1 (L1 [.ref 2 0])),(14,.it 5),(16,.i AW),(18,.ref 6 0)]),([some (.cells (AG c++AE q++[.ints pos,.msl 1 1 0 ln])),some (.ints y2),some (.cells [.ref 0 0]),some (.mo (.sets 2 o3 none)),some (.mo (.set 2 o4)),some (.mo (.set 2 ([]:KS))),some (.cells [.bool false,.bool false])]:DH)⟩
def s5 (c:AB) (q:AA) (pos:List Int) (ln:Nat) (y2:(List Int)) (o3:List (Option KS)) (o4:KS):DH:=[some (.cells (AG c++AE q++[.ints pos,.msl 1 1 0 ln])),some (.ints y2),some (.cells [.ref 0 0]),some (.mo (.sets 2 o3 none)),some (.mo (.set 2 o4)),some (.mo (.set 2 ([]:KS))),some (.cells [.bool false,.bool false])]
def Zn (c:AB) (AW:Int) (q:AA) (pos:List Int) (ln:Nat) (y3:(List Int)) (o3:List (Option KS)) (o4:KS):St:=⟨(AM 208 [(1,.ref 2 0),(3,.fn 103 1 (L1 [.ref 2 0])),(5,.msl 3 1 0 ((((c.cells.length:Int)+1)).toNat)),(7,.fn 104 1 (L1 [.ref 2 0])),(14,.it 5),(16,.i AW)]),([some (.cells (AG c++AE q++[.ints pos,.msl 1 1 0 ln])),some (.ints y3),some (.cells [.ref 0 0]),some (.mo (.sets 2 o3 none)),some (.mo (.set 2 o4)),some (.mo (.set 2 ([]:KS))),some (.cells [.bool false,.bool false])]:DH)⟩
def s3 (c:AB) (q:AA) (pos:List Int) (ln:Nat) (o1:List Int) (o3:List (Option KS)) (Ag:Nat) (gk:LK) (o4 o7:KS) (y1:List Int):DH:=[some (.cells (AG c++AE q++[.ints pos,.msl 1 1 0 ln])),some (.ints o1),some (.cells [.ref 0 0]),some (.mo (.sets 2 o3 (some (Ag,gk)))),some (.mo (.set 2 o4)),some (.mo (.set 2 ([]:KS))),some (.cells [.bool false,.bool false]),some (.mo (.mit 2 gk.1 gk.2.1 gk.2.2 (o7.erase y1) (some y1)))]
def QS (c:AB) (q:AA) (pos:List Int) (ln:Nat) (o1:List Int) (o3:List (Option KS)) (Ag:Nat) (gk:LK) (o4 o5:KS) (BQ BR:Bool) (C9 C8:Int) (o8:KS) (DS:List Int):DH:=[some (.cells (AG c++AE q++[.ints pos,.msl 1 1 0 ln])),some (.ints o1),some (.cells [.ref 0 0]),some (.mo (.sets 2 o3 (some (Ag,gk)))),some (.mo (.set 2 o4)),some (.mo (.set 2 o5)),some (.cells [.bool BQ,.bool BR]),some (.cells [.i C9,.i C8]),some (.mo (.mit 2 gk.1 gk.2.1 gk.2.2 o8 (some DS))),some (.bools ([false,true]:List Bool))]
def XY (c:AB) (q:AA) (pos:List Int) (ln:Nat) (y1:(Int×Int)×Bool×(List Int)) (o3:List (Option KS)) (Ag:Nat) (gk:LK) (o4 o5:KS) (BQ BR:Bool) (C9 C8:Int) (o8:KS) (DS:List Int):DH:=[some (.cells (AG c++AE q++[.ints pos,.msl 1 1 0 ln])),some (.ints y1.2.2),some (.cells [.ref 0 0]),some (.mo (.sets 2 o3 (some (Ag,gk)))),some (.mo (.set 2 o4)),some (.mo (.set 2 o5)),some (.cells [.bool BQ,.bool BR]),some (.cells [.i C9,.i C8]),some (.mo (.mit 2 gk.1 gk.2.1 gk.2.2 o8 (some DS))),some (.bools ([false,true]:List Bool)),some (.cells [.i y1.1.1,.i y1.1.2])]
def sw (c:AB) (q:AA) (pos:List Int) (ln:Nat) (o1:List Int) (o3:List (Option KS)) (Ag:Nat) (gk:LK) (o4:KS) (Ip:List Int):DH:=[some (.cells (AG c++AE q++[.ints pos,.msl 1 1 0 ln])),some (.ints o1),some (.cells [.ref 0 0]),some (.mo (.sets 2 o3 (some (Ag,gk)))),some (.mo (.mit 2 gk.1 gk.2.1 gk.2.2 o4 (some Ip)))]
def su (c:AB) (q:AA) (pos:List Int) (ln:Nat) (o1:List Int) (o3:List (Option KS)) (Ag:Nat) (gk:LK) (o4 o5:KS) (BQ BR:Bool) (o7:KS) (Io:List Int):DH:=[some (.cells (AG c++AE q++[.ints pos,.msl 1 1 0 ln])),some (.ints o1),some (.cells [.ref 0 0]),some (.mo (.sets 2 o3 (some (Ag,gk)))),some (.mo (.set 2 o4)),some (.mo (.set 2 o5)),some (.cells [.bool BQ,.bool BR]),some (.mo (.mit 2 gk.1 gk.2.1 gk.2.2 o7 (some Io)))]
def XX (c:AB) (q:AA) (pos:List Int) (ln:Nat) (o1:List Int) (o3:List (Option KS)) (o4 o5:KS) (BQ BR:Bool):DH:=[some (.cells (AG c++AE q++[.ints pos,.msl 1 1 0 ln])),some (.ints o1),some (.cells [.ref 0 0]),some (.mo (.sets 2 o3 none)),some (.mo (.set 2 o4)),some (.mo (.set 2 o5)),some (.cells [.bool BQ,.bool BR])]
def VL (c:AB) (AW:Int) (q:AA) (pos:List Int) (ln:Nat) (y2:(List Int)) (o3:List (Option KS)) (o4 o5:KS) (BQ BR:Bool):St:=⟨(AM 208 [(1,.ref 2 0),(3,.fn 103 1 (L1 [.ref 2 0])),(5,.msl 3 1 0 ((((c.cells.length:Int)+1)).toNat)),(7,.fn 104 1 (L1 [.ref 2 0])),(14,.it 5),(16,.i AW),(18,.ref 6 0)]),([some (.cells (AG c++AE q++[.ints pos,.msl 1 1 0 ln])),some (.ints y2),some (.cells [.ref 0 0]),some (.mo (.sets 2 o3 none)),some (.mo (.set 2 o4)),some (.mo (.set 2 o5)),some (.cells [.bool BQ,.bool BR])]:DH)⟩
def sr (c:AB) (q:AA) (pos:List Int) (ln:Nat) (y2:(List Int)) (o3:List (Option KS)) (o4 o5:KS) (BQ BR:Bool):DH:=[some (.cells (AG c++AE q++[.ints pos,.msl 1 1 0 ln])),some (.ints y2),some (.cells [.ref 0 0]),some (.mo (.sets 2 o3 none)),some (.mo (.set 2 o4)),some (.mo (.set 2 o5)),some (.cells [.bool BQ,.bool BR])]
def Zm (c:AB) (AW:Int) (q:AA) (pos:List Int) (ln:Nat) (y3:(List Int)) (o3:List (Option KS)) (o4 o5:KS) (BQ BR:Bool):St:=⟨(AM 208 [(1,.ref 2 0),(3,.fn 103 1 (L1 [.ref 2 0])),(5,.msl 3 1 0 ((((c.cells.length:Int)+1)).toNat)),(7,.fn 104 1 (L1 [.ref 2 0])),(14,.it 5),(16,.i AW)]),([some (.cells (AG c++AE q++[.ints pos,.msl 1 1 0 ln])),some (.ints y3),some (.cells [.ref 0 0]),some (.mo (.sets 2 o3 none)),some (.mo (.set 2 o4)),some (.mo (.set 2 o5)),some (.cells [.bool BQ,.bool BR])]:DH)⟩
def Zl (c:AB) (AW:Int) (q:AA) (pos:List Int) (ln:Nat) (y2:(List Int)) (o3:List (Option KS)) (o4 o5:KS) (BQ BR:Bool):St:=⟨(AM 208 [(1,.ref 2 0),(3,.fn 103 1 (L1 [.ref 2 0])),(5,.msl 3 1 0 ((((c.cells.length:Int)+1)).toNat)),(7,.fn 104 1 (L1 [.ref 2 0])),(14,.it 5),(16,.i AW)]),([some (.cells (AG c++AE q++[.ints pos,.msl 1 1 0 ln])),some (.ints y2),some (.cells [.ref 0 0]),some (.mo (.sets 2 o3 none)),some (.mo (.set 2 o4)),some (.mo (.set 2 o5)),some (.cells [.bool BQ,.bool BR])]:DH)⟩
def sp (c:AB) (q:AA) (pos:List Int) (ln:Nat) (o1:List Int) (o3:List (Option KS)) (Ag:Nat) (gk:LK) (o4 o5:KS) (BQ BR:Bool) (o7:KS) (y1:List Int):DH:=[some (.cells (AG c++AE q++[.ints pos,.msl 1 1 0 ln])),some (.ints o1),some (.cells [.ref 0 0]),some (.mo (.sets 2 o3 (some (Ag,gk)))),some (.mo (.set 2 o4)),some (.mo (.set 2 o5)),some (.cells [.bool BQ,.bool BR]),some (.mo (.mit 2 gk.1 gk.2.1 gk.2.2 (o7.erase y1) (some y1)))]
inductive HF where
 | l1 (Es:Int) (o3:List (Option KS))
 | l2 (Ar:Int) (o1:List Int) (o3:List (Option KS))
 | l3 (x8 Ar:Int) (o1:List Int) (o3:List (Option KS)) (Ag:Nat) (o4:KS)
 | l4 (AW:Int) (o1:List Int) (o3:List (Option KS)) (o4:KS)
 | l5 (x8 Ar Er:Int) (o1:List Int) (o3:List (Option KS)) (Ag:Nat) (Ao E2:Int) (o5:KS) (E1:List Int)
 | l6 (AW:Int) (o1:List Int) (o3:List (Option KS)) (Ag:Nat) (o4 o7:KS)
 | l7 (AW DN:Int) (o1:List Int) (o3:List (Option KS)) (Ag:Nat) (o4 o5:KS) (BQ BR:Bool) (C9 C8:Int) (o8:KS) (DS:List Int)
 | l8 (x8 Ar:Int) (o1:List Int) (o3:List (Option KS)) (Ag:Nat) (o4:KS) (Ip:List Int)
 | l9 (AW:Int) (o1:List Int) (o3:List (Option KS)) (Ag:Nat) (o4 o5:KS) (BQ BR:Bool) (o7:KS) (Io:List Int)
def PL (n:Nat) (self:HF -> Option (Bool×(List Int))) (c:AB) (q:AA) (pos:List Int) (ln:Nat) (lost:List Int) (Es:Int) (o3:List (Option KS)):Option (Bool×(List Int)):=
 bif (decide (Es<(((((c.cells.length:Int)+1)).toNat:Nat):Int))) then
  if (0<=Es/\ Es<(((((c.cells.length:Int)+1)).toNat:Nat):Int))/\ 0+((Es).toNat)<o3.length/\ AL (Es+1) then
   self (.l1 (Es+1) (o3.set (0+((Es).toNat)) (some ([]:KS))))
  else none
 else
  if ((0:Int)<=0/\ 0<(((((c.cells.length:Int)+1)).toNat:Nat):Int))/\ 0+0<o3.length/\ (o3.getD (0+0) none).isSome=true then
   self (.l2 0 lost (o3.set (0+0) (some (CK [0,0] ((o3.getD (0+0) none).getD [])))))
  else none
def Lr (n:Nat) (self:HF -> Option (Bool×(List Int))) (c:AB) (q:AA) (pos:List Int) (ln:Nat) (lost:List Int) (Ar:Int) (o1:List Int) (o3:List (Option KS)):Option (Bool×(List Int)):=
 bif (decide (Ar<(c.cells.length:Int))) then
  if (o3.getD (0+((Ar).toNat)) none).isSome=true then
   if (0<=Ar/\ Ar<(((((c.cells.length:Int)+1)).toNat:Nat):Int))/\ 0+((Ar).toNat)<o3.length/\ (o3.getD (0+((Ar).toNat)) none).isSome=true then
    self (.l3 Ar Ar o1 o3 (0+((Ar).toNat)) ((o3.getD (0+((Ar).toNat)) none).getD []))
   else none
  else none
 else
  bif (decide ((c.runs.length:Int)>0)) then
   if AL ((c.runs.length:Int)-1)/\ ((0:Int)<=((c.runs.length:Int)-1)/\ ((c.runs.length:Int)-1)<(c.runs.length:Int))/\ AL ((c.cells.length:Int)-1) then
    self (.l4 ((c.cells.length:Int)-1) o1 o3 (CK [((c.runs.length:Int)-1),c.runs.getD ((((c.runs.length:Int)-1)).toNat) 0] (CK [(c.runs.length:Int),0] ([]:KS))))
   else none
  else
   if AL ((c.cells.length:Int)-1) then
    self (.l4 ((c.cells.length:Int)-1) o1 o3 (CK [(c.runs.length:Int),0] ([]:KS)))
   else none
def mY (n:Nat) (self:HF -> Option (Bool×(List Int))) (c:AB) (q:AA) (pos:List Int) (ln:Nat) (lost:List Int) (x8 Ar:Int) (o1:List Int) (o3:List (Option KS)) (Ag:Nat) (o4:KS):Option (Bool×(List Int)):=
 if (o3.getD Ag none).isSome=true then
  HI o4 (
   if AL (Ar+1) then
    self (.l2 (Ar+1) o1 o3)
   else none) fun y1=>
   if (o3.getD Ag none).isSome=true then
    self (.l5 x8 Ar 0 o1 o3 Ag (y1.getD 0 0) (y1.getD 1 0) (o4.erase y1) y1)
   else none
 else none
def PK (n:Nat) (self:HF -> Option (Bool×(List Int))) (c:AB) (q:AA) (pos:List Int) (ln:Nat) (lost:List Int) (AW:Int) (o1:List Int) (o3:List (Option KS)) (o4:KS):Option (Bool×(List Int)):=
 bif (decide (AW>=0)) then
  if (o3.getD (0+((AW).toNat)) none).isSome=true then
   if (0<=AW/\ AW<(((((c.cells.length:Int)+1)).toNat:Nat):Int))/\ 0+((AW).toNat)<o3.length/\ (o3.getD (0+((AW).toNat)) none).isSome=true then
    self (.l6 AW o1 o3 (0+((AW).toNat)) o4 ((o3.getD (0+((AW).toNat)) none).getD []))
   else none
  else none
 else
  some (true,o1)
def Lq (n:Nat) (self:HF -> Option (Bool×(List Int))) (c:AB) (q:AA) (pos:List Int) (ln:Nat) (lost:List Int) (x8 Ar Er:Int) (o1:List Int) (o3:List (Option KS)) (Ag:Nat) (Ao E2:Int) (o5:KS) (E1:List Int):Option (Bool×(List Int)):=
 bif (decide (Er<2)) then
  if (0<=Er/\ Er<((2:Nat):Int))/\ 0+((Er).toNat)<([false,true]:List Bool).length then
   (P0 n (Ao,E2) (([false,true]:List Bool).getD (0+((Er).toNat)) false) c q pos ln o1).bind fun y1=>
    bif y1.2.1 then
     (QC n x8 (([false,true]:List Bool).getD (0+((Er).toNat)) false) c q pos ln y1.2.2).bind fun y2=>
      bif y2.1 then
       if AL (x8+1)/\ (0<=(x8+1)/\ (x8+1)<(((((c.cells.length:Int)+1)).toNat:Nat):Int))/\ 0+(((x8+1)).toNat)<o3.length/\ Ag≠0+(((x8+1)).toNat)/\ (o3.getD (0+(((x8+1)).toNat)) none).isSome=true/\ AL (Er+1) then
        self (.l5 x8 Ar (Er+1) y2.2 (o3.set (0+(((x8+1)).toNat)) (some (CK [y1.1.1,y1.1.2] ((o3.getD (0+(((x8+1)).toNat)) none).getD [])))) Ag Ao E2 o5 E1)
       else none
      else
       if AL (Er+1) then
        self (.l5 x8 Ar (Er+1) y2.2 o3 Ag Ao E2 o5 E1)
       else none
    else
     if AL (Er+1) then
      self (.l5 x8 Ar (Er+1) y1.2.2 o3 Ag Ao E2 o5 E1)
     else none
  else none
 else
  self (.l8 x8 Ar o1 o3 Ag o5 E1)
def mX (n:Nat) (self:HF -> Option (Bool×(List Int))) (c:AB) (q:AA) (pos:List Int) (ln:Nat) (lost:List Int) (AW:Int) (o1:List Int) (o3:List (Option KS)) (Ag:Nat) (o4 o7:KS):Option (Bool×(List Int)):=
 if (o3.getD Ag none).isSome=true then
  HI o7 (
   if 0<=AW/\ AW<(c.cells.length:Int) then
    (DA n (c.cells.getD ((AW).toNat) 0) c.set c q pos ln o1).bind fun y2=>
     (Fx n (c.cells.getD ((AW).toNat) 0) c q pos ln y2).bind fun y3=>
      if AL (AW-1) then
       self (.l4 (AW-1) y3 o3 ([]:KS))
      else none
   else none) fun y1=>
   if (o3.getD Ag none).isSome=true then
    self (.l7 AW 0 o1 o3 Ag o4 ([]:KS) false false (y1.getD 0 0) (y1.getD 1 0) (o7.erase y1) y1)
   else none
 else none
def Lp (n:Nat) (self:HF -> Option (Bool×(List Int))) (c:AB) (q:AA) (pos:List Int) (ln:Nat) (lost:List Int) (AW DN:Int) (o1:List Int) (o3:List (Option KS)) (Ag:Nat) (o4 o5:KS) (BQ BR:Bool) (C9 C8:Int) (o8:KS) (DS:List Int):Option (Bool×(List Int)):=
 bif (decide (DN<2)) then
  if (0<=DN/\ DN<((2:Nat):Int))/\ 0+((DN).toNat)<([false,true]:List Bool).length then
   (P0 n (C9,C8) (([false,true]:List Bool).getD (0+((DN).toNat)) false) c q pos ln o1).bind fun y1=>
    bif y1.2.1 then
     (QC n AW (([false,true]:List Bool).getD (0+((DN).toNat)) false) c q pos ln y1.2.2).bind fun y2=>
      bif y2.1 then
       bif (o4.contains [y1.1.1,y1.1.2]) then
        bif (DN==0) then
         if AL (DN+1) then
          self (.l7 AW (DN+1) y2.2 o3 Ag o4 (CK [C9,C8] o5) true BR C9 C8 o8 DS)
         else none
        else
         bif (DN==1) then
          if AL (DN+1) then
           self (.l7 AW (DN+1) y2.2 o3 Ag o4 (CK [C9,C8] o5) BQ true C9 C8 o8 DS)
          else none
         else
          none
       else
        if AL (DN+1) then
         self (.l7 AW (DN+1) y2.2 o3 Ag o4 o5 BQ BR C9 C8 o8 DS)
        else none
      else
       if AL (DN+1) then
        self (.l7 AW (DN+1) y2.2 o3 Ag o4 o5 BQ BR C9 C8 o8 DS)
       else none
    else
     if AL (DN+1) then
      self (.l7 AW (DN+1) y1.2.2 o3 Ag o4 o5 BQ BR C9 C8 o8 DS)
     else none
  else none
 else
  self (.l9 AW o1 o3 Ag o4 o5 BQ BR o8 DS)
def PJ (n:Nat) (self:HF -> Option (Bool×(List Int))) (c:AB) (q:AA) (pos:List Int) (ln:Nat) (lost:List Int) (x8 Ar:Int) (o1:List Int) (o3:List (Option KS)) (Ag:Nat) (o4:KS) (Ip:List Int):Option (Bool×(List Int)):=
 if (o3.getD Ag none).isSome=true then
  HI o4 (
   if AL (Ar+1) then
    self (.l2 (Ar+1) o1 o3)
   else none) fun y1=>
   if (o3.getD Ag none).isSome=true then
    self (.l5 x8 Ar 0 o1 o3 Ag (y1.getD 0 0) (y1.getD 1 0) (o4.erase y1) y1)
   else none
 else none
def PI (n:Nat) (self:HF -> Option (Bool×(List Int))) (c:AB) (q:AA) (pos:List Int) (ln:Nat) (lost:List Int) (AW:Int) (o1:List Int) (o3:List (Option KS)) (Ag:Nat) (o4 o5:KS) (BQ BR:Bool) (o7:KS) (Io:List Int):Option (Bool×(List Int)):=
 if (o3.getD Ag none).isSome=true then
  HI o7 (
   bif (!BR) then
    if 0<=AW/\ AW<(c.cells.length:Int) then
     (DA n (c.cells.getD ((AW).toNat) 0) c.set c q pos ln o1).bind fun y2=>
      bif (!BQ) then
       (Fx n (c.cells.getD ((AW).toNat) 0) c q pos ln y2).bind fun y3=>
        if AL (AW-1) then
         self (.l4 (AW-1) y3 o3 o5)
        else none
      else
       if AL (AW-1) then
        self (.l4 (AW-1) y2 o3 o5)
       else none
    else none
   else
    bif (!BQ) then
     if 0<=AW/\ AW<(c.cells.length:Int) then
      (Fx n (c.cells.getD ((AW).toNat) 0) c q pos ln o1).bind fun y2=>
       if AL (AW-1) then
        self (.l4 (AW-1) y2 o3 o5)
       else none
     else none
    else
     if AL (AW-1) then
      self (.l4 (AW-1) o1 o3 o5)
     else none) fun y1=>
   if (o3.getD Ag none).isSome=true then
    self (.l7 AW 0 o1 o3 Ag o4 o5 BQ BR (y1.getD 0 0) (y1.getD 1 0) (o7.erase y1) y1)
   else none
 else none
def Vm (n:Nat) (self:HF -> Option (Bool×(List Int))) (c:AB) (q:AA) (pos:List Int) (ln:Nat) (lost:List Int):Option (Bool×(List Int)):=
 bif ((c.cells.length:Int)==0) then
  some (((c.runs.length:Int)==0),lost)
 else
  if AL ((c.cells.length:Int)+1)/\ ((((c.cells.length:Int)+1):Int)=((c.cells.length:Int)+1)/\ (0:Int)<=((c.cells.length:Int)+1)/\ (((c.cells.length:Int)+1):Int)<=1000000000000) then
   self (.l1 0 (List.replicate ((((c.cells.length:Int)+1)).toNat) (none:Option KS)))
  else none
def BI (c:AB) (q:AA) (pos:List Int) (ln:Nat) (lost:List Int):Nat -> HF -> Option (Bool×(List Int))
 | 0,_=>none
 | n+1,.l1 Es o3=>PL n (BI c q pos ln lost n) c q pos ln lost Es o3
 | n+1,.l2 Ar o1 o3=>Lr n (BI c q pos ln lost n) c q pos ln lost Ar o1 o3
 | n+1,.l3 x8 Ar o1 o3 Ag o4=>mY n (BI c q pos ln lost n) c q pos ln lost x8 Ar o1 o3 Ag o4
 | n+1,.l4 AW o1 o3 o4=>PK n (BI c q pos ln lost n) c q pos ln lost AW o1 o3 o4
 | n+1,.l5 x8 Ar Er o1 o3 Ag Ao E2 o5 E1=>Lq n (BI c q pos ln lost n) c q pos ln lost x8 Ar Er o1 o3 Ag Ao E2 o5 E1
 | n+1,.l6 AW o1 o3 Ag o4 o7=>mX n (BI c q pos ln lost n) c q pos ln lost AW o1 o3 Ag o4 o7
 | n+1,.l7 AW DN o1 o3 Ag o4 o5 BQ BR C9 C8 o8 DS=>Lp n (BI c q pos ln lost n) c q pos ln lost AW DN o1 o3 Ag o4 o5 BQ BR C9 C8 o8 DS
 | n+1,.l8 x8 Ar o1 o3 Ag o4 Ip=>PJ n (BI c q pos ln lost n) c q pos ln lost x8 Ar o1 o3 Ag o4 Ip
 | n+1,.l9 AW o1 o3 Ag o4 o5 BQ BR o7 Io=>PI n (BI c q pos ln lost n) c q pos ln lost AW o1 o3 Ag o4 o5 BQ BR o7 Io
def NR (n:Nat) (c:AB) (q:AA) (pos:List Int) (ln:Nat) (lost:List Int):Option (Bool×(List Int)):=Vm n (BI c q pos ln lost n) c q pos ln lost
def mZ (n B:Nat) (N:Yd 2) (c:AB) (q:AA) (pos:List Int) (ln:Nat) (lost:List Int) (r:Bool×(List Int)):HF -> Prop
 | .l1 Es o3=>∀ m0:Nat,n<=m0 -> TW B N (FQ Tryz.f72 2 (.bool r.1) [some (.cells (AG c++AE q++[.ints pos,.msl 1 1 0 ln])),some (.ints r.2)]) (A4 m0 (BF (Ab Tryz.f72) 0 [])) ⟨AM 208 [(1,.ref 2 0),(3,.fn 103 1 (L1 [.ref 2 0])),(4,.i (c.cells.length:Int)),(5,.msl 3 1 0 ((((c.cells.length:Int)+1)).toNat)),(44,.i (((((c.cells.length:Int)+1)).toNat:Nat):Int)),(45,.i Es)],[some (.cells (AG c++AE q++[.ints pos,.msl 1 1 0 ln])),some (.ints lost),some (.cells [.ref 0 0]),some (.mo (.sets 2 o3 none))]⟩
 | .l2 Ar o1 o3=>∀ m0:Nat,n<=m0 -> TW B N (FQ Tryz.f72 2 (.bool r.1) [some (.cells (AG c++AE q++[.ints pos,.msl 1 1 0 ln])),some (.ints r.2)]) (A4 m0 (BF (Ab Tryz.f72) 2 [])) ⟨AM 208 [(1,.ref 2 0),(3,.fn 103 1 (L1 [.ref 2 0])),(4,.i (c.cells.length:Int)),(5,.msl 3 1 0 ((((c.cells.length:Int)+1)).toNat)),(7,.fn 104 1 (L1 [.ref 2 0])),(58,.i (c.cells.length:Int)),(59,.i Ar)],[some (.cells (AG c++AE q++[.ints pos,.msl 1 1 0 ln])),some (.ints o1),some (.cells [.ref 0 0]),some (.mo (.sets 2 o3 none))]⟩
 | .l3 x8 Ar o1 o3 Ag o4=>∀ m0 m1:Nat,n<=m0 -> n<=m1 -> ∀ gk:LK,TW B N (FQ Tryz.f72 2 (.bool r.1) [some (.cells (AG c++AE q++[.ints pos,.msl 1 1 0 ln])),some (.ints r.2)]) (A4 m1 (BF (Ab Tryz.f72) 4 [m0])) ⟨AM 208 [(1,.ref 2 0),(3,.fn 103 1 (L1 [.ref 2 0])),(4,.i (c.cells.length:Int)),(5,.msl 3 1 0 ((((c.cells.length:Int)+1)).toNat)),(7,.fn 104 1 (L1 [.ref 2 0])),(8,.i x8),(58,.i (c.cells.length:Int)),(59,.i Ar),(66,.it 4)],[some (.cells (AG c++AE q++[.ints pos,.msl 1 1 0 ln])),some (.ints o1),some (.cells [.ref 0 0]),some (.mo (.sets 2 o3 (some (Ag,gk)))),some (.mo (.mit 2 gk.1 gk.2.1 gk.2.2 o4 none))]⟩
 | .l4 AW o1 o3 o4=>∀ m0:Nat,n<=m0 -> TW B N (FQ Tryz.f72 2 (.bool r.1) [some (.cells (AG c++AE q++[.ints pos,.msl 1 1 0 ln])),some (.ints r.2)]) (A4 m0 (BF (Ab Tryz.f72) 8 [])) ⟨AM 208 [(1,.ref 2 0),(3,.fn 103 1 (L1 [.ref 2 0])),(5,.msl 3 1 0 ((((c.cells.length:Int)+1)).toNat)),(7,.fn 104 1 (L1 [.ref 2 0])),(14,.it 4),(16,.i AW)],[some (.cells (AG c++AE q++[.ints pos,.msl 1 1 0 ln])),some (.ints o1),some (.cells [.ref 0 0]),some (.mo (.sets 2 o3 none)),some (.mo (.set 2 o4))]⟩
 | .l5 x8 Ar Er o1 o3 Ag Ao E2 o5 E1=>∀ m0 m1 m2:Nat,n<=m0 -> n<=m1 -> n<=m2 -> ∀ gk:LK,TW B N (FQ Tryz.f72 2 (.bool r.1) [some (.cells (AG c++AE q++[.ints pos,.msl 1 1 0 ln])),some (.ints r.2)]) (A4 m2 (BF (Ab Tryz.f72) 6 [m0,m1])) ⟨AM 208 [(1,.ref 2 0),(3,.fn 103 1 (L1 [.ref 2 0])),(4,.i (c.cells.length:Int)),(5,.msl 3 1 0 ((((c.cells.length:Int)+1)).toNat)),(7,.fn 104 1 (L1 [.ref 2 0])),(8,.i x8),(9,.ref 4 0),(58,.i (c.cells.length:Int)),(59,.i Ar),(66,.it 5),(71,.msl 6 1 0 2),(72,.i 2),(73,.i Er)],[some (.cells (AG c++AE q++[.ints pos,.msl 1 1 0 ln])),some (.ints o1),some (.cells [.ref 0 0]),some (.mo (.sets 2 o3 (some (Ag,gk)))),some (.cells [.i Ao,.i E2]),some (.mo (.mit 2 gk.1 gk.2.1 gk.2.2 o5 (some E1))),some (.bools ([false,true]:List Bool))]⟩
 | .l6 AW o1 o3 Ag o4 o7=>∀ m0 m1:Nat,n<=m0 -> n<=m1 -> ∀ gk:LK,TW B N (FQ Tryz.f72 2 (.bool r.1) [some (.cells (AG c++AE q++[.ints pos,.msl 1 1 0 ln])),some (.ints r.2)]) (A4 m1 (BF (Ab Tryz.f72) 10 [m0])) ⟨AM 208 [(1,.ref 2 0),(3,.fn 103 1 (L1 [.ref 2 0])),(5,.msl 3 1 0 ((((c.cells.length:Int)+1)).toNat)),(7,.fn 104 1 (L1 [.ref 2 0])),(14,.it 4),(16,.i AW),(17,.it 5),(18,.ref 6 0),(140,.it 7)],[some (.cells (AG c++AE q++[.ints pos,.msl 1 1 0 ln])),some (.ints o1),some (.cells [.ref 0 0]),some (.mo (.sets 2 o3 (some (Ag,gk)))),some (.mo (.set 2 o4)),some (.mo (.set 2 ([]:KS))),some (.cells [.bool false,.bool false]),some (.mo (.mit 2 gk.1 gk.2.1 gk.2.2 o7 none))]⟩
 | .l7 AW DN o1 o3 Ag o4 o5 BQ BR C9 C8 o8 DS=>∀ m0 m1 m2:Nat,n<=m0 -> n<=m1 -> n<=m2 -> ∀ gk:LK,TW B N (FQ Tryz.f72 2 (.bool r.1) [some (.cells (AG c++AE q++[.ints pos,.msl 1 1 0 ln])),some (.ints r.2)]) (A4 m2 (BF (Ab Tryz.f72) 12 [m0,m1])) ⟨AM 208 [(1,.ref 2 0),(3,.fn 103 1 (L1 [.ref 2 0])),(5,.msl 3 1 0 ((((c.cells.length:Int)+1)).toNat)),(7,.fn 104 1 (L1 [.ref 2 0])),(14,.it 4),(16,.i AW),(17,.it 5),(18,.ref 6 0),(19,.ref 7 0),(140,.it 8),(145,.msl 9 1 0 2),(146,.i 2),(147,.i DN)],[some (.cells (AG c++AE q++[.ints pos,.msl 1 1 0 ln])),some (.ints o1),some (.cells [.ref 0 0]),some (.mo (.sets 2 o3 (some (Ag,gk)))),some (.mo (.set 2 o4)),some (.mo (.set 2 o5)),some (.cells [.bool BQ,.bool BR]),some (.cells [.i C9,.i C8]),some (.mo (.mit 2 gk.1 gk.2.1 gk.2.2 o8 (some DS))),some (.bools ([false,true]:List Bool))]⟩
 | .l8 x8 Ar o1 o3 Ag o4 Ip=>∀ m0 m1:Nat,n<=m0 -> n<=m1 -> ∀ gk:LK,TW B N (FQ Tryz.f72 2 (.bool r.1) [some (.cells (AG c++AE q++[.ints pos,.msl 1 1 0 ln])),some (.ints r.2)]) (A4 m1 (BF (Ab Tryz.f72) 4 [m0])) ⟨AM 208 [(1,.ref 2 0),(3,.fn 103 1 (L1 [.ref 2 0])),(4,.i (c.cells.length:Int)),(5,.msl 3 1 0 ((((c.cells.length:Int)+1)).toNat)),(7,.fn 104 1 (L1 [.ref 2 0])),(8,.i x8),(58,.i (c.cells.length:Int)),(59,.i Ar),(66,.it 4)],[some (.cells (AG c++AE q++[.ints pos,.msl 1 1 0 ln])),some (.ints o1),some (.cells [.ref 0 0]),some (.mo (.sets 2 o3 (some (Ag,gk)))),some (.mo (.mit 2 gk.1 gk.2.1 gk.2.2 o4 (some Ip)))]⟩
 | .l9 AW o1 o3 Ag o4 o5 BQ BR o7 Io=>∀ m0 m1:Nat,n<=m0 -> n<=m1 -> ∀ gk:LK,TW B N (FQ Tryz.f72 2 (.bool r.1) [some (.cells (AG c++AE q++[.ints pos,.msl 1 1 0 ln])),some (.ints r.2)]) (A4 m1 (BF (Ab Tryz.f72) 10 [m0])) ⟨AM 208 [(1,.ref 2 0),(3,.fn 103 1 (L1 [.ref 2 0])),(5,.msl 3 1 0 ((((c.cells.length:Int)+1)).toNat)),(7,.fn 104 1 (L1 [.ref 2 0])),(14,.it 4),(16,.i AW),(17,.it 5),(18,.ref 6 0),(140,.it 7)],[some (.cells (AG c++AE q++[.ints pos,.msl 1 1 0 ln])),some (.ints o1),some (.cells [.ref 0 0]),some (.mo (.sets 2 o3 (some (Ag,gk)))),some (.mo (.set 2 o4)),some (.mo (.set 2 o5)),some (.cells [.bool BQ,.bool BR]),some (.mo (.mit 2 gk.1 gk.2.1 gk.2.2 o7 (some Io)))]⟩
theorem ma (B:Nat) (N:Yd 2) (c:AB) (q:AA) (pos:List Int) (ln:Nat) (lost:List Int):Al (BI c q pos ln lost) (mZ · B N c q pos ln lost):=ia (fun _=>rfl) fun n AH pt r h=>by
 cases pt
 case l1 Es o3=>
  intro m0 AC;refine rd AC fun m0 AC=>?_
  revert r;apply gO;exact bi 46 (gc (gi (gc (gi (gw 52 (lG CH [0,1,2,5] (AH _ _ · m0 AC))))))) (gc (gi (gc (gi (gi (jg (p8 (i:=0+0)) (lN CH [0,1,2,3] (AH _ _ · n Nat.le.refl))))))))
 case l2 Ar o1 o3=>
  intro m0 AC;refine rd AC fun m0 AC=>?_
  revert r;apply gO
  exact bi 60 (gn fun g0=>fun p r h=>by
   refine gs (AI 16 CH) [0,1,2,3] p (CW (Ab Tryz.f72) 16 [m0]) (AM 208 [(1,.ref 2 0),(3,.fn 103 1 (L1 [.ref 2 0])),(4,.i (c.cells.length:Int)),(5,.msl 3 1 0 ((((c.cells.length:Int)+1)).toNat)),(7,.fn 104 1 (L1 [.ref 2 0])),(8,.i Ar),(58,.i (c.cells.length:Int)),(59,.i Ar)]) (XZ c q pos ln o1 o3) ?_;refine BY.lock 3 (0+((Ar).toNat)) 2 (by kernel_rfl) g0 (by kernel_rfl) (fun gk=>(s6 c q pos ln o1 o3 Ar gk)) (by kernel_rfl) fun gk=>?_
   revert r;apply gO;exact gc (gi (gc (gi (gi (jg (Eq.refl (0+((Ar).toNat))) (lN CH [0,1,2,3,4] (AH _ _ · m0 n AC Nat.le.refl gk)))))))) (bi 115 (gc (gn fun g0=>jw 118 g0 (jw 125 g0 (gc (gi (gw 130 (lN CH [0,1,2,3,4] (AH _ _ · n Nat.le.refl)))))))) (gw 130 (lN CH [0,1,2,3,4] (AH _ _ · n Nat.le.refl))))
 case l3 x8 Ar o1 o3 Ag o4=>
  intro m0 m1 AC A7 gk;have AC:=zZ AC;refine rd A7 fun m1 A7=>?_
  have p:=H0;refine gs (AI 17 CH) [0,1,2,3,4] p (CW (Ab Tryz.f72) 17 [m0,m1]) (AM 208 [(1,.ref 2 0),(3,.fn 103 1 (L1 [.ref 2 0])),(4,.i (c.cells.length:Int)),(5,.msl 3 1 0 ((((c.cells.length:Int)+1)).toNat)),(7,.fn 104 1 (L1 [.ref 2 0])),(8,.i x8),(58,.i (c.cells.length:Int)),(59,.i Ar),(66,.it 4)]) (sq c q pos ln o1 o3 Ag gk o4) ?_;revert r;apply gO
  exact gn fun g0=>fun p r h=>by
   replace h:=S6 h;refine A1.nx (ops:=BG Tryz.f72 17) HC.x (by kernel_rfl) (by kernel_rfl) 4 3 Ag 2 o3 gk o4 none [1,3,4,5,7,8,58,59,66,68] [0,1,2,3] (AM 208 [(1,.ref 2 0),(3,.fn 103 1 (L1 [.ref 2 0])),(4,.i (c.cells.length:Int)),(5,.msl 3 1 0 ((((c.cells.length:Int)+1)).toNat)),(7,.fn 104 1 (L1 [.ref 2 0])),(8,.i x8),(58,.i (c.cells.length:Int)),(59,.i Ar),(68,.bool false)]) (XZ c q pos ln o1 o3) [0,1,2,3,4] (fun y1=>AM 208 [(1,.ref 2 0),(3,.fn 103 1 (L1 [.ref 2 0])),(4,.i (c.cells.length:Int)),(5,.msl 3 1 0 ((((c.cells.length:Int)+1)).toNat)),(7,.fn 104 1 (L1 [.ref 2 0])),(8,.i x8),(58,.i (c.cells.length:Int)),(59,.i Ar),(66,.it 4),(68,.bool true)]) (fun y1=>(eI c q pos ln o1 o3 Ag gk o4 y1)) (by kernel_rfl) (by kernel_rfl) (by kernel_rfl) (by decide) g0 (by kernel_rfl) (by kernel_rfl) (fun _=>by kernel_rfl) (fun he=>?_) (fun y1 he=>?_)
   ·replace h:=h.1 he;revert r;apply gO;exact gw 98 (lG CH [0,1,2,3] (AH _ _ · m0 AC))
   ·replace h:=h.2 y1 he;revert r;apply gO;exact gi (jg (Eq.refl gk.1) (jg (Eq.refl gk.2.1) (jg (Eq.refl gk.2.2) (jt (lN CH [0,1,2,3,5,4,6] (AH _ _ · m0 m1 n AC A7 Nat.le.refl gk))))))
 case l4 AW o1 o3 o4=>
  intro m0 AC;refine rd AC fun m0 AC=>?_
  revert r;apply gO
  exact bi 132 (gn fun g0=>fun p r h=>by
   refine gs (AI 36 CH) [0,1,2,3,4,5,6] p (CW (Ab Tryz.f72) 36 [m0]) (AM 208 [(1,.ref 2 0),(3,.fn 103 1 (L1 [.ref 2 0])),(5,.msl 3 1 0 ((((c.cells.length:Int)+1)).toNat)),(7,.fn 104 1 (L1 [.ref 2 0])),(14,.it 4),(16,.i AW),(17,.it 5),(18,.ref 6 0)]) (XW c q pos ln o1 o3 o4) ?_;refine BY.lock 3 (0+((AW).toNat)) 2 (by kernel_rfl) g0 (by kernel_rfl) (fun gk=>(sn c q pos ln o1 o3 AW gk o4)) (by kernel_rfl) fun gk=>?_
   revert r;apply gO;exact gc (gi (gc (gi (gi (jg (Eq.refl (0+((AW).toNat))) (lN CH [0,1,2,3,4,5,6,7] (AH _ _ · m0 n AC Nat.le.refl gk)))))))) (lE CH [2] [0,1])
 case l5 x8 Ar Er o1 o3 Ag Ao E2 o5 E1=>
  intro m0 m1 m2 AC A7 FL gk;have AC:=zZ AC;have A7:=zZ A7;refine rd FL fun m2 FL=>?_
  revert r;apply gO;exact bj 74 (fun c0=>gc (gn fun g0=>jg g0 (gn fun g1=>jg g1 (cn fun y1 BB=>jc (em (Ks BB) [2,0,1] (XV c q pos ln o1 o3 Ag gk Ao E2 o5 E1)) (jt (bn (fun c1=>rO (jb 74 c0 (jg g0 (jg g1 (jc (em (Ks BB) [2,0,1] (XV c q pos ln o1 o3 Ag gk Ao E2 o5 E1)) (jb 83 c1 (jt (ce TP [2,0,1] (sk c q pos ln y1 o3 Ag gk Ao E2 o5 E1) fun _=>bi 89 (jg lP (gc (gw 93 (gc (gi (gc (gi (gc (gn fun g5=>gc (gi (jg (p7 (g:=gk) g5) (gw 97 (lG CH [0,1,2,3,4,5,6] (AH _ _ · m0 m1 m2 AC A7 FL gk)))))))))))))) (gw 97 (lG CH [0,1,2,3,4,5,6] (AH _ _ · m0 m1 m2 AC A7 FL gk))))))))))) (fun c1=>rO (jb 74 c0 (jg g0 (jg g1 (jc (em (Ks BB) [2,0,1] (XV c q pos ln o1 o3 Ag gk Ao E2 o5 E1)) (jb 83 c1 (jt (gw 97 (lG CH [0,1,2,3,4,5,6] (AH _ _ · m0 m1 m2 AC A7 FL gk)))))))))))))))) (fun _=>lG CH [0,1,2,3,5] (AH _ _ · m0 m1 AC A7 gk))
 case l6 AW o1 o3 Ag o4 o7=>
  intro m0 m1 AC A7 gk;have AC:=zZ AC;refine rd A7 fun m1 A7=>?_
  have p:=H0;refine gs (AI 37 CH) [0,1,2,3,4,5,6,7] p (CW (Ab Tryz.f72) 37 [m0,m1]) (AM 208 [(1,.ref 2 0),(3,.fn 103 1 (L1 [.ref 2 0])),(5,.msl 3 1 0 ((((c.cells.length:Int)+1)).toNat)),(7,.fn 104 1 (L1 [.ref 2 0])),(14,.it 4),(16,.i AW),(17,.it 5),(18,.ref 6 0),(140,.it 7)]) (sj c q pos ln o1 o3 Ag gk o4 o7) ?_;revert r;apply gO
  exact gn fun g0=>fun p r h=>by
   replace h:=S6 h;refine A1.nx (ops:=BG Tryz.f72 37) HC.x (by kernel_rfl) (by kernel_rfl) 7 3 Ag 2 o3 gk o7 none [1,3,5,7,14,16,17,18,140,142] [0,1,2,3,4,5,6] (AM 208 [(1,.ref 2 0),(3,.fn 103 1 (L1 [.ref 2 0])),(5,.msl 3 1 0 ((((c.cells.length:Int)+1)).toNat)),(7,.fn 104 1 (L1 [.ref 2 0])),(14,.it 4),(16,.i AW),(17,.it 5),(18,.ref 6 0),(142,.bool false)]) (XW c q pos ln o1 o3 o4) [0,1,2,3,4,5,6,7] (fun y1=>AM 208 [(1,.ref 2 0),(3,.fn 103 1 (L1 [.ref 2 0])),(5,.msl 3 1 0 ((((c.cells.length:Int)+1)).toNat)),(7,.fn 104 1 (L1 [.ref 2 0])),(14,.it 4),(16,.i AW),(17,.it 5),(18,.ref 6 0),(140,.it 7),(142,.bool true)]) (fun y1=>(s3 c q pos ln o1 o3 Ag gk o4 o7 y1)) (by kernel_rfl) (by kernel_rfl) (by kernel_rfl) (by decide) g0 (by kernel_rfl) (by kernel_rfl) (fun _=>by kernel_rfl) (fun he=>?_) (fun y1 he=>?_)
   ·replace h:=h.1 he;revert r;apply gO;exact jg (by decide:(0:Int)<=1/\ 1<((2:Nat):Int)) (jg aq (gn fun g1=>jg g1 (ce Fe [0,1] (XW c q pos ln o1 o3 o4) fun y2=>jg (Eq.refl (Zk c AW q pos ln y2 o3 o4)) (jg (by decide:(0:Int)<=0/\ 0<((2:Nat):Int)) (jg Vf (jg g1 (ce Kr [0,1] (s5 c q pos ln y2 o3 o4) fun y3=>jg (Eq.refl (Zn c AW q pos ln y3 o3 o4)) (gw 134 (lG (tg:=[([],(Zk c AW q pos ln y2 o3 o4)),([],(Zn c AW q pos ln y3 o3 o4))]) CH [0,1,2,3,5] (AH _ _ · m0 AC))))))))))
   ·replace h:=h.2 y1 he;revert r;apply gO;exact gi (jg (Eq.refl gk.1) (jg (Eq.refl gk.2.1) (jg (Eq.refl gk.2.2) (jt (lN CH [0,1,2,3,4,5,6,8,7,9] (AH _ _ · m0 m1 n AC A7 Nat.le.refl gk))))))
 case l7 AW DN o1 o3 Ag o4 o5 BQ BR C9 C8 o8 DS=>
  intro m0 m1 m2 AC A7 FL gk;have AC:=zZ AC;have A7:=zZ A7;refine rd FL fun m2 FL=>?_
  revert r;apply gO;exact bj 148 (fun c0=>gc (gn fun g0=>jg g0 (gn fun g1=>jg g1 (cn fun y1 BB=>jc (em (Ks BB) [2,0,1] (QS c q pos ln o1 o3 Ag gk o4 o5 BQ BR C9 C8 o8 DS)) (jt (bn (fun c1=>rO (jb 148 c0 (jg g0 (jg g1 (jc (em (Ks BB) [2,0,1] (QS c q pos ln o1 o3 Ag gk o4 o5 BQ BR C9 C8 o8 DS)) (jb 158 c1 (jt (cn fun y2 Bq=>jc (em (TP Bq) [2,0,1] (XY c q pos ln y1 o3 Ag gk o4 o5 BQ BR C9 C8 o8 DS)) (bj 164 (fun c2=>bj 169 (fun c3=>bn (fun c4=>rO (jb 148 c0 (jo 149 (AS.int (k:=.i64) (eq_of_beq c4)) (jg g0 (jg g1 (jc (em (Ks BB) [2,0,1] (QS c q pos ln o1 o3 Ag gk o4 o5 BQ BR C9 C8 o8 DS)) (jb 158 c1 (jt (jc (em (TP Bq) [2,0,1] (XY c q pos ln y1 o3 Ag gk o4 o5 BQ BR C9 C8 o8 DS)) (jb 164 c2 (jb 169 c3 (jg (by decide:(0:Int)<=0/\ 0<((2:Nat):Int)) (jt (gw 175 (lG CH [0,1,2,3,4,5,6,7,8,9] (AH _ _ · m0 m1 m2 AC A7 FL gk)))))))))))))))) (fun c4=>bn (fun c6=>rO (jb 148 c0 (jo 149 (AS.int (k:=.i64) (eq_of_beq c6)) (jg g0 (jg g1 (jc (em (Ks BB) [2,0,1] (QS c q pos ln o1 o3 Ag gk o4 o5 BQ BR C9 C8 o8 DS)) (jb 158 c1 (jt (jc (em (TP Bq) [2,0,1] (XY c q pos ln y1 o3 Ag gk o4 o5 BQ BR C9 C8 o8 DS)) (jb 164 c2 (jb 169 c3 (jg (by decide:(0:Int)<=1/\ 1<((2:Nat):Int)) (jt (gw 175 (lG CH [0,1,2,3,4,5,6,7,8,9] (AH _ _ · m0 m1 m2 AC A7 FL gk)))))))))))))))) (fun c6=>nO))) (fun _=>gw 175 (lG CH [0,1,2,3,4,5,6,7,8,9] (AH _ _ · m0 m1 m2 AC A7 FL gk)))) (fun _=>gw 175 (lG CH [0,1,2,3,4,5,6,7,8,9] (AH _ _ · m0 m1 m2 AC A7 FL gk)))))))))))) (fun c1=>rO (jb 148 c0 (jg g0 (jg g1 (jc (em (Ks BB) [2,0,1] (QS c q pos ln o1 o3 Ag gk o4 o5 BQ BR C9 C8 o8 DS)) (jb 158 c1 (jt (gw 175 (lG CH [0,1,2,3,4,5,6,7,8,9] (AH _ _ · m0 m1 m2 AC A7 FL gk)))))))))))))))) (fun _=>lG CH [0,1,2,3,4,5,6,8] (AH _ _ · m0 m1 AC A7 gk))
 case l8 x8 Ar o1 o3 Ag o4 Ip=>
  intro m0 m1 AC A7 gk;have AC:=zZ AC;refine rd A7 fun m1 A7=>?_
  have p:=H0;refine gs (AI 17 CH) [0,1,2,3,4] p (CW (Ab Tryz.f72) 17 [m0,m1]) (AM 208 [(1,.ref 2 0),(3,.fn 103 1 (L1 [.ref 2 0])),(4,.i (c.cells.length:Int)),(5,.msl 3 1 0 ((((c.cells.length:Int)+1)).toNat)),(7,.fn 104 1 (L1 [.ref 2 0])),(8,.i x8),(58,.i (c.cells.length:Int)),(59,.i Ar),(66,.it 4)]) (sw c q pos ln o1 o3 Ag gk o4 Ip) ?_;revert r;apply gO
  exact gn fun g0=>fun p r h=>by
   replace h:=S6 h;refine A1.nx (ops:=BG Tryz.f72 17) HC.x (by kernel_rfl) (by kernel_rfl) 4 3 Ag 2 o3 gk o4 (some Ip) [1,3,4,5,7,8,58,59,66,68] [0,1,2,3] (AM 208 [(1,.ref 2 0),(3,.fn 103 1 (L1 [.ref 2 0])),(4,.i (c.cells.length:Int)),(5,.msl 3 1 0 ((((c.cells.length:Int)+1)).toNat)),(7,.fn 104 1 (L1 [.ref 2 0])),(8,.i x8),(58,.i (c.cells.length:Int)),(59,.i Ar),(68,.bool false)]) (XZ c q pos ln o1 o3) [0,1,2,3,4] (fun y1=>AM 208 [(1,.ref 2 0),(3,.fn 103 1 (L1 [.ref 2 0])),(4,.i (c.cells.length:Int)),(5,.msl 3 1 0 ((((c.cells.length:Int)+1)).toNat)),(7,.fn 104 1 (L1 [.ref 2 0])),(8,.i x8),(58,.i (c.cells.length:Int)),(59,.i Ar),(66,.it 4),(68,.bool true)]) (fun y1=>(eI c q pos ln o1 o3 Ag gk o4 y1)) (by kernel_rfl) (by kernel_rfl) (by kernel_rfl) (by decide) g0 (by kernel_rfl) (by kernel_rfl) (fun _=>by kernel_rfl) (fun he=>?_) (fun y1 he=>?_)
   ·replace h:=h.1 he;revert r;apply gO;exact gw 98 (lG CH [0,1,2,3] (AH _ _ · m0 AC))
   ·replace h:=h.2 y1 he;revert r;apply gO;exact gi (jg (Eq.refl gk.1) (jg (Eq.refl gk.2.1) (jg (Eq.refl gk.2.2) (jt (lN CH [0,1,2,3,5,4,6] (AH _ _ · m0 m1 n AC A7 Nat.le.refl gk))))))
 case l9 AW o1 o3 Ag o4 o5 BQ BR o7 Io=>
  intro m0 m1 AC A7 gk;have AC:=zZ AC;refine rd A7 fun m1 A7=>?_
  have p:=H0;refine gs (AI 37 CH) [0,1,2,3,4,5,6,7] p (CW (Ab Tryz.f72) 37 [m0,m1]) (AM 208 [(1,.ref 2 0),(3,.fn 103 1 (L1 [.ref 2 0])),(5,.msl 3 1 0 ((((c.cells.length:Int)+1)).toNat)),(7,.fn 104 1 (L1 [.ref 2 0])),(14,.it 4),(16,.i AW),(17,.it 5),(18,.ref 6 0),(140,.it 7)]) (su c q pos ln o1 o3 Ag gk o4 o5 BQ BR o7 Io) ?_;revert r;apply gO
  exact gn fun g0=>fun p r h=>by
   replace h:=S6 h;refine A1.nx (ops:=BG Tryz.f72 37) HC.x (by kernel_rfl) (by kernel_rfl) 7 3 Ag 2 o3 gk o7 (some Io) [1,3,5,7,14,16,17,18,140,142] [0,1,2,3,4,5,6] (AM 208 [(1,.ref 2 0),(3,.fn 103 1 (L1 [.ref 2 0])),(5,.msl 3 1 0 ((((c.cells.length:Int)+1)).toNat)),(7,.fn 104 1 (L1 [.ref 2 0])),(14,.it 4),(16,.i AW),(17,.it 5),(18,.ref 6 0),(142,.bool false)]) (XX c q pos ln o1 o3 o4 o5 BQ BR) [0,1,2,3,4,5,6,7] (fun y1=>AM 208 [(1,.ref 2 0),(3,.fn 103 1 (L1 [.ref 2 0])),(5,.msl 3 1 0 ((((c.cells.length:Int)+1)).toNat)),(7,.fn 104 1 (L1 [.ref 2 0])),(14,.it 4),(16,.i AW),(17,.it 5),(18,.ref 6 0),(140,.it 7),(142,.bool true)]) (fun y1=>(sp c q pos ln o1 o3 Ag gk o4 o5 BQ BR o7 y1)) (by kernel_rfl) (by kernel_rfl) (by kernel_rfl) (by decide) g0 (by kernel_rfl) (by kernel_rfl) (fun _=>by kernel_rfl) (fun he=>?_) (fun y1 he=>?_)
   ·replace h:=h.1 he;revert r;apply gO;exact jg (by decide:(0:Int)<=1/\ 1<((2:Nat):Int)) (bi 179 (jg aq (gn fun g1=>jg g1 (ce Fe [0,1] (XX c q pos ln o1 o3 o4 o5 BQ BR) fun y2=>jg (Eq.refl (VL c AW q pos ln y2 o3 o4 o5 BQ BR)) (jg (by decide:(0:Int)<=0/\ 0<((2:Nat):Int)) (bi 197 (jg Vf (jg g1 (ce Kr [0,1] (sr c q pos ln y2 o3 o4 o5 BQ BR) fun y3=>jg (Eq.refl (Zm c AW q pos ln y3 o3 o4 o5 BQ BR)) (gw 134 (lG (tg:=[([],(VL c AW q pos ln y2 o3 o4 o5 BQ BR)),([],(Zm c AW q pos ln y3 o3 o4 o5 BQ BR))]) CH [0,1,2,3,5] (AH _ _ · m0 AC)))))) (gw 134 (lG (tg:=[([],(VL c AW q pos ln y2 o3 o4 o5 BQ BR))]) CH [0,1,2,3,5] (AH _ _ · m0 AC)))))))) (jg (by decide:(0:Int)<=0/\ 0<((2:Nat):Int)) (bi 197 (jg Vf (gi (ce Kr [0,1] (XX c q pos ln o1 o3 o4 o5 BQ BR) fun y2=>jg (Eq.refl (Zl c AW q pos ln y2 o3 o4 o5 BQ BR)) (gw 134 (lG (tg:=[([],(Zl c AW q pos ln y2 o3 o4 o5 BQ BR))]) CH [0,1,2,3,5] (AH _ _ · m0 AC)))))) (gw 134 (lG CH [0,1,2,3,5] (AH _ _ · m0 AC))))))
   ·replace h:=h.2 y1 he;revert r;apply gO;exact gi (jg (Eq.refl gk.1) (jg (Eq.refl gk.2.1) (jg (Eq.refl gk.2.2) (jt (lN CH [0,1,2,3,4,5,6,8,7,9] (AH _ _ · m0 m1 n AC A7 Nat.le.refl gk))))))
theorem mW {n:Nat} {c:AB} {q:AA} {pos:List Int} {ln:Nat} {lost:List Int} {r:Bool×(List Int)} (h:NR n c q pos ln lost=some r):EQ 72 [.ref 0 0] [some (.cells (AG c++AE q++[.ints pos,.msl 1 1 0 ln])),some (.ints lost)] (.bool r.1) [some (.cells (AG c++AE q++[.ints pos,.msl 1 1 0 ln])),some (.ints r.2)] false:=by
 refine ot Tryz.func72 fun B N=>?_
 revert r;apply gO;exact bi 32 (lE CH [2] [0,1]) (gc (gw 41 (gi (lN CH [0,1,2,3] ((ma B N c q pos ln lost n) _ _ · n Nat.le.refl)))))
end Go.Proofs.YtgkhhfnhacibcaaGreatDoor
