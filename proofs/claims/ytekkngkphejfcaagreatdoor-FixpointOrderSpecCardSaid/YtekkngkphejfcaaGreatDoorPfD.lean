/- Part 4 of 7 of what the proofs of these laws stand on. -/
import Derived.Test.YtekkngkphejfcaaGreatDoorPfC
import Derived.Laws.BitsLemmas
import Derived.Shelf.Sort.Plain
set_option linter.all false
namespace Go.Proofs.YtekkngkphejfcaaGreatDoor
abbrev zBV:=@decide_eq_true_iff
abbrev zCI:=@List.length_singleton
abbrev zCO:=@List.mem_append_left
abbrev zDB:=@List.mem_append_right
abbrev zFI:=@Bool.false_and
abbrev zFJ:=@List.getElem?_set_ne
abbrev zFN:=@List.getElem?_set_self
abbrev zFV:=@List.append_nil
abbrev zFi:=@List.append_assoc
abbrev zFp:=@Bool.and_false
abbrev zFt:=@List.countP_cons
abbrev zGj:=@List.countP_le_length
end Go.Proofs.YtekkngkphejfcaaGreatDoor
namespace Go.Proofs.YtekkngkphejfcaaGreatDoor
open Go.RowKit
def nb (g:List (List Int)) (v:Int):List Int:=g.getD v.toNat []
structure Gr (g:List (List Int)):Prop where
 len:g.length<=256
 row: ∀ v,0<=v -> v<(g.length:Int) -> (nb g v).length<=256
 rng: ∀ v,0<=v -> v<(g.length:Int) -> ∀ u∈nb g v,0<=u/\ u<(g.length:Int)
 sym: ∀ v,0<=v -> v<(g.length:Int) -> ∀ u∈nb g v,v∈nb g u
theorem Gr.of {g:List (List Int)} (h:I1 g=true) (hr: ∀ r∈g,r.length<=LB):Gr g:=by
 unfold I1 at h;rw [zBE,zBV,zBT] at h
 have key: ∀ v,0<=v -> v<(g.length:Int) -> ∀ u∈nb g v,(0<=u/\ u<(g.length:Int))/\ v∈nb g u:=by
  intro v h0 h1 u hu;have h2:=h.2 v.toNat (zBc.2 (by omega));unfold Hp at h2;rw [zBT] at h2;obtain ⟨j,hj,e⟩:=zEz hu;have h3:=h2 j (zBc.2 hj);unfold FN at h3
  have e2:(g.getD v.toNat []).getD j 0=u:=by
   show (nb g v).getD j 0=u
   rw [u8,zBD hj];exact e
  simp only [e2,zBE,zBV,zFZ] at h3;have e3:((v.toNat:Nat):Int)=v:=by omega
  rw [e3] at h3;exact ⟨⟨h3.1.1.1.1,h3.1.1.1.2⟩,h3.2⟩
 have grow: ∀ v,0<=v -> v<(g.length:Int) -> ∀ k,k<(nb g v).length -> (k:Int)<=(nb g v).getD k 0:=by
  intro v h0 h1 k;have h2:=h.2 v.toNat (zBc.2 (by omega));unfold Hp at h2;rw [zBT] at h2
  induction k with
  | zero=>
   intro hk;have h3:=h2 0 (zBc.2 hk);unfold FN at h3;simp only [zBE,zBV] at h3;exact h3.1.1.1.1
  | succ k ih=>
   intro hk;have h3:=h2 (k+1) (zBc.2 hk);unfold FN at h3;have d:decide (0<k+1)=true:=zBC (by omega);simp only [zBE,zBV,d,zCJ,zFP,Nat.add_sub_cancel] at h3;have h4:(nb g v).getD k 0<(nb g v).getD (k+1) 0:=h3.1.2;have:=ih (by omega);omega
 exact ⟨h.1,fun v h0 h1=>by
  refine zGm fun hl=>?_
  have h2:=grow v h0 h1 256 hl;have h3:(nb g v).getD 256 0∈nb g v:=by rw [u8,zBD hl];exact zB0 hl
  have h4:=(key v h0 h1 _ h3).1;have:=h.1;omega,fun v h0 h1 u hu=>(key v h0 h1 u hu).1,fun v h0 h1 u hu=>(key v h0 h1 u hu).2⟩
inductive Rc (g:List (List Int)) (inn:List Bool) (s:Int):Int -> Prop
 | start:Rc g inn s s
 | step {a b:Int} (h:Rc g inn s a) (hb:b∈nb g a) (hi:inn.getD b.toNat false=true):Rc g inn s b
section
variable {g:List (List Int)} {inn:List Bool} {s:Int}
theorem Rc.rng (G:Gr g) (h0:0<=s) (h1:s<(g.length:Int)) {v:Int} (h:Rc g inn s v):0<=v/\ v<(g.length:Int):=by
 induction h with
 | start=>exact ⟨h0,h1⟩
 | step h hb hi ih=>exact G.rng _ ih.1 ih.2 _ hb
theorem Rc.isIn (hs:inn.getD s.toNat false=true) {v:Int} (h:Rc g inn s v):inn.getD v.toNat false=true:=by
 cases h with
 | start=>exact hs
 | step h hb hi=>exact hi
theorem Rc.trans {a b:Int} (h:Rc g inn s a) (h2:Rc g inn a b):Rc g inn s b:=by
 induction h2 with
 | start=>exact h
 | step _ hb hi ih=>exact .step ih hb hi
theorem Rc.symm (G:Gr g) (h0:0<=s) (h1:s<(g.length:Int)) (hs:inn.getD s.toNat false=true) {v:Int} (h:Rc g inn s v):Rc g inn v s:=by
 induction h with
 | start=>exact .start
 | step h hb hi ih=>
  have hr:=h.rng G h0 h1;exact (Rc.step Rc.start (G.sym _ hr.1 hr.2 _ hb) (h.isIn hs)).trans ih
theorem Rc.mono {inn':List Bool} (hm: ∀ v:Int,inn.getD v.toNat false=true -> inn'.getD v.toNat false=true) {v:Int} (h:Rc g inn s v):Rc g inn' s v:=by
 induction h with
 | start=>exact .start
 | step h hb hi ih=>exact .step ih hb (hm _ hi)
def Cj (l:List Bool):Nat:=l.countP fun b=>!b
theorem UG: ∀ (l:List Bool) (i:Nat),i<l.length -> l.getD i false=false -> Cj (l.set i true)+1=Cj l
 | b::l,0,_,h=>by
  have h:b=false:=h;subst h;simp [Cj,zFt]
 | b::l,i+1,hi,h=>by
  have:=UG l i (Nat.lt_of_succ_lt_succ hi) (by simpa using h)
  show Cj (b::l.set i true)+1=Cj (b::l)
  unfold Cj at this ⊢;rw [zFt,zFt];omega
def DW (inn:List Bool) (st:List Bool×List Int) (v:Int):List Bool×List Int:=bif inn.getD v.toNat false&&!st.1.getD v.toNat false then (st.1.set v.toNat true,st.2++[v]) else st
structure Bf (g:List (List Int)) (inn:List Bool) (s:Int) (met:List Bool) (Q P:List Int):Prop where
 len:met.length=g.length
 cnt:Q.length+Cj met<=g.length
 nd:(P++Q).Nodup
 rc: ∀ v∈P++Q,Rc g inn s v
 rng: ∀ v∈P++Q,0<=v/\ v<(g.length:Int)
 met: ∀ v:Int,0<=v -> v<(g.length:Int) -> (met.getD v.toNat false=true↔v∈P++Q)
 cl: ∀ p∈P,∀ b∈nb g p,inn.getD b.toNat false=true -> b∈P++Q
 st:s∈P++Q
theorem Bf.ex (G:Gr g) {met:List Bool} {Q P:List Int} (h:Bf g inn s met Q P) {v u:Int} (hv:v∈Q) (hu:u∈nb g v):
 Bf g inn s (DW inn (met,Q) u).1 (DW inn (met,Q) u).2 P/\ (∃ t,(DW inn (met,Q) u).2=Q++t)/\ (inn.getD u.toNat false=true -> u∈P++(DW inn (met,Q) u).2)/\ 2*Cj (DW inn (met,Q) u).1+(DW inn (met,Q) u).2.length<=2*Cj met+Q.length:=by
 have In:=h.rng v (zDB _ hv);have Jp:=G.rng v In.1 In.2 u hu;unfold DW
 dsimp only
 cases hi:inn.getD u.toNat false
 ·rw [zFI,zAD];exact ⟨h,⟨[],(zFV _).symm⟩,fun h=>(by cases h),zBa _⟩
 ·cases hm:met.getD u.toNat false
  ·rw [zCN,Bool.and_true,zBA];have hn:u∉P++Q:=fun hh=>by rw [(h.met u Jp.1 Jp.2).2 hh] at hm;cases hm
   have hl:=h.len;have hc:=UG met u.toNat (by omega) hm;have hcnt:=h.cnt;have CA: ∀ x,x∈P++(Q++[u])↔x∈P++Q∨x=u:=fun x=>by simp [or_assoc]
   refine ⟨⟨by rw [zBo];exact hl,by show (Q++[u]).length+Cj (met.set u.toNat true)<=_;rw [zCC,zCI];omega,?_,fun x hx=>?_,fun x hx=>?_,fun x Fx Np=>?_,fun p hp b hb hbi=>(CA b).2 (.inl (h.cl p hp b hb hbi)),(CA s).2 (.inl h.st)⟩,⟨[u],rfl⟩,fun _=>(CA u).2 (.inr rfl),by show 2*Cj (met.set u.toNat true)+(Q++[u]).length<=_;rw [zCC,zCI];omega⟩
   ·rw [←zFi,List.nodup_append];exact ⟨h.nd,by simp,fun a ha b hb=>by rw [zBm] at hb;subst hb;exact fun e=>hn (e▸ha)⟩
   ·rcases (CA x).1 hx with hx | rfl
    ·exact h.rc x hx
    ·exact .step (h.rc v (zDB _ hv)) hu hi
   ·rcases (CA x).1 hx with hx | rfl
    ·exact h.rng x hx
    ·exact Jp
   ·rw [CA,←h.met x Fx Np]
    by_cases e:x=u
    ·subst e;rw [u8,zFN (by omega)];exact ⟨fun _=>.inr rfl,fun _=>rfl⟩
    ·rw [u8,zFJ (by omega),←u8];exact ⟨.inl,fun h=>h.elim id fun h=>absurd h e⟩
  ·rw [zCJ,zFp,zAD];exact ⟨h,⟨[],by simp⟩,fun _=>(h.met u Jp.1 Jp.2).1 hm,zBa _⟩
theorem Bf.exs (G:Gr g) {v:Int} {P:List Int}: ∀ (l:List Int) {met:List Bool} {Q:List Int},Bf g inn s met Q P -> v∈Q -> (∀ u∈l,u∈nb g v) ->
 Bf g inn s (l.foldl (DW inn) (met,Q)).1 (l.foldl (DW inn) (met,Q)).2 P/\ (∃ t,(l.foldl (DW inn) (met,Q)).2=Q++t)/\ (∀ u∈l,inn.getD u.toNat false=true -> u∈P++(l.foldl (DW inn) (met,Q)).2)/\ 2*Cj (l.foldl (DW inn) (met,Q)).1+(l.foldl (DW inn) (met,Q)).2.length<=2*Cj met+Q.length
 | [],met,Q,h,hv,hl=>⟨h,⟨[],by simp⟩,fun u hu=>absurd hu zFe,zBa _⟩
 | u::l,met,Q,h,hv,hl=>by
  obtain ⟨h1,⟨t,ht⟩,h2,h3⟩:=h.ex G hv (hl u zC4);obtain ⟨h4,⟨t',W8⟩,h5,h6⟩:=Bf.exs G l h1 (by rw [ht];exact zCO _ hv) fun x hx=>hl x (zCG _ hx)
  refine ⟨h4,⟨t++t',?_⟩,fun x hx hi=>?_,zBO h6 h3⟩
  ·show (List.foldl (DW inn) (DW inn (met,Q) u) l).2=_
   rw [W8,ht,zFi]
  ·rcases zCB.1 hx with rfl | hx
   ·show x∈P++(List.foldl (DW inn) (DW inn (met,Q) x) l).2
    rw [W8,←zFi];exact zCO _ (h2 hi)
   ·exact h5 x hx hi
theorem yV {n j:Nat} {l:List Int} {met:List Bool} {Q:List Int} (hI:inn.length=g.length) (hG:g.length<=256) (hm:met.length=g.length) (hQ:Q.length+Cj met<=g.length) (hj:j<l.length) (hl:l.length<=256) (hr:0<=l.getD j 0/\ l.getD j 0<(g.length:Int)):
 ET g s inn (n+1) (.l2 Q.length l (l.length:Int) (j:Int) met Q)=ET g s inn n (.l2 (DW inn (met,Q) (l.getD j 0)).2.length l (l.length:Int) ((j:Int)+1) (DW inn (met,Q) (l.getD j 0)).1 (DW inn (met,Q) (l.getD j 0)).2):=by
 have r1:AG ((j:Int)+1):=Ae.2 ⟨by omega,by omega⟩;have L:(1000000000000:Nat)=A7:=rfl
 show KN n (ET g s inn n) g s inn Q.length l (l.length:Int) (j:Int) met Q=_
 unfold KN DW;simp only [zAB,zBj];rw [zBC (by omega),zBA,zAE ⟨⟨by omega,by omega⟩,by omega,by omega⟩];cases hi:inn.getD (l.getD j 0).toNat false
 ·rw [zAD,zFI,zAD,zAE r1]
 ·rw [zBA,zCE,zAE ⟨hr,by omega⟩];cases ht:met.getD (l.getD j 0).toNat false
  ·have hc:=UG met (l.getD j 0).toNat (by omega) ht;rw [zCN,zBA,zBA,zAE ⟨⟨⟨trivial,rfl⟩,⟨trivial,trivial⟩,by rw [zCI,←L];omega⟩,r1⟩,zCC]
  ·rw [zCJ,zAD,zAD,zAE r1]
theorem mC (hI:inn.length=g.length) (G:Gr g) {v:Int} {P:List Int} {l:List Int} (hl:l.length<=256) (cU: ∀ u∈l,u∈nb g v): ∀ (k j n:Nat) {met:List Bool} {Q:List Int},j+k=l.length -> Bf g inn s met Q P -> v∈Q ->
 ET g s inn (n+k) (.l2 Q.length l (l.length:Int) (j:Int) met Q)=ET g s inn n (.l2 ((l.drop j).foldl (DW inn) (met,Q)).2.length l (l.length:Int) (l.length:Int) ((l.drop j).foldl (DW inn) (met,Q)).1 ((l.drop j).foldl (DW inn) (met,Q)).2)
 | 0,j,n,met,Q,e,h,hv=>by
  have e:j=l.length:=by omega
  subst e;rw [List.drop_length];rfl
 | k+1,j,n,met,Q,e,h,hv=>by
  have hj:j<l.length:=by omega
  have hu:l.getD j 0∈l:=by rw [u8,zBD hj];exact zB0 hj
  have In:=h.rng v (zDB _ hv);have hr:=G.rng v In.1 In.2 _ (cU _ hu);obtain ⟨h1,⟨t,ht⟩,_,_⟩:=h.ex G hv (cU _ hu);rw [←zDG,yV hI G.len h.len h.cnt hj hl hr];have:=mC hI G hl cU k (j+1) n (by omega) h1 (by rw [ht];exact zCO _ hv);have e1:(((j+1:Nat)):Int)=(j:Int)+1:=by omega
  rw [e1] at this;rw [this]
  have e2:l.drop j=l.getD j 0::l.drop (j+1):=by
   rw [zB2 hj,u8,zBD hj];rfl
  rw [e2];rfl
def Mb (g:List (List Int)) (inn:List Bool) (s:Int) (P l:List Int):Prop:=(P++l).Nodup/\ (∀ v,v∈P++l↔Rc g inn s v)
theorem Bf.done {met:List Bool} {P:List Int} (h:Bf g inn s met [] P):Mb g inn s P []:=by
 refine ⟨h.nd,fun v=>⟨h.rc v,fun hv=>?_⟩⟩
 induction hv with
 | start=>exact h.st
 | step _ hb hi ih=>exact h.cl _ (by simpa using ih) _ hb hi
theorem AU.map {R:Type} {f:Nat -> Option R} {Q:R -> Prop} {Q':R -> Prop} {m:R -> R} (h:AU f Q) (hq: ∀ r,Q r -> Q' (m r)):AU (fun n=>(f n).map m) Q':=by
 obtain ⟨N,h⟩:=h;refine ⟨N,fun n hn=>?_⟩;obtain ⟨r,h1,h2⟩:=h n hn;exact ⟨m r,by show (f n).map m=_;rw [h1];rfl,hq r h2⟩
theorem zEH (G:Gr g) (hI:inn.length=g.length): ∀ (z:Nat) (met:List Bool) (Q P:List Int),2*Cj met+Q.length=z -> Bf g inn s met Q P -> AU (fun n=>ET g s inn n (.l1 Q.length met Q)) (Mb g inn s P):=by
 intro z
 induction z using Nat.strongRecOn with
 | _ z ih=>
  intro met Q P hz h;cases Q with
  | nil=>
   refine Ev.p (r:=[]) ⟨1,fun n hn=>?_⟩ h.done;obtain ⟨n,rfl⟩: ∃ k,n=k+1:=⟨n-1,by omega⟩
   show My n (ET g s inn n) g s inn 0 met []=_
   unfold My;rw [zAA (by omega),zAD]
  | cons v q=>
   have hv:v∈v::q:=zC4;have In:=h.rng v (zDB _ hv);obtain ⟨h1,⟨t,ht⟩,h2,h3⟩:=h.exs G (nb g v) hv (fun u hu=>hu);have hl:=G.row v In.1 In.2
   generalize E5:(nb g v).foldl (DW inn) (met,v::q)=st at h1 ht h2 h3
   obtain ⟨PV,Q'⟩:=st;have ht:Q'=v::(q++t):=ht;subst ht
   have hB:Bf g inn s PV (q++t) (P++[v]):=by
    have e:P++[v]++(q++t)=P++(v::(q++t)):=by simp
    have hc:=h1.cnt;simp only [zFB] at hc;refine ⟨h1.len,by omega,by rw [e];exact h1.nd,by rw [e];exact h1.rc,by rw [e];exact h1.rng,by rw [e];exact h1.met,?_,by rw [e];exact h1.st⟩;intro p hp b hb hi;rw [e];rcases zB5.1 hp with hp | hp
    ·exact h1.cl p hp b hb hi
    ·rw [zBm] at hp;subst hp;exact h2 b hb hi
   have bV:2*Cj PV+(q++t).length<z:=by
    simp only [zFB] at h3;simp only [zCC] at h3 ⊢;have:(v::q).length=q.length+1:=rfl;omega
   have IH:=ih _ bV PV (q++t) (P++[v]) rfl hB
   have key:AU (fun n=>ET g s inn n (.l2 (v::(q++t)).length (nb g v) ((nb g v).length:Int) ((nb g v).length:Int) PV (v::(q++t)))) (Mb g inn s (P++[v])):=by
    have g0:(0:Int)<=1/\ (1:Int)<=(((v::(q++t)).length:Nat):Int)/\ (((v::(q++t)).length:Nat):Int)<=(((v::(q++t)).length:Nat):Int):=⟨by omega,by rw [zFB];omega,zCH _⟩;cases b7:q++t with
    | nil=>
     rw [b7] at hB;refine Ev.p (r:=[]) ⟨2,fun n hn=>?_⟩ hB.done;obtain ⟨n,rfl⟩: ∃ k,n=k+2:=⟨n-2,by omega⟩
     show KN (n+1) (ET g s inn (n+1)) g s inn 1 (nb g v) ((nb g v).length:Int) ((nb g v).length:Int) PV [v]=_
     unfold KN;rw [zAA (by omega),zAD];rfl
    | cons a r=>
     rw [←b7];refine AU.step 1 (fun n=>?_) IH
     show KN n (ET g s inn n) g s inn (v::(q++t)).length (nb g v) ((nb g v).length:Int) ((nb g v).length:Int) PV (v::(q++t))=_
     unfold KN;have e0:((v::(q++t)).length-1==0)=false:=by rw [b7];rfl
     rw [zAA (by omega),zAD,e0,zAD,zAE g0,zAE (by rw [zFB];omega)];rfl
   have yc:AU (fun n=>ET g s inn n (.l2 (v::q).length (nb g v) ((nb g v).length:Int) 0 met (v::q))) (Mb g inn s (P++[v])):=by
    refine AU.step (nb g v).length (fun n=>?_) key;have:=mC hI G hl (fun u hu=>hu) (nb g v).length 0 n (by omega) h hv;rw [zGG,E5] at this;exact this
   have m: ∀ r:List Int,Mb g inn s (P++[v]) r -> Mb g inn s P (v::r):=fun r hr=>by
    have e:P++[v]++r=P++(v::r):=by simp
    unfold Mb at hr ⊢;rw [e] at hr;exact hr
   refine AU.step 1 (fun n=>?_) (AU.map yc m)
   show My n (ET g s inn n) g s inn (v::q).length met (v::q)=_
   unfold My;have g1:((0:Int)<=0/\ 0<(((v::q).length:Nat):Int))/\ 0+0<(v::q).length:=by rw [zFB];omega
   rw [zBC (by rw [zFB];omega),zBA,zAE g1];have e1:(v::q).getD (0+0) 0=v:=rfl;rw [e1,zAE ⟨g1.1,g1.2,In⟩];rfl
theorem Ze (G:Gr g) (hI:inn.length=g.length) (h0:0<=s) (h1:s<(g.length:Int)):AU (fun n=>GC n g s inn) (fun l=>l.Nodup/\ ∀ v,v∈l↔Rc g inn s v):=by
 have Ak:((List.replicate g.length false).set s.toNat true).length=g.length:=by simp
 have hG:=G.len;have hc:=UG (List.replicate g.length false) s.toNat (by rw [zCD];omega) (by simp [u8,zE7];split <;> rfl)
 have Iv:Cj (List.replicate g.length false)<=g.length:=by
  have:=zGj (p:=fun b=>!b) (l:=List.replicate g.length false);rw [zCD] at this;exact this
 have hB:Bf g inn s ((List.replicate g.length false).set s.toNat true) [s] []:=by
  refine ⟨Ak,by rw [zCI];omega,by simp,fun v hv=>?_,fun v hv=>?_,fun v Jo Bn=>?_,fun p hp=>absurd hp zFe,by simp⟩
  ·have:v=s:=by simpa using hv
   subst this;exact .start
  ·have:v=s:=by simpa using hv
   subst this;exact ⟨h0,h1⟩
  ·by_cases e:v=s
   ·subst e;rw [u8,zFN (by rw [zCD];omega)];simp
   ·rw [u8,zFJ (by omega),zE7];simp only [zFD,zBm,e,iff_false];split <;> simp
 have:=zEH G hI _ _ _ _ rfl hB;refine (AU.mono (Q':=fun l=>l.Nodup/\ ∀ v,v∈l↔Rc g inn s v) this (fun l (hl:Mb g inn s [] l)=>(⟨hl.1,hl.2⟩:l.Nodup/\ ∀ v,v∈l↔Rc g inn s v))).eq fun n=>?_
 unfold GC Zd;rw [zAE ⟨⟨rfl,by omega,by omega⟩,⟨h0,h1⟩,by simp only [zCD];omega⟩,zBj];rfl
end
end Go.Proofs.YtekkngkphejfcaaGreatDoor
namespace Go.Proofs.YtekkngkphejfcaaGreatDoor
abbrev zFd:=@BitVec.toNat_ofInt
abbrev zGH:=@Nat.pow_le_pow_right
abbrev zGZ:=@BitVec.eq_of_getLsbD_eq
abbrev zGg:=@Nat.testBit_lt_two_pow
abbrev zGt:=@Nat.testBit_two_pow
end Go.Proofs.YtekkngkphejfcaaGreatDoor
namespace Go.Proofs.YtekkngkphejfcaaGreatDoor
def tb (x:Int) (i:Nat):Bool:=(BitVec.ofInt 64 x).getLsbD i
def Bs (x:Int):Prop:=-9223372036854775808<=x/\ x<=9223372036854775807
theorem Sr (x:Int):BitVec.ofInt 64 (IntKind.i64.wrap x)=BitVec.ofInt 64 x:=by
 apply BitVec.eq_of_toNat_eq;rw [zFd,zFd,IntKind.wrap_i64]
 congr 1
 omega
theorem WT (y:BitVec 64):BitVec.ofInt 64 (y.toNat:Int)=y:=by
 rw [zGF];simp
theorem fC (x:Int):Bs (IntKind.i64.wrap x):=by
 rw [IntKind.wrap_i64];constructor <;> omega
theorem Cy (op:BinOp) (a b:Int):Bs (bits op .i64 a b):=fC _
theorem LI (a b:Int) (i:Nat):tb (bits .or .i64 a b) i=(tb a i||tb b i):=by
 show (BitVec.ofInt 64 (IntKind.i64.wrap ((BitVec.ofInt 64 a||| BitVec.ofInt 64 b).toNat:Int))).getLsbD i=_
 rw [Sr,WT,BitVec.getLsbD_or];rfl
theorem EJ (a b:Int) (i:Nat):tb (bits .and .i64 a b) i=(tb a i&&tb b i):=by
 show (BitVec.ofInt 64 (IntKind.i64.wrap ((BitVec.ofInt 64 a&&& BitVec.ofInt 64 b).toNat:Int))).getLsbD i=_
 rw [Sr,WT,BitVec.getLsbD_and];rfl
theorem IM {x:Int} {i:Nat} (h:64<=i):tb x i=false:=BitVec.getLsbD_of_ge _ _ h
theorem GA (a b:Int) (i:Nat):tb (bits .andNot .i64 a b) i=(tb a i&&!tb b i):=by
 show (BitVec.ofInt 64 (IntKind.i64.wrap ((BitVec.ofInt 64 a&&& ~~~ BitVec.ofInt 64 b).toNat:Int))).getLsbD i=_
 rw [Sr,WT,BitVec.getLsbD_and,BitVec.getLsbD_not]
 by_cases h:i<64
 ·simp [h,tb]
 ·have h:64<=i:=by omega
  have:=IM (x:=a) h;unfold tb at*;rw [this];simp
theorem Uz (a:Int) {i:Nat} (h:i<64):tb (bits .xor .i64 (-1) a) i= !tb a i:=by
 show (BitVec.ofInt 64 (IntKind.i64.wrap ((BitVec.ofInt 64 (-1) ^^^ BitVec.ofInt 64 a).toNat:Int))).getLsbD i=_
 rw [Sr,WT,BitVec.getLsbD_xor];have:BitVec.ofInt 64 (-1)=BitVec.allOnes 64:=by decide
 rw [this,BitVec.getLsbD_allOnes];simp [h,tb]
theorem Y1 (i:Nat):tb 0 i=false:=by
 unfold tb;rw [show BitVec.ofInt 64 0=0#64 from rfl];simp
theorem IN {i:Nat}: ¬ tb 0 i=true:=by rw [Y1];decide
theorem Hi {x y:Int} (hx:Bs x) (hy:Bs y) (h: ∀ i,i<64 -> tb x i=tb y i):x=y:=by
 have e:BitVec.ofInt 64 x=BitVec.ofInt 64 y:=zGZ fun i hi=>h i hi
 have e2:=congrArg BitVec.toNat e;rw [zFd,zFd] at e2;unfold Bs at*;omega
theorem Hh (m i:Nat) (hi:i<64):tb (m:Int) i=m.testBit i:=by
 unfold tb;rw [zGF,BitVec.getLsbD_ofNat];simp [hi]
def Sm (k:Nat) (x:Int):Prop:=0<=x/\ x<2 ^ k
theorem Je {k:Nat} (hk:k<=62):(2:Int) ^ k<=4611686018427387904:=by
 have:(2:Nat) ^ k<=2 ^ 62:=zGH (by decide) hk;have h:((2 ^ k:Nat):Int)<=((2 ^ 62:Nat):Int):=by exact_mod_cast this
 simpa using h
theorem Sm.in64 {k:Nat} {x:Int} (hk:k<=62) (h:Sm k x):Bs x:=by
 have:=Je hk;obtain ⟨h1,h2⟩:=h;constructor <;> omega
theorem Sm.hi {k:Nat} {x:Int} (h:Sm k x) {i:Nat} (hi:k<=i):tb x i=false:=by
 rcases zFQ i 64 with HP | HP
 ·obtain ⟨m,rfl⟩:=zFf h.1;rw [Hh m i HP];apply zGg;have h2:(m:Int)<2 ^ k:=h.2;have h3:m<2 ^ k:=by exact_mod_cast h2
  exact zBY h3 (zGH (by decide) hi)
 ·exact IM HP
theorem ZE {k:Nat} (hk:k<=62) {x:Int} (hx:Bs x) (h: ∀ i,k<=i -> i<64 -> tb x i=false):Sm k x:=by
 have hy:(BitVec.ofInt 64 x).toNat<2 ^ k:=by
  apply Nat.lt_pow_two_of_testBit;intro i hi;rcases zFQ i 64 with HP | HP
  ·have:=h i hi HP;unfold tb at this
   rwa [BitVec.getLsbD] at this
  ·exact zGg (zBY (BitVec.isLt _) (zGH (by decide) HP))
 rw [zFd] at hy;have h1:=Je hk;have h2:((2 ^ k:Nat):Int)=(2:Int) ^ k:=by simp
 unfold Bs at hx;unfold Sm;omega
theorem Y4 {s i:Nat} (hi:i<64):tb ((2 ^ s:Nat):Int) i=decide (s=i):=by
 rw [Hh _ _ hi,zGt]
theorem KA {x:Int} (hx:Bs x):x=0↔∀ i,i<64 -> tb x i=false:=
 ⟨fun h i _=>by rw [h];exact Y1 i,fun h=>Hi hx ⟨by decide,by decide⟩ fun i hi=>by rw [h i hi,Y1]⟩
theorem Eg {x:Int} (hx:Bs x):x≠0↔∃ i,i<64/\ tb x i=true:=by
 rw [ne_eq,KA hx];constructor
 ·intro h;refine Classical.byContradiction fun h2=>h fun i hi=>?_
  cases hb:tb x i with
  | false=>rfl
  | true=>exact absurd ⟨i,hi,hb⟩ h2
 ·rintro ⟨i,hi,hb⟩ h;rw [h i hi] at hb;cases hb
end Go.Proofs.YtekkngkphejfcaaGreatDoor
namespace Go.Proofs.YtekkngkphejfcaaGreatDoor
open Go.RowKit
theorem Wb {S R:Type} (m:Nat -> S -> Int -> Option R) (len N0:Nat) (Inv:Nat -> S -> Prop)
 (h: ∀ (n i:Nat) (s:S),N0<=n -> i<len -> Inv i s -> ∃ s',m (n+1) s (i:Int)=m n s' ((i:Int)+1)/\ Inv (i+1) s'):
 ∀ (k i n:Nat) (s:S),i+k=len -> N0<=n -> Inv i s -> ∃ s',m (n+k) s (i:Int)=m n s' (len:Int)/\ Inv len s'
 | 0,i,n,s,e,_,hI=>by
  have:i=len:=by omega
  subst this;exact ⟨s,rfl,hI⟩
 | k+1,i,n,s,e,hn,hI=>by
  obtain ⟨s',h1,h2⟩:=h (n+k) i s (by omega) (by omega) hI;obtain ⟨s2,h3,h4⟩:=Wb m len N0 Inv h k (i+1) n s' (by omega) hn h2;refine ⟨s2,?_,h4⟩;rw [show n+(k+1)=n+k+1 by omega,h1,←h3];rfl
theorem HG {S R:Type} (m:Nat -> S -> Int -> Option R) (len N0:Nat) (Inv:Nat -> S -> Prop)
 (h: ∀ (n i:Nat) (s:S),N0<=n -> i<len -> Inv i s -> ∃ s',m (n+1) s (i:Int)=m n s' ((i:Int)+1)/\ Inv (i+1) s')
 {n:Nat} {s:S} (hn:N0+len<=n) (hI:Inv 0 s): ∃ n' s',N0<=n'/\ n'+len=n/\ m n s 0=m n' s' (len:Int)/\ Inv len s':=by
 obtain ⟨s',h1,h2⟩:=Wb m len N0 Inv h len 0 (n-len) s (by omega) (by omega) hI;rw [show n-len+len=n by omega] at h1;exact ⟨n-len,s',by omega,by omega,h1,h2⟩
structure Bq (c:AC) (k:Nat) (pos:List Int):Prop where
 cells: ∀ a,a<c.cells.length -> 0<=c.cells.getD a 0/\ c.cells.getD a 0<(pos.length:Int)
 len:c.cells.length<=256
 sm: ∀ i,i<pos.length -> Sm k (pos.getD i 0)
 k:k<=16
def AL (c:AC) (pos:List Int) (a:Nat):Int:=pos.getD (c.cells.getD a 0).toNat 0
def LL (x:Int):Bool:=bits .and .i64 x (x-1)==0
section
variable {c:AC} {k:Nat} {pos lost:List Int} {q:AA}
theorem Bq.at (W:Bq c k pos) {a:Nat} (ha:a<c.cells.length):Sm k (AL c pos a):=by
 have:=W.cells a ha;exact W.sm _ (by omega)
theorem Bq.r64 (W:Bq c k pos) {a:Nat} (ha:a<c.cells.length):AG (AL c pos a-1)/\ AG ((a:Int)+1):=by
 have h:=W.at ha;have h2:=Je (k:=k) (zBO W.k (by decide));have h3:=W.len;obtain ⟨h0,h1⟩:=h;exact ⟨Ae.2 ⟨by omega,by omega⟩,Ae.2 ⟨by omega,by omega⟩⟩
theorem Ki {n:Nat} {cell ss:Int} (h0:0<=cell) (h1:cell<(pos.length:Int)) (hl:lost.length=pos.length):
 ∃ l',DJ n cell ss c q pos pos.length lost=some l'/\ l'.length=pos.length/\ ∀ j s,tb (l'.getD j 0) s=(tb (lost.getD j 0) s||(decide (j=cell.toNat)&&(tb (pos.getD j 0) s&&tb ss s))):=by
 refine ⟨lost.set cell.toNat (bits .or .i64 (lost.getD cell.toNat 0) (bits .and .i64 (pos.getD cell.toNat 0) ss)),?_,by rw [zBo];exact hl,fun j s=>?_⟩
 ·unfold DJ am;simp only [zBj];rw [zAE ⟨⟨h0,h1⟩,by omega,h0,h1⟩]
 ·by_cases hj:j=cell.toNat
  ·subst hj;rw [u8,zFN (by omega),zFs,LI,EJ,zBC rfl,zCE]
  ·rw [u8,zFJ (fun e=>hj e.symm),←u8,zAA hj,zFI,zFb]
theorem aT {n:Nat} {cell:Int} (h0:0<=cell) (h1:cell<(pos.length:Int)) (hl:lost.length=pos.length):
 ∃ l',GJ n cell c q pos pos.length lost=some l'/\ l'.length=pos.length/\ ∀ j s,tb (l'.getD j 0) s=(tb (lost.getD j 0) s||(decide (j=cell.toNat)&&(tb (pos.getD j 0) s&&!tb c.set s))):=by
 refine ⟨lost.set cell.toNat (bits .or .i64 (lost.getD cell.toNat 0) (bits .andNot .i64 (pos.getD cell.toNat 0) c.set)),?_,by rw [zBo];exact hl,fun j s=>?_⟩
 ·unfold GJ aV;simp only [zBj];rw [zAE ⟨⟨h0,h1⟩,by omega,h0,h1⟩]
 ·by_cases hj:j=cell.toNat
  ·subst hj;rw [u8,zFN (by omega),zFs,LI,GA,zBC rfl,zCE]
  ·rw [u8,zFJ (fun e=>hj e.symm),←u8,zAA hj,zFI,zFb]
def Sg (c:AC) (pos:List Int) (a s:Nat):Prop:=LL (AL c pos a)=true/\ tb (AL c pos a) s=true
def B2 (c:AC) (pos lost:List Int) (i:Nat) (D:Nat -> Nat -> Prop) (l:List Int):Prop:=
 l.length=pos.length/\ ∀ j s,tb (l.getD j 0) s=true↔tb (lost.getD j 0) s=true∨∃ a,a<i/\ (c.cells.getD a 0).toNat=j/\ tb (AL c pos a) s=true/\ D a s
theorem B2.step {D:Nat -> Nat -> Prop} {i:Nat} {l l':List Int} (h:B2 c pos lost i D l) (hl:l'.length=pos.length)
 (h1: ∀ j s,tb (l'.getD j 0) s=true↔tb (l.getD j 0) s=true∨((c.cells.getD i 0).toNat=j/\ tb (AL c pos i) s=true/\ D i s)):B2 c pos lost (i+1) D l':=by
 refine ⟨hl,fun j s=>?_⟩;rw [h1,h.2];constructor
 ·rintro ((h | ⟨a,ha,h⟩) | h)
  ·exact .inl h
  ·exact .inr ⟨a,by omega,h⟩
  ·exact .inr ⟨i,by omega,h⟩
 ·rintro (h3 | ⟨a,ha,h3⟩)
  ·exact .inl (.inl h3)
  ·rcases zBH.1 ha with ha | rfl
   ·exact .inl (.inr ⟨a,ha,h3⟩)
   ·exact .inr h3
theorem B2.zero {D:Nat -> Nat -> Prop} (hl:lost.length=pos.length):B2 c pos lost 0 D lost:=
 ⟨hl,fun j s=>⟨.inl,fun h=>h.elim id fun ⟨a,ha,_⟩=>absurd ha (zBW a)⟩⟩
def MI (c:AC) (pos:List Int) (a s:Nat):Prop:=∃ b,b<c.cells.length/\ b≠a/\ Sg c pos b s
theorem zDN {n:Nat} (W:Bq c k pos) (hl:lost.length=pos.length) (hn:2*c.cells.length+2<=n):
 ∃ l,QT n c q pos pos.length lost=some (true,l)/\ B2 c pos lost c.cells.length (MI c pos) l:=by
 have lt: ∀ i,i<c.cells.length -> ((i:Nat):Int)<((c.cells.length:Nat):Int):=fun i hi=>by omega
 have S:=HG (fun n (s:Int×Int) i=>J1 c q pos pos.length lost n (.l1 s.1 s.2 i)) c.cells.length (c.cells.length+2)
  (fun i s=>(∀ j,tb s.1 j=true↔∃ a,a<i/\ Sg c pos a j)/\ (∀ j,tb s.2 j=true↔∃ a b,a<b/\ b<i/\ Sg c pos a j/\ Sg c pos b j))
  (fun n i s _ hi hI=>?_) (n:=n) (s:=(0,0)) (by omega) ?_
 ·obtain ⟨n1,⟨o,t⟩,H7,_,e1,ho,ht⟩:=S;obtain ⟨n2,rfl⟩: ∃ n2,n1=n2+1:=⟨n1-1,by omega⟩
  have T:=HG (fun n (s:List Int) i=>J1 c q pos pos.length lost n (.l2 o t i s)) c.cells.length 1
   (fun i s=>B2 c pos lost i (MI c pos) s) (fun n i s Fk hi hI=>?_) (n:=n2) (s:=lost) (by omega) (B2.zero hl)
  ·obtain ⟨n3,l,TR,_,e2,hL⟩:=T;obtain ⟨n4,rfl⟩: ∃ n4,n3=n4+1:=⟨n3-1,by omega⟩;refine ⟨l,?_,hL⟩;unfold QT oz;refine e1.trans ?_
   show T4 n2 (J1 c q pos pos.length lost n2) c q pos pos.length lost o t (c.cells.length:Int)=_
   unfold T4;rw [zAA (by omega),zAD];refine e2.trans ?_
   show T3 n4 (J1 c q pos pos.length lost n4) c q pos pos.length lost o t (c.cells.length:Int) l=_
   unfold T3;rw [zAA (by omega),zAD]
  ·have hc:=W.cells i hi;have hr:=W.r64 hi
   show ∃ s',T3 n (J1 c q pos pos.length lost n) c q pos pos.length lost o t (i:Int) s=_/\ _
   unfold T3;rw [zBC (lt i hi),zBA];simp only [zAB];rw [zAE ⟨⟨by omega,lt i hi⟩,hc,hr.1⟩];have sg:(bits .and .i64 (pos.getD (c.cells.getD i 0).toNat 0) (pos.getD (c.cells.getD i 0).toNat 0-1)==0)=LL (AL c pos i):=rfl;rw [sg];cases hs:LL (AL c pos i)
   ·rw [zAD];obtain ⟨l',h1,h2,h3⟩:=Ki (n:=n) (ss:=o) (c:=c) (q:=q) hc.1 hc.2 hI.1;rw [h1,zA9,zAE hr.2];refine ⟨l',rfl,hI.step h2 fun j x=>?_⟩;rw [h3,zBg,zBE,zBE,zBV,ho];constructor
    ·rintro (h | ⟨rfl,h4,b,hb,h5⟩)
     ·exact .inl h
     ·refine .inr ⟨rfl,h4,b,hb,?_,h5⟩;rintro rfl;rw [h5.1] at hs;cases hs
    ·rintro (h | ⟨rfl,h4,b,hb,_,h5⟩)
     ·exact .inl h
     ·exact .inr ⟨rfl,h4,b,hb,h5⟩
   ·rw [zBA];obtain ⟨l',h1,h2,h3⟩:=Ki (n:=n) (ss:=bits .or .i64 (bits .andNot .i64 o (pos.getD (c.cells.getD i 0).toNat 0)) t) (c:=c) (q:=q) hc.1 hc.2 hI.1;rw [h1,zA9,zAE hr.2];refine ⟨l',rfl,hI.step h2 fun j x=>?_⟩;rw [h3,zBg,zBE,zBE,zBV,LI,GA,zBg,zBE,ht];constructor
    ·rintro (h | ⟨rfl,h4,⟨_,h5⟩ | ⟨x1,y1,h6,h7,h8,h9⟩⟩)
     ·exact .inl h
     ·rw [h4] at h5;cases h5
     ·refine .inr ⟨rfl,h4,?_⟩
      by_cases e:x1=i
      ·exact ⟨y1,h7,by omega,h9⟩
      ·exact ⟨x1,by omega,e,h8⟩
    ·rintro (h | ⟨rfl,h4,b,hb,h5,h6⟩)
     ·exact .inl h
     ·refine .inr ⟨rfl,h4,.inr ?_⟩;rcases Nat.lt_or_gt_of_ne h5 with h5 | h5
      ·exact ⟨b,i,h5,hi,h6,hs,h4⟩
      ·exact ⟨i,b,h5,hb,⟨hs,h4⟩,h6⟩
 ·obtain ⟨o,t⟩:=s;obtain ⟨h1,h2⟩:=hI;simp only at h1 h2;have hc:=W.cells i hi;have hr:=W.r64 hi
  show ∃ s',T4 n (J1 c q pos pos.length lost n) c q pos pos.length lost o t (i:Int)=_/\ _
  unfold T4;rw [zBC (lt i hi),zBA];simp only [zAB];rw [zAE ⟨⟨by omega,lt i hi⟩,hc,hr.1⟩];have sg:(bits .and .i64 (pos.getD (c.cells.getD i 0).toNat 0) (pos.getD (c.cells.getD i 0).toNat 0-1)==0)=LL (AL c pos i):=rfl;rw [sg];cases hs:LL (AL c pos i)
  ·rw [zAD,zAE hr.2];refine ⟨(o,t),rfl,fun j=>?_,fun j=>?_⟩
   ·rw [h1];constructor
    ·rintro ⟨a,ha,h⟩;exact ⟨a,by omega,h⟩
    ·rintro ⟨a,ha,h⟩;rcases zBH.1 ha with ha | rfl
     ·exact ⟨a,ha,h⟩
     ·rw [h.1] at hs;cases hs
   ·rw [h2];constructor
    ·rintro ⟨a,b,F2,hb,h⟩;exact ⟨a,b,F2,by omega,h⟩
    ·rintro ⟨a,b,F2,hb,h⟩;rcases zBH.1 hb with hb | rfl
     ·exact ⟨a,b,F2,hb,h⟩
     ·rw [h.2.1] at hs;cases hs
  ·rw [zBA,zAE hr.2];refine ⟨(bits .or .i64 o (AL c pos i),bits .or .i64 t (bits .and .i64 o (AL c pos i))),rfl,fun j=>?_,fun j=>?_⟩
   ·rw [LI,zBg,h1];constructor
    ·rintro (⟨a,ha,h⟩ | h)
     ·exact ⟨a,by omega,h⟩
     ·exact ⟨i,by omega,hs,h⟩
    ·rintro ⟨a,ha,h⟩;rcases zBH.1 ha with ha | rfl
     ·exact .inl ⟨a,ha,h⟩
     ·exact .inr h.2
   ·rw [LI,EJ,zBg,zBE,h1,h2];constructor
    ·rintro (⟨a,b,F2,hb,h⟩ | ⟨⟨a,ha,h⟩,h3⟩)
     ·exact ⟨a,b,F2,by omega,h⟩
     ·exact ⟨a,i,ha,by omega,h,hs,h3⟩
    ·rintro ⟨a,b,F2,hb,h,h3⟩;rcases zBH.1 hb with hb | rfl
     ·exact .inl ⟨a,b,F2,hb,h,h3⟩
     ·exact .inr ⟨⟨a,F2,h⟩,h3.2⟩
 ·exact ⟨fun j=>⟨fun h=>absurd h IN,fun ⟨a,ha,_⟩=>absurd ha (zBW a)⟩,fun j=>⟨fun h=>absurd h IN,fun ⟨a,b,_,hb,_⟩=>absurd hb (zBW b)⟩⟩
end
end Go.Proofs.YtekkngkphejfcaaGreatDoor
namespace Go.Proofs
open Go.Shelf
def Tryz.lays189_ren:Go.Shelf.Ren:=⟨fun | 189=>133 | 125=>148 | 257=>147 | 128=>160 | 129=>161 | 294=>151 | 295=>152 | 296=>153 | 297=>154 | 298=>155 | 299=>156 | 216=>157 | 300=>158 | 301=>159 | 328=>162 | 329=>163 | 330=>164 | 331=>165 | 332=>166 | 215=>167 | 343=>168 | n=>n,fun | 28=>22 | 3=>3 | 46=>86 | 0=>0 | 51=>122 | 53=>124 | 4=>4 | 183=>167 | 182=>166 | 131=>170 | 5=>5 | 9=>9 | 218=>172 | 222=>176 | 228=>178 | 229=>101 | n=>n,fun | n=>n⟩
theorem Tryz.lays189:Go.Proofs.Lays.n189 Tryz.prog Tryz.lays189_ren:={
 mixed:=by kernel_rfl
 f125:=Tryz.func148.trans (congrArg some (by kernel_rfl))
 f128:=Tryz.func160.trans (congrArg some (by kernel_rfl))
 f129:=Tryz.func161.trans (congrArg some (by kernel_rfl))
 f189:=Tryz.func133.trans (congrArg some (by kernel_rfl))
 f215:=Tryz.func167.trans (congrArg some (by kernel_rfl))
 f216:=Tryz.func157.trans (congrArg some (by kernel_rfl))
 f257:=Tryz.func147.trans (congrArg some (by kernel_rfl))
 f294:=Tryz.func151.trans (congrArg some (by kernel_rfl))
 f295:=Tryz.func152.trans (congrArg some (by kernel_rfl))
 f296:=Tryz.func153.trans (congrArg some (by kernel_rfl))
 f297:=Tryz.func154.trans (congrArg some (by kernel_rfl))
 f298:=Tryz.func155.trans (congrArg some (by kernel_rfl))
 f299:=Tryz.func156.trans (congrArg some (by kernel_rfl))
 f300:=Tryz.func158.trans (congrArg some (by kernel_rfl))
 f301:=Tryz.func159.trans (congrArg some (by kernel_rfl))
 f328:=Tryz.func162.trans (congrArg some (by kernel_rfl))
 f329:=Tryz.func163.trans (congrArg some (by kernel_rfl))
 f330:=Tryz.func164.trans (congrArg some (by kernel_rfl))
 f331:=Tryz.func165.trans (congrArg some (by kernel_rfl))
 f332:=Tryz.func166.trans (congrArg some (by kernel_rfl))
 f343:=Tryz.func168.trans (congrArg some (by kernel_rfl))
 t0:=Tryz.underlying0
 a0:=Tryz.isAgg0
 z0:=Tryz.sizeOf0
 v0:=Tryz.zeroValue0
 t3:=Tryz.underlying3
 a3:=Tryz.isAgg3
 z3:=Tryz.sizeOf3
 v3:=Tryz.zeroValue3
 t4:=Tryz.underlying4
 a4:=Tryz.isAgg4
 z4:=Tryz.sizeOf4
 v4:=Tryz.zeroValue4
 t5:=Tryz.underlying5
 a5:=Tryz.isAgg5
 z5:=Tryz.sizeOf5
 v5:=Tryz.zeroValue5
 t9:=Tryz.underlying9
 a9:=Tryz.isAgg9
 z9:=Tryz.sizeOf9
 v9:=Tryz.zeroValue9
 t28:=Tryz.underlying22
 a28:=Tryz.isAgg22
 z28:=Tryz.sizeOf22
 v28:=Tryz.zeroValue22
 t46:=Tryz.underlying86
 a46:=Tryz.isAgg86
 z46:=Tryz.sizeOf86
 v46:=Tryz.zeroValue86
 t51:=Tryz.underlying122
 a51:=Tryz.isAgg122
 z51:=Tryz.sizeOf122
 v51:=Tryz.zeroValue122
 t53:=Tryz.underlying124
 a53:=Tryz.isAgg124
 z53:=Tryz.sizeOf124
 v53:=Tryz.zeroValue124
 t131:=Tryz.underlying170
 a131:=Tryz.isAgg170
 z131:=Tryz.sizeOf170
 v131:=Tryz.zeroValue170
 t182:=Tryz.underlying166
 a182:=Tryz.isAgg166
 z182:=Tryz.sizeOf166
 v182:=Tryz.zeroValue166
 t183:=Tryz.underlying167
 a183:=Tryz.isAgg167
 z183:=Tryz.sizeOf167
 v183:=Tryz.zeroValue167
 t218:=Tryz.underlying172
 a218:=Tryz.isAgg172
 z218:=Tryz.sizeOf172
 v218:=Tryz.zeroValue172
 t222:=Tryz.underlying176
 a222:=Tryz.isAgg176
 z222:=Tryz.sizeOf176
 v222:=Tryz.zeroValue176
 t228:=Tryz.underlying178
 a228:=Tryz.isAgg178
 z228:=Tryz.sizeOf178
 v228:=Tryz.zeroValue178
 t229:=Tryz.underlying101
 a229:=Tryz.isAgg101
 z229:=Tryz.sizeOf101
 v229:=Tryz.zeroValue101 }
open Go.Sort Go.RowKit in
theorem Tryz.slices_Sort_int (blk off cap:Nat) (zs:List Int) (w:World) (hH:Holds (Value.int .i64) w blk off zs.toArray) (ct:blk<w.heap.size) (A9:zs.length<4611686018427387904):
 Calls Tryz.prog 133 #[.slice (some ⟨blk,off,none⟩) zs.length cap] w fun e w'=>
  e= .returned (.tuple #[])/\ ∃ n os,w'=grow (putRow (Value.int .i64) (Sort.ahead w n) blk off (zs.mergeSort fun x y=>decide (x<=y)).toArray) os:=Any.slices_Sort_int Tryz.lays189 blk off cap zs w hH ct A9
end Go.Proofs
namespace Go.Proofs.YtekkngkphejfcaaGreatDoor
open Go.RowKit
def Pf (a:Int):List Int -> List Int
 | []=>[a]
 | b::l=>if a<=b then a::b::l else b::Pf a l
def G5:List Int -> List Int
 | []=>[]
 | a::l=>Pf a (G5 l)
theorem bO (a:Int): ∀ l:List Int,(Pf a l).Perm (a::l)
 | []=>zGf _
 | b::l=>by
  unfold Pf;split
  ·exact zGf _
  ·exact ((bO a l).cons b).trans (List.Perm.swap a b l)
theorem U8: ∀ l:List Int,(G5 l).Perm l
 | []=>zGf _
 | a::l=>(bO a _).trans ((U8 l).cons a)
theorem mO (a:Int): ∀ l:List Int,l.Pairwise (· <= ·) -> (Pf a l).Pairwise (· <= ·)
 | [],_=>List.pairwise_singleton _ _
 | b::l,h=>by
  have h':=List.pairwise_cons.1 h;unfold Pf;split
  ·rename_i F2;refine List.pairwise_cons.2 ⟨fun x hx=>?_,h⟩;rcases zCB.1 hx with rfl | hx
   ·exact F2
   ·exact Int.le_trans F2 (h'.1 x hx)
  ·rename_i F2;refine List.pairwise_cons.2 ⟨fun x hx=>?_,mO a l h'.2⟩;rcases zCB.1 ((bO a l).mem_iff.1 hx) with rfl | hx
   ·omega
   ·exact h'.1 x hx
theorem gu: ∀ l:List Int,(G5 l).Pairwise (· <= ·)
 | []=>List.Pairwise.nil
 | a::l=>mO a _ (gu l)
theorem rX (l:List Int):(l.mergeSort fun x y=>decide (x<=y))=G5 l:=by
 refine List.Perm.eq_of_pairwise (le:=(· <= ·)) (fun a b _ _ h1 h2=>Int.le_antisymm h1 h2) ?_ (gu l) ((List.mergeSort_perm l _).trans (U8 l).symm);have:=List.pairwise_mergeSort (le:=fun x y:Int=>decide (x<=y)) (fun a b c h1 h2=>by simp at h1 h2 ⊢;omega) (fun a b=>by simp;omega) l;exact this.imp fun h=>by simpa using h
theorem RB (l:List Int):(G5 l).length=l.length:=(U8 l).length_eq
theorem zBs {w:World} {b o:Nat} {l l':List Int} {cs:Array Value} {t:TypeId} {z:Nat×Nat} (h:w.heap[b]? =some (.cells cs t z)) (hl:l.length=l'.length) (n:Nat) (os:Array Obj):
 ∃ E9,(Sort.grow (Sort.putRow (Value.int .i64) (Sort.ahead w n) b o l'.toArray) os).heap[b]? =some (.cells E9 t z)/\ E9.size=cs.size/\ ∀ j,j<l.length -> o+j<cs.size -> E9[o+j]? =some (.int .i64 (l'.getD j 0)):=by
 have hb:b<w.heap.size:=(zBG.1 h).1;refine ⟨Sort.putCells (Value.int .i64) o l'.toArray cs,?_,by simp [Sort.putCells],fun j hj hs=>?_⟩
 ·simp only [Sort.grow,Sort.putRow,Sort.mapBlock,Sort.ahead];rw [zFh (by simpa using hb),zFv,zAE rfl,h];rfl
 ·simp only [Sort.putCells,Array.getElem?_mapIdx];rw [zE9 hs];simp only [zCL];rw [zAE ⟨by omega,by simp;omega⟩];have:o+j-o=j:=by omega
  rw [this];have BI:j<l'.length:=by omega
  simp [BI,u8]
theorem qd {w:World} {b o:Nat} (hb:b<w.heap.size) (d:Array Int) (n:Nat) (os:Array Obj):AV (fun k=>k=b) w (Sort.grow (Sort.putRow (Value.int .i64) (Sort.ahead w n) b o d) os):=by
 refine ⟨rfl,rfl,rfl,by simp [Sort.ahead],fun k hk AY=>?_⟩;simp only [Sort.grow,Sort.putRow,Sort.mapBlock,Sort.ahead];rw [zFh (by simpa using hk),zFv,zBP (fun e=>AY e.symm)]
theorem rW (l:List Int) {n:Nat} (hn:n=l.length) (zBQ:l.length<=A7):ES Tryz.prog GG 133 [.msl 0 1 0 n] [some (.ints l)] (.tup 0 fun j=>([]:List DV).getD j .any) [some (.ints (G5 l))] false:=by
 subst hn;refine ⟨⟨_,Tryz.func133,by decide,rfl⟩,fun N ρ w args HR CU=>?_⟩;obtain ⟨p,hp,C8⟩:=HR.obj 0 _ rfl;have C8:Ag w p l.length fun j u=>u= .int .i64 (l.getD j 0):=C8
 have h0:=CU.2 0 (by simp);obtain ⟨p',cap,BE,hv,L5,XL,XC⟩:=h0;have ep:p'=p:=zBK (BE.symm.trans hp);subst ep;have A9:args.size=1:=by have:=CU.1;simpa using this.symm
 have ha:args= #[.slice (some ⟨p'.blk,p'.off,none⟩) l.length cap]:=by
  apply Array.ext
  ·simp [A9]
  ·intro i h1 h2;have:i=0:=by omega
   subst this;have e:args.getD 0 undef=args[0]:=by simp [Array.getD,A9]
   rw [e] at hv;rw [hv];simp
 have hH:Sort.Holds (Value.int .i64) w p'.blk p'.off l.toArray:=fun j hj=>by
  have hj:j<l.length:=by simpa using hj
  obtain ⟨u,c1,c2⟩:=C8.cell hj;refine ⟨by rw [c1,c2];simp [hj,u8],C8.frozen _⟩
 obtain ⟨D7,cs,t,D8,Cu,Lv,_⟩:=C8;have hb:p'.blk<w.heap.size:=(zBG.1 D8).1;subst ha;refine (Tryz.slices_Sort_int p'.blk p'.off cap l w hH hb (by unfold A7 at zBQ;omega)).mono ?_;rintro e w' ⟨rfl,m,os,rfl⟩;rw [rX];obtain ⟨E9,k1,k2,k3⟩:=zBs (o:=p'.off) D8 (RB l).symm m os;have hu:AV p'.foot w (Sort.grow (Sort.putRow (Value.int .i64) (Sort.ahead w m) p'.blk p'.off (G5 l).toArray) os):=by rw [D7];exact qd (o:=p'.off) hb (G5 l).toArray m os
 show ∃ v,Ending.returned (.tuple #[])=Ending.returned v/\ DY Tryz.prog GG N _ ρ w false _ _ v (Sort.grow (Sort.putRow (Value.int .i64) (Sort.ahead w m) p'.blk p'.off (G5 l).toArray) os)
 refine ⟨_,rfl,⟨⟨ρ,HR.write (o':=.ints (G5 l)) rfl hp hu (fun b hb=>?_) ?_,⟨#[],rfl,rfl,fun j hj=>absurd hj (zBW j)⟩,BL.write rfl hp hu,fun _ _ h=>h⟩,fun h=>by cases h⟩⟩
 ·rw [D7] at hb;exact .cells (c:=E9) (t:=t) (z:=(0,0)) (by rw [show b=p'.blk from hb];exact k1)
 ·refine ⟨D7,E9,t,k1,by rw [k2,RB];exact Cu,by rw [k2];exact Lv,fun j hj=>?_⟩;rw [RB] at hj;exact ⟨_,k3 j hj (by omega),rfl⟩
end Go.Proofs.YtekkngkphejfcaaGreatDoor
namespace Go.Proofs.YtekkngkphejfcaaGreatDoor
open Go.RowKit
set_option maxRecDepth 100000
set_option maxHeartbeats 40000000
inductive K1 where
 | s0
 | s1 (Ka:Nat) (Ht:List Int)
def pp:K1 -> DH
 | .s0=>[none,some (.cells [.nils])]
 | .s1 Ka Ht=>[none,some (.cells [.msl 2 1 0 Ka]),some (.ints Ht)]
def YS (n:Nat) (e6:Int):Option K1:=
 if (0=0/\ 1=([e6]:List Int).length)/\ 0<([e6]:List Int).length/\ ([e6]:List Int).length<=A7 then
  some (.s1 (([e6]:List Int).length) ([e6]:List Int))
 else none
def YR (n:Nat) (e6:Int) (Ka:Nat) (Ht:List Int):Option K1:=
 if (0=0/\ 1=([e6]:List Int).length)/\ (0=0/\ Ka=Ht.length)/\ Ht.length+([e6]:List Int).length<=A7 then
  some (.s1 (Ht.length+([e6]:List Int).length) (Ht++([e6]:List Int)))
 else none
def eD (n:Nat) (e6:Int):K1 -> Option K1
 | .s0=>YS n e6
 | .s1 Ka Ht=>YR n e6 Ka Ht
def JF (n:Nat) (e6:Int) (s:K1):Option K1:=eD n e6 s
theorem zEX (n:Nat) (l B:Nat) (N:Yd 2) (e6:Int) (s:K1) (r:K1) (h:JF n e6 s=some r):TA l B N (DX 2 [] 0 (pp r)) Tryz.f146 6 ⟨AM 13 [(2,.ref 1 0),(6,.it 0),(7,.i e6)],pp s⟩:=by
 cases s with
 | s0=>
  replace h:YS n e6=some r:=h;unfold YS at h;refine ag AE [0,1] H0 (AM 13 [(2,.ref 1 0),(5,.i e6)]) [none,some (.cells [.nils])] fun N=>?_
  revert r;apply gO;exact gi (jt (lF fun p=>rr AE [0,1,3] rfl p))
 | s1 Ka Ht=>
  replace h:YR n e6 Ka Ht=some r:=h;unfold YR at h;refine ag AE [0,1,2] H0 (AM 13 [(2,.ref 1 0),(5,.i e6)]) [none,some (.cells [.msl 2 1 0 Ka]),some (.ints Ht)] fun N=>?_
  revert r;apply gO;exact gi (jt (lF fun p=>rr AE [0,1,4] rfl p))
def eB (n:Nat) (l:List Int):Option ((List Int)):=
 (CC (JF n) l (.s0)).bind fun y1=>
  match y1 with
  | .s0=>
   none
  | .s1 Yh Yg=>
   if Yh=Yg.length then
    some Yg
   else none
def UY (n:Nat) (l:List Int):Option ((List Int)):=eB n l
theorem zEW {n:Nat} {l:List Int} {r:(List Int)} (h:UY n l=some r):EQ 146 [.nils,.it 0] [some (.iter ((l).map B7))] (.msl 1 1 0 r.length) [none,some (.ints r)] false:=by
 unfold UY eB at h;refine ot Tryz.func146 fun B N=>?_
 revert r;apply gO
 exact cn fun y1 A1=>fun p r h=>by
  refine gs AE [0,1] p (HU (AW Tryz.f146) 6 []) (AM 13 [(2,.ref 1 0),(6,.it 0)]) [some (.iter ((l).map B7)),some (.cells [.nils])] ?_;refine r0 0 6 #[7] B7 2 A1 (zEX n) ?_;cases y1 with
  | s0=>
   dsimp only at h
   revert r;apply gO;exact nO
  | s1 Yh Yg=>
   dsimp only at h
   revert r;apply gO;exact gn fun g0=>lF fun p=>el AE [4] [0,2] p [] H0 [.msl 1 1 0 Yh] (AS.mslN g0)
def di (n:Nat) (l:List Int):Option ((List Int)):=
 (UY n l).bind fun y1=>
  some y1
def YE (n:Nat) (l:List Int):Option ((List Int)):=di n l
theorem zDu {n:Nat} {l:List Int} {r:(List Int)} (h:YE n l=some r):EQ 132 [.it 0] [some (.iter ((l).map B7))] (.msl 1 1 0 r.length) [none,some (.ints r)] false:=by
 unfold YE di at h;refine ot Tryz.func132 fun B N=>?_
 revert r;apply gO;exact ce zEW [0] [some (.iter ((l).map B7))] fun y1=>lF fun p=>el AE [2] [0,1] p [] H0 [.msl 1 1 0 y1.length] (AS.mslN rfl)
def ZD (n:Nat) (l:List Int):Option ((List Int)):=
 (YE n l).bind fun y1=>
  if y1.length<=A7 then
   if y1.length=(G5 y1).length then
    some (G5 y1)
   else none
  else none
def Mo (n:Nat) (l:List Int):Option ((List Int)):=ZD n l
theorem rU {n:Nat} {l:List Int} {r:(List Int)} (h:Mo n l=some r):EQ 126 [.it 0] [some (.iter ((l).map B7))] (.msl 1 1 0 r.length) [none,some (.ints r)] false:=by
 unfold Mo ZD at h;refine ot Tryz.func126 fun B N=>?_
 revert r;apply gO;exact ce zDu [0] [some (.iter ((l).map B7))] fun y1=>gn fun g0=>jc (em (rW y1 (n:=y1.length) (Eq.refl y1.length) g0) [1] [none,some (.ints y1)]) (gn fun g1=>lF fun p=>el AE [2] [0,1] p [] H0 [.msl 1 1 0 y1.length] (AS.mslN g1))
def pD (n:Nat) (g_:List (List Int)) (AI:List Bool) (start:Int):Option ((List Int)×Int):=
 (L7 n g_ ([AI]:List (List Bool))).bind fun y1=>
  bif (y1 != 0) then
   some (([]:List Int),y1)
  else
   bif (decide (start<0)) then
    some (([]:List Int),1)
   else
    bif (decide (start>=(g_.length:Int))) then
     some (([]:List Int),1)
    else
     if 0<=start/\ start<(AI.length:Int) then
      bif (!(AI.getD ((start).toNat) false)) then
       some (([]:List Int),1)
      else
       (GC n g_ start AI).bind fun y2=>
        (Mo n y2).bind fun y3=>
         some (y3,0)
     else none
def QW (n:Nat) (g_:List (List Int)) (AI:List Bool) (start:Int):Option ((List Int)×Int):=pD n g_ AI start
theorem zDs {n:Nat} {g_:List (List Int)} {AI:List Bool} {start:Int} {r:(List Int)×Int} (h:QW n g_ AI start=some r):EQ 110 [.sl 1 g_.length (Aw A8 g_),.bools AI,.i start] [] (.tup 2 (L1 [.ints r.1,.i r.2])) [] true:=by
 refine ot Tryz.func110 fun B N=>?_
 revert r;apply gO;exact ja 10 0 1 (ZW (c:=YM) (L:=([AI]:List (List Bool))) (vals:=[.bools AI]) rfl ⟨⟨_,rfl,⟨BQ,trivial⟩⟩,trivial⟩) (jz 10 0 (jg (Eq.refl 1) (cf nt [none] fun y1=>bi 13 (lF fun p=>el AE [6,7] [] p [] H0 [.nils,.i y1] (AS.tupL (l:=[.nils,.i y1]) (l':=[.ints ([]:List Int),.i y1]) rfl ⟨AS.ints_nil,BQ,trivial⟩)) (bi 16 (lF fun p=>el AE [6,7] [] p [] H0 [.nils,.i 1] (AS.tupL (l:=[.nils,.i 1]) (l':=[.ints ([]:List Int),.i 1]) rfl ⟨AS.ints_nil,BQ,trivial⟩)) (bi 21 (lF fun p=>el AE [6,7] [] p [] H0 [.nils,.i 1] (AS.tupL (l:=[.nils,.i 1]) (l':=[.ints ([]:List Int),.i 1]) rfl ⟨AS.ints_nil,BQ,trivial⟩)) (gi (bi 28 (lF fun p=>el AE [6,7] [] p [] H0 [.nils,.i 1] (AS.tupL (l:=[.nils,.i 1]) (l':=[.ints ([]:List Int),.i 1]) rfl ⟨AS.ints_nil,BQ,trivial⟩)) (cn fun y2 CF=>jc (Zf CF [none]) (ce rU [1] [none,some (.iter ((y2).map B7))] fun y3=>lF fun p=>ez AE [6,7] [2] p [0] (H0.g (Eq.refl y3.length)))))))))))
def gI:ST:=.rd 0 (.rd 1 (.ef 2 (.ef 3 (.fin [] [4,5]) (.no)) (.no)))
theorem si:CN (Ax Tryz.f113 11) [2] gI:=by unfold CN;kernel_rfl
def LM:BJ:=fun i=>match i with
 | 11=>.tre [2] gI
 | _=>.no
def zAv (g_:List (List Int)) (CM:Int) (y1 o1:List Int):DH:=[some (.cells [.msl 3 1 0 g_.length]),some (.cells [.i (CM+1)]),some (.iter ((y1).map B7)),some (.ints o1)]
def fm (g_:List (List Int)) (o1:List Int) (CM:Int):St:=⟨(AM 42 [(4,.ref 0 0),(5,.ref 2 0)]),([some (.cells [.msl 1 1 0 g_.length]),some (.ints o1),some (.cells [.i CM])]:DH)⟩
inductive Lj where
 | s0 (Jb:List Int)
def kM (g_:List (List Int)) (AI:List Bool) (x13 CM:Int):Lj -> DH
 | .s0 Jb=>[some (.cells [.msl 3 1 0 g_.length]),some (.cells [.i (CM+1)]),none,some (.ints Jb)]
def WD (n:Nat) (g_:List (List Int)) (AI:List Bool) (x13 CM HT:Int) (Jb:List Int):Option Lj:=
 if (0<=HT/\ HT<(g_.length:Int))/\ 0+((HT).toNat)<Jb.length then
  some (.s0 (Jb.set (0+((HT).toNat)) (CM+1)))
 else none
def kL (n:Nat) (g_:List (List Int)) (AI:List Bool) (x13 CM HT:Int):Lj -> Option Lj
 | .s0 Jb=>WD n g_ AI x13 CM HT Jb
def NJ (n:Nat) (g_:List (List Int)) (AI:List Bool) (x13 CM HT:Int) (s:Lj):Option Lj:=kL n g_ AI x13 CM HT s
theorem wo (n:Nat) (g_:List (List Int)) (AI:List Bool) (x13 CM:Int) (l B:Nat) (N:Yd 3) (HT:Int) (s:Lj) (r:Lj) (h:NJ n g_ AI x13 CM HT s=some r):TA l B N (DX 3 [] 0 (kM g_ AI x13 CM r)) Tryz.f113 33 ⟨AM 42 [(0,.sl 1 g_.length (Aw A8 g_)),(1,.bools AI),(4,.ref 0 0),(5,.ref 1 0),(12,.i (g_.length:Int)),(13,.i x13),(33,.it 2),(34,.i HT)],kM g_ AI x13 CM s⟩:=by
 cases s with
 | s0 Jb=>
  replace h:WD n g_ AI x13 CM HT Jb=some r:=h;unfold WD at h;refine ag LM [0,1,2,3] H0 (AM 42 [(4,.ref 0 0),(5,.ref 1 0),(7,.i HT)]) [some (.cells [.msl 3 1 0 g_.length]),some (.cells [.i (CM+1)]),none,some (.ints Jb)] fun N=>?_
  revert r;apply gO;exact gc (gi (gi (lF fun p=>rr LM [0,1,2,3] rfl p)))
inductive WE where
 | l1 (x13:Int) (o1:List Int) (CM:Int)
def Si (n:Nat) (self:WE -> Option ((List Int)×Int)) (g_:List (List Int)) (AI:List Bool) (x13:Int) (o1:List Int) (CM:Int):Option ((List Int)×Int):=
 bif (decide (x13<(g_.length:Int))) then
  if 0<=x13/\ x13<(AI.length:Int) then
   bif (!(AI.getD ((x13).toNat) false)) then
    if AG (x13+1) then
     self (.l1 (x13+1) o1 CM)
    else none
   else
    if (0<=x13/\ x13<(g_.length:Int))/\ 0+((x13).toNat)<o1.length then
     bif (decide ((o1.getD (0+((x13).toNat)) 0)>0)) then
      if AG (x13+1) then
       self (.l1 (x13+1) o1 CM)
      else none
     else
      if AG (CM+1) then
       (GC n g_ x13 AI).bind fun y1=>
        (CC (NJ n g_ AI x13 CM) y1 (.s0 o1)).bind fun y2=>
         match y2 with
         | .s0 LA=>
          if AG (x13+1) then
           self (.l1 (x13+1) LA (CM+1))
          else none
      else none
    else none
  else none
 else
  if g_.length=o1.length then
   some (o1,CM)
  else none
def kK (n:Nat) (self:WE -> Option ((List Int)×Int)) (g_:List (List Int)) (AI:List Bool):Option ((List Int)×Int):=
 if ((g_.length:Int):Int)=(g_.length:Int)/\ 0<=(g_.length:Int)/\ ((g_.length:Int):Int)<=1000000000000 then
  self (.l1 0 (List.replicate g_.length (0:Int)) 0)
 else none
def PI (g_:List (List Int)) (AI:List Bool):Nat -> WE -> Option ((List Int)×Int)
 | 0,_=>none
 | n+1,.l1 x13 o1 CM=>Si n (PI g_ AI n) g_ AI x13 o1 CM
def parts (n:Nat) (g_:List (List Int)) (AI:List Bool):Option ((List Int)×Int):=kK n (PI g_ AI n) g_ AI
def wq (n B:Nat) (N:Yd 0) (g_:List (List Int)) (AI:List Bool) (r:(List Int)×Int):WE -> Prop
 | .l1 x13 o1 CM=>∀ m0:Nat,n<=m0 -> TW B N (FQ Tryz.f113 0 (.tup 2 (L1 [.ints r.1,.i r.2])) []) (Ah m0 (Ap (AW Tryz.f113) 0 [])) ⟨AM 42 [(0,.sl 1 g_.length (Aw A8 g_)),(1,.bools AI),(4,.ref 0 0),(5,.ref 2 0),(12,.i (g_.length:Int)),(13,.i x13)],[some (.cells [.msl 1 1 0 g_.length]),some (.ints o1),some (.cells [.i CM])]⟩
theorem wv (B:Nat) (N:Yd 0) (g_:List (List Int)) (AI:List Bool):Al (PI g_ AI) (wq · B N g_ AI):=ia (fun _=>rfl) fun n AF pt r h=>by
 cases pt
 case l1 x13 o1 CM=>
  intro m0 AB;refine rd AB fun m0 AB=>?_
  revert r;apply gO
  exact bi 14 (gi (bi 20 (gw 39 (lG LM [0,1,2] (AF _ _ · m0 AB))) (gc (gi (gi (bi 26 (gw 39 (lG LM [0,1,2] (AF _ _ · m0 AB))) (gw 29 (jt (cn fun y1 A1=>jc (Zf A1 [some (.cells [.msl 1 1 0 g_.length]),some (.ints o1),some (.cells [.i (CM+1)])]) (cn fun y2 CF=>fun p r h=>by
   refine gs LM [0,2,3,1] p (HU (AW Tryz.f113) 33 [m0]) (AM 42 [(0,.sl 1 g_.length (Aw A8 g_)),(1,.bools AI),(4,.ref 0 0),(5,.ref 1 0),(12,.i (g_.length:Int)),(13,.i x13),(33,.it 2)]) (zAv g_ CM y1 o1) ?_;refine r0 2 33 #[34] B7 3 CF (wo n g_ AI x13 CM) ?_;cases y2 with
   | s0 LA=>
    dsimp only at h
    revert r;apply gO;exact gw 39 (lG LM [0,3,1] (AF _ _ · m0 AB)))))))))))) (jg si (jt (jt (jg (Eq.refl (fm g_ o1 CM)) (gn fun g0=>lF fun p=>ez (tg:=[([(2,0)],(fm g_ o1 CM))]) LM [4,5] [0,1,2] p [1] (H0.g g0))))))
theorem wm {n:Nat} {g_:List (List Int)} {AI:List Bool} {r:(List Int)×Int} (h:parts n g_ AI=some r):EQ 113 [.sl 1 g_.length (Aw A8 g_),.bools AI] [] (.tup 2 (L1 [.ints r.1,.i r.2])) [] true:=by
 refine ot Tryz.func113 fun B N=>?_
 revert r;apply gO;exact gi (jt (lN LM [0,2,1] ((wv B N g_ AI n) _ _ · n Nat.le.refl)))
end Go.Proofs.YtekkngkphejfcaaGreatDoor
namespace Go.Proofs.YtekkngkphejfcaaGreatDoor
open Go.RowKit
set_option maxRecDepth 100000
set_option maxHeartbeats 40000000
def Yk (n:Nat) (n_:Int) (inn:List Bool):Option ((List Bool)):=
 (OP n inn).bind fun y1=>
  if (0<=n_/\ n_<(y1.length:Int))/\ 0+((n_).toNat)<y1.length then
   if y1.length=(y1.set (0+((n_).toNat)) false).length then
    some (y1.set (0+((n_).toNat)) false)
   else none
  else none
def Qp (n:Nat) (n_:Int) (inn:List Bool):Option ((List Bool)):=Yk n n_ inn
theorem qW {n:Nat} {n_:Int} {inn:List Bool} {r:(List Bool)} (h:Qp n n_ inn=some r):EQ 112 [.i n_,.fp 1 (L1 [.bools inn])] [] (.msl 0 1 0 r.length) [some (.bools r)] true:=by
 unfold Qp Yk at h;refine ot Tryz.func112 fun B N=>?_
 revert r;apply gO;exact cn fun y1 A1=>jc (ES.snapNew (ds:=[.bools inn]) (pI A1) [] (eK (by kernel_rfl)) rfl) (gc (gi (gi (gn fun g2=>lF fun p=>el AE [3] [0] p [] H0 [.msl 0 1 0 y1.length] (AS.mslN g2)))))
theorem r9:Af (Ax Tryz.f92 16) [] (List.range 7) []:=by unfold Af;kernel_rfl
def G6:BJ:=fun i=>match i with
 | 16=>.ord [] (List.range 7) []
 | _=>.no
def mm (AI BD:List Bool) (at_:Int):DH:=[some (.cells [.bools AI]),some (.cells [.bools BD]),some (.cells [.i at_]),some (.cells [.bool false]),none]
def zAM (AI BD:List Bool) (at_:Int):DH:=[some (.cells [.bools AI]),some (.cells [.bools BD]),some (.cells [.i at_]),some (.cells [.bool false]),none,none]
def zAL (AI BD:List Bool) (at_:Int) (y3:(List Int)×Int):DH:=[some (.cells [.bools AI]),some (.cells [.bools BD]),some (.cells [.i at_]),some (.cells [.bool false]),none,none,some (.cells [.ints y3.1]),some (.cells [.i 0])]
def zAK (BD:List Bool) (at_:Int) (y3:(List Int)×Int) (y4:List Int):DH:=[some (.cells [.bools BD]),some (.cells [.i at_]),some (.cells [.bool false]),some (.cells [.ints y3.1]),some (.cells [.i 0]),some (.iter ((y4).map B7))]
def zAJ (BD:List Bool) (at_:Int) (HA:Bool) (y3:(List Int)×Int) (GH:Int):DH:=[some (.cells [.bools BD]),some (.cells [.i at_]),some (.cells [.bool HA]),some (.cells [.ints y3.1]),some (.cells [.i GH]),none]
inductive LJ where
 | s0 (HA:Bool) (GH:Int)
def gm (BD:List Bool) (at_:Int) (y3:(List Int)×Int):LJ -> DH
 | .s0 HA GH=>[some (.cells [.bools BD]),some (.cells [.i at_]),some (.cells [.bool HA]),some (.cells [.ints y3.1]),some (.cells [.i GH]),none]
def RA (n:Nat) (BD:List Bool) (at_:Int) (y3:(List Int)×Int) (FS:Int) (HA:Bool) (GH:Int):Option (LJ×Nat):=
 bif (FS==at_) then
  some (.s0 HA GH,0)
 else
  if 0<=FS/\ FS<(BD.length:Int) then
   bif (!(BD.getD ((FS).toNat) false)) then
    some (.s0 HA GH,0)
   else
    bif (GH==0) then
     if 0<=FS/\ FS<(y3.1.length:Int) then
      some (.s0 HA (y3.1.getD ((FS).toNat) 0),0)
     else none
    else
     if 0<=FS/\ FS<(y3.1.length:Int) then
      bif ((y3.1.getD ((FS).toNat) 0) != GH) then
       some (.s0 true GH,1)
      else
       some (.s0 HA GH,0)
     else none
  else none
def rT (n:Nat) (BD:List Bool) (at_:Int) (y3:(List Int)×Int) (FS:Int):LJ -> Option (LJ×Nat)
 | .s0 HA GH=>RA n BD at_ y3 FS HA GH
def Hj (n:Nat) (BD:List Bool) (at_:Int) (y3:(List Int)×Int) (FS:Int) (s:LJ):Option (LJ×Nat):=rT n BD at_ y3 FS s
theorem rS (n:Nat) (BD:List Bool) (at_:Int) (y3:(List Int)×Int) (l B:Nat) (N:Yd 6) (FS:Int) (s:LJ) (r:LJ×Nat) (h:Hj n BD at_ y3 FS s=some r):TA l B N (DX 6 [.exit 0] r.2 (gm BD at_ y3 r.1)) Tryz.f92 48 ⟨AM 76 [(6,.ref 0 0),(7,.ref 1 0),(8,.ref 2 0),(11,.ref 3 0),(13,.ref 4 0),(48,.it 5),(49,.i FS)],gm BD at_ y3 s⟩:=by
 cases s with
 | s0 HA GH=>
  refine ag G6 [0,1,2,3,4,5] H0 (AM 76 [(6,.ref 0 0),(7,.ref 1 0),(8,.ref 2 0),(11,.ref 3 0),(13,.ref 4 0),(14,.i FS)]) (zAJ BD at_ HA y3 GH) fun N=>?_
  revert r;apply gO;exact bi 53 (lF fun p=>rr G6 [0,1,2,3,4,5] rfl p) (gi (bi 59 (lF fun p=>rr G6 [0,1,2,3,4,5] rfl p) (bi 63 (gi (jt (lF fun p=>rr G6 [0,1,2,3,4,5] rfl p))) (jg r9 (gi (bi 74 (jt (lF fun p=>rr G6 [0,1,2,3,4,5] rfl p)) (lF fun p=>rr G6 [0,1,2,3,4,5] rfl p)))))))
def gj (n:Nat) (g_:List (List Int)) (AI BD:List Bool) (at_:Int):Option (Bool×Int):=
 (L7 n g_ ([AI,BD]:List (List Bool))).bind fun y1=>
  bif (y1 != 0) then
   some (false,y1)
  else
   bif (decide (at_<0)) then
    some (false,1)
   else
    bif (decide (at_>=(g_.length:Int))) then
     some (false,1)
    else
     if 0<=at_/\ at_<(AI.length:Int) then
      bif (!(AI.getD ((at_).toNat) false)) then
       some (false,0)
      else
       (Qp n at_ AI).bind fun y2=>
        (parts n g_ y2).bind fun y3=>
         (GC n g_ at_ AI).bind fun y4=>
          (Es (Hj n BD at_ y3) y4 (.s0 false 0)).bind fun y5=>
           bif y5.2==0 then
            match y5.1 with
            | .s0 Qn Yf=>
             some (Qn,0)
           else
            bif y5.2==1 then
             match y5.1 with
             | .s0 Qn Yf=>
              some (Qn,0)
            else
             none
     else none
def Mm (n:Nat) (g_:List (List Int)) (AI BD:List Bool) (at_:Int):Option (Bool×Int):=gj n g_ AI BD at_
theorem rQ {n:Nat} {g_:List (List Int)} {AI BD:List Bool} {at_:Int} {r:Bool×Int} (h:Mm n g_ AI BD at_=some r):EQ 92 [.sl 1 g_.length (Aw A8 g_),.bools AI,.bools BD,.i at_] [] (.tup 2 (L1 [.bool r.1,.i r.2])) [] true:=by
 refine ot Tryz.func92 fun B N=>?_
 revert r;apply gO
 exact ja 18 4 1 (ZW (c:=YM) (L:=([AI,BD]:List (List Bool))) (vals:=[.bools AI,.bools BD]) rfl ⟨⟨_,rfl,⟨BQ,trivial⟩⟩,⟨_,rfl,⟨BQ,trivial⟩⟩,trivial⟩) (jz 18 4 (jg (Eq.refl 2) (cf nt (mm AI BD at_) fun _=>bi 21 (jt (lE G6 [8,9] [3])) (bi 24 (jt (lE G6 [8,9] [3])) (bi 29 (jt (lE G6 [8,9] [3])) (gi (bi 35 (jt (lE G6 [8,9] [3])) (cn fun y2 CF=>jc (ES.snapNew (ds:=[.i at_,.ref 0 0]) (qW CF) (mm AI BD at_) ⟨Ar.plain (by kernel_rfl),(Ar.refL (l:=[.bools AI]) (l0:=[.bools AI]) rfl ⟨Ar.plain (by kernel_rfl),trivial⟩),trivial⟩ rfl) (jz 41 5 (jg (Eq.refl y2.length) (cf wm (zAM AI BD at_) fun y3=>jt (jt (cn fun y4 TG=>jc (Zf TG (zAL AI BD at_ y3)) (cn fun y5 TF=>fun p r h=>by
  refine gs G6 [1,2,3,6,7,8] p (HU (AW Tryz.f92) 48 []) (AM 76 [(6,.ref 0 0),(7,.ref 1 0),(8,.ref 2 0),(11,.ref 3 0),(13,.ref 4 0),(48,.it 5)]) (zAK BD at_ y3 y4) ?_;refine rx [.exit 0] 5 48 #[49] B7 6 TF (rS n BD at_ y3) fun e he=>?_
  replace h:=Kz h;rcases h with ⟨Qm,h⟩ | ⟨Qm,h⟩
  ·rw [eq_of_beq Qm] at he;cases he;revert h;cases y5.1 with
   | s0 Qn Yf=>
    intro h
    dsimp only at h
    revert r;apply gO;exact jt (lE G6 [8,9] [2])
  ·replace h:=Kz h;rcases h with ⟨Qm,h⟩ | ⟨Qm,h⟩
   ·rw [eq_of_beq Qm] at he;cases he;refine Dm.exitTo (by kernel_rfl) ?_;revert h;cases y5.1 with
    | s0 Qn Yf=>
     intro h
     dsimp only at h
     revert r;apply gO;exact jt (lE G6 [8,9] [2])
   ·cases h))))))))))))))
end Go.Proofs.YtekkngkphejfcaaGreatDoor
namespace Go.Proofs.YtekkngkphejfcaaGreatDoor
abbrev zGk:=@List.singleton_append
end Go.Proofs.YtekkngkphejfcaaGreatDoor
namespace Go.Proofs.YtekkngkphejfcaaGreatDoor
open Go.RowKit
theorem AU.bindU {R T:Type} {a:Nat -> Option T} {b:Nat -> T -> Option R} {A:T -> Prop} {Q:R -> Prop} (ha:AU a A) (hb: ∃ M,∀ n,M<=n -> ∀ x,A x -> ∃ r,b n x=some r/\ Q r):AU (fun n=>(a n).bind (b n)) Q:=by
 obtain ⟨N,ha⟩:=ha;obtain ⟨M,hb⟩:=hb;refine ⟨max N M,fun n hn=>?_⟩;obtain ⟨x,h1,h2⟩:=ha n (by omega);obtain ⟨r,h3,h4⟩:=hb n (by omega) x h2;exact ⟨r,by show (a n).bind (b n)=_;rw [h1,zA9];exact h3,h4⟩
structure J5 (g:List (List Int)):Prop where
 ok:I1 g=true
 row: ∀ r∈g,r.length<=LB
theorem J5.gr {g:List (List Int)} (h:J5 g):Gr g:=Gr.of h.ok h.row
section
variable {g:List (List Int)} {inn some':List Bool} {s:Int}
theorem nu {sets:List (List Bool)} (hs: ∀ x∈sets,x.length=g.length) (hl:sets.length<=256): ∀ (k i n:Nat),i+k=sets.length -> k+1<=n -> P9 g sets n (.l1 (i:Int))=some 0
 | 0,i,n,e,hn=>by
  obtain ⟨n,rfl⟩: ∃ k,n=k+1:=⟨n-1,by omega⟩
  show Tk n (P9 g sets n) g sets i=_
  unfold Tk;rw [zAA (by omega),zAD]
 | k+1,i,n,e,hn=>by
  obtain ⟨n,rfl⟩: ∃ k,n=k+1:=⟨n-1,by omega⟩;have hi:i<sets.length:=by omega
  have hm:sets.getD i []∈sets:=by rw [u8,zBD hi];exact zB0 hi
  have e2:(((sets.getD i []).length:Int) != (g.length:Int))=false:=by rw [hs _ hm];simp
  have:=nu hs hl k (i+1) n (by omega) (by omega)
  show Tk n (P9 g sets n) g sets i=_
  unfold Tk;rw [zBC (by omega),zBA,zAE ⟨by omega,by omega⟩,zAB,e2,zAD,zAE (Ae.2 ⟨by omega,by omega⟩)];exact this
theorem ny (G:J5 g) {sets:List (List Bool)} (hs: ∀ x∈sets,x.length=g.length) (hl:sets.length<=256):Ev (fun n=>L7 n g sets) 0:=by
 refine ⟨2*E1 g+1+sets.length+1,fun n hn=>?_⟩
 show L7 n g sets=some 0
 unfold L7 nv;rw [n9 G.row (by omega),G.ok];exact nu hs hl sets.length 0 n (by omega) (by omega)
theorem pq {n:Nat}: ∀ (l x:List Int),(x++l).length<=A7 -> CC (JF n) l (.s1 x.length x)=some (.s1 (x++l).length (x++l))
 | [],x,h=>by rw [zFV];rfl
 | a::l,x,h=>by
  have e:x++a::l=x++[a]++l:=by simp
  rw [e] at h ⊢;have h2:x.length+1<=A7:=by simp only [zCC,zCI] at h;omega
  have e1:JF n a (.s1 x.length x)=some (.s1 (x++[a]).length (x++[a])):=by
   unfold JF eD YR
   dsimp only
   rw [zAE ⟨⟨rfl,rfl⟩,⟨rfl,rfl⟩,by simpa using h2⟩,zCC]
  show (JF n a (.s1 x.length x)).bind (CC (JF n) l)=_
  rw [e1,zA9];exact pq l (x++[a]) h
theorem rV {n:Nat} {l:List Int} (h0:l≠[]) (hl:l.length<=256):Mo n l=some (G5 l):=by
 have L:(1000000000000:Nat)=A7:=rfl;cases l with
 | nil=>exact absurd rfl h0
 | cons a l=>
  have e1:JF n a .s0=some (.s1 [a].length [a]):=by
   unfold JF eD YS
   dsimp only
   rw [zAE ⟨⟨rfl,rfl⟩,by simp,by rw [←L];simp⟩]
  have e2:=pq (n:=n) l [a] (by rw [←L];simp only [zGk];omega)
  have e3:UY n (a::l)=some (a::l):=by
   unfold UY eB
   show ((JF n a .s0).bind (CC (JF n) l)).bind _=_
   rw [e1,zA9,e2,zA9]
   dsimp only
   rw [zAE rfl];rfl
  unfold Mo ZD YE di;rw [e3,zA9,zA9,zAE (by rw [←L];omega),zAE (RB _).symm]
theorem uh {l:List Int} (h: ∀ v,v∈l↔Rc g inn s v):l≠[]:=fun e=>by
 have:=(h s).2 .start;rw [e] at this;cases this
theorem ui (G:Gr g) (h0:0<=s) (h1:s<(g.length:Int)) {l:List Int} (hn:l.Nodup) (h: ∀ v,v∈l↔Rc g inn s v):l.length<=256:=
 zBO (PP g.length l hn fun x hx=>((h x).1 hx).rng G h0 h1) G.len
theorem zDt (G:J5 g) (hI:inn.length=g.length) (h0:0<=s) (h1:s<(g.length:Int)) (hs:inn.getD s.toNat false=true):
 AU (fun n=>QW n g inn s) (fun r=>r.2=0/\ r.1.length<=256/\ ∀ v,v∈r.1↔Rc g inn s v):=by
 have e: ∀ n,QW n g inn s=(L7 n g [inn]).bind fun y1=>bif (y1 != 0) then some (([]:List Int),y1) else (GC n g s inn).bind fun y2=>(Mo n y2).bind fun y3=>some (y3,0):=fun n=>by
  unfold QW pD
  congr 1
  funext y1
  rw [zAA (by omega),zAD,zAA (by omega),zAD,zAE ⟨by omega,by omega⟩,hs,zCJ,zAD]
 refine AU.eq ?_ e;refine AU.bind (ny G (fun x hx=>by rw [zBm.1 hx];exact hI) (by simp)) ?_
 show AU (fun n=>(GC n g s inn).bind fun y2=>(Mo n y2).bind fun y3=>some (y3,0)) _
 refine AU.bindU (Ze G.gr hI h0 h1) ⟨0,fun n _ l hl=>?_⟩;have Ak:=ui G.gr h0 h1 hl.1 hl.2;rw [rV (uh hl.2) Ak,zA9];exact ⟨_,rfl,rfl,by rw [RB];exact Ak,fun v=>by rw [(U8 l).mem_iff];exact hl.2 v⟩
structure Pt (g:List (List Int)) (inn:List Bool) (i:Nat) (part:List Int) (EX:Int):Prop where
 len:part.length=g.length
 m0:0<=EX
 m1:EX<=(i:Int)
 lo: ∀ v,v<g.length -> 0<=part.getD v 0/\ part.getD v 0<=EX
 isIn: ∀ v,v<g.length -> 0<part.getD v 0 -> inn.getD v false=true
 same: ∀ u v:Nat,u<g.length -> v<g.length -> 0<part.getD u 0 -> Rc g inn u v -> part.getD v 0=part.getD u 0
 con: ∀ u v:Nat,u<g.length -> v<g.length -> 0<part.getD u 0 -> part.getD v 0=part.getD u 0 -> Rc g inn u v
 all: ∀ v,v<i -> v<g.length -> inn.getD v false=true -> 0<part.getD v 0
theorem kN {n:Nat} {x13 m:Int}: ∀ (l:List Int) (part:List Int),part.length=g.length -> (∀ v∈l,0<=v/\ v<(g.length:Int)) ->
 ∃ HB,CC (NJ n g inn x13 m) l (.s0 part)=some (.s0 HB)/\ HB.length=g.length/\ ∀ v:Nat,HB.getD v 0=if (v:Int)∈l/\ v<g.length then m+1 else part.getD v 0
 | [],part,hp,_=>⟨part,rfl,hp,fun v=>by simp⟩
 | a::l,part,hp,hl=>by
  have ha:=hl a zC4
  have e1:NJ n g inn x13 m a (.s0 part)=some (.s0 (part.set a.toNat (m+1))):=by
   unfold NJ kL WD
   dsimp only
   rw [zAE ⟨ha,by omega⟩,zBj]
  obtain ⟨HB,h1,h2,h3⟩:=kN (n:=n) (x13:=x13) (m:=m) l (part.set a.toNat (m+1)) (by rw [zBo];exact hp) fun v hv=>hl v (zCG _ hv)
  refine ⟨HB,?_,h2,fun v=>?_⟩
  ·show (NJ n g inn x13 m a (.s0 part)).bind (CC (NJ n g inn x13 m) l)=_
   rw [e1,zA9];exact h1
  ·rw [h3]
   by_cases hv:(v:Int)∈l/\ v<g.length
   ·rw [zAE hv,zAE ⟨zCG _ hv.1,hv.2⟩]
   ·rw [zBP hv]
    by_cases e:(v:Int)=a
    ·subst e;rw [zAE ⟨zC4,by omega⟩,zAB,u8,zFN (by omega)];rfl
    ·rw [zBP (fun h=>by
      rcases zCB.1 h.1 with h4 | h4
      ·exact e h4
      ·exact hv ⟨h4,h.2⟩),u8,zFJ (by omega),←u8]
theorem Pt.go (G:Gr g) {i:Nat} {part HB:List Int} {EX:Int} (h:Pt g inn i part EX) (hi:i<g.length) (Bw:inn.getD i false=true) (h0: ¬ part.getD i 0>0) {l:List Int} (hl: ∀ v,v∈l↔Rc g inn i v) (Ak:HB.length=g.length)
 (hp: ∀ v:Nat,HB.getD v 0=if (v:Int)∈l/\ v<g.length then EX+1 else part.getD v 0):Pt g inn (i+1) HB (EX+1):=by
 have m0:=h.m0;have m1:=h.m1;have Mc: ∀ v:Nat,v<g.length -> Rc g inn i v -> HB.getD v 0=EX+1:=fun v hv hr=>by rw [hp,zAE ⟨(hl v).2 hr,hv⟩]
 have no: ∀ v:Nat,¬ Rc g inn i v -> HB.getD v 0=part.getD v 0:=fun v hr=>by rw [hp,zBP (fun h=>hr ((hl v).1 h.1))]
 have sym: ∀ u v:Nat,u<g.length -> inn.getD u false=true -> Rc g inn u v -> Rc g inn v u:=fun u v hu zg hr=>hr.symm G (by omega) (by omega) (by rw [zAB];exact zg)
 refine ⟨Ak,by omega,by omega,fun v hv=>?_,fun v hv H5=>?_,fun u v hu hv H5 hr=>?_,fun u v hu hv H5 he=>?_,fun v hv Dt Dg=>?_⟩
 ·have:=h.lo v hv
  by_cases hr:Rc g inn i v
  ·rw [Mc v hv hr];omega
  ·rw [no v hr];omega
 ·by_cases hr:Rc g inn i v
  ·have:=hr.isIn (by rw [zAB];exact Bw)
   rwa [zAB] at this
  ·rw [no v hr] at H5;exact h.isIn v hv H5
 ·by_cases h1:Rc g inn i u
  ·rw [Mc u hu h1,Mc v hv (h1.trans hr)]
  ·rw [no u h1] at H5 ⊢;have h2: ¬ Rc g inn i v:=fun h2=>h1 (h2.trans (sym u v hu (h.isIn u hu H5) hr))
   rw [no v h2];exact h.same u v hu hv H5 hr
 ·have hb:=(h.lo v hv).2
  by_cases h1:Rc g inn i u
  ·rw [Mc u hu h1] at he
   by_cases h2:Rc g inn i v
   ·exact (sym i u hi Bw h1).trans h2
   ·rw [no v h2] at he;omega
  ·rw [no u h1] at H5 he;have hb:=(h.lo u hu).2
   by_cases h2:Rc g inn i v
   ·rw [Mc v hv h2] at he;omega
   ·rw [no v h2] at he;exact h.con u v hu hv H5 he
 ·rcases zBH.1 hv with hv | rfl
  ·have:=h.all v hv Dt Dg
   by_cases hr:Rc g inn i v
   ·rw [Mc v Dt hr];omega
   ·rw [no v hr];exact this
  ·rw [Mc v Dt .start];omega
def PtP (g:List (List Int)) (inn:List Bool) (r:List Int×Int):Prop:=r.1.length=g.length/\ (∀ v,v<g.length -> inn.getD v false=true -> 0<r.1.getD v 0)/\ ∀ u v:Nat,u<g.length -> v<g.length -> inn.getD u false=true -> (r.1.getD v 0=r.1.getD u 0↔Rc g inn u v)
theorem wn (G:Gr g) (hI:inn.length=g.length):AU (fun n=>parts n g inn) (PtP g inn):=by
 have hG:=G.len;obtain ⟨N,hN⟩:=AU.range (F:=fun (i:Nat) n=>GC n g i inn) (A:=fun i l=>l.Nodup/\ ∀ v,v∈l↔Rc g inn i v) g.length fun i hi=>Ze G hI (by omega) (by omega)
 have hN: ∀ n,N<=n -> ∀ i:Nat,i<g.length -> ∃ l,GC n g i inn=some l/\ l.Nodup/\ ∀ v,v∈l↔Rc g inn i v:=hN;refine ⟨N+g.length+1,fun n hn=>?_⟩;have S:=HG (fun n (s:List Int×Int) i=>PI g inn n (.l1 i s.1 s.2)) g.length (N+1) (fun i s=>Pt g inn i s.1 s.2) (fun n i s Fk hi hP=>?_) (n:=n) (s:=(List.replicate g.length 0,0)) (by omega) ?_
 ·obtain ⟨n1,⟨part,EX⟩,H7,_,e1,hP⟩:=S;obtain ⟨n2,rfl⟩: ∃ n2,n1=n2+1:=⟨n1-1,by omega⟩;refine ⟨(part,EX),?_,hP.len,fun v hv hi=>hP.all v hv hv hi,fun u v hu hv hi=>?_⟩
  ·show parts n g inn=some (part,EX)
   unfold parts kK;rw [zAE ⟨rfl,by omega,by omega⟩];refine Eq.trans e1 ?_
   show Si n2 (PI g inn n2) g inn (g.length:Int) part EX=_
   unfold Si;rw [zAA (by omega),zAD,zAE hP.len.symm]
  ·have Bc:=hP.all u hu hu hi;exact ⟨hP.con u v hu hv Bc,hP.same u v hu hv Bc⟩
 ·obtain ⟨part,EX⟩:=s;have hP:Pt g inn i part EX:=hP;have r1:AG ((i:Int)+1):=Ae.2 ⟨by omega,by omega⟩
  show ∃ s',Si n (PI g inn n) g inn (i:Int) part EX=_/\ _
  unfold Si;simp only [zAB,zBj];rw [zBC (by omega),zBA,zAE ⟨by omega,by omega⟩];cases Bw:inn.getD i false
  ·rw [zCN,zBA,zAE r1];have m1:=hP.m1;refine ⟨(part,EX),rfl,hP.len,hP.m0,by show EX<=((i+1:Nat):Int);omega,hP.lo,hP.isIn,hP.same,hP.con,fun v hv Dt Dg=>?_⟩;rcases zBH.1 hv with hv | rfl
   ·exact hP.all v hv Dt Dg
   ·rw [Bw] at Dg;cases Dg
  ·have Ak:=hP.len;rw [zCJ,zAD,zAE ⟨⟨by omega,by omega⟩,by omega⟩]
   by_cases h0:part.getD i 0>0
   ·rw [zBC h0,zBA,zAE r1];have m1:=hP.m1;refine ⟨(part,EX),rfl,hP.len,hP.m0,by show EX<=((i+1:Nat):Int);omega,hP.lo,hP.isIn,hP.same,hP.con,fun v hv Dt Dg=>?_⟩;rcases zBH.1 hv with hv | rfl
    ·exact hP.all v hv Dt Dg
    ·exact h0
   ·obtain ⟨l,e2,Av,hl⟩:=hN n (by omega) i hi;obtain ⟨HB,e3,h3,h4⟩:=kN (n:=n) (inn:=inn) (x13:=(i:Int)) (m:=EX) l part hP.len fun v hv=>((hl v).1 hv).rng G (by omega) (by omega)
    have m0:=hP.m0;have m1:=hP.m1;rw [zAA h0,zAD,zAE (Ae.2 ⟨by omega,by omega⟩),e2,zA9,e3,zA9]
    dsimp only
    rw [zAE r1];exact ⟨(HB,EX+1),rfl,hP.go G hi Bw h0 hl h3 h4⟩
 ·have z: ∀ v:Nat,(List.replicate g.length (0:Int)).getD v 0=0:=fun v=>by
   rw [u8,zE7];split <;> rfl
  exact ⟨by simp,zCH _,zCH _,fun v _=>by rw [z];exact ⟨zCH _,zCH _⟩,fun v _ h=>by rw [z] at h;omega,fun u v _ _ h=>by rw [z] at h;omega,fun u v _ _ h=>by rw [z] at h;omega,fun v hv=>absurd hv (zBW v)⟩
def Sp (g:List (List Int)) (inn some':List Bool) (a:Int):Prop:=∃ u v:Int,u≠a/\ v≠a/\ some'.getD u.toNat false=true/\ some'.getD v.toNat false=true/\ Rc g inn a u/\ Rc g inn a v/\ ¬ Rc g (inn.set a.toNat false) u v
theorem gp {n:Nat} {a f:Int} {y3:List Int×Int} (hS:some'.length=g.length) (hy:y3.1.length=g.length) (hf:f≠0): ∀ (l:List Int),(∀ v∈l,0<=v/\ v<(g.length:Int)) ->
 ∃ b f' c,Es (Hj n some' a y3) l (.s0 false f)=some (.s0 b f',c)/\ (c=0∨c=1)/\ (b=true↔∃ v∈l,v≠a/\ some'.getD v.toNat false=true/\ y3.1.getD v.toNat 0≠f)
 | [],_=>⟨false,f,0,rfl,.inl rfl,by simp⟩
 | x::l,hl=>by
  have hx:=hl x zC4;obtain ⟨b,f',c,h1,h2,h3⟩:=gp (n:=n) (a:=a) hS hy hf l fun v hv=>hl v (zCG _ hv)
  have skip:Hj n some' a y3 x (.s0 false f)=some (.s0 false f,0) -> ¬ (x≠a/\ some'.getD x.toNat false=true/\ y3.1.getD x.toNat 0≠f) -> ∃ b f' c,Es (Hj n some' a y3) (x::l) (.s0 false f)=some (.s0 b f',c)/\ (c=0∨c=1)/\ (b=true↔∃ v∈x::l,v≠a/\ some'.getD v.toNat false=true/\ y3.1.getD v.toNat 0≠f):=by
   intro e hn;refine ⟨b,f',c,?_,h2,?_⟩
   ·unfold Es;rw [e,zA9];exact h1
   ·rw [h3];constructor
    ·rintro ⟨v,hv,h⟩;exact ⟨v,zCG _ hv,h⟩
    ·rintro ⟨v,hv,h⟩;rcases zCB.1 hv with rfl | hv
     ·exact absurd h hn
     ·exact ⟨v,hv,h⟩
  have f0:(f==0)=false:=zB4.2 hf;have U:Hj n some' a y3 x (.s0 false f)=RA n some' a y3 x false f:=rfl;unfold RA at U
  by_cases e1:x=a
  ·have:(x==a)=true:=zBf.2 e1;rw [this,zBA] at U;exact skip U fun h=>h.1 e1
  ·have:(x==a)=false:=zB4.2 e1;rw [this,zAD,zAE ⟨by omega,by omega⟩] at U;cases e2:some'.getD x.toNat false
   ·rw [e2,zCN,zBA] at U;exact skip U fun h=>by rw [e2] at h;cases h.2.1
   ·rw [e2,zCJ,zAD,f0,zAD,zAE ⟨by omega,by omega⟩] at U
    by_cases e3:y3.1.getD x.toNat 0=f
    ·have e4:(y3.1.getD x.toNat 0 != f)=false:=by rw [e3];simp
     rw [e4,zAD] at U;exact skip U fun h=>h.2.2 e3
    ·have e4:(y3.1.getD x.toNat 0 != f)=true:=by simpa using e3
     rw [e4,zBA] at U;refine ⟨true,f,1,?_,.inr rfl,?_⟩
     ·unfold Es;rw [U,zA9];rfl
     ·exact ⟨fun _=>⟨x,zC4,e1,e2,e3⟩,fun _=>rfl⟩
theorem gq {n:Nat} {a:Int} {y3:List Int×Int} (hS:some'.length=g.length) (hy:y3.1.length=g.length): ∀ (l:List Int),(∀ v∈l,0<=v/\ v<(g.length:Int)) -> (∀ v∈l,v≠a -> y3.1.getD v.toNat 0≠0) ->
 ∃ b f' c,Es (Hj n some' a y3) l (.s0 false 0)=some (.s0 b f',c)/\ (c=0∨c=1)/\ (b=true↔∃ u∈l,∃ v∈l,u≠a/\ v≠a/\ some'.getD u.toNat false=true/\ some'.getD v.toNat false=true/\ y3.1.getD v.toNat 0≠y3.1.getD u.toNat 0)
 | [],_,_=>⟨false,0,0,rfl,.inl rfl,by simp⟩
 | x::l,hl,hz=>by
  have hx:=hl x zC4;have Ck: ∀ v∈l,0<=v/\ v<(g.length:Int):=fun v hv=>hl v (zCG _ hv)
  have skip:Hj n some' a y3 x (.s0 false 0)=some (.s0 false 0,0) -> ¬ (x≠a/\ some'.getD x.toNat false=true) -> ∃ b f' c,Es (Hj n some' a y3) (x::l) (.s0 false 0)=some (.s0 b f',c)/\ (c=0∨c=1)/\ (b=true↔∃ u∈x::l,∃ v∈x::l,u≠a/\ v≠a/\ some'.getD u.toNat false=true/\ some'.getD v.toNat false=true/\ y3.1.getD v.toNat 0≠y3.1.getD u.toNat 0):=by
   intro e hn;obtain ⟨b,f',c,h1,h2,h3⟩:=gq (n:=n) (a:=a) hS hy l Ck fun v hv=>hz v (zCG _ hv)
   refine ⟨b,f',c,?_,h2,?_⟩
   ·unfold Es;rw [e,zA9];exact h1
   ·rw [h3];constructor
    ·rintro ⟨u,hu,v,hv,h⟩;exact ⟨u,zCG _ hu,v,zCG _ hv,h⟩
    ·rintro ⟨u,hu,v,hv,h4,h5,h6,h7,h8⟩;rcases zCB.1 hu with rfl | hu
     ·exact absurd ⟨h4,h6⟩ hn
     ·rcases zCB.1 hv with rfl | hv
      ·exact absurd ⟨h5,h7⟩ hn
      ·exact ⟨u,hu,v,hv,h4,h5,h6,h7,h8⟩
  have U:Hj n some' a y3 x (.s0 false 0)=RA n some' a y3 x false 0:=rfl;unfold RA at U
  by_cases e1:x=a
  ·have:(x==a)=true:=zBf.2 e1;rw [this,zBA] at U;exact skip U fun h=>h.1 e1
  ·have:(x==a)=false:=zB4.2 e1;rw [this,zAD,zAE ⟨by omega,by omega⟩] at U;cases e2:some'.getD x.toNat false
   ·rw [e2,zCN,zBA] at U;exact skip U fun h=>by rw [e2] at h;cases h.2
   ·have z0:((0:Int)==0)=true:=rfl;rw [e2,zCJ,zAD,z0,zBA,zAE ⟨by omega,by omega⟩] at U;obtain ⟨b,f',c,h1,h2,h3⟩:=gp (n:=n) (a:=a) hS hy (hz x zC4 e1) l Ck;refine ⟨b,f',c,?_,h2,?_⟩
    ·unfold Es;rw [U,zA9];exact h1
    ·rw [h3];constructor
     ·rintro ⟨v,hv,h4,h5,h6⟩;exact ⟨x,zC4,v,zCG _ hv,e1,h4,e2,h5,h6⟩
     ·rintro ⟨u,hu,v,hv,h4,h5,h6,h7,h8⟩
      by_cases e3:y3.1.getD u.toNat 0=y3.1.getD x.toNat 0
      ·rcases zCB.1 hv with rfl | hv
       ·exact absurd e3.symm h8
       ·exact ⟨v,hv,h5,h7,fun e=>h8 (e.trans e3.symm)⟩
      ·rcases zCB.1 hu with rfl | hu
       ·exact absurd rfl e3
       ·exact ⟨u,hu,h4,h6,e3⟩
theorem rR (G:J5 g) (hI:inn.length=g.length) (hS:some'.length=g.length) {a:Nat} (ha:a<g.length) (N7:inn.getD a false=true):
 AU (fun n=>Mm n g inn some' (a:Int)) (fun r=>r.2=0/\ (r.1=true↔Sp g inn some' (a:Int))):=by
 have hG:=G.gr.len;have L:(1000000000000:Nat)=A7:=rfl
 have hw: ∀ n,Qp n (a:Int) inn=some (inn.set a false):=fun n=>by
  unfold Qp Yk OP dl;rw [zAE ⟨by omega,trivial,⟨rfl,rfl⟩,by rw [←L];simp only [zFF];omega⟩,zAE (by simp),zA9,zFD,zAE ⟨⟨by omega,by omega⟩,by omega⟩,zAE (by simp),zBj,zAB]
 have hI':(inn.set a false).length=g.length:=by rw [zBo];exact hI
 have e: ∀ n,Mm n g inn some' (a:Int)=(L7 n g [inn,some']).bind fun y1=>bif (y1 != 0) then some (false,y1) else (parts n g (inn.set a false)).bind fun y3=>(GC n g a inn).bind fun y4=>(Es (Hj n some' a y3) y4 (.s0 false 0)).bind fun y5=>bif y5.2==0 then (match y5.1 with | .s0 b _=>some (b,0)) else bif y5.2==1 then (match y5.1 with | .s0 b _=>some (b,0)) else none:=fun n=>by
  unfold Mm gj
  congr 1
  funext y1
  rw [zAA (by omega),zAD,zAA (by omega),zAD,zAE ⟨by omega,by omega⟩,zAB,N7,zCJ,zAD,hw,zA9]
 refine AU.eq ?_ e
 refine AU.bind (ny G (fun x hx=>by
  rcases zCB.1 hx with rfl | hx
  ·exact hI
  ·rw [zBm.1 hx];exact hS) (by simp)) ?_
 show AU (R:=Bool×Int) (fun n=>(parts n g (inn.set a false)).bind fun y3=>(GC n g a inn).bind fun y4=>(Es (Hj n some' a y3) y4 (.s0 false 0)).bind fun y5=>bif y5.2==0 then (match y5.1 with | .s0 b _=>some (b,0)) else bif y5.2==1 then (match y5.1 with | .s0 b _=>some (b,0)) else none) _
 obtain ⟨N,hN⟩:=Ze G.gr hI (s:=(a:Int)) (by omega) (by omega);refine AU.bindU (wn G.gr hI') ⟨N,fun n hn y3 hy=>?_⟩;obtain ⟨l,hl,Av,Py⟩:=hN n hn;have hl:GC n g (a:Int) inn=some l:=hl;have hr: ∀ v∈l,0<=v/\ v<(g.length:Int):=fun v hv=>((Py v).1 hv).rng G.gr (by omega) (by omega)
 have Bw: ∀ v∈l,v≠(a:Int) -> (inn.set a false).getD v.toNat false=true:=fun v hv AY=>by
  have h1:=hr v hv;rw [u8,zFJ (by omega),←u8];exact ((Py v).1 hv).isIn (by rw [zAB];exact N7)
 obtain ⟨b,f',c,h1,h2,h3⟩:=gq (n:=n) (some':=some') (a:=(a:Int)) (y3:=y3) hS hy.1 l hr fun v hv AY=>by
  have h1:=hr v hv;have:=hy.2.1 v.toNat (by omega) (Bw v hv AY);omega
 rw [hl,zA9,h1,zA9];refine ⟨(b,0),?_,rfl,?_⟩
 ·rcases h2 with rfl | rfl <;> rfl
 ·show b=true↔_
  rw [h3]
  have key: ∀ u v:Int,u∈l -> v∈l -> u≠a -> (y3.1.getD v.toNat 0=y3.1.getD u.toNat 0↔Rc g (inn.set a false) u v):=fun u v hu hv AY=>by
   have h1:=hr u hu;have h2:=hr v hv;have:=hy.2.2 u.toNat v.toNat (by omega) (by omega) (Bw u hu AY)
   rwa [Int.toNat_of_nonneg h1.1,Int.toNat_of_nonneg h2.1] at this
  constructor
  ·rintro ⟨u,hu,v,hv,h4,h5,h6,h7,h8⟩;exact ⟨u,v,h4,h5,h6,h7,(Py u).1 hu,(Py v).1 hv,fun h=>h8 ((key u v hu hv h4).2 h)⟩
  ·rintro ⟨u,v,h4,h5,h6,h7,h8,h9,F3⟩;have hu:=(Py u).2 h8;have hv:=(Py v).2 h9;exact ⟨u,hu,v,hv,h4,h5,h6,h7,fun h=>F3 ((key u v hu hv h4).1 h)⟩
end
end Go.Proofs.YtekkngkphejfcaaGreatDoor
namespace Go.Proofs.YtekkngkphejfcaaGreatDoor
open Go.RowKit
def Bl (c:AC) (pos:List Int) (a:Nat):Bool:=bits .andNot .i64 (AL c pos a) c.set==0
def CE (c:AC) (pos:List Int) (a:Nat):Bool:=Bl c pos a||(bits .and .i64 (AL c pos a) c.set != 0)
def cnt (p:Nat -> Bool) (i:Nat):Int:=(((List.range i).countP p:Nat):Int)
theorem ML {p:Nat -> Bool} {i:Nat}:cnt p (i+1)=cnt p i+(if p i then 1 else 0):=by
 unfold cnt;rw [List.range_succ,List.countP_append,List.countP_singleton];split <;> simp
theorem YG {p:Nat -> Bool} {i:Nat}:0<=cnt p i/\ cnt p i<=i:=by
 unfold cnt;have:=zGj (p:=p) (l:=List.range i);rw [zFq] at this;omega
def JA (c:AC) (pos:List Int):Bool:=!decide (cnt (Bl c pos) c.cells.length>c.hi)&&!decide (cnt (CE c pos) c.cells.length<c.lo)
def Gq (c:AC) (pos:List Int) (a s:Nat):Bool:=
 ((cnt (Bl c pos) c.cells.length==c.hi)&&(bits .andNot .i64 (AL c pos a) c.set != 0)&&tb c.set s)||((cnt (CE c pos) c.cells.length==c.lo)&&(bits .and .i64 (AL c pos a) c.set != 0)&&!tb c.set s)
section
variable {c:AC} {k:Nat} {pos lost:List Int} {q:AA}
theorem zDZ {n:Nat} {x3 x4:Int} (W:Bq c k pos) (hl:lost.length=pos.length) (h3:x3=cnt (Bl c pos) c.cells.length) (h4:x4=cnt (CE c pos) c.cells.length) (hn:c.cells.length+1<=n):
 ∃ l,I9 c q pos pos.length lost n (.l2 x3 x4 0 lost)=some (true,l)/\ B2 c pos lost c.cells.length (fun a s=>Gq c pos a s=true) l:=by
 have lt: ∀ i,i<c.cells.length -> ((i:Nat):Int)<((c.cells.length:Nat):Int):=fun i hi=>by omega
 have T:=HG (fun n (s:List Int) i=>I9 c q pos pos.length lost n (.l2 x3 x4 i s)) c.cells.length 1
  (fun i s=>B2 c pos lost i (fun a s=>Gq c pos a s=true) s) (fun n i s Fk hi hI=>?_) (n:=n) (s:=lost) (by omega) (B2.zero hl)
 ·obtain ⟨n3,l,TR,_,e2,hL⟩:=T;obtain ⟨n4,rfl⟩: ∃ n4,n3=n4+1:=⟨n3-1,by omega⟩;refine ⟨l,e2.trans ?_,hL⟩
  show T9 n4 (I9 c q pos pos.length lost n4) c q pos pos.length lost x3 x4 (c.cells.length:Int) l=_
  unfold T9;rw [zAA (by omega),zAD]
 ·have hc:=W.cells i hi;have hr:=W.r64 hi
  have key: ∀ l':List Int,l'.length=pos.length -> (∀ j x,tb (l'.getD j 0) x=(tb (s.getD j 0) x||(decide (j=(c.cells.getD i 0).toNat)&&(tb (pos.getD j 0) x&&Gq c pos i x)))) -> B2 c pos lost (i+1) (fun a s=>Gq c pos a s=true) l':=by
   intro l' h1 h2;refine hI.step h1 fun j x=>?_
   rw [h2,zBg,zBE,zBE,zBV];constructor
   ·rintro (h | ⟨rfl,h⟩)
    ·exact .inl h
    ·exact .inr ⟨rfl,h⟩
   ·rintro (h | ⟨rfl,h⟩)
    ·exact .inl h
    ·exact .inr ⟨rfl,h⟩
  obtain ⟨l1,e1,n1,f1⟩:=Ki (lost:=s) (n:=n) (ss:=c.set) (c:=c) (q:=q) hc.1 hc.2 hI.1;obtain ⟨l2,e2,n2,f2⟩:=aT (lost:=l1) (n:=n) (c:=c) (q:=q) hc.1 hc.2 n1;obtain ⟨l3,e3,n3,f3⟩:=aT (lost:=s) (n:=n) (c:=c) (q:=q) hc.1 hc.2 hI.1;have d0:decide ((i:Int)<((c.cells.length:Nat):Int))=true:=zBC (lt i hi);have g0:(0:Int)<=(i:Int)/\ (i:Int)<((c.cells.length:Nat):Int):=⟨by omega,lt i hi⟩
  show ∃ s',T9 n (I9 c q pos pos.length lost n) c q pos pos.length lost x3 x4 (i:Int) s=_/\ _
  unfold T9;rw [d0,zBA,zAE g0];simp only [zAB];have X: ∀ x,Gq c pos i x=(((x3==c.hi)&&(bits .andNot .i64 (pos.getD (c.cells.getD i 0).toNat 0) c.set != 0)&&tb c.set x)||((x4==c.lo)&&(bits .and .i64 (pos.getD (c.cells.getD i 0).toNat 0) c.set != 0)&&!tb c.set x)):=fun x=>by rw [h3,h4];rfl
  cases hA:(x3==c.hi) <;> cases hC:(x4==c.lo) <;> cases hB:(bits .andNot .i64 (pos.getD (c.cells.getD i 0).toNat 0) c.set != 0) <;> cases hE:(bits .and .i64 (pos.getD (c.cells.getD i 0).toNat 0) c.set != 0) <;>
   simp only [hA,hB,hC,hE,zCE,zFI,zFp,Bool.and_true,zFb,zFP] at X <;>
   simp only [zBA,zAD,zAE hc,e1,e2,e3,zA9,zAE hr.2]
  all_goals first
   | exact ⟨s,rfl,key s hI.1 fun j x=>by rw [X,zFp,zFp,zFb]⟩
   | exact ⟨l1,rfl,key l1 n1 fun j x=>by rw [f1,X]⟩
   | exact ⟨l3,rfl,key l3 n3 fun j x=>by rw [f3,X]⟩
   | exact ⟨l2,rfl,key l2 n2 fun j x=>by
    rw [f2,f1,X];cases tb (s.getD j 0) x <;> cases decide (j=(c.cells.getD i 0).toNat) <;> cases tb (pos.getD j 0) x <;> cases tb c.set x <;> rfl⟩
theorem zDa {n:Nat} (W:Bq c k pos) (hl:lost.length=pos.length) (hn:2*c.cells.length+3<=n):
 ∃ l,QV n c q pos pos.length lost=some (JA c pos,l)/\ (JA c pos=true -> B2 c pos lost c.cells.length (fun a s=>Gq c pos a s=true) l):=by
 have lt: ∀ i,i<c.cells.length -> ((i:Nat):Int)<((c.cells.length:Nat):Int):=fun i hi=>by omega
 have S:=HG (fun n (s:Int×Int) i=>I9 c q pos pos.length lost n (.l1 s.1 s.2 i)) c.cells.length (c.cells.length+3)
  (fun i s=>s.1=cnt (Bl c pos) i/\ s.2=cnt (CE c pos) i) (fun n i s _ hi hI=>?_) (n:=n) (s:=(0,0)) (by omega) ⟨rfl,rfl⟩
 ·obtain ⟨n1,⟨x3,x4⟩,H7,_,e1,h3,h4⟩:=S;obtain ⟨n2,rfl⟩: ∃ n2,n1=n2+1:=⟨n1-1,by omega⟩;have e2:QV n c q pos pos.length lost=UA n2 (I9 c q pos pos.length lost n2) c q pos pos.length lost x3 x4 (c.cells.length:Int):=e1;have h3:x3=cnt (Bl c pos) c.cells.length:=h3;have h4:x4=cnt (CE c pos) c.cells.length:=h4;unfold UA at e2;rw [zAA (by omega),zAD] at e2;unfold JA;rw [←h3,←h4];cases h5:decide (x3>c.hi)
  ·cases h6:decide (x4<c.lo)
   ·obtain ⟨l,e3,hL⟩:=zDZ (q:=q) (n:=n2) W hl h3 h4 (by omega);rw [h5,h6,zAD,zAD,e3] at e2;exact ⟨l,e2,fun _=>hL⟩
   ·rw [h5,h6,zAD,zBA] at e2;exact ⟨lost,e2,fun h=>by cases h⟩
  ·rw [h5,zBA] at e2;exact ⟨lost,e2,fun h=>by cases h⟩
 ·obtain ⟨x3,x4⟩:=s;obtain ⟨h3,h4⟩:=hI;simp only at h3 h4;have hc:=W.cells i hi;have hr:=W.r64 hi;have b3:=YG (p:=Bl c pos) (i:=i);have b4:=YG (p:=CE c pos) (i:=i);have Ak:=W.len;have r3:AG (x3+1):=Ae.2 ⟨by omega,by omega⟩;have r4:AG (x4+1):=Ae.2 ⟨by omega,by omega⟩
  show ∃ s',UA n (I9 c q pos pos.length lost n) c q pos pos.length lost x3 x4 (i:Int)=_/\ _
  unfold UA;rw [zBC (lt i hi),zBA];simp only [zAB];rw [zAE ⟨⟨by omega,lt i hi⟩,hc⟩];have m1:(bits .andNot .i64 (pos.getD (c.cells.getD i 0).toNat 0) c.set==0)=Bl c pos i:=rfl;have m2:(Bl c pos i||(bits .and .i64 (pos.getD (c.cells.getD i 0).toNat 0) c.set != 0))=CE c pos i:=rfl;rw [m1];cases hm:Bl c pos i
  ·rw [hm,zFP] at m2;rw [zAD,m2];cases hy:CE c pos i
   ·rw [zAD,zAE hr.2];exact ⟨(x3,x4),rfl,by rw [ML,hm];simpa using h3,by rw [ML,hy];simpa using h4⟩
   ·rw [zBA,zAE ⟨r4,hr.2⟩];exact ⟨(x3,x4+1),rfl,by rw [ML,hm];simpa using h3,by rw [ML,hy];simpa using h4⟩
  ·have hy:CE c pos i=true:=by rw [←m2,hm];rfl
   rw [zBA,zAE ⟨r3,r4,hr.2⟩];exact ⟨(x3+1,x4+1),rfl,by rw [ML,hm];simpa using h3,by rw [ML,hy];simpa using h4⟩
end
end Go.Proofs.YtekkngkphejfcaaGreatDoor
namespace Go.Proofs.YtekkngkphejfcaaGreatDoor
abbrev zB1:=@Nat.lt_of_not_le
end Go.Proofs.YtekkngkphejfcaaGreatDoor
namespace Go.Proofs.YtekkngkphejfcaaGreatDoor
open Go.RowKit
theorem qt (x:Int) (i:Nat):tb (IntKind.i64.wrap x) i=tb x i:=by unfold tb;rw [Sr]
theorem JN {s:Nat} (hs:s<64) (i:Nat):tb (IntKind.i64.wrap (1*2 ^ s)) i=decide (s=i):=by
 rw [qt,Int.one_mul];rcases zFQ i 64 with h | h
 ·have e:((2 ^ s:Nat):Int)=(2:Int) ^ s:=by simp
  rw [←e];exact Y4 h
 ·rw [IM h,zAA (by omega)]
theorem EW {k:Nat} {x:Int} (h:Sm k x) (hk:k<=62) {e:Int}:e∈BK x↔∃ s:Nat,e=(s:Int)/\ s<k/\ tb x s=true:=by
 obtain ⟨m,rfl⟩:=zFf h.1;unfold BK Eh;simp only [zFA,zFU,zBc,zAB];constructor
 ·rintro ⟨s,⟨h1,h2⟩,rfl⟩;have h3:tb (m:Int) s=true:=by rw [Hh m s h1];exact h2
  refine ⟨s,rfl,?_,h3⟩;refine zB1 fun BV=>?_
  rw [h.hi BV] at h3;cases h3
 ·rintro ⟨s,rfl,h1,h2⟩;exact ⟨s,⟨by omega,by rw [Hh m s (by omega)] at h2;exact h2⟩,rfl⟩
theorem Xl {α σ:Type} {f:α -> σ -> Option σ} (Inv:List α -> σ -> Prop): ∀ (l pre:List α) (s:σ),Inv pre s -> (∀ pre x s,x∈l -> Inv pre s -> ∃ s',f x s=some s'/\ Inv (pre++[x]) s') -> ∃ s',CC f l s=some s'/\ Inv (pre++l) s'
 | [],pre,s,h,_=>⟨s,rfl,by rw [zFV];exact h⟩
 | x::l,pre,s,h,hs=>by
  obtain ⟨s',h1,h2⟩:=hs pre x s (.head _) h;obtain ⟨s2,h3,h4⟩:=Xl Inv l (pre++[x]) s' h2 fun pre y s hy=>hs pre y s (.tail _ hy)
  refine ⟨s2,?_,by rw [zFi] at h4;exact h4⟩;simp only [CC];rw [h1,zA9,h3]
structure EE (q:AA) (k:Nat):Prop where
 len:k<=q.values.length
 val: ∀ s,s<k -> 0<=q.values.getD s 0/\ q.values.getD s 0<=99
def HH (q:AA) (a e:Int):Int:=if q.values.getD e.toNat 0<a then q.values.getD e.toNat 0 else a
def HM (q:AA) (a e:Int):Int:=if q.values.getD e.toNat 0>a then q.values.getD e.toNat 0 else a
def B0 (q:AA) (x:Int):Int:=(BK x).foldl (HH q) 100
def B1 (q:AA) (x:Int):Int:=(BK x).foldl (HM q) (-1)
section
variable {c:AC} {k:Nat} {pos lost:List Int} {q:AA}
theorem lm: ∀ (l:List Int) (a:Int),(∀ e∈l,0<=q.values.getD e.toNat 0/\ q.values.getD e.toNat 0<=99) -> 0<=a/\ a<=100 -> 0<=l.foldl (HH q) a/\ l.foldl (HH q) a<=100
 | [],_,_,h=>h
 | e::l,a,hv,h=>by
  have:=hv e (.head _);refine lm l (HH q a e) (fun e he=>hv e (.tail _ he)) ?_;unfold HH;split <;> omega
theorem nF: ∀ (l:List Int) (a:Int),(∀ e∈l,0<=q.values.getD e.toNat 0/\ q.values.getD e.toNat 0<=99) -> -1<=a/\ a<=99 -> -1<=l.foldl (HM q) a/\ l.foldl (HM q) a<=99
 | [],_,_,h=>h
 | e::l,a,hv,h=>by
  have:=hv e (.head _);refine nF l (HM q a e) (fun e he=>hv e (.tail _ he)) ?_;unfold HM;split <;> omega
theorem EE.sym (V:EE q k) (hk:k<=16) {x:Int} (h:Sm k x): ∀ e∈BK x,(0<=e/\ e<((q.values.length:Nat):Int))/\ 0<=q.values.getD e.toNat 0/\ q.values.getD e.toNat 0<=99:=by
 intro e he;obtain ⟨s,rfl,h1,_⟩:=(EW h (zBO hk (by decide))).1 he;have:=V.len;rw [zAB];exact ⟨by omega,V.val s h1⟩
theorem EE.lo (V:EE q k) (hk:k<=16) {x:Int} (h:Sm k x):0<=B0 q x/\ B0 q x<=100:=lm _ _ (fun e he=>(V.sym hk h e he).2) (by decide)
theorem EE.hi (V:EE q k) (hk:k<=16) {x:Int} (h:Sm k x): -1<=B1 q x/\ B1 q x<=99:=nF _ _ (fun e he=>(V.sym hk h e he).2) (by decide)
theorem oZ {n ln:Nat}: ∀ (l:List Int) (a b:Int),(∀ e∈l,0<=e/\ e<((q.values.length:Nat):Int)) -> CC (Ty n c q pos ln lost) l (.s0 a b)=some (.s0 (l.foldl (HH q) a) (l.foldl (HM q) b))
 | [],_,_,_=>rfl
 | e::l,a,b,h=>by
  have e1:Ty n c q pos ln lost e (.s0 a b)=some (.s0 (HH q a e) (HM q b e)):=by
   unfold Ty oc od
   dsimp only
   rw [zAE (h e (.head _))];rfl
  simp only [CC];rw [e1,zA9,oZ l _ _ fun e he=>h e (.tail _ he)];rfl
theorem oY {n ln:Nat} (V:EE q k) (hk:k<=16) {x:Int} (h:Sm k x):Tz n x c q pos ln lost=some (B0 q x,B1 q x,lost):=by
 have Ti:=Je (k:=k) (zBO hk (by decide));have h2:=h.2;unfold Tz oa;rw [zAE ⟨h.1,by omega⟩,oZ (BK x) 100 (-1) fun e he=>(V.sym hk h e he).1];rfl
def CI (f:Nat -> Int):Nat -> Int
 | 0=>0
 | i+1=>CI f i+f i
theorem Q0 {f:Nat -> Int}: ∀ (i:Nat),(∀ a,a<i -> -1<=f a/\ f a<=100) -> -(i:Int)<=CI f i/\ CI f i<=100*(i:Int)
 | 0,_=>by simp [CI]
 | i+1,h=>by
  have h1:=Q0 i fun a ha=>h a (by omega)
  have h2:=h i (by omega);simp only [CI];omega
def Jm (q:AA) (c:AC) (pos:List Int):Int:=CI (fun a=>B0 q (AL c pos a)) c.cells.length
def Jt (q:AA) (c:AC) (pos:List Int):Int:=CI (fun a=>B1 q (AL c pos a)) c.cells.length
def IQ (q:AA) (c:AC) (pos:List Int):Bool:=!decide (Jm q c pos>c.hi)&&!decide (Jt q c pos<c.lo)
def FX (q:AA) (c:AC) (pos:List Int) (a s:Nat):Bool:=
 decide (Jm q c pos-B0 q (AL c pos a)+q.values.getD s 0>c.hi)||decide (Jt q c pos-B1 q (AL c pos a)+q.values.getD s 0<c.lo)
theorem lh {T:Type} {n:Nat} (W:Bq c k pos) {i:Nat} (hi:i<c.cells.length) (hl:lost.length=pos.length) (mk:List Int -> T) (f:Int -> T -> Option T) (X:Nat -> Bool)
 (hf: ∀ (s:Nat) (l:List Int),s<k -> l.length=pos.length -> f (s:Int) (mk l)=bif X s then (DJ n (c.cells.getD i 0) (IntKind.i64.wrap (1*2 ^ s)) c q pos pos.length l).map mk else some (mk l)):
 ∃ l',CC f (BK (AL c pos i)) (mk lost)=some (mk l')/\ l'.length=pos.length/\
  ∀ j s,tb (l'.getD j 0) s=true↔tb (lost.getD j 0) s=true∨((c.cells.getD i 0).toNat=j/\ tb (AL c pos i) s=true/\ X s=true):=by
 have hc:=W.cells i hi;have Ce:=W.at hi;have hk:=W.k
 have key:=Xl (f:=f)
  (fun pre s=>∃ l',s=mk l'/\ l'.length=pos.length/\ ∀ j s,tb (l'.getD j 0) s=true↔tb (lost.getD j 0) s=true∨((c.cells.getD i 0).toNat=j/\ tb (AL c pos i) s=true/\ (s:Int)∈pre/\ X s=true))
  (BK (AL c pos i)) [] (mk lost) ⟨lost,rfl,hl,fun j s=>⟨.inl,fun h=>h.elim id fun h=>(by cases h.2.2.1)⟩⟩ ?_
 ·obtain ⟨_,h1,l',rfl,h2,h3⟩:=key;refine ⟨l',h1,h2,fun j s=>?_⟩;rw [h3,zFD];constructor
  ·rintro (h | ⟨a1,a2,_,a3⟩)
   ·exact .inl h
   ·exact .inr ⟨a1,a2,a3⟩
  ·rintro (h | ⟨a1,a2,a3⟩)
   ·exact .inl h
   ·refine .inr ⟨a1,a2,(EW Ce (zBO hk (by decide))).2 ⟨s,rfl,zB1 fun BV=>?_,a2⟩,a3⟩;rw [Ce.hi BV] at a2;cases a2
 ·rintro pre e _ he ⟨l',rfl,h2,h3⟩;obtain ⟨s,rfl,hs,hbit⟩:=(EW Ce (zBO hk (by decide))).1 he;rw [hf s l' hs h2];cases hx:X s
  ·rw [zAD];refine ⟨_,rfl,l',rfl,h2,fun j x=>?_⟩;rw [h3];constructor
   ·rintro (h | ⟨a1,a2,a3,a4⟩)
    ·exact .inl h
    ·exact .inr ⟨a1,a2,zCO _ a3,a4⟩
   ·rintro (h | ⟨a1,a2,a3,a4⟩)
    ·exact .inl h
    ·rcases zB5.1 a3 with a3 | a3
     ·exact .inr ⟨a1,a2,a3,a4⟩
     ·have:x=s:=by have:=zBm.1 a3;omega
      subst this;rw [hx] at a4;cases a4
  ·obtain ⟨l2,e2,n2,f2⟩:=Ki (lost:=l') (n:=n) (ss:=IntKind.i64.wrap (1*2 ^ s)) (c:=c) (q:=q) hc.1 hc.2 h2;rw [zBA,e2,zCL];refine ⟨_,rfl,l2,rfl,n2,fun j x=>?_⟩;rw [f2,zBg,zBE,zBE,zBV,h3,JN (by omega),zBV];constructor
   ·rintro ((h | ⟨a1,a2,a3,a4⟩) | ⟨rfl,a2,rfl⟩)
    ·exact .inl h
    ·exact .inr ⟨a1,a2,zCO _ a3,a4⟩
    ·exact .inr ⟨rfl,a2,zDB _ (.head _),hx⟩
   ·rintro (h | ⟨a1,a2,a3,a4⟩)
    ·exact .inl (.inl h)
    ·rcases zB5.1 a3 with a3 | a3
     ·exact .inl (.inr ⟨a1,a2,a3,a4⟩)
     ·have:x=s:=by have:=zBm.1 a3;omega
      subst this;subst a1;exact .inr ⟨rfl,a2,rfl⟩
theorem rF {n:Nat} (W:Bq c k pos) (V:EE q k) {i:Nat} (hi:i<c.cells.length) {low high:Int} (XK:low=Jm q c pos) (nH:high=Jt q c pos) (hl:lost.length=pos.length):
 ∃ l',CC (U5 n c (i:Int) q pos pos.length low high (B0 q (AL c pos i),B1 q (AL c pos i),lost)) (BK (AL c pos i)) (.s0 lost)=some (.s0 l')/\ l'.length=pos.length/\
  ∀ j s,tb (l'.getD j 0) s=true↔tb (lost.getD j 0) s=true∨((c.cells.getD i 0).toNat=j/\ tb (AL c pos i) s=true/\ FX q c pos i s=true):=by
 have hc:=W.cells i hi;have Ce:=W.at hi;have hk:=W.k;have Ak:=W.len;have bl:=V.lo hk Ce;have bh:=V.hi hk Ce;have tl:=Q0 (f:=fun a=>B0 q (AL c pos a)) c.cells.length fun a ha=>by have:=V.lo hk (W.at ha);omega
 have th:=Q0 (f:=fun a=>B1 q (AL c pos a)) c.cells.length fun a ha=>by have:=V.hi hk (W.at ha);omega
 have tl: -(c.cells.length:Int)<=low/\ low<=100*(c.cells.length:Int):=by rw [XK];exact tl
 have th: -(c.cells.length:Int)<=high/\ high<=100*(c.cells.length:Int):=by rw [nH];exact th
 refine lh (n:=n) (q:=q) W hi hl KC.s0 _ (FX q c pos i) fun s l hs hl=>?_
 have hv:=V.val s hs;have Dt:=V.len;have r1:AG (low-B0 q (AL c pos i)):=Ae.2 ⟨by omega,by omega⟩;have r2:AG (low-B0 q (AL c pos i)+q.values.getD s 0):=Ae.2 ⟨by omega,by omega⟩;have r3:AG (high-B1 q (AL c pos i)):=Ae.2 ⟨by omega,by omega⟩;have r4:AG (high-B1 q (AL c pos i)+q.values.getD s 0):=Ae.2 ⟨by omega,by omega⟩;have g1:(0:Int)<=(s:Int)/\ (s:Int)<((q.values.length:Nat):Int):=by omega
 have g2:(0:Int)<=(s:Int)/\ (s:Int)<=((IntKind.i64.bits:Nat):Int):=⟨by omega,by show (s:Int)<=64;omega⟩;obtain ⟨l2,e2,_,_⟩:=Ki (lost:=l) (n:=n) (ss:=IntKind.i64.wrap (1*2 ^ s)) (c:=c) (q:=q) hc.1 hc.2 hl;have X:FX q c pos i s=(decide (low-B0 q (AL c pos i)+q.values.getD s 0>c.hi)||decide (high-B1 q (AL c pos i)+q.values.getD s 0<c.lo)):=by rw [XK,nH];rfl
 rw [X];unfold U5 gU U4
 dsimp only
 simp only [zAB];rw [zAE ⟨g1,r1,r2⟩];cases hA:decide (low-B0 q (AL c pos i)+q.values.getD s 0>c.hi)
 ·rw [zAD,zAE ⟨r3,r4⟩,zFP];cases hB:decide (high-B1 q (AL c pos i)+q.values.getD s 0<c.lo)
  ·rfl
  ·rw [zBA,zBA,zAE g2,e2];rfl
 ·rw [zBA,zFz,zBA,zAE g2,e2];rfl
theorem rB {n:Nat} (W:Bq c k pos) (V:EE q k) (hl:lost.length=pos.length) (hn:c.cells.length+1<=n):
 ∃ l,IP c q pos pos.length lost n (.l2 0 lost (Jm q c pos) (Jt q c pos))=some (true,l)/\ B2 c pos lost c.cells.length (fun a s=>FX q c pos a s=true) l:=by
 have lt: ∀ i,i<c.cells.length -> ((i:Nat):Int)<((c.cells.length:Nat):Int):=fun i hi=>by omega
 have T:=HG (fun n (s:List Int) i=>IP c q pos pos.length lost n (.l2 i s (Jm q c pos) (Jt q c pos))) c.cells.length 1
  (fun i s=>B2 c pos lost i (fun a s=>FX q c pos a s=true) s) (fun n i s Fk hi hI=>?_) (n:=n) (s:=lost) (by omega) (B2.zero hl)
 ·obtain ⟨n3,l,TR,_,e2,hL⟩:=T;obtain ⟨n4,rfl⟩: ∃ n4,n3=n4+1:=⟨n3-1,by omega⟩;refine ⟨l,e2.trans ?_,hL⟩
  show Q4 n4 (IP c q pos pos.length lost n4) c q pos pos.length lost (c.cells.length:Int) l _ _=_
  unfold Q4;rw [zAA (by omega),zAD]
 ·have hc:=W.cells i hi;have hr:=W.r64 hi;have Ce:=W.at hi;have Ti:=Je (k:=k) (zBO W.k (by decide));have Lv:=Ce.2;obtain ⟨l',e1,n1,f1⟩:=rF (n:=n) W V hi rfl rfl hI.1
  show ∃ s',Q4 n (IP c q pos pos.length lost n) c q pos pos.length lost (i:Int) s _ _=_/\ _
  unfold Q4;rw [zBC (lt i hi),zBA];simp only [zAB];have sa:pos.getD (c.cells.getD i 0).toNat 0=AL c pos i:=rfl;rw [zAE ⟨⟨by omega,lt i hi⟩,hc⟩,sa,oY V W.k Ce,zA9,zAE ⟨Ce.1,by show AL c pos i<_;omega⟩];refine ⟨l',?_,hI.step n1 f1⟩;refine (congrArg (fun z=>Option.bind z _) e1).trans ?_;rw [zA9];simp only;rw [zAE hr.2]
theorem rC {n:Nat} (W:Bq c k pos) (V:EE q k) (hl:lost.length=pos.length) (hn:2*c.cells.length+3<=n):
 ∃ l,Oi n c q pos pos.length lost=some (IQ q c pos,l)/\ (IQ q c pos=true -> B2 c pos lost c.cells.length (fun a s=>FX q c pos a s=true) l):=by
 have lt: ∀ i,i<c.cells.length -> ((i:Nat):Int)<((c.cells.length:Nat):Int):=fun i hi=>by omega
 have S:=HG (fun n (s:List Int×Int×Int) i=>IP c q pos pos.length lost n (.l1 i s.1 s.2.1 s.2.2)) c.cells.length (c.cells.length+3)
  (fun i s=>s.1=lost/\ s.2.1=CI (fun a=>B0 q (AL c pos a)) i/\ s.2.2=CI (fun a=>B1 q (AL c pos a)) i) (fun n i s _ hi hI=>?_) (n:=n) (s:=(lost,0,0)) (by omega) ⟨rfl,rfl,rfl⟩
 ·obtain ⟨n1,⟨l0,x3,x4⟩,H7,_,e1,h0,h3,h4⟩:=S;obtain ⟨n2,rfl⟩: ∃ n2,n1=n2+1:=⟨n1-1,by omega⟩;obtain rfl:l0=lost:=h0;obtain rfl:x3=Jm q c pos:=h3;obtain rfl:x4=Jt q c pos:=h4;have e2:Oi n c q pos pos.length l0=Q5 n2 (IP c q pos pos.length l0 n2) c q pos pos.length l0 (c.cells.length:Int) l0 (Jm q c pos) (Jt q c pos):=e1;unfold Q5 at e2;rw [zAA (by omega),zAD] at e2;unfold IQ;cases h5:decide (Jm q c pos>c.hi)
  ·cases h6:decide (Jt q c pos<c.lo)
   ·obtain ⟨l,e3,hL⟩:=rB (n:=n2) W V hl (by omega);rw [h5,h6,zAD,zAD,e3] at e2;exact ⟨l,e2,fun _=>hL⟩
   ·rw [h5,h6,zAD,zBA] at e2;exact ⟨l0,e2,fun h=>by cases h⟩
  ·rw [h5,zBA] at e2;exact ⟨l0,e2,fun h=>by cases h⟩
 ·obtain ⟨l0,x3,x4⟩:=s;obtain ⟨h0,h3,h4⟩:=hI;simp only at h0 h3 h4;have hc:=W.cells i hi;have hr:=W.r64 hi;have Ce:=W.at hi;have b3:=Q0 (f:=fun a=>B0 q (AL c pos a)) i fun a ha=>by have:=V.lo W.k (W.at (Nat.lt_trans ha hi));omega
  have b4:=Q0 (f:=fun a=>B1 q (AL c pos a)) i fun a ha=>by have:=V.hi W.k (W.at (Nat.lt_trans ha hi));omega
  have bl:=V.lo W.k Ce;have bh:=V.hi W.k Ce;have Ak:=W.len;rw [←h3] at b3;rw [←h4] at b4;have r3:AG (x3+B0 q (AL c pos i)):=Ae.2 ⟨by omega,by omega⟩;have r4:AG (x4+B1 q (AL c pos i)):=Ae.2 ⟨by omega,by omega⟩
  show ∃ s',Q5 n (IP c q pos pos.length lost n) c q pos pos.length lost (i:Int) l0 x3 x4=_/\ _
  unfold Q5;rw [zBC (lt i hi),zBA];simp only [zAB];have sa:pos.getD (c.cells.getD i 0).toNat 0=AL c pos i:=rfl;rw [zAE ⟨⟨by omega,lt i hi⟩,hc⟩,sa,oY V W.k Ce,zA9,zAE ⟨r3,r4,hr.2⟩];exact ⟨(l0,x3+B0 q (AL c pos i),x4+B1 q (AL c pos i)),rfl,h0,by simp only [CI];rw [h3],by simp only [CI];rw [h4]⟩
end
end Go.Proofs.YtekkngkphejfcaaGreatDoor
namespace Go.Proofs.YtekkngkphejfcaaGreatDoor
open Go.RowKit
set_option maxRecDepth 100000
set_option maxHeartbeats 40000000
def gH:ST:=.rd 0 (.rd 1 (.rd 3 (.rd 4 (.ef 2 (.ef 5 (.ef 6 (.ef 7 (.ef 8 (.ef 9 (.fin [0,1,2,3] [1,3,4,5,58,91,92,104,148]) (.no)) (.no)) (.no)) (.ef 7 (.ef 6 (.ef 8 (.ef 9 (.fin [0,1,3,2] [1,3,4,5,58,91,92,104,148]) (.no)) (.no)) (.no)) (.no))) (.ef 6 (.ef 5 (.ef 7 (.ef 8 (.ef 9 (.fin [0,2,1,3] [1,3,4,5,58,91,92,104,148]) (.no)) (.no)) (.no)) (.ef 7 (.ef 5 (.ef 8 (.ef 9 (.fin [0,3,1,2] [1,3,4,5,58,91,92,104,148]) (.no)) (.no)) (.ef 8 (.ef 5 (.ef 9 (.fin [0,3,1,2] [1,3,4,5,58,91,92,104,148]) (.no)) (.no)) (.no))) (.no))) (.ef 7 (.ef 5 (.ef 6 (.ef 8 (.ef 9 (.fin [0,2,3,1] [1,3,4,5,58,91,92,104,148]) (.no)) (.no)) (.no)) (.ef 6 (.ef 5 (.ef 8 (.ef 9 (.fin [0,3,2,1] [1,3,4,5,58,91,92,104,148]) (.no)) (.no)) (.ef 8 (.ef 5 (.ef 9 (.fin [0,3,2,1] [1,3,4,5,58,91,92,104,148]) (.no)) (.no)) (.no))) (.no))) (.no)))) (.ef 5 (.ef 2 (.ef 6 (.ef 7 (.ef 8 (.ef 9 (.fin [1,0,2,3] [1,3,4,5,58,91,92,104,148]) (.no)) (.no)) (.no)) (.ef 7 (.ef 6 (.ef 8 (.ef 9 (.fin [1,0,3,2] [1,3,4,5,58,91,92,104,148]) (.no)) (.no)) (.no)) (.no))) (.ef 6 (.ef 2 (.ef 7 (.ef 8 (.ef 9 (.fin [2,0,1,3] [1,3,4,5,58,91,92,104,148]) (.no)) (.no)) (.no)) (.ef 7 (.ef 2 (.ef 8 (.ef 9 (.fin [3,0,1,2] [1,3,4,5,58,91,92,104,148]) (.no)) (.no)) (.no)) (.no))) (.ef 7 (.ef 2 (.ef 6 (.ef 8 (.ef 9 (.fin [2,0,3,1] [1,3,4,5,58,91,92,104,148]) (.no)) (.no)) (.no)) (.ef 6 (.ef 2 (.ef 8 (.ef 9 (.fin [3,0,2,1] [1,3,4,5,58,91,92,104,148]) (.no)) (.no)) (.no)) (.no))) (.no)))) (.ef 6 (.ef 2 (.ef 5 (.ef 7 (.ef 8 (.ef 9 (.fin [1,2,0,3] [1,3,4,5,58,91,92,104,148]) (.no)) (.no)) (.no)) (.ef 7 (.ef 5 (.ef 8 (.ef 9 (.fin [1,3,0,2] [1,3,4,5,58,91,92,104,148]) (.no)) (.no)) (.ef 8 (.ef 5 (.ef 9 (.fin [1,3,0,2] [1,3,4,5,58,91,92,104,148]) (.no)) (.no)) (.no))) (.no))) (.ef 5 (.ef 2 (.ef 7 (.ef 8 (.ef 9 (.fin [2,1,0,3] [1,3,4,5,58,91,92,104,148]) (.no)) (.no)) (.no)) (.ef 7 (.ef 2 (.ef 8 (.ef 9 (.fin [3,1,0,2] [1,3,4,5,58,91,92,104,148]) (.no)) (.no)) (.no)) (.no))) (.ef 7 (.ef 2 (.ef 5 (.ef 8 (.ef 9 (.fin [2,3,0,1] [1,3,4,5,58,91,92,104,148]) (.no)) (.no)) (.ef 8 (.ef 5 (.ef 9 (.fin [2,3,0,1] [1,3,4,5,58,91,92,104,148]) (.no)) (.no)) (.no))) (.ef 5 (.ef 2 (.ef 8 (.ef 9 (.fin [3,2,0,1] [1,3,4,5,58,91,92,104,148]) (.no)) (.no)) (.no)) (.no))) (.no)))) (.ef 7 (.ef 2 (.ef 5 (.ef 6 (.ef 8 (.ef 9 (.fin [1,2,3,0] [1,3,4,5,58,91,92,104,148]) (.no)) (.no)) (.no)) (.ef 6 (.ef 5 (.ef 8 (.ef 9 (.fin [1,3,2,0] [1,3,4,5,58,91,92,104,148]) (.no)) (.no)) (.ef 8 (.ef 5 (.ef 9 (.fin [1,3,2,0] [1,3,4,5,58,91,92,104,148]) (.no)) (.no)) (.no))) (.no))) (.ef 5 (.ef 2 (.ef 6 (.ef 8 (.ef 9 (.fin [2,1,3,0] [1,3,4,5,58,91,92,104,148]) (.no)) (.no)) (.no)) (.ef 6 (.ef 2 (.ef 8 (.ef 9 (.fin [3,1,2,0] [1,3,4,5,58,91,92,104,148]) (.no)) (.no)) (.no)) (.no))) (.ef 6 (.ef 2 (.ef 5 (.ef 8 (.ef 9 (.fin [2,3,1,0] [1,3,4,5,58,91,92,104,148]) (.no)) (.no)) (.ef 8 (.ef 5 (.ef 9 (.fin [2,3,1,0] [1,3,4,5,58,91,92,104,148]) (.no)) (.no)) (.no))) (.ef 5 (.ef 2 (.ef 8 (.ef 9 (.fin [3,2,1,0] [1,3,4,5,58,91,92,104,148]) (.no)) (.no)) (.no)) (.no))) (.no)))) (.no))))))))
theorem sI:CN (Ax Tryz.f60 2) [2,5,6,7,8] gH:=by unfold CN;kernel_rfl
def gG:ST:=.rd 0 (.rd 1 (.rd 2 (.rd 3 (.ef 4 (.rd 5 (.ef 6 (.fin [] [1,4,5,58,91,92,104,148]) (.no))) (.no)))))
theorem sF:CN (Ax Tryz.f60 3) [4] gG:=by unfold CN;kernel_rfl
theorem sJ:Af (Ax Tryz.f60 12) [] (List.range 11) [11]:=by unfold Af;kernel_rfl
theorem sH:Af (Ax Tryz.f60 22) [] (List.range 9) [9]:=by unfold Af;kernel_rfl
theorem sG:Af (Ax Tryz.f60 26) [([0,1,2,3,4,5,6],7)] [] []:=by unfold Af;kernel_rfl
def gF:ST:=.rd 0 (.rd 1 (.rd 2 (.rd 3 (.ef 4 (.fin [] [2]) (.no)))))
theorem iG:CN (Ax Tryz.f60 30) [] gF:=by unfold CN;kernel_rfl
def EN:BJ:=fun i=>match i with
 | 2=>.tre [2,5,6,7,8] gH
 | 3=>.tre [4] gG
 | 12=>.ord [] (List.range 11) [11]
 | 22=>.ord [] (List.range 9) [9]
 | 26=>.ord [([0,1,2,3,4,5,6],7)] [] []
 | 30=>.tre [] gF
 | _=>.no
def CZ (c:AC) (q:AA) (pos:List Int) (ln:Nat) (lost:List Int):St:=⟨(AM 178 [(1,.ref 2 0),(3,.i (c.cells.length:Int)),(4,.ref 5 0),(5,.ref 6 0)]),([some (.cells (AH c++AD q++[.ints pos,.msl 1 1 0 ln])),some (.ints lost),some (.cells [.ref 0 0]),some (.ints (List.replicate ((((c.cells.length:Int)+1)).toNat) (0:Int))),some (.ints (List.replicate ((((c.cells.length:Int)+1)).toNat) (0:Int))),some (.cells [.msl 3 1 0 ((((c.cells.length:Int)+1)).toNat)]),some (.cells [.msl 4 1 0 ((((c.cells.length:Int)+1)).toNat)])]:DH)⟩
def fl (c:AC) (q:AA) (pos:List Int) (ln:Nat) (lost:List Int):St:=⟨(AM 178 [(1,.ref 2 0),(4,.ref 5 0),(5,.ref 6 0)]),([some (.cells (AH c++AD q++[.ints pos,.msl 1 1 0 ln])),some (.ints lost),some (.cells [.ref 0 0]),some (.ints ((List.replicate ((((c.cells.length:Int)+1)).toNat) (0:Int)).set (0+0) (-1))),some (.ints ((List.replicate ((((c.cells.length:Int)+1)).toNat) (0:Int)).set (0+c.cells.length) 100)),some (.cells [.msl 3 1 0 ((((c.cells.length:Int)+1)).toNat)]),some (.cells [.msl 4 1 0 ((((c.cells.length:Int)+1)).toNat)])]:DH)⟩
def zAl (c:AC) (q:AA) (pos:List Int) (ln:Nat) (lost o4:List Int) (BM:Int):DH:=[some (.cells (AH c++AD q++[.ints pos,.msl 1 1 0 ln])),some (.ints lost),some (.cells [.ref 0 0]),some (.cells [.msl 4 1 0 ((((c.cells.length:Int)+1)).toNat)]),some (.ints (o4.set (0+(((BM+1)).toNat)) 100)),some (.cells [.msl 6 1 0 ((((c.cells.length:Int)+1)).toNat)]),some (.ints ((List.replicate ((((c.cells.length:Int)+1)).toNat) (0:Int)).set (0+c.cells.length) 100)),some (.cells [.i BM])]
def zAk (c:AC) (q:AA) (pos:List Int) (ln:Nat) (lost:List Int) (BM:Int) (o4:List Int):DH:=[some (.cells (AH c++AD q++[.ints pos,.msl 1 1 0 ln])),some (.ints lost),some (.cells [.ref 0 0]),some (.cells [.msl 7 1 0 ((((c.cells.length:Int)+1)).toNat)]),some (.cells [.msl 8 1 0 ((((c.cells.length:Int)+1)).toNat)]),some (.cells [.i BM]),some (.iter ((BK (pos.getD ((c.cells.getD ((BM).toNat) 0).toNat) 0)).map B7)),some (.ints (o4.set (0+(((BM+1)).toNat)) 100)),some (.ints ((List.replicate ((((c.cells.length:Int)+1)).toNat) (0:Int)).set (0+c.cells.length) 100))]
def zAj (c:AC) (q:AA) (pos:List Int) (ln:Nat) (lost o4:List Int):DH:=[some (.cells (AH c++AD q++[.ints pos,.msl 1 1 0 ln])),some (.ints lost),some (.cells [.ref 0 0]),some (.cells [.msl 4 1 0 ((((c.cells.length:Int)+1)).toNat)]),some (.ints o4),some (.cells [.msl 6 1 0 ((((c.cells.length:Int)+1)).toNat)]),some (.ints ((List.replicate ((((c.cells.length:Int)+1)).toNat) (0:Int)).set (0+c.cells.length) 100))]
def zAi (c:AC) (q:AA) (pos:List Int) (ln:Nat) (lost:List Int) (y1:List (Int×Int)) (o4:List Int):DH:=[some (.cells (AH c++AD q++[.ints pos,.msl 1 1 0 ln])),some (.ints lost),some (.cells [.ref 0 0]),some (.cells [.msl 6 1 0 ((((c.cells.length:Int)+1)).toNat)]),some (.cells [.msl 7 1 0 ((((c.cells.length:Int)+1)).toNat)]),some (.iter ((y1).map ON)),some (.ints o4),some (.ints ((List.replicate ((((c.cells.length:Int)+1)).toNat) (0:Int)).set (0+c.cells.length) 100))]
def zAh (c:AC) (q:AA) (pos:List Int) (ln:Nat) (o1 o4 o6:List Int) (BC:Int):DH:=[some (.cells (AH c++AD q++[.ints pos,.msl 1 1 0 ln])),some (.ints o1),some (.cells [.ref 0 0]),some (.cells [.msl 4 1 0 ((((c.cells.length:Int)+1)).toNat)]),some (.ints o4),some (.cells [.msl 6 1 0 ((((c.cells.length:Int)+1)).toNat)]),some (.ints o6),some (.cells [.i BC]),some (.cells [.i (c.cells.getD ((BC).toNat) 0)])]
def zAg (c:AC) (q:AA) (pos:List Int) (ln:Nat) (o1:List Int) (BC:Int) (o4 o6:List Int):DH:=[some (.cells (AH c++AD q++[.ints pos,.msl 1 1 0 ln])),some (.ints o1),some (.cells [.ref 0 0]),some (.cells [.msl 8 1 0 ((((c.cells.length:Int)+1)).toNat)]),some (.cells [.msl 9 1 0 ((((c.cells.length:Int)+1)).toNat)]),some (.cells [.i BC]),some (.cells [.i (c.cells.getD ((BC).toNat) 0)]),some (.iter ((BK (pos.getD ((c.cells.getD ((BC).toNat) 0).toNat) 0)).map B7)),some (.ints o4),some (.ints o6)]
def zAf (c:AC) (q:AA) (pos:List Int) (ln:Nat) (lost:List Int) (BM:Int) (Fd:List Int):DH:=[some (.cells (AH c++AD q++[.ints pos,.msl 1 1 0 ln])),some (.ints lost),some (.cells [.ref 0 0]),some (.cells [.msl 7 1 0 ((((c.cells.length:Int)+1)).toNat)]),some (.cells [.msl 8 1 0 ((((c.cells.length:Int)+1)).toNat)]),some (.cells [.i BM]),none,some (.ints Fd),some (.ints ((List.replicate ((((c.cells.length:Int)+1)).toNat) (0:Int)).set (0+c.cells.length) 100))]
def zAe (c:AC) (q:AA) (pos:List Int) (ln:Nat) (lost o4 FH:List Int) (BP:Int×Int):DH:=[some (.cells (AH c++AD q++[.ints pos,.msl 1 1 0 ln])),some (.ints lost),some (.cells [.ref 0 0]),some (.cells [.msl 6 1 0 ((((c.cells.length:Int)+1)).toNat)]),some (.cells [.msl 7 1 0 ((((c.cells.length:Int)+1)).toNat)]),none,some (.ints o4),some (.ints FH),some (.cells [.i BP.1])]
def zAo (c:AC) (q:AA) (pos:List Int) (ln:Nat) (lost o4 FH:List Int) (BP:Int×Int):DH:=[some (.cells (AH c++AD q++[.ints pos,.msl 1 1 0 ln])),some (.ints lost),some (.cells [.ref 0 0]),some (.cells [.msl 6 1 0 ((((c.cells.length:Int)+1)).toNat)]),some (.cells [.msl 7 1 0 ((((c.cells.length:Int)+1)).toNat)]),none,some (.ints o4),some (.ints (FH.set (0+((BP.1).toNat)) (-1))),some (.cells [.i BP.1])]
def zAn (c:AC) (q:AA) (pos:List Int) (ln:Nat) (lost:List Int) (BP:Int×Int) (o4 FH:List Int):DH:=[some (.cells (AH c++AD q++[.ints pos,.msl 1 1 0 ln])),some (.ints lost),some (.cells [.ref 0 0]),some (.cells [.msl 8 1 0 ((((c.cells.length:Int)+1)).toNat)]),some (.cells [.msl 9 1 0 ((((c.cells.length:Int)+1)).toNat)]),none,some (.cells [.i BP.1]),some (.iter ((BK (pos.getD ((BP.2).toNat) 0)).map B7)),some (.ints o4),some (.ints (FH.set (0+((BP.1).toNat)) (-1)))]
def cP (c:AC) (q:AA) (pos:List Int) (ln:Nat) (GI:List Int) (BC:Int) (o4 o6:List Int):DH:=[some (.cells (AH c++AD q++[.ints pos,.msl 1 1 0 ln])),some (.ints GI),some (.cells [.ref 0 0]),some (.cells [.msl 8 1 0 ((((c.cells.length:Int)+1)).toNat)]),some (.cells [.msl 9 1 0 ((((c.cells.length:Int)+1)).toNat)]),some (.cells [.i BC]),some (.cells [.i (c.cells.getD ((BC).toNat) 0)]),none,some (.ints o4),some (.ints o6)]
def Uy (c:AC) (q:AA) (pos:List Int) (ln:Nat) (JE:(List Int)) (BC:Int) (o4 o6:List Int):St:=⟨(AM 178 []),([some (.cells (AH c++AD q++[.ints pos,.msl 1 1 0 ln])),some (.ints JE),some (.cells [.ref 0 0]),some (.cells [.msl 8 1 0 ((((c.cells.length:Int)+1)).toNat)]),some (.cells [.msl 9 1 0 ((((c.cells.length:Int)+1)).toNat)]),some (.cells [.i BC]),some (.cells [.i (c.cells.getD ((BC).toNat) 0)]),none,some (.ints o4),some (.ints o6)]:DH)⟩
def zAm (c:AC) (q:AA) (pos:List Int) (ln:Nat) (lost:List Int) (BP:Int×Int) (o4 Fe:List Int):DH:=[some (.cells (AH c++AD q++[.ints pos,.msl 1 1 0 ln])),some (.ints lost),some (.cells [.ref 0 0]),some (.cells [.msl 8 1 0 ((((c.cells.length:Int)+1)).toNat)]),some (.cells [.msl 9 1 0 ((((c.cells.length:Int)+1)).toNat)]),none,some (.cells [.i BP.1]),none,some (.ints o4),some (.ints Fe)]
inductive LU where
 | s0 (Fe:List Int)
def il (c:AC) (q:AA) (pos:List Int) (ln:Nat) (lost:List Int) (BP:Int×Int) (o4:List Int):LU -> DH
 | .s0 Fe=>[some (.cells (AH c++AD q++[.ints pos,.msl 1 1 0 ln])),some (.ints lost),some (.cells [.ref 0 0]),some (.cells [.msl 8 1 0 ((((c.cells.length:Int)+1)).toNat)]),some (.cells [.msl 9 1 0 ((((c.cells.length:Int)+1)).toNat)]),none,some (.cells [.i BP.1]),none,some (.ints o4),some (.ints Fe)]
def VT (n:Nat) (c:AC) (q:AA) (pos:List Int) (ln:Nat) (lost:List Int) (BP:Int×Int) (o4:List Int) (Gp:Int) (Fe:List Int):Option LU:=
 if (0<=Gp/\ Gp<(q.values.length:Int))/\ AG (BP.1+1)/\ (0<=(BP.1+1)/\ (BP.1+1)<(((((c.cells.length:Int)+1)).toNat:Nat):Int))/\ 0+(((BP.1+1)).toNat)<Fe.length then
  bif (decide ((q.values.getD ((Gp).toNat) 0)<(Fe.getD (0+(((BP.1+1)).toNat)) 0))) then
   if (0<=BP.1/\ BP.1<(((((c.cells.length:Int)+1)).toNat:Nat):Int))/\ 0+((BP.1).toNat)<Fe.length then
    some (.s0 (Fe.set (0+((BP.1).toNat)) (if (q.values.getD ((Gp).toNat) 0)>(Fe.getD (0+((BP.1).toNat)) 0) then (q.values.getD ((Gp).toNat) 0) else (Fe.getD (0+((BP.1).toNat)) 0))))
   else none
  else
   some (.s0 Fe)
 else none
def ik (n:Nat) (c:AC) (q:AA) (pos:List Int) (ln:Nat) (lost:List Int) (BP:Int×Int) (o4:List Int) (Gp:Int):LU -> Option LU
 | .s0 Fe=>VT n c q pos ln lost BP o4 Gp Fe
def Ri (n:Nat) (c:AC) (q:AA) (pos:List Int) (ln:Nat) (lost:List Int) (BP:Int×Int) (o4:List Int) (Gp:Int) (s:LU):Option LU:=ik n c q pos ln lost BP o4 Gp s
theorem uO (n:Nat) (c:AC) (q:AA) (pos:List Int) (ln:Nat) (lost:List Int) (BP:Int×Int) (o4:List Int) (l B:Nat) (N:Yd 8) (Gp:Int) (s:LU) (r:LU) (h:Ri n c q pos ln lost BP o4 Gp s=some r):TA l B N (DX 8 [] 0 (il c q pos ln lost BP o4 r)) Tryz.f60 103 ⟨AM 178 [(1,.ref 2 0),(5,.ref 4 0),(10,.ref 6 0),(103,.it 7),(104,.i Gp)],il c q pos ln lost BP o4 s⟩:=by
 cases s with
 | s0 Fe=>
  replace h:VT n c q pos ln lost BP o4 Gp Fe=some r:=h;unfold VT at h;refine ag EN [0,1,2,3,4,5,6,7,8,9] H0 (AM 178 [(1,.ref 2 0),(5,.ref 4 0),(10,.ref 6 0),(12,.i Gp)]) (zAm c q pos ln lost BP o4 Fe) fun N=>?_
  revert r;apply gO;exact gc (gi (gc (gw 116 (gc (gi (gi (bi 119 (jg sH (gc (gn fun pi=>jg pi (gn fun ph=>jg ph (jg pi (jg ph (lF fun p=>rr EN [0,1,2,3,4,5,6,7,8,9] rfl p))))))) (lF fun p=>rr EN [0,1,2,3,4,5,6,7,8,9] rfl p))))))))
inductive KJ where
 | s0 (GI:List Int)
def ir (c:AC) (BC:Int) (q:AA) (pos:List Int) (ln:Nat) (o4 o6:List Int):KJ -> DH
 | .s0 GI=>[some (.cells (AH c++AD q++[.ints pos,.msl 1 1 0 ln])),some (.ints GI),some (.cells [.ref 0 0]),some (.cells [.msl 8 1 0 ((((c.cells.length:Int)+1)).toNat)]),some (.cells [.msl 9 1 0 ((((c.cells.length:Int)+1)).toNat)]),some (.cells [.i BC]),some (.cells [.i (c.cells.getD ((BC).toNat) 0)]),none,some (.ints o4),some (.ints o6)]
def VV (n:Nat) (c:AC) (BC:Int) (q:AA) (pos:List Int) (ln:Nat) (o4 o6:List Int) (E8:Int) (GI:List Int):Option KJ:=
 if (0<=E8/\ E8<(q.values.length:Int))/\ (0<=BC/\ BC<(((((c.cells.length:Int)+1)).toNat:Nat):Int))/\ 0+((BC).toNat)<o4.length then
  bif (decide ((q.values.getD ((E8).toNat) 0)<=(o4.getD (0+((BC).toNat)) 0))) then
   if 0<=E8/\ E8<=(IntKind.i64.bits:Int) then
    (DJ n (c.cells.getD ((BC).toNat) 0) (IntKind.i64.wrap (1*2 ^ (E8).toNat)) c q pos ln GI).bind fun JE=>
     some (.s0 JE)
   else none
  else
   if AG (BC+1)/\ (0<=(BC+1)/\ (BC+1)<(((((c.cells.length:Int)+1)).toNat:Nat):Int))/\ 0+(((BC+1)).toNat)<o6.length then
    bif (decide ((q.values.getD ((E8).toNat) 0)>=(o6.getD (0+(((BC+1)).toNat)) 0))) then
     if 0<=E8/\ E8<=(IntKind.i64.bits:Int) then
      (DJ n (c.cells.getD ((BC).toNat) 0) (IntKind.i64.wrap (1*2 ^ (E8).toNat)) c q pos ln GI).bind fun JE=>
       some (.s0 JE)
     else none
    else
     some (.s0 GI)
   else none
 else none
def iq (n:Nat) (c:AC) (BC:Int) (q:AA) (pos:List Int) (ln:Nat) (o4 o6:List Int) (E8:Int):KJ -> Option KJ
 | .s0 GI=>VV n c BC q pos ln o4 o6 E8 GI
def VW (n:Nat) (c:AC) (BC:Int) (q:AA) (pos:List Int) (ln:Nat) (o4 o6:List Int) (E8:Int) (s:KJ):Option KJ:=iq n c BC q pos ln o4 o6 E8 s
theorem uQ (n:Nat) (c:AC) (BC:Int) (q:AA) (pos:List Int) (ln:Nat) (o4 o6:List Int) (l B:Nat) (N:Yd 8) (E8:Int) (s:KJ) (r:KJ) (h:VW n c BC q pos ln o4 o6 E8 s=some r):TA l B N (DX 8 [] 0 (ir c BC q pos ln o4 o6 r)) Tryz.f60 147 ⟨AM 178 [(1,.ref 2 0),(4,.ref 3 0),(5,.ref 4 0),(14,.ref 5 0),(15,.ref 6 0),(133,.ints c.cells),(134,.i (c.cells.length:Int)),(135,.i BC),(147,.it 7),(148,.i E8)],ir c BC q pos ln o4 o6 s⟩:=by
 cases s with
 | s0 GI=>
  replace h:VV n c BC q pos ln o4 o6 E8 GI=some r:=h;unfold VV at h;refine ag EN [0,1,2,3,4,5,6,7,8,9] H0 (AM 178 [(1,.ref 2 0),(4,.ref 3 0),(5,.ref 4 0),(14,.ref 5 0),(15,.ref 6 0),(16,.i E8)]) (cP c q pos ln GI BC o4 o6) fun N=>?_
  revert r;apply gO;exact gc (gi (gc (gi (gi (bi 162 (jg iG (gi (ce Fv [0,1] (cP c q pos ln GI BC o4 o6) fun JE=>jg (Eq.refl (Uy c q pos ln JE BC o4 o6)) (lF fun p=>rr (tg:=[([],(Uy c q pos ln JE BC o4 o6))]) EN [0,1,2,3,4,5,6,7,8,9] rfl p)))) (gc (gw 167 (gc (gi (gi (bi 170 (jg iG (gi (ce Fv [0,1] (cP c q pos ln GI BC o4 o6) fun JE=>jg (Eq.refl (Uy c q pos ln JE BC o4 o6)) (lF fun p=>rr (tg:=[([],(Uy c q pos ln JE BC o4 o6))]) EN [0,1,2,3,4,5,6,7,8,9] rfl p)))) (lF fun p=>rr EN [0,1,2,3,4,5,6,7,8,9] rfl p))))))))))))
inductive LV where
 | s0 (FH:List Int)
def im (c:AC) (q:AA) (pos:List Int) (ln:Nat) (lost o4:List Int):LV -> DH
 | .s0 FH=>[some (.cells (AH c++AD q++[.ints pos,.msl 1 1 0 ln])),some (.ints lost),some (.cells [.ref 0 0]),some (.cells [.msl 6 1 0 ((((c.cells.length:Int)+1)).toNat)]),some (.cells [.msl 7 1 0 ((((c.cells.length:Int)+1)).toNat)]),none,some (.ints o4),some (.ints FH)]
def VS (n:Nat) (c:AC) (q:AA) (pos:List Int) (ln:Nat) (lost o4:List Int) (BP:Int×Int) (FH:List Int):Option LV:=
 if (0<=BP.1/\ BP.1<(((((c.cells.length:Int)+1)).toNat:Nat):Int))/\ 0+((BP.1).toNat)<FH.length/\ (0<=BP.2/\ BP.2<(pos.length:Int))/\ (0<=(pos.getD ((BP.2).toNat) 0)/\ (pos.getD ((BP.2).toNat) 0)<9223372036854775808) then
  (CC (Ri n c q pos ln lost BP o4) (BK (pos.getD ((BP.2).toNat) 0)) (.s0 (FH.set (0+((BP.1).toNat)) (-1)))).bind fun dz=>
   match dz with
   | .s0 pb=>
    some (.s0 pb)
 else none
def ij (n:Nat) (c:AC) (q:AA) (pos:List Int) (ln:Nat) (lost o4:List Int) (BP:Int×Int):LV -> Option LV
 | .s0 FH=>VS n c q pos ln lost o4 BP FH
def Rj (n:Nat) (c:AC) (q:AA) (pos:List Int) (ln:Nat) (lost o4:List Int) (BP:Int×Int) (s:LV):Option LV:=ij n c q pos ln lost o4 BP s
theorem uN (n:Nat) (c:AC) (q:AA) (pos:List Int) (ln:Nat) (lost o4:List Int) (l B:Nat) (N:Yd 6) (BP:Int×Int) (s:LV) (r:LV) (h:Rj n c q pos ln lost o4 BP s=some r):TA l B N (DX 6 [] 0 (im c q pos ln lost o4 r)) Tryz.f60 90 ⟨AM 178 [(1,.ref 2 0),(4,.ref 3 0),(5,.ref 4 0),(90,.it 5),(91,.i BP.1),(92,.i BP.2)],im c q pos ln lost o4 s⟩:=by
 cases s with
 | s0 FH=>
  replace h:VS n c q pos ln lost o4 BP FH=some r:=h;unfold VS at h;refine ag EN [0,1,2,3,4,5,6,7,8] (H0.t) (AM 178 [(1,.ref 2 0),(5,.ref 4 0),(10,.ref 8 0),(11,.i BP.2)]) (zAe c q pos ln lost o4 FH BP) fun N=>?_
  revert r;apply gO
  exact gc (gi (gc (gi (gc (gi (gn fun zEU=>jc (KB zEU (zAo c q pos ln lost o4 FH BP)) (cn fun dz zB3=>fun p r h=>by
   refine gs EN [0,1,2,3,4,5,8,9,6,7] p (HU (VX Tryz.f60 90) 103 []) (AM 178 [(1,.ref 2 0),(5,.ref 4 0),(10,.ref 6 0),(103,.it 7)]) (zAn c q pos ln lost BP o4 FH) ?_;refine r0 7 103 #[104] B7 8 zB3 (uO n c q pos ln lost BP o4) ?_;cases dz with
   | s0 pb=>
    dsimp only at h
    revert r;apply gO;exact lF fun p=>rr EN [0,1,2,3,4,5,8,9] rfl p)))))))
inductive LW where
 | s0 (Fd:List Int)
def ip (c:AC) (BM:Int) (q:AA) (pos:List Int) (ln:Nat) (lost:List Int):LW -> DH
 | .s0 Fd=>[some (.cells (AH c++AD q++[.ints pos,.msl 1 1 0 ln])),some (.ints lost),some (.cells [.ref 0 0]),some (.cells [.msl 7 1 0 ((((c.cells.length:Int)+1)).toNat)]),some (.cells [.msl 8 1 0 ((((c.cells.length:Int)+1)).toNat)]),some (.cells [.i BM]),none,some (.ints Fd),some (.ints ((List.replicate ((((c.cells.length:Int)+1)).toNat) (0:Int)).set (0+c.cells.length) 100))]
def VU (n:Nat) (c:AC) (BM:Int) (q:AA) (pos:List Int) (ln:Nat) (lost:List Int) (Gn:Int) (Fd:List Int):Option LW:=
 if (0<=Gn/\ Gn<(q.values.length:Int))/\ (0<=BM/\ BM<(((((c.cells.length:Int)+1)).toNat:Nat):Int))/\ 0+((BM).toNat)<Fd.length then
  bif (decide ((q.values.getD ((Gn).toNat) 0)>(Fd.getD (0+((BM).toNat)) 0))) then
   if AG (BM+1)/\ (0<=(BM+1)/\ (BM+1)<(((((c.cells.length:Int)+1)).toNat:Nat):Int))/\ 0+(((BM+1)).toNat)<Fd.length then
    some (.s0 (Fd.set (0+(((BM+1)).toNat)) (if (q.values.getD ((Gn).toNat) 0)<(Fd.getD (0+(((BM+1)).toNat)) 0) then (q.values.getD ((Gn).toNat) 0) else (Fd.getD (0+(((BM+1)).toNat)) 0))))
   else none
  else
   some (.s0 Fd)
 else none
def io (n:Nat) (c:AC) (BM:Int) (q:AA) (pos:List Int) (ln:Nat) (lost:List Int) (Gn:Int):LW -> Option LW
 | .s0 Fd=>VU n c BM q pos ln lost Gn Fd
def Rk (n:Nat) (c:AC) (BM:Int) (q:AA) (pos:List Int) (ln:Nat) (lost:List Int) (Gn:Int) (s:LW):Option LW:=io n c BM q pos ln lost Gn s
theorem uP (n:Nat) (c:AC) (BM:Int) (q:AA) (pos:List Int) (ln:Nat) (lost:List Int) (l B:Nat) (N:Yd 7) (Gn:Int) (s:LW) (r:LW) (h:Rk n c BM q pos ln lost Gn s=some r):TA l B N (DX 7 [] 0 (ip c BM q pos ln lost r)) Tryz.f60 57 ⟨AM 178 [(1,.ref 2 0),(4,.ref 3 0),(5,.ref 4 0),(6,.ref 5 0),(39,.ints c.cells),(40,.i (c.cells.length:Int)),(41,.i BM),(57,.it 6),(58,.i Gn)],ip c BM q pos ln lost s⟩:=by
 cases s with
 | s0 Fd=>
  replace h:VU n c BM q pos ln lost Gn Fd=some r:=h;unfold VU at h;refine ag EN [0,1,2,3,4,5,6,7,8] H0 (AM 178 [(1,.ref 2 0),(4,.ref 3 0),(6,.ref 5 0),(8,.i Gn)]) (zAf c q pos ln lost BM Fd) fun N=>?_
  revert r;apply gO;exact gc (gi (gc (gi (gi (bi 72 (jg sJ (gc (gn fun pg=>jw 75 pg (jw 78 pg (gc (gn fun pf=>jg pf (gn fun pd=>jg pd (jg pf (jg pd (lF fun p=>rr EN [0,1,2,3,4,5,6,7,8] rfl p)))))))))) (lF fun p=>rr EN [0,1,2,3,4,5,6,7,8] rfl p))))))
inductive Rl where
 | l1 (BM:Int) (o4:List Int)
 | l2 (BC:Int) (o1 o4 o6:List Int)
def Rh (n:Nat) (self:Rl -> Option (Bool×(List Int))) (c:AC) (q:AA) (pos:List Int) (ln:Nat) (lost:List Int) (BM:Int) (o4:List Int):Option (Bool×(List Int)):=
 bif (decide (BM<(c.cells.length:Int))) then
  if (0<=BM/\ BM<(c.cells.length:Int))/\ AG (BM+1)/\ (0<=(BM+1)/\ (BM+1)<(((((c.cells.length:Int)+1)).toNat:Nat):Int))/\ 0+(((BM+1)).toNat)<o4.length/\ (0<=(c.cells.getD ((BM).toNat) 0)/\ (c.cells.getD ((BM).toNat) 0)<(pos.length:Int))/\ (0<=(pos.getD ((c.cells.getD ((BM).toNat) 0).toNat) 0)/\ (pos.getD ((c.cells.getD ((BM).toNat) 0).toNat) 0)<9223372036854775808) then
   (CC (Rk n c BM q pos ln lost) (BK (pos.getD ((c.cells.getD ((BM).toNat) 0).toNat) 0)) (.s0 (o4.set (0+(((BM+1)).toNat)) 100))).bind fun y1=>
    match y1 with
    | .s0 Db=>
     if AG (BM+1) then
      self (.l1 (BM+1) Db)
     else none
  else none
 else
  (back n c.cells).bind fun y1=>
   (CC (Rj n c q pos ln lost o4) y1 (.s0 ((List.replicate ((((c.cells.length:Int)+1)).toNat) (0:Int)).set (0+c.cells.length) 100))).bind fun y2=>
    match y2 with
    | .s0 LA=>
     self (.l2 0 lost o4 LA)
def Rg (n:Nat) (self:Rl -> Option (Bool×(List Int))) (c:AC) (q:AA) (pos:List Int) (ln:Nat) (lost:List Int) (BC:Int) (o1 o4 o6:List Int):Option (Bool×(List Int)):=
 bif (decide (BC<(c.cells.length:Int))) then
  if (0<=BC/\ BC<(c.cells.length:Int))/\ (0<=(c.cells.getD ((BC).toNat) 0)/\ (c.cells.getD ((BC).toNat) 0)<(pos.length:Int))/\ (0<=(pos.getD ((c.cells.getD ((BC).toNat) 0).toNat) 0)/\ (pos.getD ((c.cells.getD ((BC).toNat) 0).toNat) 0)<9223372036854775808) then
   (CC (VW n c BC q pos ln o4 o6) (BK (pos.getD ((c.cells.getD ((BC).toNat) 0).toNat) 0)) (.s0 o1)).bind fun y1=>
    match y1 with
    | .s0 Db=>
     if AG (BC+1) then
      self (.l2 (BC+1) Db o4 o6)
     else none
  else none
 else
  some (true,o1)
def ii (n:Nat) (self:Rl -> Option (Bool×(List Int))) (c:AC) (q:AA) (pos:List Int) (ln:Nat) (lost:List Int):Option (Bool×(List Int)):=
 if AG ((c.cells.length:Int)+1)/\ ((((c.cells.length:Int)+1):Int)=((c.cells.length:Int)+1)/\ (0:Int)<=((c.cells.length:Int)+1)/\ (((c.cells.length:Int)+1):Int)<=1000000000000)/\ ((0:Int)<=0/\ 0<(((((c.cells.length:Int)+1)).toNat:Nat):Int))/\ 0+0<(List.replicate ((((c.cells.length:Int)+1)).toNat) (0:Int)).length/\ (0<=(c.cells.length:Int)/\ (c.cells.length:Int)<(((((c.cells.length:Int)+1)).toNat:Nat):Int))/\ 0+c.cells.length<(List.replicate ((((c.cells.length:Int)+1)).toNat) (0:Int)).length then
  self (.l1 0 ((List.replicate ((((c.cells.length:Int)+1)).toNat) (0:Int)).set (0+0) (-1)))
 else none
def Hq (c:AC) (q:AA) (pos:List Int) (ln:Nat) (lost:List Int):Nat -> Rl -> Option (Bool×(List Int))
 | 0,_=>none
 | n+1,.l1 BM o4=>Rh n (Hq c q pos ln lost n) c q pos ln lost BM o4
 | n+1,.l2 BC o1 o4 o6=>Rg n (Hq c q pos ln lost n) c q pos ln lost BC o1 o4 o6
def LX (n:Nat) (c:AC) (q:AA) (pos:List Int) (ln:Nat) (lost:List Int):Option (Bool×(List Int)):=ii n (Hq c q pos ln lost n) c q pos ln lost
def uR (n B:Nat) (N:Yd 2) (c:AC) (q:AA) (pos:List Int) (ln:Nat) (lost:List Int) (r:Bool×(List Int)):Rl -> Prop
 | .l1 BM o4=>∀ m0:Nat,n<=m0 -> TW B N (FQ Tryz.f60 2 (.bool r.1) [some (.cells (AH c++AD q++[.ints pos,.msl 1 1 0 ln])),some (.ints r.2)]) (Ah m0 (Ap (AW Tryz.f60) 0 [])) ⟨AM 178 [(1,.ref 2 0),(4,.ref 3 0),(5,.ref 5 0),(39,.ints c.cells),(40,.i (c.cells.length:Int)),(41,.i BM)],[some (.cells (AH c++AD q++[.ints pos,.msl 1 1 0 ln])),some (.ints lost),some (.cells [.ref 0 0]),some (.cells [.msl 4 1 0 ((((c.cells.length:Int)+1)).toNat)]),some (.ints o4),some (.cells [.msl 6 1 0 ((((c.cells.length:Int)+1)).toNat)]),some (.ints ((List.replicate ((((c.cells.length:Int)+1)).toNat) (0:Int)).set (0+c.cells.length) 100))]⟩
 | .l2 BC o1 o4 o6=>∀ m0:Nat,n<=m0 -> TW B N (FQ Tryz.f60 2 (.bool r.1) [some (.cells (AH c++AD q++[.ints pos,.msl 1 1 0 ln])),some (.ints r.2)]) (Ah m0 (Ap (AW Tryz.f60) 8 [])) ⟨AM 178 [(1,.ref 2 0),(4,.ref 3 0),(5,.ref 5 0),(133,.ints c.cells),(134,.i (c.cells.length:Int)),(135,.i BC)],[some (.cells (AH c++AD q++[.ints pos,.msl 1 1 0 ln])),some (.ints o1),some (.cells [.ref 0 0]),some (.cells [.msl 4 1 0 ((((c.cells.length:Int)+1)).toNat)]),some (.ints o4),some (.cells [.msl 6 1 0 ((((c.cells.length:Int)+1)).toNat)]),some (.ints o6)]⟩
theorem uS (B:Nat) (N:Yd 2) (c:AC) (q:AA) (pos:List Int) (ln:Nat) (lost:List Int):Al (Hq c q pos ln lost) (uR · B N c q pos ln lost):=ia (fun _=>rfl) fun n AF pt r h=>by
 cases pt
 case l1 BM o4=>
  intro m0 AB;refine rd AB fun m0 AB=>?_
  revert r;apply gO
  exact bi 42 (gc (gi (jt (gc (gw 48 (gc (gi (gc (gi (gc (gi (gn fun g5=>jc (KB g5 (zAl c q pos ln lost o4 BM)) (cn fun y1 A1=>fun p r h=>by
   refine gs EN [0,1,2,3,5,7,8,4,6] p (HU (AW Tryz.f60) 57 [m0]) (AM 178 [(1,.ref 2 0),(4,.ref 3 0),(5,.ref 4 0),(6,.ref 5 0),(39,.ints c.cells),(40,.i (c.cells.length:Int)),(41,.i BM),(57,.it 6)]) (zAk c q pos ln lost BM o4) ?_;refine r0 6 57 #[58] B7 7 A1 (uP n c BM q pos ln lost) ?_;cases y1 with
   | s0 Db=>
    dsimp only at h
    revert r;apply gO;exact gw 84 (lG EN [0,1,2,3,7,4,8] (AF _ _ · m0 AB))))))))))))))) (cn fun y1 A1=>jc (zES A1 (zAj c q pos ln lost o4)) (cn fun y2 CF=>fun p r h=>by
   refine gs EN [0,1,2,3,5,7,4,6] p (HU (AW Tryz.f60) 90 []) (AM 178 [(1,.ref 2 0),(4,.ref 3 0),(5,.ref 4 0),(90,.it 5)]) (zAi c q pos ln lost y1 o4) ?_;refine r0 5 90 #[91,92] ON 6 CF (uN n c q pos ln lost o4) ?_;cases y2 with
   | s0 LA=>
    dsimp only at h
    revert r;apply gO;exact lN EN [0,1,2,3,6,4,7] (AF _ _ · n Nat.le.refl)))
 case l2 BC o1 o4 o6=>
  intro m0 AB;refine rd AB fun m0 AB=>?_
  revert r;apply gO
  exact bi 136 (gc (gi (jt (jt (jg sG (gc (gi (gn fun g2=>jc (KB g2 (zAh c q pos ln o1 o4 o6 BC)) (cn fun y1 A1=>fun p r h=>by
   refine gs EN [0,1,2,3,5,7,8,9,4,6] p (HU (AW Tryz.f60) 147 [m0]) (AM 178 [(1,.ref 2 0),(4,.ref 3 0),(5,.ref 4 0),(14,.ref 5 0),(15,.ref 6 0),(133,.ints c.cells),(134,.i (c.cells.length:Int)),(135,.i BC),(147,.it 7)]) (zAg c q pos ln o1 BC o4 o6) ?_;refine r0 7 147 #[148] B7 8 A1 (uQ n c BC q pos ln o4 o6) ?_;cases y1 with
   | s0 Db=>
    dsimp only at h
    revert r;apply gO;exact gw 177 (lG EN [0,1,2,3,8,4,9] (AF _ _ · m0 AB))))))))))) (lE EN [2] [0,1])
theorem uM {n:Nat} {c:AC} {q:AA} {pos:List Int} {ln:Nat} {lost:List Int} {r:Bool×(List Int)} (h:LX n c q pos ln lost=some r):EQ 60 [.ref 0 0] [some (.cells (AH c++AD q++[.ints pos,.msl 1 1 0 ln])),some (.ints lost)] (.bool r.1) [some (.cells (AH c++AD q++[.ints pos,.msl 1 1 0 ln])),some (.ints r.2)] false:=by
 refine ot Tryz.func60 fun B N=>?_
 revert r;apply gO;exact jg sI (gc (gn fun g0=>jw 25 g0 (jw 28 g0 (gc (gn fun g1=>jg g1 (jg g1 (jt (jt (jg (Eq.refl (CZ c q pos ln lost)) (jt (jt (jg (Eq.refl (CZ c q pos ln lost)) (jg g1 (jt (jt (jg (Eq.refl (CZ c q pos ln lost)) (jg g1 (jt (jt (jg (Eq.refl (CZ c q pos ln lost)) (jt (jg g1 (jt (jg (Eq.refl (CZ c q pos ln lost)) (jg g1 (jt (jt (jg (Eq.refl (CZ c q pos ln lost)) (jg g1 (jt (jt (jg (Eq.refl (CZ c q pos ln lost)) (jt (jg g1 (jt (jg (Eq.refl (CZ c q pos ln lost)) (jg g1 (jg g1 (jt (jt (jg (Eq.refl (CZ c q pos ln lost)) (jt (jt (jg (Eq.refl (CZ c q pos ln lost)) (jg g1 (jt (jt (jg (Eq.refl (CZ c q pos ln lost)) (jg g1 (jt (jt (jg (Eq.refl (CZ c q pos ln lost)) (jg g1 (jt (jt (jg (Eq.refl (CZ c q pos ln lost)) (jg g1 (jt (jt (jg (Eq.refl (CZ c q pos ln lost)) (jg g1 (jg g1 (jt (jt (jg (Eq.refl (CZ c q pos ln lost)) (jg g1 (jt (jt (jg (Eq.refl (CZ c q pos ln lost)) (jt (jg g1 (jt (jg (Eq.refl (CZ c q pos ln lost)) (jg g1 (jg g1 (jt (jt (jg (Eq.refl (CZ c q pos ln lost)) (jg g1 (jt (jt (jg (Eq.refl (CZ c q pos ln lost)) (jg g1 (jg g1 (jt (jt (jg (Eq.refl (CZ c q pos ln lost)) (jt (jg g1 (jt (jg (Eq.refl (CZ c q pos ln lost)) (jg g1 (jg g1 (jt (jt (jg (Eq.refl (CZ c q pos ln lost)) (jg g1 (jg g1 (jt (jt (jg (Eq.refl (CZ c q pos ln lost)) (jg g1 (jt (jt (jg (Eq.refl (CZ c q pos ln lost)) (jt (jg g1 (jt (jg (Eq.refl (CZ c q pos ln lost)) (jg g1 (jg g1 (jt (jt (jg (Eq.refl (CZ c q pos ln lost)) (jg g1 (jt (jt (jg (Eq.refl (CZ c q pos ln lost)) (jg g1 (jg g1 (jt (jt (jg (Eq.refl (CZ c q pos ln lost)) (jt (jg g1 (jt (jg (Eq.refl (CZ c q pos ln lost)) (jg g1 (jg g1 (jt (jt (jg (Eq.refl (CZ c q pos ln lost)) (jg sF (gc (gi (gc (gi (gc (gi (gi (jg (Eq.refl (fl c q pos ln lost)) (lN (tg:=[([],(CZ c q pos ln lost)),([(4,3)],(fl c q pos ln lost))]) EN [0,1,2,5,3,6,4] ((uS B N c q pos ln lost n) _ _ · n Nat.le.refl)))))))))))))))))))))))))))))))))))))))))))))))))))))))))))))))))))))))))))))))))))))))))))))))))))))))))))))))))))))))))))))))))))))))))))))))
end Go.Proofs.YtekkngkphejfcaaGreatDoor
namespace Go.Proofs.YtekkngkphejfcaaGreatDoor
open Go.RowKit
theorem I2 {l:List Int} {i:Nat} {a:Int} (h:i<l.length):(l.set i a).getD i 0=a:=by
 rw [u8,zFN h];rfl
theorem getD_set_ne {l:List Int} {i j:Nat} {a:Int} (h:i≠j):(l.set i a).getD j 0=l.getD j 0:=by
 rw [u8,zFJ h,←u8]
def JL (q:AA) (b a e:Int):Int:=if q.values.getD e.toNat 0>b then (if q.values.getD e.toNat 0<a then q.values.getD e.toNat 0 else a) else a
def I6 (q:AA) (b a e:Int):Int:=if q.values.getD e.toNat 0<b then (if q.values.getD e.toNat 0>a then q.values.getD e.toNat 0 else a) else a
def FT (q:AA) (c:AC) (pos:List Int):Nat -> Int
 | 0=>-1
 | i+1=>(BK (AL c pos i)).foldl (JL q (FT q c pos i)) 100
def Gv (q:AA) (c:AC) (pos:List Int):Nat -> Int
 | 0=>100
 | m+1=>(BK (AL c pos (c.cells.length-1-m))).foldl (I6 q (Gv q c pos m)) (-1)
def IG (q:AA) (c:AC) (pos:List Int) (i:Nat):Int:=Gv q c pos (c.cells.length-i)
def Gd (q:AA) (c:AC) (pos:List Int) (a s:Nat):Bool:=decide (q.values.getD s 0<=FT q c pos a)||decide (q.values.getD s 0>=IG q c pos (a+1))
def US (l:List Int):Nat -> List (Int×Int)
 | 0=>[]
 | m+1=>((m:Int),l.getD m 0)::US l m
theorem pY {l:List Int}: ∀ (m n:Nat),m<=l.length -> l.length<=LB -> m+1<=n -> MN l n (.l1 ((m:Int)-1))=some (US l m)
 | 0,n,_,_,hn=>by
  obtain ⟨n,rfl⟩: ∃ k,n=k+1:=⟨n-1,by omega⟩
  show OR n (MN l n) l _=_
  unfold OR;rw [zAA (by omega),zAD];rfl
 | m+1,n,hm,hl,hn=>by
  obtain ⟨n,rfl⟩: ∃ k,n=k+1:=⟨n-1,by omega⟩;have e:((m+1:Nat):Int)-1=(m:Int):=by omega
  have hb:LB<=9223372036854775807:=by decide
  rw [e]
  show OR n (MN l n) l _=_
  unfold OR;rw [zBC (by omega),zBA,zAE ⟨by omega,by omega⟩,zAE (Ae.2 ⟨by omega,by omega⟩),pY m n (by omega) hl (by omega),zAB];rfl
theorem zEP {l:List Int} {n:Nat} (hl:l.length<=LB) (hn:l.length+1<=n):back n l=some (US l l.length):=by
 have hb:LB<=9223372036854775807:=by decide
 unfold back dx;rw [zAE (Ae.2 ⟨by omega,by omega⟩),pY l.length n (zBa _) hl hn]
section
variable {c:AC} {k:Nat} {pos lost:List Int} {q:AA}
theorem ib {n ln i:Nat} (Ak:c.cells.length<=256) (hi:i<c.cells.length) {o:List Int} (ho:o.length=c.cells.length+1): ∀ (l:List Int) (a:Int),(∀ e∈l,0<=e/\ e<((q.values.length:Nat):Int)) ->
 CC (Rk n c (i:Int) q pos ln lost) l (.s0 (o.set (i+1) a))=some (.s0 (o.set (i+1) (l.foldl (JL q (o.getD i 0)) a)))
 | [],_,_=>rfl
 | e::l,a,h=>by
  have t1:((((c.cells.length:Nat):Int)+1).toNat:Nat)=c.cells.length+1:=by omega
  have t2:(((i:Int)+1).toNat:Nat)=i+1:=by omega
  have e1:Rk n c (i:Int) q pos ln lost e (.s0 (o.set (i+1) a))=some (.s0 (o.set (i+1) (JL q (o.getD i 0) a e))):=by
   unfold Rk io VU
   dsimp only
   simp only [zAB,t1,t2,zBj,zBo,ho];rw [zAE ⟨h e (.head _),by omega,by omega⟩,getD_set_ne (by omega),I2 (by omega),List.set_set];unfold JL
   by_cases hA:q.values.getD e.toNat 0>o.getD i 0
   ·rw [zBC hA,zBA,zAE ⟨Ae.2 ⟨by omega,by omega⟩,by omega,by omega⟩,zAE hA]
   ·rw [zAA hA,zAD,zBP hA]
  simp only [CC];rw [e1,zA9,ib Ak hi ho l _ fun e he=>h e (.tail _ he)];rfl
theorem ic {n ln i:Nat} {x:Int} {o4:List Int} (Ak:c.cells.length<=256) (hi:i<c.cells.length) {o:List Int} (ho:o.length=c.cells.length+1): ∀ (l:List Int) (a:Int),(∀ e∈l,0<=e/\ e<((q.values.length:Nat):Int)) ->
 CC (Ri n c q pos ln lost ((i:Int),x) o4) l (.s0 (o.set i a))=some (.s0 (o.set i (l.foldl (I6 q (o.getD (i+1) 0)) a)))
 | [],_,_=>rfl
 | e::l,a,h=>by
  have t1:((((c.cells.length:Nat):Int)+1).toNat:Nat)=c.cells.length+1:=by omega
  have t2:(((i:Int)+1).toNat:Nat)=i+1:=by omega
  have e1:Ri n c q pos ln lost ((i:Int),x) o4 e (.s0 (o.set i a))=some (.s0 (o.set i (I6 q (o.getD (i+1) 0) a e))):=by
   unfold Ri ik VT
   dsimp only
   simp only [zAB,t1,t2,zBj,zBo,ho];rw [zAE ⟨h e (.head _),Ae.2 ⟨by omega,by omega⟩,by omega,by omega⟩,getD_set_ne (by omega),I2 (by omega),List.set_set];unfold I6
   by_cases hA:q.values.getD e.toNat 0<o.getD (i+1) 0
   ·rw [zBC hA,zBA,zAE ⟨by omega,by omega⟩,zAE hA]
   ·rw [zAA hA,zAD,zBP hA]
  simp only [CC];rw [e1,zA9,ic Ak hi ho l _ fun e he=>h e (.tail _ he)];rfl
theorem Sm.i63 (hk:k<=16) {x:Int} (h:Sm k x):0<=x/\ x<9223372036854775808:=by
 have h1:=Je (k:=k) (zBO hk (by decide));obtain ⟨h2,h3⟩:=h;omega
theorem ig {n:Nat} {o4:List Int} (W:Bq c k pos) (V:EE q k): ∀ (m:Nat) (o:List Int),m<=c.cells.length -> o.length=c.cells.length+1 -> (∀ j,m<=j -> j<=c.cells.length -> o.getD j 0=IG q c pos j) ->
 ∃ o',CC (Rj n c q pos pos.length lost o4) (US c.cells m) (.s0 o)=some (.s0 o')/\ o'.length=c.cells.length+1/\ ∀ j,j<=c.cells.length -> o'.getD j 0=IG q c pos j
 | 0,o,_,ho,h=>⟨o,rfl,ho,fun j hj=>h j (zE6 _) hj⟩
 | m+1,o,hm,ho,h=>by
  have hc:=W.cells m (by omega);have Ce:=W.at (a:=m) (by omega);have Ak:=W.len;have t1:((((c.cells.length:Nat):Int)+1).toNat:Nat)=c.cells.length+1:=by omega
  have e1:Rj n c q pos pos.length lost o4 ((m:Int),c.cells.getD m 0) (.s0 o)=some (.s0 (o.set m (IG q c pos m))):=by
   unfold Rj ij VS
   dsimp only
   simp only [zAB,t1,zBj];rw [zAE ⟨by omega,by omega,hc,Ce.i63 W.k⟩];refine (congrArg (fun z=>Option.bind z _) (ic Ak (by omega) ho (BK (AL c pos m)) (-1) fun e he=>(V.sym W.k Ce e he).1)).trans ?_;rw [zA9]
   have e2:IG q c pos m=(BK (AL c pos m)).foldl (I6 q (o.getD (m+1) 0)) (-1):=by
    rw [h (m+1) (zBa _) hm];unfold IG;rw [show c.cells.length-m=c.cells.length-(m+1)+1 by omega];simp only [Gv];rw [show c.cells.length-1-(c.cells.length-(m+1))=m by omega]
   rw [e2]
  obtain ⟨o',h1,h2,h3⟩:=ig W V m (o.set m (IG q c pos m)) (by omega) (by rw [zBo];exact ho) fun j hj Gl=>by
   by_cases e:m=j
   ·subst e;exact I2 (by omega)
   ·rw [getD_set_ne e];exact h j (by omega) Gl
  refine ⟨o',?_,h2,h3⟩;simp only [US,CC];rw [e1,zA9,h1]
theorem uI {n:Nat} {o4 o6:List Int} (W:Bq c k pos) (V:EE q k) (h4:o4.length=c.cells.length+1) (h6:o6.length=c.cells.length+1) (hb: ∀ j,j<=c.cells.length -> o4.getD j 0=FT q c pos j) (ha: ∀ j,j<=c.cells.length -> o6.getD j 0=IG q c pos j) (hl:lost.length=pos.length) (hn:c.cells.length+1<=n):
 ∃ l,Hq c q pos pos.length lost n (.l2 0 lost o4 o6)=some (true,l)/\ B2 c pos lost c.cells.length (fun a s=>Gd q c pos a s=true) l:=by
 have lt: ∀ i,i<c.cells.length -> ((i:Nat):Int)<((c.cells.length:Nat):Int):=fun i hi=>by omega
 have t1:((((c.cells.length:Nat):Int)+1).toNat:Nat)=c.cells.length+1:=by omega
 have Ak:=W.len
 have T:=HG (fun n (s:List Int) i=>Hq c q pos pos.length lost n (.l2 i s o4 o6)) c.cells.length 1
  (fun i s=>B2 c pos lost i (fun a s=>Gd q c pos a s=true) s) (fun n i s Fk hi hI=>?_) (n:=n) (s:=lost) (by omega) (B2.zero hl)
 ·obtain ⟨n3,l,TR,_,e2,hL⟩:=T;obtain ⟨n4,rfl⟩: ∃ n4,n3=n4+1:=⟨n3-1,by omega⟩;refine ⟨l,e2.trans ?_,hL⟩
  show Rg n4 (Hq c q pos pos.length lost n4) c q pos pos.length lost (c.cells.length:Int) l o4 o6=_
  unfold Rg;rw [zAA (by omega),zAD]
 ·have hc:=W.cells i hi;have hr:=W.r64 hi;have Ce:=W.at hi;have t2:(((i:Int)+1).toNat:Nat)=i+1:=by omega
  obtain ⟨l',e1,n1,f1⟩:=lh (n:=n) (q:=q) W hi hI.1 KJ.s0 (VW n c (i:Int) q pos pos.length o4 o6) (Gd q c pos i) fun s l hs hl=>by
   have Dt:=V.len;have g1:(0:Int)<=(s:Int)/\ (s:Int)<((q.values.length:Nat):Int):=by omega
   have hk:=W.k;have g2:(0:Int)<=(s:Int)/\ (s:Int)<=((IntKind.i64.bits:Nat):Int):=⟨by omega,by show (s:Int)<=64;omega⟩;obtain ⟨l2,e2,_,_⟩:=Ki (lost:=l) (n:=n) (ss:=IntKind.i64.wrap (1*2 ^ s)) (c:=c) (q:=q) hc.1 hc.2 hl;unfold Gd VW iq VV
   dsimp only
   simp only [zAB,t1,t2,zBj,h4,h6];rw [zAE ⟨g1,by omega,by omega⟩,hb i (by omega),ha (i+1) (by omega)];cases hA:decide (q.values.getD s 0<=FT q c pos i)
   ·rw [zAD,zAE ⟨Ae.2 ⟨by omega,by omega⟩,by omega,by omega⟩,zFP];cases hB:decide (q.values.getD s 0>=IG q c pos (i+1))
    ·rfl
    ·rw [zBA,zBA,zAE g2,e2];rfl
   ·rw [zBA,zFz,zBA,zAE g2,e2];rfl
  show ∃ s',Rg n (Hq c q pos pos.length lost n) c q pos pos.length lost (i:Int) s o4 o6=_/\ _
  unfold Rg;rw [zBC (lt i hi),zBA];simp only [zAB];rw [zAE ⟨⟨by omega,lt i hi⟩,hc,Ce.i63 W.k⟩];refine ⟨l',?_,hI.step n1 f1⟩;refine (congrArg (fun z=>Option.bind z _) e1).trans ?_;rw [zA9];simp only;rw [zAE hr.2]
theorem uJ {n:Nat} (W:Bq c k pos) (V:EE q k) (hl:lost.length=pos.length) (hn:2*c.cells.length+3<=n):
 ∃ l,LX n c q pos pos.length lost=some (true,l)/\ B2 c pos lost c.cells.length (fun a s=>Gd q c pos a s=true) l:=by
 have lt: ∀ i,i<c.cells.length -> ((i:Nat):Int)<((c.cells.length:Nat):Int):=fun i hi=>by omega
 have t1:((((c.cells.length:Nat):Int)+1).toNat:Nat)=c.cells.length+1:=by omega
 have Ak:=W.len
 have S:=HG (fun n (s:List Int) i=>Hq c q pos pos.length lost n (.l1 i s)) c.cells.length (c.cells.length+3)
  (fun i s=>s.length=c.cells.length+1/\ ∀ j,j<=i -> s.getD j 0=FT q c pos j) (fun n i s _ hi hI=>?_) (n:=n) (s:=(List.replicate (c.cells.length+1) (0:Int)).set 0 (-1)) (by omega) ⟨by simp,fun j hj=>?_⟩
 ·obtain ⟨n1,o4,H7,_,e1,h4,hb⟩:=S;obtain ⟨n2,rfl⟩: ∃ n2,n1=n2+1:=⟨n1-1,by omega⟩
  have e0:LX n c q pos pos.length lost=Hq c q pos pos.length lost n (.l1 0 ((List.replicate (c.cells.length+1) (0:Int)).set 0 (-1))):=by
   unfold LX ii;simp only [t1,zBj,zCD];rw [zAE ⟨Ae.2 ⟨by omega,by omega⟩,⟨trivial,by omega,by omega⟩,⟨by omega,by omega⟩,by omega,⟨by omega,by omega⟩,by omega⟩]
  have e2:LX n c q pos pos.length lost=Rh n2 (Hq c q pos pos.length lost n2) c q pos pos.length lost (c.cells.length:Int) o4:=e0.trans e1;unfold Rh at e2;rw [zAA (by omega),zAD,zEP (zBO Ak (by decide)) (by omega),zA9] at e2;simp only [t1,zBj] at e2
  obtain ⟨o6,e3,h6,ha⟩:=ig (lost:=lost) (n:=n2) (o4:=o4) W V c.cells.length ((List.replicate (c.cells.length+1) (0:Int)).set c.cells.length 100) (zBa _) (by simp) fun j hj Gl=>by
   obtain rfl:j=c.cells.length:=by omega
   rw [I2 (by simp)];unfold IG;rw [zGO];rfl
  rw [e3,zA9] at e2;obtain ⟨l,e4,hL⟩:=uI (n:=n2) W V h4 h6 (fun j hj=>hb j hj) ha hl (by omega);exact ⟨l,e2.trans e4,hL⟩
 ·obtain ⟨h4,hb⟩:=hI;have hc:=W.cells i hi;have hr:=W.r64 hi;have Ce:=W.at hi;have t2:(((i:Int)+1).toNat:Nat)=i+1:=by omega
  show ∃ s',Rh n (Hq c q pos pos.length lost n) c q pos pos.length lost (i:Int) s=_/\ _
  unfold Rh;rw [zBC (lt i hi),zBA];simp only [zAB,t1,t2,zBj];rw [zAE ⟨⟨by omega,lt i hi⟩,hr.2,by omega,by omega,hc,Ce.i63 W.k⟩];refine ⟨s.set (i+1) (FT q c pos (i+1)),?_,by rw [zBo];exact h4,fun j hj=>?_⟩
  ·refine (congrArg (fun z=>Option.bind z _) (ib Ak hi h4 (BK (AL c pos i)) 100 fun e he=>(V.sym W.k Ce e he).1)).trans ?_;rw [zA9];simp only;rw [zAE hr.2,hb i (zBa _)];rfl
  ·by_cases e:i+1=j
   ·subst e;exact I2 (by omega)
   ·rw [getD_set_ne e];exact hb j (by omega)
 ·obtain rfl:j=0:=by omega
  rw [I2 (by simp)];rfl
end
end Go.Proofs.YtekkngkphejfcaaGreatDoor
namespace Go.Proofs.YtekkngkphejfcaaGreatDoor
open Go.RowKit
section
variable {k:Nat}
theorem kQ {T1 T2:Type} (Kh:List Int -> Int -> Int -> T1) (PU:List Int -> Int -> Int -> T2) (f1:Int -> Int -> T1 -> Option T1) (f2:Int -> T2 -> Option T2) (ok:Nat -> Nat -> Bool) {a b:Int} (ha:Sm k a) (hb:Sm k b) (hk:k<=16)
 (h1: ∀ (s t:Nat) (l:List Int) (x y:Int),s<k -> t<k -> f1 s t (Kh l x y)=some (bif ok s t then Kh l (bits .or .i64 x (IntKind.i64.wrap (1*2 ^ s))) (bits .or .i64 y (IntKind.i64.wrap (1*2 ^ t))) else Kh l x y))
 (h2: ∀ (s:Nat) (l:List Int) (x y x' y':Int),s<k -> CC (f1 s) (BK b) (Kh l x y)=some (Kh l x' y') -> f2 s (PU l x y)=some (PU l x' y')) (l:List Int):
 ∃ x y,CC f2 (BK a) (PU l 0 0)=some (PU l x y)/\ (∀ u,tb x u=true↔tb a u=true/\ ∃ t,tb b t=true/\ ok u t=true)/\ (∀ u,tb y u=true↔tb b u=true/\ ∃ s,tb a s=true/\ ok s u=true):=by
 have Jn:k<=62:=zBO hk (by decide)
 have yn: ∀ (s:Nat) (x y:Int),s<k -> ∃ x' y',CC (f1 s) (BK b) (Kh l x y)=some (Kh l x' y')/\ (∀ u,tb x' u=true↔tb x u=true∨(u=s/\ ∃ t,tb b t=true/\ ok s t=true))/\ (∀ u,tb y' u=true↔tb y u=true∨(tb b u=true/\ ok s u=true)):=by
  intro s x y hs
  have key:=Xl (f:=f1 s) (fun pre st=>∃ x' y',st=Kh l x' y'/\ (∀ u,tb x' u=true↔tb x u=true∨(u=s/\ ∃ t:Nat,(t:Int)∈pre/\ ok s t=true))/\ (∀ u:Nat,tb y' u=true↔tb y u=true∨((u:Int)∈pre/\ ok s u=true)))
   (BK b) [] (Kh l x y) ⟨x,y,rfl,fun u=>⟨.inl,fun h=>h.elim id fun ⟨_,t,h,_⟩=>(by cases h)⟩,fun u=>⟨.inl,fun h=>h.elim id fun ⟨h,_⟩=>(by cases h)⟩⟩ ?_
  ·obtain ⟨st,e,x',y',rfl,hx,hy⟩:=key;refine ⟨x',y',e,fun u=>?_,fun u=>?_⟩
   ·rw [hx,zFD];constructor
    ·rintro (h | ⟨e1,t,h,h3⟩)
     ·exact .inl h
     ·obtain ⟨t',e2,_,h4⟩:=(EW hb Jn).1 h;have:t=t':=by omega
      subst this;exact .inr ⟨e1,t,h4,h3⟩
    ·rintro (h | ⟨e1,t,h,h3⟩)
     ·exact .inl h
     ·exact .inr ⟨e1,t,(EW hb Jn).2 ⟨t,rfl,zB1 fun BV=>(by rw [hb.hi BV] at h;cases h),h⟩,h3⟩
   ·rw [hy,zFD];constructor
    ·rintro (h | ⟨h,h3⟩)
     ·exact .inl h
     ·obtain ⟨t',e2,_,h4⟩:=(EW hb Jn).1 h;have:u=t':=by omega
      subst this;exact .inr ⟨h4,h3⟩
    ·rintro (h | ⟨h,h3⟩)
     ·exact .inl h
     ·exact .inr ⟨(EW hb Jn).2 ⟨u,rfl,zB1 fun BV=>(by rw [hb.hi BV] at h;cases h),h⟩,h3⟩
  ·rintro pre e _ he ⟨x',y',rfl,hx,hy⟩;obtain ⟨t,rfl,ht,_⟩:=(EW hb Jn).1 he;rw [h1 s t l x' y' hs ht];cases ho:ok s t
   ·rw [zAD];refine ⟨_,rfl,x',y',rfl,fun u=>?_,fun u=>?_⟩
    ·rw [hx];constructor
     ·rintro (h | ⟨e1,t',h,h3⟩)
      ·exact .inl h
      ·exact .inr ⟨e1,t',zCO _ h,h3⟩
     ·rintro (h | ⟨e1,t',h,h3⟩)
      ·exact .inl h
      ·rcases zB5.1 h with h | h
       ·exact .inr ⟨e1,t',h,h3⟩
       ·have:t'=t:=by have:=zBm.1 h;omega
        subst this;rw [ho] at h3;cases h3
    ·rw [hy];constructor
     ·rintro (h | ⟨h,h3⟩)
      ·exact .inl h
      ·exact .inr ⟨zCO _ h,h3⟩
     ·rintro (h | ⟨h,h3⟩)
      ·exact .inl h
      ·rcases zB5.1 h with h | h
       ·exact .inr ⟨h,h3⟩
       ·have:u=t:=by have:=zBm.1 h;omega
        subst this;rw [ho] at h3;cases h3
   ·rw [zBA];refine ⟨_,rfl,_,_,rfl,fun u=>?_,fun u=>?_⟩
    ·rw [LI,zBg,hx,JN (by omega),zBV];constructor
     ·rintro ((h | ⟨e1,t',h,h3⟩) | rfl)
      ·exact .inl h
      ·exact .inr ⟨e1,t',zCO _ h,h3⟩
      ·exact .inr ⟨rfl,t,zDB _ (.head _),ho⟩
     ·rintro (h | ⟨e1,t',h,h3⟩)
      ·exact .inl (.inl h)
      ·exact .inr e1.symm
    ·rw [LI,zBg,hy,JN (by omega),zBV];constructor
     ·rintro ((h | ⟨h,h3⟩) | rfl)
      ·exact .inl h
      ·exact .inr ⟨zCO _ h,h3⟩
      ·exact .inr ⟨zDB _ (.head _),ho⟩
     ·rintro (h | ⟨h,h3⟩)
      ·exact .inl (.inl h)
      ·rcases zB5.1 h with h | h
       ·exact .inl (.inr ⟨h,h3⟩)
       ·exact .inr (by have:=zBm.1 h;omega)
 have key:=Xl (f:=f2) (fun pre st=>∃ x y,st=PU l x y/\ (∀ u:Nat,tb x u=true↔(u:Int)∈pre/\ ∃ t,tb b t=true/\ ok u t=true)/\ (∀ u,tb y u=true↔tb b u=true/\ ∃ s:Nat,(s:Int)∈pre/\ ok s u=true))
  (BK a) [] (PU l 0 0) ⟨0,0,rfl,fun u=>⟨fun h=>absurd h IN,fun ⟨h,_⟩=>(by cases h)⟩,fun u=>⟨fun h=>absurd h IN,fun ⟨_,s,h,_⟩=>(by cases h)⟩⟩ ?_
 ·obtain ⟨st,e,x,y,rfl,hx,hy⟩:=key;refine ⟨x,y,e,fun u=>?_,fun u=>?_⟩
  ·rw [hx,zFD];constructor
   ·rintro ⟨h,h2⟩;obtain ⟨t',e2,_,h4⟩:=(EW ha Jn).1 h;have:u=t':=by omega
    subst this;exact ⟨h4,h2⟩
   ·rintro ⟨h,h2⟩;exact ⟨(EW ha Jn).2 ⟨u,rfl,zB1 fun BV=>(by rw [ha.hi BV] at h;cases h),h⟩,h2⟩
  ·rw [hy,zFD];constructor
   ·rintro ⟨h0,s,h,h3⟩;obtain ⟨t',e2,_,h4⟩:=(EW ha Jn).1 h;have:s=t':=by omega
    subst this;exact ⟨h0,s,h4,h3⟩
   ·rintro ⟨h0,s,h,h3⟩;exact ⟨h0,s,(EW ha Jn).2 ⟨s,rfl,zB1 fun BV=>(by rw [ha.hi BV] at h;cases h),h⟩,h3⟩
 ·rintro pre e _ he ⟨x,y,rfl,hx,hy⟩;obtain ⟨s,rfl,hs,_⟩:=(EW ha Jn).1 he;obtain ⟨x',y',e1,HI,bf⟩:=yn s x y hs;refine ⟨_,h2 s l x y x' y' hs e1,x',y',rfl,fun u=>?_,fun u=>?_⟩
  ·rw [HI,hx];constructor
   ·rintro (⟨h,h2⟩ | ⟨rfl,h2⟩)
    ·exact ⟨zCO _ h,h2⟩
    ·exact ⟨zDB _ (.head _),h2⟩
   ·rintro ⟨h,h2⟩;rcases zB5.1 h with h | h
    ·exact .inl ⟨h,h2⟩
    ·have:u=s:=by have:=zBm.1 h;omega
     subst this;exact .inr ⟨rfl,h2⟩
  ·rw [bf,hy];constructor
   ·rintro (⟨h,s',h2,h3⟩ | ⟨h,h2⟩)
    ·exact ⟨h,s',zCO _ h2,h3⟩
    ·exact ⟨h,s,zDB _ (.head _),h2⟩
   ·rintro ⟨h,s',h2,h3⟩;rcases zB5.1 h2 with h2 | h2
    ·exact .inl ⟨h,s',h2,h3⟩
    ·have:s'=s:=by have:=zBm.1 h2;omega
     subst this;exact .inr ⟨h,h3⟩
end
theorem UP {s:Nat} (hs:s<64) (x:Int):(bits .and .i64 (IntKind.i64.wrap (1*2 ^ s)) x==0)= !tb x s:=by
 rw [zCM,zBf,KA (Cy _ _ _)];constructor
 ·intro h;have:=h s hs;rw [EJ,JN hs,zBC rfl,zCE] at this;rw [this];rfl
 ·intro h i hi;rw [EJ,JN hs]
  by_cases e:s=i
  ·subst e;rw [zBC rfl,zCE];cases hx:tb x s
   ·rfl
   ·rw [hx] at h;cases h
  ·rw [zAA e,zFI]
def Ig (q:AA) (c:AC) (s t:Nat):Bool:=decide ((if 0-(q.values.getD s 0-q.values.getD t 0)>q.values.getD s 0-q.values.getD t 0 then 0-(q.values.getD s 0-q.values.getD t 0) else q.values.getD s 0-q.values.getD t 0)>=c.lo)
def HE (c:AC) (s t:Nat):Bool:=(!tb c.set s|| !tb c.other t)&&(!tb c.set t|| !tb c.other s)
def FJ (ok:Nat -> Nat -> Bool) (c:AC) (pos:List Int) (a s:Nat):Prop:=
 if a=0 then ¬ ∃ t,tb (AL c pos 1) t=true/\ ok s t=true else ¬ ∃ t,tb (AL c pos 0) t=true/\ ok t s=true
section
variable {c:AC} {k:Nat} {pos lost:List Int} {q:AA}
theorem zEZ {n ln:Nat} (V:EE q k) {s t:Nat} (hs:s<k) (ht:t<k):YT n s t c q pos ln lost=some (Ig q c s t,lost):=by
 have h1:=V.val s hs;have h2:=V.val t ht;have h3:=V.len;unfold YT pv;simp only [zAB];rw [zAE ⟨by omega,by omega,Ae.2 ⟨by omega,by omega⟩,Ae.2 ⟨by omega,by omega⟩⟩];rfl
theorem xT {n ln:Nat} {s t:Nat} (hs:s<64) (ht:t<64):WV n s t c q pos ln lost=some (HE c s t,lost):=by
 have g: ∀ s:Nat,s<64 -> (0:Int)<=(s:Int)/\ (s:Int)<=((IntKind.i64.bits:Nat):Int):=fun s hs=>⟨by omega,by show (s:Int)<=64;omega⟩
 unfold WV lA;simp only [zAB];rw [zAE ⟨g s hs,g t ht⟩,UP hs,UP hs,UP ht,UP ht];unfold HE;cases tb c.set s <;> cases tb c.set t <;> cases tb c.other s <;> cases tb c.other t <;> rfl
theorem kR {n:Nat} (W:Bq c k pos) (h2:c.cells.length=2) (hl:lost.length=pos.length) (ok:Nat -> Nat -> Bool) {x y:Int}
 (hx: ∀ u,tb x u=true↔tb (AL c pos 0) u=true/\ ∃ t,tb (AL c pos 1) t=true/\ ok u t=true) (hy: ∀ u,tb y u=true↔tb (AL c pos 1) u=true/\ ∃ s,tb (AL c pos 0) s=true/\ ok s u=true):
 ∃ l1 l,DJ n (c.cells.getD 0 0) (bits .xor .i64 (-1) x) c q pos pos.length lost=some l1/\ DJ n (c.cells.getD 1 0) (bits .xor .i64 (-1) y) c q pos pos.length l1=some l/\ B2 c pos lost c.cells.length (FJ ok c pos) l:=by
 have c0:=W.cells 0 (by omega);have c1:=W.cells 1 (by omega);obtain ⟨l1,e1,n1,f1⟩:=Ki (lost:=lost) (n:=n) (ss:=bits .xor .i64 (-1) x) (c:=c) (q:=q) c0.1 c0.2 hl;obtain ⟨l,e2,n2,f2⟩:=Ki (lost:=l1) (n:=n) (ss:=bits .xor .i64 (-1) y) (c:=c) (q:=q) c1.1 c1.2 n1;refine ⟨l1,l,e1,e2,?_⟩;have lt: ∀ {a:Nat} {s:Nat},a<c.cells.length -> tb (AL c pos a) s=true -> s<64:=fun {a s} ha h=>zB1 fun BV=>by rw [IM BV] at h;cases h
 rw [h2];refine B2.step (i:=1) (l:=l1) (B2.step (i:=0) (l:=lost) (B2.zero hl) n1 fun j s=>?_) n2 fun j s=>?_
 ·rw [f1,zBg,zBE,zBE,zBV];constructor
  ·rintro (h | ⟨rfl,h3,h4⟩)
   ·exact .inl h
   ·refine .inr ⟨rfl,h3,?_⟩;rw [Uz _ (lt (a:=0) (by omega) h3)] at h4;unfold FJ;rw [zAE rfl];intro h5;rw [(hx s).2 ⟨h3,h5⟩] at h4;cases h4
  ·rintro (h | ⟨rfl,h3,h4⟩)
   ·exact .inl h
   ·refine .inr ⟨rfl,h3,?_⟩;rw [Uz _ (lt (a:=0) (by omega) h3)];unfold FJ at h4;rw [zAE rfl] at h4;cases hb:tb x s
    ·rfl
    ·exact absurd ((hx s).1 hb).2 h4
 ·rw [f2,zBg,zBE,zBE,zBV];constructor
  ·rintro (h | ⟨rfl,h3,h4⟩)
   ·exact .inl h
   ·refine .inr ⟨rfl,h3,?_⟩;rw [Uz _ (lt (a:=1) (by omega) h3)] at h4;unfold FJ;rw [zBP (by decide)];intro h5;rw [(hy s).2 ⟨h3,h5⟩] at h4;cases h4
  ·rintro (h | ⟨rfl,h3,h4⟩)
   ·exact .inl h
   ·refine .inr ⟨rfl,h3,?_⟩;rw [Uz _ (lt (a:=1) (by omega) h3)];unfold FJ at h4;rw [zBP (by decide)] at h4;cases hb:tb y s
    ·rfl
    ·exact absurd ((hy s).1 hb).2 h4
theorem zEa {n:Nat} (W:Bq c k pos) (V:EE q k) (h2:c.cells.length=2) (hl:lost.length=pos.length):
 ∃ l,OW n c q pos pos.length lost=some (true,l)/\ B2 c pos lost c.cells.length (FJ (Ig q c) c pos) l:=by
 have c0:=W.cells 0 (by omega);have c1:=W.cells 1 (by omega);have s0:=W.at (a:=0) (by omega);have s1:=W.at (a:=1) (by omega);have hk:=W.k;have g: ∀ s:Nat,s<k -> (0:Int)<=(s:Int)/\ (s:Int)<=((IntKind.i64.bits:Nat):Int):=fun s hs=>⟨by omega,by show (s:Int)<=64;omega⟩
 obtain ⟨x,y,e,hx,hy⟩:=kQ Ke.s0 Kf.s0 (WL n c q pos pos.length) (WM n c q pos pos.length) (Ig q c) s0 s1 hk
  (fun s t l x y hs ht=>by
   unfold WL kZ WK
   dsimp only
   rw [zEZ V hs ht,zA9];cases Ig q c s t
   ·rfl
   ·simp only [zBA,zAB];rw [zAE ⟨g s hs,g t ht⟩])
  (fun s l x y x' y' hs he=>by
   unfold WM kY WJ
   dsimp only
   rw [zAE (show 0<=pos.getD (c.cells.getD 1 0).toNat 0/\ pos.getD (c.cells.getD 1 0).toNat 0<9223372036854775808 from s1.i63 hk)];refine (congrArg (fun z=>Option.bind z _) he).trans ?_;rfl) lost
 obtain ⟨l1,l,e1,e2,hL⟩:=kR (n:=n) (q:=q) W h2 hl (Ig q c) hx hy;refine ⟨l,?_,hL⟩;unfold OW eF aP kX;rw [zAE ⟨by omega,by omega,c0,c1,s0.i63 hk⟩];refine (congrArg (fun z=>Option.bind (Option.bind z _) _) e).trans ?_;rw [zA9];simp only;rw [e1,zA9,e2];rfl
theorem xU {n:Nat} (W:Bq c k pos) (h2:c.cells.length=2) (hl:lost.length=pos.length):
 ∃ l,NS n c q pos pos.length lost=some (true,l)/\ B2 c pos lost c.cells.length (FJ (HE c) c pos) l:=by
 have c0:=W.cells 0 (by omega);have c1:=W.cells 1 (by omega);have s0:=W.at (a:=0) (by omega);have s1:=W.at (a:=1) (by omega);have hk:=W.k;have g: ∀ s:Nat,s<k -> (0:Int)<=(s:Int)/\ (s:Int)<=((IntKind.i64.bits:Nat):Int):=fun s hs=>⟨by omega,by show (s:Int)<=64;omega⟩
 obtain ⟨x,y,e,hx,hy⟩:=kQ Kc.s0 Kd.s0 (WH n c q pos pos.length) (WI n c q pos pos.length) (HE c) s0 s1 hk
  (fun s t l x y hs ht=>by
   unfold WH kU WG
   dsimp only
   rw [xT (by omega) (by omega),zA9];cases HE c s t
   ·rfl
   ·simp only [zBA,zAB];rw [zAE ⟨g s hs,g t ht⟩])
  (fun s l x y x' y' hs he=>by
   unfold WI kT WF
   dsimp only
   rw [zAE (show 0<=pos.getD (c.cells.getD 1 0).toNat 0/\ pos.getD (c.cells.getD 1 0).toNat 0<9223372036854775808 from s1.i63 hk)];refine (congrArg (fun z=>Option.bind z _) he).trans ?_;rfl) lost
 obtain ⟨l1,l,e1,e2,hL⟩:=kR (n:=n) (q:=q) W h2 hl (HE c) hx hy;refine ⟨l,?_,hL⟩;unfold NS aa aN kS;rw [zAE ⟨by omega,by omega,c0,c1,s0.i63 hk⟩];refine (congrArg (fun z=>Option.bind (Option.bind z _) _) e).trans ?_;rw [zA9];simp only;rw [e1,zA9,e2];rfl
end
end Go.Proofs.YtekkngkphejfcaaGreatDoor
namespace Go.Proofs.YtekkngkphejfcaaGreatDoor
open Go.RowKit
set_option maxRecDepth 100000
set_option maxHeartbeats 40000000
def gK:ST:=.rd 0 (.rd 1 (.rd 2 (.rd 3 (.rd 4 (.rd 6 (.rd 7 (.rd 8 (.rd 9 (.rd 10 (.ef 5 (.rd 12 (.ef 11 (.rd 13 (.fin [0,1] [0,2,3])) (.no))) (.ef 11 (.ef 5 (.rd 12 (.rd 13 (.fin [1,0] [0,2,3]))) (.no)) (.no))))))))))))
theorem s7:CN (Ax Tryz.f91 1) [5,11] gK:=by unfold CN;kernel_rfl
def gJ:ST:=.rd 0 (.rd 1 (.rd 2 (.rd 3 (.rd 4 (.rd 5 (.rd 6 (.rd 7 (.rd 8 (.rd 9 (.rd 10 (.rd 11 (.rd 12 (.rd 13 (.rd 14 (.rd 15 (.rd 16 (.rd 17 (.rd 18 (.rd 19 (.rd 20 (.rd 21 (.rd 22 (.rd 23 (.rd 24 (.rd 25 (.rd 26 (.rd 27 (.rd 28 (.rd 29 (.rd 30 (.rd 31 (.rd 32 (.ef 33 (.rd 34 (.ef 35 (.fin [] [0,2,3,30,31,32]) (.no))) (.no))))))))))))))))))))))))))))))))))
theorem s6:CN (Ax Tryz.f91 5) [33] gJ:=by unfold CN;kernel_rfl
def JQ:BJ:=fun i=>match i with
 | 1=>.tre [5,11] gK
 | 5=>.tre [33] gJ
 | _=>.no
def Y0 (pos:List Int) (c:AC) (q:AA) (ln:Nat) (lost:List Int):St:=⟨(AM 120 [(0,.ref 0 0),(2,.msl 2 1 0 pos.length),(3,.msl 3 1 0 pos.length)]),([some (.cells (AH c++AD q++[.ints pos,.msl 1 1 0 ln])),some (.ints lost),some (.bools (List.replicate pos.length false)),some (.bools (List.replicate pos.length false))]:DH)⟩
def fo (pos:List Int) (c:AC) (C0:Int) (q:AA) (ln:Nat) (lost:List Int) (o2 o3:List Bool):St:=⟨(AM 120 [(0,.ref 0 0),(2,.msl 2 1 0 pos.length),(3,.msl 3 1 0 pos.length),(30,.ints c.cells),(31,.i (c.cells.length:Int)),(32,.i C0)]),([some (.cells (AH c++AD q++[.ints pos,.msl 1 1 0 ln])),some (.ints lost),some (.bools (o2.set (0+((c.cells.getD ((C0).toNat) 0).toNat)) ((bits .and .i64 (pos.getD ((c.cells.getD ((C0).toNat) 0).toNat) 0) c.set) != 0))),some (.bools (o3.set (0+((c.cells.getD ((C0).toNat) 0).toNat)) ((bits .andNot .i64 (pos.getD ((c.cells.getD ((C0).toNat) 0).toNat) 0) c.set)==0)))]:DH)⟩
def m6 (c:AC) (q:AA) (pos:List Int) (ln:Nat) (lost:List Int) (o2 o3:List Bool):DH:=[some (.cells (AH c++AD q++[.ints pos,.msl 1 1 0 ln])),some (.ints lost),some (.bools o2),some (.bools o3)]
def m5 (c:AC) (q:AA) (pos:List Int) (ln:Nat) (lost:List Int) (o3:List Bool) (y2:(List Bool)):DH:=[some (.cells (AH c++AD q++[.ints pos,.msl 1 1 0 ln])),some (.ints lost),none,some (.bools o3),some (.bools y2)]
inductive PQ where
 | l1 (C0:Int) (o2 o3:List Bool)
 | l2 (FE:List Bool) (x8:Nat) (He:List Int) (LD F7:Int) (o2 o3:List Bool)
 | l3 (FE:List Bool) (x8:Nat) (J8 DE:Int) (o1:List Int) (o2 o3:List Bool)
def Sw (n:Nat) (self:PQ -> Option ((List Bool)×(List Bool)×Bool×(List Int))) (c:AC) (q:AA) (pos:List Int) (ln:Nat) (lost:List Int) (C0:Int) (o2 o3:List Bool):Option ((List Bool)×(List Bool)×Bool×(List Int)):=
 bif (decide (C0<(c.cells.length:Int))) then
  if (0<=C0/\ C0<(c.cells.length:Int))/\ (0<=(c.cells.getD ((C0).toNat) 0)/\ (c.cells.getD ((C0).toNat) 0)<(pos.length:Int))/\ 0+((c.cells.getD ((C0).toNat) 0).toNat)<o2.length/\ 0+((c.cells.getD ((C0).toNat) 0).toNat)<o3.length/\ AG (C0+1) then
   self (.l1 (C0+1) (o2.set (0+((c.cells.getD ((C0).toNat) 0).toNat)) ((bits .and .i64 (pos.getD ((c.cells.getD ((C0).toNat) 0).toNat) 0) c.set) != 0)) (o3.set (0+((c.cells.getD ((C0).toNat) 0).toNat)) ((bits .andNot .i64 (pos.getD ((c.cells.getD ((C0).toNat) 0).toNat) 0) c.set)==0)))
  else none
 else
  if pos.length=o3.length then
   (W4 n o3 true).bind fun y1=>
    bif (decide (y1<0)) then
     if pos.length=o2.length then
      some (o2,o3,false,lost)
     else none
    else
     if pos.length=o2.length then
      (OP n o2).bind fun y2=>
       (QW n q.nbrs o2 y1).bind fun y3=>
        self (.l2 o2 y2.length y3.1 (y3.1.length:Int) 0 o3 y2)
     else none
  else none
def Sv (n:Nat) (self:PQ -> Option ((List Bool)×(List Bool)×Bool×(List Int))) (c:AC) (q:AA) (pos:List Int) (ln:Nat) (lost:List Int) (FE:List Bool) (x8:Nat) (He:List Int) (LD F7:Int) (o2 o3:List Bool):Option ((List Bool)×(List Bool)×Bool×(List Int)):=
 bif (decide (F7<LD)) then
  if (0<=F7/\ F7<(He.length:Int))/\ (0<=(He.getD ((F7).toNat) 0)/\ (He.getD ((F7).toNat) 0)<(x8:Int))/\ 0+((He.getD ((F7).toNat) 0).toNat)<o3.length/\ AG (F7+1) then
   self (.l2 FE x8 He LD (F7+1) o2 (o3.set (0+((He.getD ((F7).toNat) 0).toNat)) false))
  else none
 else
  self (.l3 FE x8 (x8:Int) 0 lost o2 o3)
def Su (n:Nat) (self:PQ -> Option ((List Bool)×(List Bool)×Bool×(List Int))) (c:AC) (q:AA) (pos:List Int) (ln:Nat) (lost:List Int) (FE:List Bool) (x8:Nat) (J8 DE:Int) (o1:List Int) (o2 o3:List Bool):Option ((List Bool)×(List Bool)×Bool×(List Int)):=
 bif (decide (DE<J8)) then
  if (0<=DE/\ DE<(x8:Int))/\ 0+((DE).toNat)<o3.length then
   bif (o3.getD (0+((DE).toNat)) false) then
    (DJ n DE c.set c q pos ln o1).bind fun y1=>
     if AG (DE+1) then
      self (.l3 FE x8 J8 (DE+1) y1 o2 o3)
     else none
   else
    if AG (DE+1) then
     self (.l3 FE x8 J8 (DE+1) o1 o2 o3)
    else none
  else none
 else
  if pos.length=o2.length then
   some (FE,o2,true,o1)
  else none
def lH (n:Nat) (self:PQ -> Option ((List Bool)×(List Bool)×Bool×(List Int))) (c:AC) (q:AA) (pos:List Int) (ln:Nat) (lost:List Int):Option ((List Bool)×(List Bool)×Bool×(List Int)):=
 if ((pos.length:Int):Int)=(pos.length:Int)/\ 0<=(pos.length:Int)/\ ((pos.length:Int):Int)<=1000000000000 then
  self (.l1 0 (List.replicate pos.length false) (List.replicate pos.length false))
 else none
def El (c:AC) (q:AA) (pos:List Int) (ln:Nat) (lost:List Int):Nat -> PQ -> Option ((List Bool)×(List Bool)×Bool×(List Int))
 | 0,_=>none
 | n+1,.l1 C0 o2 o3=>Sw n (El c q pos ln lost n) c q pos ln lost C0 o2 o3
 | n+1,.l2 FE x8 He LD F7 o2 o3=>Sv n (El c q pos ln lost n) c q pos ln lost FE x8 He LD F7 o2 o3
 | n+1,.l3 FE x8 J8 DE o1 o2 o3=>Su n (El c q pos ln lost n) c q pos ln lost FE x8 J8 DE o1 o2 o3
def NU (n:Nat) (c:AC) (q:AA) (pos:List Int) (ln:Nat) (lost:List Int):Option ((List Bool)×(List Bool)×Bool×(List Int)):=lH n (El c q pos ln lost n) c q pos ln lost
def xY (n B:Nat) (N:Yd 2) (c:AC) (q:AA) (pos:List Int) (ln:Nat) (lost:List Int) (r:(List Bool)×(List Bool)×Bool×(List Int)):PQ -> Prop
 | .l1 C0 o2 o3=>∀ m0:Nat,n<=m0 -> TW B N (FQ Tryz.f91 2 (.tup 3 (L1 [.bools r.1,.bools r.2.1,.bool r.2.2.1])) [some (.cells (AH c++AD q++[.ints pos,.msl 1 1 0 ln])),some (.ints r.2.2.2)]) (Ah m0 (Ap (AW Tryz.f91) 0 [])) ⟨AM 120 [(0,.ref 0 0),(2,.msl 2 1 0 pos.length),(3,.msl 3 1 0 pos.length),(30,.ints c.cells),(31,.i (c.cells.length:Int)),(32,.i C0)],[some (.cells (AH c++AD q++[.ints pos,.msl 1 1 0 ln])),some (.ints lost),some (.bools o2),some (.bools o3)]⟩
 | .l2 FE x8 He LD F7 o2 o3=>∀ m0:Nat,n<=m0 -> TW B N (FQ Tryz.f91 2 (.tup 3 (L1 [.bools r.1,.bools r.2.1,.bool r.2.2.1])) [some (.cells (AH c++AD q++[.ints pos,.msl 1 1 0 ln])),some (.ints r.2.2.2)]) (Ah m0 (Ap (AW Tryz.f91) 2 [])) ⟨AM 120 [(0,.ref 0 0),(2,.bools FE),(3,.msl 2 1 0 pos.length),(8,.msl 3 1 0 x8),(90,.ints He),(91,.i LD),(92,.i F7)],[some (.cells (AH c++AD q++[.ints pos,.msl 1 1 0 ln])),some (.ints lost),some (.bools o2),some (.bools o3)]⟩
 | .l3 FE x8 J8 DE o1 o2 o3=>∀ m0:Nat,n<=m0 -> TW B N (FQ Tryz.f91 2 (.tup 3 (L1 [.bools r.1,.bools r.2.1,.bool r.2.2.1])) [some (.cells (AH c++AD q++[.ints pos,.msl 1 1 0 ln])),some (.ints r.2.2.2)]) (Ah m0 (Ap (AW Tryz.f91) 4 [])) ⟨AM 120 [(0,.ref 0 0),(2,.bools FE),(3,.msl 2 1 0 pos.length),(8,.msl 3 1 0 x8),(101,.i J8),(102,.i DE)],[some (.cells (AH c++AD q++[.ints pos,.msl 1 1 0 ln])),some (.ints o1),some (.bools o2),some (.bools o3)]⟩
theorem xZ (B:Nat) (N:Yd 2) (c:AC) (q:AA) (pos:List Int) (ln:Nat) (lost:List Int):Al (El c q pos ln lost) (xY · B N c q pos ln lost):=ia (fun _=>rfl) fun n AF pt r h=>by
 cases pt
 case l1 C0 o2 o3=>
  intro m0 AB;refine rd AB fun m0 AB=>?_
  revert r;apply gO
  exact bi 33 (gc (gi (jg s6 (gc (gn fun g1=>jg g1 (jg g1 (jg g1 (gc (gi (jg g1 (gc (gi (jg (Eq.refl (fo pos c C0 q ln lost o2 o3)) (gw 70 (lG (tg:=[([(33,2)],(fo pos c C0 q ln lost o2 o3))]) JQ [0,1,2,3] (AF _ _ · m0 AB)))))))))))))))) (gn fun g0=>cn fun y1 A1=>jc (sb [.msl 3 1 0 pos.length,.bool true] (zH A1) (m6 c q pos ln lost o2 o3) ⟨Ar.bools rfl g0,Ar.plain (by kernel_rfl),trivial⟩) (bi 74 (gn fun g1=>lF fun p=>ez JQ [2,3,4] [0,1,2,3] p [2,3] (H0.g g1 |>.g g0)) (gn fun g1=>cn fun y2 CF=>jc (ES.snapNew (ds:=[.msl 2 1 0 pos.length]) (pI CF) (m6 c q pos ln lost o2 o3) ⟨Ar.bools rfl g1,trivial⟩ rfl) (fun p r h=>by
   refine gz (AK 11 JQ) [0,1,2,3,4] p [2] (H0.g g1) (Dl (AW Tryz.f91) 11 []) (AM 120 [(0,.ref 0 0),(2,.bools o2),(3,.msl 3 1 0 pos.length),(7,.i y1),(8,.msl 4 1 0 y2.length)]) (m5 c q pos ln lost o3 y2) ?_;revert r;apply gO;exact cf zDs (m5 c q pos ln lost o3 y2) fun _=>lN JQ [0,1,3,4] (AF _ _ · n Nat.le.refl)))))
 case l2 FE x8 He LD F7 o2 o3=>
  intro m0 AB;refine rd AB fun m0 AB=>?_
  revert r;apply gO;exact bi 93 (gc (gi (gc (gi (gc (gi (gw 99 (lG JQ [0,1,2,3] (AF _ _ · m0 AB))))))))) (lN JQ [0,1,2,3] (AF _ _ · n Nat.le.refl))
 case l3 FE x8 J8 DE o1 o2 o3=>
  intro m0 AB;refine rd AB fun m0 AB=>?_
  revert r;apply gO;exact bi 103 (gc (gi (gi (bi 108 (ce Fv [0,1] [some (.cells (AH c++AD q++[.ints pos,.msl 1 1 0 ln])),some (.ints o1),some (.bools o2),some (.bools o3)] fun _=>gw 117 (lG JQ [0,1,2,3] (AF _ _ · m0 AB))) (gw 117 (lG JQ [0,1,2,3] (AF _ _ · m0 AB))))))) (gn fun g0=>lF fun p=>ez JQ [2,3,4] [0,1,2] p [2] (H0.g g0))
theorem lD {n:Nat} {c:AC} {q:AA} {pos:List Int} {ln:Nat} {lost:List Int} {r:(List Bool)×(List Bool)×Bool×(List Int)} (h:NU n c q pos ln lost=some r):EQ 91 [.ref 0 0] [some (.cells (AH c++AD q++[.ints pos,.msl 1 1 0 ln])),some (.ints lost)] (.tup 3 (L1 [.bools r.1,.bools r.2.1,.bool r.2.2.1])) [some (.cells (AH c++AD q++[.ints pos,.msl 1 1 0 ln])),some (.ints r.2.2.2)] false:=by
 refine ot Tryz.func91 fun B N=>?_
 revert r;apply gO;exact jg s7 (gn fun g0=>jg g0 (jg g0 (jg (Eq.refl (Y0 pos c q ln lost)) (jg g0 (jg g0 (jg (Eq.refl (Y0 pos c q ln lost)) (lN (tg:=[([],(Y0 pos c q ln lost))]) JQ [0,1,2,3] ((xZ B N c q pos ln lost n) _ _ · n Nat.le.refl))))))))
inductive YC where
 | l1 (x3 x4:List Bool) (x5:Bool) (Ab BB:Int) (o1:List Int)
def UE (n:Nat) (self:YC -> Option (Bool×(List Int))) (c:AC) (q:AA) (pos:List Int) (ln:Nat) (lost:List Int) (x3 x4:List Bool) (x5:Bool) (Ab BB:Int) (o1:List Int):Option (Bool×(List Int)):=
 bif (decide (BB<Ab)) then
  bif (!x5) then
   if AG (BB+1) then
    self (.l1 x3 x4 x5 Ab (BB+1) o1)
   else none
  else
   if 0<=BB/\ BB<(x3.length:Int) then
    bif (!(x3.getD ((BB).toNat) false)) then
     if AG (BB+1) then
      self (.l1 x3 x4 x5 Ab (BB+1) o1)
     else none
    else
     if 0<=BB/\ BB<(x4.length:Int) then
      bif (x4.getD ((BB).toNat) false) then
       if AG (BB+1) then
        self (.l1 x3 x4 x5 Ab (BB+1) o1)
       else none
      else
       (Mm n q.nbrs x3 x4 BB).bind fun y1=>
        bif y1.1 then
         (GJ n BB c q pos ln o1).bind fun y2=>
          if AG (BB+1) then
           self (.l1 x3 x4 x5 Ab (BB+1) y2)
          else none
        else
         if AG (BB+1) then
          self (.l1 x3 x4 x5 Ab (BB+1) o1)
         else none
     else none
   else none
 else
  some (true,o1)
def zDo (n:Nat) (self:YC -> Option (Bool×(List Int))) (c:AC) (q:AA) (pos:List Int) (ln:Nat) (lost:List Int):Option (Bool×(List Int)):=
 (NU n c q pos ln lost).bind fun y1=>
  self (.l1 y1.1 y1.2.1 y1.2.2.1 (y1.1.length:Int) 0 y1.2.2.2)
def MK (c:AC) (q:AA) (pos:List Int) (ln:Nat) (lost:List Int):Nat -> YC -> Option (Bool×(List Int))
 | 0,_=>none
 | n+1,.l1 x3 x4 x5 Ab BB o1=>UE n (MK c q pos ln lost n) c q pos ln lost x3 x4 x5 Ab BB o1
def YD (n:Nat) (c:AC) (q:AA) (pos:List Int) (ln:Nat) (lost:List Int):Option (Bool×(List Int)):=zDo n (MK c q pos ln lost n) c q pos ln lost
def zDp (n B:Nat) (N:Yd 2) (c:AC) (q:AA) (pos:List Int) (ln:Nat) (lost:List Int) (r:Bool×(List Int)):YC -> Prop
 | .l1 x3 x4 x5 Ab BB o1=>∀ m0:Nat,n<=m0 -> TW B N (FQ Tryz.f64 2 (.bool r.1) [some (.cells (AH c++AD q++[.ints pos,.msl 1 1 0 ln])),some (.ints r.2)]) (Ah m0 (Ap (AW Tryz.f64) 0 [])) ⟨AM 52 [(0,.ref 0 0),(3,.bools x3),(4,.bools x4),(5,.bool x5),(16,.i Ab),(17,.i BB)],[some (.cells (AH c++AD q++[.ints pos,.msl 1 1 0 ln])),some (.ints o1)]⟩
theorem zDq (B:Nat) (N:Yd 2) (c:AC) (q:AA) (pos:List Int) (ln:Nat) (lost:List Int):Al (MK c q pos ln lost) (zDp · B N c q pos ln lost):=ia (fun _=>rfl) fun n AF pt r h=>by
 cases pt
 case l1 x3 x4 x5 Ab BB o1=>
  intro m0 AB;refine rd AB fun m0 AB=>?_
  revert r;apply gO;exact bi 18 (bi 21 (gw 51 (lG AE [0,1] (AF _ _ · m0 AB))) (gi (bi 27 (gw 51 (lG AE [0,1] (AF _ _ · m0 AB))) (gi (bi 33 (gw 51 (lG AE [0,1] (AF _ _ · m0 AB))) (cf rQ [some (.cells (AH c++AD q++[.ints pos,.msl 1 1 0 ln])),some (.ints o1)] fun _=>bi 45 (ce Lm [0,1] [some (.cells (AH c++AD q++[.ints pos,.msl 1 1 0 ln])),some (.ints o1)] fun _=>gw 51 (lG AE [0,1] (AF _ _ · m0 AB))) (gw 51 (lG AE [0,1] (AF _ _ · m0 AB))))))))) (lE AE [2] [0,1])
theorem zDn {n:Nat} {c:AC} {q:AA} {pos:List Int} {ln:Nat} {lost:List Int} {r:Bool×(List Int)} (h:YD n c q pos ln lost=some r):EQ 64 [.ref 0 0] [some (.cells (AH c++AD q++[.ints pos,.msl 1 1 0 ln])),some (.ints lost)] (.bool r.1) [some (.cells (AH c++AD q++[.ints pos,.msl 1 1 0 ln])),some (.ints r.2)] false:=by
 refine ot Tryz.func64 fun B N=>?_
 revert r;apply gO;exact ce lD [0,1] [some (.cells (AH c++AD q++[.ints pos,.msl 1 1 0 ln])),some (.ints lost)] fun _=>lN AE [0,1] ((zDq B N c q pos ln lost n) _ _ · n Nat.le.refl)
inductive Lq where
 | l1 (x3 x4:List Bool) (x20 x21:Int) (o1:List Int)
 | l2 (x3 x4:List Bool) (x8 x20 x21:Int) (BY:List Int) (Do BA:Int) (o1:List Int)
 | l3 (x3 x4:List Bool) (x7:Nat) (x8 x20 x21:Int) (BY:List Int) (Do BA:Int) (o1 o2:List Int)
 | l4 (x3 x4:List Bool) (x7:Nat) (x8 x20 x21:Int) (Gz:Nat) (Gy Am:Int) (o1 o2:List Int)
def S7 (n:Nat) (self:Lq -> Option (Bool×(List Int))) (c:AC) (q:AA) (pos:List Int) (ln:Nat) (lost:List Int) (x3 x4:List Bool) (x20 x21:Int) (o1:List Int):Option (Bool×(List Int)):=
 bif (decide (x21<x20)) then
  if 0<=x21/\ x21<(x4.length:Int) then
   bif (!(x4.getD ((x21).toNat) false)) then
    if AG (x21+1) then
     self (.l1 x3 x4 x20 (x21+1) o1)
    else none
   else
    if 0<=x21/\ x21<(q.nbrs.length:Int) then
     self (.l2 x3 x4 0 x20 x21 (q.nbrs.getD ((x21).toNat) []) (((q.nbrs.getD ((x21).toNat) []).length:Nat):Int) 0 o1)
    else none
  else none
 else
  some (true,o1)
def S6 (n:Nat) (self:Lq -> Option (Bool×(List Int))) (c:AC) (q:AA) (pos:List Int) (ln:Nat) (lost:List Int) (x3 x4:List Bool) (x8 x20 x21:Int) (BY:List Int) (Do BA:Int) (o1:List Int):Option (Bool×(List Int)):=
 bif (decide (BA<Do)) then
  if (0<=BA/\ BA<(BY.length:Int))/\ (0<=(BY.getD ((BA).toNat) 0)/\ (BY.getD ((BA).toNat) 0)<(x3.length:Int)) then
   bif (x3.getD ((BY.getD ((BA).toNat) 0).toNat) false) then
    if ((0=0/\ 1=([BY.getD ((BA).toNat) 0]:List Int).length)/\ 0<([BY.getD ((BA).toNat) 0]:List Int).length/\ ([BY.getD ((BA).toNat) 0]:List Int).length<=A7)/\ (0<=(BY.getD ((BA).toNat) 0)/\ (BY.getD ((BA).toNat) 0)<(x4.length:Int)) then
     bif (x4.getD ((BY.getD ((BA).toNat) 0).toNat) false) then
      if AG (x8+1)/\ AG (BA+1) then
       self (.l3 x3 x4 (([BY.getD ((BA).toNat) 0]:List Int).length) (x8+1) x20 x21 BY Do (BA+1) o1 ([BY.getD ((BA).toNat) 0]:List Int))
      else none
     else
      if AG (BA+1) then
       self (.l3 x3 x4 (([BY.getD ((BA).toNat) 0]:List Int).length) x8 x20 x21 BY Do (BA+1) o1 ([BY.getD ((BA).toNat) 0]:List Int))
      else none
    else none
   else
    if 0<=(BY.getD ((BA).toNat) 0)/\ (BY.getD ((BA).toNat) 0)<(x4.length:Int) then
     bif (x4.getD ((BY.getD ((BA).toNat) 0).toNat) false) then
      if AG (x8+1)/\ AG (BA+1) then
       self (.l2 x3 x4 (x8+1) x20 x21 BY Do (BA+1) o1)
      else none
     else
      if AG (BA+1) then
       self (.l2 x3 x4 x8 x20 x21 BY Do (BA+1) o1)
      else none
    else none
  else none
 else
  some (false,o1)
def Na (n:Nat) (self:Lq -> Option (Bool×(List Int))) (c:AC) (q:AA) (pos:List Int) (ln:Nat) (lost:List Int) (x3 x4:List Bool) (x7:Nat) (x8 x20 x21:Int) (BY:List Int) (Do BA:Int) (o1 o2:List Int):Option (Bool×(List Int)):=
 bif (decide (BA<Do)) then
  if (0<=BA/\ BA<(BY.length:Int))/\ (0<=(BY.getD ((BA).toNat) 0)/\ (BY.getD ((BA).toNat) 0)<(x3.length:Int)) then
   bif (x3.getD ((BY.getD ((BA).toNat) 0).toNat) false) then
    if ((0=0/\ 1=([BY.getD ((BA).toNat) 0]:List Int).length)/\ (0=0/\ x7=o2.length)/\ o2.length+([BY.getD ((BA).toNat) 0]:List Int).length<=A7)/\ (0<=(BY.getD ((BA).toNat) 0)/\ (BY.getD ((BA).toNat) 0)<(x4.length:Int)) then
     bif (x4.getD ((BY.getD ((BA).toNat) 0).toNat) false) then
      if AG (x8+1)/\ AG (BA+1) then
       self (.l3 x3 x4 (o2.length+([BY.getD ((BA).toNat) 0]:List Int).length) (x8+1) x20 x21 BY Do (BA+1) o1 (o2++([BY.getD ((BA).toNat) 0]:List Int)))
      else none
     else
      if AG (BA+1) then
       self (.l3 x3 x4 (o2.length+([BY.getD ((BA).toNat) 0]:List Int).length) x8 x20 x21 BY Do (BA+1) o1 (o2++([BY.getD ((BA).toNat) 0]:List Int)))
      else none
    else none
   else
    if 0<=(BY.getD ((BA).toNat) 0)/\ (BY.getD ((BA).toNat) 0)<(x4.length:Int) then
     bif (x4.getD ((BY.getD ((BA).toNat) 0).toNat) false) then
      if AG (x8+1)/\ AG (BA+1) then
       self (.l3 x3 x4 x7 (x8+1) x20 x21 BY Do (BA+1) o1 o2)
      else none
     else
      if AG (BA+1) then
       self (.l3 x3 x4 x7 x8 x20 x21 BY Do (BA+1) o1 o2)
      else none
    else none
  else none
 else
  bif (decide ((x7:Int)<2)) then
   some (false,o1)
  else
   bif (decide (x8>2)) then
    some (false,o1)
   else
    self (.l4 x3 x4 x7 x8 x20 x21 x7 (x7:Int) 0 o1 o2)
def S5 (n:Nat) (self:Lq -> Option (Bool×(List Int))) (c:AC) (q:AA) (pos:List Int) (ln:Nat) (lost:List Int) (x3 x4:List Bool) (x7:Nat) (x8 x20 x21:Int) (Gz:Nat) (Gy Am:Int) (o1 o2:List Int):Option (Bool×(List Int)):=
 bif (decide (Am<Gy)) then
  if (0<=Am/\ Am<(Gz:Int))/\ 0+((Am).toNat)<o2.length then
   bif ((x7:Int)==2) then
    (GJ n (o2.getD (0+((Am).toNat)) 0) c q pos ln o1).bind fun y1=>
     bif (x8==2) then
      if 0<=(o2.getD (0+((Am).toNat)) 0)/\ (o2.getD (0+((Am).toNat)) 0)<(x4.length:Int) then
       bif (!(x4.getD ((o2.getD (0+((Am).toNat)) 0).toNat) false)) then
        (DJ n (o2.getD (0+((Am).toNat)) 0) c.set c q pos ln y1).bind fun y2=>
         if AG (Am+1) then
          self (.l4 x3 x4 x7 x8 x20 x21 Gz Gy (Am+1) y2 o2)
         else none
       else
        if AG (Am+1) then
         self (.l4 x3 x4 x7 x8 x20 x21 Gz Gy (Am+1) y1 o2)
        else none
      else none
     else
      if AG (Am+1) then
       self (.l4 x3 x4 x7 x8 x20 x21 Gz Gy (Am+1) y1 o2)
      else none
   else
    bif (x8==2) then
     if 0<=(o2.getD (0+((Am).toNat)) 0)/\ (o2.getD (0+((Am).toNat)) 0)<(x4.length:Int) then
      bif (!(x4.getD ((o2.getD (0+((Am).toNat)) 0).toNat) false)) then
       (DJ n (o2.getD (0+((Am).toNat)) 0) c.set c q pos ln o1).bind fun y1=>
        if AG (Am+1) then
         self (.l4 x3 x4 x7 x8 x20 x21 Gz Gy (Am+1) y1 o2)
        else none
      else
       if AG (Am+1) then
        self (.l4 x3 x4 x7 x8 x20 x21 Gz Gy (Am+1) o1 o2)
       else none
     else none
    else
     if AG (Am+1) then
      self (.l4 x3 x4 x7 x8 x20 x21 Gz Gy (Am+1) o1 o2)
     else none
  else none
 else
  if AG (x21+1) then
   self (.l1 x3 x4 x20 (x21+1) o1)
  else none
def xv (n:Nat) (self:Lq -> Option (Bool×(List Int))) (c:AC) (q:AA) (pos:List Int) (ln:Nat) (lost:List Int):Option (Bool×(List Int)):=
 (NU n c q pos ln lost).bind fun y1=>
  self (.l1 y1.1 y1.2.1 (y1.2.1.length:Int) 0 y1.2.2.2)
def CS (c:AC) (q:AA) (pos:List Int) (ln:Nat) (lost:List Int):Nat -> Lq -> Option (Bool×(List Int))
 | 0,_=>none
 | n+1,.l1 x3 x4 x20 x21 o1=>S7 n (CS c q pos ln lost n) c q pos ln lost x3 x4 x20 x21 o1
 | n+1,.l2 x3 x4 x8 x20 x21 BY Do BA o1=>S6 n (CS c q pos ln lost n) c q pos ln lost x3 x4 x8 x20 x21 BY Do BA o1
 | n+1,.l3 x3 x4 x7 x8 x20 x21 BY Do BA o1 o2=>Na n (CS c q pos ln lost n) c q pos ln lost x3 x4 x7 x8 x20 x21 BY Do BA o1 o2
 | n+1,.l4 x3 x4 x7 x8 x20 x21 Gz Gy Am o1 o2=>S5 n (CS c q pos ln lost n) c q pos ln lost x3 x4 x7 x8 x20 x21 Gz Gy Am o1 o2
def Wa (n:Nat) (c:AC) (q:AA) (pos:List Int) (ln:Nat) (lost:List Int):Option (Bool×(List Int)):=xv n (CS c q pos ln lost n) c q pos ln lost
def xw (n B:Nat) (N:Yd 2) (c:AC) (q:AA) (pos:List Int) (ln:Nat) (lost:List Int) (r:Bool×(List Int)):Lq -> Prop
 | .l1 x3 x4 x20 x21 o1=>∀ m0:Nat,n<=m0 -> TW B N (FQ Tryz.f65 2 (.bool r.1) [some (.cells (AH c++AD q++[.ints pos,.msl 1 1 0 ln])),some (.ints r.2)]) (Ah m0 (Ap (AW Tryz.f65) 0 [])) ⟨AM 95 [(0,.ref 0 0),(3,.bools x3),(4,.bools x4),(20,.i x20),(21,.i x21)],[some (.cells (AH c++AD q++[.ints pos,.msl 1 1 0 ln])),some (.ints o1)]⟩
 | .l2 x3 x4 x8 x20 x21 BY Do BA o1=>∀ m0 m1:Nat,n<=m0 -> n<=m1 -> TW B N (FQ Tryz.f65 2 (.bool r.1) [some (.cells (AH c++AD q++[.ints pos,.msl 1 1 0 ln])),some (.ints r.2)]) (Ah m1 (Ap (AW Tryz.f65) 2 [m0])) ⟨AM 95 [(0,.ref 0 0),(3,.bools x3),(4,.bools x4),(7,.nils),(8,.i x8),(20,.i x20),(21,.i x21),(36,.ints BY),(37,.i Do),(38,.i BA)],[some (.cells (AH c++AD q++[.ints pos,.msl 1 1 0 ln])),some (.ints o1)]⟩
 | .l3 x3 x4 x7 x8 x20 x21 BY Do BA o1 o2=>∀ m0 m1:Nat,n<=m0 -> n<=m1 -> TW B N (FQ Tryz.f65 2 (.bool r.1) [some (.cells (AH c++AD q++[.ints pos,.msl 1 1 0 ln])),some (.ints r.2)]) (Ah m1 (Ap (AW Tryz.f65) 2 [m0])) ⟨AM 95 [(0,.ref 0 0),(3,.bools x3),(4,.bools x4),(7,.msl 2 1 0 x7),(8,.i x8),(20,.i x20),(21,.i x21),(36,.ints BY),(37,.i Do),(38,.i BA)],[some (.cells (AH c++AD q++[.ints pos,.msl 1 1 0 ln])),some (.ints o1),some (.ints o2)]⟩
 | .l4 x3 x4 x7 x8 x20 x21 Gz Gy Am o1 o2=>∀ m0 m1:Nat,n<=m0 -> n<=m1 -> TW B N (FQ Tryz.f65 2 (.bool r.1) [some (.cells (AH c++AD q++[.ints pos,.msl 1 1 0 ln])),some (.ints r.2)]) (Ah m1 (Ap (AW Tryz.f65) 4 [m0])) ⟨AM 95 [(0,.ref 0 0),(3,.bools x3),(4,.bools x4),(7,.msl 2 1 0 x7),(8,.i x8),(20,.i x20),(21,.i x21),(64,.msl 2 1 0 Gz),(65,.i Gy),(66,.i Am)],[some (.cells (AH c++AD q++[.ints pos,.msl 1 1 0 ln])),some (.ints o1),some (.ints o2)]⟩
theorem xx (B:Nat) (N:Yd 2) (c:AC) (q:AA) (pos:List Int) (ln:Nat) (lost:List Int):Al (CS c q pos ln lost) (xw · B N c q pos ln lost):=ia (fun _=>rfl) fun n AF pt r h=>by
 cases pt
 case l1 x3 x4 x20 x21 o1=>
  intro m0 AB;refine rd AB fun m0 AB=>?_
  revert r;apply gO;exact bi 22 (gi (bi 28 (gw 94 (lG AE [0,1] (AF _ _ · m0 AB))) (gi (lN AE [0,1] (AF _ _ · m0 n AB Nat.le.refl))))) (lE AE [2] [0,1])
 case l2 x3 x4 x8 x20 x21 BY Do BA o1=>
  intro m0 m1 AB AR;have AB:=zBZ AB;refine rd AR fun m1 AR=>?_
  revert r;apply gO;exact bi 39 (gc (gi (gi (bi 45 (gc (gi (gi (bi 53 (gc (gw 55 (gw 56 (lG AE [0,1,3] (AF _ _ · m0 m1 AB AR))))) (gw 56 (lG AE [0,1,3] (AF _ _ · m0 m1 AB AR))))))) (gi (bi 53 (gc (gw 55 (gw 56 (lG AE [0,1] (AF _ _ · m0 m1 AB AR))))) (gw 56 (lG AE [0,1] (AF _ _ · m0 m1 AB AR))))))))) (lE AE [2] [0,1])
 case l3 x3 x4 x7 x8 x20 x21 BY Do BA o1 o2=>
  intro m0 m1 AB AR;have AB:=zBZ AB;refine rd AR fun m1 AR=>?_
  revert r;apply gO;exact bi 39 (gc (gi (gi (bi 45 (gc (gi (gi (bi 53 (gc (gw 55 (gw 56 (lG AE [0,1,4] (AF _ _ · m0 m1 AB AR))))) (gw 56 (lG AE [0,1,4] (AF _ _ · m0 m1 AB AR))))))) (gi (bi 53 (gc (gw 55 (gw 56 (lG AE [0,1,2] (AF _ _ · m0 m1 AB AR))))) (gw 56 (lG AE [0,1,2] (AF _ _ · m0 m1 AB AR))))))))) (bi 59 (lE AE [2] [0,1]) (bi 62 (lE AE [2] [0,1]) (lN AE [0,1,2] (AF _ _ · m0 n AB Nat.le.refl))))
 case l4 x3 x4 x7 x8 x20 x21 Gz Gy Am o1 o2=>
  intro m0 m1 AB AR;have AB:=zBZ AB;refine rd AR fun m1 AR=>?_
  revert r;apply gO;exact bi 67 (gc (gi (gi (bi 72 (ce Lm [0,1] [some (.cells (AH c++AD q++[.ints pos,.msl 1 1 0 ln])),some (.ints o1),some (.ints o2)] fun y1=>bi 77 (gi (bi 83 (ce Fv [0,1] [some (.cells (AH c++AD q++[.ints pos,.msl 1 1 0 ln])),some (.ints y1),some (.ints o2)] fun _=>gw 93 (lG AE [0,1,2] (AF _ _ · m0 m1 AB AR))) (gw 93 (lG AE [0,1,2] (AF _ _ · m0 m1 AB AR))))) (gw 93 (lG AE [0,1,2] (AF _ _ · m0 m1 AB AR)))) (bi 77 (gi (bi 83 (ce Fv [0,1] [some (.cells (AH c++AD q++[.ints pos,.msl 1 1 0 ln])),some (.ints o1),some (.ints o2)] fun _=>gw 93 (lG AE [0,1,2] (AF _ _ · m0 m1 AB AR))) (gw 93 (lG AE [0,1,2] (AF _ _ · m0 m1 AB AR))))) (gw 93 (lG AE [0,1,2] (AF _ _ · m0 m1 AB AR)))))))) (gw 94 (lG AE [0,1] (AF _ _ · m0 AB)))
theorem xu {n:Nat} {c:AC} {q:AA} {pos:List Int} {ln:Nat} {lost:List Int} {r:Bool×(List Int)} (h:Wa n c q pos ln lost=some r):EQ 65 [.ref 0 0] [some (.cells (AH c++AD q++[.ints pos,.msl 1 1 0 ln])),some (.ints lost)] (.bool r.1) [some (.cells (AH c++AD q++[.ints pos,.msl 1 1 0 ln])),some (.ints r.2)] false:=by
 refine ot Tryz.func65 fun B N=>?_
 revert r;apply gO;exact ce lD [0,1] [some (.cells (AH c++AD q++[.ints pos,.msl 1 1 0 ln])),some (.ints lost)] fun _=>lN AE [0,1] ((xx B N c q pos ln lost n) _ _ · n Nat.le.refl)
end Go.Proofs.YtekkngkphejfcaaGreatDoor
namespace Go.Proofs.YtekkngkphejfcaaGreatDoor
open Go.RowKit
set_option maxRecDepth 100000
set_option maxHeartbeats 40000000
def gM:ST:=.rd 0 (.rd 1 (.rd 2 (.rd 3 (.rd 4 (.rd 5 (.rd 6 (.rd 7 (.rd 8 (.rd 9 (.rd 10 (.rd 11 (.rd 12 (.rd 13 (.rd 14 (.rd 15 (.rd 16 (.rd 17 (.rd 18 (.rd 19 (.rd 20 (.rd 21 (.rd 22 (.rd 23 (.rd 24 (.rd 25 (.rd 26 (.rd 27 (.rd 28 (.ef 29 (.rd 30 (.fin [] [5,6])) (.no))))))))))))))))))))))))))))))
theorem s9:CN (Ax Tryz.f86 2) [29] gM:=by unfold CN;kernel_rfl
def gL:ST:=.rd 0 (.rd 1 (.rd 2 (.rd 3 (.rd 4 (.rd 5 (.rd 6 (.rd 7 (.rd 8 (.rd 9 (.rd 10 (.rd 11 (.rd 12 (.rd 13 (.rd 14 (.rd 15 (.ef 16 (.rd 17 (.fin [] [5,6])) (.no)))))))))))))))))
theorem s8:CN (Ax Tryz.f86 5) [16] gL:=by unfold CN;kernel_rfl
def VB:BJ:=fun i=>match i with
 | 2=>.tre [29] gM
 | 5=>.tre [16] gL
 | _=>.no
def fu (s_:Int×Int) (c:AC) (q:AA) (pos:List Int) (ln:Nat) (lost:List Int):St:=⟨(AM 59 [(5,.ref 4 0),(6,.bool (decide (s_.2<(c.runs.getD ((s_.1).toNat) 0))))]),([some (.cells [.ref 1 0]),some (.cells (AH c++AD q++[.ints pos,.msl 2 1 0 ln])),some (.ints lost),some (.cells [.i s_.1,.i s_.2]),some (.cells [.i s_.1,.i (s_.2+1)])]:DH)⟩
def ft (c:AC) (q:AA) (pos:List Int) (ln:Nat) (lost:List Int) (s_:Int×Int):St:=⟨(AM 59 [(5,.ref 4 0),(6,.bool false)]),([some (.cells [.ref 1 0]),some (.cells (AH c++AD q++[.ints pos,.msl 2 1 0 ln])),some (.ints lost),some (.cells [.i s_.1,.i s_.2]),some (.cells [.i s_.1,.i (s_.2+1)])]:DH)⟩
def fq (s_:Int×Int) (c:AC) (q:AA) (pos:List Int) (ln:Nat) (lost:List Int):St:=⟨(AM 59 [(5,.ref 4 0),(6,.bool (s_.2==(c.runs.getD ((s_.1).toNat) 0)))]),([some (.cells [.ref 1 0]),some (.cells (AH c++AD q++[.ints pos,.msl 2 1 0 ln])),some (.ints lost),some (.cells [.i s_.1,.i s_.2]),some (.cells [.i (s_.1+1),.i 0])]:DH)⟩
def lK (n:Nat) (s_:Int×Int) (AI:Bool) (c:AC) (q:AA) (pos:List Int) (ln:Nat) (lost:List Int):Option ((Int×Int)×Bool×(List Int)):=
 bif AI then
  if AG (s_.2+1) then
   bif (decide (s_.1<(c.runs.length:Int))) then
    if 0<=s_.1/\ s_.1<(c.runs.length:Int) then
     some ((s_.1,(s_.2+1)),(decide (s_.2<(c.runs.getD ((s_.1).toNat) 0))),lost)
    else none
   else
    some ((s_.1,(s_.2+1)),false,lost)
  else none
 else
  bif (s_.2==0) then
   some ((s_.1,s_.2),true,lost)
  else
   if AG (s_.1+1)/\ (0<=s_.1/\ s_.1<(c.runs.length:Int)) then
    some (((s_.1+1),0),(s_.2==(c.runs.getD ((s_.1).toNat) 0)),lost)
   else none
def Sy (n:Nat) (s_:Int×Int) (AI:Bool) (c:AC) (q:AA) (pos:List Int) (ln:Nat) (lost:List Int):Option ((Int×Int)×Bool×(List Int)):=lK n s_ AI c q pos ln lost
theorem Ln {n:Nat} {s_:Int×Int} {AI:Bool} {c:AC} {q:AA} {pos:List Int} {ln:Nat} {lost:List Int} {r:(Int×Int)×Bool×(List Int)} (h:Sy n s_ AI c q pos ln lost=some r):EQ 86 [.agg 2 (L1 [.i s_.1,.i s_.2]),.bool AI,.ref 0 0] [some (.cells [.ref 1 0]),some (.cells (AH c++AD q++[.ints pos,.msl 2 1 0 ln])),some (.ints lost)] (.tup 2 (L1 [.agg 2 (L1 [.i r.1.1,.i r.1.2]),.bool r.2.1])) [some (.cells [.ref 1 0]),some (.cells (AH c++AD q++[.ints pos,.msl 2 1 0 ln])),some (.ints r.2.2)] false:=by
 refine ot Tryz.func86 fun B N=>?_
 revert r;apply gO;exact bi 8 (jg s9 (gw 13 (bi 23 (gi (jt (jg (Eq.refl (fu s_ c q pos ln lost)) (lE (tg:=[([(29,4)],(fu s_ c q pos ln lost))]) VB [5,6] [0,1,2,4])))) (jt (jg (Eq.refl (ft c q pos ln lost s_)) (lE (tg:=[([(29,4)],(ft c q pos ln lost s_))]) VB [5,6] [0,1,2,4])))))) (bi 41 (jt (lE VB [5,6] [0,1,2,4])) (jg s8 (gc (gw 45 (gi (jt (jg (Eq.refl (fq s_ c q pos ln lost)) (lE (tg:=[([(16,4)],(fq s_ c q pos ln lost))]) VB [5,6] [0,1,2,4]))))))))
theorem tC:Af (Ax Tryz.f87 2) [] (List.range 22) []:=by unfold Af;kernel_rfl
theorem tB:Af (Ax Tryz.f87 3) [] (List.range 22) []:=by unfold Af;kernel_rfl
def g9:BJ:=fun i=>match i with
 | 2=>.ord [] (List.range 22) []
 | 3=>.ord [] (List.range 22) []
 | _=>.no
def mF (n:Nat) (i_:Int) (AI:Bool) (c:AC) (q:AA) (pos:List Int) (ln:Nat) (lost:List Int):Option (Bool×(List Int)):=
 bif AI then
  if (0<=i_/\ i_<(c.cells.length:Int))/\ (0<=(c.cells.getD ((i_).toNat) 0)/\ (c.cells.getD ((i_).toNat) 0)<(pos.length:Int)) then
   some (((bits .and .i64 (pos.getD ((c.cells.getD ((i_).toNat) 0).toNat) 0) c.set) != 0),lost)
  else none
 else
  if (0<=i_/\ i_<(c.cells.length:Int))/\ (0<=(c.cells.getD ((i_).toNat) 0)/\ (c.cells.getD ((i_).toNat) 0)<(pos.length:Int)) then
   some (((bits .andNot .i64 (pos.getD ((c.cells.getD ((i_).toNat) 0).toNat) 0) c.set) != 0),lost)
  else none
def S9 (n:Nat) (i_:Int) (AI:Bool) (c:AC) (q:AA) (pos:List Int) (ln:Nat) (lost:List Int):Option (Bool×(List Int)):=mF n i_ AI c q pos ln lost
theorem Wj {n:Nat} {i_:Int} {AI:Bool} {c:AC} {q:AA} {pos:List Int} {ln:Nat} {lost:List Int} {r:Bool×(List Int)} (h:S9 n i_ AI c q pos ln lost=some r):EQ 87 [.i i_,.bool AI,.ref 0 0] [some (.cells [.ref 1 0]),some (.cells (AH c++AD q++[.ints pos,.msl 2 1 0 ln])),some (.ints lost)] (.bool r.1) [some (.cells [.ref 1 0]),some (.cells (AH c++AD q++[.ints pos,.msl 2 1 0 ln])),some (.ints r.2)] false:=by
 refine ot Tryz.func87 fun B N=>?_
 revert r;apply gO;exact bi 6 (jg tC (gc (gi (gi (lE g9 [5] [0,1,2]))))) (jg tB (gc (gi (gi (lE g9 [5] [0,1,2])))))
theorem sC:Af (Ax Tryz.f61 24) [] (List.range 6) [6]:=by unfold Af;kernel_rfl
def gE:ST:=.rd 0 (.rd 1 (.rd 2 (.rd 3 (.rd 4 (.rd 5 (.rd 6 (.rd 7 (.rd 8 (.rd 9 (.rd 10 (.rd 11 (.rd 12 (.rd 13 (.ef 14 (.fin [] [1,3,5,7,14,16,18]) (.no)))))))))))))))
theorem iF:CN (Ax Tryz.f61 49) [] gE:=by unfold CN;kernel_rfl
def gD:ST:=.rd 0 (.rd 1 (.rd 2 (.rd 3 (.rd 4 (.rd 5 (.rd 6 (.rd 7 (.rd 8 (.ef 9 (.fin [] [1,3,5,7,14,16]) (.no))))))))))
theorem ZN:CN (Ax Tryz.f61 51) [] gD:=by unfold CN;kernel_rfl
def CJ:BJ:=fun i=>match i with
 | 24=>.ord [] (List.range 6) [6]
 | 49=>.tre [] gE
 | 51=>.tre [] gD
 | _=>.no
def cO (c:AC) (q:AA) (pos:List Int) (ln:Nat) (o1:List Int) (o3:List (Option KS)):DH:=[some (.cells (AH c++AD q++[.ints pos,.msl 1 1 0 ln])),some (.ints o1),some (.cells [.ref 0 0]),some (.mo (.sets 2 o3 none))]
def zAd (c:AC) (q:AA) (pos:List Int) (ln:Nat) (o1:List Int) (o3:List (Option KS)) (As:Int) (gk:LK):DH:=[some (.cells (AH c++AD q++[.ints pos,.msl 1 1 0 ln])),some (.ints o1),some (.cells [.ref 0 0]),some (.mo (.sets 2 o3 (some (0+((As).toNat),gk))))]
def zAX (c:AC) (q:AA) (pos:List Int) (ln:Nat) (o1:List Int) (o3:List (Option KS)) (Ai:Nat) (gk:LK) (o4:KS):DH:=[some (.cells (AH c++AD q++[.ints pos,.msl 1 1 0 ln])),some (.ints o1),some (.cells [.ref 0 0]),some (.mo (.sets 2 o3 (some (Ai,gk)))),some (.mo (.mit 2 gk.1 gk.2.1 gk.2.2 o4 none))]
def mn (c:AC) (q:AA) (pos:List Int) (ln:Nat) (o1:List Int) (o3:List (Option KS)) (Ai:Nat) (gk:LK) (o4:KS) (y1:List Int):DH:=[some (.cells (AH c++AD q++[.ints pos,.msl 1 1 0 ln])),some (.ints o1),some (.cells [.ref 0 0]),some (.mo (.sets 2 o3 (some (Ai,gk)))),some (.mo (.mit 2 gk.1 gk.2.1 gk.2.2 (o4.erase y1) (some y1)))]
def cL (c:AC) (q:AA) (pos:List Int) (ln:Nat) (o1:List Int) (o3:List (Option KS)) (o4:KS):DH:=[some (.cells (AH c++AD q++[.ints pos,.msl 1 1 0 ln])),some (.ints o1),some (.cells [.ref 0 0]),some (.mo (.sets 2 o3 none)),some (.mo (.set 2 o4)),some (.mo (.set 2 ([]:KS))),some (.cells [.bool false,.bool false])]
def zAV (c:AC) (q:AA) (pos:List Int) (ln:Nat) (o1:List Int) (o3:List (Option KS)) (Ab:Int) (gk:LK) (o4:KS):DH:=[some (.cells (AH c++AD q++[.ints pos,.msl 1 1 0 ln])),some (.ints o1),some (.cells [.ref 0 0]),some (.mo (.sets 2 o3 (some (0+((Ab).toNat),gk)))),some (.mo (.set 2 o4)),some (.mo (.set 2 ([]:KS))),some (.cells [.bool false,.bool false])]
def cK (c:AC) (q:AA) (pos:List Int) (ln:Nat) (o1:List Int) (o3:List (Option KS)) (Ai:Nat) (gk:LK) (Aq FM:Int) (o5:KS) (FL:List Int):DH:=[some (.cells (AH c++AD q++[.ints pos,.msl 1 1 0 ln])),some (.ints o1),some (.cells [.ref 0 0]),some (.mo (.sets 2 o3 (some (Ai,gk)))),some (.cells [.i Aq,.i FM]),some (.mo (.mit 2 gk.1 gk.2.1 gk.2.2 o5 (some FL))),some (.bools ([false,true]:List Bool))]
def zAU (c:AC) (q:AA) (pos:List Int) (ln:Nat) (y1:(Int×Int)×Bool×(List Int)) (o3:List (Option KS)) (Ai:Nat) (gk:LK) (Aq FM:Int) (o5:KS) (FL:List Int):DH:=[some (.cells (AH c++AD q++[.ints pos,.msl 1 1 0 ln])),some (.ints y1.2.2),some (.cells [.ref 0 0]),some (.mo (.sets 2 o3 (some (Ai,gk)))),some (.cells [.i Aq,.i FM]),some (.mo (.mit 2 gk.1 gk.2.1 gk.2.2 o5 (some FL))),some (.bools ([false,true]:List Bool)),some (.cells [.i y1.1.1,.i y1.1.2])]
def zAT (c:AC) (q:AA) (pos:List Int) (ln:Nat) (o1:List Int) (o3:List (Option KS)) (Ai:Nat) (gk:LK) (o4 o7:KS):DH:=[some (.cells (AH c++AD q++[.ints pos,.msl 1 1 0 ln])),some (.ints o1),some (.cells [.ref 0 0]),some (.mo (.sets 2 o3 (some (Ai,gk)))),some (.mo (.set 2 o4)),some (.mo (.set 2 ([]:KS))),some (.cells [.bool false,.bool false]),some (.mo (.mit 2 gk.1 gk.2.1 gk.2.2 o7 none))]
def fg (c:AC) (Ab:Int) (q:AA) (pos:List Int) (ln:Nat) (y2:(List Int)) (o3:List (Option KS)) (o4:KS):St:=⟨(AM 208 [(1,.ref 2 0),(3,.fn 86 1 (L1 [.ref 2 0])),(5,.msl 3 1 0 ((((c.cells.length:Int)+1)).toNat)),(7,.fn 87 1 (L1 [.ref 2 0])),(14,.it 5),(16,.i Ab),(18,.ref 6 0)]),([some (.cells (AH c++AD q++[.ints pos,.msl 1 1 0 ln])),some (.ints y2),some (.cells [.ref 0 0]),some (.mo (.sets 2 o3 none)),some (.mo (.set 2 o4)),some (.mo (.set 2 ([]:KS))),some (.cells [.bool false,.bool false])]:DH)⟩
def zAc (c:AC) (q:AA) (pos:List Int) (ln:Nat) (y2:(List Int)) (o3:List (Option KS)) (o4:KS):DH:=[some (.cells (AH c++AD q++[.ints pos,.msl 1 1 0 ln])),some (.ints y2),some (.cells [.ref 0 0]),some (.mo (.sets 2 o3 none)),some (.mo (.set 2 o4)),some (.mo (.set 2 ([]:KS))),some (.cells [.bool false,.bool false])]
def fk (c:AC) (Ab:Int) (q:AA) (pos:List Int) (ln:Nat) (y3:(List Int)) (o3:List (Option KS)) (o4:KS):St:=⟨(AM 208 [(1,.ref 2 0),(3,.fn 86 1 (L1 [.ref 2 0])),(5,.msl 3 1 0 ((((c.cells.length:Int)+1)).toNat)),(7,.fn 87 1 (L1 [.ref 2 0])),(14,.it 5),(16,.i Ab)]),([some (.cells (AH c++AD q++[.ints pos,.msl 1 1 0 ln])),some (.ints y3),some (.cells [.ref 0 0]),some (.mo (.sets 2 o3 none)),some (.mo (.set 2 o4)),some (.mo (.set 2 ([]:KS))),some (.cells [.bool false,.bool false])]:DH)⟩
def zAb (c:AC) (q:AA) (pos:List Int) (ln:Nat) (o1:List Int) (o3:List (Option KS)) (Ai:Nat) (gk:LK) (o4 o7:KS) (y1:List Int):DH:=[some (.cells (AH c++AD q++[.ints pos,.msl 1 1 0 ln])),some (.ints o1),some (.cells [.ref 0 0]),some (.mo (.sets 2 o3 (some (Ai,gk)))),some (.mo (.set 2 o4)),some (.mo (.set 2 ([]:KS))),some (.cells [.bool false,.bool false]),some (.mo (.mit 2 gk.1 gk.2.1 gk.2.2 (o7.erase y1) (some y1)))]
def TN (c:AC) (q:AA) (pos:List Int) (ln:Nat) (o1:List Int) (o3:List (Option KS)) (Ai:Nat) (gk:LK) (o4 o5:KS) (BN BO:Bool) (DI DG:Int) (o8:KS) (De:List Int):DH:=[some (.cells (AH c++AD q++[.ints pos,.msl 1 1 0 ln])),some (.ints o1),some (.cells [.ref 0 0]),some (.mo (.sets 2 o3 (some (Ai,gk)))),some (.mo (.set 2 o4)),some (.mo (.set 2 o5)),some (.cells [.bool BN,.bool BO]),some (.cells [.i DI,.i DG]),some (.mo (.mit 2 gk.1 gk.2.1 gk.2.2 o8 (some De))),some (.bools ([false,true]:List Bool))]
def cN (c:AC) (q:AA) (pos:List Int) (ln:Nat) (y1:(Int×Int)×Bool×(List Int)) (o3:List (Option KS)) (Ai:Nat) (gk:LK) (o4 o5:KS) (BN BO:Bool) (DI DG:Int) (o8:KS) (De:List Int):DH:=[some (.cells (AH c++AD q++[.ints pos,.msl 1 1 0 ln])),some (.ints y1.2.2),some (.cells [.ref 0 0]),some (.mo (.sets 2 o3 (some (Ai,gk)))),some (.mo (.set 2 o4)),some (.mo (.set 2 o5)),some (.cells [.bool BN,.bool BO]),some (.cells [.i DI,.i DG]),some (.mo (.mit 2 gk.1 gk.2.1 gk.2.2 o8 (some De))),some (.bools ([false,true]:List Bool)),some (.cells [.i y1.1.1,.i y1.1.2])]
def zAa (c:AC) (q:AA) (pos:List Int) (ln:Nat) (o1:List Int) (o3:List (Option KS)) (Ai:Nat) (gk:LK) (o4:KS) (Jh:List Int):DH:=[some (.cells (AH c++AD q++[.ints pos,.msl 1 1 0 ln])),some (.ints o1),some (.cells [.ref 0 0]),some (.mo (.sets 2 o3 (some (Ai,gk)))),some (.mo (.mit 2 gk.1 gk.2.1 gk.2.2 o4 (some Jh)))]
def zAZ (c:AC) (q:AA) (pos:List Int) (ln:Nat) (o1:List Int) (o3:List (Option KS)) (Ai:Nat) (gk:LK) (o4 o5:KS) (BN BO:Bool) (o7:KS) (Jg:List Int):DH:=[some (.cells (AH c++AD q++[.ints pos,.msl 1 1 0 ln])),some (.ints o1),some (.cells [.ref 0 0]),some (.mo (.sets 2 o3 (some (Ai,gk)))),some (.mo (.set 2 o4)),some (.mo (.set 2 o5)),some (.cells [.bool BN,.bool BO]),some (.mo (.mit 2 gk.1 gk.2.1 gk.2.2 o7 (some Jg)))]
def cM (c:AC) (q:AA) (pos:List Int) (ln:Nat) (o1:List Int) (o3:List (Option KS)) (o4 o5:KS) (BN BO:Bool):DH:=[some (.cells (AH c++AD q++[.ints pos,.msl 1 1 0 ln])),some (.ints o1),some (.cells [.ref 0 0]),some (.mo (.sets 2 o3 none)),some (.mo (.set 2 o4)),some (.mo (.set 2 o5)),some (.cells [.bool BN,.bool BO])]
def Yz (c:AC) (Ab:Int) (q:AA) (pos:List Int) (ln:Nat) (y2:(List Int)) (o3:List (Option KS)) (o4 o5:KS) (BN BO:Bool):St:=⟨(AM 208 [(1,.ref 2 0),(3,.fn 86 1 (L1 [.ref 2 0])),(5,.msl 3 1 0 ((((c.cells.length:Int)+1)).toNat)),(7,.fn 87 1 (L1 [.ref 2 0])),(14,.it 5),(16,.i Ab),(18,.ref 6 0)]),([some (.cells (AH c++AD q++[.ints pos,.msl 1 1 0 ln])),some (.ints y2),some (.cells [.ref 0 0]),some (.mo (.sets 2 o3 none)),some (.mo (.set 2 o4)),some (.mo (.set 2 o5)),some (.cells [.bool BN,.bool BO])]:DH)⟩
def zAY (c:AC) (q:AA) (pos:List Int) (ln:Nat) (y2:(List Int)) (o3:List (Option KS)) (o4 o5:KS) (BN BO:Bool):DH:=[some (.cells (AH c++AD q++[.ints pos,.msl 1 1 0 ln])),some (.ints y2),some (.cells [.ref 0 0]),some (.mo (.sets 2 o3 none)),some (.mo (.set 2 o4)),some (.mo (.set 2 o5)),some (.cells [.bool BN,.bool BO])]
def fj (c:AC) (Ab:Int) (q:AA) (pos:List Int) (ln:Nat) (y3:(List Int)) (o3:List (Option KS)) (o4 o5:KS) (BN BO:Bool):St:=⟨(AM 208 [(1,.ref 2 0),(3,.fn 86 1 (L1 [.ref 2 0])),(5,.msl 3 1 0 ((((c.cells.length:Int)+1)).toNat)),(7,.fn 87 1 (L1 [.ref 2 0])),(14,.it 5),(16,.i Ab)]),([some (.cells (AH c++AD q++[.ints pos,.msl 1 1 0 ln])),some (.ints y3),some (.cells [.ref 0 0]),some (.mo (.sets 2 o3 none)),some (.mo (.set 2 o4)),some (.mo (.set 2 o5)),some (.cells [.bool BN,.bool BO])]:DH)⟩
def fh (c:AC) (Ab:Int) (q:AA) (pos:List Int) (ln:Nat) (y2:(List Int)) (o3:List (Option KS)) (o4 o5:KS) (BN BO:Bool):St:=⟨(AM 208 [(1,.ref 2 0),(3,.fn 86 1 (L1 [.ref 2 0])),(5,.msl 3 1 0 ((((c.cells.length:Int)+1)).toNat)),(7,.fn 87 1 (L1 [.ref 2 0])),(14,.it 5),(16,.i Ab)]),([some (.cells (AH c++AD q++[.ints pos,.msl 1 1 0 ln])),some (.ints y2),some (.cells [.ref 0 0]),some (.mo (.sets 2 o3 none)),some (.mo (.set 2 o4)),some (.mo (.set 2 o5)),some (.cells [.bool BN,.bool BO])]:DH)⟩
def zAW (c:AC) (q:AA) (pos:List Int) (ln:Nat) (o1:List Int) (o3:List (Option KS)) (Ai:Nat) (gk:LK) (o4 o5:KS) (BN BO:Bool) (o7:KS) (y1:List Int):DH:=[some (.cells (AH c++AD q++[.ints pos,.msl 1 1 0 ln])),some (.ints o1),some (.cells [.ref 0 0]),some (.mo (.sets 2 o3 (some (Ai,gk)))),some (.mo (.set 2 o4)),some (.mo (.set 2 o5)),some (.cells [.bool BN,.bool BO]),some (.mo (.mit 2 gk.1 gk.2.1 gk.2.2 (o7.erase y1) (some y1)))]
inductive Hn where
 | l1 (Cz:Int) (o3:List (Option KS))
 | l2 (As:Int) (o1:List Int) (o3:List (Option KS))
 | l3 (x8 As:Int) (o1:List Int) (o3:List (Option KS)) (Ai:Nat) (o4:KS)
 | l4 (Ab:Int) (o1:List Int) (o3:List (Option KS)) (o4:KS)
 | l5 (x8 As FD:Int) (o1:List Int) (o3:List (Option KS)) (Ai:Nat) (Aq FM:Int) (o5:KS) (FL:List Int)
 | l6 (Ab:Int) (o1:List Int) (o3:List (Option KS)) (Ai:Nat) (o4 o7:KS)
 | l7 (Ab Dc:Int) (o1:List Int) (o3:List (Option KS)) (Ai:Nat) (o4 o5:KS) (BN BO:Bool) (DI DG:Int) (o8:KS) (De:List Int)
 | l8 (x8 As:Int) (o1:List Int) (o3:List (Option KS)) (Ai:Nat) (o4:KS) (Jh:List Int)
 | l9 (Ab:Int) (o1:List Int) (o3:List (Option KS)) (Ai:Nat) (o4 o5:KS) (BN BO:Bool) (o7:KS) (Jg:List Int)
def RT (n:Nat) (self:Hn -> Option (Bool×(List Int))) (c:AC) (q:AA) (pos:List Int) (ln:Nat) (lost:List Int) (Cz:Int) (o3:List (Option KS)):Option (Bool×(List Int)):=
 bif (decide (Cz<(((((c.cells.length:Int)+1)).toNat:Nat):Int))) then
  if (0<=Cz/\ Cz<(((((c.cells.length:Int)+1)).toNat:Nat):Int))/\ 0+((Cz).toNat)<o3.length/\ AG (Cz+1) then
   self (.l1 (Cz+1) (o3.set (0+((Cz).toNat)) (some ([]:KS))))
  else none
 else
  if ((0:Int)<=0/\ 0<(((((c.cells.length:Int)+1)).toNat:Nat):Int))/\ 0+0<o3.length/\ (o3.getD (0+0) none).isSome=true then
   self (.l2 0 lost (o3.set (0+0) (some (CL [0,0] ((o3.getD (0+0) none).getD [])))))
  else none
def Mu (n:Nat) (self:Hn -> Option (Bool×(List Int))) (c:AC) (q:AA) (pos:List Int) (ln:Nat) (lost:List Int) (As:Int) (o1:List Int) (o3:List (Option KS)):Option (Bool×(List Int)):=
 bif (decide (As<(c.cells.length:Int))) then
  if (o3.getD (0+((As).toNat)) none).isSome=true then
   if (0<=As/\ As<(((((c.cells.length:Int)+1)).toNat:Nat):Int))/\ 0+((As).toNat)<o3.length/\ (o3.getD (0+((As).toNat)) none).isSome=true then
    self (.l3 As As o1 o3 (0+((As).toNat)) ((o3.getD (0+((As).toNat)) none).getD []))
   else none
  else none
 else
  bif (decide ((c.runs.length:Int)>0)) then
   if AG ((c.runs.length:Int)-1)/\ ((0:Int)<=((c.runs.length:Int)-1)/\ ((c.runs.length:Int)-1)<(c.runs.length:Int))/\ AG ((c.cells.length:Int)-1) then
    self (.l4 ((c.cells.length:Int)-1) o1 o3 (CL [((c.runs.length:Int)-1),c.runs.getD ((((c.runs.length:Int)-1)).toNat) 0] (CL [(c.runs.length:Int),0] ([]:KS))))
   else none
  else
   if AG ((c.cells.length:Int)-1) then
    self (.l4 ((c.cells.length:Int)-1) o1 o3 (CL [(c.runs.length:Int),0] ([]:KS)))
   else none
def tZ (n:Nat) (self:Hn -> Option (Bool×(List Int))) (c:AC) (q:AA) (pos:List Int) (ln:Nat) (lost:List Int) (x8 As:Int) (o1:List Int) (o3:List (Option KS)) (Ai:Nat) (o4:KS):Option (Bool×(List Int)):=
 if (o3.getD Ai none).isSome=true then
  Hv o4 (
   if AG (As+1) then
    self (.l2 (As+1) o1 o3)
   else none) fun y1=>
   if (o3.getD Ai none).isSome=true then
    self (.l5 x8 As 0 o1 o3 Ai (y1.getD 0 0) (y1.getD 1 0) (o4.erase y1) y1)
   else none
 else none
def RS (n:Nat) (self:Hn -> Option (Bool×(List Int))) (c:AC) (q:AA) (pos:List Int) (ln:Nat) (lost:List Int) (Ab:Int) (o1:List Int) (o3:List (Option KS)) (o4:KS):Option (Bool×(List Int)):=
 bif (decide (Ab>=0)) then
  if (o3.getD (0+((Ab).toNat)) none).isSome=true then
   if (0<=Ab/\ Ab<(((((c.cells.length:Int)+1)).toNat:Nat):Int))/\ 0+((Ab).toNat)<o3.length/\ (o3.getD (0+((Ab).toNat)) none).isSome=true then
    self (.l6 Ab o1 o3 (0+((Ab).toNat)) o4 ((o3.getD (0+((Ab).toNat)) none).getD []))
   else none
  else none
 else
  some (true,o1)
def Mt (n:Nat) (self:Hn -> Option (Bool×(List Int))) (c:AC) (q:AA) (pos:List Int) (ln:Nat) (lost:List Int) (x8 As FD:Int) (o1:List Int) (o3:List (Option KS)) (Ai:Nat) (Aq FM:Int) (o5:KS) (FL:List Int):Option (Bool×(List Int)):=
 bif (decide (FD<2)) then
  if (0<=FD/\ FD<((2:Nat):Int))/\ 0+((FD).toNat)<([false,true]:List Bool).length then
   (Sy n (Aq,FM) (([false,true]:List Bool).getD (0+((FD).toNat)) false) c q pos ln o1).bind fun y1=>
    bif y1.2.1 then
     (S9 n x8 (([false,true]:List Bool).getD (0+((FD).toNat)) false) c q pos ln y1.2.2).bind fun y2=>
      bif y2.1 then
       if AG (x8+1)/\ (0<=(x8+1)/\ (x8+1)<(((((c.cells.length:Int)+1)).toNat:Nat):Int))/\ 0+(((x8+1)).toNat)<o3.length/\ Ai≠0+(((x8+1)).toNat)/\ (o3.getD (0+(((x8+1)).toNat)) none).isSome=true/\ AG (FD+1) then
        self (.l5 x8 As (FD+1) y2.2 (o3.set (0+(((x8+1)).toNat)) (some (CL [y1.1.1,y1.1.2] ((o3.getD (0+(((x8+1)).toNat)) none).getD [])))) Ai Aq FM o5 FL)
       else none
      else
       if AG (FD+1) then
        self (.l5 x8 As (FD+1) y2.2 o3 Ai Aq FM o5 FL)
       else none
    else
     if AG (FD+1) then
      self (.l5 x8 As (FD+1) y1.2.2 o3 Ai Aq FM o5 FL)
     else none
  else none
 else
  self (.l8 x8 As o1 o3 Ai o5 FL)
def tY (n:Nat) (self:Hn -> Option (Bool×(List Int))) (c:AC) (q:AA) (pos:List Int) (ln:Nat) (lost:List Int) (Ab:Int) (o1:List Int) (o3:List (Option KS)) (Ai:Nat) (o4 o7:KS):Option (Bool×(List Int)):=
 if (o3.getD Ai none).isSome=true then
  Hv o7 (
   if 0<=Ab/\ Ab<(c.cells.length:Int) then
    (DJ n (c.cells.getD ((Ab).toNat) 0) c.set c q pos ln o1).bind fun y2=>
     (GJ n (c.cells.getD ((Ab).toNat) 0) c q pos ln y2).bind fun y3=>
      if AG (Ab-1) then
       self (.l4 (Ab-1) y3 o3 ([]:KS))
      else none
   else none) fun y1=>
   if (o3.getD Ai none).isSome=true then
    self (.l7 Ab 0 o1 o3 Ai o4 ([]:KS) false false (y1.getD 0 0) (y1.getD 1 0) (o7.erase y1) y1)
   else none
 else none
def Ms (n:Nat) (self:Hn -> Option (Bool×(List Int))) (c:AC) (q:AA) (pos:List Int) (ln:Nat) (lost:List Int) (Ab Dc:Int) (o1:List Int) (o3:List (Option KS)) (Ai:Nat) (o4 o5:KS) (BN BO:Bool) (DI DG:Int) (o8:KS) (De:List Int):Option (Bool×(List Int)):=
 bif (decide (Dc<2)) then
  if (0<=Dc/\ Dc<((2:Nat):Int))/\ 0+((Dc).toNat)<([false,true]:List Bool).length then
   (Sy n (DI,DG) (([false,true]:List Bool).getD (0+((Dc).toNat)) false) c q pos ln o1).bind fun y1=>
    bif y1.2.1 then
     (S9 n Ab (([false,true]:List Bool).getD (0+((Dc).toNat)) false) c q pos ln y1.2.2).bind fun y2=>
      bif y2.1 then
       bif (o4.contains [y1.1.1,y1.1.2]) then
        bif (Dc==0) then
         if AG (Dc+1) then
          self (.l7 Ab (Dc+1) y2.2 o3 Ai o4 (CL [DI,DG] o5) true BO DI DG o8 De)
         else none
        else
         bif (Dc==1) then
          if AG (Dc+1) then
           self (.l7 Ab (Dc+1) y2.2 o3 Ai o4 (CL [DI,DG] o5) BN true DI DG o8 De)
          else none
         else
          none
       else
        if AG (Dc+1) then
         self (.l7 Ab (Dc+1) y2.2 o3 Ai o4 o5 BN BO DI DG o8 De)
        else none
      else
       if AG (Dc+1) then
        self (.l7 Ab (Dc+1) y2.2 o3 Ai o4 o5 BN BO DI DG o8 De)
       else none
    else
     if AG (Dc+1) then
      self (.l7 Ab (Dc+1) y1.2.2 o3 Ai o4 o5 BN BO DI DG o8 De)
     else none
  else none
 else
  self (.l9 Ab o1 o3 Ai o4 o5 BN BO o8 De)
def RR (n:Nat) (self:Hn -> Option (Bool×(List Int))) (c:AC) (q:AA) (pos:List Int) (ln:Nat) (lost:List Int) (x8 As:Int) (o1:List Int) (o3:List (Option KS)) (Ai:Nat) (o4:KS) (Jh:List Int):Option (Bool×(List Int)):=
 if (o3.getD Ai none).isSome=true then
  Hv o4 (
   if AG (As+1) then
    self (.l2 (As+1) o1 o3)
   else none) fun y1=>
   if (o3.getD Ai none).isSome=true then
    self (.l5 x8 As 0 o1 o3 Ai (y1.getD 0 0) (y1.getD 1 0) (o4.erase y1) y1)
   else none
 else none
def RQ (n:Nat) (self:Hn -> Option (Bool×(List Int))) (c:AC) (q:AA) (pos:List Int) (ln:Nat) (lost:List Int) (Ab:Int) (o1:List Int) (o3:List (Option KS)) (Ai:Nat) (o4 o5:KS) (BN BO:Bool) (o7:KS) (Jg:List Int):Option (Bool×(List Int)):=
 if (o3.getD Ai none).isSome=true then
  Hv o7 (
   bif (!BO) then
    if 0<=Ab/\ Ab<(c.cells.length:Int) then
     (DJ n (c.cells.getD ((Ab).toNat) 0) c.set c q pos ln o1).bind fun y2=>
      bif (!BN) then
       (GJ n (c.cells.getD ((Ab).toNat) 0) c q pos ln y2).bind fun y3=>
        if AG (Ab-1) then
         self (.l4 (Ab-1) y3 o3 o5)
        else none
      else
       if AG (Ab-1) then
        self (.l4 (Ab-1) y2 o3 o5)
       else none
    else none
   else
    bif (!BN) then
     if 0<=Ab/\ Ab<(c.cells.length:Int) then
      (GJ n (c.cells.getD ((Ab).toNat) 0) c q pos ln o1).bind fun y2=>
       if AG (Ab-1) then
        self (.l4 (Ab-1) y2 o3 o5)
       else none
     else none
    else
     if AG (Ab-1) then
      self (.l4 (Ab-1) o1 o3 o5)
     else none) fun y1=>
   if (o3.getD Ai none).isSome=true then
    self (.l7 Ab 0 o1 o3 Ai o4 o5 BN BO (y1.getD 0 0) (y1.getD 1 0) (o7.erase y1) y1)
   else none
 else none
def ZS (n:Nat) (self:Hn -> Option (Bool×(List Int))) (c:AC) (q:AA) (pos:List Int) (ln:Nat) (lost:List Int):Option (Bool×(List Int)):=
 bif ((c.cells.length:Int)==0) then
  some (((c.runs.length:Int)==0),lost)
 else
  if AG ((c.cells.length:Int)+1)/\ ((((c.cells.length:Int)+1):Int)=((c.cells.length:Int)+1)/\ (0:Int)<=((c.cells.length:Int)+1)/\ (((c.cells.length:Int)+1):Int)<=1000000000000) then
   self (.l1 0 (List.replicate ((((c.cells.length:Int)+1)).toNat) (none:Option KS)))
  else none
def BG (c:AC) (q:AA) (pos:List Int) (ln:Nat) (lost:List Int):Nat -> Hn -> Option (Bool×(List Int))
 | 0,_=>none
 | n+1,.l1 Cz o3=>RT n (BG c q pos ln lost n) c q pos ln lost Cz o3
 | n+1,.l2 As o1 o3=>Mu n (BG c q pos ln lost n) c q pos ln lost As o1 o3
 | n+1,.l3 x8 As o1 o3 Ai o4=>tZ n (BG c q pos ln lost n) c q pos ln lost x8 As o1 o3 Ai o4
 | n+1,.l4 Ab o1 o3 o4=>RS n (BG c q pos ln lost n) c q pos ln lost Ab o1 o3 o4
 | n+1,.l5 x8 As FD o1 o3 Ai Aq FM o5 FL=>Mt n (BG c q pos ln lost n) c q pos ln lost x8 As FD o1 o3 Ai Aq FM o5 FL
 | n+1,.l6 Ab o1 o3 Ai o4 o7=>tY n (BG c q pos ln lost n) c q pos ln lost Ab o1 o3 Ai o4 o7
 | n+1,.l7 Ab Dc o1 o3 Ai o4 o5 BN BO DI DG o8 De=>Ms n (BG c q pos ln lost n) c q pos ln lost Ab Dc o1 o3 Ai o4 o5 BN BO DI DG o8 De
 | n+1,.l8 x8 As o1 o3 Ai o4 Jh=>RR n (BG c q pos ln lost n) c q pos ln lost x8 As o1 o3 Ai o4 Jh
 | n+1,.l9 Ab o1 o3 Ai o4 o5 BN BO o7 Jg=>RQ n (BG c q pos ln lost n) c q pos ln lost Ab o1 o3 Ai o4 o5 BN BO o7 Jg
def Ov (n:Nat) (c:AC) (q:AA) (pos:List Int) (ln:Nat) (lost:List Int):Option (Bool×(List Int)):=ZS n (BG c q pos ln lost n) c q pos ln lost
def tc (n B:Nat) (N:Yd 2) (c:AC) (q:AA) (pos:List Int) (ln:Nat) (lost:List Int) (r:Bool×(List Int)):Hn -> Prop
 | .l1 Cz o3=>∀ m0:Nat,n<=m0 -> TW B N (FQ Tryz.f61 2 (.bool r.1) [some (.cells (AH c++AD q++[.ints pos,.msl 1 1 0 ln])),some (.ints r.2)]) (Ah m0 (Ap (AW Tryz.f61) 0 [])) ⟨AM 208 [(1,.ref 2 0),(3,.fn 86 1 (L1 [.ref 2 0])),(4,.i (c.cells.length:Int)),(5,.msl 3 1 0 ((((c.cells.length:Int)+1)).toNat)),(44,.i (((((c.cells.length:Int)+1)).toNat:Nat):Int)),(45,.i Cz)],[some (.cells (AH c++AD q++[.ints pos,.msl 1 1 0 ln])),some (.ints lost),some (.cells [.ref 0 0]),some (.mo (.sets 2 o3 none))]⟩
 | .l2 As o1 o3=>∀ m0:Nat,n<=m0 -> TW B N (FQ Tryz.f61 2 (.bool r.1) [some (.cells (AH c++AD q++[.ints pos,.msl 1 1 0 ln])),some (.ints r.2)]) (Ah m0 (Ap (AW Tryz.f61) 2 [])) ⟨AM 208 [(1,.ref 2 0),(3,.fn 86 1 (L1 [.ref 2 0])),(4,.i (c.cells.length:Int)),(5,.msl 3 1 0 ((((c.cells.length:Int)+1)).toNat)),(7,.fn 87 1 (L1 [.ref 2 0])),(58,.i (c.cells.length:Int)),(59,.i As)],[some (.cells (AH c++AD q++[.ints pos,.msl 1 1 0 ln])),some (.ints o1),some (.cells [.ref 0 0]),some (.mo (.sets 2 o3 none))]⟩
 | .l3 x8 As o1 o3 Ai o4=>∀ m0 m1:Nat,n<=m0 -> n<=m1 -> ∀ gk:LK,TW B N (FQ Tryz.f61 2 (.bool r.1) [some (.cells (AH c++AD q++[.ints pos,.msl 1 1 0 ln])),some (.ints r.2)]) (Ah m1 (Ap (AW Tryz.f61) 4 [m0])) ⟨AM 208 [(1,.ref 2 0),(3,.fn 86 1 (L1 [.ref 2 0])),(4,.i (c.cells.length:Int)),(5,.msl 3 1 0 ((((c.cells.length:Int)+1)).toNat)),(7,.fn 87 1 (L1 [.ref 2 0])),(8,.i x8),(58,.i (c.cells.length:Int)),(59,.i As),(66,.it 4)],[some (.cells (AH c++AD q++[.ints pos,.msl 1 1 0 ln])),some (.ints o1),some (.cells [.ref 0 0]),some (.mo (.sets 2 o3 (some (Ai,gk)))),some (.mo (.mit 2 gk.1 gk.2.1 gk.2.2 o4 none))]⟩
 | .l4 Ab o1 o3 o4=>∀ m0:Nat,n<=m0 -> TW B N (FQ Tryz.f61 2 (.bool r.1) [some (.cells (AH c++AD q++[.ints pos,.msl 1 1 0 ln])),some (.ints r.2)]) (Ah m0 (Ap (AW Tryz.f61) 8 [])) ⟨AM 208 [(1,.ref 2 0),(3,.fn 86 1 (L1 [.ref 2 0])),(5,.msl 3 1 0 ((((c.cells.length:Int)+1)).toNat)),(7,.fn 87 1 (L1 [.ref 2 0])),(14,.it 4),(16,.i Ab)],[some (.cells (AH c++AD q++[.ints pos,.msl 1 1 0 ln])),some (.ints o1),some (.cells [.ref 0 0]),some (.mo (.sets 2 o3 none)),some (.mo (.set 2 o4))]⟩
 | .l5 x8 As FD o1 o3 Ai Aq FM o5 FL=>∀ m0 m1 m2:Nat,n<=m0 -> n<=m1 -> n<=m2 -> ∀ gk:LK,TW B N (FQ Tryz.f61 2 (.bool r.1) [some (.cells (AH c++AD q++[.ints pos,.msl 1 1 0 ln])),some (.ints r.2)]) (Ah m2 (Ap (AW Tryz.f61) 6 [m0,m1])) ⟨AM 208 [(1,.ref 2 0),(3,.fn 86 1 (L1 [.ref 2 0])),(4,.i (c.cells.length:Int)),(5,.msl 3 1 0 ((((c.cells.length:Int)+1)).toNat)),(7,.fn 87 1 (L1 [.ref 2 0])),(8,.i x8),(9,.ref 4 0),(58,.i (c.cells.length:Int)),(59,.i As),(66,.it 5),(71,.msl 6 1 0 2),(72,.i 2),(73,.i FD)],[some (.cells (AH c++AD q++[.ints pos,.msl 1 1 0 ln])),some (.ints o1),some (.cells [.ref 0 0]),some (.mo (.sets 2 o3 (some (Ai,gk)))),some (.cells [.i Aq,.i FM]),some (.mo (.mit 2 gk.1 gk.2.1 gk.2.2 o5 (some FL))),some (.bools ([false,true]:List Bool))]⟩
 | .l6 Ab o1 o3 Ai o4 o7=>∀ m0 m1:Nat,n<=m0 -> n<=m1 -> ∀ gk:LK,TW B N (FQ Tryz.f61 2 (.bool r.1) [some (.cells (AH c++AD q++[.ints pos,.msl 1 1 0 ln])),some (.ints r.2)]) (Ah m1 (Ap (AW Tryz.f61) 10 [m0])) ⟨AM 208 [(1,.ref 2 0),(3,.fn 86 1 (L1 [.ref 2 0])),(5,.msl 3 1 0 ((((c.cells.length:Int)+1)).toNat)),(7,.fn 87 1 (L1 [.ref 2 0])),(14,.it 4),(16,.i Ab),(17,.it 5),(18,.ref 6 0),(140,.it 7)],[some (.cells (AH c++AD q++[.ints pos,.msl 1 1 0 ln])),some (.ints o1),some (.cells [.ref 0 0]),some (.mo (.sets 2 o3 (some (Ai,gk)))),some (.mo (.set 2 o4)),some (.mo (.set 2 ([]:KS))),some (.cells [.bool false,.bool false]),some (.mo (.mit 2 gk.1 gk.2.1 gk.2.2 o7 none))]⟩
 | .l7 Ab Dc o1 o3 Ai o4 o5 BN BO DI DG o8 De=>∀ m0 m1 m2:Nat,n<=m0 -> n<=m1 -> n<=m2 -> ∀ gk:LK,TW B N (FQ Tryz.f61 2 (.bool r.1) [some (.cells (AH c++AD q++[.ints pos,.msl 1 1 0 ln])),some (.ints r.2)]) (Ah m2 (Ap (AW Tryz.f61) 12 [m0,m1])) ⟨AM 208 [(1,.ref 2 0),(3,.fn 86 1 (L1 [.ref 2 0])),(5,.msl 3 1 0 ((((c.cells.length:Int)+1)).toNat)),(7,.fn 87 1 (L1 [.ref 2 0])),(14,.it 4),(16,.i Ab),(17,.it 5),(18,.ref 6 0),(19,.ref 7 0),(140,.it 8),(145,.msl 9 1 0 2),(146,.i 2),(147,.i Dc)],[some (.cells (AH c++AD q++[.ints pos,.msl 1 1 0 ln])),some (.ints o1),some (.cells [.ref 0 0]),some (.mo (.sets 2 o3 (some (Ai,gk)))),some (.mo (.set 2 o4)),some (.mo (.set 2 o5)),some (.cells [.bool BN,.bool BO]),some (.cells [.i DI,.i DG]),some (.mo (.mit 2 gk.1 gk.2.1 gk.2.2 o8 (some De))),some (.bools ([false,true]:List Bool))]⟩
 | .l8 x8 As o1 o3 Ai o4 Jh=>∀ m0 m1:Nat,n<=m0 -> n<=m1 -> ∀ gk:LK,TW B N (FQ Tryz.f61 2 (.bool r.1) [some (.cells (AH c++AD q++[.ints pos,.msl 1 1 0 ln])),some (.ints r.2)]) (Ah m1 (Ap (AW Tryz.f61) 4 [m0])) ⟨AM 208 [(1,.ref 2 0),(3,.fn 86 1 (L1 [.ref 2 0])),(4,.i (c.cells.length:Int)),(5,.msl 3 1 0 ((((c.cells.length:Int)+1)).toNat)),(7,.fn 87 1 (L1 [.ref 2 0])),(8,.i x8),(58,.i (c.cells.length:Int)),(59,.i As),(66,.it 4)],[some (.cells (AH c++AD q++[.ints pos,.msl 1 1 0 ln])),some (.ints o1),some (.cells [.ref 0 0]),some (.mo (.sets 2 o3 (some (Ai,gk)))),some (.mo (.mit 2 gk.1 gk.2.1 gk.2.2 o4 (some Jh)))]⟩
 | .l9 Ab o1 o3 Ai o4 o5 BN BO o7 Jg=>∀ m0 m1:Nat,n<=m0 -> n<=m1 -> ∀ gk:LK,TW B N (FQ Tryz.f61 2 (.bool r.1) [some (.cells (AH c++AD q++[.ints pos,.msl 1 1 0 ln])),some (.ints r.2)]) (Ah m1 (Ap (AW Tryz.f61) 10 [m0])) ⟨AM 208 [(1,.ref 2 0),(3,.fn 86 1 (L1 [.ref 2 0])),(5,.msl 3 1 0 ((((c.cells.length:Int)+1)).toNat)),(7,.fn 87 1 (L1 [.ref 2 0])),(14,.it 4),(16,.i Ab),(17,.it 5),(18,.ref 6 0),(140,.it 7)],[some (.cells (AH c++AD q++[.ints pos,.msl 1 1 0 ln])),some (.ints o1),some (.cells [.ref 0 0]),some (.mo (.sets 2 o3 (some (Ai,gk)))),some (.mo (.set 2 o4)),some (.mo (.set 2 o5)),some (.cells [.bool BN,.bool BO]),some (.mo (.mit 2 gk.1 gk.2.1 gk.2.2 o7 (some Jg)))]⟩
theorem te (B:Nat) (N:Yd 2) (c:AC) (q:AA) (pos:List Int) (ln:Nat) (lost:List Int):Al (BG c q pos ln lost) (tc · B N c q pos ln lost):=ia (fun _=>rfl) fun n AF pt r h=>by
 cases pt
 case l1 Cz o3=>
  intro m0 AB;refine rd AB fun m0 AB=>?_
  revert r;apply gO;exact bi 46 (gc (gi (gc (gi (gw 52 (lG CJ [0,1,2,5] (AF _ _ · m0 AB))))))) (gc (gi (gc (gi (gi (jg (yC (i:=0+0)) (lN CJ [0,1,2,3] (AF _ _ · n Nat.le.refl))))))))
 case l2 As o1 o3=>
  intro m0 AB;refine rd AB fun m0 AB=>?_
  revert r;apply gO
  exact bi 60 (gn fun g0=>fun p r h=>by
   refine gs (AK 16 CJ) [0,1,2,3] p (Dl (AW Tryz.f61) 16 [m0]) (AM 208 [(1,.ref 2 0),(3,.fn 86 1 (L1 [.ref 2 0])),(4,.i (c.cells.length:Int)),(5,.msl 3 1 0 ((((c.cells.length:Int)+1)).toNat)),(7,.fn 87 1 (L1 [.ref 2 0])),(8,.i As),(58,.i (c.cells.length:Int)),(59,.i As)]) (cO c q pos ln o1 o3) ?_;refine BW.lock 3 (0+((As).toNat)) 2 (by kernel_rfl) g0 (by kernel_rfl) (fun gk=>(zAd c q pos ln o1 o3 As gk)) (by kernel_rfl) fun gk=>?_
   revert r;apply gO;exact gc (gi (gc (gi (gi (jg (Eq.refl (0+((As).toNat))) (lN CJ [0,1,2,3,4] (AF _ _ · m0 n AB Nat.le.refl gk)))))))) (bi 115 (gc (gn fun g0=>jw 118 g0 (jw 125 g0 (gc (gi (gw 130 (lN CJ [0,1,2,3,4] (AF _ _ · n Nat.le.refl)))))))) (gw 130 (lN CJ [0,1,2,3,4] (AF _ _ · n Nat.le.refl))))
 case l3 x8 As o1 o3 Ai o4=>
  intro m0 m1 AB AR gk;have AB:=zBZ AB;refine rd AR fun m1 AR=>?_
  have p:=H0;refine gs (AK 17 CJ) [0,1,2,3,4] p (Dl (AW Tryz.f61) 17 [m0,m1]) (AM 208 [(1,.ref 2 0),(3,.fn 86 1 (L1 [.ref 2 0])),(4,.i (c.cells.length:Int)),(5,.msl 3 1 0 ((((c.cells.length:Int)+1)).toNat)),(7,.fn 87 1 (L1 [.ref 2 0])),(8,.i x8),(58,.i (c.cells.length:Int)),(59,.i As),(66,.it 4)]) (zAX c q pos ln o1 o3 Ai gk o4) ?_;revert r;apply gO
  exact gn fun g0=>fun p r h=>by
   replace h:=WS h;refine A3.nx (ops:=Ax Tryz.f61 17) HC.x (by kernel_rfl) (by kernel_rfl) 4 3 Ai 2 o3 gk o4 none [1,3,4,5,7,8,58,59,66,68] [0,1,2,3] (AM 208 [(1,.ref 2 0),(3,.fn 86 1 (L1 [.ref 2 0])),(4,.i (c.cells.length:Int)),(5,.msl 3 1 0 ((((c.cells.length:Int)+1)).toNat)),(7,.fn 87 1 (L1 [.ref 2 0])),(8,.i x8),(58,.i (c.cells.length:Int)),(59,.i As),(68,.bool false)]) (cO c q pos ln o1 o3) [0,1,2,3,4] (fun y1=>AM 208 [(1,.ref 2 0),(3,.fn 86 1 (L1 [.ref 2 0])),(4,.i (c.cells.length:Int)),(5,.msl 3 1 0 ((((c.cells.length:Int)+1)).toNat)),(7,.fn 87 1 (L1 [.ref 2 0])),(8,.i x8),(58,.i (c.cells.length:Int)),(59,.i As),(66,.it 4),(68,.bool true)]) (fun y1=>(mn c q pos ln o1 o3 Ai gk o4 y1)) (by kernel_rfl) (by kernel_rfl) (by kernel_rfl) (by decide) g0 (by kernel_rfl) (by kernel_rfl) (fun _=>by kernel_rfl) (fun he=>?_) (fun y1 he=>?_)
   ·replace h:=h.1 he;revert r;apply gO;exact gw 98 (lG CJ [0,1,2,3] (AF _ _ · m0 AB))
   ·replace h:=h.2 y1 he;revert r;apply gO;exact gi (jg (Eq.refl gk.1) (jg (Eq.refl gk.2.1) (jg (Eq.refl gk.2.2) (jt (lN CJ [0,1,2,3,5,4,6] (AF _ _ · m0 m1 n AB AR Nat.le.refl gk))))))
 case l4 Ab o1 o3 o4=>
  intro m0 AB;refine rd AB fun m0 AB=>?_
  revert r;apply gO
  exact bi 132 (gn fun g0=>fun p r h=>by
   refine gs (AK 36 CJ) [0,1,2,3,4,5,6] p (Dl (AW Tryz.f61) 36 [m0]) (AM 208 [(1,.ref 2 0),(3,.fn 86 1 (L1 [.ref 2 0])),(5,.msl 3 1 0 ((((c.cells.length:Int)+1)).toNat)),(7,.fn 87 1 (L1 [.ref 2 0])),(14,.it 4),(16,.i Ab),(17,.it 5),(18,.ref 6 0)]) (cL c q pos ln o1 o3 o4) ?_;refine BW.lock 3 (0+((Ab).toNat)) 2 (by kernel_rfl) g0 (by kernel_rfl) (fun gk=>(zAV c q pos ln o1 o3 Ab gk o4)) (by kernel_rfl) fun gk=>?_
   revert r;apply gO;exact gc (gi (gc (gi (gi (jg (Eq.refl (0+((Ab).toNat))) (lN CJ [0,1,2,3,4,5,6,7] (AF _ _ · m0 n AB Nat.le.refl gk)))))))) (lE CJ [2] [0,1])
 case l5 x8 As FD o1 o3 Ai Aq FM o5 FL=>
  intro m0 m1 m2 AB AR Cg gk;have AB:=zBZ AB;have AR:=zBZ AR;refine rd Cg fun m2 Cg=>?_
  revert r;apply gO;exact bj 74 (fun c0=>gc (gn fun g0=>jg g0 (gn fun g1=>jg g1 (cn fun y1 A1=>jc (em (Ln A1) [2,0,1] (cK c q pos ln o1 o3 Ai gk Aq FM o5 FL)) (jt (bn (fun c1=>rO (jb 74 c0 (jg g0 (jg g1 (jc (em (Ln A1) [2,0,1] (cK c q pos ln o1 o3 Ai gk Aq FM o5 FL)) (jb 83 c1 (jt (ce Wj [2,0,1] (zAU c q pos ln y1 o3 Ai gk Aq FM o5 FL) fun _=>bi 89 (jg sC (gc (gw 93 (gc (gi (gc (gi (gc (gn fun g5=>gc (gi (jg (yB (g:=gk) g5) (gw 97 (lG CJ [0,1,2,3,4,5,6] (AF _ _ · m0 m1 m2 AB AR Cg gk)))))))))))))) (gw 97 (lG CJ [0,1,2,3,4,5,6] (AF _ _ · m0 m1 m2 AB AR Cg gk))))))))))) (fun c1=>rO (jb 74 c0 (jg g0 (jg g1 (jc (em (Ln A1) [2,0,1] (cK c q pos ln o1 o3 Ai gk Aq FM o5 FL)) (jb 83 c1 (jt (gw 97 (lG CJ [0,1,2,3,4,5,6] (AF _ _ · m0 m1 m2 AB AR Cg gk)))))))))))))))) (fun _=>lG CJ [0,1,2,3,5] (AF _ _ · m0 m1 AB AR gk))
 case l6 Ab o1 o3 Ai o4 o7=>
  intro m0 m1 AB AR gk;have AB:=zBZ AB;refine rd AR fun m1 AR=>?_
  have p:=H0;refine gs (AK 37 CJ) [0,1,2,3,4,5,6,7] p (Dl (AW Tryz.f61) 37 [m0,m1]) (AM 208 [(1,.ref 2 0),(3,.fn 86 1 (L1 [.ref 2 0])),(5,.msl 3 1 0 ((((c.cells.length:Int)+1)).toNat)),(7,.fn 87 1 (L1 [.ref 2 0])),(14,.it 4),(16,.i Ab),(17,.it 5),(18,.ref 6 0),(140,.it 7)]) (zAT c q pos ln o1 o3 Ai gk o4 o7) ?_;revert r;apply gO
  exact gn fun g0=>fun p r h=>by
   replace h:=WS h;refine A3.nx (ops:=Ax Tryz.f61 37) HC.x (by kernel_rfl) (by kernel_rfl) 7 3 Ai 2 o3 gk o7 none [1,3,5,7,14,16,17,18,140,142] [0,1,2,3,4,5,6] (AM 208 [(1,.ref 2 0),(3,.fn 86 1 (L1 [.ref 2 0])),(5,.msl 3 1 0 ((((c.cells.length:Int)+1)).toNat)),(7,.fn 87 1 (L1 [.ref 2 0])),(14,.it 4),(16,.i Ab),(17,.it 5),(18,.ref 6 0),(142,.bool false)]) (cL c q pos ln o1 o3 o4) [0,1,2,3,4,5,6,7] (fun y1=>AM 208 [(1,.ref 2 0),(3,.fn 86 1 (L1 [.ref 2 0])),(5,.msl 3 1 0 ((((c.cells.length:Int)+1)).toNat)),(7,.fn 87 1 (L1 [.ref 2 0])),(14,.it 4),(16,.i Ab),(17,.it 5),(18,.ref 6 0),(140,.it 7),(142,.bool true)]) (fun y1=>(zAb c q pos ln o1 o3 Ai gk o4 o7 y1)) (by kernel_rfl) (by kernel_rfl) (by kernel_rfl) (by decide) g0 (by kernel_rfl) (by kernel_rfl) (fun _=>by kernel_rfl) (fun he=>?_) (fun y1 he=>?_)
   ·replace h:=h.1 he;revert r;apply gO;exact jg (by decide:(0:Int)<=1/\ 1<((2:Nat):Int)) (jg iF (gn fun g1=>jg g1 (ce Fv [0,1] (cL c q pos ln o1 o3 o4) fun y2=>jg (Eq.refl (fg c Ab q pos ln y2 o3 o4)) (jg (by decide:(0:Int)<=0/\ 0<((2:Nat):Int)) (jg ZN (jg g1 (ce Lm [0,1] (zAc c q pos ln y2 o3 o4) fun y3=>jg (Eq.refl (fk c Ab q pos ln y3 o3 o4)) (gw 134 (lG (tg:=[([],(fg c Ab q pos ln y2 o3 o4)),([],(fk c Ab q pos ln y3 o3 o4))]) CJ [0,1,2,3,5] (AF _ _ · m0 AB))))))))))
   ·replace h:=h.2 y1 he;revert r;apply gO;exact gi (jg (Eq.refl gk.1) (jg (Eq.refl gk.2.1) (jg (Eq.refl gk.2.2) (jt (lN CJ [0,1,2,3,4,5,6,8,7,9] (AF _ _ · m0 m1 n AB AR Nat.le.refl gk))))))
 case l7 Ab Dc o1 o3 Ai o4 o5 BN BO DI DG o8 De=>
  intro m0 m1 m2 AB AR Cg gk;have AB:=zBZ AB;have AR:=zBZ AR;refine rd Cg fun m2 Cg=>?_
  revert r;apply gO;exact bj 148 (fun c0=>gc (gn fun g0=>jg g0 (gn fun g1=>jg g1 (cn fun y1 A1=>jc (em (Ln A1) [2,0,1] (TN c q pos ln o1 o3 Ai gk o4 o5 BN BO DI DG o8 De)) (jt (bn (fun c1=>rO (jb 148 c0 (jg g0 (jg g1 (jc (em (Ln A1) [2,0,1] (TN c q pos ln o1 o3 Ai gk o4 o5 BN BO DI DG o8 De)) (jb 158 c1 (jt (cn fun y2 CF=>jc (em (Wj CF) [2,0,1] (cN c q pos ln y1 o3 Ai gk o4 o5 BN BO DI DG o8 De)) (bj 164 (fun c2=>bj 169 (fun c3=>bn (fun c4=>rO (jb 148 c0 (jo 149 (AS.int (k:=.i64) (eq_of_beq c4)) (jg g0 (jg g1 (jc (em (Ln A1) [2,0,1] (TN c q pos ln o1 o3 Ai gk o4 o5 BN BO DI DG o8 De)) (jb 158 c1 (jt (jc (em (Wj CF) [2,0,1] (cN c q pos ln y1 o3 Ai gk o4 o5 BN BO DI DG o8 De)) (jb 164 c2 (jb 169 c3 (jg (by decide:(0:Int)<=0/\ 0<((2:Nat):Int)) (jt (gw 175 (lG CJ [0,1,2,3,4,5,6,7,8,9] (AF _ _ · m0 m1 m2 AB AR Cg gk)))))))))))))))) (fun c4=>bn (fun c6=>rO (jb 148 c0 (jo 149 (AS.int (k:=.i64) (eq_of_beq c6)) (jg g0 (jg g1 (jc (em (Ln A1) [2,0,1] (TN c q pos ln o1 o3 Ai gk o4 o5 BN BO DI DG o8 De)) (jb 158 c1 (jt (jc (em (Wj CF) [2,0,1] (cN c q pos ln y1 o3 Ai gk o4 o5 BN BO DI DG o8 De)) (jb 164 c2 (jb 169 c3 (jg (by decide:(0:Int)<=1/\ 1<((2:Nat):Int)) (jt (gw 175 (lG CJ [0,1,2,3,4,5,6,7,8,9] (AF _ _ · m0 m1 m2 AB AR Cg gk)))))))))))))))) (fun c6=>nO))) (fun _=>gw 175 (lG CJ [0,1,2,3,4,5,6,7,8,9] (AF _ _ · m0 m1 m2 AB AR Cg gk)))) (fun _=>gw 175 (lG CJ [0,1,2,3,4,5,6,7,8,9] (AF _ _ · m0 m1 m2 AB AR Cg gk)))))))))))) (fun c1=>rO (jb 148 c0 (jg g0 (jg g1 (jc (em (Ln A1) [2,0,1] (TN c q pos ln o1 o3 Ai gk o4 o5 BN BO DI DG o8 De)) (jb 158 c1 (jt (gw 175 (lG CJ [0,1,2,3,4,5,6,7,8,9] (AF _ _ · m0 m1 m2 AB AR Cg gk)))))))))))))))) (fun _=>lG CJ [0,1,2,3,4,5,6,8] (AF _ _ · m0 m1 AB AR gk))
 case l8 x8 As o1 o3 Ai o4 Jh=>
  intro m0 m1 AB AR gk;have AB:=zBZ AB;refine rd AR fun m1 AR=>?_
  have p:=H0;refine gs (AK 17 CJ) [0,1,2,3,4] p (Dl (AW Tryz.f61) 17 [m0,m1]) (AM 208 [(1,.ref 2 0),(3,.fn 86 1 (L1 [.ref 2 0])),(4,.i (c.cells.length:Int)),(5,.msl 3 1 0 ((((c.cells.length:Int)+1)).toNat)),(7,.fn 87 1 (L1 [.ref 2 0])),(8,.i x8),(58,.i (c.cells.length:Int)),(59,.i As),(66,.it 4)]) (zAa c q pos ln o1 o3 Ai gk o4 Jh) ?_;revert r;apply gO
  exact gn fun g0=>fun p r h=>by
   replace h:=WS h;refine A3.nx (ops:=Ax Tryz.f61 17) HC.x (by kernel_rfl) (by kernel_rfl) 4 3 Ai 2 o3 gk o4 (some Jh) [1,3,4,5,7,8,58,59,66,68] [0,1,2,3] (AM 208 [(1,.ref 2 0),(3,.fn 86 1 (L1 [.ref 2 0])),(4,.i (c.cells.length:Int)),(5,.msl 3 1 0 ((((c.cells.length:Int)+1)).toNat)),(7,.fn 87 1 (L1 [.ref 2 0])),(8,.i x8),(58,.i (c.cells.length:Int)),(59,.i As),(68,.bool false)]) (cO c q pos ln o1 o3) [0,1,2,3,4] (fun y1=>AM 208 [(1,.ref 2 0),(3,.fn 86 1 (L1 [.ref 2 0])),(4,.i (c.cells.length:Int)),(5,.msl 3 1 0 ((((c.cells.length:Int)+1)).toNat)),(7,.fn 87 1 (L1 [.ref 2 0])),(8,.i x8),(58,.i (c.cells.length:Int)),(59,.i As),(66,.it 4),(68,.bool true)]) (fun y1=>(mn c q pos ln o1 o3 Ai gk o4 y1)) (by kernel_rfl) (by kernel_rfl) (by kernel_rfl) (by decide) g0 (by kernel_rfl) (by kernel_rfl) (fun _=>by kernel_rfl) (fun he=>?_) (fun y1 he=>?_)
   ·replace h:=h.1 he;revert r;apply gO;exact gw 98 (lG CJ [0,1,2,3] (AF _ _ · m0 AB))
   ·replace h:=h.2 y1 he;revert r;apply gO;exact gi (jg (Eq.refl gk.1) (jg (Eq.refl gk.2.1) (jg (Eq.refl gk.2.2) (jt (lN CJ [0,1,2,3,5,4,6] (AF _ _ · m0 m1 n AB AR Nat.le.refl gk))))))
 case l9 Ab o1 o3 Ai o4 o5 BN BO o7 Jg=>
  intro m0 m1 AB AR gk;have AB:=zBZ AB;refine rd AR fun m1 AR=>?_
  have p:=H0;refine gs (AK 37 CJ) [0,1,2,3,4,5,6,7] p (Dl (AW Tryz.f61) 37 [m0,m1]) (AM 208 [(1,.ref 2 0),(3,.fn 86 1 (L1 [.ref 2 0])),(5,.msl 3 1 0 ((((c.cells.length:Int)+1)).toNat)),(7,.fn 87 1 (L1 [.ref 2 0])),(14,.it 4),(16,.i Ab),(17,.it 5),(18,.ref 6 0),(140,.it 7)]) (zAZ c q pos ln o1 o3 Ai gk o4 o5 BN BO o7 Jg) ?_;revert r;apply gO
  exact gn fun g0=>fun p r h=>by
   replace h:=WS h;refine A3.nx (ops:=Ax Tryz.f61 37) HC.x (by kernel_rfl) (by kernel_rfl) 7 3 Ai 2 o3 gk o7 (some Jg) [1,3,5,7,14,16,17,18,140,142] [0,1,2,3,4,5,6] (AM 208 [(1,.ref 2 0),(3,.fn 86 1 (L1 [.ref 2 0])),(5,.msl 3 1 0 ((((c.cells.length:Int)+1)).toNat)),(7,.fn 87 1 (L1 [.ref 2 0])),(14,.it 4),(16,.i Ab),(17,.it 5),(18,.ref 6 0),(142,.bool false)]) (cM c q pos ln o1 o3 o4 o5 BN BO) [0,1,2,3,4,5,6,7] (fun y1=>AM 208 [(1,.ref 2 0),(3,.fn 86 1 (L1 [.ref 2 0])),(5,.msl 3 1 0 ((((c.cells.length:Int)+1)).toNat)),(7,.fn 87 1 (L1 [.ref 2 0])),(14,.it 4),(16,.i Ab),(17,.it 5),(18,.ref 6 0),(140,.it 7),(142,.bool true)]) (fun y1=>(zAW c q pos ln o1 o3 Ai gk o4 o5 BN BO o7 y1)) (by kernel_rfl) (by kernel_rfl) (by kernel_rfl) (by decide) g0 (by kernel_rfl) (by kernel_rfl) (fun _=>by kernel_rfl) (fun he=>?_) (fun y1 he=>?_)
   ·replace h:=h.1 he;revert r;apply gO;exact jg (by decide:(0:Int)<=1/\ 1<((2:Nat):Int)) (bi 179 (jg iF (gn fun g1=>jg g1 (ce Fv [0,1] (cM c q pos ln o1 o3 o4 o5 BN BO) fun y2=>jg (Eq.refl (Yz c Ab q pos ln y2 o3 o4 o5 BN BO)) (jg (by decide:(0:Int)<=0/\ 0<((2:Nat):Int)) (bi 197 (jg ZN (jg g1 (ce Lm [0,1] (zAY c q pos ln y2 o3 o4 o5 BN BO) fun y3=>jg (Eq.refl (fj c Ab q pos ln y3 o3 o4 o5 BN BO)) (gw 134 (lG (tg:=[([],(Yz c Ab q pos ln y2 o3 o4 o5 BN BO)),([],(fj c Ab q pos ln y3 o3 o4 o5 BN BO))]) CJ [0,1,2,3,5] (AF _ _ · m0 AB)))))) (gw 134 (lG (tg:=[([],(Yz c Ab q pos ln y2 o3 o4 o5 BN BO))]) CJ [0,1,2,3,5] (AF _ _ · m0 AB)))))))) (jg (by decide:(0:Int)<=0/\ 0<((2:Nat):Int)) (bi 197 (jg ZN (gi (ce Lm [0,1] (cM c q pos ln o1 o3 o4 o5 BN BO) fun y2=>jg (Eq.refl (fh c Ab q pos ln y2 o3 o4 o5 BN BO)) (gw 134 (lG (tg:=[([],(fh c Ab q pos ln y2 o3 o4 o5 BN BO))]) CJ [0,1,2,3,5] (AF _ _ · m0 AB)))))) (gw 134 (lG CJ [0,1,2,3,5] (AF _ _ · m0 AB))))))
   ·replace h:=h.2 y1 he;revert r;apply gO;exact gi (jg (Eq.refl gk.1) (jg (Eq.refl gk.2.1) (jg (Eq.refl gk.2.2) (jt (lN CJ [0,1,2,3,4,5,6,8,7,9] (AF _ _ · m0 m1 n AB AR Nat.le.refl gk))))))
theorem tX {n:Nat} {c:AC} {q:AA} {pos:List Int} {ln:Nat} {lost:List Int} {r:Bool×(List Int)} (h:Ov n c q pos ln lost=some r):EQ 61 [.ref 0 0] [some (.cells (AH c++AD q++[.ints pos,.msl 1 1 0 ln])),some (.ints lost)] (.bool r.1) [some (.cells (AH c++AD q++[.ints pos,.msl 1 1 0 ln])),some (.ints r.2)] false:=by
 refine ot Tryz.func61 fun B N=>?_
 revert r;apply gO;exact bi 32 (lE CJ [2] [0,1]) (gc (gw 41 (gi (lN CJ [0,1,2,3] ((te B N c q pos ln lost n) _ _ · n Nat.le.refl)))))
end Go.Proofs.YtekkngkphejfcaaGreatDoor
