/- Part 6 of 8 of what the proofs of these laws stand on. -/
import Derived.Test.YtodinaconebmdaaGreatDoorPzE
import Derived.RangeFuncLeaves
import Derived.RecoverIn
set_option linter.all false
namespace Go.Proofs.YtodinaconebmdaaGreatDoor
open Go.RowKit
section
section
variable {P:Program} {Γ:Au} {N:Ψ} {ρ:List AI} {a:Act} {w:World} {S:St} {Q:Exit -> Act -> World -> Prop} {fr:List DV} {h':DH} {c:List (DV×DH×Bool)} {o:List (Nat×DV)} {z:List (Nat×Fz)} {v v2:List Prop} {id:Nat} {ops:Array Oper}
def Zm (L:Nat)(B σ W:Θ)(r:St×List Prop×BR):Option (List DV×DH×List Prop×List Prop×Bool):=match frzL W (comp B σ r.1) with
 | some (S,w)=>some (S.fr,S.h,r.2.1,w,Km σ L r.1.h.length)
 | none=>none
variable {L:Nat}
def rL {B σ W:Θ}{r:St×List Prop×BR}(h:Zm L B σ W r=some (fr,h',v,v2,true))(a:Bp v2):r.2.1=v/\ A8 L r.1 ⟨fr,h'⟩:=by
 unfold Zm at h;split at h
 ·rename_i S1 w1 M;simp only [zHz,zIP] at h;obtain ⟨rfl,rfl,rfl,rfl,j⟩:=h;exact ⟨rfl,(A8.comp B σ r.1 j).trans (A8.frzL W M a)⟩
 ·cases h
def wr (e:HX Fence.wide P)(B σ W:Θ)(m:HS c o z v)(d:HS [] [] [] v2)(fr:List DV)(h':DH)(R:AS P Γ N S ρ a w)(h:(EN P Γ ops ops.toList S ⟨c,o,z,[]⟩).bind (Zm L B σ W)=some (fr,h',v,v2,true))(g:DF ops=true) 
 (hk: ∀ ρ' b w',AS P Γ N ⟨fr,h'⟩ ρ' b w' -> A3 S.h ρ w h' ρ' w' -> b.defers=a.defers -> CA L ρ ρ' -> Q .normal b w'):(Code.region id ops false).wpIn Fence.wide 0 P Q a w:=by
 obtain ⟨⟨S1,v1,o1⟩,i,h⟩:=Gg h;obtain ⟨rfl,j⟩:=rL h d.all;refine zI8 (LW e.f g _ (λo x=>by simpa using x) R i m.all λρ' b w' R' st r=>?_);obtain ⟨ρ2,T,D,Z⟩:=j P Γ N ρ' b w' R';exact hk ρ2 b w' T (st.st.trans D) r (CA.trans (λk p _ l=>st.pl k p l) Z)
def dK (e:HX Fence.wide P)(early:Θ)(t:ST)(H:B3 ops early t)(tg:List (List (Nat×Nat)×St))(B σ W:Θ)(d:HS c o z v)(g:HS [] [] [] v2)(fr:List DV)(h':DH)(R:AS P Γ N S ρ a w)(h:(UG P Γ ops early t S ⟨c,o,z,tg⟩).bind (Zm L B σ W)=some (fr,h',v,v2,true)) 
 (hk: ∀ ρ' b w',AS P Γ N ⟨fr,h'⟩ ρ' b w' -> A3 S.h ρ w h' ρ' w' -> b.defers=a.defers -> CA L ρ ρ' -> Q .normal b w'):(Code.region id ops true).wpIn Fence.wide 0 P Q a w:=by
 obtain ⟨⟨S1,v1,o1⟩,i,h⟩:=Gg h;obtain ⟨rfl,j⟩:=rL h g.all;simp only [B3,zEh] at H;obtain ⟨⟨l,n⟩,q⟩:=H;unfold UG at i;split at i
 ·cases i
 split at i
 ·cases i
 ·rename_i J;cases i;have C:A0 w w.drew:=A0.toDrew w;refine mR (mQ e.m (zNh _) ((mz e.f q n t ops.size _ vf (R.ext C) J d.all λρ' b w' R' st A K=>?_).1 l));obtain ⟨ρ2,T,D,Z⟩:=j P Γ N ρ' b w' R';exact hk ρ2 b w' T ((A3.ext C).trans (st.trans D)) K (CA.trans (λk p _ r=>A k p (by rw [←R.hr.len];grind) r) Z)
theorem zJK {h:DH}{ρ ρ':List AI}{w w':World}{d:DV}{v:Value}(h0:Aq P Γ N [] ρ w)(R:Aq P Γ N h ρ' w')(st:A3 [] ρ w h ρ' w')(i:AJ (MS N h ρ') w' d ρ' v)(r:GF d=true):CC P Γ N [] ρ w true d [] v w':=by
 have e:ρ= []:=zMf.1 h0.len;subst e;have f:=Ng r _ _ _ _ i;have low: ∀ b,MO [] ([]:List AI) b -> False:=λb ⟨k,_,_,q,_⟩=>by simp at q
 have a:AQ (λ_=>False) w w':=st.upd.mono λb _ c=>low b c
 refine ⟨⟨[],⟨rfl,λk o hk=>by simp at hk,λk o p b hk=>by simp at hk,λk k' o o' p p' b _ hk=>by simp at hk,R.nlt,R.gi⟩,?_,⟨a.mono λ_ _ h=>h.elim,λb c=>(low b c).elim⟩,λk p hk=>by simp at hk⟩,λ_=>a.toExt λ_ _ h=>h⟩;exact f.out _ ⟨λ_ _ _ _=>rfl,λb c=>.inl (c.imp id λh=>(low b h).elim),λk p hk=>by simp at hk⟩
end
variable {w:World}{a:Act}{P:Program}
def xk {Q:Exit -> Act -> World -> Prop}{ops:Array Oper}{id t g:Nat}{o0 o1:Oper}{N:Array Operand}{O:Array TypeId}(m:ops.toList= [o0,o1])(h0:o0.op= .makeFunc (.func g) #[] N)(Fe:o0.dst=some t)(K:o0.guard=none)(h1:o1.op= .defer { callee:=.value (.tmp t),args:=#[],argTypes:=O })(GL:o1.dst=none)(d:o1.guard=none)(ht:t<a.tmps.size) 
 (hQ: ∀ b,b.tmps=a.tmps.setIfInBounds t (.func (.func g) #[] (N.map a.eval)) -> b.defers= { target:=.fn (.func g) (N.map a.eval),args:=#[] }::a.defers -> Q .normal b w):(Code.region id ops false).wpIn Fence.wide 0 P Q a w:=by
 refine zI8 ?_;rw [m];simp only [wpListIn,Oper.wpIn,Region.wanted,K,d,zI6];refine ⟨λ_ _=>trivial,?_⟩
 have G:(o0.semAt Fence.wide.round a.eval).run P w= .ok (.value (.func (.func g) #[] (N.map a.eval))) w:=by
  rw [zI1 _ _ _ (by rw [h0];intro c e;cases e)];unfold execOp;rw [h0];simp only [zGu,Array.map_empty];simp [go_sem]
 rw [G,Oper.uponIn_value];refine ⟨λ_ _=>trivial,?_⟩
 simp_all [Act.eval,Act.put,Oper.semAt_none,execOp,resolve,Deferred.ofValue,Oper.uponIn_defer]
variable {b:Act}{ρ:List AI}{h:DH}{fr:List DV}{N:Ψ}{Γ:Au}
def AS.idle (R:AS P Γ N ⟨fr,h⟩ ρ a w)(t:Nat){v:Value}(ha:b.tmps=a.tmps.setIfInBounds t v)(e:fr.set t .any=fr):AS P Γ N ⟨fr,h⟩ ρ b w:=by
 refine ⟨R.hr,?_⟩;have:=R.fr.set t (d:=.any) (v:=v) trivial
 grind
variable {w':World}{ρ':List AI}{h':DH}
def kg {D:Nat}(H:Aq P Γ N h ρ w)(st:A3 h ρ w h' ρ' w')(U:w.heap[D]? =some (.deferred (some []))):w'.heap[D]? =some (.deferred (some [])):=by
 refine (st.upd.block D (zGI.1 U).1 ?_).trans U;rintro ⟨k,o,p,a,b,d⟩;obtain ⟨_,_,c,t,z,A⟩:=H.cel k o p D a b d;rw [U] at A;cases A;cases t
def AS.forg {fr':List DV}(B:Θ)(R:AS P Γ N ⟨fr,h⟩ ρ a w)(D:b.tmps=a.tmps)(e:forget B fr=fr'):AS P Γ N ⟨fr',h⟩ ρ b w:=by
 subst e;refine ⟨R.hr,?_⟩;rw [D];refine ⟨(Wj B fr).trans R.fr.1,λi hi=>?_⟩;have hi:i<fr.length:=by grind [Wj]
 show AJ _ _ ((forget B fr).getD i .any) _ _
 rw [kP B fr hi];split
 ·exact R.fr.2 i hi
 ·trivial
def G9 {L:Nat}{t:Array Value}(F:BE (MS N h ρ) w ρ fr t)(l:fr.all (C5 L)=true)(H':Aq P Γ N h' ρ' w')(st:A3 h ρ w h' ρ' w')(m:CA L ρ ρ'):BE (MS N h' ρ') w' ρ' fr t:=
 (F.take l).out ⟨λb c v _=>st.upd.block b c λe=>v (.inr e),λb c=>c.elim (λh=>.inl (.inl h)) λh=>(st.grow b h).imp .inr id,λk p g=>by
  rw [zMm] at g;split at g
  ·rename_i hk;exact m k p hk g
  ·cases g⟩
def Wp {S:St}{ρ0:List AI}{w0 W:World}{fn:Func}(R:AS P Γ N S ρ a W)(h0:Aq P Γ N [] ρ0 w0)(st:A3 [] ρ0 w0 S.h ρ W)(b:Θ){n:List Prop}(c:HS [] [] [] n)(k:List DV){d:DV}(e:AN (IF k) d) 
 (M:(frzL b S).bind (λq=>(NR P q.1 fn.results.toList).map λr=>(r,q.2))=some (k,n)) (u:GF d=true): ∃ v,(results fn a.tmps).run P W= .ok v W/\ CC P Γ N [] ρ0 w0 true d [] v W:=by
 obtain ⟨⟨S2,w2⟩,f,g⟩:=Gg M;obtain ⟨r,i,A⟩:=SQ g;cases A;obtain ⟨ρ2,T,D,_⟩:=A8.frzL (L:=0) b f c.all P Γ N ρ a W R;obtain ⟨v,o,s⟩:=ZC T i;exact ⟨v,o,zJK h0 T.hr (st.trans D) (e _ _ _ _ s) u⟩
end
def YV.le {x y:List DV}(m:JY x y){R:Ψ}{W:World}{args:Array Value}(h:YV x R W args):YV y R W args:=by
 obtain ⟨a,b⟩:=Tm m;exact ⟨a▸h.1,λj d=>b j (a▸d) _ _ _ _ (h.2 j (a▸d))⟩
inductive Ys where
 | go (i:Nat)
 | stop
 | pan (c:List PanicEntry)
def YsY (j:Nat):Ys -> Ending -> Prop
 | .go k,e=>k=j/\ e= .returned (.bool true)
 | .stop,e=>e= .returned (.bool false)
 | .pan c,e=>e= .panicked c
def Qu (tD:Bool -> DV)(j:Nat)(s:Ys)(e:Ending)(M:Ψ)(w:World)(ρ:List AI):Prop:=match s with
 | .go k=>k=j/\ ∃ v,e= .returned v/\ AJ M w (tD true) ρ v
 | .stop=>∃ v,e= .returned v/\ AJ M w (tD false) ρ v
 | .pan c=>e= .panicked c
theorem Qu.out {tD:Bool -> DV}{j:Nat}{s:Ys}{e:Ending}{M d:Ψ}{w:World}{ρ ρ':List AI}(H:BQ M w ρ d w ρ')(h:Qu tD j s e M w ρ):Qu tD j s e d w ρ':=by
 cases s with
 | go k=>obtain ⟨h0,v,a,b⟩:=h;exact ⟨h0,v,a,b.out _ H⟩
 | stop=>obtain ⟨v,a,b⟩:=h;exact ⟨v,a,b.out _ H⟩
 | pan c=>exact h
structure ET (P:Program) where
 l:Nat
 encs:List (List DV)
 J:Ys -> (Ψ) -> (Ψ) -> World -> Prop
 hJ: ∀ s,C0 (J s)
 hy: ∀ i x args G R W1,encs[i]? =some x -> YV x R W1 args -> J (.go i) G R W1 -> EE G R W1 -> YieldAt Fence.wide 0 P l args W1 λe W'=>
  AQ (λk=>¬ (G k∨R k)) W1 W'/\ ∃ s,YsY (i+1) s e/\ J s G R W'
def YW (P:Program)(Γ:Au)(tD:Bool -> DV)(f:Nat)(ds:Nat -> List DV)(h:Nat -> DH)(ys:List (List DV)):Prop:= (∀ args W,(callFunc f args).run P W= .ok (.enter f args) W)/\ ∀ (C:ET P),∀ i,(∃ rest,C.encs.drop i=ys++rest) -> ∀ N ρ args w G R,Aq P Γ N (h C.l) ρ w -> BE (MS N (h C.l) ρ) w ρ (ds C.l) args -> C.J (.go i) G R w -> IY Γ N G R (h C.l) ρ w -> CallsIn Fence.wide 0 P f args w λe w'=>∃ s X ρ' Z R',Aq P Γ X (h C.l) ρ' w'/\ C.J s Z R' w'/\ IY Γ X Z R' (h C.l) ρ' w'/\ CA (h C.l).length ρ ρ'/\ Qu tD (i+ys.length) s e (MS X (h C.l) ρ') w' ρ'
section
variable {P:Program} {Γ:Au}
def ET.part (C:ET P)(O H U:Ψ)(w:World)(I: ∀ b,O b -> b<w.heap.size)(hR1: ∀ b,H b -> b<w.heap.size):ET P where
 l:=C.l
 encs:=C.encs
 J:=λs G R W=>C.J s (λb=>G b∨O b) R W/\ AQ (λb=>¬ (O b∨H b)) w W/\ (∀ b,O b -> ¬ G b/\ ¬ R b)/\ (∀ b,H b -> R b)/\ (∀ b,G b -> U b∨w.heap.size<=b)/\ (∀ b,G b -> ¬ R b)
 hJ:=by
  rintro s G R Z R' A B ⟨f,c,g,m,o,p⟩ q v y IW r t;have j:=c.size;have z: ∀ b,O b -> b<A.heap.size:=λb d=>zGS (I b d) j
  have u: ∀ b,O b -> ¬ Z b/\ ¬ R' b:=λb d=>by
   grind
  refine ⟨C.hJ s _ R _ R' A B f (q.mono λ_ _ h=>.inl h) (λk hk=>hk.elim (λh=>(v k h).imp .inl id) λh=>.inl (.inr h)) (λk hk=>(y k hk).imp id λh=>h.imp .inl id) (λk hk=>?_) (λk hk=>hk.elim (r k) λh=>(u k h).2) (λk hk=>?_),c.comp q λi hi a=>?_,u,λb d=>?_,λb d=>?_,r⟩
  ·grind
  ·rcases hk with (hk | hk) | hk
   ·exact t k (.inl hk)
   ·exact zGS (z k hk) q.size
   ·exact t k (.inr hk)
  ·grind
  ·grind
  grind
 hy:=by
  rintro i x args G R D a E ⟨f,c,g,m,o,p⟩ j
  obtain ⟨fn,tmps,F,S,hy,hR⟩:=C.hy i x args _ R D a E f ⟨λk hk=>hk.elim (j.dis k) λh=>(g k h).2,λk hk=>by
   rcases hk with (hk | hk) | hk
   ·exact j.lt k (.inl hk)
   ·exact zGS (I k hk) c.size
   ·exact j.lt k (.inr hk)⟩
  refine ⟨fn,tmps,F,S,hy,hR.mono ?_⟩;rintro e W' ⟨q,n⟩;obtain ⟨s,K,n⟩:=n;exact ⟨q.mono λk _ h a=>h (a.imp .inl id),s,K,n,c.comp q λi _ a L=>a (L.imp .inr (m i)),g,m,o,p⟩
variable {ys:List (List DV)}{h:Nat -> DH}{ds:Nat -> List DV}{f:Nat}{tD:Bool -> DV}
def YW.call (H:YW P Γ tD f ds h ys){C:ET P}{i:Nat}(hi: ∃ rest,C.encs.drop i=ys++rest){N G R:Ψ}{I T:DH}{ρ:List AI}{w:World}{args:Array Value} 
 (e:I=h C.l++T) (HR:Aq P Γ N I ρ w) (hc:(h C.l).all (TZ (h C.l).length)=true) (hd:(ds C.l).all (C5 (h C.l).length)=true) (fa:BE (MS N I ρ) w ρ (ds C.l) args) (hj:C.J (.go i) G R w) (y:IY Γ N G R I ρ w):
 CallsIn Fence.wide 0 P f args w λe w'=>∃ s x ρ2 G2 R2,Aq P Γ x (h C.l++T) ρ2 w'/\ C.J s G2 R2 w'/\ IY Γ x G2 R2 (h C.l++T) ρ2 w'/\ CA I.length ρ ρ2/\ Qu tD (i+ys.length) s e (MS x (h C.l++T) ρ2) w' ρ2/\
  BQ (MS N I ρ) w ρ (MS x (h C.l++T) ρ2) w' ρ2/\ AQ (λb=>N b∨MO (h C.l) (ρ.take (h C.l).length) b∨w.heap.size<=b) w w':=by
 subst e;obtain ⟨K,v⟩: ∃ K,K=(h C.l).length:=⟨_,rfl⟩;have hK:(h C.l++T).take K=h C.l:=by rw [v,zNF];rfl
 have hKl:K<=(h C.l++T).length:=by rw [v,zGY];omega
 obtain ⟨Eg,hM⟩:=HR.take hKl (by rw [hK,v];exact hc);rw [hK] at Eg hM;obtain ⟨R1,z1,d,z3,z4⟩:=IY.part (C.hJ (.go i)) hj y;have sp:=λb=>MO.split (h:=h C.l++T) (ρ:=ρ) K b
 rw [hK] at sp;obtain ⟨O,A⟩: ∃ O,O=MT K (h C.l++T) ρ:=⟨_,rfl⟩;obtain ⟨U,bM⟩: ∃ U,U=MO (h C.l) (ρ.take K):=⟨_,rfl⟩;rw [←A] at Eg hM;rw [←v,←bM];have zE:(λb=>U b∨O b)=MO (h C.l++T) ρ:=by rw [bM,A];grind
 have g: ∀ b,U b∨O b↔MO (h C.l++T) ρ b:=λb=>iff_of_eq (congrFun zE b)
 have AU: ∀ b,MO (h C.l++T) ρ b -> b<w.heap.size:=λb hb=>d.sh.lt b (.inl hb)
 have Sw: ∀ b,U b -> ¬ O b:=λb L M=>by
  rw [bM] at L;rw [A] at M;obtain ⟨k,o,p,j,a,m⟩:=L;obtain ⟨k',o',p',g1,Q,V,W⟩:=M;rw [zMm] at a;split at a
  ·rename_i hk;exact HR.dis k k' o o' p p' b (by omega) (by grind) Q a V m W
  ·cases a
 have hNG: ∀ b,N b -> ¬ MO (h C.l++T) ρ b:=λb hN=>((d.n b).1 hN).2.1
 let C':ET P:=C.part O R1 U w (λb hb=>AU b ((g b).1 (.inr hb))) λb hb=>d.sh.lt b (.inr hb)
 have fa':BE (MS (λb=>N b∨O b) (h C.l) (ρ.take K)) w (ρ.take K) (ds C.l) args:=by
  have e:MS (λb=>N b∨O b) (h C.l) (ρ.take K)=MS N (h C.l++T) ρ:=funext λb=>propext (hM b)
  rw [e];exact fa.take (by rw [v];exact hd)
 refine (H.2 C' i hi (λb=>N b∨O b) (ρ.take K) args w U R1 Eg fa' ⟨by grind,AQ.refl _ _,λb hb=>⟨λhg=>Sw b hg hb,d.sh.dis b ((g b).1 (.inr hb))⟩,λ_ h=>h,λ_ h=>.inl h,λb hb=>d.sh.dis b ((g b).1 (.inl hb))⟩
  ⟨⟨λb hb=>d.sh.dis b ((g b).1 (.inl hb)),λb hb=>hb.elim (λh=>AU b ((g b).1 (.inl h))) λh=>d.sh.lt b (.inr h)⟩,d.lo,λb hb=>by rw [bM];exact hb,λb=>?_⟩).mono ?_
 ·constructor
  ·rintro (hb | hb)
   ·exact ⟨((d.n b).1 hb).1,λhg=>hNG b hb ((g b).1 (.inl hg)),((d.n b).1 hb).2.2⟩
   ·exact ⟨AU b ((g b).1 (.inr hb)),λhg=>Sw b hg hb,d.sh.dis b ((g b).1 (.inr hb))⟩
  ·rintro ⟨j,a,m⟩
   by_cases Y:O b
   ·exact .inr Y
   ·exact .inl ((d.n b).2 ⟨j,λhm=>((g b).2 hm).elim a Y,m⟩)
 ·rintro e w' ⟨s,N',ρs,G',R',Z,⟨j1,j2,j3,j4,j5,j6⟩,B,kp,Y⟩;have BK:=j2.size;have hls:ρs.length=K:=by rw [Z.len,v];rfl
  have Am:ρ.length=K+T.length:=by rw [HR.len,zGY,v]
  have hN2: ∀ b,(b<w'.heap.size/\ ¬ (G' b∨O b)/\ ¬ R' b) -> N' b:=λb ⟨j,a,m⟩=>(B.n b).2 ⟨j,λh=>a (.inl h),m⟩
  have hON: ∀ b,O b -> N' b:=λb hb=>(B.n b).2 ⟨zGS (AU b ((g b).1 (.inr hb))) BK,(j3 b hb).1,(j3 b hb).2⟩
  have pl: ∀ (k:Nat) (p:AI),ρ[k]? =some p -> (ρs++ρ.drop K)[k]? =some p:=λk p q=>by
   rcases zIW k K with hk | hk
   ·rw [zIu (by omega)];exact kp k p (by show k<(h C.l).length;rw [←v];exact hk) (by grind)
   grind
  have X: ∀ {k:Nat} {p:AI},k<K -> (ρs++ρ.drop K)[k]? =some p -> ρs[k]? =some p:=λ{k p} hk q=>by grind
  have D: ∀ {k:Nat} {p:AI},K<=k -> (ρs++ρ.drop K)[k]? =some p -> ρ[k]? =some p:=λ{k p} hk q=>by
   grind
  have E: ∀ {k:Nat} {o:DO},k<K -> (h C.l++T)[k]? =some (some o) -> (h C.l)[k]? =some (some o):=λ{k o} hk Y=>by grind
  have r: ∀ {k:Nat} {o:DO},K<=k -> (h C.l++T)[k]? =some (some o) -> (h C.l++T)[k]? =some (some o):=λ{k o} hk Y=>by
   grind
  have LU: ∀ b,MO (h C.l++T) (ρs++ρ.drop K) b -> G' b∨O b:=by
   rintro b ⟨k,o,p,j,a,m⟩;rcases zIW k K with hk | hk
   ·exact .inl (B.own b ⟨k,o,p,E hk j,X hk a,m⟩)
   ·exact .inr (by rw [A];exact ⟨k,o,p,hk,r hk j,D hk a,m⟩)
  obtain ⟨x,uG⟩: ∃ x:Ψ,x=λb=>b<w'.heap.size/\ ¬ (G' b∨O b)/\ ¬ R' b:=⟨_,rfl⟩
  have Hg: ∀ b,x b -> N' b:=λb hb=>by rw [uG] at hb;exact hN2 b hb
  have hM2: ∀ b,MS x (h C.l++T) (ρs++ρ.drop K) b -> b<w'.heap.size/\ ¬ R' b:=λb hb=>by
   rcases hb with hb | hb
   ·grind
   ·rcases LU b hb with hb | hb
    ·exact ⟨B.sh.lt b (.inl hb),j6 b hb⟩
    grind
  have out:BQ (MS N (h C.l++T) ρ) w ρ (MS x (h C.l++T) (ρs++ρ.drop K)) w' (ρs++ρ.drop K):=by
   refine ⟨λb hb hm _=>j2.block b hb λu=>u (.inr ?_),λb hb=>?_,pl⟩
   ·grind
   grind
  have fw:BQ (MS N' (h C.l) ρs) w' ρs (MS x (h C.l++T) (ρs++ρ.drop K)) w' (ρs++ρ.drop K):=by
   refine ⟨λ_ _ _ _=>rfl,λb hb=>.inl ?_,λk p q=>?_⟩
   ·rcases hb with hb | hb
    ·exact .inl (Hg b hb)
    ·obtain ⟨k,o,p,j,a,m⟩:=hb;rcases zIW k K with hk | hk
     ·exact .inr ⟨k,o,p,E hk j,X hk a,m⟩
     ·exact .inl (hON b (by rw [A];exact ⟨k,o,p,hk,r hk j,D hk a,m⟩))
   grind
  refine ⟨s,x,ρs++ρ.drop K,λb=>G' b∨O b,R',⟨by simp [hls,Am,v],λk o hk=>?_,λk o p b L M h3=>?_,λi i' o o' p p' b AY g1 Q V W g5 g6=>?_,λb hb=>?_,Z.gi⟩,j1,⟨⟨λb hb=>hb.elim (j6 b) λh=>(j3 b h).2,λb hb=>?_⟩,B.lo,LU,λb=>by rw [uG]⟩,λk p _ q=>pl k p q,Y.out fw,out,?_⟩
  ·rcases zIW k K with G6 | G6
   ·obtain ⟨p,q,F⟩:=Z.obj k o (E G6 hk);exact ⟨p,fw.pl k p q,F.out fw (S:=λ_=>False) (AQ.refl _ _) (λ_ h=>h.elim) λ_ _ _ h=>h⟩
   ·obtain ⟨p,q,F⟩:=HR.obj k o (r G6 hk);refine ⟨p,pl k p q,F.out out (S:=λb=>b<w.heap.size/\ ¬ (O b∨R1 b)) (j2.mono λb hb u=>⟨hb,u⟩) (λb hb=>z3 b ⟨hb.1,λF=>hb.2 (.inr F)⟩) λb _ hf u=>u.2 (.inl ?_)⟩;rw [A];exact ⟨k,o,p,G6,r G6 hk,q,hf⟩
  ·rcases zIW k K with G6 | G6
   ·obtain ⟨c1,c2,c3⟩:=Z.cel k o p b (E G6 L) (X G6 M) h3
    grind
   ·have Dq:O b:=by rw [A];exact ⟨k,o,p,G6,r G6 L,D G6 M,h3⟩
    obtain ⟨c1,_,c,t,z,c3⟩:=HR.cel k o p b (r G6 L) (D G6 M) h3;refine ⟨c1,λu=>?_,c,t,z,(j2.block b (zGI.1 c3).1 λu=>u (.inl Dq)).trans c3⟩
    grind
  ·rcases zIW i K with KA | KA <;> rcases zIW i' K with JL | JL
   ·exact Z.dis i i' o o' p p' b AY (E KA g1) (E JL Q) (X KA V) (X JL W) g5 g6
   ·exact (j3 b (by rw [A];exact ⟨i',o',p',JL,r JL Q,D JL W,g6⟩)).1 (B.own b ⟨i,o,p,E KA g1,X KA V,g5⟩)
   ·exact (j3 b (by rw [A];exact ⟨i,o,p,KA,r KA g1,D KA V,g5⟩)).1 (B.own b ⟨i',o',p',E JL Q,X JL W,g6⟩)
   ·exact HR.dis i i' o o' p p' b AY (r KA g1) (r JL Q) (D KA V) (D JL W) g5 g6
  ·exact Z.nlt b (Hg b hb)
  ·rcases hb with (hb | hb) | hb
   ·exact B.sh.lt b (.inl hb)
   ·grind
   ·exact B.sh.lt b (.inr hb)
  ·refine j2.mono λb hb u=>?_
   rcases z3 b ⟨hb,λF=>u (.inr F)⟩ with h | h
   ·exact .inl h
   grind
def ET.K (C:ET P)(Γ:Au)(L:Nat)(s:Ys)(ρ0:List AI):BL P Γ L where
 I:=λN h ρ w=>(Pm P Γ L (C.J s) (C.hJ s)).I N h ρ w/\ CA L ρ0 ρ
 st:=λ⟨a,b⟩ H W st k=>⟨(Pm P Γ L (C.J s) (C.hJ s)).st a H W st k,b.trans k⟩
def xI (C:ET P)(Γ:Au)(tD:Bool -> DV)(fn:Func)(L j:Nat)(ρ0:List AI)(h:DH):QY P Γ L:=λe S Y=> (Y=C.K Γ L (.go j) ρ0/\ Cy P fn L (tD true) h e S)∨(Y=C.K Γ L .stop ρ0/\ Cy P fn L (tD false) h e S)∨∃ c,Y=C.K Γ L (.pan c) ρ0/\ e= .panic c/\ ∃ R,A8 L S R/\ R.h=h
def YW.of {L:Nat}{fn:Func}(Y:P.funcs[f]? =some fn)(n:fn.body.isSome=true)(F:(fn.name== "runtime.NumGoroutine")=false)(O: ∀ l,(h l).length=L) 
 (T: ∀ (C:ET P) (i:Nat) (ρ0:List AI),(∃ rest,C.encs.drop i=ys++rest) -> A1 P Γ Fence.wide none L (C.K Γ L (.go i) ρ0) (xI C Γ tD fn L (i+ys.length) ρ0 (h C.l)) [.code (AR fn)] ⟨ds C.l++List.replicate (fn.ntmps-(ds C.l).length) .any,h C.l⟩):YW P Γ tD f ds h ys:=by
 refine ⟨λargs W=>JT Y n F args W,λC i hi N ρ args w G R HR fa hj y=>?_⟩;refine vw Y n (T C i ρ hi) HR fa ⟨⟨G,R,hj,y⟩,CA.refl _ _⟩ ?_
 have p: ∀ {s:Ys} {d:DV} {e:Exit} {S':St} {ρ':List AI} {X:Ψ} {a:Act} {o:World},Cy P fn L d (h C.l) e S' -> AS P Γ X S' ρ' a o -> (C.K Γ L s ρ).I X S'.h ρ' o -> (∀ M ρ' v,AJ M o d ρ' v -> Qu tD (i+ys.length) s (.returned v) M o ρ') -> ∃ v,(results fn a.tmps).run P o= .ok v o/\ ∃ s X ρ' Z R',Aq P Γ X (h C.l) ρ' o/\ C.J s Z R' o/\ IY Γ X Z R' (h C.l) ρ' o/\ CA (h C.l).length ρ ρ'/\ Qu tD (i+ys.length) s (.returned v) (MS X (h C.l) ρ') o ρ':=by
  rintro s d e S' ρ' X a o ⟨he,Cd,Q,rs,Nv,r⟩ g ⟨m,E⟩ hE;obtain ⟨ρ'',H,UO,S⟩:=Q P Γ X ρ' a o g;have y2:=(Pm P Γ L (C.J s) (C.hJ s)).st m g.hr H.hr UO S;obtain ⟨v,g1,g2⟩:=ZC H Nv;rcases r with ⟨r,x⟩ | ⟨_,r,F,hl,x⟩
  ·obtain ⟨t,A,u,y3⟩:=y2;have g3:=r _ _ _ _ g2;have Rh:=H.hr;rw [x] at y3 g3 Rh;exact ⟨v,g1,s,X,ρ'',t,A,Rh,u,y3,by rw [O];exact E.trans S,hE _ _ _ g3⟩
  ·obtain ⟨ρ3,A,z,B⟩:=A8.compact (L:=L) (List.range L) Cd zNY (λk hk=>zGS (zGQ.1 hk) hl) (λk hk=>by simp [hk]) P Γ X ρ'' a o H;obtain ⟨t,U,u,y3⟩:=(Pm P Γ L (C.J s) (C.hJ s)).st y2 H.hr A.hr z B;have D:=A.hr;rw [x] at D z y3;refine ⟨v,g1,s,X,ρ3,t,U,D,u,y3,by rw [O];exact (E.trans S).trans B,hE _ _ _ ?_⟩;have r0:=F _ _ _ _ (r _ _ _ _ g2);have r1:AJ (MS X (h C.l) ρ3) o d [] v:=AJ.out _ ⟨λ_ _ _ _=>rfl,λb n=>n.elim (λj=>.inl (.inl j)) λj=>(z.grow b j).imp .inr id,λ_ _ j=>by simp at j⟩ r0;exact AJ.out _ ⟨λ_ _ _ _=>rfl,λb n=>.inl n,λ_ _ j=>by simp at j⟩ r1
 rintro e S' ρ' X Y' a o q g m;rcases q with ⟨rfl,q⟩ | ⟨rfl,q⟩ | ⟨c,rfl,rfl,Cd,Q,x⟩
 ·have:=p (s:=.go (i+ys.length)) q g m λM ρ' v V=>⟨rfl,v,rfl,V⟩
  rcases q.1 with rfl | rfl <;> exact this
 ·have:=p (s:=.stop) q g m λM ρ' v V=>⟨v,rfl,V⟩
  rcases q.1 with rfl | rfl <;> exact this
 ·obtain ⟨m,E⟩:=m;obtain ⟨ρ3,A,z,B⟩:=Q P Γ X ρ' a o g;obtain ⟨t,U,u,y3⟩:=(Pm P Γ L (C.J (.pan c)) (C.hJ (.pan c))).st m g.hr A.hr z B;have D:=A.hr;rw [x] at D y3;exact ⟨.pan c,X,ρ3,t,U,D,u,y3,by rw [O];exact E.trans B,rfl⟩
section
variable {L:Nat} {C:ET P} {i:Nat} {ρ0:List AI} {Q:QY P Γ L} {ops:Array Oper} {S:St} {Ai:BR} {vs:List Prop}
variable {dst:Option Tmp}{p:Nat}{q:Θ}
def Dt.callW {J:Θ}{tD:Bool -> DV}{g:FuncId}{d:St}{Gv:BR}{ds:Nat -> List DV}{h:Nat -> DH}{ys:List (List DV)}{T:DH}(U:Dv Fence.wide P)(V:DF ops=true) 
 (b:XC P Γ ops q p S Ai=some (g,ds C.l,dst,d,vs,Gv)) (hv:Bp vs) (H:YW P Γ tD g ds h ys) (hS:d.h=h C.l++T) (hc:(h C.l).all (TZ (h C.l).length)=true) (hd:(ds C.l).all (C5 (h C.l).length)=true) (hi: ∃ rest,C.encs.drop i=ys++rest)
 (hk:Dt P Γ (C.K Γ L (.go (i+ys.length)) ρ0) ops J ⟨Cp d.fr dst (tD true),h C.l++T⟩ Q) (r:Dt P Γ (C.K Γ L .stop ρ0) ops J ⟨Cp d.fr dst (tD false),h C.l++T⟩ Q)
 (j: ∀ c,Q (.panic c) ⟨Lh d.fr,h C.l++T⟩ (C.K Γ L (.pan c) ρ0)):Dt P Γ (C.K Γ L (.go i) ρ0) ops (q++p::J) S Q:=λN ρ a w R y m=>by
 unfold XC at b;split at b
 ·cases b
 rename_i W FW Gu h1;split at b
 ·cases b
 rename_i o x;split at b
 ·rename_i hw;split at b
  ·rename_i c QB;split at b
   ·rename_i f WS;split at b
    ·rename_i g' m' cap hf;simp only [zHz,zIP] at b;obtain ⟨rfl,e2,rfl,rfl,rfl,rfl⟩:=b;rw [Rz];have e3:CQ ops (p::J)=o::CQ ops J:=by simp only [CQ,x]
     rw [e3];refine S9 U V _ (PJ q) R h1 hv λρ1 t w1 n X QK=>?_
     obtain ⟨⟨G,R0,j1,y1⟩,Dc⟩:=(C.K Γ L (.go i) ρ0).st y R.hr n.hr X.st (λk p _ j=>X.pl k p j);obtain ⟨args,MP,Z⟩:=lJ n o QB WS hf H.1;rw [e2] at Z;unfold wpListIn;rw [zEZ (Im n hw)];refine ⟨λf _=>U.fn f,?_⟩;rw [zI1 _ _ _ (Hw V x),MP];refine ⟨λr=>(by cases r),(YW.call H hi hS n.hr hc hd Z j1 y1).mono ?_⟩;have u:t.defers= []:=QK.trans m;have Cw: ∀ v,(t.put o.dst v).defers=t.defers:=λv=>by cases x:o.dst <;> simp [Act.put]
     rintro e w2 ⟨s,z,ρ2,A,B,D,E,F,MH,I,hO,_⟩;have Y:=n.fr.out hO;have M:CA L ρ0 ρ2:=λk p hk j=>hO.pl k p (Dc k p hk j)
     cases s with
     | go k=>
      obtain ⟨rfl,v,rfl,O⟩:=I;exact hk z ρ2 _ w2 (HN (S:=⟨W.fr,h C.l++T⟩) ⟨D,Y⟩ o.dst O) ⟨⟨A,B,E,F⟩,M⟩ ((Cw v).trans u)
     | stop=>
      obtain ⟨v,rfl,O⟩:=I;exact r z ρ2 _ w2 (HN (S:=⟨W.fr,h C.l++T⟩) ⟨D,Y⟩ o.dst O) ⟨⟨A,B,E,F⟩,M⟩ ((Cw v).trans u)
     | pan c=>
      have he:e= .panicked c:=I;subst he;exact ⟨_,_,ρ2,z,_,j c,Y.1,D,⟨⟨A,B,E,F⟩,M⟩,u⟩
    ·cases b
   ·cases b
  ·cases b
 ·cases b
def Dt.yieldW {u:Θ}{x:List DV}{j:St}{Z:BR}(M:Dv Fence.wide P)(O:DF ops=true) 
 (b:dF P Γ ops u p S Ai=some (x,C.l,dst,j,vs,Z)) (hv:Bp vs) {y:List DV} (z:C.encs[i]? =some y) (BU:JY x y) (hk:Dt P Γ (C.K Γ L (.go (i+1)) ρ0) ops q ⟨Cp j.fr dst (.bool true),j.h⟩ Q) (hs:Dt P Γ (C.K Γ L .stop ρ0) ops q ⟨Cp j.fr dst (.bool false),j.h⟩ Q) (A: ∀ c,Q (.panic c) ⟨Lh j.fr,j.h⟩ (C.K Γ L (.pan c) ρ0)):Dt P Γ (C.K Γ L (.go i) ρ0) ops (u++p::q) S Q:=λN ρ a w R y m=>by
 unfold dF at b;split at b
 ·cases b
 rename_i n FW Gu h1;split at b
 ·cases b
 rename_i o B;split at b
 ·rename_i hw;split at b
  ·rename_i c QB;split at b
   ·rename_i f WS;split at b
    ·rename_i l hl;split at b
     ·rename_i Vx;simp only [zHz,zIP] at b;obtain ⟨rfl,rfl,rfl,rfl,rfl,rfl⟩:=b;rw [Rz];have e3:CQ ops (p::q)=o::CQ ops q:=by simp only [CQ,B]
      rw [e3];refine S9 M O _ (PJ u) R h1 hv λρ1 T w1 H U QK=>?_
      obtain ⟨⟨G0,R0,y1,y2⟩,D⟩:=(C.K Γ L (.go i) ρ0).st y R.hr H.hr U.st (λk p _ A=>U.pl k p A);obtain ⟨R',z1,r,z3,_⟩:=IY.part (C.hJ (.go i)) y1 y2;obtain ⟨fn,tmps,Qr,body,hy,hR⟩:=C.hy i _ _ _ R' w1 z (YV.le BU (YV.of (g:=AZ n.fr) (f:=T.eval) (λx=>BW H x) z3 Vx)) z1 r.sh;unfold wpListIn;rw [zEZ (Im H hw)]
      have jd:T.eval f= .func (.yield C.l) #[] #[]:=by
       have b:=BW H f;rw [hl] at b;exact b
      refine ⟨λf _=>M.fn f,?_⟩;rw [zI1 _ _ _ (Hw O B),pV QB WS jd rfl,hy];refine ⟨λz=>(by cases z),hR.mono ?_⟩;have E:T.defers= []:=QK.trans m;have V: ∀ v,(T.put o.dst v).defers=T.defers:=λv=>by cases B:o.dst <;> simp [Act.put]
      rintro e t ⟨X,hj⟩;obtain ⟨s,J,F⟩:=hj;obtain ⟨W,Y⟩:=r.later H.hr X;have G:IY Γ (λI=>I<t.heap.size/\ ¬ MO n.h ρ1 I/\ ¬ R' I) (MO n.h ρ1) R' n.h ρ1 t:=⟨r.sh.upd X,r.lo,λ_ h=>h,λ_=>Iff.rfl⟩;cases s with
      | go k=>
       obtain ⟨rfl,rfl⟩:=J;exact hk _ ρ1 _ t (HN (S:=n) ⟨W,H.fr.out Y⟩ o.dst (d:=.bool true) (v:=.bool true) rfl) ⟨⟨_,_,F,G⟩,D⟩ ((V _).trans E)
      | stop=>
       have J:e= .returned (.bool false):=J;subst J;exact hs _ ρ1 _ t (HN (S:=n) ⟨W,H.fr.out Y⟩ o.dst (d:=.bool false) (v:=.bool false) rfl) ⟨⟨_,_,F,G⟩,D⟩ ((V _).trans E)
      | pan c=>
       have J:e= .panicked c:=J;subst J;exact ⟨_,_,ρ1,_,_,A c,H.fr.1,W,⟨⟨_,_,F,G⟩,D⟩,E⟩
     ·cases b
    ·cases b
   ·cases b
  ·cases b
 ·cases b
end
end
section
section
variable {P:Program} {Γ:Au} {F:Fence} {B:Option Nat} {L:Nat}
variable {Q Q':QY P Γ L}
theorem Hn.mono {b:Code}(a: ∀ e S Y,Q e S Y -> Q' e S Y): ∀ (m:Nat) {S:St} {Y:BL P Γ L},Hn P Γ F B L b Q m S Y -> Hn P Γ F B L b Q' m S Y
 | 0,_,_,h=>h
 | m+1,_,_,h=>Tr.mono h λe S Y h=>by
  cases e with
  | normal=>exact Hn.mono a m h
  | ret=>exact a _ _ _ h
  | exit id=>exact a _ _ _ h
  | goto t=>exact a _ _ _ h
  | panic c=>exact a _ _ _ h
  | outgrown=>exact a _ _ _ h
theorem BF.mono (a: ∀ e S Y,Q e S Y -> Q' e S Y): ∀ (k:List KI) {e:Exit} {S:St} {Y:BL P Γ L},BF P Γ F B L Q k e S Y -> BF P Γ F B L Q' k e S Y
 | [],_,_,_,h=>a _ _ _ h
 | .code c::k,e,S,Y,h=>by
  cases e with
  | normal=>exact Tr.mono (show Tr P Γ F B L Y c S (BF P Γ F B L Q k) from h) λ_ _ _ h=>BF.mono a k h
  | ret=>exact BF.mono a k (e:=.ret) h
  | exit id=>exact BF.mono a k (e:=.exit id) h
  | goto t=>exact BF.mono a k (e:=.goto t) h
  | panic c=>exact BF.mono a k (e:=.panic c) h
  | outgrown=>exact BF.mono a k (e:=.outgrown) h
 | .blk id::k,e,S,Y,h=>by
  cases e with
  | exit i=>
   have h:if i=id then BF P Γ F B L Q k .normal S Y else BF P Γ F B L Q k (.exit i) S Y:=h
   show if i=id then BF P Γ F B L Q' k .normal S Y else BF P Γ F B L Q' k (.exit i) S Y
   by_cases hi:i=id
   ·rw [zEZ hi] at h ⊢;exact BF.mono a k h
   ·rw [zGN hi] at h ⊢;exact BF.mono a k h
  | normal=>exact BF.mono a k (e:=.normal) h
  | ret=>exact BF.mono a k (e:=.ret) h
  | goto t=>exact BF.mono a k (e:=.goto t) h
  | panic c=>exact BF.mono a k (e:=.panic c) h
  | outgrown=>exact BF.mono a k (e:=.outgrown) h
 | .scp::k,e,S,Y,h=>by
  cases e with
  | goto t=>exact h
  | normal=>exact BF.mono a k (e:=.normal) h
  | ret=>exact BF.mono a k (e:=.ret) h
  | exit id=>exact BF.mono a k (e:=.exit id) h
  | panic c=>exact BF.mono a k (e:=.panic c) h
  | outgrown=>exact BF.mono a k (e:=.outgrown) h
 | .lend J::k,e,S,Y,h=>by
  cases e with
  | normal=>exact h
  | ret=>exact BF.mono a k (e:=.ret) h
  | exit id=>exact BF.mono a k (e:=.exit id) h
  | goto t=>exact BF.mono a k (e:=.goto t) h
  | panic c=>exact BF.mono a k (e:=.panic c) h
  | outgrown=>exact BF.mono a k (e:=.outgrown) h
 | .loopN m b::k,e,S,Y,h=>by
  cases e with
  | normal=>exact Hn.mono (λ_ _ _ h=>BF.mono a k h) m h
  | ret=>exact BF.mono a k (e:=.ret) h
  | exit id=>exact BF.mono a k (e:=.exit id) h
  | goto t=>exact BF.mono a k (e:=.goto t) h
  | panic c=>exact BF.mono a k (e:=.panic c) h
  | outgrown=>exact BF.mono a k (e:=.outgrown) h
end
def wb {X:Type}(A f:Option (List X)):Option (List X):=A.bind λa=>f.map λb=>a++b
def wx {X:Type}(x:X)(A:Option (List X)):Option (List X):=A.map λb=>x::b
variable {X:Type}
def xl {A f:Option (List X)}{r:List X}(h:wb A f=some r): ∃ a b,A=some a/\ f=some b/\ r=a++b:=by
 obtain ⟨a,ha,h⟩:=Gg h
 simp_all [SQ]
def DW {X:Type}(C:ET Tryz.prog)(enc:X -> List DV)(i:Nat)(r:List X):Prop:=∃ rest,C.encs.drop i=r.map enc++rest
variable {i:Nat}
def vK {α:Type}{l a b:List α}(h:l.drop i=a++b):l.drop (i+a.length)=b:=by
 rw [←List.drop_drop,h,List.drop_left'];rfl
variable {C:ET Tryz.prog}
def DW.split {enc:X -> List DV}{y b:List X}(h:DW C enc i (y++b)):(∃ rest,C.encs.drop i=y.map enc++rest)/\ DW C enc (i+(y.map enc).length) b:=by
 obtain ⟨rest,h⟩:=h;have h:C.encs.drop i=y.map enc++(b.map enc++rest):=by grind
 exact ⟨⟨_,h⟩,rest,vK h⟩
def DW.cons {enc:X -> List DV}{x:X}{b:List X}(h:DW C enc i (x::b)):C.encs[i]? =some (enc x)/\ DW C enc (i+1) b:=by
 obtain ⟨rest,h⟩:=h;have h:C.encs.drop i=enc x::(b.map enc++rest):=h;refine ⟨?_,rest,?_⟩
 ·have:=congrArg (·[0]?) h;simpa using this
 ·have:=vK (a:=[enc x]) h;simpa using this
section
variable {X:Type} {C:ET Tryz.prog} {tD:Bool -> DV} {fn:Func} {L:Nat} {ρ0:List AI} {H:DH} {i:Nat} {r:List X} {enc:X -> List DV} {k K:List KI} {S:St} {ops:Array Oper}
 {c:List (DV×DH×Bool)} {o:List (Nat×DV)} {z:List (Nat×Fz)} {v:List Prop} {fr:List DV} {h1:DH} {l l1 l2:Θ} {p:Nat} {dst:Option Tmp}
abbrev WF (C:ET Tryz.prog)(tD:Bool -> DV)(fn:Func)(L:Nat)(ρ0:List AI)(H:DH)(i:Nat)(r:List X):QY Tryz.prog GG L:=xI C GG tD fn L (i+r.length) ρ0 H
abbrev Qw (C:ET Tryz.prog)(tD:Bool -> DV)(fn:Func)(L:Nat)(ρ0:List AI)(H:DH)(ops:Array Oper)(l:Θ)(k:List KI)(i:Nat)(r:List X)(S:St):Prop:= Dt Tryz.prog GG (C.K GG L (.go i) ρ0) ops l S (BF Tryz.prog GG Fence.wide none L (WF C tD fn L ρ0 H i r) k)
abbrev Qv (C:ET Tryz.prog)(tD:Bool -> DV)(fn:Func)(L:Nat)(ρ0:List AI)(H:DH)(k:List KI)(i:Nat)(r:List X)(S:St):Prop:= A1 Tryz.prog GG Fence.wide none L (C.K GG L (.go i) ρ0) (WF C tD fn L ρ0 H i r) k S
abbrev xJ (C:ET Tryz.prog)(tD:Bool -> DV)(fn:Func)(L:Nat)(ρ0:List AI)(H:DH)(k:List KI)(S:St):Prop:= Bi Tryz.prog GG Fence.wide none L (C.K GG L .stop ρ0) (Cy Tryz.prog fn L (tD false) H) k S
def WF.app {y b:List X}{j:Nat}(hj:j=i+y.length):WF C tD fn L ρ0 H i (y++b)=WF C tD fn L ρ0 H j b:=by
 grind
theorem WF.pan {fr:List DV}{h:DH}(a:Nat.ble L h.length=true)(g:fj L h=H)(e:List PanicEntry):WF C tD fn L ρ0 H i r (.panic e) ⟨fr,h⟩ (C.K GG L (.pan e) ρ0):=
 .inr (.inr ⟨e,rfl,rfl,_,A8.compact (List.range L) ⟨fr,h⟩ zNY (λk hk=>zGS (zGQ.1 hk) (zIa a)) (λk hk=>by simp [hk]),g⟩)
def wO (j:PE K=some (ops,Ej K):=by kernel_rfl)(hk:Qw C tD fn L ρ0 H ops (List.range ops.size) (Ej K) i r S):Qv C tD fn L ρ0 H K i r S:=by
 unfold PE at j;split at j
 ·rename_i id a k;have w:a=ops:=congrArg Prod.fst (zGJ j);subst w;exact Tr.ofO hk
 ·cases j
def w0 (hk:Qv C tD fn L ρ0 H k i r S):Qw C tD fn L ρ0 H ops [] k i r S:=λN ρ _ _ R y m=>⟨S,ρ,N,_,hk,R,y,m,Bd.none⟩
def wE (m:HS c o z v)(fr:List DV)(h1:DH)(hk:Qv C tD fn L ρ0 H k i r ⟨fr,h1⟩)(h:(EN Tryz.prog GG ops (CQ ops l) S ⟨c,o,z,[]⟩).map (Zl (GZ 0 fr))=some (fr,h1,v):=by kernel_rfl)(a:DF ops=true:=by kernel_rfl)(b:WP k=true:=by kernel_rfl):Qw C tD fn L ρ0 H ops l k i r S:=by
 obtain ⟨f,Ai,h,e⟩:=rK h;refine Dt.done (HC.x (F:=Fence.wide)).f a h m.all (A1.leH (S':=⟨fr,h1⟩) ?_ b hk);rw [e];exact A8.forget _ _ _
def wS (m:HS c o z v)(fr:List DV)(h1:DH)(hk:xJ C tD fn L ρ0 H k ⟨fr,h1⟩)(h:(EN Tryz.prog GG ops (CQ ops l) S ⟨c,o,z,[]⟩).map (Zl (GZ 0 fr))=some (fr,h1,v):=by kernel_rfl)(a:DF ops=true:=by kernel_rfl)(b:WP k=true:=by kernel_rfl):Dt Tryz.prog GG (C.K GG L .stop ρ0) ops l S (BF Tryz.prog GG Fence.wide none L (WF C tD fn L ρ0 H i r) k):=by
 obtain ⟨f,Ai,h,e⟩:=rK h;refine Dt.done (HC.x (F:=Fence.wide)).f a h m.all (BF.mono (Q:=stay (C.K GG L .stop ρ0) (Cy Tryz.prog fn L (tD false) H)) (λe S Y d=>.inr (.inl d)) k (A1.leH (S':=⟨fr,h1⟩) ?_ b hk));rw [e];exact A8.forget _ _ _
def xq (hk:xJ C tD fn L ρ0 H k S):Dt Tryz.prog GG (C.K GG L .stop ρ0) ops [] S (BF Tryz.prog GG Fence.wide none L (WF C tD fn L ρ0 H i r) k):=λN ρ _ _ R y m=>⟨S,ρ,N,_,BF.mono (Q:=stay (C.K GG L .stop ρ0) (Cy Tryz.prog fn L (tD false) H)) (λe S Y a=>.inr (.inl a)) k hk,R,y,m,Bd.none⟩
variable {A:Option (List X)}
def wY {x:X}{xs:List DV}(l1 l2:Θ)(p:Nat)(m:HS c o z v)(fr:List DV)(h1:DH)(dst:Option Tmp)(d:wx x A=some r)(g:DW C enc i r)(j:JY xs (enc x)) 
 (n: ∀ r:List X,Dt Tryz.prog GG (C.K GG L .stop ρ0) ops l2 ⟨Cp fr dst (.bool false),h1⟩ (BF Tryz.prog GG Fence.wide none L (WF C tD fn L ρ0 H i r) k))
 (hk: ∀ b a,A=some b -> DW C enc a b -> Qw C tD fn L ρ0 H ops l2 k a b ⟨Cp fr dst (.bool true),h1⟩)
 (e:l=l1++p::l2:=by kernel_rfl) (h:(dF Tryz.prog GG ops l1 p S ⟨c,o,z,[]⟩).map (fq (GZ 0 fr))=some (xs,C.l,dst,fr,h1,v):=by kernel_rfl) (q:fj L h1=H:=by kernel_rfl) (s:Nat.ble L h1.length=true:=by kernel_rfl) (t:DF ops=true:=by kernel_rfl):Qw C tD fn L ρ0 H ops l k i r S:=by
 subst e;obtain ⟨b,u,rfl⟩:=SQ d;obtain ⟨w,E⟩:=DW.cons g;obtain ⟨f1,Ai,hy,G⟩:=zDw h;refine Dt.yieldW (HC.x (F:=Fence.wide)).f t hy m.all w j ?_ (Dt.weaken (YZ G) (n _)) λc=>PL (WF.pan s q c) k
 have e:WF C tD fn L ρ0 H i (x::b)=WF C tD fn L ρ0 H (i+1) b:=WF.app (y:=[x]) rfl;rw [e];exact Dt.weaken (YZ G) (hk _ _ u E)
def wC {g:FuncId}{ds:Nat -> List DV}{h:Nat -> DH}{tD':Bool -> DV}{f:Option (List X)}(l1 l2:Θ)(p:Nat)(s:HS c o z v)(fr:List DV)(h1:DH)(dst:Option Tmp) 
 (t:wb A f=some r) (u:DW C enc i r) (w: ∀ a,A=some a -> YW Tryz.prog GG tD' g ds h (a.map enc))
 (y: ∀ (j:Nat) (r:List X),Dt Tryz.prog GG (C.K GG L .stop ρ0) ops l2 ⟨Cp fr dst (tD' false),h1⟩ (BF Tryz.prog GG Fence.wide none L (WF C tD fn L ρ0 H j r) k))
 (hk: ∀ b m,f=some b -> DW C enc m b -> Qw C tD fn L ρ0 H ops l2 k m b ⟨Cp fr dst (tD' true),h1⟩)
 (e:l=l1++p::l2:=by kernel_rfl) (d:(XC Tryz.prog GG ops l1 p S ⟨c,o,z,[]⟩).map (Zk (GZ 0 fr))=some (g,ds C.l,dst,fr,h1,v):=by kernel_rfl) (n:h1.take (h C.l).length=h C.l:=by kernel_rfl)
 (B:(h C.l).all (TZ (h C.l).length)=true:=by kernel_rfl) (D:(ds C.l).all (C5 (h C.l).length)=true:=by kernel_rfl) (hp:fj L h1=H:=by kernel_rfl) (hL:Nat.ble L h1.length=true:=by kernel_rfl) (E:DF ops=true:=by kernel_rfl):Qw C tD fn L ρ0 H ops l k i r S:=by
 subst e;obtain ⟨f1,Ai,d,G⟩:=rJ d;obtain ⟨a,b,I,J,rfl⟩:=xl t;obtain ⟨M,N⟩:=DW.split u;have q:h C.l++h1.drop (h C.l).length=h1:=(u9 n).symm;refine Dt.callW (T:=h1.drop (h C.l).length) (HC.x (F:=Fence.wide)).f E d s.all (w a I) (u9 n) B D M ?_ ?_ λc=>?_
 ·rw [WF.app (j:=i+(a.map enc).length) (by rw [zGX]),q];exact Dt.weaken (YZ G) (hk _ _ J N)
 ·rw [q];exact Dt.weaken (YZ G) (y _ _)
 grind [PL,WF.pan]
def wF (h:Bi Tryz.prog GG Fence.wide none L (C.K GG L (.go i) ρ0) (Cy Tryz.prog fn L (tD true) H) k S):Qv C tD fn L ρ0 H k i ([]:List X) S:=
 BF.mono (Q:=stay (C.K GG L (.go i) ρ0) (Cy Tryz.prog fn L (tD true) H)) (λe S Y a=>.inl a) k h
end
def YW.ofW {X:Type}{f L:Nat}{fn:Func}{tD:Bool -> DV}{r:List X}{enc:X -> List DV}{ds:Nat -> List DV}{h:Nat -> DH}(M:Tryz.prog.funcs[f]? =some fn) 
 (T: ∀ (C:ET Tryz.prog) (i:Nat) (ρ0:List AI),DW C enc i r -> Qv C tD fn L ρ0 (h C.l) [.code (AR fn)] i r ⟨ds C.l++List.replicate (fn.ntmps-(ds C.l).length) .any,h C.l⟩)
 (c:fn.body.isSome=true:=by kernel_rfl) (u:(fn.name== "runtime.NumGoroutine")=false:=by kernel_rfl) (a: ∀ l,(h l).length=L:=by intro;kernel_rfl):YW Tryz.prog GG tD f ds h (r.map enc):=
 YW.of M c u a λC i ρ0 b=>by
  have:=T C i ρ0 b
  grind
end
section
variable {P:Program} {Γ:Au} {N:Ψ} {ρ:List AI} {w:World} {hc T:DH} {gf m:Nat} {cap:Nat -> DV} {ys:List (List DV)} {tD:Bool -> DV}
def oB (J:Nat -> (Ψ) -> (Ψ) -> World -> Prop)(X:(Ψ) -> (Ψ) -> World -> Prop)(Q:List PanicEntry -> (Ψ) -> (Ψ) -> World -> Prop):Ys -> (Ψ) -> (Ψ) -> World -> Prop
 | .go i=>J i
 | .stop=>X
 | .pan c=>Q c
def YW.iterW (H:YW P Γ tD gf (λl=>.yl l::(List.range m).map cap) (λ_=>hc) ys)(HR:Aq P Γ N (hc++T) ρ w)(E:hc.all (TZ hc.length)=true)(Z:((List.range m).map cap).all (C5 hc.length)=true) 
 {Y:Array Value} (F:Y.size=m) (Sl: ∀ j,j<m -> ∃ u,Y[j]? =some u/\ AJ (MS N (hc++T) ρ) w (cap j) ρ u):
 Tw False False P gf Y YV ys (λe _ _ _=>∃ v,e= .returned v) (MO hc (ρ.take hc.length)) (λb=>b<w.heap.size/\ ¬ MS N (hc++T) ρ b) w:=by
 intro l I X Q W hJ D f M L O Nz J8
 let C:ET P:=⟨l,ys,oB I X Q,λs=>by
  cases s with
  | go i=>exact hJ i
  | stop=>exact D
  | pan c=>exact f c,λi x args G R S U V h3 h4=>YieldAt.mono (L i x args G R S U V h3 h4) λe W' ⟨q1,p⟩=>⟨q1,by
   rcases p with ⟨rfl,q⟩ | ⟨rfl,q⟩ | ⟨c,rfl,q⟩
   ·exact ⟨.go (i+1),⟨rfl,rfl⟩,q⟩
   ·exact ⟨.stop,rfl,q⟩
   ·exact ⟨.pan c,rfl,q⟩⟩⟩
 obtain ⟨g,d⟩:=HR.take (K:=hc.length) (by simp) (by rw [zNF rfl];exact E);rw [zNF rfl] at g d;have Co:Γ.ng<=w.heap.size:=Γ.lo _ HR.gi
 have r:AQ (λb=>N b∨MT hc.length (hc++T) ρ b) w W:=M.mono λb y z=>by
  grind [MS]
 have lo: ∀ b,b<Γ.ng -> b<w.heap.size/\ ¬ MS N (hc++T) ρ b:=λb a=>⟨by omega,λz=>by
  have:=(HR.lt2 z).2;omega⟩
 have y: ∀ b,MO hc (ρ.take hc.length) b -> b<w.heap.size:=λb a=>(HR.lt2 ((d b).1 (.inr a))).1
 have A: ∀ b,N b∨MT hc.length (hc++T) ρ b -> (N b∨MT hc.length (hc++T) ρ b)/\ Γ.ng<=b:=λb a=>⟨a,(g.nlt b a).2⟩
 have J: ∀ b,(b<W.heap.size/\ ¬ MO hc (ρ.take hc.length) b/\ ¬ (b<w.heap.size/\ ¬ MS N (hc++T) ρ b)) -> (N b∨MT hc.length (hc++T) ρ b)∨w.heap.size<=b:=λb ⟨_,p,q3⟩=>by
  grind [MS]
 have HW:Aq P Γ (λb=>b<W.heap.size/\ ¬ MO hc (ρ.take hc.length) b/\ ¬ (b<w.heap.size/\ ¬ MS N (hc++T) ρ b)) hc (ρ.take hc.length) W:=g.foreign r A J λb a=>⟨a.1,zM7 λhl=>a.2.2 (lo b hl)⟩
 have kM:BE (MS (λb=>N b∨MT hc.length (hc++T) ρ b) hc (ρ.take hc.length)) w (ρ.take hc.length) ((List.range m).map cap) Y:=by
  have e:MS (λb=>N b∨MT hc.length (hc++T) ρ b) hc (ρ.take hc.length)=MS N (hc++T) ρ:=funext λb=>propext (d b)
  rw [e];refine BE.take ⟨by simp [F],λj B=>?_⟩ Z
  simp_all
 have kN:=kM.out (BQ.foreign (Γ:=Γ) r A J)
 refine (H.2 C 0 ⟨[],by simp [C]⟩ _ _ _ W _ _ HW (BE.append (l:=[.yl C.l]) (t:=#[.func (.yield l) #[] #[]]) ⟨rfl,λj B=>by
  have:j=0:=Nat.lt_one_iff.1 B;subst this;rfl⟩ kN) O ⟨⟨λb a hr=>hr.2 ((d b).1 (.inr a)),λb a=>zGS (a.elim (y b) λh=>h.1) M.size⟩,lo,λ_ h=>h,λ_=>Iff.rfl⟩).mono ?_
 rintro e w' ⟨s,N',ρ',G',R',Q0,n,y',kp,o⟩;refine ⟨G',R',y'.sh,?_⟩;cases s with
 | go k=>
  obtain ⟨rfl,v,rfl,_⟩:=o;refine .inl ⟨?_,v,rfl⟩;simpa [C,oB] using n
 | stop=>
  obtain ⟨v,rfl,_⟩:=o;exact .inr (.inl ⟨⟨v,rfl⟩,n⟩)
 | pan c=>exact .inr (.inr ⟨c,o,n⟩)
def zMQ (J:DH -> Prop)(X:Exit -> DH -> Prop)(Q:List PanicEntry -> DH -> Prop)(e:Exit)(h:DH):Prop:=(e= .normal/\ J h)∨((KN e).isSome=true/\ X e h)∨∃ c,e= .panic c/\ Q c h
variable {I:Code}{fr:List DV}
def zDA {fi:FuncId}{a:Act}{g:Operand}{V:Array Tmp}{n:Code}{J:Nat -> DH -> Prop}{Y:Exit -> DH -> Prop}{Z:List PanicEntry -> DH -> Prop}{KK:Nat}{Q:Exit -> Act -> World -> Prop}(QH: ∃ f,P.funcs[fi]? =some f)(R:AS P Γ N ⟨fr,hc++T⟩ ρ a w)(hg:AZ fr g= .fn gf m cap) 
 (H:YW P Γ tD gf (λl=>.yl l::(List.range m).map cap) (λ_=>hc) ys) (BH:hc.all (TZ hc.length)=true) (js:((List.range m).map cap).all (C5 hc.length)=true)
 (Ea: ∀ x∈ys,x.length=V.size) (CH:fr.all (C5 KK)=true) (h0:J 0 (hid hc.length T)) (DT:cz P Γ fr V.toList I n KK J Y Z ys)
 (K: ∀ (D:Nat) (e:Exit) (h':DH) (ρ':List AI) (w':World),zMQ (J ys.length) Y Z e h' -> AS P Γ N ⟨fr,h'⟩ ρ' a w' -> A3 (hc++T) ρ w h' ρ' w' -> CA KK ρ ρ' -> w'.heap[D]? =some (.deferred (some [])) -> w.heap.size<=D ->
  Q e { a with defers:={ target:=.collected D,args:=#[] }::a.defers } w'):Il Fence.wide 0 P fi (.rangeFunc g V I n) Q a w:=by
 have L:=BW R g;rw [hg] at L;obtain ⟨lb,hv,hs,Sl⟩:=L;have HR:Aq P Γ N (hc++T) ρ w:=R.hr;have Co:Γ.ng<=w.heap.size:=Γ.lo _ HR.gi
 have M: ∀ b,MO (hc++T) ρ b↔MO hc (ρ.take hc.length) b∨MT hc.length (hc++T) ρ b:=λb=>by
  have:=MO.split (h:=hc++T) (ρ:=ρ) hc.length b
  rwa [zNF] at this
  rfl
 have X: ∀ b,N b -> b<w.heap.size/\ ¬ MO (hc++T) ρ b:=λb d=>⟨(HR.nlt b d).1,λ⟨k,o,p,r,s,u⟩=>(HR.cel k o p b r s u).2.1 d⟩
 have AU: ∀ b,MO (hc++T) ρ b -> b<w.heap.size/\ Γ.ng<=b:=λb d=>HR.lt2 (.inr d)
 have IX:EE (MO hc (ρ.take hc.length)) (λb=>b<w.heap.size/\ ¬ MS N (hc++T) ρ b) w:=⟨λb d hr=>hr.2 (.inr ((M b).2 (.inl d))),λb d=>d.elim (λh=>(AU b ((M b).2 (.inl h))).1) λh=>h.1⟩
 have bL:RJ P Γ N (hc++T) ρ w KK J 0 (MO hc (ρ.take hc.length)) (λb=>b<w.heap.size/\ ¬ MS N (hc++T) ρ b) w:=
  ⟨_,ρ,h0,HR.hide,AQ.refl _ _,λb d=>.inl (MO.hid d).mo,λb d=>⟨(AU b ((M b).2 (.inl d))).2,.inl ((M b).2 (.inl d))⟩,λb d=>⟨λhn=>d.2 (.inl hn),λhm=>d.2 (.inr (MO.hid hm).mo)⟩,CA.refl _ _⟩
 have hst: ∀ i,C0 (RJ P Γ N (hc++T) ρ w KK J i):=λi G R' G' R2 A C ⟨h,ρ',j,z⟩ r s u B E F=>⟨h,ρ',j,RI.stable Co X _ _ _ _ _ _ z r s u B E F⟩
 have aj: ∀ c,C0 (RX P Γ N (hc++T) ρ w KK Y c):=λc G R' G' R2 A C ⟨e,q,h,ρ',j,z⟩ r s u B E F=>⟨e,q,h,ρ',j,RI.stable Co X _ _ _ _ _ _ z r s u B E F⟩
 have hsp: ∀ c,C0 (xL P Γ N (hc++T) ρ w KK Z c):=λc G R' G' R2 A C ⟨h,ρ',j,z⟩ r s u B E F=>⟨h,ρ',j,RI.stable Co X _ _ _ _ _ _ z r s u B E F⟩
 have eg: ∀ args w,(callFunc gf args).run P w= .ok (.enter gf args) w:=H.1;have stp: ∀ {G R':Ψ} {W:World} {h:DH} {ρ':List AI},RI KK P Γ N (hc++T) ρ w G R' W h ρ' -> A3 (hc++T) ρ w h ρ' W:=λhR=>⟨hR.upd,hR.grow⟩
 have O: ∀ {G R':Ψ} {W:World} {h:DH} {ρ':List AI},RI KK P Γ N (hc++T) ρ w G R' W h ρ' -> AS P Γ N ⟨fr,h⟩ ρ' a W:=λhR=>⟨hR.hrel,hR.frame (S:=⟨fr,hc++T⟩) R (λ_ h=>h) CH⟩
 refine mS (nv:=False) (np:=False) (.inr QH) hv eg (H.iterW HR BH js hs Sl) IX (λx L R W args h=>h.1.symm.trans (Ea x L)) _ _ _ hst aj hsp (λh=>h.elim) (λh=>h.elim) bL (fP R X (λ_ h=>h) CH DT) ?_ ?_ ?_
 ·rintro D e G R1 own W W' ⟨v,rfl⟩ ⟨h,ρ1,j,hR⟩ _ _ _ U y;exact K D .normal h ρ1 W' (.inl ⟨rfl,j⟩) (O hR) (stp hR) hR.kept U y
 ·rintro D c G R1 W ⟨e,q,h,ρ',j,hR⟩ U y;cases e with
  | ret=>cases q;exact zNR (K D .ret h ρ' W (.inr (.inl ⟨rfl,j⟩)) (O hR) (stp hR) hR.kept U y)
  | exit id=>cases q;exact wpIn_exit (K D (.exit id) h ρ' W (.inr (.inl ⟨rfl,j⟩)) (O hR) (stp hR) hR.kept U y)
  | normal=>cases q
  | goto t=>cases q
  | panic c=>cases q
  | outgrown=>cases q
 ·rintro D c G R1 W ⟨h,ρ',j,hR⟩ U y;exact K D (.panic c) h ρ' W (.inr (.inr ⟨c,rfl,j⟩)) (O hR) (stp hR) hR.kept U y
def zCJ {α σ:Type}{u:List Tmp}{S:Code}{K:Nat}(V:List Exit)(C:(V.all λe=>(KN e).isSome)=true)(M:List PanicEntry)(enc:α -> List DV)(ys:List α)(f:α -> σ -> Option (σ×Nat))(a:σ -> DH){rE:σ×Nat}(v:α -> List DV) 
 (D: ∀ (l B:Nat) (N:BL P Γ K) (x:α) (s:σ) (r:σ×Nat),f x s=some r -> HF P Γ (Fence.wide.inRound l) (some B) K N (C1 K (V++[.panic M]) r.2 (a r.1)) I S ⟨v x,a s⟩) (hni: ∀ s,(a s).all Ve=true) (E:(λx=>Iw fr u (enc x))=v):
 cz P Γ fr u I S K (λi h=>∃ s,Cj f (ys.drop i) s=some rE/\ h=a s) (λe h=>(Exit.normal::V)[rE.2]? =some e/\ h=a rE.1) (λc h=>c=M/\ rE.2=V.length+1/\ h=a rE.1) (ys.map enc):=by
 subst E;rintro l' w X i x h b ⟨s,z,rfl⟩;rw [zIC] at b;cases hy:ys[i]? with
 | none=>rw [hy] at b;cases b
 | some y=>
  rw [hy] at b;cases b;have AU:=(zGe.1 hy).1
  have F:ys.drop i=y::ys.drop (i+1):=by
   grind [List.drop_eq_getElem_cons]
  rw [F] at z;obtain ⟨r,G,d⟩:=Gg z
  have m: ∀ {e:Exit} {p:St},C1 K (V++[.panic M]) r.2 (a r.1) e p -> xK K (λh=>∃ s,Cj f (ys.drop (i+1)) s=some rE/\ h=a s) (λe h=>(Exit.normal::V)[rE.2]? =some e/\ h=a rE.1) (λc h=>c=M/\ rE.2=V.length+1/\ h=a rE.1) e p:=by
   rintro e p ⟨g,j,o,n⟩;cases hc:r.2 with
   | zero=>
    rw [hc] at g;cases g
    have d:Cj f (ys.drop (i+1)) r.1=some rE:=by
     grind
    exact .inl ⟨j,o,.inl ⟨rfl,r.1,d,n⟩⟩
   | succ k=>
    have d:r=rE:=by
     grind
    subst d;rw [hc] at g;rcases zIW k V.length with hk | hk
    ·have O:V[k]? =some e:=by
      grind
     have b:=zGL.1 C e (zHw O);exact .inl ⟨j,o,.inr ⟨b,by rw [hc];exact O,n⟩⟩
    ·have O:(V++[Exit.panic M])[k]? =some e:=g;rw [zH1 hk] at O
     have H:k-V.length=0:=by
      grind
     rw [H] at O;cases O;exact .inr ⟨M,j,rfl,o,by rw [n];exact PT (hni _),rfl,by rw [hc];omega,n⟩
  refine Tr.mono (D l' w X y s r G) λe p Y2 L=>?_
  cases e with
  | normal=>exact ⟨L.1,λq=>Tr.mono (show Tr P Γ (Fence.wide.inRound l') (some w) K q S p (stay q (C1 K (V++[.panic M]) r.2 (a r.1))) from L.2 q) λe j Y3 A=>⟨A.1,m A.2⟩⟩
  | ret=>exact L.elim
  | exit id=>exact L.elim
  | goto t=>exact L.elim
  | panic c=>exact L.elim
  | outgrown=>exact L.elim
end
def HA:Value:=.iface 30 (.int .i64 220)
section
variable {F:Fence} {B:Option Nat} {L:Nat} {Y N:BL Tryz.prog GG L} {Q:QY Tryz.prog GG L}
variable {S:St}
def SC {e:List PanicEntry}(h:Q (.panic e) S Y): ∀ (k:List KI),BF Tryz.prog GG F B L Q k (.panic e) S Y
 | []=>h
 | .blk _::k=>SC h k
 | .code _::k=>SC h k
 | .lend _::k=>SC h k
 | .scp::k=>SC h k
 | .loopN _ _::k=>SC h k
variable {x:Value}{k:List KI}{o0 o1:Oper}{ops:Array Oper}{ty:TypeId}{id t:Nat}
def zDk [i:HC F]        (n:ops.toList= [o0,o1]) (h0:o0.op= .makeInterface ty (.const x)) (j:o0.dst=some t) (K:o0.guard=none) (l:o1.op= .panic (.tmp t)) (o:o1.guard=none) (ht:Nat.blt t S.fr.length=true) (hc:Tryz.prog.concrete ty=true)
 (p:Q (.panic (pan (.iface ty x))) ⟨Lh S.fr,S.h⟩ Y):A1 Tryz.prog GG F B L Y Q (.code (.region id ops false)::k) S:=by
 show Tr Tryz.prog GG F B L Y (.region id ops false) S _
 intro N ρ a w R y m b
 have hts:t<a.tmps.size:=by
  have:=R.fr.1
  simp_all
 refine zI8 ?_;rw [n];simp only [wpListIn,Oper.wpIn,Region.wanted,K,o,zI6];refine ⟨λf _=>i.x.f.fn f,?_⟩
 have G:(o0.semAt F.round a.eval).run Tryz.prog w= .ok (.value (.iface ty x)) w:=by
  rw [zI1 _ _ _ (by rw [h0];intro c e;cases e)];unfold execOp;rw [h0];have:=run_makeInterface (P:=Tryz.prog) w ty x hc;simp [go_sem,this]
 rw [G,Oper.uponIn_value];refine ⟨λf _=>i.x.f.fn f,?_⟩;obtain ⟨d,g⟩: ∃ d,d=a.put o0.dst (.iface ty x):=⟨_,rfl⟩;rw [←g]
 have T:d.eval (.tmp t)= .iface ty x:=by
  simp_all [Act.eval,Act.put]
 have q:(o1.semAt F.round d.eval).run Tryz.prog w= .halt (.panic (.iface ty x)) w:=by
  rw [zI1 _ _ _ (by rw [l];intro c e;cases e)];unfold execOp;rw [l];have r:d.eval (.tmp t)= .iface ty x:=T;simp only [r];simp [go_sem]
 rw [q,Oper.uponIn_panic];have s:d.defers=a.defers:=by rw [g,j];simp [Act.put]
 have u:S.fr.length=d.tmps.size:=by rw [g,j];simpa [Act.put] using R.fr.1
 exact ⟨⟨Lh S.fr,S.h⟩,ρ,N,Y,SC p k,⟨R.hr,wj u⟩,y,by rw [s];exact m,b⟩
def pX [hX:HC F] {V:List Exit} {i:Nat} {b:DH}      {fr:List DV}  (J:(Exit.normal::V)[i]? =some (.panic (pan (.iface ty x)))) (m:ops.toList= [o0,o1]:=by rfl) (h0:o0.op= .makeInterface ty (.const x):=by rfl) (d:o0.dst=some t:=by rfl) (K:o0.guard=none:=by rfl) (a:o1.op= .panic (.tmp t):=by rfl) (c:o1.guard=none:=by rfl) (X:Nat.blt t fr.length=true:=by kernel_rfl) (hc:Tryz.prog.concrete ty=true:=by kernel_rfl):Bi Tryz.prog GG F B L N (C1 L V i b) (.code (.region id ops false)::k) ⟨fr,b⟩:=
 zDk m h0 d K a c X hc ⟨rfl,J,_,A8.refl _ _,rfl⟩
end
def xM (f:FuncId)(ds:List DV)(a:Value):Prop:=(∀ args W,(callFunc f args).run Tryz.prog W= .ok (.enter f args) W)/\ ∀ (N:Ψ) (ρ:List AI) (w:World) (args:Array Value),Aq Tryz.prog GG N [] ρ w -> BE (MS N [] ρ) w ρ ds args -> CallsIn Fence.wide 0 Tryz.prog f args w λe w'=>e= .panicked (pan a)/\ A0 w w'
section
variable {N:Ψ} {ρ:List AI} {a:Act} {w:World} {S:St} {Q:Exit -> Act -> World -> Prop} {fr:List DV} {h':DH} {c:List (DV×DH×Bool)} {o:List (Nat×DV)} {z:List (Nat×Fz)} {v:List Prop} {id:Nat} {ops:Array Oper}
def mN {g:FuncId}{ds:List DV}{m:Value}{dst:Option Tmp}(H:xM g ds m)(j J:Θ)(p:Nat)(u:HS c o z v)(fr:List DV)(h':DH)(R:AS Tryz.prog GG N S ρ a w)(i:(XC Tryz.prog GG ops j p S ⟨c,o,z,[]⟩).map (Zk (GZ 0 fr))=some (g,ds,dst,fr,h',v))(y:List.range ops.size=j++p::J)(n:DF ops=true)(A:ds.all (C5 0)=true) 
 (hk: ∀ ρ' l w',AS Tryz.prog GG N ⟨fr,h'⟩ ρ' l w' -> A3 S.h ρ w h' ρ' w' -> l.defers=a.defers -> CA S.h.length ρ ρ' -> Q (.panic (pan m)) l w'):(Code.region id ops false).wpIn Fence.wide 0 Tryz.prog Q a w:=by
 obtain ⟨f1,Ai,i,G⟩:=rJ i;refine zI8 ?_;rw [←qk,y];unfold XC at i;split at i
 ·cases i
 rename_i S2 FW Gu B;split at i
 ·cases i
 rename_i o q;split at i
 ·rename_i U;split at i
  ·rename_i c' D;split at i
   ·rename_i f E;split at i
    ·rename_i g' m' cap M;simp only [zHz,zIP] at i;obtain ⟨rfl,I,rfl,rfl,rfl,rfl⟩:=i;rw [Rz];have P:CQ ops (p::J)=o::CQ ops J:=by simp only [CQ,q]
     rw [P];refine S9 (HC.x (F:=Fence.wide)).f n _ (PJ j) R B u.all λρ1 T w1 d r L=>?_
     obtain ⟨args,O,s⟩:=lJ d o D E M H.1;rw [I] at s;unfold wpListIn;rw [zEZ (Im d U)];refine ⟨λf _=>trivial,?_⟩;rw [zI1 _ _ _ (Hw n q),O];obtain ⟨t,Y⟩:=d.hr.take (K:=0) (zIG _) (by rw [List.take_zero];rfl);rw [List.take_zero,List.take_zero] at t Y
     have V:BE (MS (λb=>N b∨MT 0 h' ρ1 b) [] []) w1 [] ds args:=by
      have e:MS (λb=>N b∨MT 0 h' ρ1 b) [] []=MS N h' ρ1:=funext λb=>propext (Y b)
      rw [e];exact s.take A
     refine ⟨λW=>(by cases W),(H.2 _ _ _ _ t V).mono ?_⟩;rintro e w' ⟨rfl,C⟩;have X:AS Tryz.prog GG N ⟨fr,h'⟩ ρ1 T w':=(d.ext C).forg (fr':=fr) _ rfl G.symm;exact hk ρ1 T w' X (r.st.trans (A3.ext C)) L λk p _ Z=>r.pl k p Z
    ·cases i
   ·cases i
  ·cases i
 ·cases i
variable {g:Nat}{P:Program}
def md {o0:Oper}{x:Operand}{O:Array TypeId}(m:ops.toList= [o0])(h0:o0.op= .defer { callee:=.value (.func g),args:=#[x],argTypes:=O })(d:o0.dst=none)(K:o0.guard=none) 
 (o: ∀ b,b.tmps=a.tmps -> b.defers= { target:=.fn (.func g) #[],args:=#[a.eval x] }::a.defers -> Q .normal b w):(Code.region id ops false).wpIn Fence.wide 0 P Q a w:=by
 refine zI8 ?_;rw [m];simp only [wpListIn,Oper.wpIn,Region.wanted,K,zI6];refine ⟨λ_ _=>trivial,?_⟩
 have c:(o0.semAt Fence.wide.round a.eval).run P w= .ok (.defer { target:=.fn (.func g) #[],args:=#[a.eval x] }) w:=by
  simp_all [Oper.semAt_none,execOp,resolve,Deferred.ofValue,Act.eval]
 rw [c,Oper.uponIn_defer,d];exact o _ rfl rfl
def Nm {fn:Func}{tmps:Array Value}{R:Ending -> World -> Prop}{N args d:Array Value}{ds:List Deferred}{u:FrameMode}{w:World}(q:u≠.run)(f: ∀ args W,(callFunc g args).run P W= .ok (.enter g args) W)(hc:args++N=d) 
 (h:CallsDIn Fence.wide (0-1) P g d u w λ
  | .returned _,a,w'=>LeavesInM Fence.wide 0 P fn tmps R ds (settle a) w'
  | .panicked r,a,w'=>LeavesInM Fence.wide 0 P fn tmps R ds (raised a r) w'
  | .outgrown,_,w'=>R .outgrown w'):LeavesInM Fence.wide 0 P fn tmps R ({ target:=.fn (.func g) N,args:=args }::ds) u w:=by
 subst hc;refine ⟨q,.inr ⟨λh=>(by cases h),.func g,N,g,args++N,rfl,?_,λ_ _=>trivial,h.mono λe a w' L=>by cases e <;> exact L⟩⟩;simp [invoke,go_sem,f]
end
section
set_option maxRecDepth 100000
set_option maxHeartbeats 40000000
def zL5 (n:Nat)(s_:Int):Option Unit:= some ()
def zL6 (n:Nat)(N:Int):Option Unit:=zL5 n N
variable {n:Nat}
def zL4 (a:Int){r:Unit}(h:zL6 n a=some r):EQ 63 [.int .u64 a] [] (.fn 93 1 (L1 [.ref 0 0])) [oC [.int .u64 a]] true:=by
 refine ot Tryz.func63 λB N=>?_
 revert r;apply gO;exact lE AC [2] [0]
inductive Tl where
 | l1 (x3:Int)
def OY (n:Nat)(self:Tl -> Option Ξ)(N:Int)(H:Int):Option Ξ:= if 0<=H/\ H<=(IntKind.u64.bits:Int) then bif ((N/2 ^ (H).toNat) != 0) then bif (decide (H<64)) then bif ((bits .and .u64 (N/2 ^ (H).toNat) 1)==1) then if 0<=H/\ H<=(IntKind.u64.bits:Int) then bif ((bits .and .u64 (N/2 ^ (H).toNat) 1)==1) then Option.map (λl=>H::l) (if AG (H+1) then self (.l1 (H+1)) else none) else if AG (H+1) then self (.l1 (H+1)) else none else none else if AG (H+1) then self (.l1 (H+1)) else none else some [] else some [] else none
def wq (n:Nat)(self:Tl -> Option Ξ)(s_:Int):Option Ξ:= self (.l1 0)
def JX (N:Int):Nat -> Tl -> Option Ξ
 | 0,_=>none
 | n+1,.l1 H=>OY n (JX N n) N H
def Mn (n:Nat)(N:Int):Option Ξ:=wq n (JX N n) N
def lw (C:Du Tryz.prog)(n:Nat)(N:Int)(r:Ξ):Tl -> Prop
 | .l1 H=>∀ f:Nat,n<=f -> ∀ i:Nat,i<=C.encs.length -> C.encs.drop i=r.map Bw -> A1 Tryz.prog GG Fence.wide none 1 (C.Y GG 1 i) (C.Q GG 1) (Ah f (An (AR Tryz.f93) 0 [])) ⟨AF 25 [(0,.yl C.l),(1,.ref 0 0),(3,.i H)],[oC [.int .u64 N]]⟩
def zL7 (C:Du Tryz.prog)(n:Nat)(self:Tl -> Option Ξ)(N:Int)(k: ∀ B r,self B=some r -> lw C n N r B)(H:Int)(r:Ξ)(h:OY n self N H=some r):lw C (n+1) N r (.l1 H):=by
 intro f d;intro i hi a;refine rd d λf d=>?_
 unfold OY at h;obtain ⟨q,h⟩:=DI h;have p:=H0.g q;rcases DQ h with ⟨c,h⟩ | ⟨c,h⟩
 ·have p:=p.b 7 c;rcases DQ h with ⟨j,h⟩ | ⟨j,h⟩
  ·have p:=p.b 10 j |>.g q
   rcases DQ h with ⟨t,h⟩ | ⟨t,h⟩
   ·have p:=H0.g q |>.b 7 c |>.b 10 j
    refine gs (Ab 3 AC) [0] p (EP (AR Tryz.f93) 3 [f]) (AF 25 [(0,.yl C.l),(1,.ref 0 0),(3,.i H)]) [oC [.int .u64 N]] ?_;obtain ⟨o,h⟩:=DI h;have p:=H0.g o;rcases DQ h with ⟨c,h⟩ | ⟨c,h⟩
    ·have p:=p.b 18 c;obtain ⟨r,m,rfl⟩:=SQ h;clear h;have h:=m;clear m;obtain ⟨u,hi,a⟩:=ke a;refine A1.y (ops:=BA Tryz.f93 3) HC.x 8 [0,1,3,24] [0] p (x:=Bw H) (AF 25 [(0,.yl C.l),(1,.ref 0 0),(3,.i H),(24,.bool false)]) [oC [.int .u64 N]] (AF 25 [(0,.yl C.l),(1,.ref 0 0),(3,.i H),(24,.bool true)]) [oC [.int .u64 N]] (by kernel_rfl) (by kernel_rfl) (by kernel_rfl) u (by kernel_rfl) ?_ ?_
     ·generalize i+1=i at hi a ⊢
      obtain ⟨s,h⟩:=DI h;have p:=H0.w 13 s;exact gg AC [0] p (k _ _ h f d i hi a)
     ·exact TrI.e HC.x AC 6 H0 (by kernel_rfl) (.inr rfl)
    ·obtain ⟨s,h⟩:=DI h;have p:=p.b 18 c |>.w 13 s
     exact gg AC [0] p (k _ _ h f d i hi a)
   ·obtain ⟨o,h⟩:=DI h;have p:=p.b 18 t |>.w 13 o
    exact gg AC [0] p (k _ _ h f d i hi a)
  ·have p:=p.b 10 j;cases h;exact TrI.e HC.x AC 10 p (by kernel_rfl) (.inl (by rw [Wz hi a]))
 ·have p:=p.b 7 c;cases h;exact TrI.e HC.x AC 10 p (by kernel_rfl) (.inl (by rw [Wz hi a]))
def wv (C:Du Tryz.prog)(N:Int): ∀ (n:Nat) (B:Tl) (r:Ξ),JX N n B=some r -> lw C n N r B
 | 0,_,_,h=>by cases h
 | n+1,.l1 H,r,h=>zL7 C n (JX N n) N (wv C N n) H r h
variable {r:Ξ}
def zL8 (N:Int)(h:Mn n N=some r)(C:Du Tryz.prog)(T:C.encs=r.map Bw):A1 Tryz.prog GG Fence.wide none 1 (C.Y GG 1 0) (C.Q GG 1) [.code (AR Tryz.f93)] ⟨AF 25 [(0,.yl C.l),(1,.ref 0 0)],[oC [.int .u64 N]]⟩:=by
 suffices H: ∀ i:Nat,i<=C.encs.length -> C.encs.drop i=r.map Bw -> A1 Tryz.prog GG Fence.wide none 1 (C.Y GG 1 i) (C.Q GG 1) [.code (AR Tryz.f93)] ⟨AF 25 [(0,.yl C.l),(1,.ref 0 0)],[oC [.int .u64 N]]⟩ from H 0 (zIG _) (by rw [zJ5];exact T)
 intro i hi b;have a:=wv C N n;unfold Mn at h
 generalize JX N n=self at h a
 unfold wq at h;have p:=H0;exact gg AC [0] p (en n (a _ _ h n Nat.le.refl i hi b))
def lu {N:Int}(h:Mn n N=some r)(H:DH):EQ 63 [.int .u64 N] H (.it H.length) (H++[some (.iter (r.map Bw))]) true:=by
 refine ES.iterN (c:=L1 [.ref 0 0]) (h0:=[oC [.int .u64 N]]) (fn:=Tryz.f93) (zL4 (n:=0) N (r:=()) rfl) (by kernel_rfl) Tryz.func93 (by kernel_rfl) (by kernel_rfl) (by kernel_rfl) (λC T=>?_) H;have e:DV.yl C.l::(List.range 1).map (L1 [.ref 0 0])++List.replicate (Tryz.f93.ntmps-(1+1)) .any=AF 25 [(0,.yl C.l),(1,.ref 0 0)]:=by kernel_rfl
 rw [e];exact zL8 N h C T
inductive NB where
 | s0 (Kw:Int)
def oc:NB -> DH
 | .s0 T=>[oC [.i T],none]
def Ub (n:Nat)(e5:Int)(T:Int):Option NB:= if AG (T+1) then some (.s0 (T+1)) else none
def zz (n:Nat)(p:Int):NB -> Option NB
 | .s0 T=>Ub n p T
def YR (n:Nat)(p:Int)(s:NB):Option NB:=zz n p s
def zy (n:Nat)(l B:Nat)(N:Yd 2)(a:Int)(s:NB)(r:NB)(h:YR n a s=some r):TA l B N (C1 2 [] 0 (oc r)) Tryz.f39 5 ⟨AF 10 [(2,.ref 0 0),(5,.it 1),(6,.i a)],oc s⟩:=by
 cases s with
 | s0 T=>
  replace h:Ub n a T=some r:=h;unfold Ub at h;refine ag AC [0,1] H0 (AF 10 [(2,.ref 0 0)]) [oC [.i T],none] λN=>?_
  revert r;apply gO;exact gw 8 (jt (lF λp=>rr AC [0,1] rfl p))
def YQ (n:Nat)(N:Int):Option Int:=
 (Mn n (IntKind.u64.wrap N)).bind λk=>
  (CO (YR n) k (.s0 0)).bind λG=>
   match G with
   | .s0 x=>
    some x
def Uc (n:Nat)(N:Int):Option Int:=YQ n N
def zw {a:Int}{r:Int}(h:Uc n a=some r):EQ 39 [.i a] [] (.i r) [] true:=by
 unfold Uc YQ at h;refine ot Tryz.func39 λB N=>?_
 revert r;apply gO
 exact cn λk s=>jc (lu s [oC [.i 0]]) (cn λG j=>λp r h=>by
  refine gs AC [0,1] p (HE (AR Tryz.f39) 5 []) (AF 10 [(2,.ref 0 0),(5,.it 1)]) [oC [.i 0],some (.iter ((k).map Bw))] ?_;refine r0 1 5 #[6] Bw 2 j (zy n) ?_;cases G with
  | s0 Es=>
   dsimp only at h
   revert r;apply gO;exact jt (lE AC [2] [0]))
end
section
set_option maxRecDepth 100000
set_option maxHeartbeats 40000000
def rN (n:Nat)(N E:Int):Option Int:= if 0<=E/\ E<=(IntKind.u64.bits:Int) then some (bits .and .u64 N (IntKind.u64.wrap (1*2 ^ (E).toNat))) else none
def Zq (n:Nat)(N E:Int):Option Int:=rN n N E
variable {E:Int}{n:Nat}
def zD7 {a:Int}{r:Int}(h:Zq n a E=some r):EQ 35 [.int .u64 a,.i E] [] (.int .u64 r) [] true:=by
 refine ot Tryz.func35 λB N=>?_
 revert r;apply gO;exact gi (lE AC [4] [])
def lH (n:Nat)(q:AA)(pos:Ξ)(cell W:Int):Option (Ξ×Int):= (GB n q pos).bind λk=> bif (k != 0) then some (([]:Ξ),k) else bif (decide (cell<0)) then some (([]:Ξ),1) else bif (decide (cell>=q.cells)) then some (([]:Ξ),1) else bif (decide (W<0)) then some (([]:Ξ),1) else bif (decide (W>=q.symbols)) then some (([]:Ξ),1) else if ((True)/\ (0=0/\ 0=([]:Ξ).length)/\ ([]:Ξ).length+pos.length<=Ay)/\ (0<=cell/\ cell<((([]:Ξ).length+pos.length:Nat):Int))/\ 0+cell.toNat<(([]:Ξ)++pos).length then (Zq n (IntKind.u64.wrap ((([]:Ξ)++pos).getD (0+cell.toNat) 0)) W).bind λG=> if ([]:Ξ).length+pos.length=((([]:Ξ)++pos).set (0+cell.toNat) (IntKind.i64.wrap G)).length then (SI n ((([]:Ξ)++pos).set (0+cell.toNat) (IntKind.i64.wrap G))).bind λy3=> some (y3,0) else none else none
def cU (n:Nat)(q:AA)(pos:Ξ)(cell W:Int):Option (Ξ×Int):=lH n q pos cell W
variable {r:Ξ×Int}{cell:Int}{pos:Ξ}{q:AA}
def zLE {W:Int}(h:cU n q pos cell W=some r):EQ 34 [.agg 5 (L1 (AH q)),.ints pos,.i cell,.i W,.fn 35 0 (L1 [])] [] (.tup 2 (L1 [.ints r.1,.i r.2])) [] true:=by
 unfold cU lH at h;refine ot Tryz.func34 λB N=>?_
 revert r;apply gO
 exact cf L5 [oC (AH q)] λk=>bi 18 (lF λp=>el AC [10,11] [] p [] H0 [.nils,.i k] (AN.tupL (l:=[.nils,.i k]) (l':=[.ints ([]:Ξ),.i k]) rfl ⟨AN.ints_nil,Aw,trivial⟩)) (bi 21 (lF λp=>el AC [10,11] [] p [] H0 [.nils,.i 1] (AN.tupL (l:=[.nils,.i 1]) (l':=[.ints ([]:Ξ),.i 1]) rfl ⟨AN.ints_nil,Aw,trivial⟩)) (bi 26 (lF λp=>el AC [10,11] [] p [] H0 [.nils,.i 1] (AN.tupL (l:=[.nils,.i 1]) (l':=[.ints ([]:Ξ),.i 1]) rfl ⟨AN.ints_nil,Aw,trivial⟩)) (bi 30 (lF λp=>el AC [10,11] [] p [] H0 [.nils,.i 1] (AN.tupL (l:=[.nils,.i 1]) (l':=[.ints ([]:Ξ),.i 1]) rfl ⟨AN.ints_nil,Aw,trivial⟩)) (bi 36 (lF λp=>el AC [10,11] [] p [] H0 [.nils,.i 1] (AN.tupL (l:=[.nils,.i 1]) (l':=[.ints ([]:Ξ),.i 1]) rfl ⟨AN.ints_nil,Aw,trivial⟩)) (gc (gi (gc (gn λo=>jg o (gn λs=>jg s (cf zD7 [oC (AH q),none,oI (([]:Ξ)++pos)] λG=>jg o (jg s (gn λO=>λp r h=>by
  refine gz (Ab 8 AC) [2] p [0] (H0.g O) (EP (AR Tryz.f34) 8 []) (AF 55 [(13,.ints ((([]:Ξ)++pos).set (0+cell.toNat) (IntKind.i64.wrap G)))]) [none] ?_;revert r;apply gO;exact cf zEL [none] λ_=>lE AC [10,11] []))))))))))))
def kS (n:Nat)(q:AA)(pos:Ξ)(cell E:Int):Option (Ξ×Int):= (cU n q pos cell E).bind λk=> some (k.1,k.2)
def QZ (n:Nat)(q:AA)(pos:Ξ)(cell E:Int):Option (Ξ×Int):=kS n q pos cell E
def uk (h:QZ n q pos cell E=some r):EQ 22 [.agg 5 (L1 (AH q)),.ints pos,.i cell,.i E] [] (.tup 2 (L1 [.ints r.1,.i r.2])) [] true:=by
 unfold QZ kS at h;refine ot Tryz.func22 λB N=>?_
 revert r;apply gO;exact cf zLE [oC (AH q)] λ_=>lE AC [8,9] []
def zG7 (y:Nat)(k o1:Ξ):DH:=[oC [.msl 4 1 0 y],oC [.bool false],oC [.i 0],some (.iter ((k).map Bw)),oI o1]
def zG6 (f:Nat)(p:Int)(k:Ξ):DH:=[oC [.msl 4 1 0 f],oC [.bool false],oC [.i p],none,oI k]
def zG5 (g:Nat)(q:Int)(l:Ξ):DH:=[oC [.msl 4 1 0 g],oC [.bool false],oC [.i q],none,oI l]
inductive Lt where
 | s0 (Jv:Nat) (DS:Int) (Hr:Ξ)
 | s1 (DR:Int)
def oQ (pos:Ξ)(x10:Int):Lt -> DH
 | .s0 g q l=>[oC [.msl 4 1 0 g],oC [.bool false],oC [.i q],none,oI l]
 | .s1 p=>[oC [.nils],oC [.bool false],oC [.i p],none]
def O3 (n:Nat)(pos:Ξ)(x10 Y:Int)(g:Nat)(q:Int)(l:Ξ):Option (Lt×Nat):= if AG (q+1) then bif (decide ((q+1)>1)) then some (.s1 (q+1),1) else bif (decide (Y>=16)) then some (.s1 (q+1),1) else if (0=0/\ 1=([Y]:Ξ).length)/\ (0=0/\ g=l.length)/\ l.length+([Y]:Ξ).length<=Ay then some (.s0 (l.length+([Y]:Ξ).length) (q+1) (l++([Y]:Ξ)),0) else none else none
def dw (n:Nat)(pos:Ξ)(x10 Y:Int)(p:Int):Option (Lt×Nat):= if AG (p+1) then bif (decide ((p+1)>1)) then some (.s1 (p+1),1) else bif (decide (Y>=16)) then some (.s1 (p+1),1) else if (0=0/\ 1=([Y]:Ξ).length)/\ 0<([Y]:Ξ).length/\ ([Y]:Ξ).length<=Ay then some (.s0 (([Y]:Ξ).length) (p+1) ([Y]:Ξ),0) else none else none
def zT (n:Nat)(pos:Ξ)(x10 Y:Int):Lt -> Option (Lt×Nat)
 | .s0 g q l=>O3 n pos x10 Y g q l
 | .s1 p=>dw n pos x10 Y p
def UV (n:Nat)(pos:Ξ)(x10 Y:Int)(s:Lt):Option (Lt×Nat):=zT n pos x10 Y s
def zS (n:Nat)(pos:Ξ)(x10:Int)(l B:Nat)(N:Yd 4)(Y:Int)(s:Lt)(r:Lt×Nat)(h:UV n pos x10 Y s=some r):TA l B N (C1 4 [.ret] r.2 (oQ pos x10 r.1)) Tryz.f54 16 ⟨AF 34 [(2,.ref 0 0),(3,.ref 1 0),(6,.ref 2 0),(8,.ints pos),(9,.i (pos.length:Int)),(10,.i x10),(16,.it 3),(17,.i Y)],oQ pos x10 s⟩:=by
 cases s with
 | s0 g q a=>
  replace h:O3 n pos x10 Y g q a=some r:=h;unfold O3 at h;refine ag AC [0,1,2,3,4] H0 (AF 34 [(2,.ref 0 0),(3,.ref 1 0),(6,.ref 2 0),(7,.i Y)]) (zG5 g q a) λN=>?_
  revert r;apply gO;exact gw 19 (jt (bi 21 (jt (jt (lF λp=>rr AC [0,1,2,3] rfl p))) (bi 24 (jt (jt (lF λp=>rr AC [0,1,2,3] rfl p))) (gi (jt (lF λp=>rr AC [0,1,2,3,6] rfl p))))))
 | s1 b=>
  replace h:dw n pos x10 Y b=some r:=h;unfold dw at h;refine ag AC [0,1,2,3] H0 (AF 34 [(2,.ref 0 0),(3,.ref 1 0),(6,.ref 2 0),(7,.i Y)]) [oC [.nils],oC [.bool false],oC [.i b],none] λN=>?_
  revert r;apply gO;exact gw 19 (jt (bi 21 (jt (jt (lF λp=>rr AC [0,1,2,3] rfl p))) (bi 24 (jt (jt (lF λp=>rr AC [0,1,2,3] rfl p))) (gi (jt (lF λp=>rr AC [0,1,2,3,5] rfl p))))))
inductive Lu where
 | s0 (DS:Int)
 | s1 (Ju:Nat) (DR:Int) (Hq:Ξ)
def oP (pos:Ξ)(x10:Int):Lu -> DH
 | .s0 q=>[oC [.nils],oC [.bool false],oC [.i q],none]
 | .s1 f p k=>[oC [.msl 4 1 0 f],oC [.bool false],oC [.i p],none,oI k]
def UU (n:Nat)(pos:Ξ)(x10 Y:Int)(q:Int):Option (Lu×Nat):= if AG (q+1) then bif (decide ((q+1)>1)) then some (.s0 (q+1),1) else bif (decide (Y>=16)) then some (.s0 (q+1),1) else if (0=0/\ 1=([Y]:Ξ).length)/\ 0<([Y]:Ξ).length/\ ([Y]:Ξ).length<=Ay then some (.s1 (([Y]:Ξ).length) (q+1) ([Y]:Ξ),0) else none else none
def UT (n:Nat)(pos:Ξ)(x10 Y:Int)(f:Nat)(p:Int)(k:Ξ):Option (Lu×Nat):= if AG (p+1) then bif (decide ((p+1)>1)) then some (.s0 (p+1),1) else bif (decide (Y>=16)) then some (.s0 (p+1),1) else if (0=0/\ 1=([Y]:Ξ).length)/\ (0=0/\ f=k.length)/\ k.length+([Y]:Ξ).length<=Ay then some (.s1 (k.length+([Y]:Ξ).length) (p+1) (k++([Y]:Ξ)),0) else none else none
def zR (n:Nat)(pos:Ξ)(x10 Y:Int):Lu -> Option (Lu×Nat)
 | .s0 q=>UU n pos x10 Y q
 | .s1 f p k=>UT n pos x10 Y f p k
def UW (n:Nat)(pos:Ξ)(x10 Y:Int)(s:Lu):Option (Lu×Nat):=zR n pos x10 Y s
def zQ (n:Nat)(pos:Ξ)(x10:Int)(l B:Nat)(N:Yd 4)(Y:Int)(s:Lu)(r:Lu×Nat)(h:UW n pos x10 Y s=some r):TA l B N (C1 4 [.ret] r.2 (oP pos x10 r.1)) Tryz.f54 16 ⟨AF 34 [(2,.ref 0 0),(3,.ref 1 0),(6,.ref 2 0),(8,.ints pos),(9,.i (pos.length:Int)),(10,.i x10),(16,.it 3),(17,.i Y)],oP pos x10 s⟩:=by
 cases s with
 | s0 q=>
  replace h:UU n pos x10 Y q=some r:=h;unfold UU at h;refine ag AC [0,1,2,3] H0 (AF 34 [(2,.ref 0 0),(3,.ref 1 0),(6,.ref 2 0),(7,.i Y)]) [oC [.nils],oC [.bool false],oC [.i q],none] λN=>?_
  revert r;apply gO;exact gw 19 (jt (bi 21 (jt (jt (lF λp=>rr AC [0,1,2,3] rfl p))) (bi 24 (jt (jt (lF λp=>rr AC [0,1,2,3] rfl p))) (gi (jt (lF λp=>rr AC [0,1,2,3,5] rfl p))))))
 | s1 f a k=>
  replace h:UT n pos x10 Y f a k=some r:=h;unfold UT at h;refine ag AC [0,1,2,3,4] H0 (AF 34 [(2,.ref 0 0),(3,.ref 1 0),(6,.ref 2 0),(7,.i Y)]) (zG6 f a k) λN=>?_
  revert r;apply gO;exact gw 19 (jt (bi 21 (jt (jt (lF λp=>rr AC [0,1,2,3] rfl p))) (bi 24 (jt (jt (lF λp=>rr AC [0,1,2,3] rfl p))) (gi (jt (lF λp=>rr AC [0,1,2,3,6] rfl p))))))
inductive UX where
 | l1 (x10:Int)
 | l2 (x10:Int) (Cg:Nat) (o1:Ξ)
def O1 (n:Nat)(self:UX -> Option (Ξ×Bool))(pos:Ξ)(x10:Int):Option (Ξ×Bool):=
 bif (decide (x10<(pos.length:Int))) then
  if 0<=x10/\ x10<(pos.length:Int) then
   (Mn n (IntKind.u64.wrap (pos.getD x10.toNat 0))).bind λk=>
    (Cj (UW n pos x10) k (.s0 0)).bind λG=>
     bif G.2==0 then
      match G.1 with
      | .s0 x=>
       bif (x==0) then
        some (([]:Ξ),false)
       else
        if AG (x10+1) then
         self (.l1 (x10+1))
        else none
      | .s1 h a P=>
       bif (a==0) then
        some (([]:Ξ),false)
       else
        if AG (x10+1) then
         self (.l2 (x10+1) h P)
        else none
     else
      bif G.2==1 then
       match G.1 with
       | .s0 x=>
        some (([]:Ξ),false)
       | .s1 h a P=>
        if h=P.length then
         some (P,false)
        else none
      else
       none
  else none
 else
  some (([]:Ξ),true)
def RT (n:Nat)(self:UX -> Option (Ξ×Bool))(pos:Ξ)(x10:Int)(y:Nat)(o1:Ξ):Option (Ξ×Bool):=
 bif (decide (x10<(pos.length:Int))) then
  if 0<=x10/\ x10<(pos.length:Int) then
   (Mn n (IntKind.u64.wrap (pos.getD x10.toNat 0))).bind λk=>
    (Cj (UV n pos x10) k (.s0 y 0 o1)).bind λG=>
     bif G.2==0 then
      match G.1 with
      | .s0 x a Q=>
       bif (a==0) then
        some (([]:Ξ),false)
       else
        if AG (x10+1) then
         self (.l2 (x10+1) x Q)
        else none
      | .s1 h=>
       bif (h==0) then
        some (([]:Ξ),false)
       else
        if AG (x10+1) then
         self (.l1 (x10+1))
        else none
     else
      bif G.2==1 then
       match G.1 with
       | .s0 x a Q=>
        if x=Q.length then
         some (Q,false)
        else none
       | .s1 h=>
        some (([]:Ξ),false)
      else
       none
  else none
 else
  if y=o1.length then
   some (o1,true)
  else none
def zP (n:Nat)(self:UX -> Option (Ξ×Bool))(pos:Ξ):Option (Ξ×Bool):= self (.l1 0)
def HM (pos:Ξ):Nat -> UX -> Option (Ξ×Bool)
 | 0,_=>none
 | n+1,.l1 x10=>O1 n (HM pos n) pos x10
 | n+1,.l2 x10 y o1=>RT n (HM pos n) pos x10 y o1
def YH (n:Nat)(pos:Ξ):Option (Ξ×Bool):=zP n (HM pos n) pos
def zU (n B:Nat)(N:Yd 0)(pos:Ξ)(r:Ξ×Bool):UX -> Prop
 | .l1 x10=>∀ f:Nat,n<=f -> TW B N (FQ Tryz.f54 0 (.tup 2 (L1 [.ints r.1,.bool r.2])) []) (Ah f (An (AR Tryz.f54) 0 [])) ⟨AF 34 [(2,.ref 0 0),(3,.ref 1 0),(8,.ints pos),(9,.i (pos.length:Int)),(10,.i x10)],[oC [.nils],oC [.bool false]]⟩
 | .l2 x10 y o1=>∀ f:Nat,n<=f -> TW B N (FQ Tryz.f54 0 (.tup 2 (L1 [.ints r.1,.bool r.2])) []) (Ah f (An (AR Tryz.f54) 0 [])) ⟨AF 34 [(2,.ref 0 0),(3,.ref 2 0),(8,.ints pos),(9,.i (pos.length:Int)),(10,.i x10)],[oC [.msl 1 1 0 y],oI o1,oC [.bool false]]⟩
def zV (B:Nat)(N:Yd 0)(pos:Ξ):Al (HM pos) (zU · B N pos):=ia (λ_=>rfl) λn C c r h=>by
 cases c
 case l1 x10=>
  intro f a;refine rd a λf a=>?_
  revert r;apply gO
  exact bi 11 (gi (jt (cn λk s=>jc (lu s [oC [.nils],oC [.bool false],oC [.i 0]]) (cn λG j=>λp r h=>by
   refine gs AC [0,1,2,3] p (HE (AR Tryz.f54) 16 [f]) (AF 34 [(2,.ref 0 0),(3,.ref 1 0),(6,.ref 2 0),(8,.ints pos),(9,.i (pos.length:Int)),(10,.i x10),(16,.it 3)]) [oC [.nils],oC [.bool false],oC [.i 0],some (.iter ((k).map Bw))] ?_;refine rx [.ret] 3 16 #[17] Bw 4 j (zQ n pos x10) λe J=>?_
   replace h:=DQ h;rcases h with ⟨y,h⟩ | ⟨y,h⟩
   ·rw [zI4 y] at J;cases J;revert h;cases G.1 with
    | s0 x=>
     intro h
     dsimp only at h
     revert r;apply gO;exact bi 31 (jt (jt (lF λp=>el AC [2,3] [0,1] p [] H0 [.nils,.bool false] (AN.tupL (l:=[.nils,.bool false]) (l':=[.ints ([]:Ξ),.bool false]) rfl ⟨AN.ints_nil,Aw,trivial⟩)))) (gw 32 (lG AC [0,1] (C _ _ · f a)))
    | s1 b d P=>
     intro h
     dsimp only at h
     revert r;apply gO;exact bi 31 (jt (jt (lF λp=>el AC [2,3] [0,1] p [] H0 [.nils,.bool false] (AN.tupL (l:=[.nils,.bool false]) (l':=[.ints ([]:Ξ),.bool false]) rfl ⟨AN.ints_nil,Aw,trivial⟩)))) (gw 32 (lG AC [0,4,1] (C _ _ · f a)))
   ·replace h:=DQ h;rcases h with ⟨y,h⟩ | ⟨y,h⟩
    ·rw [zI4 y] at J;cases J;refine NO ⟨rfl,?_⟩ _;revert h;cases G.1 with
     | s0 x=>
      intro h
      dsimp only at h
      revert r;apply gT;exact lF λ_=>Cy.el (.inr rfl) [] H0 [.nils,.bool false] (AN.tupL (l:=[.nils,.bool false]) (l':=[.ints ([]:Ξ),.bool false]) rfl ⟨AN.ints_nil,Aw,trivial⟩) (by kernel_rfl)
     | s1 b d P=>
      intro h
      dsimp only at h
      revert r;apply gT;exact gn λo=>lF λ_=>Cy.e (.inr rfl) [4] (H0.g o) (by kernel_rfl)
    ·cases h)))) (jt (jt (lF λp=>el AC [2,3] [0,1] p [] H0 [.nils,.bool true] (AN.tupL (l:=[.nils,.bool true]) (l':=[.ints ([]:Ξ),.bool true]) rfl ⟨AN.ints_nil,Aw,trivial⟩))))
 case l2 x10 Cg o1=>
  intro f a;refine rd a λf a=>?_
  revert r;apply gO
  exact bi 11 (gi (jt (cn λk s=>jc (lu s [oC [.msl 1 1 0 Cg],oI o1,oC [.bool false],oC [.i 0]]) (cn λG j=>λp r h=>by
   refine gs AC [0,2,3,4,1] p (HE (AR Tryz.f54) 16 [f]) (AF 34 [(2,.ref 0 0),(3,.ref 1 0),(6,.ref 2 0),(8,.ints pos),(9,.i (pos.length:Int)),(10,.i x10),(16,.it 3)]) (zG7 Cg k o1) ?_;refine rx [.ret] 3 16 #[17] Bw 4 j (zS n pos x10) λe J=>?_
   replace h:=DQ h;rcases h with ⟨y,h⟩ | ⟨y,h⟩
   ·rw [zI4 y] at J;cases J;revert h;cases G.1 with
    | s0 x m Q=>
     intro h
     dsimp only at h
     revert r;apply gO;exact bi 31 (jt (jt (lF λp=>el AC [2,3] [0,1] p [] H0 [.nils,.bool false] (AN.tupL (l:=[.nils,.bool false]) (l':=[.ints ([]:Ξ),.bool false]) rfl ⟨AN.ints_nil,Aw,trivial⟩)))) (gw 32 (lG AC [0,4,1] (C _ _ · f a)))
    | s1 b=>
     intro h
     dsimp only at h
     revert r;apply gO;exact bi 31 (jt (jt (lF λp=>el AC [2,3] [0,1] p [] H0 [.nils,.bool false] (AN.tupL (l:=[.nils,.bool false]) (l':=[.ints ([]:Ξ),.bool false]) rfl ⟨AN.ints_nil,Aw,trivial⟩)))) (gw 32 (lG AC [0,1] (C _ _ · f a)))
   ·replace h:=DQ h;rcases h with ⟨y,h⟩ | ⟨y,h⟩
    ·rw [zI4 y] at J;cases J;refine NO ⟨rfl,?_⟩ _;revert h;cases G.1 with
     | s0 x m Q=>
      intro h
      dsimp only at h
      revert r;apply gT;exact gn λo=>lF λ_=>Cy.e (.inr rfl) [4] (H0.g o) (by kernel_rfl)
     | s1 b=>
      intro h
      dsimp only at h
      revert r;apply gT;exact lF λ_=>Cy.el (.inr rfl) [] H0 [.nils,.bool false] (AN.tupL (l:=[.nils,.bool false]) (l':=[.ints ([]:Ξ),.bool false]) rfl ⟨AN.ints_nil,Aw,trivial⟩) (by kernel_rfl)
    ·cases h)))) (jt (jt (gn λq=>lF λp=>ez AC [2,3] [0,1,2] p [1] (H0.g q))))
def zO {r:Ξ×Bool}(h:YH n pos=some r):EQ 54 [.ints pos] [] (.tup 2 (L1 [.ints r.1,.bool r.2])) [] true:=by
 refine ot Tryz.func54 λB N=>?_
 revert r;apply gO;exact lN AC [0,1] ((zV B N pos n) _ _ · n Nat.le.refl)
end
section
set_option maxRecDepth 100000
set_option maxHeartbeats 40000000
inductive RE where
 | l1 (Ac:Int)
 | l2 (x4:Nat) (Ac:Int) (o1:Ξ)
def UE (n:Nat)(self:RE -> Option (Ξ))(q:AA)(level:Int)(O:Int):Option (Ξ):= bif (decide (O<(q.cons.length:Int))) then (Pf n q O).bind λk=> bif (k.2==0) then bif (decide (k.1<=level)) then if ((0=0/\ 1=([O]:Ξ).length)/\ 0<([O]:Ξ).length/\ ([O]:Ξ).length<=Ay)/\ AG (O+1) then self (.l2 (([O]:Ξ).length) (O+1) ([O]:Ξ)) else none else if AG (O+1) then self (.l1 (O+1)) else none else if AG (O+1) then self (.l1 (O+1)) else none else some ([]:Ξ)
def Xv (n:Nat)(self:RE -> Option (Ξ))(q:AA)(level:Int)(K:Nat)(O:Int)(o1:Ξ):Option (Ξ):= bif (decide (O<(q.cons.length:Int))) then (Pf n q O).bind λk=> bif (k.2==0) then bif (decide (k.1<=level)) then if ((0=0/\ 1=([O]:Ξ).length)/\ (0=0/\ K=o1.length)/\ o1.length+([O]:Ξ).length<=Ay)/\ AG (O+1) then self (.l2 (o1.length+([O]:Ξ).length) (O+1) (o1++([O]:Ξ))) else none else if AG (O+1) then self (.l2 K (O+1) o1) else none else if AG (O+1) then self (.l2 K (O+1) o1) else none else if K=o1.length then some o1 else none
def yD (n:Nat)(self:RE -> Option (Ξ))(q:AA)(level:Int):Option (Ξ):= self (.l1 0)
def In (q:AA)(level:Int):Nat -> RE -> Option (Ξ)
 | 0,_=>none
 | n+1,.l1 O=>UE n (In q level n) q level O
 | n+1,.l2 K O o1=>Xv n (In q level n) q level K O o1
def UF (n:Nat)(q:AA)(level:Int):Option (Ξ):=yD n (In q level n) q level
def yE (n B:Nat)(N:Yd 0)(q:AA)(level:Int)(r:Ξ):RE -> Prop
 | .l1 O=>∀ f:Nat,n<=f -> TW B N (FQ Tryz.f81 0 (.ints r) []) (Ah f (An (AR Tryz.f81) 0 [])) ⟨AF 33 [(1,.i level),(2,.ref 0 0),(4,.nils),(10,.i (q.cons.length:Int)),(11,.i O)],[oC (AH q)]⟩
 | .l2 K O o1=>∀ f:Nat,n<=f -> TW B N (FQ Tryz.f81 0 (.ints r) []) (Ah f (An (AR Tryz.f81) 0 [])) ⟨AF 33 [(1,.i level),(2,.ref 0 0),(4,.msl 1 1 0 K),(10,.i (q.cons.length:Int)),(11,.i O)],[oC (AH q),oI o1]⟩
def yF (B:Nat)(N:Yd 0)(q:AA)(level:Int):Al (In q level) (yE · B N q level):=ia (λ_=>rfl) λn C b r h=>by
 cases b
 case l1 Ac=>
  intro f a;refine rd a λf a=>?_
  revert r;apply gO;exact bi 12 (cf gq [oC (AH q)] λ_=>bi 21 (bi 25 (gc (gi (gw 31 (lG AC [0,2] (C _ _ · f a))))) (gw 31 (lG AC [0] (C _ _ · f a)))) (gw 31 (lG AC [0] (C _ _ · f a)))) (lF λp=>el AC [4] [] p [] H0 [.nils] AN.ints_nil)
 case l2 x4 Ac o1=>
  intro f a;refine rd a λf a=>?_
  revert r;apply gO;exact bi 12 (cf gq [oC (AH q),oI o1] λ_=>bi 21 (bi 25 (gc (gi (gw 31 (lG AC [0,3] (C _ _ · f a))))) (gw 31 (lG AC [0,1] (C _ _ · f a)))) (gw 31 (lG AC [0,1] (C _ _ · f a)))) (gn λc=>lF λp=>ez AC [4] [1] p [0] (H0.g c))
variable {level:Int}{q:AA}{n:Nat}
def mr {r:Ξ}(h:UF n q level=some r):EQ 81 [.agg 5 (L1 (AH q)),.i level] [] (.ints r) [] true:=by
 refine ot Tryz.func81 λB N=>?_
 revert r;apply gO;exact lN AC [0] ((yF B N q level n) _ _ · n Nat.le.refl)
inductive To where
 | l1 (x8:Int)
 | l2 (x8:Int) (o0:Ω) (Cz:Nat) (o2:Ξ)
def ly (n:Nat)(self:To -> Option (Ω×Nat×Nat×Ξ×Bool))(l:Ξ)(a:Ω)(x8:Int):Option (Ω×Nat×Nat×Ξ×Bool):= bif (decide (x8<(l.length:Int))) then if (0<=x8/\ x8<(l.length:Int))/\ (0<=(l.getD x8.toNat 0)/\ (l.getD x8.toNat 0)<((4096:Nat):Int))/\ 0+((l.getD x8.toNat 0).toNat)<a.length then bif (!(a.getD (0+((l.getD x8.toNat 0).toNat)) false)) then if ((0=0/\ 1=([l.getD x8.toNat 0]:Ξ).length)/\ 0<([l.getD x8.toNat 0]:Ξ).length/\ ([l.getD x8.toNat 0]:Ξ).length<=Ay)/\ AG (x8+1) then self (.l2 (x8+1) (a.set (0+((l.getD x8.toNat 0).toNat)) true) (([l.getD x8.toNat 0]:Ξ).length) ([l.getD x8.toNat 0]:Ξ)) else none else if AG (x8+1) then self (.l1 (x8+1)) else none else none else some (a,0,0,([]:Ξ),true)
def Xc (n:Nat)(self:To -> Option (Ω×Nat×Nat×Ξ×Bool))(l:Ξ)(ws:Ω)(x8:Int)(o0:Ω)(N:Nat)(F:Ξ):Option (Ω×Nat×Nat×Ξ×Bool):= bif (decide (x8<(l.length:Int))) then if (0<=x8/\ x8<(l.length:Int))/\ (0<=(l.getD x8.toNat 0)/\ (l.getD x8.toNat 0)<((4096:Nat):Int))/\ 0+((l.getD x8.toNat 0).toNat)<o0.length then bif (!(o0.getD (0+((l.getD x8.toNat 0).toNat)) false)) then if 0+N=F.length/\ N+([l.getD x8.toNat 0]:Ξ).length<=Ay/\ AG (x8+1) then self (.l2 (x8+1) (o0.set (0+((l.getD x8.toNat 0).toNat)) true) (N+([l.getD x8.toNat 0]:Ξ).length) (F++([l.getD x8.toNat 0]:Ξ))) else none else if AG (x8+1) then self (.l2 (x8+1) o0 N F) else none else none else some (o0,0,N,F,false)
def zMD (n:Nat)(self:To -> Option (Ω×Nat×Nat×Ξ×Bool))(l:Ξ)(ws:Ω):Option (Ω×Nat×Nat×Ξ×Bool):= self (.l1 0)
def Ja (l:Ξ)(a:Ω):Nat -> To -> Option (Ω×Nat×Nat×Ξ×Bool)
 | 0,_=>none
 | n+1,.l1 x8=>ly n (Ja l a n) l a x8
 | n+1,.l2 x8 o0 N F=>Xc n (Ja l a n) l a x8 o0 N F
def OZ (n:Nat)(l:Ξ)(a:Ω):Option (Ω×Nat×Nat×Ξ×Bool):=zMD n (Ja l a n) l a
def zME (n B:Nat)(N:Yd 2)(l:Ξ)(a:Ω)(r:Ω×Nat×Nat×Ξ×Bool):To -> Prop
 | .l1 x8=>∀ f:Nat,n<=f -> TW B N (FQ Tryz.f116 2 (.tup 0 (λj=>([]:List DV).getD j .any)) (bif r.2.2.2.2 then [some (.bools r.1),oC [.nils]] else [some (.bools r.1),oC [.mse 2 1 r.2.1 r.2.2.1],oI r.2.2.2.1])) (Ah f (An (AR Tryz.f116) 0 [])) ⟨AF 23 [(1,.mp 0 1 0 0),(2,.ref 1 0),(6,.ints l),(7,.i (l.length:Int)),(8,.i x8)],[some (.bools a),oC [.nils]]⟩
 | .l2 x8 o0 b F=>∀ f:Nat,n<=f -> TW B N (FQ Tryz.f116 2 (.tup 0 (λj=>([]:List DV).getD j .any)) (bif r.2.2.2.2 then [some (.bools r.1),oC [.nils]] else [some (.bools r.1),oC [.mse 2 1 r.2.1 r.2.2.1],oI r.2.2.2.1])) (Ah f (An (AR Tryz.f116) 0 [])) ⟨AF 23 [(1,.mp 0 1 0 0),(2,.ref 1 0),(6,.ints l),(7,.i (l.length:Int)),(8,.i x8)],[some (.bools o0),oC [.mse 2 1 0 b],oI F]⟩
def zMF (B:Nat)(N:Yd 2)(l:Ξ)(c:Ω):Al (Ja l c) (zME · B N l c):=ia (λ_=>rfl) λn C d r h=>by
 cases d
 case l1 x8=>
  intro f a;refine rd a λf a=>?_
  revert r;apply gO;exact bi 9 (gc (gi (gc (gn λb=>jg b (gn λs=>jg s (bi 15 (jg b (jg s (gc (gi (jo 21 (AN.msl_mse (k:=3) (m:=1) (o:=0) (n:=([l.getD x8.toNat 0]:Ξ).length)) (jt (gw 22 (lG AC [0,1,3] (C _ _ · f a))))))))) (gw 22 (lG AC [0,1] (C _ _ · f a))))))))) (lE AC [] [0,1])
 case l2 x8 o0 Cz o2=>
  intro f a;refine rd a λf a=>?_
  revert r;apply gO;exact bi 9 (gc (gi (gc (gn λb=>jg b (gn λs=>jg s (bi 15 (jg b (jg s (jg (And.intro (Eq.refl 0) (Eq.refl 1)) (jg (by decide:0<1) (gc (gi (gc (gi (jt (gw 22 (lG AC [0,1,4] (C _ _ · f a)))))))))))) (gw 22 (lG AC [0,1,2] (C _ _ · f a))))))))) (lE AC [] [0,1,2])
variable {r:Ω×Nat×Nat×Ξ×Bool}{a:Ω}{l:Ξ}
def xG (h:OZ n l a=some r):EQ 116 [.ints l,.mp 0 1 0 0,.ref 1 0] [some (.bools a),oC [.nils]] (.tup 0 (λj=>([]:List DV).getD j .any)) (bif r.2.2.2.2 then [some (.bools r.1),oC [.nils]] else [some (.bools r.1),oC [.mse 2 1 r.2.1 r.2.2.1],oI r.2.2.2.1]) false:=by
 refine ot Tryz.func116 (hni:=by cases r.2.2.2.2 <;> rfl) λB N=>?_
 revert r;apply gO;exact lN AC [0,1] ((zMF B N l a n) _ _ · n Nat.le.refl)
def xF (h:OZ n l a=some r)(c:r.2.2.2.2=true):EQ 116 [.ints l,.mp 0 1 0 0,.ref 1 0] [some (.bools a),oC [.nils]] (.tup 0 (λj=>([]:List DV).getD j .any)) [some (.bools r.1),oC [.nils]] false:=by
 have:=xG h;rw [c] at this;exact this
def xE (h:OZ n l a=some r)(c:r.2.2.2.2=false):EQ 116 [.ints l,.mp 0 1 0 0,.ref 1 0] [some (.bools a),oC [.nils]] (.tup 0 (λj=>([]:List DV).getD j .any)) [some (.bools r.1),oC [.mse 2 1 r.2.1 r.2.2.1],oI r.2.2.2.1] false:=by
 have:=xG h;rw [c] at this;exact this
inductive cx where
 | l1 (x8:Int) (o0:Ω) (K6 Cz:Nat) (o3:Ξ)
def Xd (n:Nat)(self:cx -> Option (Ω×Nat×Nat×Ξ))(l:Ξ)(ws:Ω)(o_ n_:Nat)(qu:Ξ)(x8:Int)(o0:Ω)(U N:Nat)(t:Ξ):Option (Ω×Nat×Nat×Ξ):= bif (decide (x8<(l.length:Int))) then if (0<=x8/\ x8<(l.length:Int))/\ (0<=(l.getD x8.toNat 0)/\ (l.getD x8.toNat 0)<((4096:Nat):Int))/\ 0+((l.getD x8.toNat 0).toNat)<o0.length then bif (!(o0.getD (0+((l.getD x8.toNat 0).toNat)) false)) then if U+N=t.length/\ N+([l.getD x8.toNat 0]:Ξ).length<=Ay/\ AG (x8+1) then self (.l1 (x8+1) (o0.set (0+((l.getD x8.toNat 0).toNat)) true) 0 (N+([l.getD x8.toNat 0]:Ξ).length) ((t.drop U)++([l.getD x8.toNat 0]:Ξ))) else none else if AG (x8+1) then self (.l1 (x8+1) o0 U N t) else none else none else some (o0,U,N,t)
def zMG (n:Nat)(self:cx -> Option (Ω×Nat×Nat×Ξ))(l:Ξ)(a:Ω)(b N:Nat)(t:Ξ):Option (Ω×Nat×Nat×Ξ):= self (.l1 0 a b N t)
def Qt (l:Ξ)(a:Ω)(b N:Nat)(t:Ξ):Nat -> cx -> Option (Ω×Nat×Nat×Ξ)
 | 0,_=>none
 | n+1,.l1 x8 o0 U c d=>Xd n (Qt l a b N t n) l a b N t x8 o0 U c d
def Mo (n:Nat)(l:Ξ)(a:Ω)(b N:Nat)(t:Ξ):Option (Ω×Nat×Nat×Ξ):=zMG n (Qt l a b N t n) l a b N t
def zMI (n B:Nat)(N:Yd 3)(l:Ξ)(ws:Ω)(o_ n_:Nat)(qu:Ξ)(r:Ω×Nat×Nat×Ξ):cx -> Prop
 | .l1 x8 o0 U a t=>∀ f:Nat,n<=f -> TW B N (FQ Tryz.f116 3 (.tup 0 (λj=>([]:List DV).getD j .any)) [some (.bools r.1),oC [.mse 3 1 r.2.1 r.2.2.1],none,oI r.2.2.2]) (Ah f (An (AR Tryz.f116) 0 [])) ⟨AF 23 [(1,.mp 0 1 0 0),(2,.ref 1 0),(6,.ints l),(7,.i (l.length:Int)),(8,.i x8)],[some (.bools o0),oC [.mse 3 1 U a],none,oI t]⟩
def zMJ (B:Nat)(N:Yd 3)(l:Ξ)(b:Ω)(c d:Nat)(t:Ξ):Al (Qt l b c d t) (zMI · B N l b c d t):=ia (λ_=>rfl) λn C e r h=>by
 cases e
 case l1 x8 o0 K6 Cz o3=>
  intro f a;refine rd a λf a=>?_
  revert r;apply gO;exact bi 9 (gc (gi (gc (gn λo=>jg o (gn λs=>jg s (bi 15 (jg o (jg s (jg (And.intro (Eq.refl 0) (Eq.refl 1)) (jg (by decide:0<1) (gc (gi (gc (gi (jt (gw 22 (lG AC [0,1,2,5] (C _ _ · f a)))))))))))) (gw 22 (lG AC [0,1,2,3] (C _ _ · f a))))))))) (lE AC [] [0,1,2,3])
def lz {b c:Nat}{t:Ξ}{r:Ω×Nat×Nat×Ξ}(h:Mo n l a b c t=some r):EQ 116 [.ints l,.mp 0 1 0 0,.ref 1 0] [some (.bools a),oC [.mse 2 1 b c],oI t] (.tup 0 (λj=>([]:List DV).getD j .any)) [some (.bools r.1),oC [.mse 3 1 r.2.1 r.2.2.1],none,oI r.2.2.2] false:=by
 refine ot Tryz.func116 λB N=>?_
 refine Bi.le (A8.moveE 2 ⟨AF 23 [(0,.ints l),(1,.mp 0 1 0 0),(2,.ref 1 0)],[some (.bools a),oC [.mse 3 1 b c],none,oI t]⟩ (by kernel_rfl)) (by kernel_rfl) ?_;revert r;apply gO;exact lN AC [0,1,2,3] ((zMJ B N l a b c t n) _ _ · n Nat.le.refl)
def rG (n:Nat)(c:Int)(q:AA):Option Bool:= bif (decide (c<0)) then some true else some (decide (c>=q.cells))
def Zh (n:Nat)(c:Int)(q:AA):Option Bool:=rG n c q
def zDv {c:Int}{r:Bool}(h:Zh n c q=some r):EQ 100 [.i c,.fp 5 (L1 (AH q))] [] (.bool r) [] true:=by
 refine ot Tryz.func100 λB N=>?_
 revert r;apply gO;exact bi 5 (lE AC [3] []) (lE AC [3] [])
inductive aW where
 | l1 (x8:Int)
def SW (n:Nat)(self:aW -> Option Int)(l:Ξ)(q:AA)(x8:Int):Option Int:= bif (decide (x8<(l.length:Int))) then if 0<=x8/\ x8<(l.length:Int) then (Zh n (l.getD x8.toNat 0) q).bind λk=> bif k then some x8 else if AG (x8+1) then self (.l1 (x8+1)) else none else none else some (-1)
def zF2 (n:Nat)(self:aW -> Option Int)(l:Ξ)(q:AA):Option Int:= self (.l1 0)
def MK (l:Ξ)(q:AA):Nat -> aW -> Option Int
 | 0,_=>none
 | n+1,.l1 x8=>SW n (MK l q n) l q x8
def sj (n:Nat)(l:Ξ)(q:AA):Option Int:=zF2 n (MK l q n) l q
def zF3 (n B:Nat)(N:Yd 0)(l:Ξ)(q:AA)(r:Int):aW -> Prop
 | .l1 x8=>∀ f:Nat,n<=f -> TW B N (FQ Tryz.f85 0 (.i r) []) (Ah f (An (AR Tryz.f85) 0 [])) ⟨AF 19 [(0,.ints l),(1,.fn 100 1 (L1 [.fp 5 (L1 (AH q))])),(7,.i (l.length:Int)),(8,.i x8)],[]⟩
def zF4 (B:Nat)(N:Yd 0)(l:Ξ)(q:AA):Al (MK l q) (zF3 · B N l q):=ia (λ_=>rfl) λn C b r h=>by
 cases b
 case l1 x8=>
  intro f a;refine rd a λf a=>?_
  revert r;apply gO;exact bi 9 (gi (cf zDv [] λ_=>bi 16 (lE AC [4] []) (gw 18 (lG AC [] (C _ _ · f a))))) (lE AC [4] [])
def zF1 {r:Int}(h:sj n l q=some r):EQ 85 [.ints l,.fn 100 1 (L1 [.fp 5 (L1 (AH q))])] [] (.i r) [] true:=by
 refine ot Tryz.func85 λB N=>?_
 revert r;apply gO;exact lN AC [] ((zF4 B N l q n) _ _ · n Nat.le.refl)
def vV (n:Nat)(l:Ξ)(q:AA):Option Bool:= (sj n l q).bind λk=> some (decide (k>=0))
def cI (n:Nat)(l:Ξ)(q:AA):Option Bool:=vV n l q
def zKm {r:Bool}(h:cI n l q=some r):EQ 76 [.ints l,.fn 100 1 (L1 [.fp 5 (L1 (AH q))])] [] (.bool r) [] true:=by
 unfold cI vV at h;refine ot Tryz.func76 λB N=>?_
 revert r;apply gO;exact cf zF1 [] λ_=>lE AC [4] []
def zAu:Ax (BA Tryz.f101 32) [] (List.range 9) []:=by unfold Ax;kernel_rfl
def FG:Be:=λi=>match i with
 | 32=>.ord [] (List.range 9) []
 | _=>.no
def tJ (cells:Ξ)(q:AA)(F:Ω)(o1:Int -> Ξ)(s:Int):DH:=[oC (AH q),none,some (.bools F),oC [.nils],some (.mo (.rows o1 (some (cells.getD s.toNat 0,o1 (cells.getD s.toNat 0),false))))]
def zHe (cells:Ξ)(q:AA)(F:Ω)(e G:Nat)(o4:Ξ)(o1:Int -> Ξ)(s:Int):DH:=[oC (AH q),none,some (.bools F),oC [.mse 4 1 e G],oI o4,some (.mo (.rows o1 (some (cells.getD s.toNat 0,o1 (cells.getD s.toNat 0),false))))]
def tI (cells:Ξ)(q:AA)(o1:Int -> Ξ)(F:Ω)(e G:Nat)(o4:Ξ):DH:=[oC (AH q),some (.mo (.rows o1 none)),some (.bools F),oC [.mse 4 1 e G],oI o4]
def zHd (cells:Ξ)(q:AA)(o1:Int -> Ξ)(F:Ω)(o4:Ξ)(e G:Nat):DH:=[oC (AH q),some (.mo (.rows o1 none)),some (.bools (F.set (0+((o4.getD (e+0) 0).toNat)) false)),oC [.mse 4 1 (e+1) (G-1)],oI o4]
def zHc (cells:Ξ)(q:AA)(F:Ω)(e G:Nat)(o4:Ξ)(o1:Int -> Ξ)(P:Int):DH:=[oC (AH q),none,some (.bools F),oC [.mse 4 1 e G],oI o4,some (.mo (.rows o1 (some (P,o1 P,false))))]
inductive Jw where
 | l1 (x9 By:Ξ) (C3 Bm:Int) (o1:Int -> Ξ)
 | l2 (x9:Ξ) (A6:Int) (By:Ξ) (C3 Bm:Int) (Ij:Ξ) (De Av:Int) (o1:Int -> Ξ)
 | l3 (x9:Ξ) (Ce:Int) (o1:Int -> Ξ) (o2:Ω)
 | l4 (x9:Ξ) (Ce:Int) (o1:Int -> Ξ) (o2:Ω) (Bx Aa:Nat) (o4:Ξ)
 | l5 (o1:Int -> Ξ) (o2:Ω)
 | l6 (x1:Ξ) (o1:Int -> Ξ) (o2:Ω) (Bx Aa:Nat) (o4:Ξ)
 | l7 (x1 x21:Ξ) (Dx Eu:Int) (o1:Int -> Ξ) (o2:Ω) (Bx Aa:Nat) (o4:Ξ)
def VO (n:Nat)(self:Jw -> Option (Ξ))(q:AA)(pos cells:Ξ)(level:Int)(K f:Ξ)(Z O:Int)(o1:Int -> Ξ):Option (Ξ):= bif (decide (O<Z)) then if (0<=O/\ O<(f.length:Int))/\ (0<=(f.getD O.toNat 0)/\ (f.getD O.toNat 0)<(q.cons.length:Int)) then self (.l2 K (f.getD O.toNat 0) f Z O ((q.cons.getD ((f.getD O.toNat 0).toNat) default).cells) ((((q.cons.getD ((f.getD O.toNat 0).toNat) default).cells).length:Nat):Int) 0 o1) else none else self (.l3 K 0 o1 (List.replicate 4096 false))
def ZM (n:Nat)(self:Jw -> Option (Ξ))(q:AA)(pos cells:Ξ)(level:Int)(K:Ξ)(C:Int)(f:Ξ)(Z O:Int)(z:Ξ)(P a:Int)(o1:Int -> Ξ):Option (Ξ):= bif (decide (a<P)) then if (0<=a/\ a<(z.length:Int))/\ (o1 (z.getD a.toNat 0)).length+([C]:Ξ).length<=Ay/\ AG (a+1) then self (.l2 K C f Z O z P (a+1) (IE o1 (z.getD a.toNat 0) ((o1 (z.getD a.toNat 0))++([C]:Ξ)))) else none else if AG (O+1) then self (.l1 K f Z (O+1) o1) else none
def L4 (n:Nat)(self:Jw -> Option (Ξ))(q:AA)(pos cells:Ξ)(level:Int)(K:Ξ)(s:Int)(o1:Int -> Ξ)(F:Ω):Option (Ξ):= bif (decide (s<(cells.length:Int))) then if 0<=s/\ s<(cells.length:Int) then (OZ n (o1 (cells.getD s.toNat 0)) F).bind λk=> bif k.2.2.2.2 then if AG (s+1) then self (.l3 K (s+1) o1 k.1) else none else if AG (s+1) then self (.l4 K (s+1) o1 k.1 k.2.1 k.2.2.1 k.2.2.2.1) else none else none else (OZ n K F).bind λk=> bif k.2.2.2.2 then self (.l5 o1 k.1) else self (.l6 pos o1 k.1 k.2.1 k.2.2.1 k.2.2.2.1)
def VN (n:Nat)(self:Jw -> Option (Ξ))(q:AA)(pos cells:Ξ)(level:Int)(K:Ξ)(s:Int)(o1:Int -> Ξ)(F:Ω)(e G:Nat)(o4:Ξ):Option (Ξ):= bif (decide (s<(cells.length:Int))) then if 0<=s/\ s<(cells.length:Int) then (Mo n (o1 (cells.getD s.toNat 0)) F e G o4).bind λk=> if AG (s+1) then self (.l4 K (s+1) o1 k.1 k.2.1 k.2.2.1 k.2.2.2) else none else none else (Mo n K F e G o4).bind λk=> self (.l6 pos o1 k.1 k.2.1 k.2.2.1 k.2.2.2)
def zDL (n:Nat)(self:Jw -> Option (Ξ))(q:AA)(pos cells:Ξ)(level:Int)(o1:Int -> Ξ)(o2:Ω):Option (Ξ):= some pos
def VM (n:Nat)(self:Jw -> Option (Ξ))(q:AA)(pos cells:Ξ)(level:Int)(o:Ξ)(o1:Int -> Ξ)(F:Ω)(e G:Nat)(o4:Ξ):Option (Ξ):= bif (G==0) then some o else bif (decide ((G:Int)>0)) then (Gz n o).bind λk=> bif (!k) then if ((0:Int)<=0/\ 0<(G:Int))/\ e+0<o4.length/\ ((0:Int)<=1/\ (1:Int)<=(G:Int)/\ (G:Int)<=(G:Int))/\ (0<=(o4.getD (e+0) 0)/\ (o4.getD (e+0) 0)<((4096:Nat):Int))/\ 0+((o4.getD (e+0) 0).toNat)<F.length then (PG n q (o4.getD (e+0) 0) o).bind λa=> bif (a.2 != 0) then some o else self (.l7 o a.1 (a.1.length:Int) 0 o1 (F.set (0+((o4.getD (e+0) 0).toNat)) false) (e+1) (G-1) o4) else none else some o else some o
def VL (n:Nat)(self:Jw -> Option (Ξ))(q:AA)(pos cells:Ξ)(level:Int)(o x21:Ξ)(Z P:Int)(o1:Int -> Ξ)(F:Ω)(e G:Nat)(o4:Ξ):Option (Ξ):= bif (decide (P<Z)) then if (0<=P/\ P<(x21.length:Int))/\ (0<=P/\ P<(o.length:Int)) then bif ((x21.getD P.toNat 0) != (o.getD P.toNat 0)) then (Mo n (o1 P) F e G o4).bind λk=> if AG (P+1) then self (.l7 o x21 Z (P+1) o1 k.1 k.2.1 k.2.2.1 k.2.2.2) else none else if AG (P+1) then self (.l7 o x21 Z (P+1) o1 F e G o4) else none else none else self (.l6 x21 o1 F e G o4)
def VP (n:Nat)(self:Jw -> Option (Ξ))(q:AA)(pos cells:Ξ)(level:Int):Option (Ξ):= (Gz n pos).bind λk=> bif k then if ((pos.length:Int):Int)=(pos.length:Int)/\ 0<=(pos.length:Int)/\ ((pos.length:Int):Int)<=1000000000000 then if pos.length=(List.replicate pos.length (0:Int)).length then some (List.replicate pos.length (0:Int)) else none else none else (UF n q level).bind λG=> self (.l1 G G (G.length:Int) 0 (λ_=>[]))
def B5 (q:AA)(pos cells:Ξ)(level:Int):Nat -> Jw -> Option (Ξ)
 | 0,_=>none
 | n+1,.l1 K f Z O o1=>VO n (B5 q pos cells level n) q pos cells level K f Z O o1
 | n+1,.l2 K C f Z O z P a o1=>ZM n (B5 q pos cells level n) q pos cells level K C f Z O z P a o1
 | n+1,.l3 K s o1 F=>L4 n (B5 q pos cells level n) q pos cells level K s o1 F
 | n+1,.l4 K s o1 F e G o4=>VN n (B5 q pos cells level n) q pos cells level K s o1 F e G o4
 | n+1,.l5 o1 F=>zDL n (B5 q pos cells level n) q pos cells level o1 F
 | n+1,.l6 o o1 F e G o4=>VM n (B5 q pos cells level n) q pos cells level o o1 F e G o4
 | n+1,.l7 o x21 b c o1 F e G o4=>VL n (B5 q pos cells level n) q pos cells level o x21 b c o1 F e G o4
def fZ (n:Nat)(q:AA)(pos cells:Ξ)(level:Int):Option (Ξ):=VP n (B5 q pos cells level n) q pos cells level
def zDM (n B:Nat)(N:Yd 0)(q:AA)(pos cells:Ξ)(level:Int)(r:Ξ):Jw -> Prop
 | .l1 K a Z O o1=>∀ f:Nat,n<=f -> TW B N (FQ Tryz.f101 0 (.ints r) []) (Ah f (An (AR Tryz.f101) 0 [])) ⟨AF 123 [(1,.ints pos),(2,.ints cells),(4,.ref 0 0),(9,.ints K),(10,.mri 1 0),(33,.ints a),(34,.i Z),(35,.i O)],[oC (AH q),some (.mo (.rows o1 none))]⟩
 | .l2 K C a Z O z P b o1=>∀ f V:Nat,n<=f -> n<=V -> TW B N (FQ Tryz.f101 0 (.ints r) []) (Ah V (An (AR Tryz.f101) 2 [f])) ⟨AF 123 [(1,.ints pos),(2,.ints cells),(4,.ref 0 0),(9,.ints K),(10,.mri 1 0),(12,.i C),(33,.ints a),(34,.i Z),(35,.i O),(44,.ints z),(45,.i P),(46,.i b)],[oC (AH q),some (.mo (.rows o1 none))]⟩
 | .l3 K s o1 F=>∀ f:Nat,n<=f -> TW B N (FQ Tryz.f101 0 (.ints r) []) (Ah f (An (AR Tryz.f101) 4 [])) ⟨AF 123 [(1,.ints pos),(4,.ref 0 0),(9,.ints K),(10,.mri 1 0),(15,.mp 2 1 0 0),(16,.ref 3 0),(17,.fn 116 2 (L1 [.mp 2 1 0 0,.ref 3 0])),(61,.ints cells),(62,.i (cells.length:Int)),(63,.i s)],[oC (AH q),some (.mo (.rows o1 none)),some (.bools F),oC [.nils]]⟩
 | .l4 K s o1 F e G o4=>∀ f:Nat,n<=f -> TW B N (FQ Tryz.f101 0 (.ints r) []) (Ah f (An (AR Tryz.f101) 4 [])) ⟨AF 123 [(1,.ints pos),(4,.ref 0 0),(9,.ints K),(10,.mri 1 0),(15,.mp 2 1 0 0),(16,.ref 3 0),(17,.fn 116 2 (L1 [.mp 2 1 0 0,.ref 3 0])),(61,.ints cells),(62,.i (cells.length:Int)),(63,.i s)],[oC (AH q),some (.mo (.rows o1 none)),some (.bools F),oC [.mse 4 1 e G],oI o4]⟩
 | .l5 o1 F=>∀ f:Nat,n<=f -> TW B N (FQ Tryz.f101 0 (.ints r) []) (Ah f (An (AR Tryz.f101) 6 [])) ⟨AF 123 [(1,.ints pos),(4,.ref 0 0),(10,.mri 1 0),(15,.mp 2 1 0 0),(16,.ref 3 0),(17,.fn 116 2 (L1 [.mp 2 1 0 0,.ref 3 0]))],[oC (AH q),some (.mo (.rows o1 none)),some (.bools F),oC [.nils]]⟩
 | .l6 o o1 F e G o4=>∀ f:Nat,n<=f -> TW B N (FQ Tryz.f101 0 (.ints r) []) (Ah f (An (AR Tryz.f101) 6 [])) ⟨AF 123 [(1,.ints o),(4,.ref 0 0),(10,.mri 1 0),(15,.mp 2 1 0 0),(16,.ref 3 0),(17,.fn 116 2 (L1 [.mp 2 1 0 0,.ref 3 0]))],[oC (AH q),some (.mo (.rows o1 none)),some (.bools F),oC [.mse 4 1 e G],oI o4]⟩
 | .l7 o x21 c d o1 F e G o4=>∀ f V:Nat,n<=f -> n<=V -> TW B N (FQ Tryz.f101 0 (.ints r) []) (Ah V (An (AR Tryz.f101) 8 [f])) ⟨AF 123 [(1,.ints o),(4,.ref 0 0),(10,.mri 1 0),(15,.mp 2 1 0 0),(16,.ref 3 0),(17,.fn 116 2 (L1 [.mp 2 1 0 0,.ref 3 0])),(21,.ints x21),(102,.i c),(103,.i d)],[oC (AH q),some (.mo (.rows o1 none)),some (.bools F),oC [.mse 4 1 e G],oI o4]⟩
def zDN (B:Nat)(N:Yd 0)(q:AA)(pos cells:Ξ)(level:Int):Al (B5 q pos cells level) (zDM · B N q pos cells level):=ia (λ_=>rfl) λn C c r h=>by
 cases c
 case l1 x9 By C3 Bm o1=>
  intro f a;refine rd a λf a=>?_
  revert r;apply gO;exact bi 36 (gc (gi (gi (lN FG [0,1] (C _ _ · f n a Nat.le.refl))))) (lN FG [0,1,2,3] (C _ _ · n Nat.le.refl))
 case l2 x9 A6 By C3 Bm Ij De Av o1=>
  intro f V a x;have a:=zGV a;refine rd x λV x=>?_
  revert r;apply gO;exact bi 47 (gc (gi (jg (And.intro (Eq.refl 0) (Eq.refl 1)) (jg (by decide:0<1) (gc (gi (jg (Eq.refl (Ij.getD Av.toNat 0)) (gw 58 (lG FG [0,4] (C _ _ · f V a x)))))))))) (gw 59 (lG FG [0,1] (C _ _ · f a)))
 case l3 x9 Ce o1 o2=>
  intro f a;refine rd a λf a=>?_
  revert r;apply gO;exact bi 64 (gi (cn λb s=>bn (λw=>jc (es (xF s w) [2,3] (tJ cells q o2 o1 Ce) [.mri 4 1,.mp 2 1 0 0,.ref 3 0] ⟨(.inr (Mu.own rfl rfl)),(.inl rfl),(.inl rfl),trivial⟩) (ju 71 4 (gw 72 (lG FG [0,4,2,3] (C _ _ · f a))))) (λw=>jc (es (xE s w) [2,3] (tJ cells q o2 o1 Ce) [.mri 4 1,.mp 2 1 0 0,.ref 3 0] ⟨(.inr (Mu.own rfl rfl)),(.inl rfl),(.inl rfl),trivial⟩) (ju 71 4 (gw 72 (lG FG [0,4,2,3,5] (C _ _ · f a))))))) (cn λb s=>bn (λw=>jc (em (xF s w) [2,3] [oC (AH q),some (.mo (.rows o1 none)),some (.bools o2),oC [.nils]]) (lN FG [0,1,2,3] (C _ _ · n Nat.le.refl))) (λw=>jc (em (xE s w) [2,3] [oC (AH q),some (.mo (.rows o1 none)),some (.bools o2),oC [.nils]]) (lN FG [0,1,2,3,4] (C _ _ · n Nat.le.refl))))
 case l4 x9 Ce o1 o2 Bx Aa o4=>
  intro f a;refine rd a λf a=>?_
  revert r;apply gO;exact bi 64 (gi (cn λb s=>jc (es (lz s) [2,3,4] (zHe cells q o2 Bx Aa o4 o1 Ce) [.mri 5 1,.mp 2 1 0 0,.ref 3 0] ⟨(.inr (Mu.own rfl rfl)),(.inl rfl),(.inl rfl),trivial⟩) (ju 71 5 (gw 72 (lG FG [0,5,2,3,6] (C _ _ · f a)))))) (ce lz [2,3,4] (tI cells q o1 o2 Bx Aa o4) λ_=>lN FG [0,1,2,3,5] (C _ _ · n Nat.le.refl))
 case l5 o1 o2=>
  intro f a;refine rd a λf a=>?_
  revert r;apply gO;exact lE FG [8] []
 case l6 x1 o1 o2 Bx Aa o4=>
  intro f a;refine rd a λf a=>?_
  revert r;apply gO;exact bn (λg=>jo 76 (AN.mse_nil (k:=4) (m:=1) (o:=Bx) (zI4 g)) (lE FG [8] [])) (λg=>jo 76 (AN.mse_msl (k:=4) (m:=1) (o:=Bx) (ZR g) rfl) (bi 78 (cf Po (tI cells q o1 o2 Bx Aa o4) λ_=>bi 82 (jo 84 (AN.mse_msl (k:=4) (m:=1) (o:=Bx) (ZR g) rfl) (gc (gi (gc (gi (jo 87 (AN.mse_msl (k:=4) (m:=1) (o:=Bx) (ZR g) rfl) (gc (gi (jt (gc (gi (gi (cf qb (zHd cells q o1 o2 o4 Bx Aa) λ_=>bi 99 (lE FG [8] []) (lN FG [0,1,2,3,4] (C _ _ · f n a Nat.le.refl))))))))))))))) (lE FG [8] [])) (lE FG [8] [])))
 case l7 x1 x21 Dx Eu o1 o2 Bx Aa o4=>
  intro f V a x;have a:=zGV a;refine rd x λV x=>?_
  revert r;apply gO;exact bi 104 (jg zAu (gc (gi (gi (bi 114 (cn λb s=>jc (es (lz s) [2,3,4] (zHc cells q o2 Bx Aa o4 o1 Eu) [.mri 5 1,.mp 2 1 0 0,.ref 3 0] ⟨(.inr (Mu.own rfl rfl)),(.inl rfl),(.inl rfl),trivial⟩) (ju 119 5 (gw 120 (lG FG [0,5,2,3,6] (C _ _ · f V a x))))) (gw 120 (lG FG [0,1,2,3,4] (C _ _ · f V a x)))))))) (lG FG [0,1,2,3,4] (C _ _ · f a))
variable {pos cells:Ξ}
def zDK {r:Ξ}(h:fZ n q pos cells level=some r):EQ 101 [.agg 5 (L1 (AH q)),.ints pos,.ints cells,.i level] [] (.ints r) [] true:=by
 refine ot Tryz.func101 λB N=>?_
 revert r;apply gO;exact cf Po [oC (AH q)] λ_=>bi 25 (gi (gn λo=>lF λp=>ez FG [8] [1] p [0] (H0.g o))) (cf mr [oC (AH q)] λ_=>lN FG [0,1] ((zDN B N q pos cells level n) _ _ · n Nat.le.refl))
def w6 (n:Nat)(q:AA)(pos cells:Ξ)(level:Int):Option (Ξ×Int):= (GB n q pos).bind λk=> bif (k != 0) then some (([]:Ξ),k) else (cI n cells q).bind λG=> bif G then some (([]:Ξ),1) else (fZ n q pos cells level).bind λy3=> some (y3,0)
def cw (n:Nat)(q:AA)(pos cells:Ξ)(level:Int):Option (Ξ×Int):=w6 n q pos cells level
def zMB {r:Ξ×Int}(h:cw n q pos cells level=some r):EQ 86 [.agg 5 (L1 (AH q)),.ints pos,.ints cells,.i level] [] (.tup 2 (L1 [.ints r.1,.i r.2])) [] true:=by
 unfold cw w6 at h;refine ot Tryz.func86 λB N=>?_
 revert r;apply gO;exact cf L5 [oC (AH q)] λk=>bi 14 (lF λp=>el AC [8,9] [] p [] H0 [.nils,.i k] (AN.tupL (l:=[.nils,.i k]) (l':=[.ints ([]:Ξ),.i k]) rfl ⟨AN.ints_nil,Aw,trivial⟩)) (cn λy2 j=>jc (sb [.ints cells,.fn 100 1 (L1 [.ref 0 0])] (zKm j) [oC (AH q)] ⟨Az.plain (by kernel_rfl),(Az.fnL (l:=[.ref 0 0]) (l0:=[.fp 5 (L1 (AH q))]) ⟨(Az.refL (l:=(AH q)) (l0:=(AH q)) rfl ⟨Az.plain (by kernel_rfl),Az.plain (by kernel_rfl),Az.plain (by kernel_rfl),Az.plain (by kernel_rfl),Az.plain (by kernel_rfl),trivial⟩),trivial⟩),trivial⟩) (bi 18 (lF λp=>el AC [8,9] [] p [] H0 [.nils,.i 1] (AN.tupL (l:=[.nils,.i 1]) (l':=[.ints ([]:Ξ),.i 1]) rfl ⟨AN.ints_nil,Aw,trivial⟩)) (cf zDK [oC (AH q)] λ_=>lE AC [8,9] [])))
def w5 (n:Nat)(q:AA)(pos:Ξ)(level:Int):Option (Ξ×Int):= (cw n q pos ([]:Ξ) level).bind λk=> some (k.1,k.2)
def Tn (n:Nat)(q:AA)(pos:Ξ)(level:Int):Option (Ξ×Int):=w5 n q pos level
def zL9 {r:Ξ×Int}(h:Tn n q pos level=some r):EQ 52 [.agg 5 (L1 (AH q)),.ints pos,.i level] [] (.tup 2 (L1 [.ints r.1,.i r.2])) [] true:=by
 unfold Tn w5 at h;refine ot Tryz.func52 λB N=>?_
 revert r;apply gO;exact cn λy1 s=>jc (fb (ES.argsLe (ds:=[.agg 5 (L1 (AH q)),.ints pos,.nils,.i level]) (zMB s) ⟨Aw,Aw,AN.ints_nil,Aw,trivial⟩) [oC (AH q)]) (lE AC [6,7] [])
def vm (n:Nat)(y:Int)(q:AA)(pos:Ξ):Option (Bool×Ξ):= (PG n q y pos).bind λk=> bif (k.2 != 0) then some (false,pos) else (Ws n k.1 pos).bind λG=> bif G then some (false,pos) else some (true,k.1)
def XM (n:Nat)(y:Int)(q:AA)(pos:Ξ):Option (Bool×Ξ):=vm n y q pos
def zLB {y:Int}{r:Bool×Ξ}(h:XM n y q pos=some r):EQ 82 [.i y,.ref 0 0,.ref 1 0] [oC (AH q),oC [.ints pos]] (.bool r.1) [oC (AH q),oC [.ints r.2]] false:=by
 unfold XM vm at h;refine ot Tryz.func82 λB N=>?_
 revert r;apply gO;exact cf qb [oC (AH q),oC [.ints pos]] λ_=>bi 15 (lE AC [4] [0,1]) (cf zJy [oC (AH q),oC [.ints pos]] λ_=>bi 19 (lE AC [4] [0,1]) (jt (lE AC [4] [0,1])))
inductive aa where
 | l1 (x8:Int) (Cz:Ξ)
def SX (n:Nat)(self:aa -> Option (Int×Ξ))(l:Ξ)(q:AA)(pos:Ξ)(x8:Int)(N:Ξ):Option (Int×Ξ):= bif (decide (x8<(l.length:Int))) then if 0<=x8/\ x8<(l.length:Int) then (XM n (l.getD x8.toNat 0) q N).bind λk=> bif k.1 then some (x8,k.2) else if AG (x8+1) then self (.l1 (x8+1) k.2) else none else none else some ((-1),N)
def zF8 (n:Nat)(self:aa -> Option (Int×Ξ))(l:Ξ)(q:AA)(pos:Ξ):Option (Int×Ξ):= self (.l1 0 pos)
def ML (l:Ξ)(q:AA)(pos:Ξ):Nat -> aa -> Option (Int×Ξ)
 | 0,_=>none
 | n+1,.l1 x8 N=>SX n (ML l q pos n) l q pos x8 N
def Pr (n:Nat)(l:Ξ)(q:AA)(pos:Ξ):Option (Int×Ξ):=zF8 n (ML l q pos n) l q pos
def zF9 (n B:Nat)(N:Yd 2)(l:Ξ)(q:AA)(pos:Ξ)(r:Int×Ξ):aa -> Prop
 | .l1 x8 a=>∀ f:Nat,n<=f -> TW B N (FQ Tryz.f85 2 (.i r.1) [oC (AH q),oC [.ints r.2]]) (Ah f (An (AR Tryz.f85) 0 [])) ⟨AF 19 [(0,.ints l),(1,.fn 82 2 (L1 [.ref 0 0,.ref 1 0])),(7,.i (l.length:Int)),(8,.i x8)],[oC (AH q),oC [.ints a]]⟩
def zGA (B:Nat)(N:Yd 2)(l:Ξ)(q:AA)(pos:Ξ):Al (ML l q pos) (zF9 · B N l q pos):=ia (λ_=>rfl) λn C b r h=>by
 cases b
 case l1 x8 Cz=>
  intro f a;refine rd a λf a=>?_
  revert r;apply gO;exact bi 9 (gi (ce zLB [0,1] [oC (AH q),oC [.ints Cz]] λ_=>bi 16 (lE AC [4] [0,1]) (gw 18 (lG AC [0,1] (C _ _ · f a))))) (lE AC [4] [0,1])
def sn {r:Int×Ξ}(h:Pr n l q pos=some r):EQ 85 [.ints l,.fn 82 2 (L1 [.ref 0 0,.ref 1 0])] [oC (AH q),oC [.ints pos]] (.i r.1) [oC (AH q),oC [.ints r.2]] false:=by
 refine ot Tryz.func85 λB N=>?_
 revert r;apply gO;exact lN AC [0,1] ((zGA B N l q pos n) _ _ · n Nat.le.refl)
inductive SG where
 | l1 (x8:Ξ)
 | l2 (x6:Nat) (x8 Cg o1:Ξ)
def SE (n:Nat)(self:SG -> Option (Ξ×Int))(q:AA)(pos:Ξ)(level:Int)(x8:Ξ):Option (Ξ×Int):= (Gz n pos).bind λk=> bif (!k) then (Pr n x8 q pos).bind λG=> bif (decide (G.1<0)) then some (([]:Ξ),0) else if (0<=G.1/\ G.1<(x8.length:Int))/\ ((0=0/\ 1=([x8.getD ((G.1).toNat) 0]:Ξ).length)/\ 0<([x8.getD ((G.1).toNat) 0]:Ξ).length/\ ([x8.getD ((G.1).toNat) 0]:Ξ).length<=Ay) then self (.l2 (([x8.getD ((G.1).toNat) 0]:Ξ).length) x8 G.2 ([x8.getD ((G.1).toNat) 0]:Ξ)) else none else some (([]:Ξ),0)
def PM (n:Nat)(self:SG -> Option (Ξ×Int))(q:AA)(pos:Ξ)(level:Int)(J:Nat)(x8 y o1:Ξ):Option (Ξ×Int):= (Gz n y).bind λk=> bif (!k) then (Pr n x8 q y).bind λG=> bif (decide (G.1<0)) then if J=o1.length then some (o1,0) else none else if (0<=G.1/\ G.1<(x8.length:Int))/\ ((0=0/\ 1=([x8.getD ((G.1).toNat) 0]:Ξ).length)/\ (0=0/\ J=o1.length)/\ o1.length+([x8.getD ((G.1).toNat) 0]:Ξ).length<=Ay) then self (.l2 (o1.length+([x8.getD ((G.1).toNat) 0]:Ξ).length) x8 G.2 (o1++([x8.getD ((G.1).toNat) 0]:Ξ))) else none else if J=o1.length then some (o1,0) else none
def zD3 (n:Nat)(self:SG -> Option (Ξ×Int))(q:AA)(pos:Ξ)(level:Int):Option (Ξ×Int):= (GB n q pos).bind λk=> bif (k != 0) then some (([]:Ξ),k) else (UF n q level).bind λG=> self (.l1 G)
def IQ (q:AA)(pos:Ξ)(level:Int):Nat -> SG -> Option (Ξ×Int)
 | 0,_=>none
 | n+1,.l1 x8=>SE n (IQ q pos level n) q pos level x8
 | n+1,.l2 J x8 y o1=>PM n (IQ q pos level n) q pos level J x8 y o1
def Zp (n:Nat)(q:AA)(pos:Ξ)(level:Int):Option (Ξ×Int):=zD3 n (IQ q pos level n) q pos level
def zD4 (n B:Nat)(N:Yd 0)(q:AA)(pos:Ξ)(level:Int)(r:Ξ×Int):SG -> Prop
 | .l1 x8=>∀ f:Nat,n<=f -> TW B N (FQ Tryz.f51 0 (.tup 2 (L1 [.ints r.1,.i r.2])) []) (Ah f (An (AR Tryz.f51) 0 [])) ⟨AF 37 [(4,.ref 0 0),(6,.nils),(8,.ints x8),(9,.fn 82 2 (L1 [.ref 1 0,.ref 0 0]))],[oC [.ints pos],oC (AH q)]⟩
 | .l2 J x8 y o1=>∀ f:Nat,n<=f -> TW B N (FQ Tryz.f51 0 (.tup 2 (L1 [.ints r.1,.i r.2])) []) (Ah f (An (AR Tryz.f51) 0 [])) ⟨AF 37 [(4,.ref 0 0),(6,.msl 1 1 0 J),(8,.ints x8),(9,.fn 82 2 (L1 [.ref 2 0,.ref 0 0]))],[oC [.ints y],oI o1,oC (AH q)]⟩
def zD5 (B:Nat)(N:Yd 0)(q:AA)(pos:Ξ)(level:Int):Al (IQ q pos level) (zD4 · B N q pos level):=ia (λ_=>rfl) λn C c r h=>by
 cases c
 case l1 x8=>
  intro f a;refine rd a λf a=>?_
  revert r;apply gO;exact cf Po [oC [.ints pos],oC (AH q)] λ_=>bi 23 (ce sn [1,0] [oC [.ints pos],oC (AH q)] λ_=>bi 28 (lF λp=>el AC [6,7] [] p [] H0 [.nils,.i 0] (AN.tupL (l:=[.nils,.i 0]) (l':=[.ints ([]:Ξ),.i 0]) rfl ⟨AN.ints_nil,Aw,trivial⟩)) (gc (gi (gi (lG AC [0,3,1] (C _ _ · f a)))))) (lF λp=>el AC [6,7] [] p [] H0 [.nils,.i 0] (AN.tupL (l:=[.nils,.i 0]) (l':=[.ints ([]:Ξ),.i 0]) rfl ⟨AN.ints_nil,Aw,trivial⟩))
 case l2 x6 x8 Cg o1=>
  intro f a;refine rd a λf a=>?_
  revert r;apply gO;exact cf Po [oC [.ints Cg],oI o1,oC (AH q)] λ_=>bi 23 (ce sn [2,0] [oC [.ints Cg],oI o1,oC (AH q)] λ_=>bi 28 (gn λb=>lF λp=>ez AC [6,7] [1] p [0] (H0.g b)) (gc (gi (gi (lG AC [0,4,2] (C _ _ · f a)))))) (gn λb=>lF λp=>ez AC [6,7] [1] p [0] (H0.g b))
def zD2 {r:Ξ×Int}(h:Zp n q pos level=some r):EQ 51 [.agg 5 (L1 (AH q)),.ints pos,.i level] [] (.tup 2 (L1 [.ints r.1,.i r.2])) [] true:=by
 refine ot Tryz.func51 λB N=>?_
 revert r;apply gO;exact cf L5 [oC (AH q),oC [.ints pos]] λk=>bi 15 (lF λp=>el AC [6,7] [] p [] H0 [.nils,.i k] (AN.tupL (l:=[.nils,.i k]) (l':=[.ints ([]:Ξ),.i k]) rfl ⟨AN.ints_nil,Aw,trivial⟩)) (cf mr [oC (AH q),oC [.ints pos]] λ_=>lN AC [1,0] ((zD5 B N q pos level n) _ _ · n Nat.le.refl))
end
section
set_option maxRecDepth 100000
set_option maxHeartbeats 40000000
def zBV:Ax (BA Tryz.f29 12) [] (List.range 7) []:=by unfold Ax;kernel_rfl
def O7:Be:=λi=>match i with
 | 12=>.ord [] (List.range 7) []
 | _=>.no
inductive cT where
 | l1 (A6 Cg I8:Int)
def Qh (n:Nat)(self:cT -> Option (Int×Bool))(pos:Ξ)(C y A:Int):Option (Int×Bool):= bif (decide (C<(pos.length:Int))) then if 0<=C/\ C<(pos.length:Int) then (Uc n (pos.getD C.toNat 0)).bind λk=> bif (k==0) then some (0,false) else bif (decide (k>1)) then bif ((y==0)&&((A==0)&&true)) then if AG (C+1) then self (.l1 (C+1) k C) else none else bif (decide (k<y)) then if AG (C+1) then self (.l1 (C+1) k C) else none else if AG (C+1) then self (.l1 (C+1) y A) else none else if AG (C+1) then self (.l1 (C+1) y A) else none else none else some (A,(!((y==0)&&((A==0)&&true))))
def zK5 (n:Nat)(self:cT -> Option (Int×Bool))(pos:Ξ):Option (Int×Bool):= self (.l1 0 0 0)
def OU (pos:Ξ):Nat -> cT -> Option (Int×Bool)
 | 0,_=>none
 | n+1,.l1 C y A=>Qh n (OU pos n) pos C y A
def XL (n:Nat)(pos:Ξ):Option (Int×Bool):=zK5 n (OU pos n) pos
def zK6 (n B:Nat)(N:Yd 0)(pos:Ξ)(r:Int×Bool):cT -> Prop
 | .l1 C y A=>∀ f:Nat,n<=f -> TW B N (FQ Tryz.f29 0 (.tup 2 (L1 [.i r.1,.bool r.2])) []) (Ah f (An (AR Tryz.f29) 0 [])) ⟨AF 44 [(4,.ref 0 0),(10,.ints pos),(11,.i (pos.length:Int)),(12,.i C)],[oC [.i y,.i A]]⟩
def zK7 (B:Nat)(N:Yd 0)(pos:Ξ):Al (OU pos) (zK6 · B N pos):=ia (λ_=>rfl) λn C b r h=>by
 cases b
 case l1 A6 Cg I8=>
  intro f a;refine rd a λf a=>?_
  revert r;apply gO;exact bi 13 (gi (cf zw [oC [.i Cg,.i I8]] λ_=>bi 20 (lE O7 [2,3] []) (jt (bi 25 (bi 29 (jt (gw 38 (lG O7 [0] (C _ _ · f a)))) (jg (by decide:(0:Int)<=0/\ 0<((2:Nat):Int)) (bi 34 (jt (gw 38 (lG O7 [0] (C _ _ · f a)))) (gw 38 (lG O7 [0] (C _ _ · f a)))))) (gw 38 (lG O7 [0] (C _ _ · f a))))))) (jg zBV (jg (by decide:(0:Int)<=1/\ 1<((2:Nat):Int)) (lE O7 [2,3] [])))
variable {pos:Ξ}{n:Nat}
def vj {r:Int×Bool}(h:XL n pos=some r):EQ 29 [.ints pos] [] (.tup 2 (L1 [.i r.1,.bool r.2])) [] true:=by
 refine ot Tryz.func29 λB N=>?_
 revert r;apply gO;exact jt (lN O7 [0] ((zK7 B N pos n) _ _ · n Nat.le.refl))
def vk (n:Nat)(q:AA)(pos:Ξ):Option (Int×Bool×Int):= (GB n q pos).bind λk=> bif (k != 0) then some (0,false,k) else (XL n pos).bind λG=> some (G.1,G.2,0)
def lB (n:Nat)(q:AA)(pos:Ξ):Option (Int×Bool×Int):=vk n q pos
def lA {q:AA}{r:Int×Bool×Int}(h:lB n q pos=some r):EQ 14 [.agg 5 (L1 (AH q)),.ints pos] [] (.tup 3 (L1 [.i r.1,.bool r.2.1,.i r.2.2])) [] true:=by
 unfold lB vk at h;refine ot Tryz.func14 λB N=>?_
 revert r;apply gO;exact cf L5 [oC (AH q)] λ_=>bi 12 (lE AC [4,5,6] []) (cf vj [oC (AH q)] λ_=>lE AC [4,5,6] [])
abbrev Bc:=(Δ)×Ξ
def TO (x:Bc):List DV:=[.agg 2 (L1 [.i x.1.1,.i x.1.2]),.ints x.2]
def dQ (pos:Ξ):Nat -> List DV:=λ_=>[.ints pos,.ref 0 0,.ref 2 0,.ref 3 0]
def C4 (q:AA)(pos0:Ξ):Nat -> DH:=λl=>[some (.ro (AH q)),some (.ro [.ints pos0]),some (.ro [.yl l]),some (.ro [.fn 50 3 (L1 [.ref 0 0,.ref 2 0,.ref 3 0])])]
def Q8 (b:Bool):DV:=.bool b
abbrev Lm:=Ξ -> AA -> Ξ -> Option (List Bc)
def Q9 (f:Lm):Prop:=∀ (pos:Ξ) (q:AA) (pos0:Ξ) (r:List Bc),f pos q pos0=some r -> YW Tryz.prog GG Q8 50 (dQ pos) (C4 q pos0) (r.map TO)
inductive M3 where
 | l1 (Fk:Ξ) (Gk Et:Int)
 | l2 (x10:Ξ) (BS Eh:Int)
def Oo (n:Nat)(BJ:Lm)(self:M3 -> Option (List Bc))(pos:Ξ)(q:AA)(pos0:Ξ)(H:Ξ)(G Q:Int):Option (List Bc):= bif (decide (Q<G)) then if 0<=Q/\ Q<(H.length:Int) then wx ((1,H.getD Q.toNat 0),([]:Ξ)) (if AG (Q+1) then self (.l1 H G (Q+1)) else none) else none else (Tn n q pos 4).bind λk=> (Gz n k.1).bind λb=> bif b then wx ((3,0),([]:Ξ)) (some []) else (YH n k.1).bind λy3=> bif y3.2 then wx ((4,0),y3.1) (some []) else (XL n k.1).bind λa=> wx ((2,a.1),([]:Ξ)) (self (.l2 k.1 a.1 0))
def Om (n:Nat)(a:Lm)(self:M3 -> Option (List Bc))(pos:Ξ)(q:AA)(pos0:Ξ)(x10:Ξ)(u z:Int):Option (List Bc):= bif (decide (z<q.symbols)) then if (0<=u/\ u<(x10.length:Int))/\ (0<=z/\ z<=(IntKind.i64.bits:Int)) then bif ((bits .and .i64 ((x10.getD u.toNat 0)/2 ^ (z).toNat) 1)==0) then if AG (z+1) then self (.l2 x10 u (z+1)) else none else (QZ n q x10 u z).bind λk=> wb (a k.1 q pos0) (if AG (z+1) then self (.l2 x10 u (z+1)) else none) else none else some []
def Xq (n:Nat)(BJ:Lm)(self:M3 -> Option (List Bc))(pos:Ξ)(q:AA)(pos0:Ξ):Option (List Bc):= (Zp n q pos 4).bind λk=> self (.l1 k.1 (k.1.length:Int) 0)
def Ew (a:Lm)(pos:Ξ)(q:AA)(pos0:Ξ):Nat -> M3 -> Option (List Bc)
 | 0,_=>none
 | n+1,.l1 H G Q=>Oo n a (Ew a pos q pos0 n) pos q pos0 H G Q
 | n+1,.l2 x10 u z=>Om n a (Ew a pos q pos0 n) pos q pos0 x10 u z
def T9 (C:ET Tryz.prog)(ρ0:List AI)(n:Nat)(pos:Ξ)(q:AA)(pos0:Ξ)(r:List Bc):M3 -> Prop
 | .l1 H G Q=>∀ f:Nat,n<=f -> ∀ i:Nat,DW C TO i r -> Qv C Q8 Tryz.f50 4 ρ0 (C4 q pos0 C.l) (Ah f (An (AR Tryz.f50) 0 [])) i r ⟨AF 94 [(0,.ints pos),(1,.ref 0 0),(2,.ref 2 0),(3,.ref 3 0),(25,.ints H),(26,.i G),(27,.i Q)],[some (.ro (AH q)),some (.ro [.ints pos0]),some (.ro [.yl C.l]),some (.ro [.fn 50 3 (L1 [.ref 0 0,.ref 2 0,.ref 3 0])])]⟩
 | .l2 x10 u z=>∀ f:Nat,n<=f -> ∀ i:Nat,DW C TO i r -> Qv C Q8 Tryz.f50 4 ρ0 (C4 q pos0 C.l) (Ah f (An (AR Tryz.f50) 2 [])) i r ⟨AF 94 [(1,.ref 0 0),(3,.ref 3 0),(10,.ints x10),(14,.i u),(69,.i q.symbols),(70,.i z)],[some (.ro (AH q)),some (.ro [.ints pos0]),some (.ro [.yl C.l]),some (.ro [.fn 50 3 (L1 [.ref 0 0,.ref 2 0,.ref 3 0])])]⟩
def xp (C:ET Tryz.prog)(ρ0:List AI)(n:Nat)(o:Lm)(EA:Q9 o)(self:M3 -> Option (List Bc))(pos:Ξ)(q:AA)(pos0:Ξ)(s: ∀ B r,self B=some r -> T9 C ρ0 n pos q pos0 r B)(H:Ξ)(G Q:Int)(r:List Bc)(h:Oo n o self pos q pos0 H G Q=some r):T9 C ρ0 (n+1) pos q pos0 r (.l1 H G Q):=by
 intro f e;intro i a;refine rd e λf e=>?_
 unfold Oo at h;have p:=H0;rcases DQ h with ⟨j,h⟩ | ⟨j,h⟩
 ·obtain ⟨u,h⟩:=DI h;have p:=H0.b 28 j |>.g u
  refine gs (Ab 22 (Ab 15 (Ab 13 (Ab 10 (Ab 5 AC))))) [0,1,2,3] p (EP (AR Tryz.f50) 5 [f]) (AF 94 [(0,.ints pos),(1,.ref 0 0),(2,.ref 2 0),(3,.ref 3 0),(9,.i (H.getD Q.toNat 0)),(25,.ints H),(26,.i G),(27,.i Q)]) (C4 q pos0 C.l) ?_;refine wO (ops:=BA Tryz.f50 5) (by kernel_rfl) ?_;refine wY (xs:=[.agg 2 (L1 [.i 1,.i (H.getD Q.toNat 0)]),.nils]) [0,1,2] [4] 3 H0 (AF 94 [(0,.ints pos),(1,.ref 0 0),(2,.ref 2 0),(3,.ref 3 0),(25,.ints H),(26,.i G),(27,.i Q)]) (C4 q pos0 C.l) (some 34) h a ⟨Aw,AN.ints_nil,trivial⟩ (λr=>?_) λr i h a=>?_
  ·refine wS H0 (AF 94 [(0,.ints pos),(1,.ref 0 0),(2,.ref 2 0),(3,.ref 3 0),(25,.ints H),(26,.i G),(27,.i Q),(35,.bool true)]) (C4 q pos0 C.l) ?_;have p:=H0;exact ee AC [5] [0,1,2,3] p
  ·refine wE H0 (AF 94 [(0,.ints pos),(1,.ref 0 0),(2,.ref 2 0),(3,.ref 3 0),(25,.ints H),(26,.i G),(27,.i Q),(35,.bool false)]) (C4 q pos0 C.l) ?_;obtain ⟨v,h⟩:=DI h;have p:=H0.w 36 v;exact gg (Ab 22 (Ab 15 (Ab 13 (Ab 10 (Ab 5 AC))))) [0,1,2,3] p (s _ _ h f e i a)
 ·obtain ⟨k,x,h⟩:=Gg h;obtain ⟨y2,y,h⟩:=Gg h;have p:=H0.b 28 j |>.c (fb (zL9 x) (C4 q pos0 C.l)) |>.c (fb (Po y) (C4 q pos0 C.l))
  rcases DQ h with ⟨m,h⟩ | ⟨m,h⟩
  ·have p:=p.b 44 m;refine gs (Ab 22 (Ab 15 (Ab 13 (Ab 10 (Ab 5 AC))))) [0,1,2,3] p (EP (AR Tryz.f50) 10 []) (AF 94 [(2,.ref 2 0)]) (C4 q pos0 C.l) ?_;refine wO (ops:=BA Tryz.f50 10) (by kernel_rfl) ?_;refine wY (xs:=[.agg 2 (L1 [.i 3,.i 0]),.nils]) [0,1] [3] 2 H0 (AF 94 []) (C4 q pos0 C.l) (some 47) h a ⟨Aw,AN.ints_nil,trivial⟩ (λr=>?_) λr i h a=>?_
   ·refine wS H0 (AF 94 [(5,.bool false)]) (C4 q pos0 C.l) ?_;have p:=H0;exact ee AC [5] [0,1,2,3] p
   ·refine wE H0 (AF 94 [(5,.bool true)]) (C4 q pos0 C.l) ?_;have p:=H0;cases h;exact wF (ee (Ab 22 (Ab 15 (Ab 13 (Ab 10 (Ab 5 AC))))) [5] [0,1,2,3] p)
  ·obtain ⟨y3,z,h⟩:=Gg h;have p:=p.b 44 m |>.c (fb (zO z) (C4 q pos0 C.l))
   rcases DQ h with ⟨t,h⟩ | ⟨t,h⟩
   ·have p:=p.b 52 t;refine gs (Ab 22 (Ab 15 (Ab 13 (Ab 10 (Ab 5 AC))))) [0,1,2,3] p (EP (AR Tryz.f50) 13 []) (AF 94 [(2,.ref 2 0),(12,.ints y3.1)]) (C4 q pos0 C.l) ?_;refine wO (ops:=BA Tryz.f50 13) (by kernel_rfl) ?_;refine wY (xs:=[.agg 2 (L1 [.i 4,.i 0]),.ints y3.1]) [0,1,2] [4] 3 H0 (AF 94 []) (C4 q pos0 C.l) (some 57) h a ⟨Aw,Aw,trivial⟩ (λr=>?_) λr i h a=>?_
    ·refine wS H0 (AF 94 [(5,.bool false)]) (C4 q pos0 C.l) ?_;have p:=H0;exact ee AC [5] [0,1,2,3] p
    ·refine wE H0 (AF 94 [(5,.bool true)]) (C4 q pos0 C.l) ?_;have p:=H0;cases h;exact wF (ee (Ab 22 (Ab 15 (Ab 13 (Ab 10 (Ab 5 AC))))) [5] [0,1,2,3] p)
   ·obtain ⟨d,A,h⟩:=Gg h;have p:=p.b 52 t |>.c (fb (vj A) (C4 q pos0 C.l))
    refine gs (Ab 22 (Ab 15 (Ab 13 (Ab 10 (Ab 5 AC))))) [0,1,2,3] p (EP (AR Tryz.f50) 15 []) (AF 94 [(1,.ref 0 0),(2,.ref 2 0),(3,.ref 3 0),(10,.ints k.1),(14,.i d.1)]) (C4 q pos0 C.l) ?_;refine wO (ops:=BA Tryz.f50 15) (by kernel_rfl) ?_;refine wY (xs:=[.agg 2 (L1 [.i 2,.i d.1]),.nils]) [0,1,2] [4] 3 H0 (AF 94 [(1,.ref 0 0),(3,.ref 3 0),(10,.ints k.1),(14,.i d.1)]) (C4 q pos0 C.l) (some 66) h a ⟨Aw,AN.ints_nil,trivial⟩ (λr=>?_) λr i h a=>?_
    ·refine wS H0 (AF 94 [(1,.ref 0 0),(3,.ref 3 0),(10,.ints k.1),(14,.i d.1),(67,.bool true)]) (C4 q pos0 C.l) ?_;have p:=H0;exact ee AC [5] [0,1,2,3] p
    ·refine wE H0 (AF 94 [(1,.ref 0 0),(3,.ref 3 0),(10,.ints k.1),(14,.i d.1),(67,.bool false)]) (C4 q pos0 C.l) ?_;have p:=H0;exact gg (Ab 22 (Ab 15 (Ab 13 (Ab 10 (Ab 5 AC))))) [0,1,2,3] p (en n (s _ _ h n Nat.le.refl i a))
def xo (C:ET Tryz.prog)(ρ0:List AI)(n:Nat)(m:Lm)(v:Q9 m)(self:M3 -> Option (List Bc))(pos:Ξ)(q:AA)(pos0:Ξ)(o: ∀ B r,self B=some r -> T9 C ρ0 n pos q pos0 r B)(x10:Ξ)(u z:Int)(r:List Bc)(h:Om n m self pos q pos0 x10 u z=some r):T9 C ρ0 (n+1) pos q pos0 r (.l2 x10 u z):=by
 intro f d;intro i e;refine rd d λf d=>?_
 unfold Om at h;have p:=H0;rcases DQ h with ⟨j,h⟩ | ⟨j,h⟩
 ·obtain ⟨⟨x,y⟩,h⟩:=DI h;have p:=H0.b 71 j |>.g x |>.g y
  rcases DQ h with ⟨k,h⟩ | ⟨k,h⟩
  ·obtain ⟨s,h⟩:=DI h;have p:=p.b 80 k |>.w 93 s
   exact gg (Ab 22 (Ab 15 (Ab 13 (Ab 10 (Ab 5 AC))))) [0,1,2,3] p (o _ _ h f d i e)
  ·obtain ⟨t,A,h⟩:=Gg h;have p:=p.b 80 k |>.c (fb (uk A) (C4 q pos0 C.l))
   refine gs (Ab 22 (Ab 15 (Ab 13 (Ab 10 (Ab 5 AC))))) [0,1,2,3] p (EP (AR Tryz.f50) 22 [f]) (AF 94 [(1,.ref 0 0),(3,.ref 3 0),(10,.ints x10),(14,.i u),(17,.ints t.1),(69,.i q.symbols),(70,.i z)]) (C4 q pos0 C.l) ?_;refine wO (ops:=BA Tryz.f50 22) (by kernel_rfl) ?_;refine wC (ds:=dQ t.1) (h:=C4 q pos0) (tD':=Q8) [0,1] [3] 2 H0 (AF 94 [(1,.ref 0 0),(3,.ref 3 0),(10,.ints x10),(14,.i u),(69,.i q.symbols),(70,.i z)]) (C4 q pos0 C.l) (some 91) h e (λa D=>v _ _ _ a D) (λi r=>?_) λr i h e=>?_
   ·refine wS H0 (AF 94 [(1,.ref 0 0),(3,.ref 3 0),(10,.ints x10),(14,.i u),(69,.i q.symbols),(70,.i z),(92,.bool true)]) (C4 q pos0 C.l) ?_;have p:=H0;exact ee AC [5] [0,1,2,3] p
   ·refine wE H0 (AF 94 [(1,.ref 0 0),(3,.ref 3 0),(10,.ints x10),(14,.i u),(69,.i q.symbols),(70,.i z),(92,.bool false)]) (C4 q pos0 C.l) ?_;obtain ⟨s,h⟩:=DI h;have p:=H0.w 93 s;exact gg (Ab 22 (Ab 15 (Ab 13 (Ab 10 (Ab 5 AC))))) [0,1,2,3] p (o _ _ h f d i e)
 ·have p:=H0.b 71 j;cases h;exact wF (ee (Ab 22 (Ab 15 (Ab 13 (Ab 10 (Ab 5 AC))))) [5] [0,1,2,3] p)
def dR (C:ET Tryz.prog)(ρ0:List AI)(a:Lm)(t:Q9 a)(pos:Ξ)(q:AA)(pos0:Ξ): ∀ (n:Nat) (B:M3) (r:List Bc),Ew a pos q pos0 n B=some r -> T9 C ρ0 n pos q pos0 r B
 | 0,_,_,h=>by cases h
 | n+1,.l1 H G Q,r,h=>xp C ρ0 n a t (Ew a pos q pos0 n) pos q pos0 (dR C ρ0 a t pos q pos0 n) H G Q r h
 | n+1,.l2 x10 u z,r,h=>xo C ρ0 n a t (Ew a pos q pos0 n) pos q pos0 (dR C ρ0 a t pos q pos0 n) x10 u z r h
def Dg:Nat -> Ξ -> AA -> Ξ -> Option (List Bc)
 | 0,_,_,_=>none
 | n+1,pos,q,pos0=>Xq n (Dg n) (Ew (Dg n) pos q pos0 n) pos q pos0
def xn {a:Lm}(t:Q9 a):Q9 (λpos q pos0=>Xq n a (Ew a pos q pos0 n) pos q pos0):=λpos q pos0 r h=>YW.ofW (L:=4) (h:=C4 q pos0) (tD:=Q8) Tryz.func50 (λC i ρ0 d=>by
 replace h:Xq n a (Ew a pos q pos0 n) pos q pos0=some r:=h;have b:=(dR C ρ0 a t pos q pos0 n);unfold Xq at h
 generalize Ew a pos q pos0 n=self at h b
 obtain ⟨y1,s,h⟩:=Gg h;have p:=H0.c (fb (zD2 s) (C4 q pos0 C.l));exact gg (Ab 22 (Ab 15 (Ab 13 (Ab 10 (Ab 5 AC))))) [0,1,2,3] p (en n (b _ _ h n Nat.le.refl i d)))
def mf: ∀ n,Q9 (Dg n)
 | 0=>λ_ _ _ r h=>by cases h
 | n+1=>xn (mf n)
def zEP:Nat -> List DV:=λl=>[.yl l,.ref 0 0,.ref 1 0]
def PQ (q:AA)(pos0:Ξ):Nat -> DH:=λ_=>[some (.ro (AH q)),some (.ro [.ints pos0])]
def gL (b:Bool):DV:=RG
abbrev zER:=AA -> Ξ -> Option (List Bc)
def zEQ (f:zER):Prop:=∀ (q:AA) (pos0:Ξ) (r:List Bc),f q pos0=some r -> YW Tryz.prog GG gL 49 (zEP) (PQ q pos0) (r.map TO)
def gM (n:Nat)(q:AA)(pos0:Ξ):Option (List Bc):= wb (Dg n pos0 q pos0) (some [])
def J2 (n:Nat)(q:AA)(pos0:Ξ):Option (List Bc):=gM n q pos0
def zEN :zEQ (J2 n):=λq pos0 r h=>YW.ofW (L:=2) (h:=PQ q pos0) (tD:=gL) Tryz.func49 (λC i ρ0 b=>by
 replace h:gM n q pos0=some r:=h;unfold gM at h;have p:=H0.t;refine gs (Ab 3 AC) [0,1,2,3] p (EP (AR Tryz.f49) 3 []) (AF 9 [(2,.ref 1 0),(4,.ref 3 0)]) (PQ q pos0 C.l++[oC [.yl C.l],oC [.fn 50 3 (L1 [.ref 0 0,.ref 2 0,.ref 3 0])]]) ?_;refine xQ [2,3] (PQ q pos0 C.l++[some (.ro [.yl C.l]),some (.ro [.fn 50 3 (L1 [.ref 0 0,.ref 2 0,.ref 3 0])])]) ?_;refine wO (ops:=BA Tryz.f49 3) (by kernel_rfl) ?_;refine wC (ds:=dQ pos0) (h:=C4 q pos0) (tD':=Q8) [0,1] [] 2 H0 (AF 9 []) (PQ q pos0 C.l++[some (.ro [.yl C.l]),some (.ro [.fn 50 3 (L1 [.ref 0 0,.ref 2 0,.ref 3 0])])]) (some 8) h b (λa D=>mf n _ _ _ a D) (λi r=>?_) λr i h b=>?_
 ·refine xq ?_;have p:=H0;exact ee AC [] [0,1] p
 ·refine w0 ?_;have p:=H0;cases h;exact wF (ee (Ab 3 AC) [] [0,1] p))
end
section
set_option maxRecDepth 100000
set_option maxHeartbeats 40000000
def zEV (n:Nat)(q:AA)(pos:Ξ):Option Unit:= some ()
def rY (n:Nat)(q:AA)(pos:Ξ):Option Unit:=zEV n q pos
def zEU {n:Nat}(q:AA)(pos:Ξ){r:Unit}(h:rY n q pos=some r):EQ 36 [.agg 5 (L1 (AH q)),.ints pos] [] (.fn 49 2 (L1 [.ref 0 0,.ref 1 0])) [oC (AH q),oC [.ints pos]] true:=by
 refine ot Tryz.func36 λB N=>?_
 revert r;apply gO;exact lE AC [4] [0,1]
def nf:ST:=.rd 0 (.rd 1 (.ef 2 (.ef 3 (.ef 4 (.fin [] [8,9,10]) (.no)) (.no)) (.no)))
def eS:B3 (BA Tryz.f26 11) [2] nf:=by unfold B3;kernel_rfl
def HO:Be:=λi=>match i with
 | 11=>.tre [2] nf
 | _=>.no
def zHQ (most fuel:Int)(c:Bc):DH:=[none,none,oC [.i most],oC [.i fuel],oC [.nils],oC [.nils],oC [.bool false],oC [.i c.1.1,.i c.1.2]]
def zHP (most fuel:Int):DH:=[none,none,oC [.i most],oC [.i fuel],oC [.nils],oC [.nils],oC [.bool false]]
def nG (most fuel:Int)(c:Bc):St:=⟨(AF 42 [(8,.ref 4 0),(9,.ref 5 0),(10,.ref 6 0)]),([none,none,oC [.i most],oC [.i (fuel-1)],oC [.msl 11 1 0 (([c.2]:List Ξ).length)],oC [.msl 9 2 0 (([(c.1.1,c.1.2)]:List (Δ)).length)],oC [.bool true],oC [.i c.1.1,.i c.1.2],some (.arr 2 (([(c.1.1,c.1.2)]:List (Δ)).length) (AK BT ([(c.1.1,c.1.2)]:List (Δ)))),some (.arr 2 (([(c.1.1,c.1.2)]:List (Δ)).length) (AK BT ([(c.1.1,c.1.2)]:List (Δ)))),some (.arr 1 (([c.2]:List Ξ).length) (AK AP ([c.2]:List Ξ))),some (.arr 1 (([c.2]:List Ξ).length) (AK AP ([c.2]:List Ξ)))]:DH)⟩
def zHO (most R:Int)(m:Nat)(O:List (Δ))(c:Bc):DH:=[none,none,oC [.i most],oC [.i R],oC [.nils],oC [.msl 7 2 0 m],oC [.bool false],some (.arr 2 O.length (AK BT O)),oC [.i c.1.1,.i c.1.2]]
def zHN (most R:Int)(m:Nat)(O:List (Δ)):DH:=[none,none,oC [.i most],oC [.i R],oC [.nils],oC [.msl 7 2 0 m],oC [.bool false],some (.arr 2 O.length (AK BT O))]
def nF (most R:Int)(c:Bc)(O:List (Δ)):St:=⟨(AF 42 [(8,.ref 4 0),(9,.ref 5 0),(10,.ref 6 0)]),([none,none,oC [.i most],oC [.i (R-1)],oC [.msl 12 1 0 (([c.2]:List Ξ).length)],oC [.msl 10 2 0 (O.length+([(c.1.1,c.1.2)]:List (Δ)).length)],oC [.bool true],none,oC [.i c.1.1,.i c.1.2],some (.arr 2 (([(c.1.1,c.1.2)]:List (Δ)).length) (AK BT ([(c.1.1,c.1.2)]:List (Δ)))),some (.arr 2 ((O++([(c.1.1,c.1.2)]:List (Δ))).length) (AK BT (O++([(c.1.1,c.1.2)]:List (Δ))))),some (.arr 1 (([c.2]:List Ξ).length) (AK AP ([c.2]:List Ξ))),some (.arr 1 (([c.2]:List Ξ).length) (AK AP ([c.2]:List Ξ)))]:DH)⟩
def zHM (most S:Int)(Y n:Nat)(Z:Bool)(P:List Ξ)(Q:List (Δ))(c:Bc):DH:=[none,none,oC [.i most],oC [.i S],oC [.msl 7 1 0 Y],oC [.msl 8 2 0 n],oC [.bool Z],some (.arr 1 P.length (AK AP P)),some (.arr 2 Q.length (AK BT Q)),oC [.i c.1.1,.i c.1.2]]
def zHL (most S:Int)(Y n:Nat)(Z:Bool)(P:List Ξ)(Q:List (Δ)):DH:=[none,none,oC [.i most],oC [.i S],oC [.msl 7 1 0 Y],oC [.msl 8 2 0 n],oC [.bool Z],some (.arr 1 P.length (AK AP P)),some (.arr 2 Q.length (AK BT Q))]
def nE (most S:Int)(P:List Ξ)(c:Bc)(Q:List (Δ)):St:=⟨(AF 42 [(8,.ref 4 0),(9,.ref 5 0),(10,.ref 6 0)]),([none,none,oC [.i most],oC [.i (S-1)],oC [.msl 13 1 0 (P.length+([c.2]:List Ξ).length)],oC [.msl 11 2 0 (Q.length+([(c.1.1,c.1.2)]:List (Δ)).length)],oC [.bool true],none,none,oC [.i c.1.1,.i c.1.2],some (.arr 2 (([(c.1.1,c.1.2)]:List (Δ)).length) (AK BT ([(c.1.1,c.1.2)]:List (Δ)))),some (.arr 2 ((Q++([(c.1.1,c.1.2)]:List (Δ))).length) (AK BT (Q++([(c.1.1,c.1.2)]:List (Δ))))),some (.arr 1 (([c.2]:List Ξ).length) (AK AP ([c.2]:List Ξ))),some (.arr 1 ((P++([c.2]:List Ξ)).length) (AK AP (P++([c.2]:List Ξ))))]:DH)⟩
inductive HP where
 | s0
 | s1 (E2:Int) (Ht:Nat) (DE:List (Δ))
 | s2 (E1:Int) (Ha Hs:Nat) (HZ:Bool) (DD:List Ξ) (DC:List (Δ))
def Uw (most fuel:Int):HP -> DH
 | .s0=>[none,none,oC [.i most],oC [.i fuel],oC [.nils],oC [.nils],oC [.bool false]]
 | .s1 R m O=>[none,none,oC [.i most],oC [.i R],oC [.nils],oC [.msl 7 2 0 m],oC [.bool false],some (.arr 2 O.length (AK BT O))]
 | .s2 S Y n Z P Q=>[none,none,oC [.i most],oC [.i S],oC [.msl 7 1 0 Y],oC [.msl 8 2 0 n],oC [.bool Z],some (.arr 1 P.length (AK AP P)),some (.arr 2 Q.length (AK BT Q))]
def fD (n:Nat)(most fuel:Int)(c:Bc):Option (HP×Nat):= bif (fuel==0) then some (.s0,2) else if AG (fuel-1) then bif (c.1.1 != 4) then some (.s1 (fuel-1) (([(c.1.1,c.1.2)]:List (Δ)).length) ([(c.1.1,c.1.2)]:List (Δ)),0) else bif (((([c.2]:List Ξ).length:Nat):Int)==most) then some (.s2 (fuel-1) (([c.2]:List Ξ).length) (([(c.1.1,c.1.2)]:List (Δ)).length) true ([c.2]:List Ξ) ([(c.1.1,c.1.2)]:List (Δ)),1) else some (.s2 (fuel-1) (([c.2]:List Ξ).length) (([(c.1.1,c.1.2)]:List (Δ)).length) false ([c.2]:List Ξ) ([(c.1.1,c.1.2)]:List (Δ)),0) else none
def fC (n:Nat)(most fuel:Int)(c:Bc)(R:Int)(m:Nat)(O:List (Δ)):Option (HP×Nat):= bif (R==0) then some (.s1 R m O,2) else if AG (R-1)/\ m=O.length/\ O.length+([(c.1.1,c.1.2)]:List (Δ)).length<=Ay then bif (c.1.1 != 4) then some (.s1 (R-1) (O.length+([(c.1.1,c.1.2)]:List (Δ)).length) (O++([(c.1.1,c.1.2)]:List (Δ))),0) else bif (((([c.2]:List Ξ).length:Nat):Int)==most) then some (.s2 (R-1) (([c.2]:List Ξ).length) (O.length+([(c.1.1,c.1.2)]:List (Δ)).length) true ([c.2]:List Ξ) (O++([(c.1.1,c.1.2)]:List (Δ))),1) else some (.s2 (R-1) (([c.2]:List Ξ).length) (O.length+([(c.1.1,c.1.2)]:List (Δ)).length) false ([c.2]:List Ξ) (O++([(c.1.1,c.1.2)]:List (Δ))),0) else none
def fB (n:Nat)(most fuel:Int)(c:Bc)(S:Int)(Y a:Nat)(Z:Bool)(P:List Ξ)(Q:List (Δ)):Option (HP×Nat):= bif (S==0) then some (.s2 S Y a Z P Q,2) else if AG (S-1)/\ a=Q.length/\ Q.length+([(c.1.1,c.1.2)]:List (Δ)).length<=Ay then bif (c.1.1 != 4) then some (.s2 (S-1) Y (Q.length+([(c.1.1,c.1.2)]:List (Δ)).length) Z P (Q++([(c.1.1,c.1.2)]:List (Δ))),0) else if Y=P.length/\ P.length+([c.2]:List Ξ).length<=Ay then bif ((((P.length+([c.2]:List Ξ).length):Nat):Int)==most) then some (.s2 (S-1) (P.length+([c.2]:List Ξ).length) (Q.length+([(c.1.1,c.1.2)]:List (Δ)).length) true (P++([c.2]:List Ξ)) (Q++([(c.1.1,c.1.2)]:List (Δ))),1) else some (.s2 (S-1) (P.length+([c.2]:List Ξ).length) (Q.length+([(c.1.1,c.1.2)]:List (Δ)).length) Z (P++([c.2]:List Ξ)) (Q++([(c.1.1,c.1.2)]:List (Δ))),0) else none else none
def zB4 (n:Nat)(most fuel:Int)(c:Bc):HP -> Option (HP×Nat)
 | .s0=>fD n most fuel c
 | .s1 R m O=>fC n most fuel c R m O
 | .s2 S Y a Z P Q=>fB n most fuel c S Y a Z P Q
def I0 (n:Nat)(most fuel:Int)(c:Bc)(s:HP):Option (HP×Nat):=zB4 n most fuel c s
def zB3 (n:Nat)(most fuel:Int)(l B:Nat)(N:Yd 7)(a:Bc)(s:HP)(r:HP×Nat)(h:I0 n most fuel a s=some r):TA l B N (C1 7 [.ret,.panic (pan HA)] r.2 (Uw most fuel r.1)) Tryz.f26 15 ⟨AF 42 [(6,.ref 2 0),(7,.ref 3 0),(8,.ref 4 0),(9,.ref 5 0),(10,.ref 6 0),(15,.fn 49 2 (L1 [.ref 0 0,.ref 1 0])),(16,.agg 2 (L1 [.i a.1.1,.i a.1.2])),(17,.ints a.2)],Uw most fuel s⟩:=by
 cases s with
 | s0=>
  refine ag HO [0,1,2,3,4,5,6,7] (H0.t) (AF 42 [(6,.ref 2 0),(7,.ref 3 0),(8,.ref 4 0),(9,.ref 5 0),(10,.ref 6 0),(11,.ref 7 0),(12,.ints a.2)]) (zHQ most fuel a) λN=>?_
  revert r;apply gO
  exact bi 19 (λp r h=>by
   cases h;refine gs (Ab 5 HO) [0,1,2,3,4,5,6] p (EP (PD Tryz.f26 15) 5 []) (AF 42 []) (zHP most fuel) ?_;exact pX (o0:=_) (o1:=_) rfl) (gw 22 (jt (ja 25 8 2 (El (c:=BT) (L:=([(a.1.1,a.1.2)]:List (Δ))) (vals:=[.agg 2 (L1 [.i a.1.1,.i a.1.2])]) rfl ⟨⟨_,rfl,⟨Aw,Aw,trivial⟩⟩,trivial⟩) (jg (And.intro (And.intro (And.intro (Eq.refl 0) (Eq.refl 1)) (IR BT ([(a.1.1,a.1.2)]:List (Δ)) (([(a.1.1,a.1.2)]:List (Δ)).length) 2 λ_=>⟨rfl,rfl⟩)) (And.intro (by decide:0<1) (by decide:1<=Ay))) (jt (bi 29 (lF λp=>rr HO [0,1,2,3,4,5,6,9] rfl p) (ja 32 10 1 (El (c:=AP) (L:=([a.2]:List Ξ)) (vals:=[.ints a.2]) rfl ⟨⟨_,rfl,⟨Aw,trivial⟩⟩,trivial⟩) (jg (And.intro (And.intro (And.intro (Eq.refl 0) (Eq.refl 1)) (IR AP ([a.2]:List Ξ) (([a.2]:List Ξ).length) 1 λ_=>⟨rfl,rfl⟩)) (And.intro (by decide:0<1) (by decide:1<=Ay))) (jt (bi 37 (jg eS (jt (jt (jt (jg (Eq.refl (nG most fuel a)) (lF λp=>rr (tg:=[([(2,4)],(nG most fuel a))]) HO [0,1,2,3,4,5,6,11,9] rfl p)))))) (lF λp=>rr HO [0,1,2,3,4,5,6,11,9] rfl p)))))))))))
 | s1 R m O=>
  refine ag HO [0,1,2,3,4,5,6,7,8] (H0.t) (AF 42 [(6,.ref 2 0),(7,.ref 3 0),(8,.ref 4 0),(9,.ref 5 0),(10,.ref 6 0),(11,.ref 8 0),(12,.ints a.2)]) (zHO most R m O a) λN=>?_
  revert r;apply gO
  exact bi 19 (λp r h=>by
   cases h;refine gs (Ab 5 HO) [0,1,2,3,4,5,6,7] p (EP (PD Tryz.f26 15) 5 []) (AF 42 []) (zHN most R m O) ?_;exact pX (o0:=_) (o1:=_) rfl) (gc (gw 22 (jt (ja 25 9 2 (El (c:=BT) (L:=([(a.1.1,a.1.2)]:List (Δ))) (vals:=[.agg 2 (L1 [.i a.1.1,.i a.1.2])]) rfl ⟨⟨_,rfl,⟨Aw,Aw,trivial⟩⟩,trivial⟩) (gc (gn λd=>gn λe=>jg (And.intro (And.intro (And.intro (Eq.refl 0) (Eq.refl 1)) (IR BT ([(a.1.1,a.1.2)]:List (Δ)) (([(a.1.1,a.1.2)]:List (Δ)).length) 2 λ_=>⟨rfl,rfl⟩)) (And.intro (And.intro (Eq.refl 0) d) e)) (ja 26 10 2 (Rn (enc:=(TP BT)) (L:=O) (L':=([(a.1.1,a.1.2)]:List (Δ))) rfl rfl λ_ _ _ _=>Aw) (jt (bi 29 (lF λp=>rr HO [0,1,2,3,4,5,6,10] rfl p) (ja 32 11 1 (El (c:=AP) (L:=([a.2]:List Ξ)) (vals:=[.ints a.2]) rfl ⟨⟨_,rfl,⟨Aw,trivial⟩⟩,trivial⟩) (jg (And.intro (And.intro (And.intro (Eq.refl 0) (Eq.refl 1)) (IR AP ([a.2]:List Ξ) (([a.2]:List Ξ).length) 1 λ_=>⟨rfl,rfl⟩)) (And.intro (by decide:0<1) (by decide:1<=Ay))) (jt (bi 37 (jg eS (jt (jt (jt (jg (Eq.refl (nF most R a O)) (lF λp=>rr (tg:=[([(2,4)],(nF most R a O))]) HO [0,1,2,3,4,5,6,12,10] rfl p)))))) (lF λp=>rr HO [0,1,2,3,4,5,6,12,10] rfl p))))))))))))))
 | s2 S Y b Z P Q=>
  refine ag HO [0,1,2,3,4,5,6,7,8,9] (H0.t) (AF 42 [(6,.ref 2 0),(7,.ref 3 0),(8,.ref 4 0),(9,.ref 5 0),(10,.ref 6 0),(11,.ref 9 0),(12,.ints a.2)]) (zHM most S Y b Z P Q a) λN=>?_
  revert r;apply gO
  exact bi 19 (λp r h=>by
   cases h;refine gs (Ab 5 HO) [0,1,2,3,4,5,6,7,8] p (EP (PD Tryz.f26 15) 5 []) (AF 42 []) (zHL most S Y b Z P Q) ?_;exact pX (o0:=_) (o1:=_) rfl) (gc (gw 22 (jt (ja 25 10 2 (El (c:=BT) (L:=([(a.1.1,a.1.2)]:List (Δ))) (vals:=[.agg 2 (L1 [.i a.1.1,.i a.1.2])]) rfl ⟨⟨_,rfl,⟨Aw,Aw,trivial⟩⟩,trivial⟩) (gc (gn λd=>gn λe=>jg (And.intro (And.intro (And.intro (Eq.refl 0) (Eq.refl 1)) (IR BT ([(a.1.1,a.1.2)]:List (Δ)) (([(a.1.1,a.1.2)]:List (Δ)).length) 2 λ_=>⟨rfl,rfl⟩)) (And.intro (And.intro (Eq.refl 0) d) e)) (ja 26 11 2 (Rn (enc:=(TP BT)) (L:=Q) (L':=([(a.1.1,a.1.2)]:List (Δ))) rfl rfl λ_ _ _ _=>Aw) (jt (bi 29 (lF λp=>rr HO [0,1,2,3,4,5,6,7,11] rfl p) (ja 32 12 1 (El (c:=AP) (L:=([a.2]:List Ξ)) (vals:=[.ints a.2]) rfl ⟨⟨_,rfl,⟨Aw,trivial⟩⟩,trivial⟩) (gc (gn λf=>gn λg=>jg (And.intro (And.intro (And.intro (Eq.refl 0) (Eq.refl 1)) (IR AP ([a.2]:List Ξ) (([a.2]:List Ξ).length) 1 λ_=>⟨rfl,rfl⟩)) (And.intro (And.intro (Eq.refl 0) f) g)) (ja 33 13 1 (Rn (enc:=(TP AP)) (L:=P) (L':=([a.2]:List Ξ)) rfl rfl λ_ _ _ _=>Aw) (jt (bi 37 (jg eS (jt (jt (jt (jg (Eq.refl (nE most S P a Q)) (lF λp=>rr (tg:=[([(2,4)],(nE most S P a Q))]) HO [0,1,2,3,4,5,6,13,11] rfl p)))))) (lF λp=>rr HO [0,1,2,3,4,5,6,13,11] rfl p))))))))))))))))
end
section
set_option maxRecDepth 100000
set_option maxHeartbeats 40000000
def fA:HP -> Option (List Ξ×List (Δ)×Bool)
 | .s0=>some ([],[],false)
 | .s1 _ n t=>if n=t.length then some ([],t,false) else none
 | .s2 _ k n b l t=>if k=l.length/\ n=t.length then some (l,t,b) else none
def O8 (r:HP×Nat):Option (Option (List Ξ×List (Δ)×Bool)):=if r.2=2 then some none else (fA r.1).map λx=>some (x.1,x.2.1,r.2==1&&x.2.2)
def Lx (n:Nat)(q:AA)(pos:Ξ)(most fuel:Int):Option (Option (List Ξ×List (Δ)×Bool)):=(J2 n q pos).bind λl=>(Cj (I0 n most fuel) l .s0).bind O8
def pW (N:Ψ)(ρ:List AI)(w:World):Option (List Ξ×List (Δ)×Bool) -> Ending -> World -> Prop
 | some r,e,w'=>∃ v,e= .returned v/\ CC Tryz.prog GG N [] ρ w true (.tup 3 (L1 [.sl 1 r.1.length (AK AP r.1),.sl 2 r.2.1.length (AK BT r.2.1),.bool r.2.2])) [] v w'
 | none,e,w'=>e= .panicked (pan HA)/\ A0 w w'
variable {w:World}{ρ:List AI}{N:Ψ}
def yz {h:DH}{ρ':List AI}{w':World}(h0:Aq Tryz.prog GG N [] ρ w)(st:A3 [] ρ w h ρ' w'):A0 w w':=by
 have low: ∀ b,MO [] ρ b -> False:=λb ⟨k,_,_,q,_⟩=>by simp at q
 have a:AQ (λ_=>False) w w':=st.upd.mono λb _ c=>low b c
 exact a.toExt λ_ _ h=>h
variable {D:Nat}
def Zr (U:w.heap[D]? =some (.deferred (some []))):Ef D [{ target:=.collected D,args:=#[] }] w:=⟨D,rfl,zGT _,U,λ_ h=>(by cases h),trivial⟩
variable {a0:Act}{w0:World}{ρs ρ0:List AI}{most:Int}
def pa (f:Int)(b:Bool){n:World}(x:Aq Tryz.prog GG N [] ρs n)(K:A3 [] ρs n [none,none,oC [.i most],oC [.i f],oC [.nils],oC [.nils],oC [.bool b]] ρ0 w0)(s:AS Tryz.prog GG N ⟨AF 42 [(8,.ref 4 0),(9,.ref 5 0),(10,.ref 6 0)],[none,none,oC [.i most],oC [.i f],oC [.nils],oC [.nils],oC [.bool b]]⟩ ρ0 a0 w0)(U:w0.heap[D]? =some (.deferred (some [])))(d:GG.ng<=D)(o:n.heap.size<=D):
 LeavesInM Fence.wide 0 Tryz.prog Tryz.f26 a0.tmps (λe w'=>∃ v,e= .returned v/\ CC Tryz.prog GG N [] ρs n true (.tup 3 (L1 [.sl 1 (([]:List Ξ).length) (AK AP ([]:List Ξ)),.sl 2 (([]:List (Δ)).length) (AK BT ([]:List (Δ))),.bool b])) [] v w') [{ target:=.collected D,args:=#[] }] .returning w0:=by
 refine aF (B:=D) _ _ (Zr U) λW j=>?_
 have T:=s.shut (PT (by kernel_rfl)) d j;obtain ⟨v,a,c⟩:=Wp (fn:=Tryz.f26) T x (K.shut (j.mono λ_ _ h=>⟨zGK o h.1,h.2⟩)) [] H0 [.nils,.nils,.bool b] (AN.tupL (l:=[.nils,.nils,.bool b]) (l':=[.sl 1 (([]:List Ξ).length) (AK AP ([]:List Ξ)),.sl 2 (([]:List (Δ)).length) (AK BT ([]:List (Δ))),.bool b]) rfl ⟨(AN.sl_nil _ _),(AN.sl_nil _ _),Aw,trivial⟩) (by kernel_rfl) (by kernel_rfl);exact ⟨v,a,v,rfl,c⟩
def pZ (t:List (Δ))(f:Int)(b:Bool){n:World}(x:Aq Tryz.prog GG N [] ρs n)(K:A3 [] ρs n [none,none,oC [.i most],oC [.i f],oC [.nils],oC [.msl 7 2 0 t.length],oC [.bool b],some (.arr 2 t.length (AK BT t))] ρ0 w0)(s:AS Tryz.prog GG N ⟨AF 42 [(8,.ref 4 0),(9,.ref 5 0),(10,.ref 6 0)],[none,none,oC [.i most],oC [.i f],oC [.nils],oC [.msl 7 2 0 t.length],oC [.bool b],some (.arr 2 t.length (AK BT t))]⟩ ρ0 a0 w0)(U:w0.heap[D]? =some (.deferred (some [])))(d:GG.ng<=D)(o:n.heap.size<=D):
 LeavesInM Fence.wide 0 Tryz.prog Tryz.f26 a0.tmps (λe w'=>∃ v,e= .returned v/\ CC Tryz.prog GG N [] ρs n true (.tup 3 (L1 [.sl 1 (([]:List Ξ).length) (AK AP ([]:List Ξ)),.sl 2 t.length (AK BT t),.bool b])) [] v w') [{ target:=.collected D,args:=#[] }] .returning w0:=by
 refine aF (B:=D) _ _ (Zr U) λW j=>?_
 have T:=s.shut (PT (by kernel_rfl)) d j;obtain ⟨v,a,c⟩:=Wp (fn:=Tryz.f26) T x (K.shut (j.mono λ_ _ h=>⟨zGK o h.1,h.2⟩)) [7] (H0.g (Eq.refl t.length)) [.nils,.sl 2 t.length (AK BT t),.bool b] (AN.tupL (l:=[.nils,.sl 2 t.length (AK BT t),.bool b]) (l':=[.sl 1 (([]:List Ξ).length) (AK AP ([]:List Ξ)),.sl 2 t.length (AK BT t),.bool b]) rfl ⟨(AN.sl_nil _ _),Aw,Aw,trivial⟩) (by kernel_rfl) (by kernel_rfl);exact ⟨v,a,v,rfl,c⟩
def pY (l:List Ξ)(t:List (Δ))(f:Int)(b:Bool){n:World}(x:Aq Tryz.prog GG N [] ρs n)(K:A3 [] ρs n [none,none,oC [.i most],oC [.i f],oC [.msl 7 1 0 l.length],oC [.msl 8 2 0 t.length],oC [.bool b],some (.arr 1 l.length (AK AP l)),some (.arr 2 t.length (AK BT t))] ρ0 w0)(s:AS Tryz.prog GG N ⟨AF 42 [(8,.ref 4 0),(9,.ref 5 0),(10,.ref 6 0)],[none,none,oC [.i most],oC [.i f],oC [.msl 7 1 0 l.length],oC [.msl 8 2 0 t.length],oC [.bool b],some (.arr 1 l.length (AK AP l)),some (.arr 2 t.length (AK BT t))]⟩ ρ0 a0 w0)(U:w0.heap[D]? =some (.deferred (some [])))(d:GG.ng<=D)(o:n.heap.size<=D):
 LeavesInM Fence.wide 0 Tryz.prog Tryz.f26 a0.tmps (λe w'=>∃ v,e= .returned v/\ CC Tryz.prog GG N [] ρs n true (.tup 3 (L1 [.sl 1 l.length (AK AP l),.sl 2 t.length (AK BT t),.bool b])) [] v w') [{ target:=.collected D,args:=#[] }] .returning w0:=by
 refine aF (B:=D) _ _ (Zr U) λW j=>?_
 have T:=s.shut (PT (by kernel_rfl)) d j;obtain ⟨v,a,c⟩:=Wp (fn:=Tryz.f26) T x (K.shut (j.mono λ_ _ h=>⟨zGK o h.1,h.2⟩)) [7,8] (H0.g (Eq.refl l.length) |>.g (Eq.refl t.length)) [.sl 1 l.length (AK AP l),.sl 2 t.length (AK BT t),.bool b] (AN.tupL (l:=[.sl 1 l.length (AK AP l),.sl 2 t.length (AK BT t),.bool b]) (l':=[.sl 1 l.length (AK AP l),.sl 2 t.length (AK BT t),.bool b]) rfl ⟨Aw,Aw,Aw,trivial⟩) (by kernel_rfl) (by kernel_rfl);exact ⟨v,a,v,rfl,c⟩
def na:ST:=.rd 0 (.rd 1 (.ef 2 (.ef 3 (.ef 4 (.fin [] [8,9,10]) (.no)) (.no)) (.no)))
def zAl:B3 (BA Tryz.f26 12) [2] na:=by unfold B3;kernel_rfl
def nD (most fuel:Int):St:=⟨(AF 42 [(8,.ref 4 0),(9,.ref 5 0),(10,.ref 6 0)]),([none,none,oC [.i most],oC [.i fuel],oC [.nils],oC [.nils],oC [.bool false]]:DH)⟩
def nZ:ST:=.rd 0 (.rd 1 (.ef 2 (.ef 3 (.ef 4 (.fin [] [8,9,10]) (.no)) (.no)) (.no)))
def zAk:B3 (BA Tryz.f26 12) [2] nZ:=by unfold B3;kernel_rfl
def nC (most f:Int)(t:List (Δ)):St:=⟨(AF 42 [(8,.ref 4 0),(9,.ref 5 0),(10,.ref 6 0)]),([none,none,oC [.i most],oC [.i f],oC [.nils],oC [.msl 7 2 0 t.length],oC [.bool false],some (.arr 2 t.length (AK BT t))]:DH)⟩
def nY:ST:=.rd 0 (.rd 1 (.ef 2 (.ef 3 (.ef 4 (.fin [] [8,9,10]) (.no)) (.no)) (.no)))
def zAj:B3 (BA Tryz.f26 12) [2] nY:=by unfold B3;kernel_rfl
def nB (most f:Int)(l:List Ξ)(t:List (Δ)):St:=⟨(AF 42 [(8,.ref 4 0),(9,.ref 5 0),(10,.ref 6 0)]),([none,none,oC [.i most],oC [.i f],oC [.msl 7 1 0 l.length],oC [.msl 8 2 0 t.length],oC [.bool false],some (.arr 1 l.length (AK AP l)),some (.arr 2 t.length (AK BT t))]:DH)⟩
def zHK (q:AA)(most fuel:Int):DH:=[oC (AH q),oC [.i most],oC [.i fuel],oC [.nils],oC [.nils],oC [.bool false]]
variable {fuel:Int}{pos:Ξ}{q:AA}{n:Nat}
def zBs {l:List Bc}{rE:HP×Nat}{j:Option (List Ξ×List (Δ)×Bool)}(hy:J2 n q pos=some l)(hf:Cj (I0 n most fuel) l .s0=some rE)(d:O8 rE=some j) 
     (p:AS Tryz.prog GG N ⟨AF 42 [(0,.agg 5 (L1 (AH q))),(1,.ints pos),(2,.i most),(3,.i fuel)],[]⟩ ρ0 a0 w0) (Fe:a0.defers= []):
 Il Fence.wide 0 Tryz.prog 26 (AR Tryz.f26) (bodyPostM Fence.wide 0 Tryz.prog Tryz.f26 (pW N ρ0 w0 j)) a0 w0:=by
 refine Q7 (M2 ?_);refine wr (L:=0) HC.x [1,4,6,7,8,9,10] [0,1,2,3,4,5] [] H0 H0 (AF 42 [(1,.ints pos),(4,.ref 0 0),(6,.ref 1 0),(7,.ref 2 0),(8,.ref 3 0),(9,.ref 4 0),(10,.ref 5 0)]) ([oC (AH q),oC [.i most],oC [.i fuel],oC [.nils],oC [.nils],oC [.bool false]]:DH) p (by kernel_rfl) (by kernel_rfl) λρ1 a1 w1 R1 S GL Dc=>?_
 refine Q7 (Q7 (M2 ?_));refine wr (L:=0) HC.x [6,7,8,9,10,15] [6,7,1,2,3,4,5] [] ((H0.c (em (zEU q pos (rfl:rY n q pos=some ())) [] (zHK q most fuel)))) H0 (AF 42 [(6,.ref 2 0),(7,.ref 3 0),(8,.ref 4 0),(9,.ref 5 0),(10,.ref 6 0),(15,.fn 49 2 (L1 [.ref 0 0,.ref 1 0]))]) ([oC (AH q),oC [.ints pos],oC [.i most],oC [.i fuel],oC [.nils],oC [.nils],oC [.bool false]]:DH) R1 (by kernel_rfl) (by kernel_rfl) λρ2 m w2 R2 V JO MH=>?_
 obtain ⟨ρ3,X,Y,SR⟩:=A8.ros (L:=0) (fr:=AF 42 [(6,.ref 2 0),(7,.ref 3 0),(8,.ref 4 0),(9,.ref 5 0),(10,.ref 6 0),(15,.fn 49 2 (L1 [.ref 0 0,.ref 1 0]))]) (h:=[oC (AH q),oC [.ints pos],oC [.i most],oC [.i fuel],oC [.nils],oC [.nils],oC [.bool false]]) (h':=PQ q pos 0++[oC [.i most],oC [.i fuel],oC [.nils],oC [.nils],oC [.bool false]]) [0,1] (by kernel_rfl) (by kernel_rfl) Tryz.prog GG N _ _ _ R2;refine xd ?_;have HY:YW Tryz.prog GG gL 49 (λl=>.yl l::(List.range 2).map (L1 [.ref 0 0,.ref 1 0])) (λ_=>PQ q pos 0) (l.map TO):=zEN q pos l hy;refine zDA (KK:=7) (T:=[oC [.i most],oC [.i fuel],oC [.nils],oC [.nils],oC [.bool false]]) ⟨_,Tryz.func26⟩ X (by kernel_rfl) HY (by kernel_rfl) (by kernel_rfl) (λx k=>by obtain ⟨z,_,rfl⟩:=zIH.1 k;rfl) (by kernel_rfl) ⟨.s0,by rw [zJ5];exact hf,rfl⟩ (zCJ [.ret] rfl (pan HA) TO l (I0 n most fuel) (Uw most fuel) (λJ=>AF 42 [(6,.ref 2 0),(7,.ref 3 0),(8,.ref 4 0),(9,.ref 5 0),(10,.ref 6 0),(15,.fn 49 2 (L1 [.ref 0 0,.ref 1 0])),(16,.agg 2 (L1 [.i J.1.1,.i J.1.2])),(17,.ints J.2)]) (λl B N x s r h=>zB3 n most fuel l B N x s r h) (λs=>by cases s <;> kernel_rfl) (by kernel_rfl)) λD e h8 ρ8 H hl K M7 aJ U Z=>?_
 have O:=((S.trans V).trans Y).trans M7;have y:GG.ng<=D:=zGK (GG.lo _ X.hr.gi) Z;have v:w0.heap.size<=D:=zGK (((S.trans V).trans Y).upd.size) Z;have M:m.defers= []:=by rw [JO,GL,Fe]
 have P: ∀ {a:Act},a.defers= { target:=.collected D,args:=#[] }::m.defers -> a.defers= [{ target:=.collected D,args:=#[] }]:=λh=>by rw [h,M]
 rcases hl with ⟨rfl,s,I,rfl⟩ | ⟨k,Q,rfl⟩ | ⟨c,rfl,rfl,h2,rfl⟩
 ·rw [zGX,zM6] at I;have e:(s,0)=rE:=zGJ I;subst e;have o:AS Tryz.prog GG N ⟨AF 42 [(6,.ref 2 0),(7,.ref 3 0),(8,.ref 4 0),(9,.ref 5 0),(10,.ref 6 0),(15,.fn 49 2 (L1 [.ref 0 0,.ref 1 0]))],Uw most fuel s⟩ ρ8 { m with defers:={ target:=.collected D,args:=#[] }::m.defers } H:=⟨K.hr,K.fr⟩;cases s with
  | s0=>
   cases d;refine Q7 (M2 ?_);refine dK (L:=0) HC.x [2] na zAl [([(2,4)],(nD most fuel))] [8,9,10] [0,1,2,3,4,5,6] [] ((H0.t |>.t |>.t |>.g (Eq.refl (nD most fuel)))) H0 (AF 42 [(8,.ref 4 0),(9,.ref 5 0),(10,.ref 6 0)]) ([none,none,oC [.i most],oC [.i fuel],oC [.nils],oC [.nils],oC [.bool false]]:DH) o (by kernel_rfl) λρ10 A C F u G sO=>?_
   refine M2 (zNR ?_)
   show LeavesInM _ _ _ _ _ _ A.defers .returning C
   rw [P G];exact pa fuel false p.hr (O.trans u) F (kg o.hr u U) y v
  | s1 f w t=>
   have d:(if w=t.length then some ([],t,false) else none:Option (List Ξ×List (Δ)×Bool)).map (λx=>some (x.1,x.2.1,false))=some j:=d;obtain ⟨x,k,rfl⟩:=zIO.1 d;obtain ⟨rfl,E⟩:=DI k;cases E;refine Q7 (M2 ?_);refine dK (L:=0) HC.x [2] nZ zAk [([(2,4)],(nC most f t))] [8,9,10] [0,1,2,3,4,5,6,7] [] ((H0.t |>.t |>.t |>.g (Eq.refl (nC most f t)))) H0 (AF 42 [(8,.ref 4 0),(9,.ref 5 0),(10,.ref 6 0)]) ([none,none,oC [.i most],oC [.i f],oC [.nils],oC [.msl 7 2 0 t.length],oC [.bool false],some (.arr 2 t.length (AK BT t))]:DH) o (by kernel_rfl) λρ10 A C F u G sO=>?_
   refine M2 (zNR ?_)
   show LeavesInM _ _ _ _ _ _ A.defers .returning C
   rw [P G];exact pZ t f false p.hr (O.trans u) F (kg o.hr u U) y v
  | s2 f R w b l t=>
   have d:(if R=l.length/\ w=t.length then some (l,t,b) else none:Option (List Ξ×List (Δ)×Bool)).map (λx=>some (x.1,x.2.1,false))=some j:=d;obtain ⟨x,k,rfl⟩:=zIO.1 d;obtain ⟨⟨rfl,rfl⟩,E⟩:=DI k;cases E;refine Q7 (M2 ?_);refine dK (L:=0) HC.x [2] nY zAj [([(2,4)],(nB most f l t))] [8,9,10] [0,1,2,3,4,5,6,7,8] [] ((H0.t |>.t |>.t |>.g (Eq.refl (nB most f l t)))) H0 (AF 42 [(8,.ref 4 0),(9,.ref 5 0),(10,.ref 6 0)]) ([none,none,oC [.i most],oC [.i f],oC [.msl 7 1 0 l.length],oC [.msl 8 2 0 t.length],oC [.bool false],some (.arr 1 l.length (AK AP l)),some (.arr 2 t.length (AK BT t))]:DH) o (by kernel_rfl) λρ10 A C F u G sO=>?_
   refine M2 (zNR ?_)
   show LeavesInM _ _ _ _ _ _ A.defers .returning C
   rw [P G];exact pY l t f false p.hr (O.trans u) F (kg o.hr u U) y v
 ·obtain ⟨s,c⟩:=rE
  have hc:c=1/\ e= .ret:=by
   rcases c with _ | _ | c
   ·cases Q;cases k
   ·cases Q;exact ⟨rfl,rfl⟩
   ·exact absurd Q (by simp)
  obtain ⟨rfl,rfl⟩:=hc;have o:AS Tryz.prog GG N ⟨AF 42 [(8,.ref 4 0),(9,.ref 5 0),(10,.ref 6 0)],Uw most fuel s⟩ ρ8 m H:=K.forg [8,9,10] rfl (by kernel_rfl)
  show LeavesInM _ _ _ _ _ _ ({ target:=.collected D,args:=#[] }::m.defers) .returning H
  rw [M];cases s with
  | s0=>
   cases d;exact pa (a0:=m) fuel false p.hr O o U y v
  | s1 f w t=>
   have d:(if w=t.length then some ([],t,false) else none:Option (List Ξ×List (Δ)×Bool)).map (λx=>some (x.1,x.2.1,x.2.2))=some j:=d;obtain ⟨x,k,rfl⟩:=zIO.1 d;obtain ⟨rfl,E⟩:=DI k;cases E;exact pZ (a0:=m) t f false p.hr O o U y v
  | s2 f R w b l t=>
   have d:(if R=l.length/\ w=t.length then some (l,t,b) else none:Option (List Ξ×List (Δ)×Bool)).map (λx=>some (x.1,x.2.1,x.2.2))=some j:=d;obtain ⟨x,k,rfl⟩:=zIO.1 d;obtain ⟨⟨rfl,rfl⟩,E⟩:=DI k;cases E;exact pY (a0:=m) l t f b p.hr O o U y v
 ·have d:(some none:Option (Option (List Ξ×List (Δ)×Bool)))=some j:=by
   rw [←d];unfold O8;exact (zEZ (show rE.2=2 from h2)).symm
  cases d
  show LeavesInM _ _ _ _ _ _ ({ target:=.collected D,args:=#[] }::m.defers) (.panicking (pan HA)) H
  rw [M];exact aG (B:=D) (by simp) _ _ (Zr U) λW I=>⟨rfl,yz p.hr (O.shut (I.mono λ_ _ h=>⟨zGK v h.1,h.2⟩))⟩
def pR {a:Option (List Ξ×List (Δ)×Bool)}(h:Lx n q pos most fuel=some a){args:Array Value}(HR:Aq Tryz.prog GG N [] ρ w)(b:BE (MS N [] ρ) w ρ [.agg 5 (L1 (AH q)),.ints pos,.i most,.i fuel] args):CallsIn Fence.wide 0 Tryz.prog 26 args w (pW N ρ w a):=by
 obtain ⟨l,hy,h⟩:=Gg h;obtain ⟨rE,M,x⟩:=Gg h;refine zLL (c:=AR Tryz.f26) Tryz.func26 (by kernel_rfl) trivial ?_;refine zBs hy M x (N:=N) (ρ0:=ρ) ⟨HR,?_⟩ rfl;have d:([.agg 5 (L1 (AH q)),.ints pos,.i most,.i fuel]:List DV).length=args.size:=b.1;have e:([.agg 5 (L1 (AH q)),.ints pos,.i most,.i fuel]:List DV)++List.replicate (Tryz.f26.ntmps-([.agg 5 (L1 (AH q)),.ints pos,.i most,.i fuel]:List DV).length) .any=AF 42 [(0,.agg 5 (L1 (AH q))),(1,.ints pos),(2,.i most),(3,.i fuel)]:=by kernel_rfl
 rw [←e,d];exact BE.append b (BE.anys _ _ _ _)
def pQ {r:List Ξ×List (Δ)×Bool}(h:Lx n q pos most fuel=some (some r)):EQ 26 [.agg 5 (L1 (AH q)),.ints pos,.i most,.i fuel] [] (.tup 3 (L1 [.sl 1 r.1.length (AK AP r.1),.sl 2 r.2.1.length (AK BT r.2.1),.bool r.2.2])) [] true:=by
 have k:(Tryz.f26.name== "runtime.NumGoroutine")=false:=by kernel_rfl
 exact ⟨⟨Tryz.f26,Tryz.func26,by simpa using k,by kernel_rfl⟩,λN ρ w args HR C=>(zM4 (n:=0)).1 (pR h HR C)⟩
def pP (h:Lx n q pos most fuel=some none):xM 26 [.agg 5 (L1 (AH q)),.ints pos,.i most,.i fuel] HA:=
 ⟨λargs W=>JT Tryz.func26 (by kernel_rfl) (by kernel_rfl) args W,λ_ _ _ _ HR c=>pR h HR c⟩
end
abbrev zMY:=@Go.wpIn_cond_false
abbrev zNT:=@Go.wpSIn_region
section
set_option maxRecDepth 100000
set_option maxHeartbeats 40000000
def vr (I:Value)(w0:World):CallsDIn Fence.wide (0-1) Tryz.prog 25 #[I] .returning w0 λe w w'=>(∃ v,e= .returned v)/\ w= .returning/\ w'=w0:=by
 refine callsDIn_of_wpSIn Tryz.func25 rfl trivial λB cs q=>?_
 apply wpSIn_seq;apply zNT;simp [wpOpsSIn,go_sem,recoverD,q,Tryz.ntmps25,Exit.thenS,Fence.wide];apply wpSIn_seq;apply zNT;simp [wpOpsSIn,go_sem,Exit.thenS];refine wpSIn_cond (t:=false) (by simp [Act.eval,Array.replicate]) ?_;simp only [zIp,zMy];refine wpSIn_of_wpIn rfl (zNM ?_);cases B
 simp_all [bodyPostS,results,Tryz.results25,go_sem]
variable {I:Value}{w0:World}{ρ0:List AI}{N:Ψ}{x:Int}{q:AA}
def zLI (HR:Aq Tryz.prog GG N [oC [.i x],oC (AH q)] ρ0 w0)(w:AJ (MS N [oC [.i x],oC (AH q)] ρ0) w0 (.ref 0 0) ρ0 I):
 CallsDIn Fence.wide (0-1) Tryz.prog 25 #[I] (.panicking (pan HA)) w0 λe a w'=>(∃ v,e= .returned v)/\ a= .panicking [{ v:=HA,recovered:=true }]/\ ∃ ρ',Aq Tryz.prog GG N [oC [.i 220],oC (AH q)] ρ' w'/\ A3 [oC [.i x],oC (AH q)] ρ0 w0 [oC [.i 220],oC (AH q)] ρ' w'/\ CA 2 ρ0 ρ':=by
 refine callsDIn_of_wpSIn Tryz.func25 rfl trivial λc₀ cs b=>?_
 apply wpSIn_seq;apply zNT;simp [wpOpsSIn,go_sem,recoverD,b,Tryz.ntmps25,Exit.thenS,Fence.wide,pan,HA];apply wpSIn_seq;apply zNT;simp [wpOpsSIn,go_sem,Exit.thenS];refine wpSIn_cond (t:=true) (by simp [Act.eval,Array.replicate]) ?_;simp only [zI6];refine wpSIn_of_wpIn rfl ?_
 have s:AS Tryz.prog GG N ⟨AF 13 [(0,.ref 0 0),(2,.i 220)],[oC [.i x],oC (AH q)]⟩ ρ0 { tmps:=#[I]++((((((((Array.replicate 12 undef).setIfInBounds 4 (Value.iface 30 (Value.int IntKind.i64 220))).setIfInBounds 5 (Value.tuple #[Value.int IntKind.i64 220,Value.bool true])).setIfInBounds 3 (Value.tuple #[Value.int IntKind.i64 220,Value.bool true])).setIfInBounds 6 (Value.int IntKind.i64 220)).setIfInBounds 7 (Value.bool true)).setIfInBounds 1 (Value.int IntKind.i64 220)).setIfInBounds 2 (Value.bool true)).setIfInBounds 8 (Value.bool true),defers:=[] } w0:=by
  refine ⟨HR,rfl,λj d=>?_⟩;have d:j<13:=d
  match j,d with
  | 0,_=>exact w
  | 2,_=>exact rfl
  | 1,_=>trivial
  | 3,_=>trivial
  | 4,_=>trivial
  | 5,_=>trivial
  | 6,_=>trivial
  | 7,_=>trivial
  | 8,_=>trivial
  | 9,_=>trivial
  | 10,_=>trivial
  | 11,_=>trivial
  | 12,_=>trivial
  | j+13,d=>exact absurd d (by omega)
 refine wr (L:=2) HC.x [] [0,1] [] ((H0.t)) H0 (AF 13 []) ([oC [.i 220],oC (AH q)]:DH) s (by kernel_rfl) (by kernel_rfl) λρ1 a1 w1 H c D g=>?_
 simp [bodyPostS,results,Tryz.results25,D,go_sem];exact ⟨ρ1,H.hr,c,g⟩
variable {fuel:Int}
def vt (HR:Aq Tryz.prog GG N [oC [.i x],oC [.i fuel],oC (AH q)] ρ0 w0)(w:AJ (MS N [oC [.i x],oC [.i fuel],oC (AH q)] ρ0) w0 (.ref 0 0) ρ0 I):
 CallsDIn Fence.wide (0-1) Tryz.prog 25 #[I] (.panicking (pan HA)) w0 λe a w'=>(∃ v,e= .returned v)/\ a= .panicking [{ v:=HA,recovered:=true }]/\ ∃ ρ',Aq Tryz.prog GG N [oC [.i 220],oC [.i fuel],oC (AH q)] ρ' w'/\ A3 [oC [.i x],oC [.i fuel],oC (AH q)] ρ0 w0 [oC [.i 220],oC [.i fuel],oC (AH q)] ρ' w'/\ CA 3 ρ0 ρ':=by
 refine callsDIn_of_wpSIn Tryz.func25 rfl trivial λc₀ cs b=>?_
 apply wpSIn_seq;apply zNT;simp [wpOpsSIn,go_sem,recoverD,b,Tryz.ntmps25,Exit.thenS,Fence.wide,pan,HA];apply wpSIn_seq;apply zNT;simp [wpOpsSIn,go_sem,Exit.thenS];refine wpSIn_cond (t:=true) (by simp [Act.eval,Array.replicate]) ?_;simp only [zI6];refine wpSIn_of_wpIn rfl ?_
 have s:AS Tryz.prog GG N ⟨AF 13 [(0,.ref 0 0),(2,.i 220)],[oC [.i x],oC [.i fuel],oC (AH q)]⟩ ρ0 { tmps:=#[I]++((((((((Array.replicate 12 undef).setIfInBounds 4 (Value.iface 30 (Value.int IntKind.i64 220))).setIfInBounds 5 (Value.tuple #[Value.int IntKind.i64 220,Value.bool true])).setIfInBounds 3 (Value.tuple #[Value.int IntKind.i64 220,Value.bool true])).setIfInBounds 6 (Value.int IntKind.i64 220)).setIfInBounds 7 (Value.bool true)).setIfInBounds 1 (Value.int IntKind.i64 220)).setIfInBounds 2 (Value.bool true)).setIfInBounds 8 (Value.bool true),defers:=[] } w0:=by
  refine ⟨HR,rfl,λj d=>?_⟩;have d:j<13:=d
  match j,d with
  | 0,_=>exact w
  | 2,_=>exact rfl
  | 1,_=>trivial
  | 3,_=>trivial
  | 4,_=>trivial
  | 5,_=>trivial
  | 6,_=>trivial
  | 7,_=>trivial
  | 8,_=>trivial
  | 9,_=>trivial
  | 10,_=>trivial
  | 11,_=>trivial
  | 12,_=>trivial
  | j+13,d=>exact absurd d (by omega)
 refine wr (L:=3) HC.x [] [0,1,2] [] ((H0.t)) H0 (AF 13 []) ([oC [.i 220],oC [.i fuel],oC (AH q)]:DH) s (by kernel_rfl) (by kernel_rfl) λρ1 a1 w1 H c D g=>?_
 simp [bodyPostS,results,Tryz.results25,D,go_sem];exact ⟨ρ1,H.hr,c,g⟩
variable {p2:Value}{u:FrameMode}
def zJn (HR:Aq Tryz.prog GG N [oC [.i 0],oC [.i fuel],oC (AH q)] ρ0 w0)(a:AJ (MS N [oC [.i 0],oC [.i fuel],oC (AH q)] ρ0) w0 (.ref 0 0) ρ0 I)(z:AJ (MS N [oC [.i 0],oC [.i fuel],oC (AH q)] ρ0) w0 (.ref 1 0) ρ0 p2):
 CallsDIn Fence.wide (0-1) Tryz.prog 24 #[I,p2] u w0 λe w w'=>(∃ v,e= .returned v)/\ w=u/\ ∃ ρ',Aq Tryz.prog GG N [oC [.i 0],oC [.i fuel],oC (AH q)] ρ' w'/\ A3 [oC [.i 0],oC [.i fuel],oC (AH q)] ρ0 w0 [oC [.i 0],oC [.i fuel],oC (AH q)] ρ' w'/\ CA 3 ρ0 ρ':=by
 have key:CallsDIn Fence.wide (0-1) Tryz.prog 24 #[I,p2] u w0 λe w w'=>w=u/\ ((∃ v,e= .returned v)/\ ∃ ρ',Aq Tryz.prog GG N [oC [.i 0],oC [.i fuel],oC (AH q)] ρ' w'/\ A3 [oC [.i 0],oC [.i fuel],oC (AH q)] ρ0 w0 [oC [.i 0],oC [.i fuel],oC (AH q)] ρ' w'/\ CA 3 ρ0 ρ'):=by
  refine callsDIn_of_wp (c:=AR Tryz.f24) Tryz.func24 (by kernel_rfl) trivial ?_
  have s:AS Tryz.prog GG N ⟨AF 8 [(0,.ref 0 0),(1,.ref 1 0)],[oC [.i 0],oC [.i fuel],oC (AH q)]⟩ ρ0 { tmps:=#[I,p2]++Array.replicate (Tryz.f24.ntmps- #[I,p2].size) undef,defers:=[] } w0:=by
   refine ⟨HR,?_⟩;have f:BE (MS N [oC [.i 0],oC [.i fuel],oC (AH q)] ρ0) w0 ρ0 [.ref 0 0,.ref 1 0] #[I,p2]:=⟨rfl,λj d=>match j,d with | 0,_=>a | 1,_=>z | j+2,d=>absurd d (by simp)⟩;exact BE.append f (BE.anys _ _ _ 6)
  refine zIw ?_;refine wr (L:=3) HC.x [0,7] [0,1,2] [] H0 H0 (AF 8 [(0,.ref 0 0),(7,.bool false)]) ([oC [.i 0],oC [.i fuel],oC (AH q)]:DH) s (by kernel_rfl) (by kernel_rfl) λρ1 a1 w1 H b D g=>?_
  refine zMY (BW H (.tmp 7)) (zNM ?_);refine ⟨by rw [D],?_⟩;simp [results,Tryz.results24,go_sem];exact ⟨ρ1,H.hr,b,g⟩
 exact key.mono λe w w' ⟨h,k,l⟩=>⟨k,h,l⟩
def zJm (c:decide (fuel>65536)=true)(HR:Aq Tryz.prog GG N [oC [.i 220],oC [.i fuel],oC (AH q)] ρ0 w0)(a:AJ (MS N [oC [.i 220],oC [.i fuel],oC (AH q)] ρ0) w0 (.ref 0 0) ρ0 I)(z:AJ (MS N [oC [.i 220],oC [.i fuel],oC (AH q)] ρ0) w0 (.ref 1 0) ρ0 p2):
 CallsDIn Fence.wide (0-1) Tryz.prog 24 #[I,p2] u w0 λe w w'=>(∃ v,e= .returned v)/\ w=u/\ ∃ ρ',Aq Tryz.prog GG N [oC [.i 2],oC [.i fuel],oC (AH q)] ρ' w'/\ A3 [oC [.i 220],oC [.i fuel],oC (AH q)] ρ0 w0 [oC [.i 2],oC [.i fuel],oC (AH q)] ρ' w'/\ CA 3 ρ0 ρ':=by
 have key:CallsDIn Fence.wide (0-1) Tryz.prog 24 #[I,p2] u w0 λe w w'=>w=u/\ ((∃ v,e= .returned v)/\ ∃ ρ',Aq Tryz.prog GG N [oC [.i 2],oC [.i fuel],oC (AH q)] ρ' w'/\ A3 [oC [.i 220],oC [.i fuel],oC (AH q)] ρ0 w0 [oC [.i 2],oC [.i fuel],oC (AH q)] ρ' w'/\ CA 3 ρ0 ρ'):=by
  refine callsDIn_of_wp (c:=AR Tryz.f24) Tryz.func24 (by kernel_rfl) trivial ?_
  have s:AS Tryz.prog GG N ⟨AF 8 [(0,.ref 0 0),(1,.ref 1 0)],[oC [.i 220],oC [.i fuel],oC (AH q)]⟩ ρ0 { tmps:=#[I,p2]++Array.replicate (Tryz.f24.ntmps- #[I,p2].size) undef,defers:=[] } w0:=by
   refine ⟨HR,?_⟩;have f:BE (MS N [oC [.i 220],oC [.i fuel],oC (AH q)] ρ0) w0 ρ0 [.ref 0 0,.ref 1 0] #[I,p2]:=⟨rfl,λj d=>match j,d with | 0,_=>a | 1,_=>z | j+2,d=>absurd d (by simp)⟩;exact BE.append f (BE.anys _ _ _ 6)
  refine zIw ?_;refine wr (L:=3) HC.x [0,7] [0,1,2] [] H0 H0 (AF 8 [(0,.ref 0 0),(7,.bool (decide (fuel>65536)))]) ([oC [.i 220],oC [.i fuel],oC (AH q)]:DH) s (by kernel_rfl) (by kernel_rfl) λρ1 T w1 H b D g=>?_
  refine wpIn_cond_true ((show T.eval (.tmp 7)= .bool (decide (fuel>65536)) from BW H (.tmp 7)).trans (by rw [c])) ?_;refine wr (L:=3) HC.x [] [0,1,2] [] ((H0.t)) H0 (AF 8 []) ([oC [.i 2],oC [.i fuel],oC (AH q)]:DH) H (by kernel_rfl) (by kernel_rfl) λρ2 a2 w2 h k l S=>?_
  refine ⟨by rw [l,D],?_⟩;simp [results,Tryz.results24,go_sem];exact ⟨ρ2,h.hr,(b.trans k),(CA.trans g S)⟩
 exact key.mono λe w w' ⟨m,n,o⟩=>⟨n,m,o⟩
def zJl (c:decide (fuel>65536)=false)(HR:Aq Tryz.prog GG N [oC [.i 220],oC [.i fuel],oC (AH q)] ρ0 w0)(a:AJ (MS N [oC [.i 220],oC [.i fuel],oC (AH q)] ρ0) w0 (.ref 0 0) ρ0 I)(z:AJ (MS N [oC [.i 220],oC [.i fuel],oC (AH q)] ρ0) w0 (.ref 1 0) ρ0 p2):
 CallsDIn Fence.wide (0-1) Tryz.prog 24 #[I,p2] u w0 λe w w'=>(∃ v,e= .returned v)/\ w=u/\ ∃ ρ',Aq Tryz.prog GG N [oC [.i 220],oC [.i fuel],oC (AH q)] ρ' w'/\ A3 [oC [.i 220],oC [.i fuel],oC (AH q)] ρ0 w0 [oC [.i 220],oC [.i fuel],oC (AH q)] ρ' w'/\ CA 3 ρ0 ρ':=by
 have key:CallsDIn Fence.wide (0-1) Tryz.prog 24 #[I,p2] u w0 λe w w'=>w=u/\ ((∃ v,e= .returned v)/\ ∃ ρ',Aq Tryz.prog GG N [oC [.i 220],oC [.i fuel],oC (AH q)] ρ' w'/\ A3 [oC [.i 220],oC [.i fuel],oC (AH q)] ρ0 w0 [oC [.i 220],oC [.i fuel],oC (AH q)] ρ' w'/\ CA 3 ρ0 ρ'):=by
  refine callsDIn_of_wp (c:=AR Tryz.f24) Tryz.func24 (by kernel_rfl) trivial ?_
  have s:AS Tryz.prog GG N ⟨AF 8 [(0,.ref 0 0),(1,.ref 1 0)],[oC [.i 220],oC [.i fuel],oC (AH q)]⟩ ρ0 { tmps:=#[I,p2]++Array.replicate (Tryz.f24.ntmps- #[I,p2].size) undef,defers:=[] } w0:=by
   refine ⟨HR,?_⟩;have f:BE (MS N [oC [.i 220],oC [.i fuel],oC (AH q)] ρ0) w0 ρ0 [.ref 0 0,.ref 1 0] #[I,p2]:=⟨rfl,λj d=>match j,d with | 0,_=>a | 1,_=>z | j+2,d=>absurd d (by simp)⟩;exact BE.append f (BE.anys _ _ _ 6)
  refine zIw ?_;refine wr (L:=3) HC.x [0,7] [0,1,2] [] H0 H0 (AF 8 [(0,.ref 0 0),(7,.bool (decide (fuel>65536)))]) ([oC [.i 220],oC [.i fuel],oC (AH q)]:DH) s (by kernel_rfl) (by kernel_rfl) λρ1 T w1 H b D g=>?_
  refine zMY ((show T.eval (.tmp 7)= .bool (decide (fuel>65536)) from BW H (.tmp 7)).trans (by rw [c])) (zNM ?_);refine ⟨by rw [D],?_⟩;simp [results,Tryz.results24,go_sem];exact ⟨ρ1,H.hr,b,g⟩
 exact key.mono λe w w' ⟨h,k,l⟩=>⟨k,h,l⟩
end
section
set_option maxRecDepth 100000
set_option maxHeartbeats 40000000
variable {a0:Act}{n w0:World}{ρs ρ0:List AI}{N:Ψ}{b s:DV}{e fuel:Int}{t:List (Δ)}{l:List Ξ}{q:AA}
def kU (k:AN b (.sl 1 l.length (AK AP l)))(a:AN s (.sl 2 t.length (AK BT t)))(x:Aq Tryz.prog GG N [] ρs n)(K:A3 [] ρs n [oC [.i e],oC [.i fuel],oC (AH q)] ρ0 w0)(c:AS Tryz.prog GG N ⟨AF 39 [(6,b),(7,s),(8,.ref 0 0)],[oC [.i e],oC [.i fuel],oC (AH q)]⟩ ρ0 a0 w0):LeavesInM Fence.wide 0 Tryz.prog Tryz.f10 a0.tmps (λw w'=>∃ v,w= .returned v/\ CC Tryz.prog GG N [] ρs n true (.tup 3 (L1 [.sl 1 l.length (AK AP l),.sl 2 t.length (AK BT t),.i e])) [] v w') [] .returning w0:=by
 obtain ⟨v,d,f⟩:=Wp (fn:=Tryz.f10) c x K [] H0 [b,s,.i e] (AN.tupL (l:=[b,s,.i e]) (l':=[.sl 1 l.length (AK AP l),.sl 2 t.length (AK BT t),.i e]) rfl ⟨k,a,Aw,trivial⟩) (by kernel_rfl) (by kernel_rfl);exact ⟨v,d,v,rfl,f⟩
variable {J I:Value}
def ur (k:AN b (.sl 1 l.length (AK AP l)))(f:AN s (.sl 2 t.length (AK BT t)))(x:Aq Tryz.prog GG N [] ρs n)(K:A3 [] ρs n [oC [.i 0],oC [.i fuel],oC (AH q)] ρ0 w0)(g:(AF 39 [(6,b),(7,s),(8,.ref 0 0)]).all (C5 3)=true)(a:AS Tryz.prog GG N ⟨AF 39 [(6,b),(7,s),(8,.ref 0 0)],[oC [.i 0],oC [.i fuel],oC (AH q)]⟩ ρ0 a0 w0)(C:BE (MS N [oC [.i 0],oC [.i fuel],oC (AH q)] ρ0) w0 ρ0 [.ref 0 0,.ref 1 0] #[J,I]):LeavesInM Fence.wide 0 Tryz.prog Tryz.f10 a0.tmps (λw w'=>∃ v,w= .returned v/\ CC Tryz.prog GG N [] ρs n true (.tup 3 (L1 [.sl 1 l.length (AK AP l),.sl 2 t.length (AK BT t),.i 0])) [] v w') [{ target:=.fn (.func 25) #[],args:=#[J] },{ target:=.fn (.func 24) #[J,I],args:=#[] }] .returning w0:=by
 refine Nm (by simp) (λargs W=>JT Tryz.func25 (by kernel_rfl) (by kernel_rfl) args W) (by simp: #[J]++(#[]:Array Value)= #[J]) ?_;refine (vr J w0).mono ?_;rintro e h w1 ⟨⟨v,rfl⟩,rfl,rfl⟩;refine Nm (by simp [settle]) (λargs W=>JT Tryz.func24 (by kernel_rfl) (by kernel_rfl) args W) (by simp:(#[]:Array Value)++#[J,I]= #[J,I]) ?_;refine (zJn a.hr (C.at 0) (C.at 1)).mono ?_;rintro e h w' ⟨⟨v,rfl⟩,rfl,ρ1,c,d,j⟩;exact kU (a0:=a0) (e:=0) k f x (K.trans d) ⟨c,G9 (L:=3) a.fr g c d j⟩
def zJj (m:AN b (.sl 1 l.length (AK AP l)))(o:AN s (.sl 2 t.length (AK BT t)))(x:Aq Tryz.prog GG N [] ρs n)(K:A3 [] ρs n [oC [.i 0],oC [.i fuel],oC (AH q)] ρ0 w0)(f:(AF 39 [(6,b),(7,s),(8,.ref 0 0)]).all (C5 3)=true)(g:AS Tryz.prog GG N ⟨AF 39 [(6,b),(7,s),(8,.ref 0 0)],[oC [.i 0],oC [.i fuel],oC (AH q)]⟩ ρ0 a0 w0)(C:BE (MS N [oC [.i 0],oC [.i fuel],oC (AH q)] ρ0) w0 ρ0 [.ref 0 0,.ref 1 0] #[J,I])(c:decide (fuel>65536)=true):LeavesInM Fence.wide 0 Tryz.prog Tryz.f10 a0.tmps (λw w'=>∃ v,w= .returned v/\ CC Tryz.prog GG N [] ρs n true (.tup 3 (L1 [.sl 1 l.length (AK AP l),.sl 2 t.length (AK BT t),.i 2])) [] v w') [{ target:=.fn (.func 25) #[],args:=#[J] },{ target:=.fn (.func 24) #[J,I],args:=#[] }] (.panicking (pan HA)) w0:=by
 refine Nm (by simp) (λargs W=>JT Tryz.func25 (by kernel_rfl) (by kernel_rfl) args W) (by simp: #[J]++(#[]:Array Value)= #[J]) ?_;refine (vt g.hr (C.at 0)).mono ?_;rintro e p w1 ⟨⟨v,rfl⟩,rfl,ρ1,a,d,h⟩;have T:=G9 (L:=3) g.fr f a d h;have k:=G9 (L:=3) C (by kernel_rfl) a d h;refine Nm (by simp [settle]) (λargs W=>JT Tryz.func24 (by kernel_rfl) (by kernel_rfl) args W) (by simp:(#[]:Array Value)++#[J,I]= #[J,I]) ?_;refine (zJm c a (k.at 0) (k.at 1)).mono ?_;rintro e p w' ⟨⟨v,rfl⟩,rfl,ρ2,R,j,S⟩;exact kU (a0:=a0) (e:=2) m o x ((K.trans d).trans j) ⟨R,G9 (L:=3) T f R j S⟩
def zJi (m:AN b (.sl 1 l.length (AK AP l)))(o:AN s (.sl 2 t.length (AK BT t)))(x:Aq Tryz.prog GG N [] ρs n)(K:A3 [] ρs n [oC [.i 0],oC [.i fuel],oC (AH q)] ρ0 w0)(f:(AF 39 [(6,b),(7,s),(8,.ref 0 0)]).all (C5 3)=true)(g:AS Tryz.prog GG N ⟨AF 39 [(6,b),(7,s),(8,.ref 0 0)],[oC [.i 0],oC [.i fuel],oC (AH q)]⟩ ρ0 a0 w0)(C:BE (MS N [oC [.i 0],oC [.i fuel],oC (AH q)] ρ0) w0 ρ0 [.ref 0 0,.ref 1 0] #[J,I])(c:decide (fuel>65536)=false):LeavesInM Fence.wide 0 Tryz.prog Tryz.f10 a0.tmps (λw w'=>∃ v,w= .returned v/\ CC Tryz.prog GG N [] ρs n true (.tup 3 (L1 [.sl 1 l.length (AK AP l),.sl 2 t.length (AK BT t),.i 220])) [] v w') [{ target:=.fn (.func 25) #[],args:=#[J] },{ target:=.fn (.func 24) #[J,I],args:=#[] }] (.panicking (pan HA)) w0:=by
 refine Nm (by simp) (λargs W=>JT Tryz.func25 (by kernel_rfl) (by kernel_rfl) args W) (by simp: #[J]++(#[]:Array Value)= #[J]) ?_;refine (vt g.hr (C.at 0)).mono ?_;rintro e p w1 ⟨⟨v,rfl⟩,rfl,ρ1,a,d,h⟩;have T:=G9 (L:=3) g.fr f a d h;have k:=G9 (L:=3) C (by kernel_rfl) a d h;refine Nm (by simp [settle]) (λargs W=>JT Tryz.func24 (by kernel_rfl) (by kernel_rfl) args W) (by simp:(#[]:Array Value)++#[J,I]= #[J,I]) ?_;refine (zJl c a (k.at 0) (k.at 1)).mono ?_;rintro e p w' ⟨⟨v,rfl⟩,rfl,ρ2,R,j,S⟩;exact kU (a0:=a0) (e:=220) m o x ((K.trans d).trans j) ⟨R,G9 (L:=3) T f R j S⟩
def OJ (fuel:Int):Option (List Ξ×List (Δ)×Bool) -> List Ξ×List (Δ)×Int
 | none=>([],[],if fuel>65536 then 2 else 220)
 | some r=>(r.1,if r.2.2 then [] else r.2.1,0)
def Qb (n:Nat)(q:AA)(pos:Ξ)(fuel:Int):Option (List Ξ×List (Δ)×Int):= (GB n q pos).bind λk=> bif (k != 0) then some ([],[],k) else bif (decide (fuel<0)) then some ([],[],1) else bif (decide (fuel>16777216)) then some ([],[],1) else (Lx n q pos 2 (if 65536<fuel then 65536 else fuel)).map (OJ fuel)
variable {a:Option (List Ξ×List (Δ)×Bool)}{pos:Ξ}
def zJh {n:Nat}(A7:GB n q pos=some 0)(c1:decide (fuel<0)=false)(c2:decide (fuel>16777216)=false)(H:Lx n q pos 2 (if 65536<fuel then 65536 else fuel)=some a) 
     (s:AS Tryz.prog GG N ⟨AF 39 [(0,.agg 5 (L1 (AH q))),(1,.ints pos),(2,.i fuel)],[]⟩ ρ0 a0 w0) (Fe:a0.defers= []):
 (AR Tryz.f10).wpIn Fence.wide 0 Tryz.prog (bodyPostM Fence.wide 0 Tryz.prog Tryz.f10 λe w'=>∃ v,e= .returned v/\ CC Tryz.prog GG N [] ρ0 w0 true (.tup 3 (L1 [.sl 1 (((OJ fuel a).1).length) (AK AP ((OJ fuel a).1)),.sl 2 (((OJ fuel a).2.1).length) (AK BT ((OJ fuel a).2.1)),.i (OJ fuel a).2.2])) [] v w') a0 w0:=by
 refine zIw ?_;refine wr (L:=0) HC.x [1,3,5,6,7,8] [2,1,0] [] H0 H0 (AF 39 [(1,.ints pos),(3,.ref 2 0),(5,.ref 1 0),(6,.nils),(7,.nils),(8,.ref 0 0)]) ([oC [.i 0],oC [.i fuel],oC (AH q)]:DH) s (by kernel_rfl) (by kernel_rfl) λρ1 a1 w1 R1 B1 GL Dc=>?_
 refine zIw (zIw ?_);refine wr (L:=0) HC.x [1,3,5,6,7,8,9] [0,1,2] [] ((H0.c (fb (L5 A7) [oC [.i 0],oC [.i fuel],oC (AH q)]))) H0 (AF 39 [(1,.ints pos),(3,.ref 2 0),(5,.ref 1 0),(6,.nils),(7,.nils),(8,.ref 0 0),(9,.i 0)]) ([oC [.i 0],oC [.i fuel],oC (AH q)]:DH) R1 (by kernel_rfl) (by kernel_rfl) λρ2 a2 w2 R2 Ez JO MH=>?_
 refine zIw ?_;refine wr (L:=0) HC.x [1,3,5,6,7,8,9,17] [0,1,2] [] H0 H0 (AF 39 [(1,.ints pos),(3,.ref 2 0),(5,.ref 1 0),(6,.nils),(7,.nils),(8,.ref 0 0),(9,.i 0),(17,.bool false)]) ([oC [.i 0],oC [.i fuel],oC (AH q)]:DH) R2 (by kernel_rfl) (by kernel_rfl) λρ3 a3 w3 K FD jr SR=>?_
 refine zMY (BW K (.tmp 17)) (zNM ?_);refine zIw (zIw ?_);refine wr (L:=0) HC.x [1,3,5,6,7,8,24] [0,1,2] [] ((H0.b 20 c1 |>.b 23 c2)) H0 (AF 39 [(1,.ints pos),(3,.ref 2 0),(5,.ref 1 0),(6,.nils),(7,.nils),(8,.ref 0 0),(24,.bool false)]) ([oC [.i 0],oC [.i fuel],oC (AH q)]:DH) K (by kernel_rfl) (by kernel_rfl) λρ4 a4 P F f KF kp4=>?_
 refine zMY (BW F (.tmp 24)) (zNM ?_);have F:AS Tryz.prog GG N ⟨AF 39 [(1,.ints pos),(3,.ref 2 0),(5,.ref 1 0),(6,.nils),(7,.nils),(8,.ref 0 0)],[oC [.i 0],oC [.i fuel],oC (AH q)]⟩ ρ4 a4 P:=F.forg [1,3,5,6,7,8] rfl (by kernel_rfl);have BK:a4.tmps.size=39:=by simpa [AF] using F.fr.1.symm
 refine zIw (xk (o0:=_) (o1:=_) rfl rfl rfl rfl rfl rfl rfl (by rw [BK];decide) λa5 O k=>?_);have S:=F.idle 25 O (by kernel_rfl);refine zIw (md (o0:=_) rfl rfl rfl rfl λT ip V=>?_);have U:AS Tryz.prog GG N ⟨AF 39 [(1,.ints pos),(3,.ref 2 0),(5,.ref 1 0),(6,.nils),(7,.nils),(8,.ref 0 0)],[oC [.i 0],oC [.i fuel],oC (AH q)]⟩ ρ4 T P:=⟨S.hr,by rw [ip];exact S.fr⟩;obtain ⟨J,m⟩: ∃ x,x=a4.eval (.tmp 8):=⟨_,rfl⟩;obtain ⟨I,W⟩: ∃ x,x=a4.eval (.tmp 5):=⟨_,rfl⟩;have o:a5.eval (.tmp 8)=J:=by rw [m];simp [Act.eval,O]
 have V:T.defers= [{ target:=.fn (.func 25) #[],args:=#[J] },{ target:=.fn (.func 24) #[J,I],args:=#[] }]:=by rw [V,k,KF,jr,JO,GL,Fe,o,m,W];simp
 have X:BE (MS N [oC [.i 0],oC [.i fuel],oC (AH q)] ρ4) P ρ4 [.ref 0 0,.ref 1 0] #[J,I]:=⟨rfl,λj u=>match j,u with | 0,_=>(by show AJ _ _ _ _ J;rw [m];exact F.fr.at 8) | 1,_=>(by show AJ _ _ _ _ I;rw [W];exact F.fr.at 5) | j+2,u=>absurd u (by simp)⟩;have f:=(((B1.trans Ez).trans FD).trans f);refine zIw ?_;cases a with
 | none=>
  refine mN (dst:=some 31) (pP H) [0,1,2,3] [5,6,7,8,9,10,11] 4 H0 (AF 39 [(6,.nils),(7,.nils),(8,.ref 0 0)]) [oC [.i 0],oC [.i fuel],oC (AH q)] U (by kernel_rfl) (by kernel_rfl) (by kernel_rfl) (by kernel_rfl) λρ7 Q Y M d D w=>?_
  have E:=G9 (L:=3) X (by kernel_rfl) M.hr d w
  show LeavesInM _ _ _ _ _ _ Q.defers (.panicking (pan HA)) Y
  rw [D,V];cases c:decide (fuel>65536) with
  | true=>
   show LeavesInM Fence.wide 0 Tryz.prog Tryz.f10 Q.tmps (λy w'=>∃ v,y= .returned v/\ CC Tryz.prog GG N [] ρ0 w0 true (.tup 3 (L1 [.sl 1 (([]:List Ξ).length) (AK AP ([]:List Ξ)),.sl 2 (([]:List (Δ)).length) (AK BT ([]:List (Δ))),.i (if fuel>65536 then (2:Int) else 220)])) [] v w') _ _ _
   rw [show (if fuel>65536 then (2:Int) else 220)=2 from zEZ (zIT c)];exact zJj (l:=[]) (t:=[]) (AN.sl_nil _ _) (AN.sl_nil _ _) s.hr (f.trans d) (by kernel_rfl) M E c
  | false=>
   show LeavesInM Fence.wide 0 Tryz.prog Tryz.f10 Q.tmps (λy w'=>∃ v,y= .returned v/\ CC Tryz.prog GG N [] ρ0 w0 true (.tup 3 (L1 [.sl 1 (([]:List Ξ).length) (AK AP ([]:List Ξ)),.sl 2 (([]:List (Δ)).length) (AK BT ([]:List (Δ))),.i (if fuel>65536 then (2:Int) else 220)])) [] v w') _ _ _
   rw [show (if fuel>65536 then (2:Int) else 220)=220 from zGN (of_decide_eq_false c)];exact zJi (l:=[]) (t:=[]) (AN.sl_nil _ _) (AN.sl_nil _ _) s.hr (f.trans d) (by kernel_rfl) M E c
 | some r=>
  refine wr (L:=3) HC.x [6,7,8,10,11,12] [0,1,2] [] ((H0.c (fb (pQ H) [oC [.i 0],oC [.i fuel],oC (AH q)]))) H0 (AF 39 [(6,.nils),(7,.nils),(8,.ref 0 0),(10,.sl 1 r.1.length (AK AP r.1)),(11,.sl 2 r.2.1.length (AK BT r.2.1)),(12,.bool r.2.2)]) ([oC [.i 0],oC [.i fuel],oC (AH q)]:DH) U (by kernel_rfl) (by kernel_rfl) λρ7 Q Y M d D w=>?_
  have E:=G9 (L:=3) X (by kernel_rfl) M.hr d w;have d:=f.trans d;have D:=D.trans V;refine zIw (zIw ?_);refine wr (L:=3) HC.x [6,7,8,10,11,35] [0,1,2] [] H0 H0 (AF 39 [(6,.nils),(7,.nils),(8,.ref 0 0),(10,.sl 1 r.1.length (AK AP r.1)),(11,.sl 2 r.2.1.length (AK BT r.2.1)),(35,.bool r.2.2)]) ([oC [.i 0],oC [.i fuel],oC (AH q)]:DH) M (by kernel_rfl) (by kernel_rfl) λρ8 Z w8 g C R aJ=>?_
  have F8:=G9 (L:=3) E (by kernel_rfl) g.hr C aJ;have R:=R.trans D;cases c:r.2.2 with
  | true=>
   refine wpIn_cond_true ((show Z.eval (.tmp 35)= .bool r.2.2 from BW g (.tmp 35)).trans (by rw [c])) ?_;refine zIw ?_;refine wr (L:=3) HC.x [6,7,8] [0,1,2] [] ((H0.t)) H0 (AF 39 [(6,.sl 1 r.1.length (AK AP r.1)),(7,.nils),(8,.ref 0 0)]) ([oC [.i 0],oC [.i fuel],oC (AH q)]:DH) g (by kernel_rfl) (by kernel_rfl) λρ9 a9 z h p A B=>?_
   have G:=G9 (L:=3) F8 (by kernel_rfl) h.hr p B;refine zNR ?_
   show LeavesInM _ _ _ _ _ _ a9.defers .returning z
   rw [A,R];have e:OJ fuel (some r)=(r.1,([]:List (Δ)),0):=by show (r.1,(if r.2.2=true then [] else r.2.1),(0:Int))=_;rw [c];rfl
   rw [e];exact ur (l:=r.1) (t:=([]:List (Δ))) (AN.of_eq (by kernel_rfl)) (AN.sl_nil _ _) s.hr ((d.trans C).trans p) (by kernel_rfl) h G
  | false=>
   refine zMY ((show Z.eval (.tmp 35)= .bool r.2.2 from BW g (.tmp 35)).trans (by rw [c])) ?_;refine zNM (zIw ?_);refine wr (L:=3) HC.x [6,7,8] [0,1,2] [] ((H0.t)) H0 (AF 39 [(6,.sl 1 r.1.length (AK AP r.1)),(7,.sl 2 r.2.1.length (AK BT r.2.1)),(8,.ref 0 0)]) ([oC [.i 0],oC [.i fuel],oC (AH q)]:DH) g (by kernel_rfl) (by kernel_rfl) λρ9 a9 z h p A B=>?_
   have G:=G9 (L:=3) F8 (by kernel_rfl) h.hr p B;refine zNR ?_
   show LeavesInM _ _ _ _ _ _ a9.defers .returning z
   rw [A,R];have e:OJ fuel (some r)=(r.1,r.2.1,0):=by show (r.1,(if r.2.2=true then [] else r.2.1),(0:Int))=_;rw [c];rfl
   rw [e];exact ur (l:=r.1) (t:=r.2.1) (AN.of_eq (by kernel_rfl)) (AN.of_eq (by kernel_rfl)) s.hr ((d.trans C).trans p) (by kernel_rfl) h G
def Wn (n:Nat)(q:AA)(pos:Ξ)(fuel:Int):Option ((List Ξ)×(List (Δ))×Int):= (GB n q pos).bind λk=> bif (k != 0) then some (([]:List Ξ),([]:List (Δ)),k) else bif (decide (fuel<0)) then some (([]:List Ξ),([]:List (Δ)),1) else bif (decide (fuel>16777216)) then some (([]:List Ξ),([]:List (Δ)),1) else none
def Wo (n:Nat)(q:AA)(pos:Ξ)(fuel:Int):Option ((List Ξ)×(List (Δ))×Int):=Wn n q pos fuel
def kV {n:Nat}{r:(List Ξ)×(List (Δ))×Int}(h:Wo n q pos fuel=some r):EQ 10 [.agg 5 (L1 (AH q)),.ints pos,.i fuel] [] (.tup 3 (L1 [.sl 1 r.1.length (AK AP r.1),.sl 2 r.2.1.length (AK BT r.2.1),.i r.2.2])) [] true:=by
 unfold Wo Wn at h;refine ot Tryz.func10 λB N=>?_
 revert r;apply gO;exact cf L5 [oC (AH q),oC [.i fuel],oC [.i 0]] λk=>bi 17 (jt (lF λp=>el AC [6,7,8] [2] p [] H0 [.nils,.nils,.i k] (AN.tupL (l:=[.nils,.nils,.i k]) (l':=[.sl 1 (([]:List Ξ).length) (AK AP ([]:List Ξ)),.sl 2 (([]:List (Δ)).length) (AK BT ([]:List (Δ))),.i k]) rfl ⟨(AN.sl_nil _ _),(AN.sl_nil _ _),Aw,trivial⟩))) (bi 20 (jt (lF λp=>el AC [6,7,8] [2] p [] H0 [.nils,.nils,.i 1] (AN.tupL (l:=[.nils,.nils,.i 1]) (l':=[.sl 1 (([]:List Ξ).length) (AK AP ([]:List Ξ)),.sl 2 (([]:List (Δ)).length) (AK BT ([]:List (Δ))),.i 1]) rfl ⟨(AN.sl_nil _ _),(AN.sl_nil _ _),Aw,trivial⟩))) (bi 23 (jt (lF λp=>el AC [6,7,8] [2] p [] H0 [.nils,.nils,.i 1] (AN.tupL (l:=[.nils,.nils,.i 1]) (l':=[.sl 1 (([]:List Ξ).length) (AK AP ([]:List Ξ)),.sl 2 (([]:List (Δ)).length) (AK BT ([]:List (Δ))),.i 1]) rfl ⟨(AN.sl_nil _ _),(AN.sl_nil _ _),Aw,trivial⟩))) nO))
def Wm {n:Nat}{r:List Ξ×List (Δ)×Int}(h:Qb n q pos fuel=some r):EQ 10 [.agg 5 (L1 (AH q)),.ints pos,.i fuel] [] (.tup 3 (L1 [.sl 1 r.1.length (AK AP r.1),.sl 2 r.2.1.length (AK BT r.2.1),.i r.2.2])) [] true:=by
 unfold Qb at h;obtain ⟨k,s,h⟩:=Gg h;rcases DQ h with ⟨C,h⟩ | ⟨C,h⟩
 ·refine kV (n:=n) ?_;unfold Wo Wn;rw [s,zEb,C,zFR];exact h
 rcases DQ h with ⟨a,h⟩ | ⟨a,h⟩
 ·refine kV (n:=n) ?_;unfold Wo Wn;rw [s,zEb,C,zGF,a,zFR];exact h
 rcases DQ h with ⟨E,h⟩ | ⟨E,h⟩
 ·refine kV (n:=n) ?_;unfold Wo Wn;rw [s,zEb,C,zGF,a,zGF,E,zFR];exact h
 obtain ⟨out,d,rfl⟩:=zIO.1 h;have G:k=0:=by simpa using C
 subst G;have f:(Tryz.f10.name== "runtime.NumGoroutine")=false:=by kernel_rfl
 refine ⟨⟨Tryz.f10,Tryz.func10,by simpa using f,by kernel_rfl⟩,λN ρ w args HR b=>(zM4 (n:=0)).1 (callsIn_of_wp_marks (c:=AR Tryz.f10) Tryz.func10 (by kernel_rfl) trivial ?_)⟩;refine zJh s a E d (N:=N) (ρ0:=ρ) ⟨HR,?_⟩ rfl;have g:([.agg 5 (L1 (AH q)),.ints pos,.i fuel]:List DV).length=args.size:=b.1;have e:([.agg 5 (L1 (AH q)),.ints pos,.i fuel]:List DV)++List.replicate (Tryz.f10.ntmps-([.agg 5 (L1 (AH q)),.ints pos,.i fuel]:List DV).length) .any=AF 39 [(0,.agg 5 (L1 (AH q))),(1,.ints pos),(2,.i fuel)]:=by kernel_rfl
 rw [←e,g];exact BE.append b (BE.anys _ _ _ _)
variable {m:Int}
def rz (k:AN b (.i m))(x:Aq Tryz.prog GG N [] ρs n)(K:A3 [] ρs n [oC [.i e],oC (AH q)] ρ0 w0)(s:AS Tryz.prog GG N ⟨AF 45 [(8,b),(9,.ref 0 0)],[oC [.i e],oC (AH q)]⟩ ρ0 a0 w0):LeavesInM Fence.wide 0 Tryz.prog Tryz.f16 a0.tmps (λw w'=>∃ v,w= .returned v/\ CC Tryz.prog GG N [] ρs n true (.tup 2 (L1 [.i m,.i e])) [] v w') [] .returning w0:=by
 obtain ⟨v,a,c⟩:=Wp (fn:=Tryz.f16) s x K [] H0 [b,.i e] (AN.tupL (l:=[b,.i e]) (l':=[.i m,.i e]) rfl ⟨k,Aw,trivial⟩) (by kernel_rfl) (by kernel_rfl);exact ⟨v,a,v,rfl,c⟩
def zEq (k:AN b (.i m))(x:Aq Tryz.prog GG N [] ρs n)(K:A3 [] ρs n [oC [.i 0],oC (AH q)] ρ0 w0)(CH:(AF 45 [(8,b),(9,.ref 0 0)]).all (C5 2)=true)(s:AS Tryz.prog GG N ⟨AF 45 [(8,b),(9,.ref 0 0)],[oC [.i 0],oC (AH q)]⟩ ρ0 a0 w0)(F0:BE (MS N [oC [.i 0],oC (AH q)] ρ0) w0 ρ0 [.ref 0 0] #[J]):LeavesInM Fence.wide 0 Tryz.prog Tryz.f16 a0.tmps (λw w'=>∃ v,w= .returned v/\ CC Tryz.prog GG N [] ρs n true (.tup 2 (L1 [.i m,.i 0])) [] v w') [{ target:=.fn (.func 25) #[],args:=#[J] }] .returning w0:=by
 refine Nm (by simp) (λargs W=>JT Tryz.func25 (by kernel_rfl) (by kernel_rfl) args W) (by simp: #[J]++(#[]:Array Value)= #[J]) ?_;refine (vr J w0).mono ?_;rintro e u' w1 ⟨⟨v,rfl⟩,rfl,rfl⟩;exact rz (a0:=a0) (e:=0) k x K s
def zEr (k:AN b (.i m))(x:Aq Tryz.prog GG N [] ρs n)(K:A3 [] ρs n [oC [.i 0],oC (AH q)] ρ0 w0)(l:(AF 45 [(8,b),(9,.ref 0 0)]).all (C5 2)=true)(s:AS Tryz.prog GG N ⟨AF 45 [(8,b),(9,.ref 0 0)],[oC [.i 0],oC (AH q)]⟩ ρ0 a0 w0)(C:BE (MS N [oC [.i 0],oC (AH q)] ρ0) w0 ρ0 [.ref 0 0] #[J]):LeavesInM Fence.wide 0 Tryz.prog Tryz.f16 a0.tmps (λw w'=>∃ v,w= .returned v/\ CC Tryz.prog GG N [] ρs n true (.tup 2 (L1 [.i m,.i 220])) [] v w') [{ target:=.fn (.func 25) #[],args:=#[J] }] (.panicking (pan HA)) w0:=by
 refine Nm (by simp) (λargs W=>JT Tryz.func25 (by kernel_rfl) (by kernel_rfl) args W) (by simp: #[J]++(#[]:Array Value)= #[J]) ?_;refine (zLI s.hr (C.at 0)).mono ?_;rintro e u' w1 ⟨⟨v,rfl⟩,rfl,ρ1,a,c,g⟩;have T:=G9 (L:=2) s.fr l a c g;exact rz (a0:=a0) (e:=220) k x (K.trans c) ⟨a,T⟩
def ga:Option (List Ξ×List (Δ)×Bool) -> Δ
 | none=>(0,220)
 | some r=>((r.1.length:Int),0)
def J3 (n:Nat)(q:AA)(pos:Ξ)(most fuel:Int):Option (Δ):= (GB n q pos).bind λk=> bif (k != 0) then some (0,k) else bif (decide (most<1)) then some (0,1) else bif (decide (most>65536)) then some (0,1) else bif (decide (fuel<0)) then some (0,1) else bif (decide (fuel>16777216)) then some (0,1) else (Lx n q pos most fuel).map ga
variable {most:Int}
def zEo {n:Nat}(y:GB n q pos=some 0)(z:decide (most<1)=false)(B:decide (most>65536)=false)(G:decide (fuel<0)=false)(H:decide (fuel>16777216)=false)(h:Lx n q pos most fuel=some a) 
     (s:AS Tryz.prog GG N ⟨AF 45 [(0,.agg 5 (L1 (AH q))),(1,.ints pos),(2,.i most),(3,.i fuel)],[]⟩ ρ0 a0 w0) (I:a0.defers= []):
 (AR Tryz.f16).wpIn Fence.wide 0 Tryz.prog (bodyPostM Fence.wide 0 Tryz.prog Tryz.f16 λe w'=>∃ v,e= .returned v/\ CC Tryz.prog GG N [] ρ0 w0 true (.tup 2 (L1 [.i (ga a).1,.i (ga a).2])) [] v w') a0 w0:=by
 refine zIw ?_;refine wr (L:=0) HC.x [1,2,3,4,8,9] [1,0] [] H0 H0 (AF 45 [(1,.ints pos),(2,.i most),(3,.i fuel),(4,.ref 1 0),(8,.i 0),(9,.ref 0 0)]) ([oC [.i 0],oC (AH q)]:DH) s (by kernel_rfl) (by kernel_rfl) λρ1 a1 w1 K O S Dc=>?_
 refine zIw (zIw ?_);refine wr (L:=0) HC.x [1,2,3,4,8,9,10] [0,1] [] ((H0.c (fb (L5 y) [oC [.i 0],oC (AH q)]))) H0 (AF 45 [(1,.ints pos),(2,.i most),(3,.i fuel),(4,.ref 1 0),(8,.i 0),(9,.ref 0 0),(10,.i 0)]) ([oC [.i 0],oC (AH q)]:DH) K (by kernel_rfl) (by kernel_rfl) λρ2 a2 w2 T U W MH=>?_
 refine zIw ?_;refine wr (L:=0) HC.x [1,2,3,4,8,9,10,18] [0,1] [] H0 H0 (AF 45 [(1,.ints pos),(2,.i most),(3,.i fuel),(4,.ref 1 0),(8,.i 0),(9,.ref 0 0),(10,.i 0),(18,.bool false)]) ([oC [.i 0],oC (AH q)]:DH) T (by kernel_rfl) (by kernel_rfl) λρ3 a3 w3 A X Y SR=>?_
 refine zMY (BW A (.tmp 18)) (zNM ?_);refine zIw (zIw ?_);refine wr (L:=0) HC.x [1,2,3,4,8,9,33] [0,1] [] ((H0.b 21 z |>.b 24 B |>.b 28 G |>.b 32 H)) H0 (AF 45 [(1,.ints pos),(2,.i most),(3,.i fuel),(4,.ref 1 0),(8,.i 0),(9,.ref 0 0),(33,.bool false)]) ([oC [.i 0],oC (AH q)]:DH) A (by kernel_rfl) (by kernel_rfl) λρ4 a4 P F f Z kp4=>?_
 refine zMY (BW F (.tmp 33)) (zNM ?_);have F:AS Tryz.prog GG N ⟨AF 45 [(1,.ints pos),(2,.i most),(3,.i fuel),(4,.ref 1 0),(8,.i 0),(9,.ref 0 0)],[oC [.i 0],oC (AH q)]⟩ ρ4 a4 P:=F.forg [1,2,3,4,8,9] rfl (by kernel_rfl);refine zIw (md (o0:=_) rfl rfl rfl rfl λl ip V=>?_);have k:AS Tryz.prog GG N ⟨AF 45 [(1,.ints pos),(2,.i most),(3,.i fuel),(4,.ref 1 0),(8,.i 0),(9,.ref 0 0)],[oC [.i 0],oC (AH q)]⟩ ρ4 l P:=⟨F.hr,by rw [ip];exact F.fr⟩;obtain ⟨J,o⟩: ∃ x,x=a4.eval (.tmp 9):=⟨_,rfl⟩;have V:l.defers= [{ target:=.fn (.func 25) #[],args:=#[J] }]:=by rw [V,Z,Y,W,S,I,o]
 have p:BE (MS N [oC [.i 0],oC (AH q)] ρ4) P ρ4 [.ref 0 0] #[J]:=⟨rfl,λj g=>match j,g with | 0,_=>(by show AJ _ _ _ _ J;rw [o];exact F.fr.at 9) | j+1,g=>absurd g (by simp)⟩;have f:=(((O.trans U).trans X).trans f);refine zIw ?_;cases a with
 | none=>
  refine mN (dst:=some 39) (pP h) [0,1,2,3] [5,6,7,8,9,10,11] 4 H0 (AF 45 [(8,.i 0),(9,.ref 0 0)]) [oC [.i 0],oC (AH q)] k (by kernel_rfl) (by kernel_rfl) (by kernel_rfl) (by kernel_rfl) λρ7 Q u M d D R=>?_
  have E:=G9 (L:=2) p (by kernel_rfl) M.hr d R
  show LeavesInM _ _ _ _ _ _ Q.defers (.panicking (pan HA)) u
  rw [D,V];exact zEr (m:=0) Aw s.hr (f.trans d) (by kernel_rfl) M E
 | some r=>
  refine wr (L:=2) HC.x [8,9,11] [0,1] [] ((H0.c (fb (pQ h) [oC [.i 0],oC (AH q)]))) H0 (AF 45 [(8,.i 0),(9,.ref 0 0),(11,.sl 1 r.1.length (AK AP r.1))]) ([oC [.i 0],oC (AH q)]:DH) k (by kernel_rfl) (by kernel_rfl) λρ7 Q u M d D R=>?_
  have E:=G9 (L:=2) p (by kernel_rfl) M.hr d R;have d:=f.trans d;have D:=D.trans V;refine zIw ?_;refine wr (L:=2) HC.x [8,9] [0,1] [] ((H0.t)) H0 (AF 45 [(8,.i (r.1.length:Int)),(9,.ref 0 0)]) ([oC [.i 0],oC (AH q)]:DH) M (by kernel_rfl) (by kernel_rfl) λρ8 a8 w8 w C Sx aJ=>?_
  have F8:=G9 (L:=2) E (by kernel_rfl) w.hr C aJ;refine zNR ?_
  show LeavesInM _ _ _ _ _ _ a8.defers .returning w8
  rw [Sx,D];exact zEq (m:=(r.1.length:Int)) Aw s.hr (d.trans C) (by kernel_rfl) w F8
def Pa (n:Nat)(q:AA)(pos:Ξ)(most fuel:Int):Option (Δ):= (GB n q pos).bind λk=> bif (k != 0) then some (0,k) else bif (decide (most<1)) then some (0,1) else bif (decide (most>65536)) then some (0,1) else bif (decide (fuel<0)) then some (0,1) else bif (decide (fuel>16777216)) then some (0,1) else none
def Pb (n:Nat)(q:AA)(pos:Ξ)(most fuel:Int):Option (Δ):=Pa n q pos most fuel
variable {r:Δ}
def Vk {n:Nat}(h:Pb n q pos most fuel=some r):EQ 16 [.agg 5 (L1 (AH q)),.ints pos,.i most,.i fuel] [] (.tup 2 (L1 [.i r.1,.i r.2])) [] true:=by
 unfold Pb Pa at h;refine ot Tryz.func16 λB N=>?_
 revert r;apply gO;exact cf L5 [oC (AH q),oC [.i 0]] λ_=>bi 18 (jt (lE AC [8,9] [1])) (bi 21 (jt (lE AC [8,9] [1])) (bi 24 (jt (lE AC [8,9] [1])) (bi 28 (jt (lE AC [8,9] [1])) (bi 32 (jt (lE AC [8,9] [1])) nO))))
def ME {n:Nat}(h:J3 n q pos most fuel=some r):EQ 16 [.agg 5 (L1 (AH q)),.ints pos,.i most,.i fuel] [] (.tup 2 (L1 [.i r.1,.i r.2])) [] true:=by
 unfold J3 at h;obtain ⟨k,s,h⟩:=Gg h;rcases DQ h with ⟨C,h⟩ | ⟨C,h⟩
 ·refine Vk (n:=n) ?_;unfold Pb Pa;rw [s,zEb,C,zFR];exact h
 rcases DQ h with ⟨a,h⟩ | ⟨a,h⟩
 ·refine Vk (n:=n) ?_;unfold Pb Pa;rw [s,zEb,C,zGF,a,zFR];exact h
 rcases DQ h with ⟨E,h⟩ | ⟨E,h⟩
 ·refine Vk (n:=n) ?_;unfold Pb Pa;rw [s,zEb,C,zGF,a,zGF,E,zFR];exact h
 rcases DQ h with ⟨A,h⟩ | ⟨A,h⟩
 ·refine Vk (n:=n) ?_;unfold Pb Pa;rw [s,zEb,C,zGF,a,zGF,E,zGF,A,zFR];exact h
 rcases DQ h with ⟨b,h⟩ | ⟨b,h⟩
 ·refine Vk (n:=n) ?_;unfold Pb Pa;rw [s,zEb,C,zGF,a,zGF,E,zGF,A,zGF,b,zFR];exact h
 obtain ⟨out,f,rfl⟩:=zIO.1 h;have G:k=0:=by simpa using C
 subst G;have g:(Tryz.f16.name== "runtime.NumGoroutine")=false:=by kernel_rfl
 refine ⟨⟨Tryz.f16,Tryz.func16,by simpa using g,by kernel_rfl⟩,λN ρ w args HR d=>(zM4 (n:=0)).1 (callsIn_of_wp_marks (c:=AR Tryz.f16) Tryz.func16 (by kernel_rfl) trivial ?_)⟩;refine zEo s a E A b f (N:=N) (ρ0:=ρ) ⟨HR,?_⟩ rfl;have j:([.agg 5 (L1 (AH q)),.ints pos,.i most,.i fuel]:List DV).length=args.size:=d.1;have e:([.agg 5 (L1 (AH q)),.ints pos,.i most,.i fuel]:List DV)++List.replicate (Tryz.f16.ntmps-([.agg 5 (L1 (AH q)),.ints pos,.i most,.i fuel]:List DV).length) .any=AF 45 [(0,.agg 5 (L1 (AH q))),(1,.ints pos),(2,.i most),(3,.i fuel)]:=by kernel_rfl
 rw [←e,j];exact BE.append d (BE.anys _ _ _ _)
end
section
set_option maxRecDepth 100000
set_option maxHeartbeats 40000000
def zAf:Ax (BA Tryz.f12 6) [([0,1,2,3,4,5,6,7],8)] [9] []:=by unfold Ax;kernel_rfl
def Uh:Be:=λi=>match i with
 | 6=>.ord [([0,1,2,3,4,5,6,7],8)] [9] []
 | _=>.no
inductive Yh where
 | l1 (x5:Int)
def zAP (n:Nat)(self:Yh -> Option Bool)(a S:List Ξ)(Q:Int):Option Bool:= bif (decide (Q<(a.length:Int))) then if (0<=Q/\ Q<(a.length:Int))/\ (0<=Q/\ Q<(S.length:Int)) then (same n (a.getD Q.toNat []) (S.getD Q.toNat [])).bind λk=> bif (!k) then some false else if AG (Q+1) then self (.l1 (Q+1)) else none else none else some true
def zAQ (n:Nat)(self:Yh -> Option Bool)(a S:List Ξ):Option Bool:= bif ((a.length:Int) != (S.length:Int)) then some false else self (.l1 0)
def eO (a S:List Ξ):Nat -> Yh -> Option Bool
 | 0,_=>none
 | n+1,.l1 Q=>zAP n (eO a S n) a S Q
def eP (n:Nat)(a S:List Ξ):Option Bool:=zAQ n (eO a S n) a S
def zAR (n B:Nat)(N:Yd 0)(a S:List Ξ)(r:Bool):Yh -> Prop
 | .l1 Q=>∀ f:Nat,n<=f -> TW B N (FQ Tryz.f12 0 (.bool r) []) (Ah f (An (AR Tryz.f12) 0 [])) ⟨AF 27 [(0,.sl 1 a.length (AK AP a)),(1,.sl 1 S.length (AK AP S)),(5,.i Q)],[]⟩
def zAS (B:Nat)(N:Yd 0)(a S:List Ξ):Al (eO a S) (zAR · B N a S):=ia (λ_=>rfl) λn C c r h=>by
 cases c
 case l1 x5=>
  intro f b;refine rd b λf b=>?_
  revert r;apply gO;exact bi 14 (jg zAf (gc (gi (gi (cf zAK [] λ_=>bi 26 (lE Uh [4] []) (gw 16 (lG Uh [] (C _ _ · f b)))))))) (lE Uh [4] [])
variable {r:Bool}{n:Nat}
def Re {a S:List Ξ}(h:eP n a S=some r):EQ 12 [.sl 1 a.length (AK AP a),.sl 1 S.length (AK AP S)] [] (.bool r) [] true:=by
 refine ot Tryz.func12 λB N=>?_
 revert r;apply gO;exact bi 10 (lE Uh [4] []) (lN Uh [] ((zAS B N a S n) _ _ · n Nat.le.refl))
def nr:ST:=.rd 0 (.rd 1 (.rd 2 (.rd 4 (.ef 3 (.ef 5 (.rd 6 (.ef 7 (.fin [0,1] [4]) (.no))) (.no)) (.ef 5 (.ef 3 (.rd 6 (.ef 7 (.fin [1,0] [4]) (.no))) (.no)) (.no))))))
def zBK:B3 (BA Tryz.f23 1) [3,5] nr:=by unfold B3;kernel_rfl
def zAF:Be:=λi=>match i with
 | 1=>.tre [3,5] nr
 | _=>.no
def dc (cells y:Int):St:=⟨(AF 12 [(4,.ref 0 0)]),([oC [.i cells,.i y,.msl 1 1 0 y.toNat,.msl 2 1 0 cells.toNat,.nils],oI (List.replicate y.toNat (0:Int)),some (.arr 1 ((List.replicate cells.toNat ([]:Ξ)).length) (AK AP (List.replicate cells.toNat ([]:Ξ))))]:DH)⟩
def zJV (n:Nat)(cells y:Int):Option AA:= if ((y:Int)=y/\ 0<=y/\ (y:Int)<=1000000000000)/\ ((cells:Int)=cells/\ 0<=cells/\ (cells:Int)<=1000000000000) then if (y).toNat=(List.replicate y.toNat (0:Int)).length/\ (cells).toNat=(List.replicate cells.toNat ([]:Ξ)).length then some (⟨cells,y,List.replicate y.toNat (0:Int),(List.replicate cells.toNat ([]:Ξ)),([]:List AD)⟩:AA) else none else none
def bV (n:Nat)(cells y:Int):Option AA:=zJV n cells y
def Wi {cells y:Int}{r:AA}(h:bV n cells y=some r):EQ 23 [.i cells,.i y] [] (.agg 5 (L1 (AH r))) [] true:=by
 refine ot Tryz.func23 λB N=>?_
 revert r;apply gO;exact jg zBK (gc (gn λq=>jg q (gn λo=>jg o (ja 10 2 1 (ph (c:=AP) (x:=([]:Ξ)) (n:=(cells).toNat) (l:=[.nils]) ⟨AN.ints_nil,trivial⟩) (jt (jg (Eq.refl (dc cells y)) (jg o (ja 10 1 1 (ph (c:=AP) (x:=([]:Ξ)) (n:=(cells).toNat) (l:=[.nils]) ⟨AN.ints_nil,trivial⟩) (jg q (jt (jg (Eq.refl (dc cells y)) (gc (gn λs=>gn λO=>lF λp=>el (tg:=[([],(dc cells y))]) zAF [4] [0,1,2] p [1,2] (H0.g s |>.g O) [.agg 5 (L1 [.i cells,.i y,.ints (List.replicate y.toNat (0:Int)),.sl 1 ((List.replicate cells.toNat ([]:Ξ)).length) (AK AP (List.replicate cells.toNat ([]:Ξ))),.nils])] (AN.aggL (l:=[.i cells,.i y,.ints (List.replicate y.toNat (0:Int)),.sl 1 ((List.replicate cells.toNat ([]:Ξ)).length) (AK AP (List.replicate cells.toNat ([]:Ξ))),.nils]) (l':=[.i cells,.i y,.ints (List.replicate y.toNat (0:Int)),.sl 1 ((List.replicate cells.toNat ([]:Ξ)).length) (AK AP (List.replicate cells.toNat ([]:Ξ))),.sl 9 (([]:List AD).length) (AK BY ([]:List AD))]) rfl ⟨Aw,Aw,Aw,Aw,(AN.sl_nil _ _),trivial⟩))))))))))))))
def zBM:Ax (BA Tryz.f9 9) [] (List.range 18) []:=by unfold Ax;kernel_rfl
def Jo:Be:=λi=>match i with
 | 9=>.ord [] (List.range 18) []
 | _=>.no
inductive Wr where
 | l1 (x3 x4:Int)
 | l2 (x3 x5:Int)
def Wq (n:Nat)(self:Wr -> Option Bool)(q:AA)(H K:Int):Option Bool:= bif (decide (K<(q.nbrs.length:Int))) then bif (decide (H<200)) then if (0<=K/\ K<(q.nbrs.length:Int))/\ AG (H+(((q.nbrs.getD K.toNat []).length:Nat):Int))/\ AG (K+1) then self (.l1 (H+(((q.nbrs.getD K.toNat []).length:Nat):Int)) (K+1)) else none else self (.l2 H 0) else self (.l2 H 0)
def ON (n:Nat)(self:Wr -> Option Bool)(q:AA)(H Q:Int):Option Bool:= bif (decide (Q<(q.cons.length:Int))) then bif (decide (H<200)) then if (0<=Q/\ Q<(q.cons.length:Int))/\ AG (((((q.cons.getD Q.toNat default).cells).length:Nat):Int)+((((q.cons.getD Q.toNat default).runs).length:Nat):Int))/\ AG (H+(((((q.cons.getD Q.toNat default).cells).length:Nat):Int)+((((q.cons.getD Q.toNat default).runs).length:Nat):Int))) then bif (((q.cons.getD Q.toNat default).kind)==5) then bif (decide (((((q.cons.getD Q.toNat default).cells).length:Nat):Int)>9)) then some false else if AG (Q+1) then self (.l2 (H+(((((q.cons.getD Q.toNat default).cells).length:Nat):Int)+((((q.cons.getD Q.toNat default).runs).length:Nat):Int))) (Q+1)) else none else if AG (Q+1) then self (.l2 (H+(((((q.cons.getD Q.toNat default).cells).length:Nat):Int)+((((q.cons.getD Q.toNat default).runs).length:Nat):Int))) (Q+1)) else none else none else some false else bif (decide (H<200)) then bif (decide (q.cells<=16)) then some (decide (q.symbols<=4)) else some false else some false
def uw (n:Nat)(self:Wr -> Option Bool)(q:AA):Option Bool:= if AG ((q.values.length:Int)+(q.nbrs.length:Int))/\ AG (((q.values.length:Int)+(q.nbrs.length:Int))+(q.cons.length:Int)) then self (.l1 (((q.values.length:Int)+(q.nbrs.length:Int))+(q.cons.length:Int)) 0) else none
def Gf (q:AA):Nat -> Wr -> Option Bool
 | 0,_=>none
 | n+1,.l1 H K=>Wq n (Gf q n) q H K
 | n+1,.l2 H Q=>ON n (Gf q n) q H Q
def bk (n:Nat)(q:AA):Option Bool:=uw n (Gf q n) q
def zJu (n B:Nat)(N:Yd 0)(q:AA)(r:Bool):Wr -> Prop
 | .l1 H K=>∀ f:Nat,n<=f -> TW B N (FQ Tryz.f9 0 (.bool r) []) (Ah f (An (AR Tryz.f9) 0 [])) ⟨AF 93 [(1,.ref 0 0),(3,.i H),(4,.i K)],[oC (AH q)]⟩
 | .l2 H Q=>∀ f:Nat,n<=f -> TW B N (FQ Tryz.f9 0 (.bool r) []) (Ah f (An (AR Tryz.f9) 2 [])) ⟨AF 93 [(1,.ref 0 0),(3,.i H),(5,.i Q)],[oC (AH q)]⟩
def zJv (B:Nat)(N:Yd 0)(q:AA):Al (Gf q) (zJu · B N q):=ia (λ_=>rfl) λn C c r h=>by
 cases c
 case l1 x3 x4=>
  intro f a;refine rd a λf a=>?_
  revert r;apply gO;exact bi 21 (bi 24 (gc (gi (gc (gw 35 (gw 27 (lG Jo [0] (C _ _ · f a))))))) (lN Jo [0] (C _ _ · n Nat.le.refl))) (lN Jo [0] (C _ _ · n Nat.le.refl))
 case l2 x3 x5=>
  intro f a;refine rd a λf a=>?_
  revert r;apply gO;exact bi 40 (bj 43 (λ_=>jg zBM (gc (gn λb=>jg b (jg b (gc (gw 62 (gw 63 (jg b (bi 70 (jg b (bi 79 (lE Jo [2] []) (gw 46 (lG Jo [0] (C _ _ · f a))))) (gw 46 (lG Jo [0] (C _ _ · f a)))))))))))) (λw=>jb 82 w (lE Jo [2] []))) (bi 82 (bi 86 (lE Jo [2] []) (lE Jo [2] [])) (lE Jo [2] []))
def zJs {q:AA}(h:bk n q=some r):EQ 9 [.agg 5 (L1 (AH q))] [] (.bool r) [] true:=by
 refine ot Tryz.func9 λB N=>?_
 revert r;apply gO;exact gc (gw 12 (gw 16 (lN Jo [0] ((zJv B N q n) _ _ · n Nat.le.refl) [] (show _=some (_,_,_,[_,_],_) by kernel_rfl))))
def zG8 (a:AA):DH:=[oC [.i a.cells,.i a.symbols,.ints a.values,.sl 1 a.nbrs.length (AK AP a.nbrs),.sl 9 (([(⟨1,([0,1]:Ξ),0,0,0,0,([]:Ξ),0,0⟩:AD)]:List AD).length) (AK BY ([(⟨1,([0,1]:Ξ),0,0,0,0,([]:Ξ),0,0⟩:AD)]:List AD))],none]
def jC (a:AA):DH:=[oC [.i a.cells,.i a.symbols,.ints a.values,.sl 1 a.nbrs.length (AK AP a.nbrs),.sl 9 (([(⟨1,([0,1]:Ξ),0,0,0,0,([]:Ξ),0,0⟩:AD)]:List AD).length) (AK BY ([(⟨1,([0,1]:Ξ),0,0,0,0,([]:Ξ),0,0⟩:AD)]:List AD))],none,oI ([7,7]:Ξ)]
def Sf (a:AA):DH:=[oC [.i a.cells,.i a.symbols,.ints a.values,.sl 1 a.nbrs.length (AK AP a.nbrs),.sl 9 (([(⟨1,([0,1]:Ξ),0,0,0,0,([]:Ξ),0,0⟩:AD)]:List AD).length) (AK BY ([(⟨1,([0,1]:Ξ),0,0,0,0,([]:Ξ),0,0⟩:AD)]:List AD))],none,oI ([7,7]:Ξ),oI ([7,7]:Ξ)]
def jB (a:AA):DH:=[oC [.i a.cells,.i a.symbols,.ints a.values,.sl 1 a.nbrs.length (AK AP a.nbrs),.sl 9 (([(⟨1,([0,1]:Ξ),0,0,0,0,([]:Ξ),0,0⟩:AD)]:List AD).length) (AK BY ([(⟨1,([0,1]:Ξ),0,0,0,0,([]:Ξ),0,0⟩:AD)]:List AD))],none,oI ([7,7]:Ξ),oI ([7,7]:Ξ),oI ([7,3,3]:Ξ)]
def jA (a:AA):DH:=[oC [.i a.cells,.i a.symbols,.ints a.values,.sl 1 a.nbrs.length (AK AP a.nbrs),.sl 9 (([(⟨1,([0,1]:Ξ),0,0,0,0,([]:Ξ),0,0⟩:AD)]:List AD).length) (AK BY ([(⟨1,([0,1]:Ξ),0,0,0,0,([]:Ξ),0,0⟩:AD)]:List AD))],none,oI ([7,7]:Ξ),oI ([7,7]:Ξ),oI ([7,3,3]:Ξ),none,none,none]
def i9 (a:AA):DH:=[oC [.i a.cells,.i a.symbols,.ints a.values,.sl 1 a.nbrs.length (AK AP a.nbrs),.sl 9 (([(⟨1,([0,1]:Ξ),0,0,0,0,([]:Ξ),0,0⟩:AD)]:List AD).length) (AK BY ([(⟨1,([0,1]:Ξ),0,0,0,0,([]:Ξ),0,0⟩:AD)]:List AD))],none,oI ([7,7]:Ξ),oI ([7,7]:Ξ),oI ([7,3,3]:Ξ),none,none,none,none,none]
def pD (n:Nat):Option Bool:= (bV n 1 2).bind λk=> (Qb n k ([3]:Ξ) 3).bind λG=> (Qb n k ([3]:Ξ) 2).bind λy3=> (Qb n k ([1]:Ξ) 1).bind λq=> (Qb n k ([0]:Ξ) 1).bind λa=> (Qb n k ([1]:Ξ) (-1)).bind λt=> (J3 n k ([3]:Ξ) 0 9).bind λu=> (bV n 2 3).bind λi=> (J3 n (⟨i.cells,i.symbols,i.values,i.nbrs,([(⟨1,([0,1]:Ξ),0,0,0,0,([]:Ξ),0,0⟩:AD)]:List AD)⟩:AA) ([7,7]:Ξ) 100 1000).bind λv=> (J3 n (⟨i.cells,i.symbols,i.values,i.nbrs,([(⟨1,([0,1]:Ξ),0,0,0,0,([]:Ξ),0,0⟩:AD)]:List AD)⟩:AA) ([7,7]:Ξ) 2 1000).bind λw=> (bV n 3 3).bind λb=> (lB n b ([7,3,3]:Ξ)).bind λC=> bif (G.2.2==0) then (eP n G.1 ([([0]:Ξ),([1]:Ξ)]:List Ξ)).bind λc=> bif c then bif ((G.2.1.length:Int)==0) then bif (y3.2.2==220) then bif (q.2.2==0) then (eP n q.1 ([([0]:Ξ)]:List Ξ)).bind λj=> bif j then bif ((q.2.1.length:Int)==1) then if (0:Int)<=0/\ 0<(q.2.1.length:Int) then bif (((q.2.1.getD 0 default).1)==4) then bif (a.2.2==0) then bif ((a.1.length:Int)==0) then bif ((a.2.1.length:Int)==1) then if (0:Int)<=0/\ 0<(a.2.1.length:Int) then bif (((a.2.1.getD 0 default).1)==3) then bif (t.2.2==1) then bif (u.2==1) then bif (v.1==6) then bif (v.2==0) then bif (w.1==2) then bif (w.2==0) then bif (C.1==1) then bif C.2.1 then some (C.2.2==0) else some false else some false else some false else some false else some false else some false else some false else some false else some false else none else some false else some false else some false else some false else none else some false else some false else some false else some false else some false else some false else some false
def Um (n:Nat):Option Bool:=pD n
def zAI (h:Um n=some r):EQ 8 [] [] (.bool r) [] true:=by
 unfold Um pD at h;refine ot Tryz.func8 λB N=>?_
 revert r;apply gO
 exact cf Wi [] λk=>jt (jz 31 1 (jg (by decide:1=([3]:Ξ).length) (cf Wm [oC (AH k),none] λG=>jz 38 2 (jg (by decide:1=([3]:Ξ).length) (cf Wm [oC (AH k),none,none] λy3=>jz 45 3 (jg (by decide:1=([1]:Ξ).length) (cf Wm [oC (AH k),none,none,none] λq=>jz 52 4 (jg (by decide:1=([0]:Ξ).length) (cf Wm [oC (AH k),none,none,none,none] λb=>jz 59 5 (jg (by decide:1=([1]:Ξ).length) (cf Wm [oC (AH k),none,none,none,none,none] λM=>cn λO x=>jc (sb [.agg 5 (L1 (AH k)),.msl 6 1 0 1,.i 0,.i 9] (ME x) [oC (AH k),none,none,none,none,none,oI ([3]:Ξ)] ⟨Az.plain (by kernel_rfl),Az.ints rfl (by decide:1=([3]:Ξ).length),Az.plain (by kernel_rfl),Az.plain (by kernel_rfl),trivial⟩) (cf Wi [oC (AH k),none,none,none,none,none,oI ([3]:Ξ)] λa=>jt (jz 71 8 (jg (by decide:2=([0,1]:Ξ).length) (ja 73 9 9 (El (c:=BY) (L:=([(⟨1,([0,1]:Ξ),0,0,0,0,([]:Ξ),0,0⟩:AD)]:List AD)) (vals:=[.agg 9 (L1 [.i 1,.ints ([0,1]:Ξ),.i 0,.i 0,.i 0,.i 0,.nils,.i 0,.i 0])]) rfl ⟨⟨_,rfl,⟨Aw,Aw,Aw,Aw,Aw,Aw,AN.ints_nil,Aw,Aw,trivial⟩⟩,trivial⟩) (jt (λp r h=>by
  refine gz (Ab 10 AC) [7,9] p [1] (H0.g (Eq.refl 1)) (EP (AR Tryz.f8) 10 []) (AF 191 [(2,.sl 1 G.1.length (AK AP G.1)),(3,.sl 2 G.2.1.length (AK BT G.2.1)),(4,.i G.2.2),(7,.i y3.2.2),(8,.sl 1 q.1.length (AK AP q.1)),(9,.sl 2 q.2.1.length (AK BT q.2.1)),(10,.i q.2.2),(11,.sl 1 b.1.length (AK AP b.1)),(12,.sl 2 b.2.1.length (AK BT b.2.1)),(13,.i b.2.2),(16,.i M.2.2),(18,.i O.2),(19,.ref 0 0)]) (zG8 a) ?_;revert r;apply gO;exact cn λy9 y=>jc (sb [.agg 5 (L1 [.i a.cells,.i a.symbols,.ints a.values,.sl 1 a.nbrs.length (AK AP a.nbrs),.sl 9 (([(⟨1,([0,1]:Ξ),0,0,0,0,([]:Ξ),0,0⟩:AD)]:List AD).length) (AK BY ([(⟨1,([0,1]:Ξ),0,0,0,0,([]:Ξ),0,0⟩:AD)]:List AD))]),.msl 2 1 0 2,.i 100,.i 1000] (ME y) (jC a) ⟨Az.plain (by kernel_rfl),Az.ints rfl (by decide:2=([7,7]:Ξ).length),Az.plain (by kernel_rfl),Az.plain (by kernel_rfl),trivial⟩) (cn λdJ z=>jc (sb [.agg 5 (L1 [.i a.cells,.i a.symbols,.ints a.values,.sl 1 a.nbrs.length (AK AP a.nbrs),.sl 9 (([(⟨1,([0,1]:Ξ),0,0,0,0,([]:Ξ),0,0⟩:AD)]:List AD).length) (AK BY ([(⟨1,([0,1]:Ξ),0,0,0,0,([]:Ξ),0,0⟩:AD)]:List AD))]),.msl 3 1 0 2,.i 2,.i 1000] (ME z) (Sf a) ⟨Az.plain (by kernel_rfl),Az.ints rfl (by decide:2=([7,7]:Ξ).length),Az.plain (by kernel_rfl),Az.plain (by kernel_rfl),trivial⟩) (cn λd A=>jc (fb (Wi A) (Sf a)) (cn λXm e=>jc (sb [.agg 5 (L1 (AH d)),.msl 4 1 0 3] (lA e) (jB a) ⟨Az.plain (by kernel_rfl),Az.ints rfl (by decide:3=([7,3,3]:Ξ).length),trivial⟩) (bj 95 (λl=>jz 98 5 (jg (by decide:1=([0]:Ξ).length) (jz 99 6 (jg (by decide:1=([1]:Ξ).length) (ja 100 7 1 (El (c:=AP) (L:=([([0]:Ξ),([1]:Ξ)]:List Ξ)) (vals:=[.ints ([0]:Ξ),.ints ([1]:Ξ)]) rfl ⟨⟨_,rfl,⟨Aw,trivial⟩⟩,⟨_,rfl,⟨Aw,trivial⟩⟩,trivial⟩) (jz 100 7 (jg (by decide:2=([([0]:Ξ),([1]:Ξ)]:List Ξ).length) (cn λmK C=>jc (fb (Re C) (jA a)) (bj 101 (λw=>bj 106 (λt=>bj 110 (λm=>bj 114 (λV=>jz 118 8 (jg (by decide:1=([0]:Ξ).length) (ja 119 9 1 (El (c:=AP) (L:=([([0]:Ξ)]:List Ξ)) (vals:=[.ints ([0]:Ξ)]) rfl ⟨⟨_,rfl,⟨Aw,trivial⟩⟩,trivial⟩) (jz 119 9 (jg (by decide:1=([([0]:Ξ)]:List Ξ).length) (cn λmJ D=>jc (fb (Re D) (i9 a)) (bj 120 (λs=>bj 125 (λu=>gn λf=>jg f (bj 132 (λU=>bj 136 (λv=>bj 141 (λE=>bj 146 (λF=>gn λo=>jg o (bj 153 (λW=>bj 158 (λH=>bj 162 (λX=>bj 166 (λI=>bj 170 (λY=>bj 174 (λJ=>bj 178 (λZ=>bj 182 (λK=>bn (λj=>rO (jc (sb [.agg 5 (L1 [.i a.cells,.i a.symbols,.ints a.values,.sl 1 a.nbrs.length (AK AP a.nbrs),.sl 9 (([(⟨1,([0,1]:Ξ),0,0,0,0,([]:Ξ),0,0⟩:AD)]:List AD).length) (AK BY ([(⟨1,([0,1]:Ξ),0,0,0,0,([]:Ξ),0,0⟩:AD)]:List AD))]),.msl 2 1 0 2,.i 100,.i 1000] (ME y) (jC a) ⟨Az.plain (by kernel_rfl),Az.ints rfl (by decide:2=([7,7]:Ξ).length),Az.plain (by kernel_rfl),Az.plain (by kernel_rfl),trivial⟩) (jc (sb [.agg 5 (L1 [.i a.cells,.i a.symbols,.ints a.values,.sl 1 a.nbrs.length (AK AP a.nbrs),.sl 9 (([(⟨1,([0,1]:Ξ),0,0,0,0,([]:Ξ),0,0⟩:AD)]:List AD).length) (AK BY ([(⟨1,([0,1]:Ξ),0,0,0,0,([]:Ξ),0,0⟩:AD)]:List AD))]),.msl 3 1 0 2,.i 2,.i 1000] (ME z) (Sf a) ⟨Az.plain (by kernel_rfl),Az.ints rfl (by decide:2=([7,7]:Ξ).length),Az.plain (by kernel_rfl),Az.plain (by kernel_rfl),trivial⟩) (jc (fb (Wi A) (Sf a)) (jc (sb [.agg 5 (L1 (AH d)),.msl 4 1 0 3] (lA e) (jB a) ⟨Az.plain (by kernel_rfl),Az.ints rfl (by decide:3=([7,3,3]:Ξ).length),trivial⟩) (jb 92 j (jb 95 l (jz 98 5 (jg (by decide:1=([0]:Ξ).length) (jz 99 6 (jg (by decide:1=([1]:Ξ).length) (ja 100 7 1 (El (c:=AP) (L:=([([0]:Ξ),([1]:Ξ)]:List Ξ)) (vals:=[.ints ([0]:Ξ),.ints ([1]:Ξ)]) rfl ⟨⟨_,rfl,⟨Aw,trivial⟩⟩,⟨_,rfl,⟨Aw,trivial⟩⟩,trivial⟩) (jz 100 7 (jg (by decide:2=([([0]:Ξ),([1]:Ξ)]:List Ξ).length) (jc (fb (Re C) (jA a)) (jb 101 w (jb 106 t (jb 110 m (jb 114 V (jz 118 8 (jg (by decide:1=([0]:Ξ).length) (ja 119 9 1 (El (c:=AP) (L:=([([0]:Ξ)]:List Ξ)) (vals:=[.ints ([0]:Ξ)]) rfl ⟨⟨_,rfl,⟨Aw,trivial⟩⟩,trivial⟩) (jz 119 9 (jg (by decide:1=([([0]:Ξ)]:List Ξ).length) (jc (fb (Re D) (i9 a)) (jb 120 s (jb 125 u (jg f (jb 132 U (jb 136 v (jb 141 E (jb 146 F (jg o (jb 153 W (jb 158 H (jb 162 X (jb 166 I (jb 170 Y (jb 174 J (jb 178 Z (jb 182 K (lE AC [0] [])))))))))))))))))))))))))))))))))))))))))) (λj=>rO (jc (sb [.agg 5 (L1 [.i a.cells,.i a.symbols,.ints a.values,.sl 1 a.nbrs.length (AK AP a.nbrs),.sl 9 (([(⟨1,([0,1]:Ξ),0,0,0,0,([]:Ξ),0,0⟩:AD)]:List AD).length) (AK BY ([(⟨1,([0,1]:Ξ),0,0,0,0,([]:Ξ),0,0⟩:AD)]:List AD))]),.msl 2 1 0 2,.i 100,.i 1000] (ME y) (jC a) ⟨Az.plain (by kernel_rfl),Az.ints rfl (by decide:2=([7,7]:Ξ).length),Az.plain (by kernel_rfl),Az.plain (by kernel_rfl),trivial⟩) (jc (sb [.agg 5 (L1 [.i a.cells,.i a.symbols,.ints a.values,.sl 1 a.nbrs.length (AK AP a.nbrs),.sl 9 (([(⟨1,([0,1]:Ξ),0,0,0,0,([]:Ξ),0,0⟩:AD)]:List AD).length) (AK BY ([(⟨1,([0,1]:Ξ),0,0,0,0,([]:Ξ),0,0⟩:AD)]:List AD))]),.msl 3 1 0 2,.i 2,.i 1000] (ME z) (Sf a) ⟨Az.plain (by kernel_rfl),Az.ints rfl (by decide:2=([7,7]:Ξ).length),Az.plain (by kernel_rfl),Az.plain (by kernel_rfl),trivial⟩) (jc (fb (Wi A) (Sf a)) (jc (sb [.agg 5 (L1 (AH d)),.msl 4 1 0 3] (lA e) (jB a) ⟨Az.plain (by kernel_rfl),Az.ints rfl (by decide:3=([7,3,3]:Ξ).length),trivial⟩) (jb 92 j (jb 95 l (jz 98 5 (jg (by decide:1=([0]:Ξ).length) (jz 99 6 (jg (by decide:1=([1]:Ξ).length) (ja 100 7 1 (El (c:=AP) (L:=([([0]:Ξ),([1]:Ξ)]:List Ξ)) (vals:=[.ints ([0]:Ξ),.ints ([1]:Ξ)]) rfl ⟨⟨_,rfl,⟨Aw,trivial⟩⟩,⟨_,rfl,⟨Aw,trivial⟩⟩,trivial⟩) (jz 100 7 (jg (by decide:2=([([0]:Ξ),([1]:Ξ)]:List Ξ).length) (jc (fb (Re C) (jA a)) (jb 101 w (jb 106 t (jb 110 m (jb 114 V (jz 118 8 (jg (by decide:1=([0]:Ξ).length) (ja 119 9 1 (El (c:=AP) (L:=([([0]:Ξ)]:List Ξ)) (vals:=[.ints ([0]:Ξ)]) rfl ⟨⟨_,rfl,⟨Aw,trivial⟩⟩,trivial⟩) (jz 119 9 (jg (by decide:1=([([0]:Ξ)]:List Ξ).length) (jc (fb (Re D) (i9 a)) (jb 120 s (jb 125 u (jg f (jb 132 U (jb 136 v (jb 141 E (jb 146 F (jg o (jb 153 W (jb 158 H (jb 162 X (jb 166 I (jb 170 Y (jb 174 J (jb 178 Z (jb 182 K (lE AC [0] []))))))))))))))))))))))))))))))))))))))))))) (λ_=>lE AC [0] [])) (λ_=>lE AC [0] [])) (λ_=>lE AC [0] [])) (λ_=>lE AC [0] [])) (λ_=>lE AC [0] [])) (λ_=>lE AC [0] [])) (λ_=>lE AC [0] [])) (λ_=>lE AC [0] []))) (λ_=>lE AC [0] [])) (λ_=>lE AC [0] [])) (λ_=>lE AC [0] [])) (λ_=>lE AC [0] []))) (λ_=>lE AC [0] [])) (λ_=>lE AC [0] [])))))))) (λ_=>lE AC [0] [])) (λ_=>lE AC [0] [])) (λ_=>lE AC [0] [])) (λ_=>lE AC [0] [])))))))))) (λ_=>lE AC [0] []))))))))))))))))))))))
end
end Go.Proofs.YtodinaconebmdaaGreatDoor
