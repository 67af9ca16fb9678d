/- Part 6 of 8 of what the proofs of these laws stand on. -/
import Derived.Test.YtodinaconebmdaaGreatDoorPxE
import Derived.RangeFuncLeaves
import Derived.RecoverIn
set_option linter.all false
namespace Go.Proofs.YtodinaconebmdaaGreatDoor
open Go.RowKit
section
section
variable {P:Program} {Γ:Av} {N:Ψ} {ρ:List AI} {a:Act} {w:World} {S:St} {Q:Exit -> Act -> World -> Prop} {fr:List DV} {h':DH} {c:List (DV×DH×Bool)} {o:List (Nat×DV)} {z:List (Nat×Fz)} {v v2:List Prop} {id:Nat} {ops:Array Oper}
def Zq (L:Nat)(B σ U:Θ)(r:St×List Prop×BQ):Option (List DV×DH×List Prop×List Prop×Bool):=match frzL U (comp B σ r.1) with
 | some (S,w)=>some (S.fr,S.h,r.2.1,w,Kp σ L r.1.h.length)
 | none=>none
variable {L:Nat}
def rU {B σ U:Θ}{r:St×List Prop×BQ}(h:Zq L B σ U r=some (fr,h',v,v2,true))(z:Bq v2):r.2.1=v/\ A7 L r.1 ⟨fr,h'⟩:=by
 unfold Zq at h;split at h
 ·rename_i S1 w1 M;simp only [zH8,zIa] at h;obtain ⟨rfl,rfl,rfl,rfl,k⟩:=h;exact ⟨rfl,(A7.comp B σ r.1 k).trans (A7.frzL U M z)⟩
 ·cases h
def wr (d:HX Fence.wide P)(B σ U:Θ)(m:HS c o z v)(e:HS [] [] [] v2)(fr:List DV)(h':DH)(R:AS P Γ N S ρ a w)(h:(EN P Γ ops ops.toList S ⟨c,o,z,[]⟩).bind (Zq L B σ U)=some (fr,h',v,v2,true))(x:DE ops=true) 
 (hk: ∀ ρ' b w',AS P Γ N ⟨fr,h'⟩ ρ' b w' -> A3 S.h ρ w h' ρ' w' -> b.defers=a.defers -> CA L ρ ρ' -> Q .normal b w'):(Code.region id ops false).wpIn Fence.wide 0 P Q a w:=by
 obtain ⟨⟨S1,v1,o1⟩,i,h⟩:=Gg h;obtain ⟨rfl,g⟩:=rU h e.all;refine zJK (LZ d.f x _ (λo j=>by simpa using j) R i m.all λρ' b w' R' st r=>?_);obtain ⟨ρ2,T,D,Y⟩:=g P Γ N ρ' b w' R';exact hk ρ2 b w' T (st.st.trans D) r (CA.trans (λk p _ l=>st.pl k p l) Y)
def dW (d:HX Fence.wide P)(early:Θ)(t:ST)(I:B3 ops early t)(tg:List (List (Nat×Nat)×St))(B σ U:Θ)(e:HS c o z v)(g:HS [] [] [] v2)(fr:List DV)(h':DH)(R:AS P Γ N S ρ a w)(h:(UM P Γ ops early t S ⟨c,o,z,tg⟩).bind (Zq L B σ U)=some (fr,h',v,v2,true)) 
 (hk: ∀ ρ' b w',AS P Γ N ⟨fr,h'⟩ ρ' b w' -> A3 S.h ρ w h' ρ' w' -> b.defers=a.defers -> CA L ρ ρ' -> Q .normal b w'):(Code.region id ops true).wpIn Fence.wide 0 P Q a w:=by
 obtain ⟨⟨S1,v1,o1⟩,i,h⟩:=Gg h;obtain ⟨rfl,j⟩:=rU h g.all;simp only [B3,zFW] at I;obtain ⟨⟨l,n⟩,q⟩:=I;unfold UM at i;split at i
 ·cases i
 split at i
 ·cases i
 ·rename_i K;cases i;have F:A0 w w.drew:=A0.toDrew w;refine ma (mZ d.m (zNt _) ((nB d.f q n t ops.size _ vk (R.ext F) K e.all λρ' b w' R' st C r=>?_).1 l));obtain ⟨ρ2,T,D,Y⟩:=j P Γ N ρ' b w' R';exact hk ρ2 b w' T ((A3.ext F).trans (st.trans D)) r (CA.trans (λk p _ s=>C k p (by rw [←R.hr.len];grind) s) Y)
theorem zJV {h:DH}{ρ ρ':List AI}{w w':World}{d:DV}{v:Value}(h0:Aq P Γ N [] ρ w)(R:Aq P Γ N h ρ' w')(st:A3 [] ρ w h ρ' w')(i:AL (MS N h ρ') w' d ρ' v)(r:GD d=true):CC P Γ N [] ρ w true d [] v w':=by
 have e:ρ= []:=zMr.1 h0.len;subst e;have f:=Nk r _ _ _ _ i;have low: ∀ b,MO [] ([]:List AI) b -> False:=λb ⟨k,_,_,q,_⟩=>by simp at q
 have a:AQ (λ_=>False) w w':=st.upd.mono λb _ c=>low b c
 refine ⟨⟨[],⟨rfl,λk o hk=>by simp at hk,λk o p b hk=>by simp at hk,λk k' o o' p p' b _ hk=>by simp at hk,R.nlt,R.gi⟩,?_,⟨a.mono λ_ _ h=>h.elim,λb c=>(low b c).elim⟩,λk p hk=>by simp at hk⟩,λ_=>a.toExt λ_ _ h=>h⟩;exact f.out _ ⟨λ_ _ _ _=>rfl,λb c=>.inl (c.imp id λh=>(low b h).elim),λk p hk=>by simp at hk⟩
end
variable {w:World}{a:Act}{P:Program}
def xq {Q:Exit -> Act -> World -> Prop}{ops:Array Oper}{id t g:Nat}{o0 o1:Oper}{b:Array Operand}{W:Array TypeId}(m:ops.toList= [o0,o1])(h0:o0.op= .makeFunc (.func g) #[] b)(Fd:o0.dst=some t)(M:o0.guard=none)(h1:o1.op= .defer { callee:=.value (.tmp t),args:=#[],argTypes:=W })(GJ:o1.dst=none)(f:o1.guard=none)(ht:t<a.tmps.size) 
 (hQ: ∀ d,d.tmps=a.tmps.setIfInBounds t (.func (.func g) #[] (b.map a.eval)) -> d.defers= { target:=.fn (.func g) (b.map a.eval),args:=#[] }::a.defers -> Q .normal d w):(Code.region id ops false).wpIn Fence.wide 0 P Q a w:=by
 refine zJK ?_;rw [m];simp only [wpListIn,Oper.wpIn,Region.wanted,M,f,zJH];refine ⟨λ_ _=>trivial,?_⟩
 have K:(o0.semAt Fence.wide.round a.eval).run P w= .ok (.value (.func (.func g) #[] (b.map a.eval))) w:=by
  rw [zJC _ _ _ (by rw [h0];intro c e;cases e)];unfold execOp;rw [h0];simp only [zG3,Array.map_empty];simp [go_sem]
 rw [K,Oper.uponIn_value];refine ⟨λ_ _=>trivial,?_⟩
 simp_all [Act.eval,Act.put,Oper.semAt_none,execOp,resolve,Deferred.ofValue,Oper.uponIn_defer]
variable {b:Act}{ρ:List AI}{h:DH}{fr:List DV}{N:Ψ}{Γ:Av}
def AS.idle (R:AS P Γ N ⟨fr,h⟩ ρ a w)(t:Nat){v:Value}(ha:b.tmps=a.tmps.setIfInBounds t v)(e:fr.set t .any=fr):AS P Γ N ⟨fr,h⟩ ρ b w:=by
 refine ⟨R.hr,?_⟩;have:=R.fr.set t (d:=.any) (v:=v) trivial
 grind
variable {w':World}{ρ':List AI}{h':DH}
def kz {D:Nat}(H:Aq P Γ N h ρ w)(st:A3 h ρ w h' ρ' w')(a:w.heap[D]? =some (.deferred (some []))):w'.heap[D]? =some (.deferred (some [])):=by
 refine (st.upd.block D (zGS.1 a).1 ?_).trans a;rintro ⟨k,o,p,b,d,e⟩;obtain ⟨_,_,c,t,z,A⟩:=H.cel k o p D b d e;rw [a] at A;cases A;cases t
def AS.forg {fr':List DV}(B:Θ)(R:AS P Γ N ⟨fr,h⟩ ρ a w)(D:b.tmps=a.tmps)(e:forget B fr=fr'):AS P Γ N ⟨fr',h⟩ ρ b w:=by
 subst e;refine ⟨R.hr,?_⟩;rw [D];refine ⟨(Wm B fr).trans R.fr.1,λi hi=>?_⟩;have hi:i<fr.length:=by grind [Wm]
 show AL _ _ ((forget B fr).getD i .any) _ _
 rw [kY B fr hi];split
 ·exact R.fr.2 i hi
 ·trivial
def G9 {L:Nat}{t:Array Value}(F:BE (MS N h ρ) w ρ fr t)(l:fr.all (C4 L)=true)(H':Aq P Γ N h' ρ' w')(st:A3 h ρ w h' ρ' w')(n:CA L ρ ρ'):BE (MS N h' ρ') w' ρ' fr t:=
 (F.take l).out ⟨λb c v _=>st.upd.block b c λd=>v (.inr d),λb c=>c.elim (λh=>.inl (.inl h)) λh=>(st.grow b h).imp .inr id,λk p g=>by
  rw [zMy] at g;split at g
  ·rename_i hk;exact n k p hk g
  ·cases g⟩
def Wr {S:St}{ρ0:List AI}{w0 W:World}{fn:Func}(R:AS P Γ N S ρ a W)(h0:Aq P Γ N [] ρ0 w0)(st:A3 [] ρ0 w0 S.h ρ W)(U:Θ){n:List Prop}(z:HS [] [] [] n)(k:List DV){d:DV}(b:AN (IF k) d) 
 (M:(frzL U S).bind (λq=>(NW P q.1 fn.results.toList).map λr=>(r,q.2))=some (k,n)) (u:GD d=true): ∃ v,(results fn a.tmps).run P W= .ok v W/\ CC P Γ N [] ρ0 w0 true d [] v W:=by
 obtain ⟨⟨S2,w2⟩,c,e⟩:=Gg M;obtain ⟨r,f,A⟩:=SS e;cases A;obtain ⟨ρ2,T,D,_⟩:=A7.frzL (L:=0) U c z.all P Γ N ρ a W R;obtain ⟨v,o,s⟩:=ZF T f;exact ⟨v,o,zJV h0 T.hr (st.trans D) (b _ _ _ _ s) u⟩
end
def YV.le {x y:List DV}(m:Ja x y){R:Ψ}{W:World}{args:Array Value}(h:YV x R W args):YV y R W args:=by
 obtain ⟨a,b⟩:=Tt m;exact ⟨a▸h.1,λj e=>b j (a▸e) _ _ _ _ (h.2 j (a▸e))⟩
inductive Ys where
 | go (i:Nat)
 | stop
 | pan (c:List PanicEntry)
def YsY (j:Nat):Ys -> Ending -> Prop
 | .go k,e=>k=j/\ e= .returned (.bool true)
 | .stop,e=>e= .returned (.bool false)
 | .pan c,e=>e= .panicked c
def Qw (tD:Bool -> DV)(j:Nat)(s:Ys)(e:Ending)(M:Ψ)(w:World)(ρ:List AI):Prop:=match s with
 | .go k=>k=j/\ ∃ v,e= .returned v/\ AL M w (tD true) ρ v
 | .stop=>∃ v,e= .returned v/\ AL M w (tD false) ρ v
 | .pan c=>e= .panicked c
theorem Qw.out {tD:Bool -> DV}{j:Nat}{s:Ys}{e:Ending}{M d:Ψ}{w:World}{ρ ρ':List AI}(H:BP M w ρ d w ρ')(h:Qw tD j s e M w ρ):Qw tD j s e d w ρ':=by
 cases s with
 | go k=>obtain ⟨h0,v,a,b⟩:=h;exact ⟨h0,v,a,b.out _ H⟩
 | stop=>obtain ⟨v,a,b⟩:=h;exact ⟨v,a,b.out _ H⟩
 | pan c=>exact h
structure ET (P:Program) where
 l:Nat
 encs:List (List DV)
 J:Ys -> (Ψ) -> (Ψ) -> World -> Prop
 hJ: ∀ s,Cz (J s)
 hy: ∀ i x args G R W1,encs[i]? =some x -> YV x R W1 args -> J (.go i) G R W1 -> ED G R W1 -> YieldAt Fence.wide 0 P l args W1 λe W'=>
  AQ (λk=>¬ (G k∨R k)) W1 W'/\ ∃ s,YsY (i+1) s e/\ J s G R W'
def YW (P:Program)(Γ:Av)(tD:Bool -> DV)(f:Nat)(ds:Nat -> List DV)(h:Nat -> DH)(ys:List (List DV)):Prop:= (∀ args W,(callFunc f args).run P W= .ok (.enter f args) W)/\ ∀ (C:ET P),∀ i,(∃ rest,C.encs.drop i=ys++rest) -> ∀ N ρ args w G R,Aq P Γ N (h C.l) ρ w -> BE (MS N (h C.l) ρ) w ρ (ds C.l) args -> C.J (.go i) G R w -> IY Γ N G R (h C.l) ρ w -> CallsIn Fence.wide 0 P f args w λe w'=>∃ s V ρ' Y R',Aq P Γ V (h C.l) ρ' w'/\ C.J s Y R' w'/\ IY Γ V Y R' (h C.l) ρ' w'/\ CA (h C.l).length ρ ρ'/\ Qw tD (i+ys.length) s e (MS V (h C.l) ρ') w' ρ'
section
variable {P:Program} {Γ:Av}
def ET.part (C:ET P)(O I V:Ψ)(w:World)(o: ∀ b,O b -> b<w.heap.size)(hR1: ∀ b,I b -> b<w.heap.size):ET P where
 l:=C.l
 encs:=C.encs
 J:=λs G R W=>C.J s (λb=>G b∨O b) R W/\ AQ (λb=>¬ (O b∨I b)) w W/\ (∀ b,O b -> ¬ G b/\ ¬ R b)/\ (∀ b,I b -> R b)/\ (∀ b,G b -> V b∨w.heap.size<=b)/\ (∀ b,G b -> ¬ R b)
 hJ:=by
  rintro s G R Y R' A B ⟨g,a,j,m,p,r⟩ q y z IX t u;have c:=a.size;have D: ∀ b,O b -> b<A.heap.size:=λb f=>zGb (o b f) c
  have v: ∀ b,O b -> ¬ Y b/\ ¬ R' b:=λb f=>by
   grind
  refine ⟨C.hJ s _ R _ R' A B g (q.mono λ_ _ h=>.inl h) (λk hk=>hk.elim (λh=>(y k h).imp .inl id) λh=>.inl (.inr h)) (λk hk=>(z k hk).imp id λh=>h.imp .inl id) (λk hk=>?_) (λk hk=>hk.elim (t k) λh=>(v k h).2) (λk hk=>?_),a.comp q λi hi d=>?_,v,λb f=>?_,λb f=>?_,t⟩
  ·grind
  ·rcases hk with (hk | hk) | hk
   ·exact u k (.inl hk)
   ·exact zGb (D k hk) q.size
   ·exact u k (.inr hk)
  ·grind
  ·grind
  grind
 hy:=by
  rintro i x args G R E d F ⟨g,a,j,m,p,r⟩ c
  obtain ⟨fn,tmps,H,T,hy,hR⟩:=C.hy i x args _ R E d F g ⟨λk hk=>hk.elim (c.dis k) λh=>(j k h).2,λk hk=>by
   rcases hk with (hk | hk) | hk
   ·exact c.lt k (.inl hk)
   ·exact zGb (o k hk) a.size
   ·exact c.lt k (.inr hk)⟩
  refine ⟨fn,tmps,H,T,hy,hR.mono ?_⟩;rintro e W' ⟨q,n⟩;obtain ⟨s,K,n⟩:=n;exact ⟨q.mono λk _ h d=>h (d.imp .inl id),s,K,n,a.comp q λi _ d L=>d (L.imp .inr (m i)),j,m,p,r⟩
variable {ys:List (List DV)}{h:Nat -> DH}{ds:Nat -> List DV}{f:Nat}{tD:Bool -> DV}
def YW.call (H:YW P Γ tD f ds h ys){C:ET P}{i:Nat}(hi: ∃ rest,C.encs.drop i=ys++rest){N G R:Ψ}{I T:DH}{ρ:List AI}{w:World}{args:Array Value} 
 (e:I=h C.l++T) (HR:Aq P Γ N I ρ w) (hc:(h C.l).all (Tf (h C.l).length)=true) (hd:(ds C.l).all (C4 (h C.l).length)=true) (fa:BE (MS N I ρ) w ρ (ds C.l) args) (hj:C.J (.go i) G R w) (y:IY Γ N G R I ρ w):
 CallsIn Fence.wide 0 P f args w λe w'=>∃ s x ρ2 G2 R2,Aq P Γ x (h C.l++T) ρ2 w'/\ C.J s G2 R2 w'/\ IY Γ x G2 R2 (h C.l++T) ρ2 w'/\ CA I.length ρ ρ2/\ Qw tD (i+ys.length) s e (MS x (h C.l++T) ρ2) w' ρ2/\
  BP (MS N I ρ) w ρ (MS x (h C.l++T) ρ2) w' ρ2/\ AQ (λb=>N b∨MO (h C.l) (ρ.take (h C.l).length) b∨w.heap.size<=b) w w':=by
 subst e;obtain ⟨K,Q⟩: ∃ K,K=(h C.l).length:=⟨_,rfl⟩;have hK:(h C.l++T).take K=h C.l:=by rw [Q,zNS];rfl
 have hKl:K<=(h C.l++T).length:=by rw [Q,zGi];omega
 obtain ⟨Ee,hM⟩:=HR.take hKl (by rw [hK,Q];exact hc);rw [hK] at Ee hM;obtain ⟨R1,z1,d,z3,z4⟩:=IY.part (C.hJ (.go i)) hj y;have sp:=λb=>MO.split (h:=h C.l++T) (ρ:=ρ) K b
 rw [hK] at sp;obtain ⟨O,v⟩: ∃ O,O=MT K (h C.l++T) ρ:=⟨_,rfl⟩;obtain ⟨V,bV⟩: ∃ V,V=MO (h C.l) (ρ.take K):=⟨_,rfl⟩;rw [←v] at Ee hM;rw [←Q,←bV];have zM:(λb=>V b∨O b)=MO (h C.l++T) ρ:=by rw [bV,v];grind
 have g: ∀ b,V b∨O b↔MO (h C.l++T) ρ b:=λb=>iff_of_eq (congrFun zM b)
 have AU: ∀ b,MO (h C.l++T) ρ b -> b<w.heap.size:=λb hb=>d.sh.lt b (.inl hb)
 have Sy: ∀ b,V b -> ¬ O b:=λb L M=>by
  rw [bV] at L;rw [v] at M;obtain ⟨k,o,p,j,a,m⟩:=L;obtain ⟨k',o',p',g1,U,W,X⟩:=M;rw [zMy] at a;split at a
  ·rename_i hk;exact HR.dis k k' o o' p p' b (by omega) (by grind) U a W m X
  ·cases a
 have hNG: ∀ b,N b -> ¬ MO (h C.l++T) ρ b:=λb hN=>((d.n b).1 hN).2.1
 let C':ET P:=C.part O R1 V w (λb hb=>AU b ((g b).1 (.inr hb))) λb hb=>d.sh.lt b (.inr hb)
 have fa':BE (MS (λb=>N b∨O b) (h C.l) (ρ.take K)) w (ρ.take K) (ds C.l) args:=by
  have e:MS (λb=>N b∨O b) (h C.l) (ρ.take K)=MS N (h C.l++T) ρ:=funext λb=>propext (hM b)
  rw [e];exact fa.take (by rw [Q];exact hd)
 refine (H.2 C' i hi (λb=>N b∨O b) (ρ.take K) args w V R1 Ee fa' ⟨by grind,AQ.refl _ _,λb hb=>⟨λhg=>Sy b hg hb,d.sh.dis b ((g b).1 (.inr hb))⟩,λ_ h=>h,λ_ h=>.inl h,λb hb=>d.sh.dis b ((g b).1 (.inl hb))⟩
  ⟨⟨λb hb=>d.sh.dis b ((g b).1 (.inl hb)),λb hb=>hb.elim (λh=>AU b ((g b).1 (.inl h))) λh=>d.sh.lt b (.inr h)⟩,d.lo,λb hb=>by rw [bV];exact hb,λb=>?_⟩).mono ?_
 ·constructor
  ·rintro (hb | hb)
   ·exact ⟨((d.n b).1 hb).1,λhg=>hNG b hb ((g b).1 (.inl hg)),((d.n b).1 hb).2.2⟩
   ·exact ⟨AU b ((g b).1 (.inr hb)),λhg=>Sy b hg hb,d.sh.dis b ((g b).1 (.inr hb))⟩
  ·rintro ⟨j,a,m⟩
   by_cases Y:O b
   ·exact .inr Y
   ·exact .inl ((d.n b).2 ⟨j,λhm=>((g b).2 hm).elim a Y,m⟩)
 ·rintro e w' ⟨s,N',ρs,G',R',Z,⟨j1,j2,j3,j4,j5,j6⟩,B,kp,Y⟩;have BJ:=j2.size;have hls:ρs.length=K:=by rw [Z.len,Q];rfl
  have Aj:ρ.length=K+T.length:=by rw [HR.len,zGi,Q]
  have hN2: ∀ b,(b<w'.heap.size/\ ¬ (G' b∨O b)/\ ¬ R' b) -> N' b:=λb ⟨j,a,m⟩=>(B.n b).2 ⟨j,λh=>a (.inl h),m⟩
  have hON: ∀ b,O b -> N' b:=λb hb=>(B.n b).2 ⟨zGb (AU b ((g b).1 (.inr hb))) BJ,(j3 b hb).1,(j3 b hb).2⟩
  have pl: ∀ (k:Nat) (p:AI),ρ[k]? =some p -> (ρs++ρ.drop K)[k]? =some p:=λk p q=>by
   rcases zIg k K with hk | hk
   ·rw [zI5 (by omega)];exact kp k p (by show k<(h C.l).length;rw [←Q];exact hk) (by grind)
   grind
  have A: ∀ {k:Nat} {p:AI},k<K -> (ρs++ρ.drop K)[k]? =some p -> ρs[k]? =some p:=λ{k p} hk q=>by grind
  have E: ∀ {k:Nat} {p:AI},K<=k -> (ρs++ρ.drop K)[k]? =some p -> ρ[k]? =some p:=λ{k p} hk q=>by
   grind
  have F: ∀ {k:Nat} {o:DO},k<K -> (h C.l++T)[k]? =some (some o) -> (h C.l)[k]? =some (some o):=λ{k o} hk Y=>by grind
  have r: ∀ {k:Nat} {o:DO},K<=k -> (h C.l++T)[k]? =some (some o) -> (h C.l++T)[k]? =some (some o):=λ{k o} hk Y=>by
   grind
  have LX: ∀ b,MO (h C.l++T) (ρs++ρ.drop K) b -> G' b∨O b:=by
   rintro b ⟨k,o,p,j,a,m⟩;rcases zIg k K with hk | hk
   ·exact .inl (B.own b ⟨k,o,p,F hk j,A hk a,m⟩)
   ·exact .inr (by rw [v];exact ⟨k,o,p,hk,r hk j,E hk a,m⟩)
  obtain ⟨x,uN⟩: ∃ x:Ψ,x=λb=>b<w'.heap.size/\ ¬ (G' b∨O b)/\ ¬ R' b:=⟨_,rfl⟩
  have Hg: ∀ b,x b -> N' b:=λb hb=>by rw [uN] at hb;exact hN2 b hb
  have hM2: ∀ b,MS x (h C.l++T) (ρs++ρ.drop K) b -> b<w'.heap.size/\ ¬ R' b:=λb hb=>by
   rcases hb with hb | hb
   ·grind
   ·rcases LX b hb with hb | hb
    ·exact ⟨B.sh.lt b (.inl hb),j6 b hb⟩
    grind
  have out:BP (MS N (h C.l++T) ρ) w ρ (MS x (h C.l++T) (ρs++ρ.drop K)) w' (ρs++ρ.drop K):=by
   refine ⟨λb hb hm _=>j2.block b hb λu=>u (.inr ?_),λb hb=>?_,pl⟩
   ·grind
   grind
  have gH:BP (MS N' (h C.l) ρs) w' ρs (MS x (h C.l++T) (ρs++ρ.drop K)) w' (ρs++ρ.drop K):=by
   refine ⟨λ_ _ _ _=>rfl,λb hb=>.inl ?_,λk p q=>?_⟩
   ·rcases hb with hb | hb
    ·exact .inl (Hg b hb)
    ·obtain ⟨k,o,p,j,a,m⟩:=hb;rcases zIg k K with hk | hk
     ·exact .inr ⟨k,o,p,F hk j,A hk a,m⟩
     ·exact .inl (hON b (by rw [v];exact ⟨k,o,p,hk,r hk j,E hk a,m⟩))
   grind
  refine ⟨s,x,ρs++ρ.drop K,λb=>G' b∨O b,R',⟨by simp [hls,Aj,Q],λk o hk=>?_,λk o p b L M h3=>?_,λi i' o o' p p' b AY g1 U W X g5 g6=>?_,λb hb=>?_,Z.gi⟩,j1,⟨⟨λb hb=>hb.elim (j6 b) λh=>(j3 b h).2,λb hb=>?_⟩,B.lo,LX,λb=>by rw [uN]⟩,λk p _ q=>pl k p q,Y.out gH,out,?_⟩
  ·rcases zIg k K with G6 | G6
   ·obtain ⟨p,q,D⟩:=Z.obj k o (F G6 hk);exact ⟨p,gH.pl k p q,D.out gH (S:=λ_=>False) (AQ.refl _ _) (λ_ h=>h.elim) λ_ _ _ h=>h⟩
   ·obtain ⟨p,q,D⟩:=HR.obj k o (r G6 hk);refine ⟨p,pl k p q,D.out out (S:=λb=>b<w.heap.size/\ ¬ (O b∨R1 b)) (j2.mono λb hb u=>⟨hb,u⟩) (λb hb=>z3 b ⟨hb.1,λD=>hb.2 (.inr D)⟩) λb _ hf u=>u.2 (.inl ?_)⟩;rw [v];exact ⟨k,o,p,G6,r G6 hk,q,hf⟩
  ·rcases zIg k K with G6 | G6
   ·obtain ⟨c1,c2,c3⟩:=Z.cel k o p b (F G6 L) (A G6 M) h3
    grind
   ·have Dp:O b:=by rw [v];exact ⟨k,o,p,G6,r G6 L,E G6 M,h3⟩
    obtain ⟨c1,_,c,t,z,c3⟩:=HR.cel k o p b (r G6 L) (E G6 M) h3;refine ⟨c1,λu=>?_,c,t,z,(j2.block b (zGS.1 c3).1 λu=>u (.inl Dp)).trans c3⟩
    grind
  ·rcases zIg i K with KC | KC <;> rcases zIg i' K with JN | JN
   ·exact Z.dis i i' o o' p p' b AY (F KC g1) (F JN U) (A KC W) (A JN X) g5 g6
   ·exact (j3 b (by rw [v];exact ⟨i',o',p',JN,r JN U,E JN X,g6⟩)).1 (B.own b ⟨i,o,p,F KC g1,A KC W,g5⟩)
   ·exact (j3 b (by rw [v];exact ⟨i,o,p,KC,r KC g1,E KC W,g5⟩)).1 (B.own b ⟨i',o',p',F JN U,A JN X,g6⟩)
   ·exact HR.dis i i' o o' p p' b AY (r KC g1) (r JN U) (E KC W) (E JN X) g5 g6
  ·exact Z.nlt b (Hg b hb)
  ·rcases hb with (hb | hb) | hb
   ·exact B.sh.lt b (.inl hb)
   ·grind
   ·exact B.sh.lt b (.inr hb)
  ·refine j2.mono λb hb u=>?_
   rcases z3 b ⟨hb,λD=>u (.inr D)⟩ with h | h
   ·exact .inl h
   grind
def ET.K (C:ET P)(Γ:Av)(L:Nat)(s:Ys)(ρ0:List AI):BK P Γ L where
 I:=λN h ρ w=>(Pu P Γ L (C.J s) (C.hJ s)).I N h ρ w/\ CA L ρ0 ρ
 st:=λ⟨a,b⟩ H X st k=>⟨(Pu P Γ L (C.J s) (C.hJ s)).st a H X st k,b.trans k⟩
def xN (C:ET P)(Γ:Av)(tD:Bool -> DV)(fn:Func)(L j:Nat)(ρ0:List AI)(h:DH):QY P Γ L:=λe S Y=> (Y=C.K Γ L (.go j) ρ0/\ Cx P fn L (tD true) h e S)∨(Y=C.K Γ L .stop ρ0/\ Cx P fn L (tD false) h e S)∨∃ c,Y=C.K Γ L (.pan c) ρ0/\ e= .panic c/\ ∃ T,A7 L S T/\ T.h=h
def YW.of {L:Nat}{fn:Func}(Y:P.funcs[f]? =some fn)(n:fn.body.isSome=true)(F:(fn.name== "runtime.NumGoroutine")=false)(O: ∀ l,(h l).length=L) 
 (T: ∀ (C:ET P) (i:Nat) (ρ0:List AI),(∃ rest,C.encs.drop i=ys++rest) -> A1 P Γ Fence.wide none L (C.K Γ L (.go i) ρ0) (xN C Γ tD fn L (i+ys.length) ρ0 (h C.l)) [.code (AR fn)] ⟨ds C.l++List.replicate (fn.ntmps-(ds C.l).length) .any,h C.l⟩):YW P Γ tD f ds h ys:=by
 refine ⟨λargs W=>JV Y n F args W,λC i hi N ρ args w G R HR fa hj y=>?_⟩;refine wA Y n (T C i ρ hi) HR fa ⟨⟨G,R,hj,y⟩,CA.refl _ _⟩ ?_
 have p: ∀ {s:Ys} {d:DV} {e:Exit} {S':St} {ρ':List AI} {V:Ψ} {a:Act} {o:World},Cx P fn L d (h C.l) e S' -> AS P Γ V S' ρ' a o -> (C.K Γ L s ρ).I V S'.h ρ' o -> (∀ M ρ' v,AL M o d ρ' v -> Qw tD (i+ys.length) s (.returned v) M o ρ') -> ∃ v,(results fn a.tmps).run P o= .ok v o/\ ∃ s V ρ' Z R',Aq P Γ V (h C.l) ρ' o/\ C.J s Z R' o/\ IY Γ V Z R' (h C.l) ρ' o/\ CA (h C.l).length ρ ρ'/\ Qw tD (i+ys.length) s (.returned v) (MS V (h C.l) ρ') o ρ':=by
  rintro s d e S' ρ' V a o ⟨he,Cd,Q,rs,Nz,r⟩ g ⟨m,E⟩ hE;obtain ⟨ρ'',H,UU,S⟩:=Q P Γ V ρ' a o g;have y2:=(Pu P Γ L (C.J s) (C.hJ s)).st m g.hr H.hr UU S;obtain ⟨v,g1,g2⟩:=ZF H Nz;rcases r with ⟨r,t⟩ | ⟨_,r,F,hl,t⟩
  ·obtain ⟨u,A,x,y3⟩:=y2;have g3:=r _ _ _ _ g2;have Rh:=H.hr;rw [t] at y3 g3 Rh;exact ⟨v,g1,s,V,ρ'',u,A,Rh,x,y3,by rw [O];exact E.trans S,hE _ _ _ g3⟩
  ·obtain ⟨ρ3,A,z,B⟩:=A7.compact (L:=L) (List.range L) Cd zNl (λk hk=>zGb (zGX.1 hk) hl) (λk hk=>by simp [hk]) P Γ V ρ'' a o H;obtain ⟨u,U,x,y3⟩:=(Pu P Γ L (C.J s) (C.hJ s)).st y2 H.hr A.hr z B;have D:=A.hr;rw [t] at D z y3;refine ⟨v,g1,s,V,ρ3,u,U,D,x,y3,by rw [O];exact (E.trans S).trans B,hE _ _ _ ?_⟩;have r0:=F _ _ _ _ (r _ _ _ _ g2);have r1:AL (MS V (h C.l) ρ3) o d [] v:=AL.out _ ⟨λ_ _ _ _=>rfl,λb n=>n.elim (λj=>.inl (.inl j)) λj=>(z.grow b j).imp .inr id,λ_ _ j=>by simp at j⟩ r0;exact AL.out _ ⟨λ_ _ _ _=>rfl,λb n=>.inl n,λ_ _ j=>by simp at j⟩ r1
 rintro e S' ρ' V Y' a o q g m;rcases q with ⟨rfl,q⟩ | ⟨rfl,q⟩ | ⟨c,rfl,rfl,Cd,Q,t⟩
 ·have:=p (s:=.go (i+ys.length)) q g m λM ρ' v X=>⟨rfl,v,rfl,X⟩
  rcases q.1 with rfl | rfl <;> exact this
 ·have:=p (s:=.stop) q g m λM ρ' v X=>⟨v,rfl,X⟩
  rcases q.1 with rfl | rfl <;> exact this
 ·obtain ⟨m,E⟩:=m;obtain ⟨ρ3,A,z,B⟩:=Q P Γ V ρ' a o g;obtain ⟨u,U,x,y3⟩:=(Pu P Γ L (C.J (.pan c)) (C.hJ (.pan c))).st m g.hr A.hr z B;have D:=A.hr;rw [t] at D y3;exact ⟨.pan c,V,ρ3,u,U,D,x,y3,by rw [O];exact E.trans B,rfl⟩
section
variable {L:Nat} {C:ET P} {i:Nat} {ρ0:List AI} {Q:QY P Γ L} {ops:Array Oper} {S:St} {Ai:BQ} {vs:List Prop}
variable {dst:Option Tmp}{p:Nat}{O F:Θ}
def Dt.callW {tD:Bool -> DV}{g:FuncId}{d:St}{Gv:BQ}{ds:Nat -> List DV}{h:Nat -> DH}{ys:List (List DV)}{T:DH}(V:Dv Fence.wide P)(W:DE ops=true) 
 (b:XD P Γ ops O p S Ai=some (g,ds C.l,dst,d,vs,Gv)) (hv:Bq vs) (H:YW P Γ tD g ds h ys) (hS:d.h=h C.l++T) (hc:(h C.l).all (Tf (h C.l).length)=true) (hd:(ds C.l).all (C4 (h C.l).length)=true) (hi: ∃ rest,C.encs.drop i=ys++rest)
 (hk:Dt P Γ (C.K Γ L (.go (i+ys.length)) ρ0) ops F ⟨Co d.fr dst (tD true),h C.l++T⟩ Q) (n:Dt P Γ (C.K Γ L .stop ρ0) ops F ⟨Co d.fr dst (tD false),h C.l++T⟩ Q)
 (j: ∀ c,Q (.panic c) ⟨Ll d.fr,h C.l++T⟩ (C.K Γ L (.pan c) ρ0)):Dt P Γ (C.K Γ L (.go i) ρ0) ops (O++p::F) S Q:=λN ρ a w R y m=>by
 unfold XD at b;split at b
 ·cases b
 rename_i X FU Gu h1;split at b
 ·cases b
 rename_i o x;split at b
 ·rename_i hw;split at b
  ·rename_i c QJ;split at b
   ·rename_i f WX;split at b
    ·rename_i g' m' cap hf;simp only [zH8,zIa] at b;obtain ⟨rfl,e2,rfl,rfl,rfl,rfl⟩:=b;rw [SD];have e3:CQ ops (p::F)=o::CQ ops F:=by simp only [CQ,x]
     rw [e3];refine TB V W _ (PP O) R h1 hv λρ1 U w1 I Y QQ=>?_
     obtain ⟨⟨G,R0,j1,y1⟩,Db⟩:=(C.K Γ L (.go i) ρ0).st y R.hr I.hr Y.st (λk p _ j=>Y.pl k p j);obtain ⟨args,MY,Z⟩:=lT I o QJ WX hf H.1;rw [e2] at Z;unfold wpListIn;rw [zEd (Io I hw)];refine ⟨λf _=>V.fn f,?_⟩;rw [zJC _ _ _ (Hw W x),MY];refine ⟨λn=>(by cases n),(YW.call H hi hS I.hr hc hd Z j1 y1).mono ?_⟩;have q:U.defers= []:=QQ.trans m;have Cv: ∀ v,(U.put o.dst v).defers=U.defers:=λv=>by cases x:o.dst <;> simp [Act.put]
     rintro e w2 ⟨s,r,ρ2,A,t,u,z,B,MM,J,hO,_⟩;have D:=I.fr.out hO;have E:CA L ρ0 ρ2:=λk p hk j=>hO.pl k p (Db k p hk j)
     cases s with
     | go k=>
      obtain ⟨rfl,v,rfl,M⟩:=J;exact hk r ρ2 _ w2 (HN (S:=⟨X.fr,h C.l++T⟩) ⟨u,D⟩ o.dst M) ⟨⟨A,t,z,B⟩,E⟩ ((Cv v).trans q)
     | stop=>
      obtain ⟨v,rfl,M⟩:=J;exact n r ρ2 _ w2 (HN (S:=⟨X.fr,h C.l++T⟩) ⟨u,D⟩ o.dst M) ⟨⟨A,t,z,B⟩,E⟩ ((Cv v).trans q)
     | pan c=>
      have he:e= .panicked c:=J;subst he;exact ⟨_,_,ρ2,r,_,j c,D.1,u,⟨⟨A,t,z,B⟩,E⟩,q⟩
    ·cases b
   ·cases b
  ·cases b
 ·cases b
def Dt.yieldW {x:List DV}{j:St}{Z:BQ}(J:Dv Fence.wide P)(M:DE ops=true) 
 (b:dR P Γ ops O p S Ai=some (x,C.l,dst,j,vs,Z)) (hv:Bq vs) {y:List DV} (u:C.encs[i]? =some y) (Bg:Ja x y) (hk:Dt P Γ (C.K Γ L (.go (i+1)) ρ0) ops F ⟨Co j.fr dst (.bool true),j.h⟩ Q) (hs:Dt P Γ (C.K Γ L .stop ρ0) ops F ⟨Co j.fr dst (.bool false),j.h⟩ Q) (z: ∀ c,Q (.panic c) ⟨Ll j.fr,j.h⟩ (C.K Γ L (.pan c) ρ0)):Dt P Γ (C.K Γ L (.go i) ρ0) ops (O++p::F) S Q:=λN ρ a w R y m=>by
 unfold dR at b;split at b
 ·cases b
 rename_i q FU Gu h1;split at b
 ·cases b
 rename_i o A;split at b
 ·rename_i hw;split at b
  ·rename_i c QJ;split at b
   ·rename_i f WX;split at b
    ·rename_i l hl;split at b
     ·rename_i V3;simp only [zH8,zIa] at b;obtain ⟨rfl,rfl,rfl,rfl,rfl,rfl⟩:=b;rw [SD];have e3:CQ ops (p::F)=o::CQ ops F:=by simp only [CQ,A]
      rw [e3];refine TB J M _ (PP O) R h1 hv λρ1 U w1 I T QQ=>?_
      obtain ⟨⟨G0,R0,y1,y2⟩,B⟩:=(C.K Γ L (.go i) ρ0).st y R.hr I.hr T.st (λk p _ z=>T.pl k p z);obtain ⟨R',z1,r,z3,_⟩:=IY.part (C.hJ (.go i)) y1 y2;obtain ⟨fn,tmps,Qt,body,hy,hR⟩:=C.hy i _ _ _ R' w1 u (YV.le Bg (YV.of (g:=AZ q.fr) (f:=U.eval) (λx=>BV I x) z3 V3)) z1 r.sh;unfold wpListIn;rw [zEd (Io I hw)]
      have jn:U.eval f= .func (.yield C.l) #[] #[]:=by
       have b:=BV I f;rw [hl] at b;exact b
      refine ⟨λf _=>J.fn f,?_⟩;rw [zJC _ _ _ (Hw M A),pi QJ WX jn rfl,hy];refine ⟨λu=>(by cases u),hR.mono ?_⟩;have D:U.defers= []:=QQ.trans m;have V: ∀ v,(U.put o.dst v).defers=U.defers:=λv=>by cases A:o.dst <;> simp [Act.put]
      rintro e t ⟨W,hj⟩;obtain ⟨s,n,E⟩:=hj;obtain ⟨X,Y⟩:=r.later I.hr W;have G:IY Γ (λH=>H<t.heap.size/\ ¬ MO q.h ρ1 H/\ ¬ R' H) (MO q.h ρ1) R' q.h ρ1 t:=⟨r.sh.upd W,r.lo,λ_ h=>h,λ_=>Iff.rfl⟩;cases s with
      | go k=>
       obtain ⟨rfl,rfl⟩:=n;exact hk _ ρ1 _ t (HN (S:=q) ⟨X,I.fr.out Y⟩ o.dst (d:=.bool true) (v:=.bool true) rfl) ⟨⟨_,_,E,G⟩,B⟩ ((V _).trans D)
      | stop=>
       have n:e= .returned (.bool false):=n;subst n;exact hs _ ρ1 _ t (HN (S:=q) ⟨X,I.fr.out Y⟩ o.dst (d:=.bool false) (v:=.bool false) rfl) ⟨⟨_,_,E,G⟩,B⟩ ((V _).trans D)
      | pan c=>
       have n:e= .panicked c:=n;subst n;exact ⟨_,_,ρ1,_,_,z c,I.fr.1,X,⟨⟨_,_,E,G⟩,B⟩,D⟩
     ·cases b
    ·cases b
   ·cases b
  ·cases b
 ·cases b
end
end
section
section
variable {P:Program} {Γ:Av} {F:Fence} {B:Option Nat} {L:Nat}
variable {Q Q':QY P Γ L}
theorem Hn.mono {b:Code}(a: ∀ e S Y,Q e S Y -> Q' e S Y): ∀ (m:Nat) {S:St} {Y:BK P Γ L},Hn P Γ F B L b Q m S Y -> Hn P Γ F B L b Q' m S Y
 | 0,_,_,h=>h
 | m+1,_,_,h=>Tr.mono h λe S Y h=>by
  cases e with
  | normal=>exact Hn.mono a m h
  | ret=>exact a _ _ _ h
  | exit id=>exact a _ _ _ h
  | goto t=>exact a _ _ _ h
  | panic c=>exact a _ _ _ h
  | outgrown=>exact a _ _ _ h
theorem BF.mono (a: ∀ e S Y,Q e S Y -> Q' e S Y): ∀ (k:List KI) {e:Exit} {S:St} {Y:BK P Γ L},BF P Γ F B L Q k e S Y -> BF P Γ F B L Q' k e S Y
 | [],_,_,_,h=>a _ _ _ h
 | .code c::k,e,S,Y,h=>by
  cases e with
  | normal=>exact Tr.mono (show Tr P Γ F B L Y c S (BF P Γ F B L Q k) from h) λ_ _ _ h=>BF.mono a k h
  | ret=>exact BF.mono a k (e:=.ret) h
  | exit id=>exact BF.mono a k (e:=.exit id) h
  | goto t=>exact BF.mono a k (e:=.goto t) h
  | panic c=>exact BF.mono a k (e:=.panic c) h
  | outgrown=>exact BF.mono a k (e:=.outgrown) h
 | .blk id::k,e,S,Y,h=>by
  cases e with
  | exit i=>
   have h:if i=id then BF P Γ F B L Q k .normal S Y else BF P Γ F B L Q k (.exit i) S Y:=h
   show if i=id then BF P Γ F B L Q' k .normal S Y else BF P Γ F B L Q' k (.exit i) S Y
   by_cases hi:i=id
   ·rw [zEd hi] at h ⊢;exact BF.mono a k h
   ·rw [zGW hi] at h ⊢;exact BF.mono a k h
  | normal=>exact BF.mono a k (e:=.normal) h
  | ret=>exact BF.mono a k (e:=.ret) h
  | goto t=>exact BF.mono a k (e:=.goto t) h
  | panic c=>exact BF.mono a k (e:=.panic c) h
  | outgrown=>exact BF.mono a k (e:=.outgrown) h
 | .scp::k,e,S,Y,h=>by
  cases e with
  | goto t=>exact h
  | normal=>exact BF.mono a k (e:=.normal) h
  | ret=>exact BF.mono a k (e:=.ret) h
  | exit id=>exact BF.mono a k (e:=.exit id) h
  | panic c=>exact BF.mono a k (e:=.panic c) h
  | outgrown=>exact BF.mono a k (e:=.outgrown) h
 | .lend J::k,e,S,Y,h=>by
  cases e with
  | normal=>exact h
  | ret=>exact BF.mono a k (e:=.ret) h
  | exit id=>exact BF.mono a k (e:=.exit id) h
  | goto t=>exact BF.mono a k (e:=.goto t) h
  | panic c=>exact BF.mono a k (e:=.panic c) h
  | outgrown=>exact BF.mono a k (e:=.outgrown) h
 | .loopN m b::k,e,S,Y,h=>by
  cases e with
  | normal=>exact Hn.mono (λ_ _ _ h=>BF.mono a k h) m h
  | ret=>exact BF.mono a k (e:=.ret) h
  | exit id=>exact BF.mono a k (e:=.exit id) h
  | goto t=>exact BF.mono a k (e:=.goto t) h
  | panic c=>exact BF.mono a k (e:=.panic c) h
  | outgrown=>exact BF.mono a k (e:=.outgrown) h
end
def wb {X:Type}(A f:Option (List X)):Option (List X):=A.bind λa=>f.map λb=>a++b
def wx {X:Type}(x:X)(A:Option (List X)):Option (List X):=A.map λb=>x::b
variable {X:Type}
def xu {A f:Option (List X)}{r:List X}(h:wb A f=some r): ∃ a b,A=some a/\ f=some b/\ r=a++b:=by
 obtain ⟨a,ha,h⟩:=Gg h
 simp_all [SS]
def DW {X:Type}(C:ET Tryz.prog)(enc:X -> List DV)(i:Nat)(r:List X):Prop:=∃ rest,C.encs.drop i=r.map enc++rest
variable {i:Nat}
def vP {α:Type}{l a b:List α}(h:l.drop i=a++b):l.drop (i+a.length)=b:=by
 rw [←List.drop_drop,h,List.drop_left'];rfl
variable {C:ET Tryz.prog}
def DW.split {enc:X -> List DV}{y b:List X}(h:DW C enc i (y++b)):(∃ rest,C.encs.drop i=y.map enc++rest)/\ DW C enc (i+(y.map enc).length) b:=by
 obtain ⟨rest,h⟩:=h;have h:C.encs.drop i=y.map enc++(b.map enc++rest):=by grind
 exact ⟨⟨_,h⟩,rest,vP h⟩
def DW.cons {enc:X -> List DV}{x:X}{b:List X}(h:DW C enc i (x::b)):C.encs[i]? =some (enc x)/\ DW C enc (i+1) b:=by
 obtain ⟨rest,h⟩:=h;have h:C.encs.drop i=enc x::(b.map enc++rest):=h;refine ⟨?_,rest,?_⟩
 ·have:=congrArg (·[0]?) h;simpa using this
 ·have:=vP (a:=[enc x]) h;simpa using this
section
variable {X:Type} {C:ET Tryz.prog} {tD:Bool -> DV} {fn:Func} {L:Nat} {ρ0:List AI} {H:DH} {i:Nat} {r:List X} {enc:X -> List DV} {k K:List KI} {S:St} {ops:Array Oper}
 {c:List (DV×DH×Bool)} {o:List (Nat×DV)} {z:List (Nat×Fz)} {v:List Prop} {fr:List DV} {h1:DH} {l l1 l2:Θ} {p:Nat} {dst:Option Tmp}
abbrev WF (C:ET Tryz.prog)(tD:Bool -> DV)(fn:Func)(L:Nat)(ρ0:List AI)(H:DH)(i:Nat)(r:List X):QY Tryz.prog GG L:=xN C GG tD fn L (i+r.length) ρ0 H
abbrev Qy (C:ET Tryz.prog)(tD:Bool -> DV)(fn:Func)(L:Nat)(ρ0:List AI)(H:DH)(ops:Array Oper)(l:Θ)(k:List KI)(i:Nat)(r:List X)(S:St):Prop:= Dt Tryz.prog GG (C.K GG L (.go i) ρ0) ops l S (BF Tryz.prog GG Fence.wide none L (WF C tD fn L ρ0 H i r) k)
abbrev Qx (C:ET Tryz.prog)(tD:Bool -> DV)(fn:Func)(L:Nat)(ρ0:List AI)(H:DH)(k:List KI)(i:Nat)(r:List X)(S:St):Prop:= A1 Tryz.prog GG Fence.wide none L (C.K GG L (.go i) ρ0) (WF C tD fn L ρ0 H i r) k S
abbrev xO (C:ET Tryz.prog)(tD:Bool -> DV)(fn:Func)(L:Nat)(ρ0:List AI)(H:DH)(k:List KI)(S:St):Prop:= Bi Tryz.prog GG Fence.wide none L (C.K GG L .stop ρ0) (Cx Tryz.prog fn L (tD false) H) k S
def WF.app {y b:List X}{j:Nat}(hj:j=i+y.length):WF C tD fn L ρ0 H i (y++b)=WF C tD fn L ρ0 H j b:=by
 grind
theorem WF.pan {fr:List DV}{h:DH}(l:Nat.ble L h.length=true)(g:gA L h=H)(e:List PanicEntry):WF C tD fn L ρ0 H i r (.panic e) ⟨fr,h⟩ (C.K GG L (.pan e) ρ0):=
 .inr (.inr ⟨e,rfl,rfl,_,A7.compact (List.range L) ⟨fr,h⟩ zNl (λk hk=>zGb (zGX.1 hk) (zIi l)) (λk hk=>by simp [hk]),g⟩)
def wO (j:PJ K=some (ops,Eh K):=by kernel_rfl)(hk:Qy C tD fn L ρ0 H ops (List.range ops.size) (Eh K) i r S):Qx C tD fn L ρ0 H K i r S:=by
 unfold PJ at j;split at j
 ·rename_i id o k;have w:o=ops:=congrArg Prod.fst (zGT j);subst w;exact Tr.ofO hk
 ·cases j
def w0 (hk:Qx C tD fn L ρ0 H k i r S):Qy C tD fn L ρ0 H ops [] k i r S:=λN ρ _ _ R y m=>⟨S,ρ,N,_,hk,R,y,m,Bd.none⟩
def wE (m:HS c o z v)(fr:List DV)(h1:DH)(hk:Qx C tD fn L ρ0 H k i r ⟨fr,h1⟩)(h:(EN Tryz.prog GG ops (CQ ops l) S ⟨c,o,z,[]⟩).map (Zp (GZ 0 fr))=some (fr,h1,v):=by kernel_rfl)(a:DE ops=true:=by kernel_rfl)(b:WV k=true:=by kernel_rfl):Qy C tD fn L ρ0 H ops l k i r S:=by
 obtain ⟨f,Ai,h,e⟩:=rT h;refine Dt.done (HC.x (F:=Fence.wide)).f a h m.all (A1.leH (S':=⟨fr,h1⟩) ?_ b hk);rw [e];exact A7.forget _ _ _
def wS (m:HS c o z v)(fr:List DV)(h1:DH)(hk:xO C tD fn L ρ0 H k ⟨fr,h1⟩)(h:(EN Tryz.prog GG ops (CQ ops l) S ⟨c,o,z,[]⟩).map (Zp (GZ 0 fr))=some (fr,h1,v):=by kernel_rfl)(a:DE ops=true:=by kernel_rfl)(b:WV k=true:=by kernel_rfl):Dt Tryz.prog GG (C.K GG L .stop ρ0) ops l S (BF Tryz.prog GG Fence.wide none L (WF C tD fn L ρ0 H i r) k):=by
 obtain ⟨f,Ai,h,e⟩:=rT h;refine Dt.done (HC.x (F:=Fence.wide)).f a h m.all (BF.mono (Q:=stay (C.K GG L .stop ρ0) (Cx Tryz.prog fn L (tD false) H)) (λe S Y d=>.inr (.inl d)) k (A1.leH (S':=⟨fr,h1⟩) ?_ b hk));rw [e];exact A7.forget _ _ _
def yA (hk:xO C tD fn L ρ0 H k S):Dt Tryz.prog GG (C.K GG L .stop ρ0) ops [] S (BF Tryz.prog GG Fence.wide none L (WF C tD fn L ρ0 H i r) k):=λN ρ _ _ R y m=>⟨S,ρ,N,_,BF.mono (Q:=stay (C.K GG L .stop ρ0) (Cx Tryz.prog fn L (tD false) H)) (λe S Y a=>.inr (.inl a)) k hk,R,y,m,Bd.none⟩
variable {A:Option (List X)}
def wY {x:X}{xs:List DV}(l1 l2:Θ)(p:Nat)(m:HS c o z v)(fr:List DV)(h1:DH)(dst:Option Tmp)(g:wx x A=some r)(j:DW C enc i r)(n:Ja xs (enc x)) 
 (q: ∀ r:List X,Dt Tryz.prog GG (C.K GG L .stop ρ0) ops l2 ⟨Co fr dst (.bool false),h1⟩ (BF Tryz.prog GG Fence.wide none L (WF C tD fn L ρ0 H i r) k))
 (hk: ∀ b a,A=some b -> DW C enc a b -> Qy C tD fn L ρ0 H ops l2 k a b ⟨Co fr dst (.bool true),h1⟩)
 (e:l=l1++p::l2:=by kernel_rfl) (h:(dR Tryz.prog GG ops l1 p S ⟨c,o,z,[]⟩).map (gE (GZ 0 fr))=some (xs,C.l,dst,fr,h1,v):=by kernel_rfl) (s:gA L h1=H:=by kernel_rfl) (t:Nat.ble L h1.length=true:=by kernel_rfl) (u:DE ops=true:=by kernel_rfl):Qy C tD fn L ρ0 H ops l k i r S:=by
 subst e;obtain ⟨b,w,rfl⟩:=SS g;obtain ⟨B,E⟩:=DW.cons j;obtain ⟨f1,Ai,hy,d⟩:=zD1 h;refine Dt.yieldW (HC.x (F:=Fence.wide)).f u hy m.all B n ?_ (Dt.weaken (Yb d) (q _)) λc=>PS (WF.pan t s c) k
 have e:WF C tD fn L ρ0 H i (x::b)=WF C tD fn L ρ0 H (i+1) b:=WF.app (y:=[x]) rfl;rw [e];exact Dt.weaken (Yb d) (hk _ _ w E)
def wC {g:FuncId}{ds:Nat -> List DV}{h:Nat -> DH}{tD':Bool -> DV}{f:Option (List X)}(l1 l2:Θ)(p:Nat)(t:HS c o z v)(fr:List DV)(h1:DH)(dst:Option Tmp) 
 (u:wb A f=some r) (w:DW C enc i r) (N: ∀ a,A=some a -> YW Tryz.prog GG tD' g ds h (a.map enc))
 (y: ∀ (j:Nat) (r:List X),Dt Tryz.prog GG (C.K GG L .stop ρ0) ops l2 ⟨Co fr dst (tD' false),h1⟩ (BF Tryz.prog GG Fence.wide none L (WF C tD fn L ρ0 H j r) k))
 (hk: ∀ b m,f=some b -> DW C enc m b -> Qy C tD fn L ρ0 H ops l2 k m b ⟨Co fr dst (tD' true),h1⟩)
 (e:l=l1++p::l2:=by kernel_rfl) (d:(XD Tryz.prog GG ops l1 p S ⟨c,o,z,[]⟩).map (Zo (GZ 0 fr))=some (g,ds C.l,dst,fr,h1,v):=by kernel_rfl) (n:h1.take (h C.l).length=h C.l:=by kernel_rfl)
 (B:(h C.l).all (Tf (h C.l).length)=true:=by kernel_rfl) (D:(ds C.l).all (C4 (h C.l).length)=true:=by kernel_rfl) (hp:gA L h1=H:=by kernel_rfl) (hL:Nat.ble L h1.length=true:=by kernel_rfl) (E:DE ops=true:=by kernel_rfl):Qy C tD fn L ρ0 H ops l k i r S:=by
 subst e;obtain ⟨f1,Ai,d,q⟩:=rS d;obtain ⟨a,b,G,I,rfl⟩:=xu u;obtain ⟨J,M⟩:=DW.split w;have s:h C.l++h1.drop (h C.l).length=h1:=(vE n).symm;refine Dt.callW (T:=h1.drop (h C.l).length) (HC.x (F:=Fence.wide)).f E d t.all (N a G) (vE n) B D J ?_ ?_ λc=>?_
 ·rw [WF.app (j:=i+(a.map enc).length) (by rw [zGh]),s];exact Dt.weaken (Yb q) (hk _ _ I M)
 ·rw [s];exact Dt.weaken (Yb q) (y _ _)
 grind [PS,WF.pan]
def wF (h:Bi Tryz.prog GG Fence.wide none L (C.K GG L (.go i) ρ0) (Cx Tryz.prog fn L (tD true) H) k S):Qx C tD fn L ρ0 H k i ([]:List X) S:=
 BF.mono (Q:=stay (C.K GG L (.go i) ρ0) (Cx Tryz.prog fn L (tD true) H)) (λe S Y a=>.inl a) k h
end
def YW.ofW {X:Type}{f L:Nat}{fn:Func}{tD:Bool -> DV}{r:List X}{enc:X -> List DV}{ds:Nat -> List DV}{h:Nat -> DH}(M:Tryz.prog.funcs[f]? =some fn) 
 (T: ∀ (C:ET Tryz.prog) (i:Nat) (ρ0:List AI),DW C enc i r -> Qx C tD fn L ρ0 (h C.l) [.code (AR fn)] i r ⟨ds C.l++List.replicate (fn.ntmps-(ds C.l).length) .any,h C.l⟩)
 (c:fn.body.isSome=true:=by kernel_rfl) (u:(fn.name== "runtime.NumGoroutine")=false:=by kernel_rfl) (a: ∀ l,(h l).length=L:=by intro;kernel_rfl):YW Tryz.prog GG tD f ds h (r.map enc):=
 YW.of M c u a λC i ρ0 b=>by
  have:=T C i ρ0 b
  grind
end
section
variable {P:Program} {Γ:Av} {N:Ψ} {ρ:List AI} {w:World} {hc T:DH} {gf m:Nat} {cap:Nat -> DV} {ys:List (List DV)} {tD:Bool -> DV}
def oK (J:Nat -> (Ψ) -> (Ψ) -> World -> Prop)(W:(Ψ) -> (Ψ) -> World -> Prop)(R:List PanicEntry -> (Ψ) -> (Ψ) -> World -> Prop):Ys -> (Ψ) -> (Ψ) -> World -> Prop
 | .go i=>J i
 | .stop=>W
 | .pan c=>R c
def YW.iterW (H:YW P Γ tD gf (λl=>.yl l::(List.range m).map cap) (λ_=>hc) ys)(HR:Aq P Γ N (hc++T) ρ w)(D:hc.all (Tf hc.length)=true)(E:((List.range m).map cap).all (C4 hc.length)=true) 
 {X:Array Value} (I:X.size=m) (So: ∀ j,j<m -> ∃ u,X[j]? =some u/\ AL (MS N (hc++T) ρ) w (cap j) ρ u):
 T4 False False P gf X YV ys (λe _ _ _=>∃ v,e= .returned v) (MO hc (ρ.take hc.length)) (λb=>b<w.heap.size/\ ¬ MS N (hc++T) ρ b) w:=by
 intro l S J O W hJ F f M Q U N8 KA
 let C:ET P:=⟨l,ys,oK S J O,λs=>by
  cases s with
  | go i=>exact hJ i
  | stop=>exact F
  | pan c=>exact f c,λi x args G R V Y Z h3 h4=>YieldAt.mono (Q i x args G R V Y Z h3 h4) λe W' ⟨q1,p⟩=>⟨q1,by
   rcases p with ⟨rfl,q⟩ | ⟨rfl,q⟩ | ⟨c,rfl,q⟩
   ·exact ⟨.go (i+1),⟨rfl,rfl⟩,q⟩
   ·exact ⟨.stop,rfl,q⟩
   ·exact ⟨.pan c,rfl,q⟩⟩⟩
 obtain ⟨g,d⟩:=HR.take (K:=hc.length) (by simp) (by rw [zNS rfl];exact D);rw [zNS rfl] at g d;have Cn:Γ.ng<=w.heap.size:=Γ.lo _ HR.gi
 have r:AQ (λb=>N b∨MT hc.length (hc++T) ρ b) w W:=M.mono λb y z=>by
  grind [MS]
 have lo: ∀ b,b<Γ.ng -> b<w.heap.size/\ ¬ MS N (hc++T) ρ b:=λb a=>⟨by omega,λz=>by
  have:=(HR.lt2 z).2;omega⟩
 have y: ∀ b,MO hc (ρ.take hc.length) b -> b<w.heap.size:=λb a=>(HR.lt2 ((d b).1 (.inr a))).1
 have A: ∀ b,N b∨MT hc.length (hc++T) ρ b -> (N b∨MT hc.length (hc++T) ρ b)/\ Γ.ng<=b:=λb a=>⟨a,(g.nlt b a).2⟩
 have L: ∀ b,(b<W.heap.size/\ ¬ MO hc (ρ.take hc.length) b/\ ¬ (b<w.heap.size/\ ¬ MS N (hc++T) ρ b)) -> (N b∨MT hc.length (hc++T) ρ b)∨w.heap.size<=b:=λb ⟨_,p,q3⟩=>by
  grind [MS]
 have HW:Aq P Γ (λb=>b<W.heap.size/\ ¬ MO hc (ρ.take hc.length) b/\ ¬ (b<w.heap.size/\ ¬ MS N (hc++T) ρ b)) hc (ρ.take hc.length) W:=g.foreign r A L λb a=>⟨a.1,zNJ λhl=>a.2.2 (lo b hl)⟩
 have kV:BE (MS (λb=>N b∨MT hc.length (hc++T) ρ b) hc (ρ.take hc.length)) w (ρ.take hc.length) ((List.range m).map cap) X:=by
  have e:MS (λb=>N b∨MT hc.length (hc++T) ρ b) hc (ρ.take hc.length)=MS N (hc++T) ρ:=funext λb=>propext (d b)
  rw [e];refine BE.take ⟨by simp [I],λj B=>?_⟩ E
  simp_all
 have kW:=kV.out (BP.foreign (Γ:=Γ) r A L)
 refine (H.2 C 0 ⟨[],by simp [C]⟩ _ _ _ W _ _ HW (BE.append (l:=[.yl C.l]) (t:=#[.func (.yield l) #[] #[]]) ⟨rfl,λj B=>by
  have:j=0:=Nat.lt_one_iff.1 B;subst this;rfl⟩ kW) U ⟨⟨λb a hr=>hr.2 ((d b).1 (.inr a)),λb a=>zGb (a.elim (y b) λh=>h.1) M.size⟩,lo,λ_ h=>h,λ_=>Iff.rfl⟩).mono ?_
 rintro e w' ⟨s,N',ρ',G',R',Q3,n,y',kp,o⟩;refine ⟨G',R',y'.sh,?_⟩;cases s with
 | go k=>
  obtain ⟨rfl,v,rfl,_⟩:=o;refine .inl ⟨?_,v,rfl⟩;simpa [C,oK] using n
 | stop=>
  obtain ⟨v,rfl,_⟩:=o;exact .inr (.inl ⟨⟨v,rfl⟩,n⟩)
 | pan c=>exact .inr (.inr ⟨c,o,n⟩)
def zMe (J:DH -> Prop)(W:Exit -> DH -> Prop)(R:List PanicEntry -> DH -> Prop)(e:Exit)(h:DH):Prop:=(e= .normal/\ J h)∨((KR e).isSome=true/\ W e h)∨∃ c,e= .panic c/\ R c h
variable {fr:List DV}
def zDF {fi:FuncId}{a:Act}{g:Operand}{X:Array Tmp}{j q:Code}{J:Nat -> DH -> Prop}{Y:Exit -> DH -> Prop}{Z:List PanicEntry -> DH -> Prop}{KK:Nat}{Q:Exit -> Act -> World -> Prop}(QO: ∃ f,P.funcs[fi]? =some f)(R:AS P Γ N ⟨fr,hc++T⟩ ρ a w)(hg:AZ fr g= .fn gf m cap) 
 (H:YW P Γ tD gf (λl=>.yl l::(List.range m).map cap) (λ_=>hc) ys) (BT:hc.all (Tf hc.length)=true) (kA:((List.range m).map cap).all (C4 hc.length)=true)
 (Ea: ∀ x∈ys,x.length=X.size) (CH:fr.all (C4 KK)=true) (h0:J 0 (hid hc.length T)) (DS:dL P Γ fr X.toList j q KK J Y Z ys)
 (L: ∀ (D:Nat) (e:Exit) (h':DH) (ρ':List AI) (w':World),zMe (J ys.length) Y Z e h' -> AS P Γ N ⟨fr,h'⟩ ρ' a w' -> A3 (hc++T) ρ w h' ρ' w' -> CA KK ρ ρ' -> w'.heap[D]? =some (.deferred (some [])) -> w.heap.size<=D ->
  Q e { a with defers:={ target:=.collected D,args:=#[] }::a.defers } w'):In Fence.wide 0 P fi (.rangeFunc g X j q) Q a w:=by
 have M:=BV R g;rw [hg] at M;obtain ⟨lb,hv,hs,So⟩:=M;have HR:Aq P Γ N (hc++T) ρ w:=R.hr;have Cn:Γ.ng<=w.heap.size:=Γ.lo _ HR.gi
 have O: ∀ b,MO (hc++T) ρ b↔MO hc (ρ.take hc.length) b∨MT hc.length (hc++T) ρ b:=λb=>by
  have:=MO.split (h:=hc++T) (ρ:=ρ) hc.length b
  rwa [zNS] at this
  rfl
 have U: ∀ b,N b -> b<w.heap.size/\ ¬ MO (hc++T) ρ b:=λb d=>⟨(HR.nlt b d).1,λ⟨k,o,p,r,s,u⟩=>(HR.cel k o p b r s u).2.1 d⟩
 have AU: ∀ b,MO (hc++T) ρ b -> b<w.heap.size/\ Γ.ng<=b:=λb d=>HR.lt2 (.inr d)
 have IZ:ED (MO hc (ρ.take hc.length)) (λb=>b<w.heap.size/\ ¬ MS N (hc++T) ρ b) w:=⟨λb d hr=>hr.2 (.inr ((O b).2 (.inl d))),λb d=>d.elim (λh=>(AU b ((O b).2 (.inl h))).1) λh=>h.1⟩
 have bU:RJ P Γ N (hc++T) ρ w KK J 0 (MO hc (ρ.take hc.length)) (λb=>b<w.heap.size/\ ¬ MS N (hc++T) ρ b) w:=
  ⟨_,ρ,h0,HR.hide,AQ.refl _ _,λb d=>.inl (MO.hid d).mo,λb d=>⟨(AU b ((O b).2 (.inl d))).2,.inl ((O b).2 (.inl d))⟩,λb d=>⟨λhn=>d.2 (.inl hn),λhm=>d.2 (.inr (MO.hid hm).mo)⟩,CA.refl _ _⟩
 have hst: ∀ i,Cz (RJ P Γ N (hc++T) ρ w KK J i):=λi G R' G' R2 A C ⟨h,ρ',n,B⟩ r s u E F K=>⟨h,ρ',n,RI.stable Cn U _ _ _ _ _ _ B r s u E F K⟩
 have ar: ∀ c,Cz (RX P Γ N (hc++T) ρ w KK Y c):=λc G R' G' R2 A C ⟨e,I,h,ρ',n,B⟩ r s u E F K=>⟨e,I,h,ρ',n,RI.stable Cn U _ _ _ _ _ _ B r s u E F K⟩
 have hsp: ∀ c,Cz (xQ P Γ N (hc++T) ρ w KK Z c):=λc G R' G' R2 A C ⟨h,ρ',n,B⟩ r s u E F K=>⟨h,ρ',n,RI.stable Cn U _ _ _ _ _ _ B r s u E F K⟩
 have eg: ∀ args w,(callFunc gf args).run P w= .ok (.enter gf args) w:=H.1;have stp: ∀ {G R':Ψ} {W:World} {h:DH} {ρ':List AI},RI KK P Γ N (hc++T) ρ w G R' W h ρ' -> A3 (hc++T) ρ w h ρ' W:=λhR=>⟨hR.upd,hR.grow⟩
 have V: ∀ {G R':Ψ} {W:World} {h:DH} {ρ':List AI},RI KK P Γ N (hc++T) ρ w G R' W h ρ' -> AS P Γ N ⟨fr,h⟩ ρ' a W:=λhR=>⟨hR.hrel,hR.frame (S:=⟨fr,hc++T⟩) R (λ_ h=>h) CH⟩
 refine mc (nv:=False) (np:=False) (.inr QO) hv eg (H.iterW HR BT kA hs So) IZ (λx M R W args h=>h.1.symm.trans (Ea x M)) _ _ _ hst ar hsp (λh=>h.elim) (λh=>h.elim) bU (fc R U (λ_ h=>h) CH DS) ?_ ?_ ?_
 ·rintro D e G R1 own W W' ⟨v,rfl⟩ ⟨h,ρ1,n,hR⟩ _ _ _ y z;exact L D .normal h ρ1 W' (.inl ⟨rfl,n⟩) (V hR) (stp hR) hR.kept y z
 ·rintro D c G R1 W ⟨e,I,h,ρ',n,hR⟩ y z;cases e with
  | ret=>cases I;exact zNe (L D .ret h ρ' W (.inr (.inl ⟨rfl,n⟩)) (V hR) (stp hR) hR.kept y z)
  | exit id=>cases I;exact wpIn_exit (L D (.exit id) h ρ' W (.inr (.inl ⟨rfl,n⟩)) (V hR) (stp hR) hR.kept y z)
  | normal=>cases I
  | goto t=>cases I
  | panic c=>cases I
  | outgrown=>cases I
 ·rintro D c G R1 W ⟨h,ρ',n,hR⟩ y z;exact L D (.panic c) h ρ' W (.inr (.inr ⟨c,rfl,n⟩)) (V hR) (stp hR) hR.kept y z
def zCO {α σ:Type}{V:List Tmp}{J a:Code}{K:Nat}(T:List Exit)(A:(T.all λe=>(KR e).isSome)=true)(Q:List PanicEntry)(enc:α -> List DV)(ys:List α)(f:α -> σ -> Option (σ×Nat))(b:σ -> DH){rE:σ×Nat}(q:α -> List DV) 
 (C: ∀ (l B:Nat) (N:BK P Γ K) (x:α) (s:σ) (r:σ×Nat),f x s=some r -> HF P Γ (Fence.wide.inRound l) (some B) K N (C0 K (T++[.panic Q]) r.2 (b r.1)) J a ⟨q x,b s⟩) (hni: ∀ s,(b s).all Vk=true) (D:(λx=>Iz fr V (enc x))=q):
 dL P Γ fr V J a K (λi h=>∃ s,Ch f (ys.drop i) s=some rE/\ h=b s) (λe h=>(Exit.normal::T)[rE.2]? =some e/\ h=b rE.1) (λc h=>c=Q/\ rE.2=T.length+1/\ h=b rE.1) (ys.map enc):=by
 subst D;rintro l' u E i x h d ⟨s,v,rfl⟩;rw [zIL] at d;cases hy:ys[i]? with
 | none=>rw [hy] at d;cases d
 | some y=>
  rw [hy] at d;cases d;have AU:=(zGq.1 hy).1
  have F:ys.drop i=y::ys.drop (i+1):=by
   grind [List.drop_eq_getElem_cons]
  rw [F] at v;obtain ⟨r,G,g⟩:=Gg v
  have n: ∀ {e:Exit} {o:St},C0 K (T++[.panic Q]) r.2 (b r.1) e o -> xP K (λh=>∃ s,Ch f (ys.drop (i+1)) s=some rE/\ h=b s) (λe h=>(Exit.normal::T)[rE.2]? =some e/\ h=b rE.1) (λc h=>c=Q/\ rE.2=T.length+1/\ h=b rE.1) e o:=by
   rintro e o ⟨j,M,z,m⟩;cases hc:r.2 with
   | zero=>
    rw [hc] at j;cases j
    have g:Ch f (ys.drop (i+1)) r.1=some rE:=by
     grind
    exact .inl ⟨M,z,.inl ⟨rfl,r.1,g,m⟩⟩
   | succ k=>
    have g:r=rE:=by
     grind
    subst g;rw [hc] at j;rcases zIg k T.length with hk | hk
    ·have S:T[k]? =some e:=by
      grind
     have d:=zGV.1 A e (zG6 S);exact .inl ⟨M,z,.inr ⟨d,by rw [hc];exact S,m⟩⟩
    ·have S:(T++[Exit.panic Q])[k]? =some e:=j;rw [zIB hk] at S
     have H:k-T.length=0:=by
      grind
     rw [H] at S;cases S;exact .inr ⟨Q,M,rfl,z,by rw [m];exact PY (hni _),rfl,by rw [hc];omega,m⟩
  refine Tr.mono (C l' u E y s r G) λe o Y2 L=>?_
  cases e with
  | normal=>exact ⟨L.1,λp=>Tr.mono (show Tr P Γ (Fence.wide.inRound l') (some u) K p a o (stay p (C0 K (T++[.panic Q]) r.2 (b r.1))) from L.2 p) λe M Y3 w=>⟨w.1,n w.2⟩⟩
  | ret=>exact L.elim
  | exit id=>exact L.elim
  | goto t=>exact L.elim
  | panic c=>exact L.elim
  | outgrown=>exact L.elim
end
def HA:Value:=.iface 30 (.int .i64 220)
section
variable {F:Fence} {B:Option Nat} {L:Nat} {Y N:BK Tryz.prog GG L} {Q:QY Tryz.prog GG L}
variable {S:St}
def SG {e:List PanicEntry}(h:Q (.panic e) S Y): ∀ (k:List KI),BF Tryz.prog GG F B L Q k (.panic e) S Y
 | []=>h
 | .blk _::k=>SG h k
 | .code _::k=>SG h k
 | .lend _::k=>SG h k
 | .scp::k=>SG h k
 | .loopN _ _::k=>SG h k
variable {x:Value}{k:List KI}{o0 o1:Oper}{ops:Array Oper}{ty:TypeId}{id t:Nat}
def zDp [i:HC F]        (l:ops.toList= [o0,o1]) (h0:o0.op= .makeInterface ty (.const x)) (Fd:o0.dst=some t) (M:o0.guard=none) (j:o1.op= .panic (.tmp t)) (n:o1.guard=none) (ht:Nat.blt t S.fr.length=true) (hc:Tryz.prog.concrete ty=true)
 (o:Q (.panic (pan (.iface ty x))) ⟨Ll S.fr,S.h⟩ Y):A1 Tryz.prog GG F B L Y Q (.code (.region id ops false)::k) S:=by
 show Tr Tryz.prog GG F B L Y (.region id ops false) S _
 intro N ρ a w R y m b
 have hts:t<a.tmps.size:=by
  have:=R.fr.1
  simp_all
 refine zJK ?_;rw [l];simp only [wpListIn,Oper.wpIn,Region.wanted,M,n,zJH];refine ⟨λf _=>i.x.f.fn f,?_⟩
 have K:(o0.semAt F.round a.eval).run Tryz.prog w= .ok (.value (.iface ty x)) w:=by
  rw [zJC _ _ _ (by rw [h0];intro c e;cases e)];unfold execOp;rw [h0];have:=run_makeInterface (P:=Tryz.prog) w ty x hc;simp [go_sem,this]
 rw [K,Oper.uponIn_value];refine ⟨λf _=>i.x.f.fn f,?_⟩;obtain ⟨g,d⟩: ∃ g,g=a.put o0.dst (.iface ty x):=⟨_,rfl⟩;rw [←d]
 have T:g.eval (.tmp t)= .iface ty x:=by
  simp_all [Act.eval,Act.put]
 have p:(o1.semAt F.round g.eval).run Tryz.prog w= .halt (.panic (.iface ty x)) w:=by
  rw [zJC _ _ _ (by rw [j];intro c e;cases e)];unfold execOp;rw [j];have q:g.eval (.tmp t)= .iface ty x:=T;simp only [q];simp [go_sem]
 rw [p,Oper.uponIn_panic];have r:g.defers=a.defers:=by rw [d,Fd];simp [Act.put]
 have s:S.fr.length=g.tmps.size:=by rw [d,Fd];simpa [Act.put] using R.fr.1
 exact ⟨⟨Ll S.fr,S.h⟩,ρ,N,Y,SG o k,⟨R.hr,wq s⟩,y,by rw [r];exact m,b⟩
def pX [hX:HC F] {T:List Exit} {i:Nat} {b:DH}      {fr:List DV}  (I:(Exit.normal::T)[i]? =some (.panic (pan (.iface ty x)))) (m:ops.toList= [o0,o1]:=by rfl) (h0:o0.op= .makeInterface ty (.const x):=by rfl) (Fd:o0.dst=some t:=by rfl) (M:o0.guard=none:=by rfl) (a:o1.op= .panic (.tmp t):=by rfl) (e:o1.guard=none:=by rfl) (c:Nat.blt t fr.length=true:=by kernel_rfl) (hc:Tryz.prog.concrete ty=true:=by kernel_rfl):Bi Tryz.prog GG F B L N (C0 L T i b) (.code (.region id ops false)::k) ⟨fr,b⟩:=
 zDp m h0 Fd M a e c hc ⟨rfl,I,_,A7.refl _ _,rfl⟩
end
def xR (f:FuncId)(ds:List DV)(A:Value):Prop:=(∀ args W,(callFunc f args).run Tryz.prog W= .ok (.enter f args) W)/\ ∀ (N:Ψ) (ρ:List AI) (w:World) (args:Array Value),Aq Tryz.prog GG N [] ρ w -> BE (MS N [] ρ) w ρ ds args -> CallsIn Fence.wide 0 Tryz.prog f args w λe w'=>e= .panicked (pan A)/\ A0 w w'
section
variable {N:Ψ} {ρ:List AI} {a:Act} {w:World} {S:St} {Q:Exit -> Act -> World -> Prop} {fr:List DV} {h':DH} {c:List (DV×DH×Bool)} {o:List (Nat×DV)} {z:List (Nat×Fz)} {v:List Prop} {id:Nat} {ops:Array Oper}
def mW {g:FuncId}{ds:List DV}{A:Value}{dst:Option Tmp}(H:xR g ds A)(O d:Θ)(p:Nat)(t:HS c o z v)(fr:List DV)(h':DH)(R:AS Tryz.prog GG N S ρ a w)(i:(XD Tryz.prog GG ops O p S ⟨c,o,z,[]⟩).map (Zo (GZ 0 fr))=some (g,ds,dst,fr,h',v))(M:List.range ops.size=O++p::d)(l:DE ops=true)(C:ds.all (C4 0)=true) 
 (hk: ∀ ρ' j w',AS Tryz.prog GG N ⟨fr,h'⟩ ρ' j w' -> A3 S.h ρ w h' ρ' w' -> j.defers=a.defers -> CA S.h.length ρ ρ' -> Q (.panic (pan A)) j w'):(Code.region id ops false).wpIn Fence.wide 0 Tryz.prog Q a w:=by
 obtain ⟨f1,Ai,i,u⟩:=rS i;refine zJK ?_;rw [←qs,M];unfold XD at i;split at i
 ·cases i
 rename_i S2 FU Gu y;split at i
 ·cases i
 rename_i o m;split at i
 ·rename_i B;split at i
  ·rename_i c' D;split at i
   ·rename_i f E;split at i
    ·rename_i g' m' cap G;simp only [zH8,zIa] at i;obtain ⟨rfl,J,rfl,rfl,rfl,rfl⟩:=i;rw [SD];have L:CQ ops (p::d)=o::CQ ops d:=by simp only [CQ,m]
     rw [L];refine TB (HC.x (F:=Fence.wide)).f l _ (PP O) R y t.all λρ1 U w1 I n P=>?_
     obtain ⟨args,T,q⟩:=lT I o D E G H.1;rw [J] at q;unfold wpListIn;rw [zEd (Io I B)];refine ⟨λf _=>trivial,?_⟩;rw [zJC _ _ _ (Hw l m),T];obtain ⟨r,X⟩:=I.hr.take (K:=0) (zIR _) (by rw [List.take_zero];rfl);rw [List.take_zero,List.take_zero] at r X
     have V:BE (MS (λb=>N b∨MT 0 h' ρ1 b) [] []) w1 [] ds args:=by
      have e:MS (λb=>N b∨MT 0 h' ρ1 b) [] []=MS N h' ρ1:=funext λb=>propext (X b)
      rw [e];exact q.take C
     refine ⟨λW=>(by cases W),(H.2 _ _ _ _ r V).mono ?_⟩;rintro e w' ⟨rfl,s⟩;have Y:AS Tryz.prog GG N ⟨fr,h'⟩ ρ1 U w':=(I.ext s).forg (fr':=fr) _ rfl u.symm;exact hk ρ1 U w' Y (n.st.trans (A3.ext s)) P λk p _ Z=>n.pl k p Z
    ·cases i
   ·cases i
  ·cases i
 ·cases i
variable {g:Nat}{P:Program}
def mn {o0:Oper}{x:Operand}{W:Array TypeId}(m:ops.toList= [o0])(h0:o0.op= .defer { callee:=.value (.func g),args:=#[x],argTypes:=W })(Fd:o0.dst=none)(M:o0.guard=none) 
 (n: ∀ b,b.tmps=a.tmps -> b.defers= { target:=.fn (.func g) #[],args:=#[a.eval x] }::a.defers -> Q .normal b w):(Code.region id ops false).wpIn Fence.wide 0 P Q a w:=by
 refine zJK ?_;rw [m];simp only [wpListIn,Oper.wpIn,Region.wanted,M,zJH];refine ⟨λ_ _=>trivial,?_⟩
 have c:(o0.semAt Fence.wide.round a.eval).run P w= .ok (.defer { target:=.fn (.func g) #[],args:=#[a.eval x] }) w:=by
  simp_all [Oper.semAt_none,execOp,resolve,Deferred.ofValue,Act.eval]
 rw [c,Oper.uponIn_defer,Fd];exact n _ rfl rfl
def Nq {fn:Func}{tmps:Array Value}{R:Ending -> World -> Prop}{a args c:Array Value}{ds:List Deferred}{u:FrameMode}{w:World}(q:u≠.run)(d: ∀ args W,(callFunc g args).run P W= .ok (.enter g args) W)(hc:args++a=c) 
 (h:CallsDIn Fence.wide (0-1) P g c u w λ
  | .returned _,b,w'=>LeavesInM Fence.wide 0 P fn tmps R ds (settle b) w'
  | .panicked s,b,w'=>LeavesInM Fence.wide 0 P fn tmps R ds (raised b s) w'
  | .outgrown,_,w'=>R .outgrown w'):LeavesInM Fence.wide 0 P fn tmps R ({ target:=.fn (.func g) a,args:=args }::ds) u w:=by
 subst hc;refine ⟨q,.inr ⟨λh=>(by cases h),.func g,a,g,args++a,rfl,?_,λ_ _=>trivial,h.mono λe b w' L=>by cases e <;> exact L⟩⟩;simp [invoke,go_sem,d]
end
section
set_option maxRecDepth 100000
set_option maxHeartbeats 40000000
def zMJ (n:Nat)(s_:Int):Option Unit:= some ()
def zMK (n:Nat)(N:Int):Option Unit:=zMJ n N
variable {n:Nat}
def zMI (a:Int){r:Unit}(h:zMK n a=some r):EQ 63 [.int .u64 a] [] (.fn 93 1 (L1 [.ref 0 0])) [oC [.int .u64 a]] true:=by
 refine ot Tryz.func63 λB N=>?_
 revert r;apply gO;exact lE AC [2] [0]
inductive Ts where
 | l1 (x3:Int)
def Od (n:Nat)(self:Ts -> Option Ξ)(N:Int)(H:Int):Option Ξ:= if 0<=H/\ H<=(IntKind.u64.bits:Int) then bif ((N/2 ^ (H).toNat) != 0) then bif (decide (H<64)) then bif ((bits .and .u64 (N/2 ^ (H).toNat) 1)==1) then if 0<=H/\ H<=(IntKind.u64.bits:Int) then bif ((bits .and .u64 (N/2 ^ (H).toNat) 1)==1) then Option.map (λl=>H::l) (if AG (H+1) then self (.l1 (H+1)) else none) else if AG (H+1) then self (.l1 (H+1)) else none else none else if AG (H+1) then self (.l1 (H+1)) else none else some [] else some [] else none
def w5 (n:Nat)(self:Ts -> Option Ξ)(s_:Int):Option Ξ:= self (.l1 0)
def JZ (N:Int):Nat -> Ts -> Option Ξ
 | 0,_=>none
 | n+1,.l1 H=>Od n (JZ N n) N H
def Ms (n:Nat)(N:Int):Option Ξ:=w5 n (JZ N n) N
def mF (C:Du Tryz.prog)(n:Nat)(N:Int)(r:Ξ):Ts -> Prop
 | .l1 H=>∀ f:Nat,n<=f -> ∀ i:Nat,i<=C.encs.length -> C.encs.drop i=r.map Bw -> A1 Tryz.prog GG Fence.wide none 1 (C.Y GG 1 i) (C.Q GG 1) (Ag f (An (AR Tryz.f93) 0 [])) ⟨AF 25 [(0,.yl C.l),(1,.ref 0 0),(3,.i H)],[oC [.int .u64 N]]⟩
def zML (C:Du Tryz.prog)(n:Nat)(self:Ts -> Option Ξ)(N:Int)(k: ∀ A r,self A=some r -> mF C n N r A)(H:Int)(r:Ξ)(h:Od n self N H=some r):mF C (n+1) N r (.l1 H):=by
 intro c d;intro i hi a;refine rd d λc d=>?_
 unfold Od at h;obtain ⟨q,h⟩:=DG h;have p:=H0.g q;rcases DN h with ⟨f,h⟩ | ⟨f,h⟩
 ·have p:=p.b 7 f;rcases DN h with ⟨j,h⟩ | ⟨j,h⟩
  ·have p:=p.b 10 j |>.g q
   rcases DN h with ⟨v,h⟩ | ⟨v,h⟩
   ·have p:=H0.g q |>.b 7 f |>.b 10 j
    refine gs (Ab 3 AC) [0] p (EP (AR Tryz.f93) 3 [c]) (AF 25 [(0,.yl C.l),(1,.ref 0 0),(3,.i H)]) [oC [.int .u64 N]] ?_;obtain ⟨o,h⟩:=DG h;have p:=H0.g o;rcases DN h with ⟨f,h⟩ | ⟨f,h⟩
    ·have p:=p.b 18 f;obtain ⟨r,m,rfl⟩:=SS h;clear h;have h:=m;clear m;obtain ⟨t,hi,a⟩:=kr a;refine A1.y (ops:=A9 Tryz.f93 3) HC.x 8 [0,1,3,24] [0] p (x:=Bw H) (AF 25 [(0,.yl C.l),(1,.ref 0 0),(3,.i H),(24,.bool false)]) [oC [.int .u64 N]] (AF 25 [(0,.yl C.l),(1,.ref 0 0),(3,.i H),(24,.bool true)]) [oC [.int .u64 N]] (by kernel_rfl) (by kernel_rfl) (by kernel_rfl) t (by kernel_rfl) ?_ ?_
     ·generalize i+1=i at hi a ⊢
      obtain ⟨s,h⟩:=DG h;have p:=H0.w 13 s;exact gg AC [0] p (k _ _ h c d i hi a)
     ·exact TrI.e HC.x AC 6 H0 (by kernel_rfl) (.inr rfl)
    ·obtain ⟨s,h⟩:=DG h;have p:=p.b 18 f |>.w 13 s
     exact gg AC [0] p (k _ _ h c d i hi a)
   ·obtain ⟨o,h⟩:=DG h;have p:=p.b 18 v |>.w 13 o
    exact gg AC [0] p (k _ _ h c d i hi a)
  ·have p:=p.b 10 j;cases h;exact TrI.e HC.x AC 10 p (by kernel_rfl) (.inl (by rw [W0 hi a]))
 ·have p:=p.b 7 f;cases h;exact TrI.e HC.x AC 10 p (by kernel_rfl) (.inl (by rw [W0 hi a]))
def w6 (C:Du Tryz.prog)(N:Int): ∀ (n:Nat) (A:Ts) (r:Ξ),JZ N n A=some r -> mF C n N r A
 | 0,_,_,h=>by cases h
 | n+1,.l1 H,r,h=>zML C n (JZ N n) N (w6 C N n) H r h
variable {r:Ξ}
def zMM (N:Int)(h:Ms n N=some r)(C:Du Tryz.prog)(U:C.encs=r.map Bw):A1 Tryz.prog GG Fence.wide none 1 (C.Y GG 1 0) (C.Q GG 1) [.code (AR Tryz.f93)] ⟨AF 25 [(0,.yl C.l),(1,.ref 0 0)],[oC [.int .u64 N]]⟩:=by
 suffices H: ∀ i:Nat,i<=C.encs.length -> C.encs.drop i=r.map Bw -> A1 Tryz.prog GG Fence.wide none 1 (C.Y GG 1 i) (C.Q GG 1) [.code (AR Tryz.f93)] ⟨AF 25 [(0,.yl C.l),(1,.ref 0 0)],[oC [.int .u64 N]]⟩ from H 0 (zIR _) (by rw [zJb];exact U)
 intro i hi b;have a:=w6 C N n;unfold Ms at h
 generalize JZ N n=self at h a
 unfold w5 at h;have p:=H0;exact gg AC [0] p (en n (a _ _ h n Nat.le.refl i hi b))
def mD {N:Int}(h:Ms n N=some r)(H:DH):EQ 63 [.int .u64 N] H (.it H.length) (H++[some (.iter (r.map Bw))]) true:=by
 refine ES.iterN (c:=L1 [.ref 0 0]) (h0:=[oC [.int .u64 N]]) (fn:=Tryz.f93) (zMI (n:=0) N (r:=()) rfl) (by kernel_rfl) Tryz.func93 (by kernel_rfl) (by kernel_rfl) (by kernel_rfl) (λC U=>?_) H;have e:DV.yl C.l::(List.range 1).map (L1 [.ref 0 0])++List.replicate (Tryz.f93.ntmps-(1+1)) .any=AF 25 [(0,.yl C.l),(1,.ref 0 0)]:=by kernel_rfl
 rw [e];exact zMM N h C U
inductive NG where
 | s0 (K0:Int)
def om:NG -> DH
 | .s0 V=>[oC [.i V],none]
def Uh (n:Nat)(e5:Int)(V:Int):Option NG:= if AG (V+1) then some (.s0 (V+1)) else none
def zAE (n:Nat)(r:Int):NG -> Option NG
 | .s0 V=>Uh n r V
def YT (n:Nat)(r:Int)(s:NG):Option NG:=zAE n r s
def zAD (n:Nat)(l B:Nat)(N:Yd 2)(a:Int)(s:NG)(r:NG)(h:YT n a s=some r):TA l B N (C0 2 [] 0 (om r)) Tryz.f39 5 ⟨AF 10 [(2,.ref 0 0),(5,.it 1),(6,.i a)],om s⟩:=by
 cases s with
 | s0 V=>
  replace h:Uh n a V=some r:=h;unfold Uh at h;refine ag AC [0,1] H0 (AF 10 [(2,.ref 0 0)]) [oC [.i V],none] λN=>?_
  revert r;apply gO;exact gw 8 (jt (lF λp=>rr AC [0,1] rfl p))
def YS (n:Nat)(N:Int):Option Int:=
 (Ms n (IntKind.u64.wrap N)).bind λj=>
  (CO (YT n) j (.s0 0)).bind λG=>
   match G with
   | .s0 x=>
    some x
def Ui (n:Nat)(N:Int):Option Int:=YS n N
def zAB {a:Int}{r:Int}(h:Ui n a=some r):EQ 39 [.i a] [] (.i r) [] true:=by
 unfold Ui YS at h;refine ot Tryz.func39 λB N=>?_
 revert r;apply gO
 exact cn λj u=>jc (mD u [oC [.i 0]]) (cn λG k=>λp r h=>by
  refine gs AC [0,1] p (HE (AR Tryz.f39) 5 []) (AF 10 [(2,.ref 0 0),(5,.it 1)]) [oC [.i 0],some (.iter ((j).map Bw))] ?_;refine r0 1 5 #[6] Bw 2 k (zAD n) ?_;cases G with
  | s0 Ep=>
   dsimp only at h
   revert r;apply gO;exact jt (lE AC [2] [0]))
end
section
set_option maxRecDepth 100000
set_option maxHeartbeats 40000000
def rX (n:Nat)(N F:Int):Option Int:= if 0<=F/\ F<=(IntKind.u64.bits:Int) then some (bits .and .u64 N (IntKind.u64.wrap (1*2 ^ (F).toNat))) else none
def Zv (n:Nat)(N F:Int):Option Int:=rX n N F
variable {F:Int}{n:Nat}
def zEB {a:Int}{r:Int}(h:Zv n a F=some r):EQ 35 [.int .u64 a,.i F] [] (.int .u64 r) [] true:=by
 refine ot Tryz.func35 λB N=>?_
 revert r;apply gO;exact gi (lE AC [4] [])
def lR (n:Nat)(q:AA)(pos:Ξ)(cell X:Int):Option (Ξ×Int):= (FX n q pos).bind λj=> bif (j != 0) then some (([]:Ξ),j) else bif (decide (cell<0)) then some (([]:Ξ),1) else bif (decide (cell>=q.cells)) then some (([]:Ξ),1) else bif (decide (X<0)) then some (([]:Ξ),1) else bif (decide (X>=q.symbols)) then some (([]:Ξ),1) else if ((True)/\ (0=0/\ 0=([]:Ξ).length)/\ ([]:Ξ).length+pos.length<=Ay)/\ (0<=cell/\ cell<((([]:Ξ).length+pos.length:Nat):Int))/\ 0+cell.toNat<(([]:Ξ)++pos).length then (Zv n (IntKind.u64.wrap ((([]:Ξ)++pos).getD (0+cell.toNat) 0)) X).bind λG=> if ([]:Ξ).length+pos.length=((([]:Ξ)++pos).set (0+cell.toNat) (IntKind.i64.wrap G)).length then (SK n ((([]:Ξ)++pos).set (0+cell.toNat) (IntKind.i64.wrap G))).bind λy3=> some (y3,0) else none else none
def cm (n:Nat)(q:AA)(pos:Ξ)(cell X:Int):Option (Ξ×Int):=lR n q pos cell X
variable {r:Ξ×Int}{cell:Int}{pos:Ξ}{q:AA}
def zLS {X:Int}(h:cm n q pos cell X=some r):EQ 34 [.agg 5 (L1 (AH q)),.ints pos,.i cell,.i X,.fn 35 0 (L1 [])] [] (.tup 2 (L1 [.ints r.1,.i r.2])) [] true:=by
 unfold cm lR at h;refine ot Tryz.func34 λB N=>?_
 revert r;apply gO
 exact cf L8 [oC (AH q)] λj=>bi 18 (lF λp=>el AC [10,11] [] p [] H0 [.nils,.i j] (AN.tupL (l:=[.nils,.i j]) (l':=[.ints ([]:Ξ),.i j]) rfl ⟨AN.ints_nil,Ax,trivial⟩)) (bi 21 (lF λp=>el AC [10,11] [] p [] H0 [.nils,.i 1] (AN.tupL (l:=[.nils,.i 1]) (l':=[.ints ([]:Ξ),.i 1]) rfl ⟨AN.ints_nil,Ax,trivial⟩)) (bi 26 (lF λp=>el AC [10,11] [] p [] H0 [.nils,.i 1] (AN.tupL (l:=[.nils,.i 1]) (l':=[.ints ([]:Ξ),.i 1]) rfl ⟨AN.ints_nil,Ax,trivial⟩)) (bi 30 (lF λp=>el AC [10,11] [] p [] H0 [.nils,.i 1] (AN.tupL (l:=[.nils,.i 1]) (l':=[.ints ([]:Ξ),.i 1]) rfl ⟨AN.ints_nil,Ax,trivial⟩)) (bi 36 (lF λp=>el AC [10,11] [] p [] H0 [.nils,.i 1] (AN.tupL (l:=[.nils,.i 1]) (l':=[.ints ([]:Ξ),.i 1]) rfl ⟨AN.ints_nil,Ax,trivial⟩)) (gc (gi (gc (gn λo=>jg o (gn λs=>jg s (cf zEB [oC (AH q),none,oI (([]:Ξ)++pos)] λG=>jg o (jg s (gn λP=>λp r h=>by
  refine gz (Ab 8 AC) [2] p [0] (H0.g P) (EP (AR Tryz.f34) 8 []) (AF 55 [(13,.ints ((([]:Ξ)++pos).set (0+cell.toNat) (IntKind.i64.wrap G)))]) [none] ?_;revert r;apply gO;exact cf zEP [none] λ_=>lE AC [10,11] []))))))))))))
def kb (n:Nat)(q:AA)(pos:Ξ)(cell F:Int):Option (Ξ×Int):= (cm n q pos cell F).bind λj=> some (j.1,j.2)
def TL (n:Nat)(q:AA)(pos:Ξ)(cell F:Int):Option (Ξ×Int):=kb n q pos cell F
def zJj (h:TL n q pos cell F=some r):EQ 22 [.agg 5 (L1 (AH q)),.ints pos,.i cell,.i F] [] (.tup 2 (L1 [.ints r.1,.i r.2])) [] true:=by
 unfold TL kb at h;refine ot Tryz.func22 λB N=>?_
 revert r;apply gO;exact cf zLS [oC (AH q)] λ_=>lE AC [8,9] []
def zHH (y:Nat)(j o1:Ξ):DH:=[oC [.msl 4 1 0 y],oC [.bool false],oC [.i 0],some (.iter ((j).map Bw)),oI o1]
def zHG (h:Nat)(p:Int)(l:Ξ):DH:=[oC [.msl 4 1 0 h],oC [.bool false],oC [.i p],none,oI l]
def zHF (a:Nat)(q:Int)(m:Ξ):DH:=[oC [.msl 4 1 0 a],oC [.bool false],oC [.i q],none,oI m]
inductive Lx where
 | s0 (Jy:Nat) (DR:Int) (Hr:Ξ)
 | s1 (DQ:Int)
def oV (pos:Ξ)(x10:Int):Lx -> DH
 | .s0 a q m=>[oC [.msl 4 1 0 a],oC [.bool false],oC [.i q],none,oI m]
 | .s1 p=>[oC [.nils],oC [.bool false],oC [.i p],none]
def O8 (n:Nat)(pos:Ξ)(x10 X:Int)(i:Nat)(q:Int)(m:Ξ):Option (Lx×Nat):= if AG (q+1) then bif (decide ((q+1)>1)) then some (.s1 (q+1),1) else bif (decide (X>=16)) then some (.s1 (q+1),1) else if (0=0/\ 1=([X]:Ξ).length)/\ (0=0/\ i=m.length)/\ m.length+([X]:Ξ).length<=Ay then some (.s0 (m.length+([X]:Ξ).length) (q+1) (m++([X]:Ξ)),0) else none else none
def eF (n:Nat)(pos:Ξ)(x10 X:Int)(p:Int):Option (Lx×Nat):= if AG (p+1) then bif (decide ((p+1)>1)) then some (.s1 (p+1),1) else bif (decide (X>=16)) then some (.s1 (p+1),1) else if (0=0/\ 1=([X]:Ξ).length)/\ 0<([X]:Ξ).length/\ ([X]:Ξ).length<=Ay then some (.s0 (([X]:Ξ).length) (p+1) ([X]:Ξ),0) else none else none
def zb (n:Nat)(pos:Ξ)(x10 X:Int):Lx -> Option (Lx×Nat)
 | .s0 i q m=>O8 n pos x10 X i q m
 | .s1 p=>eF n pos x10 X p
def Ub (n:Nat)(pos:Ξ)(x10 X:Int)(s:Lx):Option (Lx×Nat):=zb n pos x10 X s
def za (n:Nat)(pos:Ξ)(x10:Int)(l B:Nat)(N:Yd 4)(X:Int)(s:Lx)(r:Lx×Nat)(h:Ub n pos x10 X s=some r):TA l B N (C0 4 [.ret] r.2 (oV pos x10 r.1)) Tryz.f54 16 ⟨AF 34 [(2,.ref 0 0),(3,.ref 1 0),(6,.ref 2 0),(8,.ints pos),(9,.i (pos.length:Int)),(10,.i x10),(16,.it 3),(17,.i X)],oV pos x10 s⟩:=by
 cases s with
 | s0 a q m=>
  replace h:O8 n pos x10 X a q m=some r:=h;unfold O8 at h;refine ag AC [0,1,2,3,4] H0 (AF 34 [(2,.ref 0 0),(3,.ref 1 0),(6,.ref 2 0),(7,.i X)]) (zHF a q m) λN=>?_
  revert r;apply gO;exact gw 19 (jt (bi 21 (jt (jt (lF λp=>rr AC [0,1,2,3] rfl p))) (bi 24 (jt (jt (lF λp=>rr AC [0,1,2,3] rfl p))) (gi (jt (lF λp=>rr AC [0,1,2,3,6] rfl p))))))
 | s1 b=>
  replace h:eF n pos x10 X b=some r:=h;unfold eF at h;refine ag AC [0,1,2,3] H0 (AF 34 [(2,.ref 0 0),(3,.ref 1 0),(6,.ref 2 0),(7,.i X)]) [oC [.nils],oC [.bool false],oC [.i b],none] λN=>?_
  revert r;apply gO;exact gw 19 (jt (bi 21 (jt (jt (lF λp=>rr AC [0,1,2,3] rfl p))) (bi 24 (jt (jt (lF λp=>rr AC [0,1,2,3] rfl p))) (gi (jt (lF λp=>rr AC [0,1,2,3,5] rfl p))))))
inductive Ly where
 | s0 (DR:Int)
 | s1 (Jw:Nat) (DQ:Int) (Hq:Ξ)
def oU (pos:Ξ)(x10:Int):Ly -> DH
 | .s0 q=>[oC [.nils],oC [.bool false],oC [.i q],none]
 | .s1 h p l=>[oC [.msl 4 1 0 h],oC [.bool false],oC [.i p],none,oI l]
def Ua (n:Nat)(pos:Ξ)(x10 X:Int)(q:Int):Option (Ly×Nat):= if AG (q+1) then bif (decide ((q+1)>1)) then some (.s0 (q+1),1) else bif (decide (X>=16)) then some (.s0 (q+1),1) else if (0=0/\ 1=([X]:Ξ).length)/\ 0<([X]:Ξ).length/\ ([X]:Ξ).length<=Ay then some (.s1 (([X]:Ξ).length) (q+1) ([X]:Ξ),0) else none else none
def UZ (n:Nat)(pos:Ξ)(x10 X:Int)(h:Nat)(p:Int)(l:Ξ):Option (Ly×Nat):= if AG (p+1) then bif (decide ((p+1)>1)) then some (.s0 (p+1),1) else bif (decide (X>=16)) then some (.s0 (p+1),1) else if (0=0/\ 1=([X]:Ξ).length)/\ (0=0/\ h=l.length)/\ l.length+([X]:Ξ).length<=Ay then some (.s1 (l.length+([X]:Ξ).length) (p+1) (l++([X]:Ξ)),0) else none else none
def zZ (n:Nat)(pos:Ξ)(x10 X:Int):Ly -> Option (Ly×Nat)
 | .s0 q=>Ua n pos x10 X q
 | .s1 h p l=>UZ n pos x10 X h p l
def Uc (n:Nat)(pos:Ξ)(x10 X:Int)(s:Ly):Option (Ly×Nat):=zZ n pos x10 X s
def zY (n:Nat)(pos:Ξ)(x10:Int)(l B:Nat)(N:Yd 4)(X:Int)(s:Ly)(r:Ly×Nat)(h:Uc n pos x10 X s=some r):TA l B N (C0 4 [.ret] r.2 (oU pos x10 r.1)) Tryz.f54 16 ⟨AF 34 [(2,.ref 0 0),(3,.ref 1 0),(6,.ref 2 0),(8,.ints pos),(9,.i (pos.length:Int)),(10,.i x10),(16,.it 3),(17,.i X)],oU pos x10 s⟩:=by
 cases s with
 | s0 q=>
  replace h:Ua n pos x10 X q=some r:=h;unfold Ua at h;refine ag AC [0,1,2,3] H0 (AF 34 [(2,.ref 0 0),(3,.ref 1 0),(6,.ref 2 0),(7,.i X)]) [oC [.nils],oC [.bool false],oC [.i q],none] λN=>?_
  revert r;apply gO;exact gw 19 (jt (bi 21 (jt (jt (lF λp=>rr AC [0,1,2,3] rfl p))) (bi 24 (jt (jt (lF λp=>rr AC [0,1,2,3] rfl p))) (gi (jt (lF λp=>rr AC [0,1,2,3,5] rfl p))))))
 | s1 a b c=>
  replace h:UZ n pos x10 X a b c=some r:=h;unfold UZ at h;refine ag AC [0,1,2,3,4] H0 (AF 34 [(2,.ref 0 0),(3,.ref 1 0),(6,.ref 2 0),(7,.i X)]) (zHG a b c) λN=>?_
  revert r;apply gO;exact gw 19 (jt (bi 21 (jt (jt (lF λp=>rr AC [0,1,2,3] rfl p))) (bi 24 (jt (jt (lF λp=>rr AC [0,1,2,3] rfl p))) (gi (jt (lF λp=>rr AC [0,1,2,3,6] rfl p))))))
inductive Ud where
 | l1 (x10:Int)
 | l2 (x10:Int) (Cg:Nat) (o1:Ξ)
def O7 (n:Nat)(self:Ud -> Option (Ξ×Bool))(pos:Ξ)(x10:Int):Option (Ξ×Bool):=
 bif (decide (x10<(pos.length:Int))) then
  if 0<=x10/\ x10<(pos.length:Int) then
   (Ms n (IntKind.u64.wrap (pos.getD x10.toNat 0))).bind λa=>
    (Ch (Uc n pos x10) a (.s0 0)).bind λG=>
     bif G.2==0 then
      match G.1 with
      | .s0 x=>
       bif (x==0) then
        some (([]:Ξ),false)
       else
        if AG (x10+1) then
         self (.l1 (x10+1))
        else none
      | .s1 j B T=>
       bif (B==0) then
        some (([]:Ξ),false)
       else
        if AG (x10+1) then
         self (.l2 (x10+1) j T)
        else none
     else
      bif G.2==1 then
       match G.1 with
       | .s0 x=>
        some (([]:Ξ),false)
       | .s1 j B T=>
        if j=T.length then
         some (T,false)
        else none
      else
       none
  else none
 else
  some (([]:Ξ),true)
def RV (n:Nat)(self:Ud -> Option (Ξ×Bool))(pos:Ξ)(x10:Int)(y:Nat)(o1:Ξ):Option (Ξ×Bool):=
 bif (decide (x10<(pos.length:Int))) then
  if 0<=x10/\ x10<(pos.length:Int) then
   (Ms n (IntKind.u64.wrap (pos.getD x10.toNat 0))).bind λa=>
    (Ch (Ub n pos x10) a (.s0 y 0 o1)).bind λG=>
     bif G.2==0 then
      match G.1 with
      | .s0 x C U=>
       bif (C==0) then
        some (([]:Ξ),false)
       else
        if AG (x10+1) then
         self (.l2 (x10+1) x U)
        else none
      | .s1 j=>
       bif (j==0) then
        some (([]:Ξ),false)
       else
        if AG (x10+1) then
         self (.l1 (x10+1))
        else none
     else
      bif G.2==1 then
       match G.1 with
       | .s0 x C U=>
        if x=U.length then
         some (U,false)
        else none
       | .s1 j=>
        some (([]:Ξ),false)
      else
       none
  else none
 else
  if y=o1.length then
   some (o1,true)
  else none
def zX (n:Nat)(self:Ud -> Option (Ξ×Bool))(pos:Ξ):Option (Ξ×Bool):= self (.l1 0)
def HM (pos:Ξ):Nat -> Ud -> Option (Ξ×Bool)
 | 0,_=>none
 | n+1,.l1 x10=>O7 n (HM pos n) pos x10
 | n+1,.l2 x10 y o1=>RV n (HM pos n) pos x10 y o1
def YJ (n:Nat)(pos:Ξ):Option (Ξ×Bool):=zX n (HM pos n) pos
def zc (n B:Nat)(N:Yd 0)(pos:Ξ)(r:Ξ×Bool):Ud -> Prop
 | .l1 x10=>∀ f:Nat,n<=f -> TW B N (FQ Tryz.f54 0 (.tup 2 (L1 [.ints r.1,.bool r.2])) []) (Ag f (An (AR Tryz.f54) 0 [])) ⟨AF 34 [(2,.ref 0 0),(3,.ref 1 0),(8,.ints pos),(9,.i (pos.length:Int)),(10,.i x10)],[oC [.nils],oC [.bool false]]⟩
 | .l2 x10 y o1=>∀ f:Nat,n<=f -> TW B N (FQ Tryz.f54 0 (.tup 2 (L1 [.ints r.1,.bool r.2])) []) (Ag f (An (AR Tryz.f54) 0 [])) ⟨AF 34 [(2,.ref 0 0),(3,.ref 2 0),(8,.ints pos),(9,.i (pos.length:Int)),(10,.i x10)],[oC [.msl 1 1 0 y],oI o1,oC [.bool false]]⟩
def zd (B:Nat)(N:Yd 0)(pos:Ξ):Al (HM pos) (zc · B N pos):=ia (λ_=>rfl) λn C A r h=>by
 cases A
 case l1 x10=>
  intro f a;refine rd a λf a=>?_
  revert r;apply gO
  exact bi 11 (gi (jt (cn λj u=>jc (mD u [oC [.nils],oC [.bool false],oC [.i 0]]) (cn λG k=>λp r h=>by
   refine gs AC [0,1,2,3] p (HE (AR Tryz.f54) 16 [f]) (AF 34 [(2,.ref 0 0),(3,.ref 1 0),(6,.ref 2 0),(8,.ints pos),(9,.i (pos.length:Int)),(10,.i x10),(16,.it 3)]) [oC [.nils],oC [.bool false],oC [.i 0],some (.iter ((j).map Bw))] ?_;refine rx [.ret] 3 16 #[17] Bw 4 k (zY n pos x10) λe I=>?_
   replace h:=DN h;rcases h with ⟨z,h⟩ | ⟨z,h⟩
   ·rw [zJF z] at I;cases I;revert h;cases G.1 with
    | s0 x=>
     intro h
     dsimp only at h
     revert r;apply gO;exact bi 31 (jt (jt (lF λp=>el AC [2,3] [0,1] p [] H0 [.nils,.bool false] (AN.tupL (l:=[.nils,.bool false]) (l':=[.ints ([]:Ξ),.bool false]) rfl ⟨AN.ints_nil,Ax,trivial⟩)))) (gw 32 (lG AC [0,1] (C _ _ · f a)))
    | s1 b c T=>
     intro h
     dsimp only at h
     revert r;apply gO;exact bi 31 (jt (jt (lF λp=>el AC [2,3] [0,1] p [] H0 [.nils,.bool false] (AN.tupL (l:=[.nils,.bool false]) (l':=[.ints ([]:Ξ),.bool false]) rfl ⟨AN.ints_nil,Ax,trivial⟩)))) (gw 32 (lG AC [0,4,1] (C _ _ · f a)))
   ·replace h:=DN h;rcases h with ⟨z,h⟩ | ⟨z,h⟩
    ·rw [zJF z] at I;cases I;refine NU ⟨rfl,?_⟩ _;revert h;cases G.1 with
     | s0 x=>
      intro h
      dsimp only at h
      revert r;apply gT;exact lF λ_=>Cx.el (.inr rfl) [] H0 [.nils,.bool false] (AN.tupL (l:=[.nils,.bool false]) (l':=[.ints ([]:Ξ),.bool false]) rfl ⟨AN.ints_nil,Ax,trivial⟩) (by kernel_rfl)
     | s1 b c T=>
      intro h
      dsimp only at h
      revert r;apply gT;exact gn λo=>lF λ_=>Cx.e (.inr rfl) [4] (H0.g o) (by kernel_rfl)
    ·cases h)))) (jt (jt (lF λp=>el AC [2,3] [0,1] p [] H0 [.nils,.bool true] (AN.tupL (l:=[.nils,.bool true]) (l':=[.ints ([]:Ξ),.bool true]) rfl ⟨AN.ints_nil,Ax,trivial⟩))))
 case l2 x10 Cg o1=>
  intro f a;refine rd a λf a=>?_
  revert r;apply gO
  exact bi 11 (gi (jt (cn λj u=>jc (mD u [oC [.msl 1 1 0 Cg],oI o1,oC [.bool false],oC [.i 0]]) (cn λG k=>λp r h=>by
   refine gs AC [0,2,3,4,1] p (HE (AR Tryz.f54) 16 [f]) (AF 34 [(2,.ref 0 0),(3,.ref 1 0),(6,.ref 2 0),(8,.ints pos),(9,.i (pos.length:Int)),(10,.i x10),(16,.it 3)]) (zHH Cg j o1) ?_;refine rx [.ret] 3 16 #[17] Bw 4 k (za n pos x10) λe I=>?_
   replace h:=DN h;rcases h with ⟨z,h⟩ | ⟨z,h⟩
   ·rw [zJF z] at I;cases I;revert h;cases G.1 with
    | s0 x d U=>
     intro h
     dsimp only at h
     revert r;apply gO;exact bi 31 (jt (jt (lF λp=>el AC [2,3] [0,1] p [] H0 [.nils,.bool false] (AN.tupL (l:=[.nils,.bool false]) (l':=[.ints ([]:Ξ),.bool false]) rfl ⟨AN.ints_nil,Ax,trivial⟩)))) (gw 32 (lG AC [0,4,1] (C _ _ · f a)))
    | s1 b=>
     intro h
     dsimp only at h
     revert r;apply gO;exact bi 31 (jt (jt (lF λp=>el AC [2,3] [0,1] p [] H0 [.nils,.bool false] (AN.tupL (l:=[.nils,.bool false]) (l':=[.ints ([]:Ξ),.bool false]) rfl ⟨AN.ints_nil,Ax,trivial⟩)))) (gw 32 (lG AC [0,1] (C _ _ · f a)))
   ·replace h:=DN h;rcases h with ⟨z,h⟩ | ⟨z,h⟩
    ·rw [zJF z] at I;cases I;refine NU ⟨rfl,?_⟩ _;revert h;cases G.1 with
     | s0 x d U=>
      intro h
      dsimp only at h
      revert r;apply gT;exact gn λo=>lF λ_=>Cx.e (.inr rfl) [4] (H0.g o) (by kernel_rfl)
     | s1 b=>
      intro h
      dsimp only at h
      revert r;apply gT;exact lF λ_=>Cx.el (.inr rfl) [] H0 [.nils,.bool false] (AN.tupL (l:=[.nils,.bool false]) (l':=[.ints ([]:Ξ),.bool false]) rfl ⟨AN.ints_nil,Ax,trivial⟩) (by kernel_rfl)
    ·cases h)))) (jt (jt (gn λq=>lF λp=>ez AC [2,3] [0,1,2] p [1] (H0.g q))))
def zW {r:Ξ×Bool}(h:YJ n pos=some r):EQ 54 [.ints pos] [] (.tup 2 (L1 [.ints r.1,.bool r.2])) [] true:=by
 refine ot Tryz.func54 λB N=>?_
 revert r;apply gO;exact lN AC [0,1] ((zd B N pos n) _ _ · n Nat.le.refl)
end
section
set_option maxRecDepth 100000
set_option maxHeartbeats 40000000
inductive RG where
 | l1 (Am:Int)
 | l2 (x4:Nat) (Am:Int) (o1:Ξ)
def UK (n:Nat)(self:RG -> Option (Ξ))(q:AA)(level:Int)(X:Int):Option (Ξ):= bif (decide (X<(q.cons.length:Int))) then (Pk n q X).bind λj=> bif (j.2==0) then bif (decide (j.1<=level)) then if ((0=0/\ 1=([X]:Ξ).length)/\ 0<([X]:Ξ).length/\ ([X]:Ξ).length<=Ay)/\ AG (X+1) then self (.l2 (([X]:Ξ).length) (X+1) ([X]:Ξ)) else none else if AG (X+1) then self (.l1 (X+1)) else none else if AG (X+1) then self (.l1 (X+1)) else none else some ([]:Ξ)
def Xx (n:Nat)(self:RG -> Option (Ξ))(q:AA)(level:Int)(K:Nat)(X:Int)(o1:Ξ):Option (Ξ):= bif (decide (X<(q.cons.length:Int))) then (Pk n q X).bind λj=> bif (j.2==0) then bif (decide (j.1<=level)) then if ((0=0/\ 1=([X]:Ξ).length)/\ (0=0/\ K=o1.length)/\ o1.length+([X]:Ξ).length<=Ay)/\ AG (X+1) then self (.l2 (o1.length+([X]:Ξ).length) (X+1) (o1++([X]:Ξ))) else none else if AG (X+1) then self (.l2 K (X+1) o1) else none else if AG (X+1) then self (.l2 K (X+1) o1) else none else if K=o1.length then some o1 else none
def yJ (n:Nat)(self:RG -> Option (Ξ))(q:AA)(level:Int):Option (Ξ):= self (.l1 0)
def Iq (q:AA)(level:Int):Nat -> RG -> Option (Ξ)
 | 0,_=>none
 | n+1,.l1 X=>UK n (Iq q level n) q level X
 | n+1,.l2 K X o1=>Xx n (Iq q level n) q level K X o1
def UL (n:Nat)(q:AA)(level:Int):Option (Ξ):=yJ n (Iq q level n) q level
def yK (n B:Nat)(N:Yd 0)(q:AA)(level:Int)(r:Ξ):RG -> Prop
 | .l1 X=>∀ f:Nat,n<=f -> TW B N (FQ Tryz.f81 0 (.ints r) []) (Ag f (An (AR Tryz.f81) 0 [])) ⟨AF 33 [(1,.i level),(2,.ref 0 0),(4,.nils),(10,.i (q.cons.length:Int)),(11,.i X)],[oC (AH q)]⟩
 | .l2 K X o1=>∀ f:Nat,n<=f -> TW B N (FQ Tryz.f81 0 (.ints r) []) (Ag f (An (AR Tryz.f81) 0 [])) ⟨AF 33 [(1,.i level),(2,.ref 0 0),(4,.msl 1 1 0 K),(10,.i (q.cons.length:Int)),(11,.i X)],[oC (AH q),oI o1]⟩
def yL (B:Nat)(N:Yd 0)(q:AA)(level:Int):Al (Iq q level) (yK · B N q level):=ia (λ_=>rfl) λn C A r h=>by
 cases A
 case l1 Am=>
  intro f a;refine rd a λf a=>?_
  revert r;apply gO;exact bi 12 (cf iD [oC (AH q)] λ_=>bi 21 (bi 25 (gc (gi (gw 31 (lG AC [0,2] (C _ _ · f a))))) (gw 31 (lG AC [0] (C _ _ · f a)))) (gw 31 (lG AC [0] (C _ _ · f a)))) (lF λp=>el AC [4] [] p [] H0 [.nils] AN.ints_nil)
 case l2 x4 Am o1=>
  intro f a;refine rd a λf a=>?_
  revert r;apply gO;exact bi 12 (cf iD [oC (AH q),oI o1] λ_=>bi 21 (bi 25 (gc (gi (gw 31 (lG AC [0,3] (C _ _ · f a))))) (gw 31 (lG AC [0,1] (C _ _ · f a)))) (gw 31 (lG AC [0,1] (C _ _ · f a)))) (gn λb=>lF λp=>ez AC [4] [1] p [0] (H0.g b))
variable {level:Int}{q:AA}{n:Nat}
def m8 {r:Ξ}(h:UL n q level=some r):EQ 81 [.agg 5 (L1 (AH q)),.i level] [] (.ints r) [] true:=by
 refine ot Tryz.func81 λB N=>?_
 revert r;apply gO;exact lN AC [0] ((yL B N q level n) _ _ · n Nat.le.refl)
inductive Tv where
 | l1 (x8:Int)
 | l2 (x8:Int) (o0:Ω) (Cy:Nat) (o2:Ξ)
def mH (n:Nat)(self:Tv -> Option (Ω×Nat×Nat×Ξ×Bool))(l:Ξ)(a:Ω)(x8:Int):Option (Ω×Nat×Nat×Ξ×Bool):= bif (decide (x8<(l.length:Int))) then if (0<=x8/\ x8<(l.length:Int))/\ (0<=(l.getD x8.toNat 0)/\ (l.getD x8.toNat 0)<((4096:Nat):Int))/\ 0+((l.getD x8.toNat 0).toNat)<a.length then bif (!(a.getD (0+((l.getD x8.toNat 0).toNat)) false)) then if ((0=0/\ 1=([l.getD x8.toNat 0]:Ξ).length)/\ 0<([l.getD x8.toNat 0]:Ξ).length/\ ([l.getD x8.toNat 0]:Ξ).length<=Ay)/\ AG (x8+1) then self (.l2 (x8+1) (a.set (0+((l.getD x8.toNat 0).toNat)) true) (([l.getD x8.toNat 0]:Ξ).length) ([l.getD x8.toNat 0]:Ξ)) else none else if AG (x8+1) then self (.l1 (x8+1)) else none else none else some (a,0,0,([]:Ξ),true)
def Xd (n:Nat)(self:Tv -> Option (Ω×Nat×Nat×Ξ×Bool))(l:Ξ)(ws:Ω)(x8:Int)(o0:Ω)(N:Nat)(F:Ξ):Option (Ω×Nat×Nat×Ξ×Bool):= bif (decide (x8<(l.length:Int))) then if (0<=x8/\ x8<(l.length:Int))/\ (0<=(l.getD x8.toNat 0)/\ (l.getD x8.toNat 0)<((4096:Nat):Int))/\ 0+((l.getD x8.toNat 0).toNat)<o0.length then bif (!(o0.getD (0+((l.getD x8.toNat 0).toNat)) false)) then if 0+N=F.length/\ N+([l.getD x8.toNat 0]:Ξ).length<=Ay/\ AG (x8+1) then self (.l2 (x8+1) (o0.set (0+((l.getD x8.toNat 0).toNat)) true) (N+([l.getD x8.toNat 0]:Ξ).length) (F++([l.getD x8.toNat 0]:Ξ))) else none else if AG (x8+1) then self (.l2 (x8+1) o0 N F) else none else none else some (o0,0,N,F,false)
def zMR (n:Nat)(self:Tv -> Option (Ω×Nat×Nat×Ξ×Bool))(l:Ξ)(ws:Ω):Option (Ω×Nat×Nat×Ξ×Bool):= self (.l1 0)
def Jc (l:Ξ)(a:Ω):Nat -> Tv -> Option (Ω×Nat×Nat×Ξ×Bool)
 | 0,_=>none
 | n+1,.l1 x8=>mH n (Jc l a n) l a x8
 | n+1,.l2 x8 o0 N F=>Xd n (Jc l a n) l a x8 o0 N F
def Oe (n:Nat)(l:Ξ)(a:Ω):Option (Ω×Nat×Nat×Ξ×Bool):=zMR n (Jc l a n) l a
def zMS (n B:Nat)(N:Yd 2)(l:Ξ)(a:Ω)(r:Ω×Nat×Nat×Ξ×Bool):Tv -> Prop
 | .l1 x8=>∀ f:Nat,n<=f -> TW B N (FQ Tryz.f116 2 (.tup 0 (λj=>([]:List DV).getD j .any)) (bif r.2.2.2.2 then [some (.bools r.1),oC [.nils]] else [some (.bools r.1),oC [.mse 2 1 r.2.1 r.2.2.1],oI r.2.2.2.1])) (Ag f (An (AR Tryz.f116) 0 [])) ⟨AF 23 [(1,.mp 0 1 0 0),(2,.ref 1 0),(6,.ints l),(7,.i (l.length:Int)),(8,.i x8)],[some (.bools a),oC [.nils]]⟩
 | .l2 x8 o0 b F=>∀ f:Nat,n<=f -> TW B N (FQ Tryz.f116 2 (.tup 0 (λj=>([]:List DV).getD j .any)) (bif r.2.2.2.2 then [some (.bools r.1),oC [.nils]] else [some (.bools r.1),oC [.mse 2 1 r.2.1 r.2.2.1],oI r.2.2.2.1])) (Ag f (An (AR Tryz.f116) 0 [])) ⟨AF 23 [(1,.mp 0 1 0 0),(2,.ref 1 0),(6,.ints l),(7,.i (l.length:Int)),(8,.i x8)],[some (.bools o0),oC [.mse 2 1 0 b],oI F]⟩
def zMT (B:Nat)(N:Yd 2)(l:Ξ)(c:Ω):Al (Jc l c) (zMS · B N l c):=ia (λ_=>rfl) λn C A r h=>by
 cases A
 case l1 x8=>
  intro f a;refine rd a λf a=>?_
  revert r;apply gO;exact bi 9 (gc (gi (gc (gn λb=>jg b (gn λs=>jg s (bi 15 (jg b (jg s (gc (gi (jo 21 (AN.msl_mse (k:=3) (m:=1) (o:=0) (n:=([l.getD x8.toNat 0]:Ξ).length)) (jt (gw 22 (lG AC [0,1,3] (C _ _ · f a))))))))) (gw 22 (lG AC [0,1] (C _ _ · f a))))))))) (lE AC [] [0,1])
 case l2 x8 o0 Cy o2=>
  intro f a;refine rd a λf a=>?_
  revert r;apply gO;exact bi 9 (gc (gi (gc (gn λb=>jg b (gn λs=>jg s (bi 15 (jg b (jg s (jg (And.intro (Eq.refl 0) (Eq.refl 1)) (jg (by decide:0<1) (gc (gi (gc (gi (jt (gw 22 (lG AC [0,1,4] (C _ _ · f a)))))))))))) (gw 22 (lG AC [0,1,2] (C _ _ · f a))))))))) (lE AC [] [0,1,2])
variable {r:Ω×Nat×Nat×Ξ×Bool}{a:Ω}{l:Ξ}
def xL (h:Oe n l a=some r):EQ 116 [.ints l,.mp 0 1 0 0,.ref 1 0] [some (.bools a),oC [.nils]] (.tup 0 (λj=>([]:List DV).getD j .any)) (bif r.2.2.2.2 then [some (.bools r.1),oC [.nils]] else [some (.bools r.1),oC [.mse 2 1 r.2.1 r.2.2.1],oI r.2.2.2.1]) false:=by
 refine ot Tryz.func116 (hni:=by cases r.2.2.2.2 <;> rfl) λB N=>?_
 revert r;apply gO;exact lN AC [0,1] ((zMT B N l a n) _ _ · n Nat.le.refl)
def xK (h:Oe n l a=some r)(c:r.2.2.2.2=true):EQ 116 [.ints l,.mp 0 1 0 0,.ref 1 0] [some (.bools a),oC [.nils]] (.tup 0 (λj=>([]:List DV).getD j .any)) [some (.bools r.1),oC [.nils]] false:=by
 have:=xL h;rw [c] at this;exact this
def xJ (h:Oe n l a=some r)(c:r.2.2.2.2=false):EQ 116 [.ints l,.mp 0 1 0 0,.ref 1 0] [some (.bools a),oC [.nils]] (.tup 0 (λj=>([]:List DV).getD j .any)) [some (.bools r.1),oC [.mse 2 1 r.2.1 r.2.2.1],oI r.2.2.2.1] false:=by
 have:=xL h;rw [c] at this;exact this
inductive dJ where
 | l1 (x8:Int) (o0:Ω) (LA Cy:Nat) (o3:Ξ)
def Xe (n:Nat)(self:dJ -> Option (Ω×Nat×Nat×Ξ))(l:Ξ)(ws:Ω)(o_ n_:Nat)(qu:Ξ)(x8:Int)(o0:Ω)(W N:Nat)(t:Ξ):Option (Ω×Nat×Nat×Ξ):= bif (decide (x8<(l.length:Int))) then if (0<=x8/\ x8<(l.length:Int))/\ (0<=(l.getD x8.toNat 0)/\ (l.getD x8.toNat 0)<((4096:Nat):Int))/\ 0+((l.getD x8.toNat 0).toNat)<o0.length then bif (!(o0.getD (0+((l.getD x8.toNat 0).toNat)) false)) then if W+N=t.length/\ N+([l.getD x8.toNat 0]:Ξ).length<=Ay/\ AG (x8+1) then self (.l1 (x8+1) (o0.set (0+((l.getD x8.toNat 0).toNat)) true) 0 (N+([l.getD x8.toNat 0]:Ξ).length) ((t.drop W)++([l.getD x8.toNat 0]:Ξ))) else none else if AG (x8+1) then self (.l1 (x8+1) o0 W N t) else none else none else some (o0,W,N,t)
def zMU (n:Nat)(self:dJ -> Option (Ω×Nat×Nat×Ξ))(l:Ξ)(a:Ω)(b N:Nat)(s:Ξ):Option (Ω×Nat×Nat×Ξ):= self (.l1 0 a b N s)
def Qv (l:Ξ)(a:Ω)(b N:Nat)(s:Ξ):Nat -> dJ -> Option (Ω×Nat×Nat×Ξ)
 | 0,_=>none
 | n+1,.l1 x8 o0 W c t=>Xe n (Qv l a b N s n) l a b N s x8 o0 W c t
def Mt (n:Nat)(l:Ξ)(a:Ω)(b N:Nat)(s:Ξ):Option (Ω×Nat×Nat×Ξ):=zMU n (Qv l a b N s n) l a b N s
def zMW (n B:Nat)(N:Yd 3)(l:Ξ)(ws:Ω)(o_ n_:Nat)(qu:Ξ)(r:Ω×Nat×Nat×Ξ):dJ -> Prop
 | .l1 x8 o0 W a t=>∀ f:Nat,n<=f -> TW B N (FQ Tryz.f116 3 (.tup 0 (λj=>([]:List DV).getD j .any)) [some (.bools r.1),oC [.mse 3 1 r.2.1 r.2.2.1],none,oI r.2.2.2]) (Ag f (An (AR Tryz.f116) 0 [])) ⟨AF 23 [(1,.mp 0 1 0 0),(2,.ref 1 0),(6,.ints l),(7,.i (l.length:Int)),(8,.i x8)],[some (.bools o0),oC [.mse 3 1 W a],none,oI t]⟩
def zMX (B:Nat)(N:Yd 3)(l:Ξ)(b:Ω)(c d:Nat)(s:Ξ):Al (Qv l b c d s) (zMW · B N l b c d s):=ia (λ_=>rfl) λn C A r h=>by
 cases A
 case l1 x8 o0 LA Cy o3=>
  intro f a;refine rd a λf a=>?_
  revert r;apply gO;exact bi 9 (gc (gi (gc (gn λo=>jg o (gn λe=>jg e (bi 15 (jg o (jg e (jg (And.intro (Eq.refl 0) (Eq.refl 1)) (jg (by decide:0<1) (gc (gi (gc (gi (jt (gw 22 (lG AC [0,1,2,5] (C _ _ · f a)))))))))))) (gw 22 (lG AC [0,1,2,3] (C _ _ · f a))))))))) (lE AC [] [0,1,2,3])
def mI {b c:Nat}{s:Ξ}{r:Ω×Nat×Nat×Ξ}(h:Mt n l a b c s=some r):EQ 116 [.ints l,.mp 0 1 0 0,.ref 1 0] [some (.bools a),oC [.mse 2 1 b c],oI s] (.tup 0 (λj=>([]:List DV).getD j .any)) [some (.bools r.1),oC [.mse 3 1 r.2.1 r.2.2.1],none,oI r.2.2.2] false:=by
 refine ot Tryz.func116 λB N=>?_
 refine Bi.le (A7.moveE 2 ⟨AF 23 [(0,.ints l),(1,.mp 0 1 0 0),(2,.ref 1 0)],[some (.bools a),oC [.mse 3 1 b c],none,oI s]⟩ (by kernel_rfl)) (by kernel_rfl) ?_;revert r;apply gO;exact lN AC [0,1,2,3] ((zMX B N l a b c s n) _ _ · n Nat.le.refl)
def rP (n:Nat)(c:Int)(q:AA):Option Bool:= bif (decide (c<0)) then some true else some (decide (c>=q.cells))
def Zm (n:Nat)(c:Int)(q:AA):Option Bool:=rP n c q
def zD0 {c:Int}{r:Bool}(h:Zm n c q=some r):EQ 100 [.i c,.fp 5 (L1 (AH q))] [] (.bool r) [] true:=by
 refine ot Tryz.func100 λB N=>?_
 revert r;apply gO;exact bi 5 (lE AC [3] []) (lE AC [3] [])
inductive aa where
 | l1 (x8:Int)
def SY (n:Nat)(self:aa -> Option Int)(l:Ξ)(q:AA)(x8:Int):Option Int:= bif (decide (x8<(l.length:Int))) then if 0<=x8/\ x8<(l.length:Int) then (Zm n (l.getD x8.toNat 0) q).bind λj=> bif j then some x8 else if AG (x8+1) then self (.l1 (x8+1)) else none else none else some (-1)
def zF7 (n:Nat)(self:aa -> Option Int)(l:Ξ)(q:AA):Option Int:= self (.l1 0)
def MR (l:Ξ)(q:AA):Nat -> aa -> Option Int
 | 0,_=>none
 | n+1,.l1 x8=>SY n (MR l q n) l q x8
def s5 (n:Nat)(l:Ξ)(q:AA):Option Int:=zF7 n (MR l q n) l q
def zF8 (n B:Nat)(N:Yd 0)(l:Ξ)(q:AA)(r:Int):aa -> Prop
 | .l1 x8=>∀ f:Nat,n<=f -> TW B N (FQ Tryz.f85 0 (.i r) []) (Ag f (An (AR Tryz.f85) 0 [])) ⟨AF 19 [(0,.ints l),(1,.fn 100 1 (L1 [.fp 5 (L1 (AH q))])),(7,.i (l.length:Int)),(8,.i x8)],[]⟩
def zF9 (B:Nat)(N:Yd 0)(l:Ξ)(q:AA):Al (MR l q) (zF8 · B N l q):=ia (λ_=>rfl) λn C A r h=>by
 cases A
 case l1 x8=>
  intro f a;refine rd a λf a=>?_
  revert r;apply gO;exact bi 9 (gi (cf zD0 [] λ_=>bi 16 (lE AC [4] []) (gw 18 (lG AC [] (C _ _ · f a))))) (lE AC [4] [])
def zF6 {r:Int}(h:s5 n l q=some r):EQ 85 [.ints l,.fn 100 1 (L1 [.fp 5 (L1 (AH q))])] [] (.i r) [] true:=by
 refine ot Tryz.func85 λB N=>?_
 revert r;apply gO;exact lN AC [] ((zF9 B N l q n) _ _ · n Nat.le.refl)
def va (n:Nat)(l:Ξ)(q:AA):Option Bool:= (s5 n l q).bind λj=> some (decide (j>=0))
def cT (n:Nat)(l:Ξ)(q:AA):Option Bool:=va n l q
def zK0 {r:Bool}(h:cT n l q=some r):EQ 76 [.ints l,.fn 100 1 (L1 [.fp 5 (L1 (AH q))])] [] (.bool r) [] true:=by
 unfold cT va at h;refine ot Tryz.func76 λB N=>?_
 revert r;apply gO;exact cf zF6 [] λ_=>lE AC [4] []
def zAz:Au (A9 Tryz.f101 32) [] (List.range 9) []:=by unfold Au;kernel_rfl
def FE:BX:=λi=>match i with
 | 32=>.ord [] (List.range 9) []
 | _=>.no
def tR (cells:Ξ)(q:AA)(F:Ω)(o1:Int -> Ξ)(t:Int):DH:=[oC (AH q),none,some (.bools F),oC [.nils],some (.mo (.rows o1 (some (cells.getD t.toNat 0,o1 (cells.getD t.toNat 0),false))))]
def zHo (cells:Ξ)(q:AA)(F:Ω)(e H:Nat)(o4:Ξ)(o1:Int -> Ξ)(t:Int):DH:=[oC (AH q),none,some (.bools F),oC [.mse 4 1 e H],oI o4,some (.mo (.rows o1 (some (cells.getD t.toNat 0,o1 (cells.getD t.toNat 0),false))))]
def tQ (cells:Ξ)(q:AA)(o1:Int -> Ξ)(F:Ω)(e H:Nat)(o4:Ξ):DH:=[oC (AH q),some (.mo (.rows o1 none)),some (.bools F),oC [.mse 4 1 e H],oI o4]
def zHn (cells:Ξ)(q:AA)(o1:Int -> Ξ)(F:Ω)(o4:Ξ)(e H:Nat):DH:=[oC (AH q),some (.mo (.rows o1 none)),some (.bools (F.set (0+((o4.getD (e+0) 0).toNat)) false)),oC [.mse 4 1 (e+1) (H-1)],oI o4]
def zHm (cells:Ξ)(q:AA)(F:Ω)(e H:Nat)(o4:Ξ)(o1:Int -> Ξ)(P:Int):DH:=[oC (AH q),none,some (.bools F),oC [.mse 4 1 e H],oI o4,some (.mo (.rows o1 (some (P,o1 P,false))))]
inductive Jz where
 | l1 (x9 By:Ξ) (C1 Bl:Int) (o1:Int -> Ξ)
 | l2 (x9:Ξ) (BB:Int) (By:Ξ) (C1 Bl:Int) (Il:Ξ) (Dd Aw:Int) (o1:Int -> Ξ)
 | l3 (x9:Ξ) (Ce:Int) (o1:Int -> Ξ) (o2:Ω)
 | l4 (x9:Ξ) (Ce:Int) (o1:Int -> Ξ) (o2:Ω) (Bx Aa:Nat) (o4:Ξ)
 | l5 (o1:Int -> Ξ) (o2:Ω)
 | l6 (x1:Ξ) (o1:Int -> Ξ) (o2:Ω) (Bx Aa:Nat) (o4:Ξ)
 | l7 (x1 x21:Ξ) (Dx Es:Int) (o1:Int -> Ξ) (o2:Ω) (Bx Aa:Nat) (o4:Ξ)
def VU (n:Nat)(self:Jz -> Option (Ξ))(q:AA)(pos cells:Ξ)(level:Int)(v f:Ξ)(Z O:Int)(o1:Int -> Ξ):Option (Ξ):= bif (decide (O<Z)) then if (0<=O/\ O<(f.length:Int))/\ (0<=(f.getD O.toNat 0)/\ (f.getD O.toNat 0)<(q.cons.length:Int)) then self (.l2 v (f.getD O.toNat 0) f Z O ((q.cons.getD ((f.getD O.toNat 0).toNat) default).cells) ((((q.cons.getD ((f.getD O.toNat 0).toNat) default).cells).length:Nat):Int) 0 o1) else none else self (.l3 v 0 o1 (List.replicate 4096 false))
def ZP (n:Nat)(self:Jz -> Option (Ξ))(q:AA)(pos cells:Ξ)(level:Int)(v:Ξ)(W:Int)(f:Ξ)(Z O:Int)(A:Ξ)(Q o:Int)(o1:Int -> Ξ):Option (Ξ):= bif (decide (o<Q)) then if (0<=o/\ o<(A.length:Int))/\ (o1 (A.getD o.toNat 0)).length+([W]:Ξ).length<=Ay/\ AG (o+1) then self (.l2 v W f Z O A Q (o+1) (IE o1 (A.getD o.toNat 0) ((o1 (A.getD o.toNat 0))++([W]:Ξ)))) else none else if AG (O+1) then self (.l1 v f Z (O+1) o1) else none
def L7 (n:Nat)(self:Jz -> Option (Ξ))(q:AA)(pos cells:Ξ)(level:Int)(v:Ξ)(t:Int)(o1:Int -> Ξ)(F:Ω):Option (Ξ):= bif (decide (t<(cells.length:Int))) then if 0<=t/\ t<(cells.length:Int) then (Oe n (o1 (cells.getD t.toNat 0)) F).bind λj=> bif j.2.2.2.2 then if AG (t+1) then self (.l3 v (t+1) o1 j.1) else none else if AG (t+1) then self (.l4 v (t+1) o1 j.1 j.2.1 j.2.2.1 j.2.2.2.1) else none else none else (Oe n v F).bind λj=> bif j.2.2.2.2 then self (.l5 o1 j.1) else self (.l6 pos o1 j.1 j.2.1 j.2.2.1 j.2.2.2.1)
def VT (n:Nat)(self:Jz -> Option (Ξ))(q:AA)(pos cells:Ξ)(level:Int)(v:Ξ)(t:Int)(o1:Int -> Ξ)(F:Ω)(e H:Nat)(o4:Ξ):Option (Ξ):= bif (decide (t<(cells.length:Int))) then if 0<=t/\ t<(cells.length:Int) then (Mt n (o1 (cells.getD t.toNat 0)) F e H o4).bind λj=> if AG (t+1) then self (.l4 v (t+1) o1 j.1 j.2.1 j.2.2.1 j.2.2.2) else none else none else (Mt n v F e H o4).bind λj=> self (.l6 pos o1 j.1 j.2.1 j.2.2.1 j.2.2.2)
def zDQ (n:Nat)(self:Jz -> Option (Ξ))(q:AA)(pos cells:Ξ)(level:Int)(o1:Int -> Ξ)(o2:Ω):Option (Ξ):= some pos
def VS (n:Nat)(self:Jz -> Option (Ξ))(q:AA)(pos cells:Ξ)(level:Int)(p:Ξ)(o1:Int -> Ξ)(F:Ω)(e H:Nat)(o4:Ξ):Option (Ξ):= bif (H==0) then some p else bif (decide ((H:Int)>0)) then (Gz n p).bind λj=> bif (!j) then if ((0:Int)<=0/\ 0<(H:Int))/\ e+0<o4.length/\ ((0:Int)<=1/\ (1:Int)<=(H:Int)/\ (H:Int)<=(H:Int))/\ (0<=(o4.getD (e+0) 0)/\ (o4.getD (e+0) 0)<((4096:Nat):Int))/\ 0+((o4.getD (e+0) 0).toNat)<F.length then (PL n q (o4.getD (e+0) 0) p).bind λG=> bif (G.2 != 0) then some p else self (.l7 p G.1 (G.1.length:Int) 0 o1 (F.set (0+((o4.getD (e+0) 0).toNat)) false) (e+1) (H-1) o4) else none else some p else some p
def VR (n:Nat)(self:Jz -> Option (Ξ))(q:AA)(pos cells:Ξ)(level:Int)(p x21:Ξ)(a P:Int)(o1:Int -> Ξ)(F:Ω)(e H:Nat)(o4:Ξ):Option (Ξ):= bif (decide (P<a)) then if (0<=P/\ P<(x21.length:Int))/\ (0<=P/\ P<(p.length:Int)) then bif ((x21.getD P.toNat 0) != (p.getD P.toNat 0)) then (Mt n (o1 P) F e H o4).bind λj=> if AG (P+1) then self (.l7 p x21 a (P+1) o1 j.1 j.2.1 j.2.2.1 j.2.2.2) else none else if AG (P+1) then self (.l7 p x21 a (P+1) o1 F e H o4) else none else none else self (.l6 x21 o1 F e H o4)
def VV (n:Nat)(self:Jz -> Option (Ξ))(q:AA)(pos cells:Ξ)(level:Int):Option (Ξ):= (Gz n pos).bind λj=> bif j then if ((pos.length:Int):Int)=(pos.length:Int)/\ 0<=(pos.length:Int)/\ ((pos.length:Int):Int)<=1000000000000 then if pos.length=(List.replicate pos.length (0:Int)).length then some (List.replicate pos.length (0:Int)) else none else none else (UL n q level).bind λG=> self (.l1 G G (G.length:Int) 0 (λ_=>[]))
def B5 (q:AA)(pos cells:Ξ)(level:Int):Nat -> Jz -> Option (Ξ)
 | 0,_=>none
 | n+1,.l1 v f Z O o1=>VU n (B5 q pos cells level n) q pos cells level v f Z O o1
 | n+1,.l2 v W f Z O A Q o o1=>ZP n (B5 q pos cells level n) q pos cells level v W f Z O A Q o o1
 | n+1,.l3 v t o1 F=>L7 n (B5 q pos cells level n) q pos cells level v t o1 F
 | n+1,.l4 v t o1 F e H o4=>VT n (B5 q pos cells level n) q pos cells level v t o1 F e H o4
 | n+1,.l5 o1 F=>zDQ n (B5 q pos cells level n) q pos cells level o1 F
 | n+1,.l6 p o1 F e H o4=>VS n (B5 q pos cells level n) q pos cells level p o1 F e H o4
 | n+1,.l7 p x21 a P o1 F e H o4=>VR n (B5 q pos cells level n) q pos cells level p x21 a P o1 F e H o4
def fu (n:Nat)(q:AA)(pos cells:Ξ)(level:Int):Option (Ξ):=VV n (B5 q pos cells level n) q pos cells level
def zDR (n B:Nat)(N:Yd 0)(q:AA)(pos cells:Ξ)(level:Int)(r:Ξ):Jz -> Prop
 | .l1 v a Z O o1=>∀ f:Nat,n<=f -> TW B N (FQ Tryz.f101 0 (.ints r) []) (Ag f (An (AR Tryz.f101) 0 [])) ⟨AF 123 [(1,.ints pos),(2,.ints cells),(4,.ref 0 0),(9,.ints v),(10,.mri 1 0),(33,.ints a),(34,.i Z),(35,.i O)],[oC (AH q),some (.mo (.rows o1 none))]⟩
 | .l2 v W a Z O A Q o o1=>∀ f Y:Nat,n<=f -> n<=Y -> TW B N (FQ Tryz.f101 0 (.ints r) []) (Ag Y (An (AR Tryz.f101) 2 [f])) ⟨AF 123 [(1,.ints pos),(2,.ints cells),(4,.ref 0 0),(9,.ints v),(10,.mri 1 0),(12,.i W),(33,.ints a),(34,.i Z),(35,.i O),(44,.ints A),(45,.i Q),(46,.i o)],[oC (AH q),some (.mo (.rows o1 none))]⟩
 | .l3 v t o1 F=>∀ f:Nat,n<=f -> TW B N (FQ Tryz.f101 0 (.ints r) []) (Ag f (An (AR Tryz.f101) 4 [])) ⟨AF 123 [(1,.ints pos),(4,.ref 0 0),(9,.ints v),(10,.mri 1 0),(15,.mp 2 1 0 0),(16,.ref 3 0),(17,.fn 116 2 (L1 [.mp 2 1 0 0,.ref 3 0])),(61,.ints cells),(62,.i (cells.length:Int)),(63,.i t)],[oC (AH q),some (.mo (.rows o1 none)),some (.bools F),oC [.nils]]⟩
 | .l4 v t o1 F e H o4=>∀ f:Nat,n<=f -> TW B N (FQ Tryz.f101 0 (.ints r) []) (Ag f (An (AR Tryz.f101) 4 [])) ⟨AF 123 [(1,.ints pos),(4,.ref 0 0),(9,.ints v),(10,.mri 1 0),(15,.mp 2 1 0 0),(16,.ref 3 0),(17,.fn 116 2 (L1 [.mp 2 1 0 0,.ref 3 0])),(61,.ints cells),(62,.i (cells.length:Int)),(63,.i t)],[oC (AH q),some (.mo (.rows o1 none)),some (.bools F),oC [.mse 4 1 e H],oI o4]⟩
 | .l5 o1 F=>∀ f:Nat,n<=f -> TW B N (FQ Tryz.f101 0 (.ints r) []) (Ag f (An (AR Tryz.f101) 6 [])) ⟨AF 123 [(1,.ints pos),(4,.ref 0 0),(10,.mri 1 0),(15,.mp 2 1 0 0),(16,.ref 3 0),(17,.fn 116 2 (L1 [.mp 2 1 0 0,.ref 3 0]))],[oC (AH q),some (.mo (.rows o1 none)),some (.bools F),oC [.nils]]⟩
 | .l6 p o1 F e H o4=>∀ f:Nat,n<=f -> TW B N (FQ Tryz.f101 0 (.ints r) []) (Ag f (An (AR Tryz.f101) 6 [])) ⟨AF 123 [(1,.ints p),(4,.ref 0 0),(10,.mri 1 0),(15,.mp 2 1 0 0),(16,.ref 3 0),(17,.fn 116 2 (L1 [.mp 2 1 0 0,.ref 3 0]))],[oC (AH q),some (.mo (.rows o1 none)),some (.bools F),oC [.mse 4 1 e H],oI o4]⟩
 | .l7 p x21 b P o1 F e H o4=>∀ f Y:Nat,n<=f -> n<=Y -> TW B N (FQ Tryz.f101 0 (.ints r) []) (Ag Y (An (AR Tryz.f101) 8 [f])) ⟨AF 123 [(1,.ints p),(4,.ref 0 0),(10,.mri 1 0),(15,.mp 2 1 0 0),(16,.ref 3 0),(17,.fn 116 2 (L1 [.mp 2 1 0 0,.ref 3 0])),(21,.ints x21),(102,.i b),(103,.i P)],[oC (AH q),some (.mo (.rows o1 none)),some (.bools F),oC [.mse 4 1 e H],oI o4]⟩
def zDS (B:Nat)(N:Yd 0)(q:AA)(pos cells:Ξ)(level:Int):Al (B5 q pos cells level) (zDR · B N q pos cells level):=ia (λ_=>rfl) λn C A r h=>by
 cases A
 case l1 x9 By C1 Bl o1=>
  intro f a;refine rd a λf a=>?_
  revert r;apply gO;exact bi 36 (gc (gi (gi (lN FE [0,1] (C _ _ · f n a Nat.le.refl))))) (lN FE [0,1,2,3] (C _ _ · n Nat.le.refl))
 case l2 x9 BB By C1 Bl Il Dd Aw o1=>
  intro f Y a x;have a:=zGf a;refine rd x λY x=>?_
  revert r;apply gO;exact bi 47 (gc (gi (jg (And.intro (Eq.refl 0) (Eq.refl 1)) (jg (by decide:0<1) (gc (gi (jg (Eq.refl (Il.getD Aw.toNat 0)) (gw 58 (lG FE [0,4] (C _ _ · f Y a x)))))))))) (gw 59 (lG FE [0,1] (C _ _ · f a)))
 case l3 x9 Ce o1 o2=>
  intro f a;refine rd a λf a=>?_
  revert r;apply gO;exact bi 64 (gi (cn λj u=>bn (λw=>jc (es (xK u w) [2,3] (tR cells q o2 o1 Ce) [.mri 4 1,.mp 2 1 0 0,.ref 3 0] ⟨(.inr (My.own rfl rfl)),(.inl rfl),(.inl rfl),trivial⟩) (ju 71 4 (gw 72 (lG FE [0,4,2,3] (C _ _ · f a))))) (λw=>jc (es (xJ u w) [2,3] (tR cells q o2 o1 Ce) [.mri 4 1,.mp 2 1 0 0,.ref 3 0] ⟨(.inr (My.own rfl rfl)),(.inl rfl),(.inl rfl),trivial⟩) (ju 71 4 (gw 72 (lG FE [0,4,2,3,5] (C _ _ · f a))))))) (cn λj u=>bn (λw=>jc (em (xK u w) [2,3] [oC (AH q),some (.mo (.rows o1 none)),some (.bools o2),oC [.nils]]) (lN FE [0,1,2,3] (C _ _ · n Nat.le.refl))) (λw=>jc (em (xJ u w) [2,3] [oC (AH q),some (.mo (.rows o1 none)),some (.bools o2),oC [.nils]]) (lN FE [0,1,2,3,4] (C _ _ · n Nat.le.refl))))
 case l4 x9 Ce o1 o2 Bx Aa o4=>
  intro f a;refine rd a λf a=>?_
  revert r;apply gO;exact bi 64 (gi (cn λj u=>jc (es (mI u) [2,3,4] (zHo cells q o2 Bx Aa o4 o1 Ce) [.mri 5 1,.mp 2 1 0 0,.ref 3 0] ⟨(.inr (My.own rfl rfl)),(.inl rfl),(.inl rfl),trivial⟩) (ju 71 5 (gw 72 (lG FE [0,5,2,3,6] (C _ _ · f a)))))) (ce mI [2,3,4] (tQ cells q o1 o2 Bx Aa o4) λ_=>lN FE [0,1,2,3,5] (C _ _ · n Nat.le.refl))
 case l5 o1 o2=>
  intro f a;refine rd a λf a=>?_
  revert r;apply gO;exact lE FE [8] []
 case l6 x1 o1 o2 Bx Aa o4=>
  intro f a;refine rd a λf a=>?_
  revert r;apply gO;exact bn (λb=>jo 76 (AN.mse_nil (k:=4) (m:=1) (o:=Bx) (zJF b)) (lE FE [8] [])) (λb=>jo 76 (AN.mse_msl (k:=4) (m:=1) (o:=Bx) (ZU b) rfl) (bi 78 (cf Pw (tQ cells q o1 o2 Bx Aa o4) λ_=>bi 82 (jo 84 (AN.mse_msl (k:=4) (m:=1) (o:=Bx) (ZU b) rfl) (gc (gi (gc (gi (jo 87 (AN.mse_msl (k:=4) (m:=1) (o:=Bx) (ZU b) rfl) (gc (gi (jt (gc (gi (gi (cf qk (zHn cells q o1 o2 o4 Bx Aa) λ_=>bi 99 (lE FE [8] []) (lN FE [0,1,2,3,4] (C _ _ · f n a Nat.le.refl))))))))))))))) (lE FE [8] [])) (lE FE [8] [])))
 case l7 x1 x21 Dx Es o1 o2 Bx Aa o4=>
  intro f Y a x;have a:=zGf a;refine rd x λY x=>?_
  revert r;apply gO;exact bi 104 (jg zAz (gc (gi (gi (bi 114 (cn λj u=>jc (es (mI u) [2,3,4] (zHm cells q o2 Bx Aa o4 o1 Es) [.mri 5 1,.mp 2 1 0 0,.ref 3 0] ⟨(.inr (My.own rfl rfl)),(.inl rfl),(.inl rfl),trivial⟩) (ju 119 5 (gw 120 (lG FE [0,5,2,3,6] (C _ _ · f Y a x))))) (gw 120 (lG FE [0,1,2,3,4] (C _ _ · f Y a x)))))))) (lG FE [0,1,2,3,4] (C _ _ · f a))
variable {pos cells:Ξ}
def zDP {r:Ξ}(h:fu n q pos cells level=some r):EQ 101 [.agg 5 (L1 (AH q)),.ints pos,.ints cells,.i level] [] (.ints r) [] true:=by
 refine ot Tryz.func101 λB N=>?_
 revert r;apply gO;exact cf Pw [oC (AH q)] λ_=>bi 25 (gi (gn λo=>lF λp=>ez FE [8] [1] p [0] (H0.g o))) (cf m8 [oC (AH q)] λ_=>lN FE [0,1] ((zDS B N q pos cells level n) _ _ · n Nat.le.refl))
def xE (n:Nat)(q:AA)(pos cells:Ξ)(level:Int):Option (Ξ×Int):= (FX n q pos).bind λj=> bif (j != 0) then some (([]:Ξ),j) else (cT n cells q).bind λG=> bif G then some (([]:Ξ),1) else (fu n q pos cells level).bind λy3=> some (y3,0)
def dI (n:Nat)(q:AA)(pos cells:Ξ)(level:Int):Option (Ξ×Int):=xE n q pos cells level
def zMP {r:Ξ×Int}(h:dI n q pos cells level=some r):EQ 86 [.agg 5 (L1 (AH q)),.ints pos,.ints cells,.i level] [] (.tup 2 (L1 [.ints r.1,.i r.2])) [] true:=by
 unfold dI xE at h;refine ot Tryz.func86 λB N=>?_
 revert r;apply gO;exact cf L8 [oC (AH q)] λj=>bi 14 (lF λp=>el AC [8,9] [] p [] H0 [.nils,.i j] (AN.tupL (l:=[.nils,.i j]) (l':=[.ints ([]:Ξ),.i j]) rfl ⟨AN.ints_nil,Ax,trivial⟩)) (cn λy2 k=>jc (sb [.ints cells,.fn 100 1 (L1 [.ref 0 0])] (zK0 k) [oC (AH q)] ⟨Az.plain (by kernel_rfl),(Az.fnL (l:=[.ref 0 0]) (l0:=[.fp 5 (L1 (AH q))]) ⟨(Az.refL (l:=(AH q)) (l0:=(AH q)) rfl ⟨Az.plain (by kernel_rfl),Az.plain (by kernel_rfl),Az.plain (by kernel_rfl),Az.plain (by kernel_rfl),Az.plain (by kernel_rfl),trivial⟩),trivial⟩),trivial⟩) (bi 18 (lF λp=>el AC [8,9] [] p [] H0 [.nils,.i 1] (AN.tupL (l:=[.nils,.i 1]) (l':=[.ints ([]:Ξ),.i 1]) rfl ⟨AN.ints_nil,Ax,trivial⟩)) (cf zDP [oC (AH q)] λ_=>lE AC [8,9] [])))
def xD (n:Nat)(q:AA)(pos:Ξ)(level:Int):Option (Ξ×Int):= (dI n q pos ([]:Ξ) level).bind λj=> some (j.1,j.2)
def Tu (n:Nat)(q:AA)(pos:Ξ)(level:Int):Option (Ξ×Int):=xD n q pos level
def zMN {r:Ξ×Int}(h:Tu n q pos level=some r):EQ 52 [.agg 5 (L1 (AH q)),.ints pos,.i level] [] (.tup 2 (L1 [.ints r.1,.i r.2])) [] true:=by
 unfold Tu xD at h;refine ot Tryz.func52 λB N=>?_
 revert r;apply gO;exact cn λy1 u=>jc (fb (ES.argsLe (ds:=[.agg 5 (L1 (AH q)),.ints pos,.nils,.i level]) (zMP u) ⟨Ax,Ax,AN.ints_nil,Ax,trivial⟩) [oC (AH q)]) (lE AC [6,7] [])
def vr (n:Nat)(y:Int)(q:AA)(pos:Ξ):Option (Bool×Ξ):= (PL n q y pos).bind λj=> bif (j.2 != 0) then some (false,pos) else (Wu n j.1 pos).bind λG=> bif G then some (false,pos) else some (true,j.1)
def XN (n:Nat)(y:Int)(q:AA)(pos:Ξ):Option (Bool×Ξ):=vr n y q pos
def zLP {y:Int}{r:Bool×Ξ}(h:XN n y q pos=some r):EQ 82 [.i y,.ref 0 0,.ref 1 0] [oC (AH q),oC [.ints pos]] (.bool r.1) [oC (AH q),oC [.ints r.2]] false:=by
 unfold XN vr at h;refine ot Tryz.func82 λB N=>?_
 revert r;apply gO;exact cf qk [oC (AH q),oC [.ints pos]] λ_=>bi 15 (lE AC [4] [0,1]) (cf zKC [oC (AH q),oC [.ints pos]] λ_=>bi 19 (lE AC [4] [0,1]) (jt (lE AC [4] [0,1])))
inductive af where
 | l1 (x8:Int) (Cy:Ξ)
def SZ (n:Nat)(self:af -> Option (Int×Ξ))(l:Ξ)(q:AA)(pos:Ξ)(x8:Int)(N:Ξ):Option (Int×Ξ):= bif (decide (x8<(l.length:Int))) then if 0<=x8/\ x8<(l.length:Int) then (XN n (l.getD x8.toNat 0) q N).bind λj=> bif j.1 then some (x8,j.2) else if AG (x8+1) then self (.l1 (x8+1) j.2) else none else none else some ((-1),N)
def zGD (n:Nat)(self:af -> Option (Int×Ξ))(l:Ξ)(q:AA)(pos:Ξ):Option (Int×Ξ):= self (.l1 0 pos)
def MU (l:Ξ)(q:AA)(pos:Ξ):Nat -> af -> Option (Int×Ξ)
 | 0,_=>none
 | n+1,.l1 x8 N=>SZ n (MU l q pos n) l q pos x8 N
def Pz (n:Nat)(l:Ξ)(q:AA)(pos:Ξ):Option (Int×Ξ):=zGD n (MU l q pos n) l q pos
def zGE (n B:Nat)(N:Yd 2)(l:Ξ)(q:AA)(pos:Ξ)(r:Int×Ξ):af -> Prop
 | .l1 x8 a=>∀ f:Nat,n<=f -> TW B N (FQ Tryz.f85 2 (.i r.1) [oC (AH q),oC [.ints r.2]]) (Ag f (An (AR Tryz.f85) 0 [])) ⟨AF 19 [(0,.ints l),(1,.fn 82 2 (L1 [.ref 0 0,.ref 1 0])),(7,.i (l.length:Int)),(8,.i x8)],[oC (AH q),oC [.ints a]]⟩
def zGF (B:Nat)(N:Yd 2)(l:Ξ)(q:AA)(pos:Ξ):Al (MU l q pos) (zGE · B N l q pos):=ia (λ_=>rfl) λn C A r h=>by
 cases A
 case l1 x8 Cy=>
  intro f a;refine rd a λf a=>?_
  revert r;apply gO;exact bi 9 (gi (ce zLP [0,1] [oC (AH q),oC [.ints Cy]] λ_=>bi 16 (lE AC [4] [0,1]) (gw 18 (lG AC [0,1] (C _ _ · f a))))) (lE AC [4] [0,1])
def s7 {r:Int×Ξ}(h:Pz n l q pos=some r):EQ 85 [.ints l,.fn 82 2 (L1 [.ref 0 0,.ref 1 0])] [oC (AH q),oC [.ints pos]] (.i r.1) [oC (AH q),oC [.ints r.2]] false:=by
 refine ot Tryz.func85 λB N=>?_
 revert r;apply gO;exact lN AC [0,1] ((zGF B N l q pos n) _ _ · n Nat.le.refl)
inductive SI where
 | l1 (x8:Ξ)
 | l2 (x6:Nat) (x8 Cg o1:Ξ)
def SH (n:Nat)(self:SI -> Option (Ξ×Int))(q:AA)(pos:Ξ)(level:Int)(x8:Ξ):Option (Ξ×Int):= (Gz n pos).bind λj=> bif (!j) then (Pz n x8 q pos).bind λG=> bif (decide (G.1<0)) then some (([]:Ξ),0) else if (0<=G.1/\ G.1<(x8.length:Int))/\ ((0=0/\ 1=([x8.getD ((G.1).toNat) 0]:Ξ).length)/\ 0<([x8.getD ((G.1).toNat) 0]:Ξ).length/\ ([x8.getD ((G.1).toNat) 0]:Ξ).length<=Ay) then self (.l2 (([x8.getD ((G.1).toNat) 0]:Ξ).length) x8 G.2 ([x8.getD ((G.1).toNat) 0]:Ξ)) else none else some (([]:Ξ),0)
def PT (n:Nat)(self:SI -> Option (Ξ×Int))(q:AA)(pos:Ξ)(level:Int)(K:Nat)(x8 y o1:Ξ):Option (Ξ×Int):= (Gz n y).bind λj=> bif (!j) then (Pz n x8 q y).bind λG=> bif (decide (G.1<0)) then if K=o1.length then some (o1,0) else none else if (0<=G.1/\ G.1<(x8.length:Int))/\ ((0=0/\ 1=([x8.getD ((G.1).toNat) 0]:Ξ).length)/\ (0=0/\ K=o1.length)/\ o1.length+([x8.getD ((G.1).toNat) 0]:Ξ).length<=Ay) then self (.l2 (o1.length+([x8.getD ((G.1).toNat) 0]:Ξ).length) x8 G.2 (o1++([x8.getD ((G.1).toNat) 0]:Ξ))) else none else if K=o1.length then some (o1,0) else none
def zD7 (n:Nat)(self:SI -> Option (Ξ×Int))(q:AA)(pos:Ξ)(level:Int):Option (Ξ×Int):= (FX n q pos).bind λj=> bif (j != 0) then some (([]:Ξ),j) else (UL n q level).bind λG=> self (.l1 G)
def IR (q:AA)(pos:Ξ)(level:Int):Nat -> SI -> Option (Ξ×Int)
 | 0,_=>none
 | n+1,.l1 x8=>SH n (IR q pos level n) q pos level x8
 | n+1,.l2 K x8 y o1=>PT n (IR q pos level n) q pos level K x8 y o1
def Zu (n:Nat)(q:AA)(pos:Ξ)(level:Int):Option (Ξ×Int):=zD7 n (IR q pos level n) q pos level
def zD8 (n B:Nat)(N:Yd 0)(q:AA)(pos:Ξ)(level:Int)(r:Ξ×Int):SI -> Prop
 | .l1 x8=>∀ f:Nat,n<=f -> TW B N (FQ Tryz.f51 0 (.tup 2 (L1 [.ints r.1,.i r.2])) []) (Ag f (An (AR Tryz.f51) 0 [])) ⟨AF 37 [(4,.ref 0 0),(6,.nils),(8,.ints x8),(9,.fn 82 2 (L1 [.ref 1 0,.ref 0 0]))],[oC [.ints pos],oC (AH q)]⟩
 | .l2 K x8 y o1=>∀ f:Nat,n<=f -> TW B N (FQ Tryz.f51 0 (.tup 2 (L1 [.ints r.1,.i r.2])) []) (Ag f (An (AR Tryz.f51) 0 [])) ⟨AF 37 [(4,.ref 0 0),(6,.msl 1 1 0 K),(8,.ints x8),(9,.fn 82 2 (L1 [.ref 2 0,.ref 0 0]))],[oC [.ints y],oI o1,oC (AH q)]⟩
def zD9 (B:Nat)(N:Yd 0)(q:AA)(pos:Ξ)(level:Int):Al (IR q pos level) (zD8 · B N q pos level):=ia (λ_=>rfl) λn C A r h=>by
 cases A
 case l1 x8=>
  intro f a;refine rd a λf a=>?_
  revert r;apply gO;exact cf Pw [oC [.ints pos],oC (AH q)] λ_=>bi 23 (ce s7 [1,0] [oC [.ints pos],oC (AH q)] λ_=>bi 28 (lF λp=>el AC [6,7] [] p [] H0 [.nils,.i 0] (AN.tupL (l:=[.nils,.i 0]) (l':=[.ints ([]:Ξ),.i 0]) rfl ⟨AN.ints_nil,Ax,trivial⟩)) (gc (gi (gi (lG AC [0,3,1] (C _ _ · f a)))))) (lF λp=>el AC [6,7] [] p [] H0 [.nils,.i 0] (AN.tupL (l:=[.nils,.i 0]) (l':=[.ints ([]:Ξ),.i 0]) rfl ⟨AN.ints_nil,Ax,trivial⟩))
 case l2 x6 x8 Cg o1=>
  intro f a;refine rd a λf a=>?_
  revert r;apply gO;exact cf Pw [oC [.ints Cg],oI o1,oC (AH q)] λ_=>bi 23 (ce s7 [2,0] [oC [.ints Cg],oI o1,oC (AH q)] λ_=>bi 28 (gn λb=>lF λp=>ez AC [6,7] [1] p [0] (H0.g b)) (gc (gi (gi (lG AC [0,4,2] (C _ _ · f a)))))) (gn λb=>lF λp=>ez AC [6,7] [1] p [0] (H0.g b))
def zD6 {r:Ξ×Int}(h:Zu n q pos level=some r):EQ 51 [.agg 5 (L1 (AH q)),.ints pos,.i level] [] (.tup 2 (L1 [.ints r.1,.i r.2])) [] true:=by
 refine ot Tryz.func51 λB N=>?_
 revert r;apply gO;exact cf L8 [oC (AH q),oC [.ints pos]] λj=>bi 15 (lF λp=>el AC [6,7] [] p [] H0 [.nils,.i j] (AN.tupL (l:=[.nils,.i j]) (l':=[.ints ([]:Ξ),.i j]) rfl ⟨AN.ints_nil,Ax,trivial⟩)) (cf m8 [oC (AH q),oC [.ints pos]] λ_=>lN AC [1,0] ((zD9 B N q pos level n) _ _ · n Nat.le.refl))
end
section
set_option maxRecDepth 100000
set_option maxHeartbeats 40000000
def zBb:Au (A9 Tryz.f29 12) [] (List.range 7) []:=by unfold Au;kernel_rfl
def PC:BX:=λi=>match i with
 | 12=>.ord [] (List.range 7) []
 | _=>.no
inductive ck where
 | l1 (BB Cg JA:Int)
def Qj (n:Nat)(self:ck -> Option (Int×Bool))(pos:Ξ)(W y B:Int):Option (Int×Bool):= bif (decide (W<(pos.length:Int))) then if 0<=W/\ W<(pos.length:Int) then (Ui n (pos.getD W.toNat 0)).bind λj=> bif (j==0) then some (0,false) else bif (decide (j>1)) then bif ((y==0)&&((B==0)&&true)) then if AG (W+1) then self (.l1 (W+1) j W) else none else bif (decide (j<y)) then if AG (W+1) then self (.l1 (W+1) j W) else none else if AG (W+1) then self (.l1 (W+1) y B) else none else if AG (W+1) then self (.l1 (W+1) y B) else none else none else some (B,(!((y==0)&&((B==0)&&true))))
def zLJ (n:Nat)(self:ck -> Option (Int×Bool))(pos:Ξ):Option (Int×Bool):= self (.l1 0 0 0)
def OZ (pos:Ξ):Nat -> ck -> Option (Int×Bool)
 | 0,_=>none
 | n+1,.l1 W y B=>Qj n (OZ pos n) pos W y B
def XM (n:Nat)(pos:Ξ):Option (Int×Bool):=zLJ n (OZ pos n) pos
def zLK (n B:Nat)(N:Yd 0)(pos:Ξ)(r:Int×Bool):ck -> Prop
 | .l1 W y a=>∀ f:Nat,n<=f -> TW B N (FQ Tryz.f29 0 (.tup 2 (L1 [.i r.1,.bool r.2])) []) (Ag f (An (AR Tryz.f29) 0 [])) ⟨AF 44 [(4,.ref 0 0),(10,.ints pos),(11,.i (pos.length:Int)),(12,.i W)],[oC [.i y,.i a]]⟩
def zLL (B:Nat)(N:Yd 0)(pos:Ξ):Al (OZ pos) (zLK · B N pos):=ia (λ_=>rfl) λn C A r h=>by
 cases A
 case l1 BB Cg JA=>
  intro f a;refine rd a λf a=>?_
  revert r;apply gO;exact bi 13 (gi (cf zAB [oC [.i Cg,.i JA]] λ_=>bi 20 (lE PC [2,3] []) (jt (bi 25 (bi 29 (jt (gw 38 (lG PC [0] (C _ _ · f a)))) (jg (by decide:(0:Int)<=0/\ 0<((2:Nat):Int)) (bi 34 (jt (gw 38 (lG PC [0] (C _ _ · f a)))) (gw 38 (lG PC [0] (C _ _ · f a)))))) (gw 38 (lG PC [0] (C _ _ · f a))))))) (jg zBb (jg (by decide:(0:Int)<=1/\ 1<((2:Nat):Int)) (lE PC [2,3] [])))
variable {pos:Ξ}{n:Nat}
def vp {r:Int×Bool}(h:XM n pos=some r):EQ 29 [.ints pos] [] (.tup 2 (L1 [.i r.1,.bool r.2])) [] true:=by
 refine ot Tryz.func29 λB N=>?_
 revert r;apply gO;exact jt (lN PC [0] ((zLL B N pos n) _ _ · n Nat.le.refl))
def vq (n:Nat)(q:AA)(pos:Ξ):Option (Int×Bool×Int):= (FX n q pos).bind λj=> bif (j != 0) then some (0,false,j) else (XM n pos).bind λG=> some (G.1,G.2,0)
def lP (n:Nat)(q:AA)(pos:Ξ):Option (Int×Bool×Int):=vq n q pos
def lO {q:AA}{r:Int×Bool×Int}(h:lP n q pos=some r):EQ 14 [.agg 5 (L1 (AH q)),.ints pos] [] (.tup 3 (L1 [.i r.1,.bool r.2.1,.i r.2.2])) [] true:=by
 unfold lP vq at h;refine ot Tryz.func14 λB N=>?_
 revert r;apply gO;exact cf L8 [oC (AH q)] λ_=>bi 12 (lE AC [4,5,6] []) (cf vp [oC (AH q)] λ_=>lE AC [4,5,6] [])
abbrev Bc:=(Δ)×Ξ
def TT (x:Bc):List DV:=[.agg 2 (L1 [.i x.1.1,.i x.1.2]),.ints x.2]
def db (pos:Ξ):Nat -> List DV:=λ_=>[.ints pos,.ref 0 0,.ref 2 0,.ref 3 0]
def C3 (q:AA)(pos0:Ξ):Nat -> DH:=λl=>[some (.ro (AH q)),some (.ro [.ints pos0]),some (.ro [.yl l]),some (.ro [.fn 50 3 (L1 [.ref 0 0,.ref 2 0,.ref 3 0])])]
def RA (b:Bool):DV:=.bool b
abbrev Lq:=Ξ -> AA -> Ξ -> Option (List Bc)
def RB (f:Lq):Prop:=∀ (pos:Ξ) (q:AA) (pos0:Ξ) (r:List Bc),f pos q pos0=some r -> YW Tryz.prog GG RA 50 (db pos) (C3 q pos0) (r.map TT)
inductive M8 where
 | l1 (Fj:Ξ) (Gk Er:Int)
 | l2 (x10:Ξ) (BR Ef:Int)
def Ow (n:Nat)(BI:Lq)(self:M8 -> Option (List Bc))(pos:Ξ)(q:AA)(pos0:Ξ)(H:Ξ)(F Q:Int):Option (List Bc):= bif (decide (Q<F)) then if 0<=Q/\ Q<(H.length:Int) then wx ((1,H.getD Q.toNat 0),([]:Ξ)) (if AG (Q+1) then self (.l1 H F (Q+1)) else none) else none else (Tu n q pos 4).bind λj=> (Gz n j.1).bind λG=> bif G then wx ((3,0),([]:Ξ)) (some []) else (YJ n j.1).bind λy3=> bif y3.2 then wx ((4,0),y3.1) (some []) else (XM n j.1).bind λr=> wx ((2,r.1),([]:Ξ)) (self (.l2 j.1 r.1 0))
def Ov (n:Nat)(Z:Lq)(self:M8 -> Option (List Bc))(pos:Ξ)(q:AA)(pos0:Ξ)(x10:Ξ)(t z:Int):Option (List Bc):= bif (decide (z<q.symbols)) then if (0<=t/\ t<(x10.length:Int))/\ (0<=z/\ z<=(IntKind.i64.bits:Int)) then bif ((bits .and .i64 ((x10.getD t.toNat 0)/2 ^ (z).toNat) 1)==0) then if AG (z+1) then self (.l2 x10 t (z+1)) else none else (TL n q x10 t z).bind λj=> wb (Z j.1 q pos0) (if AG (z+1) then self (.l2 x10 t (z+1)) else none) else none else some []
def Xs (n:Nat)(BI:Lq)(self:M8 -> Option (List Bc))(pos:Ξ)(q:AA)(pos0:Ξ):Option (List Bc):= (Zu n q pos 4).bind λj=> self (.l1 j.1 (j.1.length:Int) 0)
def Et (Z:Lq)(pos:Ξ)(q:AA)(pos0:Ξ):Nat -> M8 -> Option (List Bc)
 | 0,_=>none
 | n+1,.l1 H F Q=>Ow n Z (Et Z pos q pos0 n) pos q pos0 H F Q
 | n+1,.l2 x10 t z=>Ov n Z (Et Z pos q pos0 n) pos q pos0 x10 t z
def UF (C:ET Tryz.prog)(ρ0:List AI)(n:Nat)(pos:Ξ)(q:AA)(pos0:Ξ)(r:List Bc):M8 -> Prop
 | .l1 H F Q=>∀ f:Nat,n<=f -> ∀ i:Nat,DW C TT i r -> Qx C RA Tryz.f50 4 ρ0 (C3 q pos0 C.l) (Ag f (An (AR Tryz.f50) 0 [])) i r ⟨AF 94 [(0,.ints pos),(1,.ref 0 0),(2,.ref 2 0),(3,.ref 3 0),(25,.ints H),(26,.i F),(27,.i Q)],[some (.ro (AH q)),some (.ro [.ints pos0]),some (.ro [.yl C.l]),some (.ro [.fn 50 3 (L1 [.ref 0 0,.ref 2 0,.ref 3 0])])]⟩
 | .l2 x10 t z=>∀ f:Nat,n<=f -> ∀ i:Nat,DW C TT i r -> Qx C RA Tryz.f50 4 ρ0 (C3 q pos0 C.l) (Ag f (An (AR Tryz.f50) 2 [])) i r ⟨AF 94 [(1,.ref 0 0),(3,.ref 3 0),(10,.ints x10),(14,.i t),(69,.i q.symbols),(70,.i z)],[some (.ro (AH q)),some (.ro [.ints pos0]),some (.ro [.yl C.l]),some (.ro [.fn 50 3 (L1 [.ref 0 0,.ref 2 0,.ref 3 0])])]⟩
def xz (C:ET Tryz.prog)(ρ0:List AI)(n:Nat)(Z:Lq)(D9:RB Z)(self:M8 -> Option (List Bc))(pos:Ξ)(q:AA)(pos0:Ξ)(o: ∀ A r,self A=some r -> UF C ρ0 n pos q pos0 r A)(H:Ξ)(F Q:Int)(r:List Bc)(h:Ow n Z self pos q pos0 H F Q=some r):UF C ρ0 (n+1) pos q pos0 r (.l1 H F Q):=by
 intro f e;intro i a;refine rd e λf e=>?_
 unfold Ow at h;have p:=H0;rcases DN h with ⟨k,h⟩ | ⟨k,h⟩
 ·obtain ⟨s,h⟩:=DG h;have p:=H0.b 28 k |>.g s
  refine gs (Ab 22 (Ab 15 (Ab 13 (Ab 10 (Ab 5 AC))))) [0,1,2,3] p (EP (AR Tryz.f50) 5 [f]) (AF 94 [(0,.ints pos),(1,.ref 0 0),(2,.ref 2 0),(3,.ref 3 0),(9,.i (H.getD Q.toNat 0)),(25,.ints H),(26,.i F),(27,.i Q)]) (C3 q pos0 C.l) ?_;refine wO (ops:=A9 Tryz.f50 5) (by kernel_rfl) ?_;refine wY (xs:=[.agg 2 (L1 [.i 1,.i (H.getD Q.toNat 0)]),.nils]) [0,1,2] [4] 3 H0 (AF 94 [(0,.ints pos),(1,.ref 0 0),(2,.ref 2 0),(3,.ref 3 0),(25,.ints H),(26,.i F),(27,.i Q)]) (C3 q pos0 C.l) (some 34) h a ⟨Ax,AN.ints_nil,trivial⟩ (λr=>?_) λr i h a=>?_
  ·refine wS H0 (AF 94 [(0,.ints pos),(1,.ref 0 0),(2,.ref 2 0),(3,.ref 3 0),(25,.ints H),(26,.i F),(27,.i Q),(35,.bool true)]) (C3 q pos0 C.l) ?_;have p:=H0;exact ee AC [5] [0,1,2,3] p
  ·refine wE H0 (AF 94 [(0,.ints pos),(1,.ref 0 0),(2,.ref 2 0),(3,.ref 3 0),(25,.ints H),(26,.i F),(27,.i Q),(35,.bool false)]) (C3 q pos0 C.l) ?_;obtain ⟨t,h⟩:=DG h;have p:=H0.w 36 t;exact gg (Ab 22 (Ab 15 (Ab 13 (Ab 10 (Ab 5 AC))))) [0,1,2,3] p (o _ _ h f e i a)
 ·obtain ⟨j,u,h⟩:=Gg h;obtain ⟨y2,x,h⟩:=Gg h;have p:=H0.b 28 k |>.c (fb (zMN u) (C3 q pos0 C.l)) |>.c (fb (Pw x) (C3 q pos0 C.l))
  rcases DN h with ⟨m,h⟩ | ⟨m,h⟩
  ·have p:=p.b 44 m;refine gs (Ab 22 (Ab 15 (Ab 13 (Ab 10 (Ab 5 AC))))) [0,1,2,3] p (EP (AR Tryz.f50) 10 []) (AF 94 [(2,.ref 2 0)]) (C3 q pos0 C.l) ?_;refine wO (ops:=A9 Tryz.f50 10) (by kernel_rfl) ?_;refine wY (xs:=[.agg 2 (L1 [.i 3,.i 0]),.nils]) [0,1] [3] 2 H0 (AF 94 []) (C3 q pos0 C.l) (some 47) h a ⟨Ax,AN.ints_nil,trivial⟩ (λr=>?_) λr i h a=>?_
   ·refine wS H0 (AF 94 [(5,.bool false)]) (C3 q pos0 C.l) ?_;have p:=H0;exact ee AC [5] [0,1,2,3] p
   ·refine wE H0 (AF 94 [(5,.bool true)]) (C3 q pos0 C.l) ?_;have p:=H0;cases h;exact wF (ee (Ab 22 (Ab 15 (Ab 13 (Ab 10 (Ab 5 AC))))) [5] [0,1,2,3] p)
  ·obtain ⟨y3,B,h⟩:=Gg h;have p:=p.b 44 m |>.c (fb (zW B) (C3 q pos0 C.l))
   rcases DN h with ⟨v,h⟩ | ⟨v,h⟩
   ·have p:=p.b 52 v;refine gs (Ab 22 (Ab 15 (Ab 13 (Ab 10 (Ab 5 AC))))) [0,1,2,3] p (EP (AR Tryz.f50) 13 []) (AF 94 [(2,.ref 2 0),(12,.ints y3.1)]) (C3 q pos0 C.l) ?_;refine wO (ops:=A9 Tryz.f50 13) (by kernel_rfl) ?_;refine wY (xs:=[.agg 2 (L1 [.i 4,.i 0]),.ints y3.1]) [0,1,2] [4] 3 H0 (AF 94 []) (C3 q pos0 C.l) (some 57) h a ⟨Ax,Ax,trivial⟩ (λr=>?_) λr i h a=>?_
    ·refine wS H0 (AF 94 [(5,.bool false)]) (C3 q pos0 C.l) ?_;have p:=H0;exact ee AC [5] [0,1,2,3] p
    ·refine wE H0 (AF 94 [(5,.bool true)]) (C3 q pos0 C.l) ?_;have p:=H0;cases h;exact wF (ee (Ab 22 (Ab 15 (Ab 13 (Ab 10 (Ab 5 AC))))) [5] [0,1,2,3] p)
   ·obtain ⟨d,y,h⟩:=Gg h;have p:=p.b 52 v |>.c (fb (vp y) (C3 q pos0 C.l))
    refine gs (Ab 22 (Ab 15 (Ab 13 (Ab 10 (Ab 5 AC))))) [0,1,2,3] p (EP (AR Tryz.f50) 15 []) (AF 94 [(1,.ref 0 0),(2,.ref 2 0),(3,.ref 3 0),(10,.ints j.1),(14,.i d.1)]) (C3 q pos0 C.l) ?_;refine wO (ops:=A9 Tryz.f50 15) (by kernel_rfl) ?_;refine wY (xs:=[.agg 2 (L1 [.i 2,.i d.1]),.nils]) [0,1,2] [4] 3 H0 (AF 94 [(1,.ref 0 0),(3,.ref 3 0),(10,.ints j.1),(14,.i d.1)]) (C3 q pos0 C.l) (some 66) h a ⟨Ax,AN.ints_nil,trivial⟩ (λr=>?_) λr i h a=>?_
    ·refine wS H0 (AF 94 [(1,.ref 0 0),(3,.ref 3 0),(10,.ints j.1),(14,.i d.1),(67,.bool true)]) (C3 q pos0 C.l) ?_;have p:=H0;exact ee AC [5] [0,1,2,3] p
    ·refine wE H0 (AF 94 [(1,.ref 0 0),(3,.ref 3 0),(10,.ints j.1),(14,.i d.1),(67,.bool false)]) (C3 q pos0 C.l) ?_;have p:=H0;exact gg (Ab 22 (Ab 15 (Ab 13 (Ab 10 (Ab 5 AC))))) [0,1,2,3] p (en n (o _ _ h n Nat.le.refl i a))
def xy (C:ET Tryz.prog)(ρ0:List AI)(n:Nat)(Z:Lq)(u:RB Z)(self:M8 -> Option (List Bc))(pos:Ξ)(q:AA)(pos0:Ξ)(m: ∀ A r,self A=some r -> UF C ρ0 n pos q pos0 r A)(x10:Ξ)(t z:Int)(r:List Bc)(h:Ov n Z self pos q pos0 x10 t z=some r):UF C ρ0 (n+1) pos q pos0 r (.l2 x10 t z):=by
 intro f d;intro i e;refine rd d λf d=>?_
 unfold Ov at h;have p:=H0;rcases DN h with ⟨j,h⟩ | ⟨j,h⟩
 ·obtain ⟨⟨v,x⟩,h⟩:=DG h;have p:=H0.b 71 j |>.g v |>.g x
  rcases DN h with ⟨k,h⟩ | ⟨k,h⟩
  ·obtain ⟨s,h⟩:=DG h;have p:=p.b 80 k |>.w 93 s
   exact gg (Ab 22 (Ab 15 (Ab 13 (Ab 10 (Ab 5 AC))))) [0,1,2,3] p (m _ _ h f d i e)
  ·obtain ⟨o,y,h⟩:=Gg h;have p:=p.b 80 k |>.c (fb (zJj y) (C3 q pos0 C.l))
   refine gs (Ab 22 (Ab 15 (Ab 13 (Ab 10 (Ab 5 AC))))) [0,1,2,3] p (EP (AR Tryz.f50) 22 [f]) (AF 94 [(1,.ref 0 0),(3,.ref 3 0),(10,.ints x10),(14,.i t),(17,.ints o.1),(69,.i q.symbols),(70,.i z)]) (C3 q pos0 C.l) ?_;refine wO (ops:=A9 Tryz.f50 22) (by kernel_rfl) ?_;refine wC (ds:=db o.1) (h:=C3 q pos0) (tD':=RA) [0,1] [3] 2 H0 (AF 94 [(1,.ref 0 0),(3,.ref 3 0),(10,.ints x10),(14,.i t),(69,.i q.symbols),(70,.i z)]) (C3 q pos0 C.l) (some 91) h e (λa D=>u _ _ _ a D) (λi r=>?_) λr i h e=>?_
   ·refine wS H0 (AF 94 [(1,.ref 0 0),(3,.ref 3 0),(10,.ints x10),(14,.i t),(69,.i q.symbols),(70,.i z),(92,.bool true)]) (C3 q pos0 C.l) ?_;have p:=H0;exact ee AC [5] [0,1,2,3] p
   ·refine wE H0 (AF 94 [(1,.ref 0 0),(3,.ref 3 0),(10,.ints x10),(14,.i t),(69,.i q.symbols),(70,.i z),(92,.bool false)]) (C3 q pos0 C.l) ?_;obtain ⟨s,h⟩:=DG h;have p:=H0.w 93 s;exact gg (Ab 22 (Ab 15 (Ab 13 (Ab 10 (Ab 5 AC))))) [0,1,2,3] p (m _ _ h f d i e)
 ·have p:=H0.b 71 j;cases h;exact wF (ee (Ab 22 (Ab 15 (Ab 13 (Ab 10 (Ab 5 AC))))) [5] [0,1,2,3] p)
def dc (C:ET Tryz.prog)(ρ0:List AI)(Z:Lq)(t:RB Z)(pos:Ξ)(q:AA)(pos0:Ξ): ∀ (n:Nat) (A:M8) (r:List Bc),Et Z pos q pos0 n A=some r -> UF C ρ0 n pos q pos0 r A
 | 0,_,_,h=>by cases h
 | n+1,.l1 H F Q,r,h=>xz C ρ0 n Z t (Et Z pos q pos0 n) pos q pos0 (dc C ρ0 Z t pos q pos0 n) H F Q r h
 | n+1,.l2 x10 a z,r,h=>xy C ρ0 n Z t (Et Z pos q pos0 n) pos q pos0 (dc C ρ0 Z t pos q pos0 n) x10 a z r h
def Df:Nat -> Ξ -> AA -> Ξ -> Option (List Bc)
 | 0,_,_,_=>none
 | n+1,pos,q,pos0=>Xs n (Df n) (Et (Df n) pos q pos0 n) pos q pos0
def xx {Z:Lq}(t:RB Z):RB (λpos q pos0=>Xs n Z (Et Z pos q pos0 n) pos q pos0):=λpos q pos0 r h=>YW.ofW (L:=4) (h:=C3 q pos0) (tD:=RA) Tryz.func50 (λC i ρ0 b=>by
 replace h:Xs n Z (Et Z pos q pos0 n) pos q pos0=some r:=h;have a:=(dc C ρ0 Z t pos q pos0 n);unfold Xs at h
 generalize Et Z pos q pos0 n=self at h a
 obtain ⟨y1,u,h⟩:=Gg h;have p:=H0.c (fb (zD6 u) (C3 q pos0 C.l));exact gg (Ab 22 (Ab 15 (Ab 13 (Ab 10 (Ab 5 AC))))) [0,1,2,3] p (en n (a _ _ h n Nat.le.refl i b)))
def mx: ∀ n,RB (Df n)
 | 0=>λ_ _ _ r h=>by cases h
 | n+1=>xx (mx n)
def zET:Nat -> List DV:=λl=>[.yl l,.ref 0 0,.ref 1 0]
def PW (q:AA)(pos0:Ξ):Nat -> DH:=λ_=>[some (.ro (AH q)),some (.ro [.ints pos0])]
def gY (b:Bool):DV:=RL
abbrev zEV:=AA -> Ξ -> Option (List Bc)
def zEU (f:zEV):Prop:=∀ (q:AA) (pos0:Ξ) (r:List Bc),f q pos0=some r -> YW Tryz.prog GG gY 49 (zET) (PW q pos0) (r.map TT)
def gZ (n:Nat)(q:AA)(pos0:Ξ):Option (List Bc):= wb (Df n pos0 q pos0) (some [])
def J4 (n:Nat)(q:AA)(pos0:Ξ):Option (List Bc):=gZ n q pos0
def zER :zEU (J4 n):=λq pos0 r h=>YW.ofW (L:=2) (h:=PW q pos0) (tD:=gY) Tryz.func49 (λC i ρ0 b=>by
 replace h:gZ n q pos0=some r:=h;unfold gZ at h;have p:=H0.t;refine gs (Ab 3 AC) [0,1,2,3] p (EP (AR Tryz.f49) 3 []) (AF 9 [(2,.ref 1 0),(4,.ref 3 0)]) (PW q pos0 C.l++[oC [.yl C.l],oC [.fn 50 3 (L1 [.ref 0 0,.ref 2 0,.ref 3 0])]]) ?_;refine xV [2,3] (PW q pos0 C.l++[some (.ro [.yl C.l]),some (.ro [.fn 50 3 (L1 [.ref 0 0,.ref 2 0,.ref 3 0])])]) ?_;refine wO (ops:=A9 Tryz.f49 3) (by kernel_rfl) ?_;refine wC (ds:=db pos0) (h:=C3 q pos0) (tD':=RA) [0,1] [] 2 H0 (AF 9 []) (PW q pos0 C.l++[some (.ro [.yl C.l]),some (.ro [.fn 50 3 (L1 [.ref 0 0,.ref 2 0,.ref 3 0])])]) (some 8) h b (λa D=>mx n _ _ _ a D) (λi r=>?_) λr i h b=>?_
 ·refine yA ?_;have p:=H0;exact ee AC [] [0,1] p
 ·refine w0 ?_;have p:=H0;cases h;exact wF (ee (Ab 3 AC) [] [0,1] p))
end
section
set_option maxRecDepth 100000
set_option maxHeartbeats 40000000
def zEZ (n:Nat)(q:AA)(pos:Ξ):Option Unit:= some ()
def rn (n:Nat)(q:AA)(pos:Ξ):Option Unit:=zEZ n q pos
def zEY {n:Nat}(q:AA)(pos:Ξ){r:Unit}(h:rn n q pos=some r):EQ 36 [.agg 5 (L1 (AH q)),.ints pos] [] (.fn 49 2 (L1 [.ref 0 0,.ref 1 0])) [oC (AH q),oC [.ints pos]] true:=by
 refine ot Tryz.func36 λB N=>?_
 revert r;apply gO;exact lE AC [4] [0,1]
def nq:ST:=.rd 0 (.rd 1 (.ef 2 (.ef 3 (.ef 4 (.fin [] [8,9,10]) (.no)) (.no)) (.no)))
def fB:B3 (A9 Tryz.f26 11) [2] nq:=by unfold B3;kernel_rfl
def HO:BX:=λi=>match i with
 | 11=>.tre [2] nq
 | _=>.no
def zHa (most fuel:Int)(c:Bc):DH:=[none,none,oC [.i most],oC [.i fuel],oC [.nils],oC [.nils],oC [.bool false],oC [.i c.1.1,.i c.1.2]]
def zHZ (most fuel:Int):DH:=[none,none,oC [.i most],oC [.i fuel],oC [.nils],oC [.nils],oC [.bool false]]
def nP (most fuel:Int)(c:Bc):St:=⟨(AF 42 [(8,.ref 4 0),(9,.ref 5 0),(10,.ref 6 0)]),([none,none,oC [.i most],oC [.i (fuel-1)],oC [.msl 11 1 0 (([c.2]:List Ξ).length)],oC [.msl 9 2 0 (([(c.1.1,c.1.2)]:List (Δ)).length)],oC [.bool true],oC [.i c.1.1,.i c.1.2],some (.arr 2 (([(c.1.1,c.1.2)]:List (Δ)).length) (AK BS ([(c.1.1,c.1.2)]:List (Δ)))),some (.arr 2 (([(c.1.1,c.1.2)]:List (Δ)).length) (AK BS ([(c.1.1,c.1.2)]:List (Δ)))),some (.arr 1 (([c.2]:List Ξ).length) (AK AO ([c.2]:List Ξ))),some (.arr 1 (([c.2]:List Ξ).length) (AK AO ([c.2]:List Ξ)))]:DH)⟩
def zHY (most R:Int)(n:Nat)(O:List (Δ))(c:Bc):DH:=[none,none,oC [.i most],oC [.i R],oC [.nils],oC [.msl 7 2 0 n],oC [.bool false],some (.arr 2 O.length (AK BS O)),oC [.i c.1.1,.i c.1.2]]
def zHX (most R:Int)(n:Nat)(O:List (Δ)):DH:=[none,none,oC [.i most],oC [.i R],oC [.nils],oC [.msl 7 2 0 n],oC [.bool false],some (.arr 2 O.length (AK BS O))]
def nN (most R:Int)(c:Bc)(O:List (Δ)):St:=⟨(AF 42 [(8,.ref 4 0),(9,.ref 5 0),(10,.ref 6 0)]),([none,none,oC [.i most],oC [.i (R-1)],oC [.msl 12 1 0 (([c.2]:List Ξ).length)],oC [.msl 10 2 0 (O.length+([(c.1.1,c.1.2)]:List (Δ)).length)],oC [.bool true],none,oC [.i c.1.1,.i c.1.2],some (.arr 2 (([(c.1.1,c.1.2)]:List (Δ)).length) (AK BS ([(c.1.1,c.1.2)]:List (Δ)))),some (.arr 2 ((O++([(c.1.1,c.1.2)]:List (Δ))).length) (AK BS (O++([(c.1.1,c.1.2)]:List (Δ))))),some (.arr 1 (([c.2]:List Ξ).length) (AK AO ([c.2]:List Ξ))),some (.arr 1 (([c.2]:List Ξ).length) (AK AO ([c.2]:List Ξ)))]:DH)⟩
def zHW (most S:Int)(W o:Nat)(X:Bool)(P:List Ξ)(Q:List (Δ))(c:Bc):DH:=[none,none,oC [.i most],oC [.i S],oC [.msl 7 1 0 W],oC [.msl 8 2 0 o],oC [.bool X],some (.arr 1 P.length (AK AO P)),some (.arr 2 Q.length (AK BS Q)),oC [.i c.1.1,.i c.1.2]]
def zHV (most S:Int)(W o:Nat)(X:Bool)(P:List Ξ)(Q:List (Δ)):DH:=[none,none,oC [.i most],oC [.i S],oC [.msl 7 1 0 W],oC [.msl 8 2 0 o],oC [.bool X],some (.arr 1 P.length (AK AO P)),some (.arr 2 Q.length (AK BS Q))]
def nM (most S:Int)(P:List Ξ)(c:Bc)(Q:List (Δ)):St:=⟨(AF 42 [(8,.ref 4 0),(9,.ref 5 0),(10,.ref 6 0)]),([none,none,oC [.i most],oC [.i (S-1)],oC [.msl 13 1 0 (P.length+([c.2]:List Ξ).length)],oC [.msl 11 2 0 (Q.length+([(c.1.1,c.1.2)]:List (Δ)).length)],oC [.bool true],none,none,oC [.i c.1.1,.i c.1.2],some (.arr 2 (([(c.1.1,c.1.2)]:List (Δ)).length) (AK BS ([(c.1.1,c.1.2)]:List (Δ)))),some (.arr 2 ((Q++([(c.1.1,c.1.2)]:List (Δ))).length) (AK BS (Q++([(c.1.1,c.1.2)]:List (Δ))))),some (.arr 1 (([c.2]:List Ξ).length) (AK AO ([c.2]:List Ξ))),some (.arr 1 ((P++([c.2]:List Ξ)).length) (AK AO (P++([c.2]:List Ξ))))]:DH)⟩
inductive HP where
 | s0
 | s1 (E0:Int) (Ht:Nat) (DD:List (Δ))
 | s2 (Ez:Int) (Ha Hs:Nat) (HZ:Bool) (DC:List Ξ) (DB:List (Δ))
def U3 (most fuel:Int):HP -> DH
 | .s0=>[none,none,oC [.i most],oC [.i fuel],oC [.nils],oC [.nils],oC [.bool false]]
 | .s1 R n O=>[none,none,oC [.i most],oC [.i R],oC [.nils],oC [.msl 7 2 0 n],oC [.bool false],some (.arr 2 O.length (AK BS O))]
 | .s2 S W o X P Q=>[none,none,oC [.i most],oC [.i S],oC [.msl 7 1 0 W],oC [.msl 8 2 0 o],oC [.bool X],some (.arr 1 P.length (AK AO P)),some (.arr 2 Q.length (AK BS Q))]
def fO (n:Nat)(most fuel:Int)(c:Bc):Option (HP×Nat):= bif (fuel==0) then some (.s0,2) else if AG (fuel-1) then bif (c.1.1 != 4) then some (.s1 (fuel-1) (([(c.1.1,c.1.2)]:List (Δ)).length) ([(c.1.1,c.1.2)]:List (Δ)),0) else bif (((([c.2]:List Ξ).length:Nat):Int)==most) then some (.s2 (fuel-1) (([c.2]:List Ξ).length) (([(c.1.1,c.1.2)]:List (Δ)).length) true ([c.2]:List Ξ) ([(c.1.1,c.1.2)]:List (Δ)),1) else some (.s2 (fuel-1) (([c.2]:List Ξ).length) (([(c.1.1,c.1.2)]:List (Δ)).length) false ([c.2]:List Ξ) ([(c.1.1,c.1.2)]:List (Δ)),0) else none
def fN (n:Nat)(most fuel:Int)(c:Bc)(R:Int)(a:Nat)(O:List (Δ)):Option (HP×Nat):= bif (R==0) then some (.s1 R a O,2) else if AG (R-1)/\ a=O.length/\ O.length+([(c.1.1,c.1.2)]:List (Δ)).length<=Ay then bif (c.1.1 != 4) then some (.s1 (R-1) (O.length+([(c.1.1,c.1.2)]:List (Δ)).length) (O++([(c.1.1,c.1.2)]:List (Δ))),0) else bif (((([c.2]:List Ξ).length:Nat):Int)==most) then some (.s2 (R-1) (([c.2]:List Ξ).length) (O.length+([(c.1.1,c.1.2)]:List (Δ)).length) true ([c.2]:List Ξ) (O++([(c.1.1,c.1.2)]:List (Δ))),1) else some (.s2 (R-1) (([c.2]:List Ξ).length) (O.length+([(c.1.1,c.1.2)]:List (Δ)).length) false ([c.2]:List Ξ) (O++([(c.1.1,c.1.2)]:List (Δ))),0) else none
def fM (n:Nat)(most fuel:Int)(c:Bc)(S:Int)(W o:Nat)(X:Bool)(P:List Ξ)(Q:List (Δ)):Option (HP×Nat):= bif (S==0) then some (.s2 S W o X P Q,2) else if AG (S-1)/\ o=Q.length/\ Q.length+([(c.1.1,c.1.2)]:List (Δ)).length<=Ay then bif (c.1.1 != 4) then some (.s2 (S-1) W (Q.length+([(c.1.1,c.1.2)]:List (Δ)).length) X P (Q++([(c.1.1,c.1.2)]:List (Δ))),0) else if W=P.length/\ P.length+([c.2]:List Ξ).length<=Ay then bif ((((P.length+([c.2]:List Ξ).length):Nat):Int)==most) then some (.s2 (S-1) (P.length+([c.2]:List Ξ).length) (Q.length+([(c.1.1,c.1.2)]:List (Δ)).length) true (P++([c.2]:List Ξ)) (Q++([(c.1.1,c.1.2)]:List (Δ))),1) else some (.s2 (S-1) (P.length+([c.2]:List Ξ).length) (Q.length+([(c.1.1,c.1.2)]:List (Δ)).length) X (P++([c.2]:List Ξ)) (Q++([(c.1.1,c.1.2)]:List (Δ))),0) else none else none
def zB9 (n:Nat)(most fuel:Int)(c:Bc):HP -> Option (HP×Nat)
 | .s0=>fO n most fuel c
 | .s1 R a O=>fN n most fuel c R a O
 | .s2 S W o X P Q=>fM n most fuel c S W o X P Q
def I2 (n:Nat)(most fuel:Int)(c:Bc)(s:HP):Option (HP×Nat):=zB9 n most fuel c s
def zB8 (n:Nat)(most fuel:Int)(l B:Nat)(N:Yd 7)(a:Bc)(s:HP)(r:HP×Nat)(h:I2 n most fuel a s=some r):TA l B N (C0 7 [.ret,.panic (pan HA)] r.2 (U3 most fuel r.1)) Tryz.f26 15 ⟨AF 42 [(6,.ref 2 0),(7,.ref 3 0),(8,.ref 4 0),(9,.ref 5 0),(10,.ref 6 0),(15,.fn 49 2 (L1 [.ref 0 0,.ref 1 0])),(16,.agg 2 (L1 [.i a.1.1,.i a.1.2])),(17,.ints a.2)],U3 most fuel s⟩:=by
 cases s with
 | s0=>
  refine ag HO [0,1,2,3,4,5,6,7] (H0.t) (AF 42 [(6,.ref 2 0),(7,.ref 3 0),(8,.ref 4 0),(9,.ref 5 0),(10,.ref 6 0),(11,.ref 7 0),(12,.ints a.2)]) (zHa most fuel a) λN=>?_
  revert r;apply gO
  exact bi 19 (λp r h=>by
   cases h;refine gs (Ab 5 HO) [0,1,2,3,4,5,6] p (EP (PI Tryz.f26 15) 5 []) (AF 42 []) (zHZ most fuel) ?_;exact pX (o0:=_) (o1:=_) rfl) (gw 22 (jt (ja 25 8 2 (Ej (c:=BS) (L:=([(a.1.1,a.1.2)]:List (Δ))) (vals:=[.agg 2 (L1 [.i a.1.1,.i a.1.2])]) rfl ⟨⟨_,rfl,⟨Ax,Ax,trivial⟩⟩,trivial⟩) (jg (And.intro (And.intro (And.intro (Eq.refl 0) (Eq.refl 1)) (IS BS ([(a.1.1,a.1.2)]:List (Δ)) (([(a.1.1,a.1.2)]:List (Δ)).length) 2 λ_=>⟨rfl,rfl⟩)) (And.intro (by decide:0<1) (by decide:1<=Ay))) (jt (bi 29 (lF λp=>rr HO [0,1,2,3,4,5,6,9] rfl p) (ja 32 10 1 (Ej (c:=AO) (L:=([a.2]:List Ξ)) (vals:=[.ints a.2]) rfl ⟨⟨_,rfl,⟨Ax,trivial⟩⟩,trivial⟩) (jg (And.intro (And.intro (And.intro (Eq.refl 0) (Eq.refl 1)) (IS AO ([a.2]:List Ξ) (([a.2]:List Ξ).length) 1 λ_=>⟨rfl,rfl⟩)) (And.intro (by decide:0<1) (by decide:1<=Ay))) (jt (bi 37 (jg fB (jt (jt (jt (jg (Eq.refl (nP most fuel a)) (lF λp=>rr (tg:=[([(2,4)],(nP most fuel a))]) HO [0,1,2,3,4,5,6,11,9] rfl p)))))) (lF λp=>rr HO [0,1,2,3,4,5,6,11,9] rfl p)))))))))))
 | s1 R e O=>
  refine ag HO [0,1,2,3,4,5,6,7,8] (H0.t) (AF 42 [(6,.ref 2 0),(7,.ref 3 0),(8,.ref 4 0),(9,.ref 5 0),(10,.ref 6 0),(11,.ref 8 0),(12,.ints a.2)]) (zHY most R e O a) λN=>?_
  revert r;apply gO
  exact bi 19 (λp r h=>by
   cases h;refine gs (Ab 5 HO) [0,1,2,3,4,5,6,7] p (EP (PI Tryz.f26 15) 5 []) (AF 42 []) (zHX most R e O) ?_;exact pX (o0:=_) (o1:=_) rfl) (gc (gw 22 (jt (ja 25 9 2 (Ej (c:=BS) (L:=([(a.1.1,a.1.2)]:List (Δ))) (vals:=[.agg 2 (L1 [.i a.1.1,.i a.1.2])]) rfl ⟨⟨_,rfl,⟨Ax,Ax,trivial⟩⟩,trivial⟩) (gc (gn λb=>gn λm=>jg (And.intro (And.intro (And.intro (Eq.refl 0) (Eq.refl 1)) (IS BS ([(a.1.1,a.1.2)]:List (Δ)) (([(a.1.1,a.1.2)]:List (Δ)).length) 2 λ_=>⟨rfl,rfl⟩)) (And.intro (And.intro (Eq.refl 0) b) m)) (ja 26 10 2 (Rq (enc:=(TU BS)) (L:=O) (L':=([(a.1.1,a.1.2)]:List (Δ))) rfl rfl λ_ _ _ _=>Ax) (jt (bi 29 (lF λp=>rr HO [0,1,2,3,4,5,6,10] rfl p) (ja 32 11 1 (Ej (c:=AO) (L:=([a.2]:List Ξ)) (vals:=[.ints a.2]) rfl ⟨⟨_,rfl,⟨Ax,trivial⟩⟩,trivial⟩) (jg (And.intro (And.intro (And.intro (Eq.refl 0) (Eq.refl 1)) (IS AO ([a.2]:List Ξ) (([a.2]:List Ξ).length) 1 λ_=>⟨rfl,rfl⟩)) (And.intro (by decide:0<1) (by decide:1<=Ay))) (jt (bi 37 (jg fB (jt (jt (jt (jg (Eq.refl (nN most R a O)) (lF λp=>rr (tg:=[([(2,4)],(nN most R a O))]) HO [0,1,2,3,4,5,6,12,10] rfl p)))))) (lF λp=>rr HO [0,1,2,3,4,5,6,12,10] rfl p))))))))))))))
 | s2 S W f X P Q=>
  refine ag HO [0,1,2,3,4,5,6,7,8,9] (H0.t) (AF 42 [(6,.ref 2 0),(7,.ref 3 0),(8,.ref 4 0),(9,.ref 5 0),(10,.ref 6 0),(11,.ref 9 0),(12,.ints a.2)]) (zHW most S W f X P Q a) λN=>?_
  revert r;apply gO
  exact bi 19 (λp r h=>by
   cases h;refine gs (Ab 5 HO) [0,1,2,3,4,5,6,7,8] p (EP (PI Tryz.f26 15) 5 []) (AF 42 []) (zHV most S W f X P Q) ?_;exact pX (o0:=_) (o1:=_) rfl) (gc (gw 22 (jt (ja 25 10 2 (Ej (c:=BS) (L:=([(a.1.1,a.1.2)]:List (Δ))) (vals:=[.agg 2 (L1 [.i a.1.1,.i a.1.2])]) rfl ⟨⟨_,rfl,⟨Ax,Ax,trivial⟩⟩,trivial⟩) (gc (gn λb=>gn λm=>jg (And.intro (And.intro (And.intro (Eq.refl 0) (Eq.refl 1)) (IS BS ([(a.1.1,a.1.2)]:List (Δ)) (([(a.1.1,a.1.2)]:List (Δ)).length) 2 λ_=>⟨rfl,rfl⟩)) (And.intro (And.intro (Eq.refl 0) b) m)) (ja 26 11 2 (Rq (enc:=(TU BS)) (L:=Q) (L':=([(a.1.1,a.1.2)]:List (Δ))) rfl rfl λ_ _ _ _=>Ax) (jt (bi 29 (lF λp=>rr HO [0,1,2,3,4,5,6,7,11] rfl p) (ja 32 12 1 (Ej (c:=AO) (L:=([a.2]:List Ξ)) (vals:=[.ints a.2]) rfl ⟨⟨_,rfl,⟨Ax,trivial⟩⟩,trivial⟩) (gc (gn λd=>gn λo=>jg (And.intro (And.intro (And.intro (Eq.refl 0) (Eq.refl 1)) (IS AO ([a.2]:List Ξ) (([a.2]:List Ξ).length) 1 λ_=>⟨rfl,rfl⟩)) (And.intro (And.intro (Eq.refl 0) d) o)) (ja 33 13 1 (Rq (enc:=(TU AO)) (L:=P) (L':=([a.2]:List Ξ)) rfl rfl λ_ _ _ _=>Ax) (jt (bi 37 (jg fB (jt (jt (jt (jg (Eq.refl (nM most S P a Q)) (lF λp=>rr (tg:=[([(2,4)],(nM most S P a Q))]) HO [0,1,2,3,4,5,6,13,11] rfl p)))))) (lF λp=>rr HO [0,1,2,3,4,5,6,13,11] rfl p))))))))))))))))
end
section
set_option maxRecDepth 100000
set_option maxHeartbeats 40000000
def fL:HP -> Option (List Ξ×List (Δ)×Bool)
 | .s0=>some ([],[],false)
 | .s1 _ n t=>if n=t.length then some ([],t,false) else none
 | .s2 _ k n b l t=>if k=l.length/\ n=t.length then some (l,t,b) else none
def PD (r:HP×Nat):Option (Option (List Ξ×List (Δ)×Bool)):=if r.2=2 then some none else (fL r.1).map λx=>some (x.1,x.2.1,r.2==1&&x.2.2)
def Ku (n:Nat)(q:AA)(pos:Ξ)(most fuel:Int):Option (Option (List Ξ×List (Δ)×Bool)):=(J4 n q pos).bind λl=>(Ch (I2 n most fuel) l .s0).bind PD
def pj (N:Ψ)(ρ:List AI)(w:World):Option (List Ξ×List (Δ)×Bool) -> Ending -> World -> Prop
 | some r,e,w'=>∃ v,e= .returned v/\ CC Tryz.prog GG N [] ρ w true (.tup 3 (L1 [.sl 1 r.1.length (AK AO r.1),.sl 2 r.2.1.length (AK BS r.2.1),.bool r.2.2])) [] v w'
 | none,e,w'=>e= .panicked (pan HA)/\ A0 w w'
variable {w:World}{ρ:List AI}{N:Ψ}
def zG {h:DH}{ρ':List AI}{w':World}(h0:Aq Tryz.prog GG N [] ρ w)(st:A3 [] ρ w h ρ' w'):A0 w w':=by
 have low: ∀ b,MO [] ρ b -> False:=λb ⟨k,_,_,q,_⟩=>by simp at q
 have a:AQ (λ_=>False) w w':=st.upd.mono λb _ c=>low b c
 exact a.toExt λ_ _ h=>h
variable {D:Nat}
def Zw (c:w.heap[D]? =some (.deferred (some []))):Ed D [{ target:=.collected D,args:=#[] }] w:=⟨D,rfl,zGd _,c,λ_ h=>(by cases h),trivial⟩
variable {a0:Act}{w0:World}{ρs ρ0:List AI}{most:Int}
def pn (f:Int)(b:Bool){n:World}(y:Aq Tryz.prog GG N [] ρs n)(K:A3 [] ρs n [none,none,oC [.i most],oC [.i f],oC [.nils],oC [.nils],oC [.bool b]] ρ0 w0)(r:AS Tryz.prog GG N ⟨AF 42 [(8,.ref 4 0),(9,.ref 5 0),(10,.ref 6 0)],[none,none,oC [.i most],oC [.i f],oC [.nils],oC [.nils],oC [.bool b]]⟩ ρ0 a0 w0)(c:w0.heap[D]? =some (.deferred (some [])))(d:GG.ng<=D)(p:n.heap.size<=D):
 LeavesInM Fence.wide 0 Tryz.prog Tryz.f26 a0.tmps (λe w'=>∃ v,e= .returned v/\ CC Tryz.prog GG N [] ρs n true (.tup 3 (L1 [.sl 1 (([]:List Ξ).length) (AK AO ([]:List Ξ)),.sl 2 (([]:List (Δ)).length) (AK BS ([]:List (Δ))),.bool b])) [] v w') [{ target:=.collected D,args:=#[] }] .returning w0:=by
 refine aJ (B:=D) _ _ (Zw c) λW k=>?_
 have T:=r.shut (PY (by kernel_rfl)) d k;obtain ⟨v,a,g⟩:=Wr (fn:=Tryz.f26) T y (K.shut (k.mono λ_ _ h=>⟨zGU p h.1,h.2⟩)) [] H0 [.nils,.nils,.bool b] (AN.tupL (l:=[.nils,.nils,.bool b]) (l':=[.sl 1 (([]:List Ξ).length) (AK AO ([]:List Ξ)),.sl 2 (([]:List (Δ)).length) (AK BS ([]:List (Δ))),.bool b]) rfl ⟨(AN.sl_nil _ _),(AN.sl_nil _ _),Ax,trivial⟩) (by kernel_rfl) (by kernel_rfl);exact ⟨v,a,v,rfl,g⟩
def pm (t:List (Δ))(f:Int)(b:Bool){n:World}(y:Aq Tryz.prog GG N [] ρs n)(K:A3 [] ρs n [none,none,oC [.i most],oC [.i f],oC [.nils],oC [.msl 7 2 0 t.length],oC [.bool b],some (.arr 2 t.length (AK BS t))] ρ0 w0)(r:AS Tryz.prog GG N ⟨AF 42 [(8,.ref 4 0),(9,.ref 5 0),(10,.ref 6 0)],[none,none,oC [.i most],oC [.i f],oC [.nils],oC [.msl 7 2 0 t.length],oC [.bool b],some (.arr 2 t.length (AK BS t))]⟩ ρ0 a0 w0)(c:w0.heap[D]? =some (.deferred (some [])))(d:GG.ng<=D)(p:n.heap.size<=D):
 LeavesInM Fence.wide 0 Tryz.prog Tryz.f26 a0.tmps (λe w'=>∃ v,e= .returned v/\ CC Tryz.prog GG N [] ρs n true (.tup 3 (L1 [.sl 1 (([]:List Ξ).length) (AK AO ([]:List Ξ)),.sl 2 t.length (AK BS t),.bool b])) [] v w') [{ target:=.collected D,args:=#[] }] .returning w0:=by
 refine aJ (B:=D) _ _ (Zw c) λW k=>?_
 have T:=r.shut (PY (by kernel_rfl)) d k;obtain ⟨v,a,j⟩:=Wr (fn:=Tryz.f26) T y (K.shut (k.mono λ_ _ h=>⟨zGU p h.1,h.2⟩)) [7] (H0.g (Eq.refl t.length)) [.nils,.sl 2 t.length (AK BS t),.bool b] (AN.tupL (l:=[.nils,.sl 2 t.length (AK BS t),.bool b]) (l':=[.sl 1 (([]:List Ξ).length) (AK AO ([]:List Ξ)),.sl 2 t.length (AK BS t),.bool b]) rfl ⟨(AN.sl_nil _ _),Ax,Ax,trivial⟩) (by kernel_rfl) (by kernel_rfl);exact ⟨v,a,v,rfl,j⟩
def pk (l:List Ξ)(t:List (Δ))(f:Int)(b:Bool){n:World}(y:Aq Tryz.prog GG N [] ρs n)(K:A3 [] ρs n [none,none,oC [.i most],oC [.i f],oC [.msl 7 1 0 l.length],oC [.msl 8 2 0 t.length],oC [.bool b],some (.arr 1 l.length (AK AO l)),some (.arr 2 t.length (AK BS t))] ρ0 w0)(r:AS Tryz.prog GG N ⟨AF 42 [(8,.ref 4 0),(9,.ref 5 0),(10,.ref 6 0)],[none,none,oC [.i most],oC [.i f],oC [.msl 7 1 0 l.length],oC [.msl 8 2 0 t.length],oC [.bool b],some (.arr 1 l.length (AK AO l)),some (.arr 2 t.length (AK BS t))]⟩ ρ0 a0 w0)(c:w0.heap[D]? =some (.deferred (some [])))(d:GG.ng<=D)(p:n.heap.size<=D):
 LeavesInM Fence.wide 0 Tryz.prog Tryz.f26 a0.tmps (λe w'=>∃ v,e= .returned v/\ CC Tryz.prog GG N [] ρs n true (.tup 3 (L1 [.sl 1 l.length (AK AO l),.sl 2 t.length (AK BS t),.bool b])) [] v w') [{ target:=.collected D,args:=#[] }] .returning w0:=by
 refine aJ (B:=D) _ _ (Zw c) λW k=>?_
 have T:=r.shut (PY (by kernel_rfl)) d k;obtain ⟨v,a,j⟩:=Wr (fn:=Tryz.f26) T y (K.shut (k.mono λ_ _ h=>⟨zGU p h.1,h.2⟩)) [7,8] (H0.g (Eq.refl l.length) |>.g (Eq.refl t.length)) [.sl 1 l.length (AK AO l),.sl 2 t.length (AK BS t),.bool b] (AN.tupL (l:=[.sl 1 l.length (AK AO l),.sl 2 t.length (AK BS t),.bool b]) (l':=[.sl 1 l.length (AK AO l),.sl 2 t.length (AK BS t),.bool b]) rfl ⟨Ax,Ax,Ax,trivial⟩) (by kernel_rfl) (by kernel_rfl);exact ⟨v,a,v,rfl,j⟩
def nn:ST:=.rd 0 (.rd 1 (.ef 2 (.ef 3 (.ef 4 (.fin [] [8,9,10]) (.no)) (.no)) (.no)))
def zAq:B3 (A9 Tryz.f26 12) [2] nn:=by unfold B3;kernel_rfl
def nL (most fuel:Int):St:=⟨(AF 42 [(8,.ref 4 0),(9,.ref 5 0),(10,.ref 6 0)]),([none,none,oC [.i most],oC [.i fuel],oC [.nils],oC [.nils],oC [.bool false]]:DH)⟩
def nm:ST:=.rd 0 (.rd 1 (.ef 2 (.ef 3 (.ef 4 (.fin [] [8,9,10]) (.no)) (.no)) (.no)))
def zAp:B3 (A9 Tryz.f26 12) [2] nm:=by unfold B3;kernel_rfl
def nK (most f:Int)(t:List (Δ)):St:=⟨(AF 42 [(8,.ref 4 0),(9,.ref 5 0),(10,.ref 6 0)]),([none,none,oC [.i most],oC [.i f],oC [.nils],oC [.msl 7 2 0 t.length],oC [.bool false],some (.arr 2 t.length (AK BS t))]:DH)⟩
def nl:ST:=.rd 0 (.rd 1 (.ef 2 (.ef 3 (.ef 4 (.fin [] [8,9,10]) (.no)) (.no)) (.no)))
def zAo:B3 (A9 Tryz.f26 12) [2] nl:=by unfold B3;kernel_rfl
def nJ (most f:Int)(l:List Ξ)(t:List (Δ)):St:=⟨(AF 42 [(8,.ref 4 0),(9,.ref 5 0),(10,.ref 6 0)]),([none,none,oC [.i most],oC [.i f],oC [.msl 7 1 0 l.length],oC [.msl 8 2 0 t.length],oC [.bool false],some (.arr 1 l.length (AK AO l)),some (.arr 2 t.length (AK BS t))]:DH)⟩
def zHU (q:AA)(most fuel:Int):DH:=[oC (AH q),oC [.i most],oC [.i fuel],oC [.nils],oC [.nils],oC [.bool false]]
variable {fuel:Int}{pos:Ξ}{q:AA}{n:Nat}
def zBy {l:List Bc}{rE:HP×Nat}{j:Option (List Ξ×List (Δ)×Bool)}(hy:J4 n q pos=some l)(hf:Ch (I2 n most fuel) l .s0=some rE)(d:PD rE=some j) 
     (p:AS Tryz.prog GG N ⟨AF 42 [(0,.agg 5 (L1 (AH q))),(1,.ints pos),(2,.i most),(3,.i fuel)],[]⟩ ρ0 a0 w0) (Fd:a0.defers= []):
 In Fence.wide 0 Tryz.prog 26 (AR Tryz.f26) (bodyPostM Fence.wide 0 Tryz.prog Tryz.f26 (pj N ρ0 w0 j)) a0 w0:=by
 refine Q9 (M7 ?_);refine wr (L:=0) HC.x [1,4,6,7,8,9,10] [0,1,2,3,4,5] [] H0 H0 (AF 42 [(1,.ints pos),(4,.ref 0 0),(6,.ref 1 0),(7,.ref 2 0),(8,.ref 3 0),(9,.ref 4 0),(10,.ref 5 0)]) ([oC (AH q),oC [.i most],oC [.i fuel],oC [.nils],oC [.nils],oC [.bool false]]:DH) p (by kernel_rfl) (by kernel_rfl) λρ1 a1 w1 R1 U GJ Db=>?_
 refine Q9 (Q9 (M7 ?_));refine wr (L:=0) HC.x [6,7,8,9,10,15] [6,7,1,2,3,4,5] [] ((H0.c (em (zEY q pos (rfl:rn n q pos=some ())) [] (zHU q most fuel)))) H0 (AF 42 [(6,.ref 2 0),(7,.ref 3 0),(8,.ref 4 0),(9,.ref 5 0),(10,.ref 6 0),(15,.fn 49 2 (L1 [.ref 0 0,.ref 1 0]))]) ([oC (AH q),oC [.ints pos],oC [.i most],oC [.i fuel],oC [.nils],oC [.nils],oC [.bool false]]:DH) R1 (by kernel_rfl) (by kernel_rfl) λρ2 m w2 R2 V JQ MM=>?_
 obtain ⟨ρ3,X,Y,SU⟩:=A7.ros (L:=0) (fr:=AF 42 [(6,.ref 2 0),(7,.ref 3 0),(8,.ref 4 0),(9,.ref 5 0),(10,.ref 6 0),(15,.fn 49 2 (L1 [.ref 0 0,.ref 1 0]))]) (h:=[oC (AH q),oC [.ints pos],oC [.i most],oC [.i fuel],oC [.nils],oC [.nils],oC [.bool false]]) (h':=PW q pos 0++[oC [.i most],oC [.i fuel],oC [.nils],oC [.nils],oC [.bool false]]) [0,1] (by kernel_rfl) (by kernel_rfl) Tryz.prog GG N _ _ _ R2;refine xj ?_;have HY:YW Tryz.prog GG gY 49 (λl=>.yl l::(List.range 2).map (L1 [.ref 0 0,.ref 1 0])) (λ_=>PW q pos 0) (l.map TT):=zER q pos l hy;refine zDF (KK:=7) (T:=[oC [.i most],oC [.i fuel],oC [.nils],oC [.nils],oC [.bool false]]) ⟨_,Tryz.func26⟩ X (by kernel_rfl) HY (by kernel_rfl) (by kernel_rfl) (λx k=>by obtain ⟨z,_,rfl⟩:=zIS.1 k;rfl) (by kernel_rfl) ⟨.s0,by rw [zJb];exact hf,rfl⟩ (zCO [.ret] rfl (pan HA) TT l (I2 n most fuel) (U3 most fuel) (λJ=>AF 42 [(6,.ref 2 0),(7,.ref 3 0),(8,.ref 4 0),(9,.ref 5 0),(10,.ref 6 0),(15,.fn 49 2 (L1 [.ref 0 0,.ref 1 0])),(16,.agg 2 (L1 [.i J.1.1,.i J.1.2])),(17,.ints J.2)]) (λl B N x s r h=>zB8 n most fuel l B N x s r h) (λs=>by cases s <;> kernel_rfl) (by kernel_rfl)) λD e h8 ρ8 R hl M NC aN u Z=>?_
 have S:=((U.trans V).trans Y).trans NC;have y:GG.ng<=D:=zGU (GG.lo _ X.hr.gi) Z;have v:w0.heap.size<=D:=zGU (((U.trans V).trans Y).upd.size) Z;have K:m.defers= []:=by rw [JQ,GJ,Fd]
 have O: ∀ {a:Act},a.defers= { target:=.collected D,args:=#[] }::m.defers -> a.defers= [{ target:=.collected D,args:=#[] }]:=λh=>by rw [h,K]
 rcases hl with ⟨rfl,s,I,rfl⟩ | ⟨k,P,rfl⟩ | ⟨c,rfl,rfl,h2,rfl⟩
 ·rw [zGh,zNI] at I;have e:(s,0)=rE:=zGT I;subst e;have o:AS Tryz.prog GG N ⟨AF 42 [(6,.ref 2 0),(7,.ref 3 0),(8,.ref 4 0),(9,.ref 5 0),(10,.ref 6 0),(15,.fn 49 2 (L1 [.ref 0 0,.ref 1 0]))],U3 most fuel s⟩ ρ8 { m with defers:={ target:=.collected D,args:=#[] }::m.defers } R:=⟨M.hr,M.fr⟩;cases s with
  | s0=>
   cases d;refine Q9 (M7 ?_);refine dW (L:=0) HC.x [2] nn zAq [([(2,4)],(nL most fuel))] [8,9,10] [0,1,2,3,4,5,6] [] ((H0.t |>.t |>.t |>.g (Eq.refl (nL most fuel)))) H0 (AF 42 [(8,.ref 4 0),(9,.ref 5 0),(10,.ref 6 0)]) ([none,none,oC [.i most],oC [.i fuel],oC [.nils],oC [.nils],oC [.bool false]]:DH) o (by kernel_rfl) λρ10 A C E H F sW=>?_
   refine M7 (zNe ?_)
   show LeavesInM _ _ _ _ _ _ A.defers .returning C
   rw [O F];exact pn fuel false p.hr (S.trans H) E (kz o.hr H u) y v
  | s1 f w t=>
   have d:(if w=t.length then some ([],t,false) else none:Option (List Ξ×List (Δ)×Bool)).map (λx=>some (x.1,x.2.1,false))=some j:=d;obtain ⟨x,k,rfl⟩:=zIY.1 d;obtain ⟨rfl,G⟩:=DG k;cases G;refine Q9 (M7 ?_);refine dW (L:=0) HC.x [2] nm zAp [([(2,4)],(nK most f t))] [8,9,10] [0,1,2,3,4,5,6,7] [] ((H0.t |>.t |>.t |>.g (Eq.refl (nK most f t)))) H0 (AF 42 [(8,.ref 4 0),(9,.ref 5 0),(10,.ref 6 0)]) ([none,none,oC [.i most],oC [.i f],oC [.nils],oC [.msl 7 2 0 t.length],oC [.bool false],some (.arr 2 t.length (AK BS t))]:DH) o (by kernel_rfl) λρ10 A C E H F sW=>?_
   refine M7 (zNe ?_)
   show LeavesInM _ _ _ _ _ _ A.defers .returning C
   rw [O F];exact pm t f false p.hr (S.trans H) E (kz o.hr H u) y v
  | s2 f Q w b l t=>
   have d:(if Q=l.length/\ w=t.length then some (l,t,b) else none:Option (List Ξ×List (Δ)×Bool)).map (λx=>some (x.1,x.2.1,false))=some j:=d;obtain ⟨x,k,rfl⟩:=zIY.1 d;obtain ⟨⟨rfl,rfl⟩,G⟩:=DG k;cases G;refine Q9 (M7 ?_);refine dW (L:=0) HC.x [2] nl zAo [([(2,4)],(nJ most f l t))] [8,9,10] [0,1,2,3,4,5,6,7,8] [] ((H0.t |>.t |>.t |>.g (Eq.refl (nJ most f l t)))) H0 (AF 42 [(8,.ref 4 0),(9,.ref 5 0),(10,.ref 6 0)]) ([none,none,oC [.i most],oC [.i f],oC [.msl 7 1 0 l.length],oC [.msl 8 2 0 t.length],oC [.bool false],some (.arr 1 l.length (AK AO l)),some (.arr 2 t.length (AK BS t))]:DH) o (by kernel_rfl) λρ10 A C E H F sW=>?_
   refine M7 (zNe ?_)
   show LeavesInM _ _ _ _ _ _ A.defers .returning C
   rw [O F];exact pk l t f false p.hr (S.trans H) E (kz o.hr H u) y v
 ·obtain ⟨s,c⟩:=rE
  have hc:c=1/\ e= .ret:=by
   rcases c with _ | _ | c
   ·cases P;cases k
   ·cases P;exact ⟨rfl,rfl⟩
   ·exact absurd P (by simp)
  obtain ⟨rfl,rfl⟩:=hc;have o:AS Tryz.prog GG N ⟨AF 42 [(8,.ref 4 0),(9,.ref 5 0),(10,.ref 6 0)],U3 most fuel s⟩ ρ8 m R:=M.forg [8,9,10] rfl (by kernel_rfl)
  show LeavesInM _ _ _ _ _ _ ({ target:=.collected D,args:=#[] }::m.defers) .returning R
  rw [K];cases s with
  | s0=>
   cases d;exact pn (a0:=m) fuel false p.hr S o u y v
  | s1 f w t=>
   have d:(if w=t.length then some ([],t,false) else none:Option (List Ξ×List (Δ)×Bool)).map (λx=>some (x.1,x.2.1,x.2.2))=some j:=d;obtain ⟨x,k,rfl⟩:=zIY.1 d;obtain ⟨rfl,G⟩:=DG k;cases G;exact pm (a0:=m) t f false p.hr S o u y v
  | s2 f Q w b l t=>
   have d:(if Q=l.length/\ w=t.length then some (l,t,b) else none:Option (List Ξ×List (Δ)×Bool)).map (λx=>some (x.1,x.2.1,x.2.2))=some j:=d;obtain ⟨x,k,rfl⟩:=zIY.1 d;obtain ⟨⟨rfl,rfl⟩,G⟩:=DG k;cases G;exact pk (a0:=m) l t f b p.hr S o u y v
 ·have d:(some none:Option (Option (List Ξ×List (Δ)×Bool)))=some j:=by
   rw [←d];unfold PD;exact (zEd (show rE.2=2 from h2)).symm
  cases d
  show LeavesInM _ _ _ _ _ _ ({ target:=.collected D,args:=#[] }::m.defers) (.panicking (pan HA)) R
  rw [K];exact aK (B:=D) (by simp) _ _ (Zw u) λW I=>⟨rfl,zG p.hr (S.shut (I.mono λ_ _ h=>⟨zGU v h.1,h.2⟩))⟩
def pZ {b:Option (List Ξ×List (Δ)×Bool)}(h:Ku n q pos most fuel=some b){args:Array Value}(HR:Aq Tryz.prog GG N [] ρ w)(a:BE (MS N [] ρ) w ρ [.agg 5 (L1 (AH q)),.ints pos,.i most,.i fuel] args):CallsIn Fence.wide 0 Tryz.prog 26 args w (pj N ρ w b):=by
 obtain ⟨l,hy,h⟩:=Gg h;obtain ⟨rE,M,x⟩:=Gg h;refine zLZ (c:=AR Tryz.f26) Tryz.func26 (by kernel_rfl) trivial ?_;refine zBy hy M x (N:=N) (ρ0:=ρ) ⟨HR,?_⟩ rfl;have d:([.agg 5 (L1 (AH q)),.ints pos,.i most,.i fuel]:List DV).length=args.size:=a.1;have e:([.agg 5 (L1 (AH q)),.ints pos,.i most,.i fuel]:List DV)++List.replicate (Tryz.f26.ntmps-([.agg 5 (L1 (AH q)),.ints pos,.i most,.i fuel]:List DV).length) .any=AF 42 [(0,.agg 5 (L1 (AH q))),(1,.ints pos),(2,.i most),(3,.i fuel)]:=by kernel_rfl
 rw [←e,d];exact BE.append a (BE.anys _ _ _ _)
def pY {r:List Ξ×List (Δ)×Bool}(h:Ku n q pos most fuel=some (some r)):EQ 26 [.agg 5 (L1 (AH q)),.ints pos,.i most,.i fuel] [] (.tup 3 (L1 [.sl 1 r.1.length (AK AO r.1),.sl 2 r.2.1.length (AK BS r.2.1),.bool r.2.2])) [] true:=by
 have p:(Tryz.f26.name== "runtime.NumGoroutine")=false:=by kernel_rfl
 exact ⟨⟨Tryz.f26,Tryz.func26,by simpa using p,by kernel_rfl⟩,λN ρ w args HR C=>(zNG (n:=0)).1 (pZ h HR C)⟩
def pW (h:Ku n q pos most fuel=some none):xR 26 [.agg 5 (L1 (AH q)),.ints pos,.i most,.i fuel] HA:=
 ⟨λargs W=>JV Tryz.func26 (by kernel_rfl) (by kernel_rfl) args W,λ_ _ _ _ HR e=>pZ h HR e⟩
end
abbrev zMk:=@Go.wpIn_cond_false
abbrev zNg:=@Go.wpSIn_region
section
set_option maxRecDepth 100000
set_option maxHeartbeats 40000000
def vz (J:Value)(w0:World):CallsDIn Fence.wide (0-1) Tryz.prog 25 #[J] .returning w0 λe w w'=>(∃ v,e= .returned v)/\ w= .returning/\ w'=w0:=by
 refine callsDIn_of_wpSIn Tryz.func25 rfl trivial λC cs q=>?_
 apply wpSIn_seq;apply zNg;simp [wpOpsSIn,go_sem,recoverD,q,Tryz.ntmps25,Exit.thenS,Fence.wide];apply wpSIn_seq;apply zNg;simp [wpOpsSIn,go_sem,Exit.thenS];refine wpSIn_cond (t:=false) (by simp [Act.eval,Array.replicate]) ?_;simp only [zI1,zNA];refine wpSIn_of_wpIn rfl (zNZ ?_);cases C
 simp_all [bodyPostS,results,Tryz.results25,go_sem]
variable {J:Value}{w0:World}{ρ0:List AI}{N:Ψ}{x:Int}{q:AA}
def zLW (HR:Aq Tryz.prog GG N [oC [.i x],oC (AH q)] ρ0 w0)(w:AL (MS N [oC [.i x],oC (AH q)] ρ0) w0 (.ref 0 0) ρ0 J):
 CallsDIn Fence.wide (0-1) Tryz.prog 25 #[J] (.panicking (pan HA)) w0 λe b w'=>(∃ v,e= .returned v)/\ b= .panicking [{ v:=HA,recovered:=true }]/\ ∃ ρ',Aq Tryz.prog GG N [oC [.i 220],oC (AH q)] ρ' w'/\ A3 [oC [.i x],oC (AH q)] ρ0 w0 [oC [.i 220],oC (AH q)] ρ' w'/\ CA 2 ρ0 ρ':=by
 refine callsDIn_of_wpSIn Tryz.func25 rfl trivial λc₀ cs c=>?_
 apply wpSIn_seq;apply zNg;simp [wpOpsSIn,go_sem,recoverD,c,Tryz.ntmps25,Exit.thenS,Fence.wide,pan,HA];apply wpSIn_seq;apply zNg;simp [wpOpsSIn,go_sem,Exit.thenS];refine wpSIn_cond (t:=true) (by simp [Act.eval,Array.replicate]) ?_;simp only [zJH];refine wpSIn_of_wpIn rfl ?_
 have r:AS Tryz.prog GG N ⟨AF 13 [(0,.ref 0 0),(2,.i 220)],[oC [.i x],oC (AH q)]⟩ ρ0 { tmps:=#[J]++((((((((Array.replicate 12 undef).setIfInBounds 4 (Value.iface 30 (Value.int IntKind.i64 220))).setIfInBounds 5 (Value.tuple #[Value.int IntKind.i64 220,Value.bool true])).setIfInBounds 3 (Value.tuple #[Value.int IntKind.i64 220,Value.bool true])).setIfInBounds 6 (Value.int IntKind.i64 220)).setIfInBounds 7 (Value.bool true)).setIfInBounds 1 (Value.int IntKind.i64 220)).setIfInBounds 2 (Value.bool true)).setIfInBounds 8 (Value.bool true),defers:=[] } w0:=by
  refine ⟨HR,rfl,λj a=>?_⟩;have a:j<13:=a
  match j,a with
  | 0,_=>exact w
  | 2,_=>exact rfl
  | 1,_=>trivial
  | 3,_=>trivial
  | 4,_=>trivial
  | 5,_=>trivial
  | 6,_=>trivial
  | 7,_=>trivial
  | 8,_=>trivial
  | 9,_=>trivial
  | 10,_=>trivial
  | 11,_=>trivial
  | 12,_=>trivial
  | j+13,a=>exact absurd a (by omega)
 refine wr (L:=2) HC.x [] [0,1] [] ((H0.t)) H0 (AF 13 []) ([oC [.i 220],oC (AH q)]:DH) r (by kernel_rfl) (by kernel_rfl) λρ1 a1 w1 I d D g=>?_
 simp [bodyPostS,results,Tryz.results25,D,go_sem];exact ⟨ρ1,I.hr,d,g⟩
variable {fuel:Int}
def v6 (HR:Aq Tryz.prog GG N [oC [.i x],oC [.i fuel],oC (AH q)] ρ0 w0)(w:AL (MS N [oC [.i x],oC [.i fuel],oC (AH q)] ρ0) w0 (.ref 0 0) ρ0 J):
 CallsDIn Fence.wide (0-1) Tryz.prog 25 #[J] (.panicking (pan HA)) w0 λe b w'=>(∃ v,e= .returned v)/\ b= .panicking [{ v:=HA,recovered:=true }]/\ ∃ ρ',Aq Tryz.prog GG N [oC [.i 220],oC [.i fuel],oC (AH q)] ρ' w'/\ A3 [oC [.i x],oC [.i fuel],oC (AH q)] ρ0 w0 [oC [.i 220],oC [.i fuel],oC (AH q)] ρ' w'/\ CA 3 ρ0 ρ':=by
 refine callsDIn_of_wpSIn Tryz.func25 rfl trivial λc₀ cs c=>?_
 apply wpSIn_seq;apply zNg;simp [wpOpsSIn,go_sem,recoverD,c,Tryz.ntmps25,Exit.thenS,Fence.wide,pan,HA];apply wpSIn_seq;apply zNg;simp [wpOpsSIn,go_sem,Exit.thenS];refine wpSIn_cond (t:=true) (by simp [Act.eval,Array.replicate]) ?_;simp only [zJH];refine wpSIn_of_wpIn rfl ?_
 have r:AS Tryz.prog GG N ⟨AF 13 [(0,.ref 0 0),(2,.i 220)],[oC [.i x],oC [.i fuel],oC (AH q)]⟩ ρ0 { tmps:=#[J]++((((((((Array.replicate 12 undef).setIfInBounds 4 (Value.iface 30 (Value.int IntKind.i64 220))).setIfInBounds 5 (Value.tuple #[Value.int IntKind.i64 220,Value.bool true])).setIfInBounds 3 (Value.tuple #[Value.int IntKind.i64 220,Value.bool true])).setIfInBounds 6 (Value.int IntKind.i64 220)).setIfInBounds 7 (Value.bool true)).setIfInBounds 1 (Value.int IntKind.i64 220)).setIfInBounds 2 (Value.bool true)).setIfInBounds 8 (Value.bool true),defers:=[] } w0:=by
  refine ⟨HR,rfl,λj a=>?_⟩;have a:j<13:=a
  match j,a with
  | 0,_=>exact w
  | 2,_=>exact rfl
  | 1,_=>trivial
  | 3,_=>trivial
  | 4,_=>trivial
  | 5,_=>trivial
  | 6,_=>trivial
  | 7,_=>trivial
  | 8,_=>trivial
  | 9,_=>trivial
  | 10,_=>trivial
  | 11,_=>trivial
  | 12,_=>trivial
  | j+13,a=>exact absurd a (by omega)
 refine wr (L:=3) HC.x [] [0,1,2] [] ((H0.t)) H0 (AF 13 []) ([oC [.i 220],oC [.i fuel],oC (AH q)]:DH) r (by kernel_rfl) (by kernel_rfl) λρ1 a1 w1 I d D g=>?_
 simp [bodyPostS,results,Tryz.results25,D,go_sem];exact ⟨ρ1,I.hr,d,g⟩
variable {p2:Value}{u:FrameMode}
def zJ1 (HR:Aq Tryz.prog GG N [oC [.i 0],oC [.i fuel],oC (AH q)] ρ0 w0)(b:AL (MS N [oC [.i 0],oC [.i fuel],oC (AH q)] ρ0) w0 (.ref 0 0) ρ0 J)(z:AL (MS N [oC [.i 0],oC [.i fuel],oC (AH q)] ρ0) w0 (.ref 1 0) ρ0 p2):
 CallsDIn Fence.wide (0-1) Tryz.prog 24 #[J,p2] u w0 λe w w'=>(∃ v,e= .returned v)/\ w=u/\ ∃ ρ',Aq Tryz.prog GG N [oC [.i 0],oC [.i fuel],oC (AH q)] ρ' w'/\ A3 [oC [.i 0],oC [.i fuel],oC (AH q)] ρ0 w0 [oC [.i 0],oC [.i fuel],oC (AH q)] ρ' w'/\ CA 3 ρ0 ρ':=by
 have key:CallsDIn Fence.wide (0-1) Tryz.prog 24 #[J,p2] u w0 λe w w'=>w=u/\ ((∃ v,e= .returned v)/\ ∃ ρ',Aq Tryz.prog GG N [oC [.i 0],oC [.i fuel],oC (AH q)] ρ' w'/\ A3 [oC [.i 0],oC [.i fuel],oC (AH q)] ρ0 w0 [oC [.i 0],oC [.i fuel],oC (AH q)] ρ' w'/\ CA 3 ρ0 ρ'):=by
  refine callsDIn_of_wp (c:=AR Tryz.f24) Tryz.func24 (by kernel_rfl) trivial ?_
  have r:AS Tryz.prog GG N ⟨AF 8 [(0,.ref 0 0),(1,.ref 1 0)],[oC [.i 0],oC [.i fuel],oC (AH q)]⟩ ρ0 { tmps:=#[J,p2]++Array.replicate (Tryz.f24.ntmps- #[J,p2].size) undef,defers:=[] } w0:=by
   refine ⟨HR,?_⟩;have f:BE (MS N [oC [.i 0],oC [.i fuel],oC (AH q)] ρ0) w0 ρ0 [.ref 0 0,.ref 1 0] #[J,p2]:=⟨rfl,λj a=>match j,a with | 0,_=>b | 1,_=>z | j+2,a=>absurd a (by simp)⟩;exact BE.append f (BE.anys _ _ _ 6)
  refine zI7 ?_;refine wr (L:=3) HC.x [0,7] [0,1,2] [] H0 H0 (AF 8 [(0,.ref 0 0),(7,.bool false)]) ([oC [.i 0],oC [.i fuel],oC (AH q)]:DH) r (by kernel_rfl) (by kernel_rfl) λρ1 a1 w1 I d D g=>?_
  refine zMk (BV I (.tmp 7)) (zNZ ?_);refine ⟨by rw [D],?_⟩;simp [results,Tryz.results24,go_sem];exact ⟨ρ1,I.hr,d,g⟩
 exact key.mono λe w w' ⟨h,k,l⟩=>⟨k,h,l⟩
def zJ0 (c:decide (fuel>65536)=true)(HR:Aq Tryz.prog GG N [oC [.i 220],oC [.i fuel],oC (AH q)] ρ0 w0)(b:AL (MS N [oC [.i 220],oC [.i fuel],oC (AH q)] ρ0) w0 (.ref 0 0) ρ0 J)(z:AL (MS N [oC [.i 220],oC [.i fuel],oC (AH q)] ρ0) w0 (.ref 1 0) ρ0 p2):
 CallsDIn Fence.wide (0-1) Tryz.prog 24 #[J,p2] u w0 λe w w'=>(∃ v,e= .returned v)/\ w=u/\ ∃ ρ',Aq Tryz.prog GG N [oC [.i 2],oC [.i fuel],oC (AH q)] ρ' w'/\ A3 [oC [.i 220],oC [.i fuel],oC (AH q)] ρ0 w0 [oC [.i 2],oC [.i fuel],oC (AH q)] ρ' w'/\ CA 3 ρ0 ρ':=by
 have key:CallsDIn Fence.wide (0-1) Tryz.prog 24 #[J,p2] u w0 λe w w'=>w=u/\ ((∃ v,e= .returned v)/\ ∃ ρ',Aq Tryz.prog GG N [oC [.i 2],oC [.i fuel],oC (AH q)] ρ' w'/\ A3 [oC [.i 220],oC [.i fuel],oC (AH q)] ρ0 w0 [oC [.i 2],oC [.i fuel],oC (AH q)] ρ' w'/\ CA 3 ρ0 ρ'):=by
  refine callsDIn_of_wp (c:=AR Tryz.f24) Tryz.func24 (by kernel_rfl) trivial ?_
  have r:AS Tryz.prog GG N ⟨AF 8 [(0,.ref 0 0),(1,.ref 1 0)],[oC [.i 220],oC [.i fuel],oC (AH q)]⟩ ρ0 { tmps:=#[J,p2]++Array.replicate (Tryz.f24.ntmps- #[J,p2].size) undef,defers:=[] } w0:=by
   refine ⟨HR,?_⟩;have f:BE (MS N [oC [.i 220],oC [.i fuel],oC (AH q)] ρ0) w0 ρ0 [.ref 0 0,.ref 1 0] #[J,p2]:=⟨rfl,λj a=>match j,a with | 0,_=>b | 1,_=>z | j+2,a=>absurd a (by simp)⟩;exact BE.append f (BE.anys _ _ _ 6)
  refine zI7 ?_;refine wr (L:=3) HC.x [0,7] [0,1,2] [] H0 H0 (AF 8 [(0,.ref 0 0),(7,.bool (decide (fuel>65536)))]) ([oC [.i 220],oC [.i fuel],oC (AH q)]:DH) r (by kernel_rfl) (by kernel_rfl) λρ1 U w1 I d D g=>?_
  refine wpIn_cond_true ((show U.eval (.tmp 7)= .bool (decide (fuel>65536)) from BV I (.tmp 7)).trans (by rw [c])) ?_;refine wr (L:=3) HC.x [] [0,1,2] [] ((H0.t)) H0 (AF 8 []) ([oC [.i 2],oC [.i fuel],oC (AH q)]:DH) I (by kernel_rfl) (by kernel_rfl) λρ2 a2 w2 T h k l=>?_
  refine ⟨by rw [k,D],?_⟩;simp [results,Tryz.results24,go_sem];exact ⟨ρ2,T.hr,(d.trans h),(CA.trans g l)⟩
 exact key.mono λe w w' ⟨m,n,o⟩=>⟨n,m,o⟩
def zJz (c:decide (fuel>65536)=false)(HR:Aq Tryz.prog GG N [oC [.i 220],oC [.i fuel],oC (AH q)] ρ0 w0)(b:AL (MS N [oC [.i 220],oC [.i fuel],oC (AH q)] ρ0) w0 (.ref 0 0) ρ0 J)(z:AL (MS N [oC [.i 220],oC [.i fuel],oC (AH q)] ρ0) w0 (.ref 1 0) ρ0 p2):
 CallsDIn Fence.wide (0-1) Tryz.prog 24 #[J,p2] u w0 λe w w'=>(∃ v,e= .returned v)/\ w=u/\ ∃ ρ',Aq Tryz.prog GG N [oC [.i 220],oC [.i fuel],oC (AH q)] ρ' w'/\ A3 [oC [.i 220],oC [.i fuel],oC (AH q)] ρ0 w0 [oC [.i 220],oC [.i fuel],oC (AH q)] ρ' w'/\ CA 3 ρ0 ρ':=by
 have key:CallsDIn Fence.wide (0-1) Tryz.prog 24 #[J,p2] u w0 λe w w'=>w=u/\ ((∃ v,e= .returned v)/\ ∃ ρ',Aq Tryz.prog GG N [oC [.i 220],oC [.i fuel],oC (AH q)] ρ' w'/\ A3 [oC [.i 220],oC [.i fuel],oC (AH q)] ρ0 w0 [oC [.i 220],oC [.i fuel],oC (AH q)] ρ' w'/\ CA 3 ρ0 ρ'):=by
  refine callsDIn_of_wp (c:=AR Tryz.f24) Tryz.func24 (by kernel_rfl) trivial ?_
  have r:AS Tryz.prog GG N ⟨AF 8 [(0,.ref 0 0),(1,.ref 1 0)],[oC [.i 220],oC [.i fuel],oC (AH q)]⟩ ρ0 { tmps:=#[J,p2]++Array.replicate (Tryz.f24.ntmps- #[J,p2].size) undef,defers:=[] } w0:=by
   refine ⟨HR,?_⟩;have f:BE (MS N [oC [.i 220],oC [.i fuel],oC (AH q)] ρ0) w0 ρ0 [.ref 0 0,.ref 1 0] #[J,p2]:=⟨rfl,λj a=>match j,a with | 0,_=>b | 1,_=>z | j+2,a=>absurd a (by simp)⟩;exact BE.append f (BE.anys _ _ _ 6)
  refine zI7 ?_;refine wr (L:=3) HC.x [0,7] [0,1,2] [] H0 H0 (AF 8 [(0,.ref 0 0),(7,.bool (decide (fuel>65536)))]) ([oC [.i 220],oC [.i fuel],oC (AH q)]:DH) r (by kernel_rfl) (by kernel_rfl) λρ1 U w1 I d D g=>?_
  refine zMk ((show U.eval (.tmp 7)= .bool (decide (fuel>65536)) from BV I (.tmp 7)).trans (by rw [c])) (zNZ ?_);refine ⟨by rw [D],?_⟩;simp [results,Tryz.results24,go_sem];exact ⟨ρ1,I.hr,d,g⟩
 exact key.mono λe w w' ⟨h,k,l⟩=>⟨k,h,l⟩
end
section
set_option maxRecDepth 100000
set_option maxHeartbeats 40000000
variable {a0:Act}{n w0:World}{ρs ρ0:List AI}{N:Ψ}{b r:DV}{e fuel:Int}{t:List (Δ)}{l:List Ξ}{q:AA}
def kf (k:AN b (.sl 1 l.length (AK AO l)))(a:AN r (.sl 2 t.length (AK BS t)))(y:Aq Tryz.prog GG N [] ρs n)(K:A3 [] ρs n [oC [.i e],oC [.i fuel],oC (AH q)] ρ0 w0)(c:AS Tryz.prog GG N ⟨AF 39 [(6,b),(7,r),(8,.ref 0 0)],[oC [.i e],oC [.i fuel],oC (AH q)]⟩ ρ0 a0 w0):LeavesInM Fence.wide 0 Tryz.prog Tryz.f10 a0.tmps (λw w'=>∃ v,w= .returned v/\ CC Tryz.prog GG N [] ρs n true (.tup 3 (L1 [.sl 1 l.length (AK AO l),.sl 2 t.length (AK BS t),.i e])) [] v w') [] .returning w0:=by
 obtain ⟨v,d,f⟩:=Wr (fn:=Tryz.f10) c y K [] H0 [b,r,.i e] (AN.tupL (l:=[b,r,.i e]) (l':=[.sl 1 l.length (AK AO l),.sl 2 t.length (AK BS t),.i e]) rfl ⟨k,a,Ax,trivial⟩) (by kernel_rfl) (by kernel_rfl);exact ⟨v,d,v,rfl,f⟩
variable {J I:Value}
def ux (k:AN b (.sl 1 l.length (AK AO l)))(f:AN r (.sl 2 t.length (AK BS t)))(y:Aq Tryz.prog GG N [] ρs n)(K:A3 [] ρs n [oC [.i 0],oC [.i fuel],oC (AH q)] ρ0 w0)(g:(AF 39 [(6,b),(7,r),(8,.ref 0 0)]).all (C4 3)=true)(a:AS Tryz.prog GG N ⟨AF 39 [(6,b),(7,r),(8,.ref 0 0)],[oC [.i 0],oC [.i fuel],oC (AH q)]⟩ ρ0 a0 w0)(D:BE (MS N [oC [.i 0],oC [.i fuel],oC (AH q)] ρ0) w0 ρ0 [.ref 0 0,.ref 1 0] #[J,I]):LeavesInM Fence.wide 0 Tryz.prog Tryz.f10 a0.tmps (λw w'=>∃ v,w= .returned v/\ CC Tryz.prog GG N [] ρs n true (.tup 3 (L1 [.sl 1 l.length (AK AO l),.sl 2 t.length (AK BS t),.i 0])) [] v w') [{ target:=.fn (.func 25) #[],args:=#[J] },{ target:=.fn (.func 24) #[J,I],args:=#[] }] .returning w0:=by
 refine Nq (by simp) (λargs W=>JV Tryz.func25 (by kernel_rfl) (by kernel_rfl) args W) (by simp: #[J]++(#[]:Array Value)= #[J]) ?_;refine (vz J w0).mono ?_;rintro e h w1 ⟨⟨v,rfl⟩,rfl,rfl⟩;refine Nq (by simp [settle]) (λargs W=>JV Tryz.func24 (by kernel_rfl) (by kernel_rfl) args W) (by simp:(#[]:Array Value)++#[J,I]= #[J,I]) ?_;refine (zJ1 a.hr (D.at 0) (D.at 1)).mono ?_;rintro e h w' ⟨⟨v,rfl⟩,rfl,ρ1,c,d,j⟩;exact kf (a0:=a0) (e:=0) k f y (K.trans d) ⟨c,G9 (L:=3) a.fr g c d j⟩
def zJx (m:AN b (.sl 1 l.length (AK AO l)))(o:AN r (.sl 2 t.length (AK BS t)))(y:Aq Tryz.prog GG N [] ρs n)(K:A3 [] ρs n [oC [.i 0],oC [.i fuel],oC (AH q)] ρ0 w0)(f:(AF 39 [(6,b),(7,r),(8,.ref 0 0)]).all (C4 3)=true)(g:AS Tryz.prog GG N ⟨AF 39 [(6,b),(7,r),(8,.ref 0 0)],[oC [.i 0],oC [.i fuel],oC (AH q)]⟩ ρ0 a0 w0)(D:BE (MS N [oC [.i 0],oC [.i fuel],oC (AH q)] ρ0) w0 ρ0 [.ref 0 0,.ref 1 0] #[J,I])(c:decide (fuel>65536)=true):LeavesInM Fence.wide 0 Tryz.prog Tryz.f10 a0.tmps (λw w'=>∃ v,w= .returned v/\ CC Tryz.prog GG N [] ρs n true (.tup 3 (L1 [.sl 1 l.length (AK AO l),.sl 2 t.length (AK BS t),.i 2])) [] v w') [{ target:=.fn (.func 25) #[],args:=#[J] },{ target:=.fn (.func 24) #[J,I],args:=#[] }] (.panicking (pan HA)) w0:=by
 refine Nq (by simp) (λargs W=>JV Tryz.func25 (by kernel_rfl) (by kernel_rfl) args W) (by simp: #[J]++(#[]:Array Value)= #[J]) ?_;refine (v6 g.hr (D.at 0)).mono ?_;rintro e p w1 ⟨⟨v,rfl⟩,rfl,ρ1,a,d,h⟩;have U:=G9 (L:=3) g.fr f a d h;have j:=G9 (L:=3) D (by kernel_rfl) a d h;refine Nq (by simp [settle]) (λargs W=>JV Tryz.func24 (by kernel_rfl) (by kernel_rfl) args W) (by simp:(#[]:Array Value)++#[J,I]= #[J,I]) ?_;refine (zJ0 c a (j.at 0) (j.at 1)).mono ?_;rintro e p w' ⟨⟨v,rfl⟩,rfl,ρ2,T,k,s⟩;exact kf (a0:=a0) (e:=2) m o y ((K.trans d).trans k) ⟨T,G9 (L:=3) U f T k s⟩
def zJw (m:AN b (.sl 1 l.length (AK AO l)))(o:AN r (.sl 2 t.length (AK BS t)))(y:Aq Tryz.prog GG N [] ρs n)(K:A3 [] ρs n [oC [.i 0],oC [.i fuel],oC (AH q)] ρ0 w0)(f:(AF 39 [(6,b),(7,r),(8,.ref 0 0)]).all (C4 3)=true)(g:AS Tryz.prog GG N ⟨AF 39 [(6,b),(7,r),(8,.ref 0 0)],[oC [.i 0],oC [.i fuel],oC (AH q)]⟩ ρ0 a0 w0)(D:BE (MS N [oC [.i 0],oC [.i fuel],oC (AH q)] ρ0) w0 ρ0 [.ref 0 0,.ref 1 0] #[J,I])(c:decide (fuel>65536)=false):LeavesInM Fence.wide 0 Tryz.prog Tryz.f10 a0.tmps (λw w'=>∃ v,w= .returned v/\ CC Tryz.prog GG N [] ρs n true (.tup 3 (L1 [.sl 1 l.length (AK AO l),.sl 2 t.length (AK BS t),.i 220])) [] v w') [{ target:=.fn (.func 25) #[],args:=#[J] },{ target:=.fn (.func 24) #[J,I],args:=#[] }] (.panicking (pan HA)) w0:=by
 refine Nq (by simp) (λargs W=>JV Tryz.func25 (by kernel_rfl) (by kernel_rfl) args W) (by simp: #[J]++(#[]:Array Value)= #[J]) ?_;refine (v6 g.hr (D.at 0)).mono ?_;rintro e p w1 ⟨⟨v,rfl⟩,rfl,ρ1,a,d,h⟩;have U:=G9 (L:=3) g.fr f a d h;have j:=G9 (L:=3) D (by kernel_rfl) a d h;refine Nq (by simp [settle]) (λargs W=>JV Tryz.func24 (by kernel_rfl) (by kernel_rfl) args W) (by simp:(#[]:Array Value)++#[J,I]= #[J,I]) ?_;refine (zJz c a (j.at 0) (j.at 1)).mono ?_;rintro e p w' ⟨⟨v,rfl⟩,rfl,ρ2,T,k,s⟩;exact kf (a0:=a0) (e:=220) m o y ((K.trans d).trans k) ⟨T,G9 (L:=3) U f T k s⟩
def OO (fuel:Int):Option (List Ξ×List (Δ)×Bool) -> List Ξ×List (Δ)×Int
 | none=>([],[],if fuel>65536 then 2 else 220)
 | some r=>(r.1,if r.2.2 then [] else r.2.1,0)
def Lf (n:Nat)(q:AA)(pos:Ξ)(fuel:Int):Option (List Ξ×List (Δ)×Int):= (FX n q pos).bind λj=> bif (j != 0) then some ([],[],j) else bif (decide (fuel<0)) then some ([],[],1) else bif (decide (fuel>16777216)) then some ([],[],1) else (Ku n q pos 2 (if 65536<fuel then 65536 else fuel)).map (OO fuel)
variable {a:Option (List Ξ×List (Δ)×Bool)}{pos:Ξ}
def zJu {n:Nat}(A6:FX n q pos=some 0)(c1:decide (fuel<0)=false)(c2:decide (fuel>16777216)=false)(H:Ku n q pos 2 (if 65536<fuel then 65536 else fuel)=some a) 
     (g:AS Tryz.prog GG N ⟨AF 39 [(0,.agg 5 (L1 (AH q))),(1,.ints pos),(2,.i fuel)],[]⟩ ρ0 a0 w0) (Fd:a0.defers= []):
 (AR Tryz.f10).wpIn Fence.wide 0 Tryz.prog (bodyPostM Fence.wide 0 Tryz.prog Tryz.f10 λe w'=>∃ v,e= .returned v/\ CC Tryz.prog GG N [] ρ0 w0 true (.tup 3 (L1 [.sl 1 (((OO fuel a).1).length) (AK AO ((OO fuel a).1)),.sl 2 (((OO fuel a).2.1).length) (AK BS ((OO fuel a).2.1)),.i (OO fuel a).2.2])) [] v w') a0 w0:=by
 refine zI7 ?_;refine wr (L:=0) HC.x [1,3,5,6,7,8] [2,1,0] [] H0 H0 (AF 39 [(1,.ints pos),(3,.ref 2 0),(5,.ref 1 0),(6,.nils),(7,.nils),(8,.ref 0 0)]) ([oC [.i 0],oC [.i fuel],oC (AH q)]:DH) g (by kernel_rfl) (by kernel_rfl) λρ1 a1 w1 R1 B1 GJ Db=>?_
 refine zI7 (zI7 ?_);refine wr (L:=0) HC.x [1,3,5,6,7,8,9] [0,1,2] [] ((H0.c (fb (L8 A6) [oC [.i 0],oC [.i fuel],oC (AH q)]))) H0 (AF 39 [(1,.ints pos),(3,.ref 2 0),(5,.ref 1 0),(6,.nils),(7,.nils),(8,.ref 0 0),(9,.i 0)]) ([oC [.i 0],oC [.i fuel],oC (AH q)]:DH) R1 (by kernel_rfl) (by kernel_rfl) λρ2 a2 w2 R2 Ex JQ MM=>?_
 refine zI7 ?_;refine wr (L:=0) HC.x [1,3,5,6,7,8,9,17] [0,1,2] [] H0 H0 (AF 39 [(1,.ints pos),(3,.ref 2 0),(5,.ref 1 0),(6,.nils),(7,.nils),(8,.ref 0 0),(9,.i 0),(17,.bool false)]) ([oC [.i 0],oC [.i fuel],oC (AH q)]:DH) R2 (by kernel_rfl) (by kernel_rfl) λρ3 a3 w3 K FB j9 SU=>?_
 refine zMk (BV K (.tmp 17)) (zNZ ?_);refine zI7 (zI7 ?_);refine wr (L:=0) HC.x [1,3,5,6,7,8,24] [0,1,2] [] ((H0.b 20 c1 |>.b 23 c2)) H0 (AF 39 [(1,.ints pos),(3,.ref 2 0),(5,.ref 1 0),(6,.nils),(7,.nils),(8,.ref 0 0),(24,.bool false)]) ([oC [.i 0],oC [.i fuel],oC (AH q)]:DH) K (by kernel_rfl) (by kernel_rfl) λρ4 a4 T F k KH kp4=>?_
 refine zMk (BV F (.tmp 24)) (zNZ ?_);have F:AS Tryz.prog GG N ⟨AF 39 [(1,.ints pos),(3,.ref 2 0),(5,.ref 1 0),(6,.nils),(7,.nils),(8,.ref 0 0)],[oC [.i 0],oC [.i fuel],oC (AH q)]⟩ ρ4 a4 T:=F.forg [1,3,5,6,7,8] rfl (by kernel_rfl);have BJ:a4.tmps.size=39:=by simpa [AF] using F.fr.1.symm
 refine zI7 (xq (o0:=_) (o1:=_) rfl rfl rfl rfl rfl rfl rfl (by rw [BJ];decide) λa5 O m=>?_);have P:=F.idle 25 O (by kernel_rfl);refine zI7 (mn (o0:=_) rfl rfl rfl rfl λQ i5 X=>?_);have R:AS Tryz.prog GG N ⟨AF 39 [(1,.ints pos),(3,.ref 2 0),(5,.ref 1 0),(6,.nils),(7,.nils),(8,.ref 0 0)],[oC [.i 0],oC [.i fuel],oC (AH q)]⟩ ρ4 Q T:=⟨P.hr,by rw [i5];exact P.fr⟩;obtain ⟨J,o⟩: ∃ x,x=a4.eval (.tmp 8):=⟨_,rfl⟩;obtain ⟨p,S⟩: ∃ x,x=a4.eval (.tmp 5):=⟨_,rfl⟩;have u:a5.eval (.tmp 8)=J:=by rw [o];simp [Act.eval,O]
 have X:Q.defers= [{ target:=.fn (.func 25) #[],args:=#[J] },{ target:=.fn (.func 24) #[J,p],args:=#[] }]:=by rw [X,m,KH,j9,JQ,GJ,Fd,u,o,S];simp
 have W:BE (MS N [oC [.i 0],oC [.i fuel],oC (AH q)] ρ4) T ρ4 [.ref 0 0,.ref 1 0] #[J,p]:=⟨rfl,λj w=>match j,w with | 0,_=>(by show AL _ _ _ _ J;rw [o];exact F.fr.at 8) | 1,_=>(by show AL _ _ _ _ p;rw [S];exact F.fr.at 5) | j+2,w=>absurd w (by simp)⟩;have k:=(((B1.trans Ex).trans FB).trans k);refine zI7 ?_;cases a with
 | none=>
  refine mW (dst:=some 31) (pW H) [0,1,2,3] [5,6,7,8,9,10,11] 4 H0 (AF 39 [(6,.nils),(7,.nils),(8,.ref 0 0)]) [oC [.i 0],oC [.i fuel],oC (AH q)] R (by kernel_rfl) (by kernel_rfl) (by kernel_rfl) (by kernel_rfl) λρ7 U Y f d E y=>?_
  have I:=G9 (L:=3) W (by kernel_rfl) f.hr d y
  show LeavesInM _ _ _ _ _ _ U.defers (.panicking (pan HA)) Y
  rw [E,X];cases c:decide (fuel>65536) with
  | true=>
   show LeavesInM Fence.wide 0 Tryz.prog Tryz.f10 U.tmps (λz w'=>∃ v,z= .returned v/\ CC Tryz.prog GG N [] ρ0 w0 true (.tup 3 (L1 [.sl 1 (([]:List Ξ).length) (AK AO ([]:List Ξ)),.sl 2 (([]:List (Δ)).length) (AK BS ([]:List (Δ))),.i (if fuel>65536 then (2:Int) else 220)])) [] v w') _ _ _
   rw [show (if fuel>65536 then (2:Int) else 220)=2 from zEd (zIe c)];exact zJx (l:=[]) (t:=[]) (AN.sl_nil _ _) (AN.sl_nil _ _) g.hr (k.trans d) (by kernel_rfl) f I c
  | false=>
   show LeavesInM Fence.wide 0 Tryz.prog Tryz.f10 U.tmps (λz w'=>∃ v,z= .returned v/\ CC Tryz.prog GG N [] ρ0 w0 true (.tup 3 (L1 [.sl 1 (([]:List Ξ).length) (AK AO ([]:List Ξ)),.sl 2 (([]:List (Δ)).length) (AK BS ([]:List (Δ))),.i (if fuel>65536 then (2:Int) else 220)])) [] v w') _ _ _
   rw [show (if fuel>65536 then (2:Int) else 220)=220 from zGW (of_decide_eq_false c)];exact zJw (l:=[]) (t:=[]) (AN.sl_nil _ _) (AN.sl_nil _ _) g.hr (k.trans d) (by kernel_rfl) f I c
 | some r=>
  refine wr (L:=3) HC.x [6,7,8,10,11,12] [0,1,2] [] ((H0.c (fb (pY H) [oC [.i 0],oC [.i fuel],oC (AH q)]))) H0 (AF 39 [(6,.nils),(7,.nils),(8,.ref 0 0),(10,.sl 1 r.1.length (AK AO r.1)),(11,.sl 2 r.2.1.length (AK BS r.2.1)),(12,.bool r.2.2)]) ([oC [.i 0],oC [.i fuel],oC (AH q)]:DH) R (by kernel_rfl) (by kernel_rfl) λρ7 U Y f d E y=>?_
  have I:=G9 (L:=3) W (by kernel_rfl) f.hr d y;have d:=k.trans d;have E:=E.trans X;refine zI7 (zI7 ?_);refine wr (L:=3) HC.x [6,7,8,10,11,35] [0,1,2] [] H0 H0 (AF 39 [(6,.nils),(7,.nils),(8,.ref 0 0),(10,.sl 1 r.1.length (AK AO r.1)),(11,.sl 2 r.2.1.length (AK BS r.2.1)),(35,.bool r.2.2)]) ([oC [.i 0],oC [.i fuel],oC (AH q)]:DH) f (by kernel_rfl) (by kernel_rfl) λρ8 Z w8 M G V aN=>?_
  have F8:=G9 (L:=3) I (by kernel_rfl) M.hr G aN;have V:=V.trans E;cases c:r.2.2 with
  | true=>
   refine wpIn_cond_true ((show Z.eval (.tmp 35)= .bool r.2.2 from BV M (.tmp 35)).trans (by rw [c])) ?_;refine zI7 ?_;refine wr (L:=3) HC.x [6,7,8] [0,1,2] [] ((H0.t)) H0 (AF 39 [(6,.sl 1 r.1.length (AK AO r.1)),(7,.nils),(8,.ref 0 0)]) ([oC [.i 0],oC [.i fuel],oC (AH q)]:DH) M (by kernel_rfl) (by kernel_rfl) λρ9 a9 A h s B C=>?_
   have D:=G9 (L:=3) F8 (by kernel_rfl) h.hr s C;refine zNe ?_
   show LeavesInM _ _ _ _ _ _ a9.defers .returning A
   rw [B,V];have e:OO fuel (some r)=(r.1,([]:List (Δ)),0):=by show (r.1,(if r.2.2=true then [] else r.2.1),(0:Int))=_;rw [c];rfl
   rw [e];exact ux (l:=r.1) (t:=([]:List (Δ))) (AN.of_eq (by kernel_rfl)) (AN.sl_nil _ _) g.hr ((d.trans G).trans s) (by kernel_rfl) h D
  | false=>
   refine zMk ((show Z.eval (.tmp 35)= .bool r.2.2 from BV M (.tmp 35)).trans (by rw [c])) ?_;refine zNZ (zI7 ?_);refine wr (L:=3) HC.x [6,7,8] [0,1,2] [] ((H0.t)) H0 (AF 39 [(6,.sl 1 r.1.length (AK AO r.1)),(7,.sl 2 r.2.1.length (AK BS r.2.1)),(8,.ref 0 0)]) ([oC [.i 0],oC [.i fuel],oC (AH q)]:DH) M (by kernel_rfl) (by kernel_rfl) λρ9 a9 A h s B C=>?_
   have D:=G9 (L:=3) F8 (by kernel_rfl) h.hr s C;refine zNe ?_
   show LeavesInM _ _ _ _ _ _ a9.defers .returning A
   rw [B,V];have e:OO fuel (some r)=(r.1,r.2.1,0):=by show (r.1,(if r.2.2=true then [] else r.2.1),(0:Int))=_;rw [c];rfl
   rw [e];exact ux (l:=r.1) (t:=r.2.1) (AN.of_eq (by kernel_rfl)) (AN.of_eq (by kernel_rfl)) g.hr ((d.trans G).trans s) (by kernel_rfl) h D
def Wp (n:Nat)(q:AA)(pos:Ξ)(fuel:Int):Option ((List Ξ)×(List (Δ))×Int):= (FX n q pos).bind λj=> bif (j != 0) then some (([]:List Ξ),([]:List (Δ)),j) else bif (decide (fuel<0)) then some (([]:List Ξ),([]:List (Δ)),1) else bif (decide (fuel>16777216)) then some (([]:List Ξ),([]:List (Δ)),1) else none
def Wq (n:Nat)(q:AA)(pos:Ξ)(fuel:Int):Option ((List Ξ)×(List (Δ))×Int):=Wp n q pos fuel
def kg {n:Nat}{r:(List Ξ)×(List (Δ))×Int}(h:Wq n q pos fuel=some r):EQ 10 [.agg 5 (L1 (AH q)),.ints pos,.i fuel] [] (.tup 3 (L1 [.sl 1 r.1.length (AK AO r.1),.sl 2 r.2.1.length (AK BS r.2.1),.i r.2.2])) [] true:=by
 unfold Wq Wp at h;refine ot Tryz.func10 λB N=>?_
 revert r;apply gO;exact cf L8 [oC (AH q),oC [.i fuel],oC [.i 0]] λj=>bi 17 (jt (lF λp=>el AC [6,7,8] [2] p [] H0 [.nils,.nils,.i j] (AN.tupL (l:=[.nils,.nils,.i j]) (l':=[.sl 1 (([]:List Ξ).length) (AK AO ([]:List Ξ)),.sl 2 (([]:List (Δ)).length) (AK BS ([]:List (Δ))),.i j]) rfl ⟨(AN.sl_nil _ _),(AN.sl_nil _ _),Ax,trivial⟩))) (bi 20 (jt (lF λp=>el AC [6,7,8] [2] p [] H0 [.nils,.nils,.i 1] (AN.tupL (l:=[.nils,.nils,.i 1]) (l':=[.sl 1 (([]:List Ξ).length) (AK AO ([]:List Ξ)),.sl 2 (([]:List (Δ)).length) (AK BS ([]:List (Δ))),.i 1]) rfl ⟨(AN.sl_nil _ _),(AN.sl_nil _ _),Ax,trivial⟩))) (bi 23 (jt (lF λp=>el AC [6,7,8] [2] p [] H0 [.nils,.nils,.i 1] (AN.tupL (l:=[.nils,.nils,.i 1]) (l':=[.sl 1 (([]:List Ξ).length) (AK AO ([]:List Ξ)),.sl 2 (([]:List (Δ)).length) (AK BS ([]:List (Δ))),.i 1]) rfl ⟨(AN.sl_nil _ _),(AN.sl_nil _ _),Ax,trivial⟩))) nO))
def TO {n:Nat}{r:List Ξ×List (Δ)×Int}(h:Lf n q pos fuel=some r):EQ 10 [.agg 5 (L1 (AH q)),.ints pos,.i fuel] [] (.tup 3 (L1 [.sl 1 r.1.length (AK AO r.1),.sl 2 r.2.1.length (AK BS r.2.1),.i r.2.2])) [] true:=by
 unfold Lf at h;obtain ⟨j,u,h⟩:=Gg h;rcases DN h with ⟨C,h⟩ | ⟨C,h⟩
 ·refine kg (n:=n) ?_;unfold Wq Wp;rw [u,zEf,C,zFi];exact h
 rcases DN h with ⟨a,h⟩ | ⟨a,h⟩
 ·refine kg (n:=n) ?_;unfold Wq Wp;rw [u,zEf,C,zGK,a,zFi];exact h
 rcases DN h with ⟨E,h⟩ | ⟨E,h⟩
 ·refine kg (n:=n) ?_;unfold Wq Wp;rw [u,zEf,C,zGK,a,zGK,E,zFi];exact h
 obtain ⟨out,d,rfl⟩:=zIY.1 h;have K:j=0:=by simpa using C
 subst K;have p:(Tryz.f10.name== "runtime.NumGoroutine")=false:=by kernel_rfl
 refine ⟨⟨Tryz.f10,Tryz.func10,by simpa using p,by kernel_rfl⟩,λN ρ w args HR b=>(zNG (n:=0)).1 (callsIn_of_wp_marks (c:=AR Tryz.f10) Tryz.func10 (by kernel_rfl) trivial ?_)⟩;refine zJu u a E d (N:=N) (ρ0:=ρ) ⟨HR,?_⟩ rfl;have M:([.agg 5 (L1 (AH q)),.ints pos,.i fuel]:List DV).length=args.size:=b.1;have e:([.agg 5 (L1 (AH q)),.ints pos,.i fuel]:List DV)++List.replicate (Tryz.f10.ntmps-([.agg 5 (L1 (AH q)),.ints pos,.i fuel]:List DV).length) .any=AF 39 [(0,.agg 5 (L1 (AH q))),(1,.ints pos),(2,.i fuel)]:=by kernel_rfl
 rw [←e,M];exact BE.append b (BE.anys _ _ _ _)
variable {m:Int}
def sH (k:AN b (.i m))(y:Aq Tryz.prog GG N [] ρs n)(K:A3 [] ρs n [oC [.i e],oC (AH q)] ρ0 w0)(r:AS Tryz.prog GG N ⟨AF 45 [(8,b),(9,.ref 0 0)],[oC [.i e],oC (AH q)]⟩ ρ0 a0 w0):LeavesInM Fence.wide 0 Tryz.prog Tryz.f16 a0.tmps (λw w'=>∃ v,w= .returned v/\ CC Tryz.prog GG N [] ρs n true (.tup 2 (L1 [.i m,.i e])) [] v w') [] .returning w0:=by
 obtain ⟨v,a,c⟩:=Wr (fn:=Tryz.f16) r y K [] H0 [b,.i e] (AN.tupL (l:=[b,.i e]) (l':=[.i m,.i e]) rfl ⟨k,Ax,trivial⟩) (by kernel_rfl) (by kernel_rfl);exact ⟨v,a,v,rfl,c⟩
def zEu (k:AN b (.i m))(y:Aq Tryz.prog GG N [] ρs n)(K:A3 [] ρs n [oC [.i 0],oC (AH q)] ρ0 w0)(CH:(AF 45 [(8,b),(9,.ref 0 0)]).all (C4 2)=true)(r:AS Tryz.prog GG N ⟨AF 45 [(8,b),(9,.ref 0 0)],[oC [.i 0],oC (AH q)]⟩ ρ0 a0 w0)(F0:BE (MS N [oC [.i 0],oC (AH q)] ρ0) w0 ρ0 [.ref 0 0] #[J]):LeavesInM Fence.wide 0 Tryz.prog Tryz.f16 a0.tmps (λw w'=>∃ v,w= .returned v/\ CC Tryz.prog GG N [] ρs n true (.tup 2 (L1 [.i m,.i 0])) [] v w') [{ target:=.fn (.func 25) #[],args:=#[J] }] .returning w0:=by
 refine Nq (by simp) (λargs W=>JV Tryz.func25 (by kernel_rfl) (by kernel_rfl) args W) (by simp: #[J]++(#[]:Array Value)= #[J]) ?_;refine (vz J w0).mono ?_;rintro e u' w1 ⟨⟨v,rfl⟩,rfl,rfl⟩;exact sH (a0:=a0) (e:=0) k y K r
def zEv (k:AN b (.i m))(y:Aq Tryz.prog GG N [] ρs n)(K:A3 [] ρs n [oC [.i 0],oC (AH q)] ρ0 w0)(l:(AF 45 [(8,b),(9,.ref 0 0)]).all (C4 2)=true)(r:AS Tryz.prog GG N ⟨AF 45 [(8,b),(9,.ref 0 0)],[oC [.i 0],oC (AH q)]⟩ ρ0 a0 w0)(D:BE (MS N [oC [.i 0],oC (AH q)] ρ0) w0 ρ0 [.ref 0 0] #[J]):LeavesInM Fence.wide 0 Tryz.prog Tryz.f16 a0.tmps (λw w'=>∃ v,w= .returned v/\ CC Tryz.prog GG N [] ρs n true (.tup 2 (L1 [.i m,.i 220])) [] v w') [{ target:=.fn (.func 25) #[],args:=#[J] }] (.panicking (pan HA)) w0:=by
 refine Nq (by simp) (λargs W=>JV Tryz.func25 (by kernel_rfl) (by kernel_rfl) args W) (by simp: #[J]++(#[]:Array Value)= #[J]) ?_;refine (zLW r.hr (D.at 0)).mono ?_;rintro e u' w1 ⟨⟨v,rfl⟩,rfl,ρ1,a,c,g⟩;have U:=G9 (L:=2) r.fr l a c g;exact sH (a0:=a0) (e:=220) k y (K.trans c) ⟨a,U⟩
def g8:Option (List Ξ×List (Δ)×Bool) -> Δ
 | none=>(0,220)
 | some r=>((r.1.length:Int),0)
def J5 (n:Nat)(q:AA)(pos:Ξ)(most fuel:Int):Option (Δ):= (FX n q pos).bind λj=> bif (j != 0) then some (0,j) else bif (decide (most<1)) then some (0,1) else bif (decide (most>65536)) then some (0,1) else bif (decide (fuel<0)) then some (0,1) else bif (decide (fuel>16777216)) then some (0,1) else (Ku n q pos most fuel).map g8
variable {most:Int}
def zEs {n:Nat}(y:FX n q pos=some 0)(z:decide (most<1)=false)(B:decide (most>65536)=false)(C:decide (fuel<0)=false)(D:decide (fuel>16777216)=false)(l:Ku n q pos most fuel=some a) 
     (g:AS Tryz.prog GG N ⟨AF 45 [(0,.agg 5 (L1 (AH q))),(1,.ints pos),(2,.i most),(3,.i fuel)],[]⟩ ρ0 a0 w0) (Fd:a0.defers= []):
 (AR Tryz.f16).wpIn Fence.wide 0 Tryz.prog (bodyPostM Fence.wide 0 Tryz.prog Tryz.f16 λe w'=>∃ v,e= .returned v/\ CC Tryz.prog GG N [] ρ0 w0 true (.tup 2 (L1 [.i (g8 a).1,.i (g8 a).2])) [] v w') a0 w0:=by
 refine zI7 ?_;refine wr (L:=0) HC.x [1,2,3,4,8,9] [1,0] [] H0 H0 (AF 45 [(1,.ints pos),(2,.i most),(3,.i fuel),(4,.ref 1 0),(8,.i 0),(9,.ref 0 0)]) ([oC [.i 0],oC (AH q)]:DH) g (by kernel_rfl) (by kernel_rfl) λρ1 a1 w1 H K O Db=>?_
 refine zI7 (zI7 ?_);refine wr (L:=0) HC.x [1,2,3,4,8,9,10] [0,1] [] ((H0.c (fb (L8 y) [oC [.i 0],oC (AH q)]))) H0 (AF 45 [(1,.ints pos),(2,.i most),(3,.i fuel),(4,.ref 1 0),(8,.i 0),(9,.ref 0 0),(10,.i 0)]) ([oC [.i 0],oC (AH q)]:DH) H (by kernel_rfl) (by kernel_rfl) λρ2 a2 w2 P Q R MM=>?_
 refine zI7 ?_;refine wr (L:=0) HC.x [1,2,3,4,8,9,10,18] [0,1] [] H0 H0 (AF 45 [(1,.ints pos),(2,.i most),(3,.i fuel),(4,.ref 1 0),(8,.i 0),(9,.ref 0 0),(10,.i 0),(18,.bool false)]) ([oC [.i 0],oC (AH q)]:DH) P (by kernel_rfl) (by kernel_rfl) λρ3 a3 w3 A S W SU=>?_
 refine zMk (BV A (.tmp 18)) (zNZ ?_);refine zI7 (zI7 ?_);refine wr (L:=0) HC.x [1,2,3,4,8,9,33] [0,1] [] ((H0.b 21 z |>.b 24 B |>.b 28 C |>.b 32 D)) H0 (AF 45 [(1,.ints pos),(2,.i most),(3,.i fuel),(4,.ref 1 0),(8,.i 0),(9,.ref 0 0),(33,.bool false)]) ([oC [.i 0],oC (AH q)]:DH) A (by kernel_rfl) (by kernel_rfl) λρ4 a4 T F k Y kp4=>?_
 refine zMk (BV F (.tmp 33)) (zNZ ?_);have F:AS Tryz.prog GG N ⟨AF 45 [(1,.ints pos),(2,.i most),(3,.i fuel),(4,.ref 1 0),(8,.i 0),(9,.ref 0 0)],[oC [.i 0],oC (AH q)]⟩ ρ4 a4 T:=F.forg [1,2,3,4,8,9] rfl (by kernel_rfl);refine zI7 (mn (o0:=_) rfl rfl rfl rfl λo Z X=>?_);have p:AS Tryz.prog GG N ⟨AF 45 [(1,.ints pos),(2,.i most),(3,.i fuel),(4,.ref 1 0),(8,.i 0),(9,.ref 0 0)],[oC [.i 0],oC (AH q)]⟩ ρ4 o T:=⟨F.hr,by rw [Z];exact F.fr⟩;obtain ⟨J,s⟩: ∃ x,x=a4.eval (.tmp 9):=⟨_,rfl⟩;have X:o.defers= [{ target:=.fn (.func 25) #[],args:=#[J] }]:=by rw [X,Y,W,R,O,Fd,s]
 have u:BE (MS N [oC [.i 0],oC (AH q)] ρ4) T ρ4 [.ref 0 0] #[J]:=⟨rfl,λj h=>match j,h with | 0,_=>(by show AL _ _ _ _ J;rw [s];exact F.fr.at 9) | j+1,h=>absurd h (by simp)⟩;have k:=(((K.trans Q).trans S).trans k);refine zI7 ?_;cases a with
 | none=>
  refine mW (dst:=some 39) (pW l) [0,1,2,3] [5,6,7,8,9,10,11] 4 H0 (AF 45 [(8,.i 0),(9,.ref 0 0)]) [oC [.i 0],oC (AH q)] p (by kernel_rfl) (by kernel_rfl) (by kernel_rfl) (by kernel_rfl) λρ7 U w f d E V=>?_
  have I:=G9 (L:=2) u (by kernel_rfl) f.hr d V
  show LeavesInM _ _ _ _ _ _ U.defers (.panicking (pan HA)) w
  rw [E,X];exact zEv (m:=0) Ax g.hr (k.trans d) (by kernel_rfl) f I
 | some r=>
  refine wr (L:=2) HC.x [8,9,11] [0,1] [] ((H0.c (fb (pY l) [oC [.i 0],oC (AH q)]))) H0 (AF 45 [(8,.i 0),(9,.ref 0 0),(11,.sl 1 r.1.length (AK AO r.1))]) ([oC [.i 0],oC (AH q)]:DH) p (by kernel_rfl) (by kernel_rfl) λρ7 U w f d E V=>?_
  have I:=G9 (L:=2) u (by kernel_rfl) f.hr d V;have d:=k.trans d;have E:=E.trans X;refine zI7 ?_;refine wr (L:=2) HC.x [8,9] [0,1] [] ((H0.t)) H0 (AF 45 [(8,.i (r.1.length:Int)),(9,.ref 0 0)]) ([oC [.i 0],oC (AH q)]:DH) f (by kernel_rfl) (by kernel_rfl) λρ8 a8 w8 M G Sz aN=>?_
  have F8:=G9 (L:=2) I (by kernel_rfl) M.hr G aN;refine zNe ?_
  show LeavesInM _ _ _ _ _ _ a8.defers .returning w8
  rw [Sz,E];exact zEu (m:=(r.1.length:Int)) Ax g.hr (d.trans G) (by kernel_rfl) M F8
def Pf (n:Nat)(q:AA)(pos:Ξ)(most fuel:Int):Option (Δ):= (FX n q pos).bind λj=> bif (j != 0) then some (0,j) else bif (decide (most<1)) then some (0,1) else bif (decide (most>65536)) then some (0,1) else bif (decide (fuel<0)) then some (0,1) else bif (decide (fuel>16777216)) then some (0,1) else none
def Pg (n:Nat)(q:AA)(pos:Ξ)(most fuel:Int):Option (Δ):=Pf n q pos most fuel
def Vq {n:Nat}{r:Δ}(h:Pg n q pos most fuel=some r):EQ 16 [.agg 5 (L1 (AH q)),.ints pos,.i most,.i fuel] [] (.tup 2 (L1 [.i r.1,.i r.2])) [] true:=by
 unfold Pg Pf at h;refine ot Tryz.func16 λB N=>?_
 revert r;apply gO;exact cf L8 [oC (AH q),oC [.i 0]] λ_=>bi 18 (jt (lE AC [8,9] [1])) (bi 21 (jt (lE AC [8,9] [1])) (bi 24 (jt (lE AC [8,9] [1])) (bi 28 (jt (lE AC [8,9] [1])) (bi 32 (jt (lE AC [8,9] [1])) nO))))
def MJ {n:Nat}{r:Δ}(h:J5 n q pos most fuel=some r):EQ 16 [.agg 5 (L1 (AH q)),.ints pos,.i most,.i fuel] [] (.tup 2 (L1 [.i r.1,.i r.2])) [] true:=by
 unfold J5 at h;obtain ⟨j,u,h⟩:=Gg h;rcases DN h with ⟨C,h⟩ | ⟨C,h⟩
 ·refine Vq (n:=n) ?_;unfold Pg Pf;rw [u,zEf,C,zFi];exact h
 rcases DN h with ⟨a,h⟩ | ⟨a,h⟩
 ·refine Vq (n:=n) ?_;unfold Pg Pf;rw [u,zEf,C,zGK,a,zFi];exact h
 rcases DN h with ⟨E,h⟩ | ⟨E,h⟩
 ·refine Vq (n:=n) ?_;unfold Pg Pf;rw [u,zEf,C,zGK,a,zGK,E,zFi];exact h
 rcases DN h with ⟨b,h⟩ | ⟨b,h⟩
 ·refine Vq (n:=n) ?_;unfold Pg Pf;rw [u,zEf,C,zGK,a,zGK,E,zGK,b,zFi];exact h
 rcases DN h with ⟨A,h⟩ | ⟨A,h⟩
 ·refine Vq (n:=n) ?_;unfold Pg Pf;rw [u,zEf,C,zGK,a,zGK,E,zGK,b,zGK,A,zFi];exact h
 obtain ⟨out,f,rfl⟩:=zIY.1 h;have K:j=0:=by simpa using C
 subst K;have p:(Tryz.f16.name== "runtime.NumGoroutine")=false:=by kernel_rfl
 refine ⟨⟨Tryz.f16,Tryz.func16,by simpa using p,by kernel_rfl⟩,λN ρ w args HR d=>(zNG (n:=0)).1 (callsIn_of_wp_marks (c:=AR Tryz.f16) Tryz.func16 (by kernel_rfl) trivial ?_)⟩;refine zEs u a E b A f (N:=N) (ρ0:=ρ) ⟨HR,?_⟩ rfl;have M:([.agg 5 (L1 (AH q)),.ints pos,.i most,.i fuel]:List DV).length=args.size:=d.1;have e:([.agg 5 (L1 (AH q)),.ints pos,.i most,.i fuel]:List DV)++List.replicate (Tryz.f16.ntmps-([.agg 5 (L1 (AH q)),.ints pos,.i most,.i fuel]:List DV).length) .any=AF 45 [(0,.agg 5 (L1 (AH q))),(1,.ints pos),(2,.i most),(3,.i fuel)]:=by kernel_rfl
 rw [←e,M];exact BE.append d (BE.anys _ _ _ _)
end
section
set_option maxRecDepth 100000
set_option maxHeartbeats 40000000
def zAk:Au (A9 Tryz.f12 6) [([0,1,2,3,4,5,6,7],8)] [9] []:=by unfold Au;kernel_rfl
def Un:BX:=λi=>match i with
 | 6=>.ord [([0,1,2,3,4,5,6,7],8)] [9] []
 | _=>.no
inductive Yk where
 | l1 (x5:Int)
def zAU (n:Nat)(self:Yk -> Option Bool)(a R:List Ξ)(P:Int):Option Bool:= bif (decide (P<(a.length:Int))) then if (0<=P/\ P<(a.length:Int))/\ (0<=P/\ P<(R.length:Int)) then (same n (a.getD P.toNat []) (R.getD P.toNat [])).bind λj=> bif (!j) then some false else if AG (P+1) then self (.l1 (P+1)) else none else none else some true
def zAV (n:Nat)(self:Yk -> Option Bool)(a R:List Ξ):Option Bool:= bif ((a.length:Int) != (R.length:Int)) then some false else self (.l1 0)
def er (a R:List Ξ):Nat -> Yk -> Option Bool
 | 0,_=>none
 | n+1,.l1 P=>zAU n (er a R n) a R P
def e9 (n:Nat)(a R:List Ξ):Option Bool:=zAV n (er a R n) a R
def zAW (n B:Nat)(N:Yd 0)(a R:List Ξ)(r:Bool):Yk -> Prop
 | .l1 P=>∀ f:Nat,n<=f -> TW B N (FQ Tryz.f12 0 (.bool r) []) (Ag f (An (AR Tryz.f12) 0 [])) ⟨AF 27 [(0,.sl 1 a.length (AK AO a)),(1,.sl 1 R.length (AK AO R)),(5,.i P)],[]⟩
def zAX (B:Nat)(N:Yd 0)(a R:List Ξ):Al (er a R) (zAW · B N a R):=ia (λ_=>rfl) λn C A r h=>by
 cases A
 case l1 x5=>
  intro f b;refine rd b λf b=>?_
  revert r;apply gO;exact bi 14 (jg zAk (gc (gi (gi (cf eZ [] λ_=>bi 26 (lE Un [4] []) (gw 16 (lG Un [] (C _ _ · f b)))))))) (lE Un [4] [])
variable {r:Bool}{n:Nat}
def Ri {a R:List Ξ}(h:e9 n a R=some r):EQ 12 [.sl 1 a.length (AK AO a),.sl 1 R.length (AK AO R)] [] (.bool r) [] true:=by
 refine ot Tryz.func12 λB N=>?_
 revert r;apply gO;exact bi 10 (lE Un [4] []) (lN Un [] ((zAX B N a R n) _ _ · n Nat.le.refl))
def n7:ST:=.rd 0 (.rd 1 (.rd 2 (.rd 4 (.ef 3 (.ef 5 (.rd 6 (.ef 7 (.fin [0,1] [4]) (.no))) (.no)) (.ef 5 (.ef 3 (.rd 6 (.ef 7 (.fin [1,0] [4]) (.no))) (.no)) (.no))))))
def zBQ:B3 (A9 Tryz.f23 1) [3,5] n7:=by unfold B3;kernel_rfl
def zAN:BX:=λi=>match i with
 | 1=>.tre [3,5] n7
 | _=>.no
def dt (cells y:Int):St:=⟨(AF 12 [(4,.ref 0 0)]),([oC [.i cells,.i y,.msl 1 1 0 y.toNat,.msl 2 1 0 cells.toNat,.nils],oI (List.replicate y.toNat (0:Int)),some (.arr 1 ((List.replicate cells.toNat ([]:Ξ)).length) (AK AO (List.replicate cells.toNat ([]:Ξ))))]:DH)⟩
def zJg (n:Nat)(cells y:Int):Option AA:= if ((y:Int)=y/\ 0<=y/\ (y:Int)<=1000000000000)/\ ((cells:Int)=cells/\ 0<=cells/\ (cells:Int)<=1000000000000) then if (y).toNat=(List.replicate y.toNat (0:Int)).length/\ (cells).toNat=(List.replicate cells.toNat ([]:Ξ)).length then some (⟨cells,y,List.replicate y.toNat (0:Int),(List.replicate cells.toNat ([]:Ξ)),([]:List AD)⟩:AA) else none else none
def bo (n:Nat)(cells y:Int):Option AA:=zJg n cells y
def Wl {cells y:Int}{r:AA}(h:bo n cells y=some r):EQ 23 [.i cells,.i y] [] (.agg 5 (L1 (AH r))) [] true:=by
 refine ot Tryz.func23 λB N=>?_
 revert r;apply gO;exact jg zBQ (gc (gn λq=>jg q (gn λo=>jg o (ja 10 2 1 (pq (c:=AO) (x:=([]:Ξ)) (n:=(cells).toNat) (l:=[.nils]) ⟨AN.ints_nil,trivial⟩) (jt (jg (Eq.refl (dt cells y)) (jg o (ja 10 1 1 (pq (c:=AO) (x:=([]:Ξ)) (n:=(cells).toNat) (l:=[.nils]) ⟨AN.ints_nil,trivial⟩) (jg q (jt (jg (Eq.refl (dt cells y)) (gc (gn λs=>gn λP=>lF λp=>el (tg:=[([],(dt cells y))]) zAN [4] [0,1,2] p [1,2] (H0.g s |>.g P) [.agg 5 (L1 [.i cells,.i y,.ints (List.replicate y.toNat (0:Int)),.sl 1 ((List.replicate cells.toNat ([]:Ξ)).length) (AK AO (List.replicate cells.toNat ([]:Ξ))),.nils])] (AN.aggL (l:=[.i cells,.i y,.ints (List.replicate y.toNat (0:Int)),.sl 1 ((List.replicate cells.toNat ([]:Ξ)).length) (AK AO (List.replicate cells.toNat ([]:Ξ))),.nils]) (l':=[.i cells,.i y,.ints (List.replicate y.toNat (0:Int)),.sl 1 ((List.replicate cells.toNat ([]:Ξ)).length) (AK AO (List.replicate cells.toNat ([]:Ξ))),.sl 9 (([]:List AD).length) (AK BW ([]:List AD))]) rfl ⟨Ax,Ax,Ax,Ax,(AN.sl_nil _ _),trivial⟩))))))))))))))
def zBS:Au (A9 Tryz.f9 9) [] (List.range 18) []:=by unfold Au;kernel_rfl
def Jr:BX:=λi=>match i with
 | 9=>.ord [] (List.range 18) []
 | _=>.no
inductive Wt where
 | l1 (x3 x4:Int)
 | l2 (x3 x5:Int)
def Ws (n:Nat)(self:Wt -> Option Bool)(q:AA)(H K:Int):Option Bool:= bif (decide (K<(q.nbrs.length:Int))) then bif (decide (H<200)) then if (0<=K/\ K<(q.nbrs.length:Int))/\ AG (H+(((q.nbrs.getD K.toNat []).length:Nat):Int))/\ AG (K+1) then self (.l1 (H+(((q.nbrs.getD K.toNat []).length:Nat):Int)) (K+1)) else none else self (.l2 H 0) else self (.l2 H 0)
def OS (n:Nat)(self:Wt -> Option Bool)(q:AA)(H P:Int):Option Bool:= bif (decide (P<(q.cons.length:Int))) then bif (decide (H<200)) then if (0<=P/\ P<(q.cons.length:Int))/\ AG (((((q.cons.getD P.toNat default).cells).length:Nat):Int)+((((q.cons.getD P.toNat default).runs).length:Nat):Int))/\ AG (H+(((((q.cons.getD P.toNat default).cells).length:Nat):Int)+((((q.cons.getD P.toNat default).runs).length:Nat):Int))) then bif (((q.cons.getD P.toNat default).kind)==5) then bif (decide (((((q.cons.getD P.toNat default).cells).length:Nat):Int)>9)) then some false else if AG (P+1) then self (.l2 (H+(((((q.cons.getD P.toNat default).cells).length:Nat):Int)+((((q.cons.getD P.toNat default).runs).length:Nat):Int))) (P+1)) else none else if AG (P+1) then self (.l2 (H+(((((q.cons.getD P.toNat default).cells).length:Nat):Int)+((((q.cons.getD P.toNat default).runs).length:Nat):Int))) (P+1)) else none else none else some false else bif (decide (H<200)) then bif (decide (q.cells<=16)) then some (decide (q.symbols<=4)) else some false else some false
def u4 (n:Nat)(self:Wt -> Option Bool)(q:AA):Option Bool:= if AG ((q.values.length:Int)+(q.nbrs.length:Int))/\ AG (((q.values.length:Int)+(q.nbrs.length:Int))+(q.cons.length:Int)) then self (.l1 (((q.values.length:Int)+(q.nbrs.length:Int))+(q.cons.length:Int)) 0) else none
def Gf (q:AA):Nat -> Wt -> Option Bool
 | 0,_=>none
 | n+1,.l1 H K=>Ws n (Gf q n) q H K
 | n+1,.l2 H P=>OS n (Gf q n) q H P
def b7 (n:Nat)(q:AA):Option Bool:=u4 n (Gf q n) q
def zJ8 (n B:Nat)(N:Yd 0)(q:AA)(r:Bool):Wt -> Prop
 | .l1 H K=>∀ f:Nat,n<=f -> TW B N (FQ Tryz.f9 0 (.bool r) []) (Ag f (An (AR Tryz.f9) 0 [])) ⟨AF 93 [(1,.ref 0 0),(3,.i H),(4,.i K)],[oC (AH q)]⟩
 | .l2 H P=>∀ f:Nat,n<=f -> TW B N (FQ Tryz.f9 0 (.bool r) []) (Ag f (An (AR Tryz.f9) 2 [])) ⟨AF 93 [(1,.ref 0 0),(3,.i H),(5,.i P)],[oC (AH q)]⟩
def zJ9 (B:Nat)(N:Yd 0)(q:AA):Al (Gf q) (zJ8 · B N q):=ia (λ_=>rfl) λn C A r h=>by
 cases A
 case l1 x3 x4=>
  intro f a;refine rd a λf a=>?_
  revert r;apply gO;exact bi 21 (bi 24 (gc (gi (gc (gw 35 (gw 27 (lG Jr [0] (C _ _ · f a))))))) (lN Jr [0] (C _ _ · n Nat.le.refl))) (lN Jr [0] (C _ _ · n Nat.le.refl))
 case l2 x3 x5=>
  intro f a;refine rd a λf a=>?_
  revert r;apply gO;exact bi 40 (bj 43 (λ_=>jg zBS (gc (gn λb=>jg b (jg b (gc (gw 62 (gw 63 (jg b (bi 70 (jg b (bi 79 (lE Jr [2] []) (gw 46 (lG Jr [0] (C _ _ · f a))))) (gw 46 (lG Jr [0] (C _ _ · f a)))))))))))) (λw=>jb 82 w (lE Jr [2] []))) (bi 82 (bi 86 (lE Jr [2] []) (lE Jr [2] [])) (lE Jr [2] []))
def zJ6 {q:AA}(h:b7 n q=some r):EQ 9 [.agg 5 (L1 (AH q))] [] (.bool r) [] true:=by
 refine ot Tryz.func9 λB N=>?_
 revert r;apply gO;exact gc (gw 12 (gw 16 (lN Jr [0] ((zJ9 B N q n) _ _ · n Nat.le.refl) [] (show _=some (_,_,_,[_,_],_) by kernel_rfl))))
def zHI (a:AA):DH:=[oC [.i a.cells,.i a.symbols,.ints a.values,.sl 1 a.nbrs.length (AK AO a.nbrs),.sl 9 (([(⟨1,([0,1]:Ξ),0,0,0,0,([]:Ξ),0,0⟩:AD)]:List AD).length) (AK BW ([(⟨1,([0,1]:Ξ),0,0,0,0,([]:Ξ),0,0⟩:AD)]:List AD))],none]
def jL (a:AA):DH:=[oC [.i a.cells,.i a.symbols,.ints a.values,.sl 1 a.nbrs.length (AK AO a.nbrs),.sl 9 (([(⟨1,([0,1]:Ξ),0,0,0,0,([]:Ξ),0,0⟩:AD)]:List AD).length) (AK BW ([(⟨1,([0,1]:Ξ),0,0,0,0,([]:Ξ),0,0⟩:AD)]:List AD))],none,oI ([7,7]:Ξ)]
def Si (a:AA):DH:=[oC [.i a.cells,.i a.symbols,.ints a.values,.sl 1 a.nbrs.length (AK AO a.nbrs),.sl 9 (([(⟨1,([0,1]:Ξ),0,0,0,0,([]:Ξ),0,0⟩:AD)]:List AD).length) (AK BW ([(⟨1,([0,1]:Ξ),0,0,0,0,([]:Ξ),0,0⟩:AD)]:List AD))],none,oI ([7,7]:Ξ),oI ([7,7]:Ξ)]
def jK (a:AA):DH:=[oC [.i a.cells,.i a.symbols,.ints a.values,.sl 1 a.nbrs.length (AK AO a.nbrs),.sl 9 (([(⟨1,([0,1]:Ξ),0,0,0,0,([]:Ξ),0,0⟩:AD)]:List AD).length) (AK BW ([(⟨1,([0,1]:Ξ),0,0,0,0,([]:Ξ),0,0⟩:AD)]:List AD))],none,oI ([7,7]:Ξ),oI ([7,7]:Ξ),oI ([7,3,3]:Ξ)]
def jJ (a:AA):DH:=[oC [.i a.cells,.i a.symbols,.ints a.values,.sl 1 a.nbrs.length (AK AO a.nbrs),.sl 9 (([(⟨1,([0,1]:Ξ),0,0,0,0,([]:Ξ),0,0⟩:AD)]:List AD).length) (AK BW ([(⟨1,([0,1]:Ξ),0,0,0,0,([]:Ξ),0,0⟩:AD)]:List AD))],none,oI ([7,7]:Ξ),oI ([7,7]:Ξ),oI ([7,3,3]:Ξ),none,none,none]
def jI (a:AA):DH:=[oC [.i a.cells,.i a.symbols,.ints a.values,.sl 1 a.nbrs.length (AK AO a.nbrs),.sl 9 (([(⟨1,([0,1]:Ξ),0,0,0,0,([]:Ξ),0,0⟩:AD)]:List AD).length) (AK BW ([(⟨1,([0,1]:Ξ),0,0,0,0,([]:Ξ),0,0⟩:AD)]:List AD))],none,oI ([7,7]:Ξ),oI ([7,7]:Ξ),oI ([7,3,3]:Ξ),none,none,none,none,none]
def pI (n:Nat):Option Bool:= (bo n 1 2).bind λj=> (Lf n j ([3]:Ξ) 3).bind λG=> (Lf n j ([3]:Ξ) 2).bind λy3=> (Lf n j ([1]:Ξ) 1).bind λr=> (Lf n j ([0]:Ξ) 1).bind λa=> (Lf n j ([1]:Ξ) (-1)).bind λB=> (J5 n j ([3]:Ξ) 0 9).bind λC=> (bo n 2 3).bind λi=> (J5 n (⟨i.cells,i.symbols,i.values,i.nbrs,([(⟨1,([0,1]:Ξ),0,0,0,0,([]:Ξ),0,0⟩:AD)]:List AD)⟩:AA) ([7,7]:Ξ) 100 1000).bind λD=> (J5 n (⟨i.cells,i.symbols,i.values,i.nbrs,([(⟨1,([0,1]:Ξ),0,0,0,0,([]:Ξ),0,0⟩:AD)]:List AD)⟩:AA) ([7,7]:Ξ) 2 1000).bind λE=> (bo n 3 3).bind λt=> (lP n t ([7,3,3]:Ξ)).bind λb=> bif (G.2.2==0) then (e9 n G.1 ([([0]:Ξ),([1]:Ξ)]:List Ξ)).bind λl=> bif l then bif ((G.2.1.length:Int)==0) then bif (y3.2.2==220) then bif (r.2.2==0) then (e9 n r.1 ([([0]:Ξ)]:List Ξ)).bind λm=> bif m then bif ((r.2.1.length:Int)==1) then if (0:Int)<=0/\ 0<(r.2.1.length:Int) then bif (((r.2.1.getD 0 default).1)==4) then bif (a.2.2==0) then bif ((a.1.length:Int)==0) then bif ((a.2.1.length:Int)==1) then if (0:Int)<=0/\ 0<(a.2.1.length:Int) then bif (((a.2.1.getD 0 default).1)==3) then bif (B.2.2==1) then bif (C.2==1) then bif (D.1==6) then bif (D.2==0) then bif (E.1==2) then bif (E.2==0) then bif (b.1==1) then bif b.2.1 then some (b.2.2==0) else some false else some false else some false else some false else some false else some false else some false else some false else some false else none else some false else some false else some false else some false else none else some false else some false else some false else some false else some false else some false else some false
def Ut (n:Nat):Option Bool:=pI n
def zAQ (h:Ut n=some r):EQ 8 [] [] (.bool r) [] true:=by
 unfold Ut pI at h;refine ot Tryz.func8 λB N=>?_
 revert r;apply gO
 exact cf Wl [] λj=>jt (jz 31 1 (jg (by decide:1=([3]:Ξ).length) (cf TO [oC (AH j),none] λG=>jz 38 2 (jg (by decide:1=([3]:Ξ).length) (cf TO [oC (AH j),none,none] λy3=>jz 45 3 (jg (by decide:1=([1]:Ξ).length) (cf TO [oC (AH j),none,none,none] λb=>jz 52 4 (jg (by decide:1=([0]:Ξ).length) (cf TO [oC (AH j),none,none,none,none] λd=>jz 59 5 (jg (by decide:1=([1]:Ξ).length) (cf TO [oC (AH j),none,none,none,none,none] λM=>cn λO F=>jc (sb [.agg 5 (L1 (AH j)),.msl 6 1 0 1,.i 0,.i 9] (MJ F) [oC (AH j),none,none,none,none,none,oI ([3]:Ξ)] ⟨Az.plain (by kernel_rfl),Az.ints rfl (by decide:1=([3]:Ξ).length),Az.plain (by kernel_rfl),Az.plain (by kernel_rfl),trivial⟩) (cf Wl [oC (AH j),none,none,none,none,none,oI ([3]:Ξ)] λa=>jt (jz 71 8 (jg (by decide:2=([0,1]:Ξ).length) (ja 73 9 9 (Ej (c:=BW) (L:=([(⟨1,([0,1]:Ξ),0,0,0,0,([]:Ξ),0,0⟩:AD)]:List AD)) (vals:=[.agg 9 (L1 [.i 1,.ints ([0,1]:Ξ),.i 0,.i 0,.i 0,.i 0,.nils,.i 0,.i 0])]) rfl ⟨⟨_,rfl,⟨Ax,Ax,Ax,Ax,Ax,Ax,AN.ints_nil,Ax,Ax,trivial⟩⟩,trivial⟩) (jt (λp r h=>by
  refine gz (Ab 10 AC) [7,9] p [1] (H0.g (Eq.refl 1)) (EP (AR Tryz.f8) 10 []) (AF 191 [(2,.sl 1 G.1.length (AK AO G.1)),(3,.sl 2 G.2.1.length (AK BS G.2.1)),(4,.i G.2.2),(7,.i y3.2.2),(8,.sl 1 b.1.length (AK AO b.1)),(9,.sl 2 b.2.1.length (AK BS b.2.1)),(10,.i b.2.2),(11,.sl 1 d.1.length (AK AO d.1)),(12,.sl 2 d.2.1.length (AK BS d.2.1)),(13,.i d.2.2),(16,.i M.2.2),(18,.i O.2),(19,.ref 0 0)]) (zHI a) ?_;revert r;apply gO;exact cn λy9 e=>jc (sb [.agg 5 (L1 [.i a.cells,.i a.symbols,.ints a.values,.sl 1 a.nbrs.length (AK AO a.nbrs),.sl 9 (([(⟨1,([0,1]:Ξ),0,0,0,0,([]:Ξ),0,0⟩:AD)]:List AD).length) (AK BW ([(⟨1,([0,1]:Ξ),0,0,0,0,([]:Ξ),0,0⟩:AD)]:List AD))]),.msl 2 1 0 2,.i 100,.i 1000] (MJ e) (jL a) ⟨Az.plain (by kernel_rfl),Az.ints rfl (by decide:2=([7,7]:Ξ).length),Az.plain (by kernel_rfl),Az.plain (by kernel_rfl),trivial⟩) (cn λdV H=>jc (sb [.agg 5 (L1 [.i a.cells,.i a.symbols,.ints a.values,.sl 1 a.nbrs.length (AK AO a.nbrs),.sl 9 (([(⟨1,([0,1]:Ξ),0,0,0,0,([]:Ξ),0,0⟩:AD)]:List AD).length) (AK BW ([(⟨1,([0,1]:Ξ),0,0,0,0,([]:Ξ),0,0⟩:AD)]:List AD))]),.msl 3 1 0 2,.i 2,.i 1000] (MJ H) (Si a) ⟨Az.plain (by kernel_rfl),Az.ints rfl (by decide:2=([7,7]:Ξ).length),Az.plain (by kernel_rfl),Az.plain (by kernel_rfl),trivial⟩) (cn λt I=>jc (fb (Wl I) (Si a)) (cn λXo J=>jc (sb [.agg 5 (L1 (AH t)),.msl 4 1 0 3] (lO J) (jK a) ⟨Az.plain (by kernel_rfl),Az.ints rfl (by decide:3=([7,3,3]:Ξ).length),trivial⟩) (bj 95 (λk=>jz 98 5 (jg (by decide:1=([0]:Ξ).length) (jz 99 6 (jg (by decide:1=([1]:Ξ).length) (ja 100 7 1 (Ej (c:=AO) (L:=([([0]:Ξ),([1]:Ξ)]:List Ξ)) (vals:=[.ints ([0]:Ξ),.ints ([1]:Ξ)]) rfl ⟨⟨_,rfl,⟨Ax,trivial⟩⟩,⟨_,rfl,⟨Ax,trivial⟩⟩,trivial⟩) (jz 100 7 (jg (by decide:2=([([0]:Ξ),([1]:Ξ)]:List Ξ).length) (cn λmT K=>jc (fb (Ri K) (jJ a)) (bj 101 (λw=>bj 106 (λv=>bj 110 (λl=>bj 114 (λV=>jz 118 8 (jg (by decide:1=([0]:Ξ).length) (ja 119 9 1 (Ej (c:=AO) (L:=([([0]:Ξ)]:List Ξ)) (vals:=[.ints ([0]:Ξ)]) rfl ⟨⟨_,rfl,⟨Ax,trivial⟩⟩,trivial⟩) (jz 119 9 (jg (by decide:1=([([0]:Ξ)]:List Ξ).length) (cn λmS f=>jc (fb (Ri f) (jI a)) (bj 120 (λm=>bj 125 (λs=>gn λq=>jg q (bj 132 (λW=>bj 136 (λu=>bj 141 (λX=>bj 146 (λx=>gn λo=>jg o (bj 153 (λY=>bj 158 (λy=>bj 162 (λZ=>bj 166 (λz=>bj 170 (λA=>bj 174 (λC=>bj 178 (λD=>bj 182 (λE=>bn (λP=>rO (jc (sb [.agg 5 (L1 [.i a.cells,.i a.symbols,.ints a.values,.sl 1 a.nbrs.length (AK AO a.nbrs),.sl 9 (([(⟨1,([0,1]:Ξ),0,0,0,0,([]:Ξ),0,0⟩:AD)]:List AD).length) (AK BW ([(⟨1,([0,1]:Ξ),0,0,0,0,([]:Ξ),0,0⟩:AD)]:List AD))]),.msl 2 1 0 2,.i 100,.i 1000] (MJ e) (jL a) ⟨Az.plain (by kernel_rfl),Az.ints rfl (by decide:2=([7,7]:Ξ).length),Az.plain (by kernel_rfl),Az.plain (by kernel_rfl),trivial⟩) (jc (sb [.agg 5 (L1 [.i a.cells,.i a.symbols,.ints a.values,.sl 1 a.nbrs.length (AK AO a.nbrs),.sl 9 (([(⟨1,([0,1]:Ξ),0,0,0,0,([]:Ξ),0,0⟩:AD)]:List AD).length) (AK BW ([(⟨1,([0,1]:Ξ),0,0,0,0,([]:Ξ),0,0⟩:AD)]:List AD))]),.msl 3 1 0 2,.i 2,.i 1000] (MJ H) (Si a) ⟨Az.plain (by kernel_rfl),Az.ints rfl (by decide:2=([7,7]:Ξ).length),Az.plain (by kernel_rfl),Az.plain (by kernel_rfl),trivial⟩) (jc (fb (Wl I) (Si a)) (jc (sb [.agg 5 (L1 (AH t)),.msl 4 1 0 3] (lO J) (jK a) ⟨Az.plain (by kernel_rfl),Az.ints rfl (by decide:3=([7,3,3]:Ξ).length),trivial⟩) (jb 92 P (jb 95 k (jz 98 5 (jg (by decide:1=([0]:Ξ).length) (jz 99 6 (jg (by decide:1=([1]:Ξ).length) (ja 100 7 1 (Ej (c:=AO) (L:=([([0]:Ξ),([1]:Ξ)]:List Ξ)) (vals:=[.ints ([0]:Ξ),.ints ([1]:Ξ)]) rfl ⟨⟨_,rfl,⟨Ax,trivial⟩⟩,⟨_,rfl,⟨Ax,trivial⟩⟩,trivial⟩) (jz 100 7 (jg (by decide:2=([([0]:Ξ),([1]:Ξ)]:List Ξ).length) (jc (fb (Ri K) (jJ a)) (jb 101 w (jb 106 v (jb 110 l (jb 114 V (jz 118 8 (jg (by decide:1=([0]:Ξ).length) (ja 119 9 1 (Ej (c:=AO) (L:=([([0]:Ξ)]:List Ξ)) (vals:=[.ints ([0]:Ξ)]) rfl ⟨⟨_,rfl,⟨Ax,trivial⟩⟩,trivial⟩) (jz 119 9 (jg (by decide:1=([([0]:Ξ)]:List Ξ).length) (jc (fb (Ri f) (jI a)) (jb 120 m (jb 125 s (jg q (jb 132 W (jb 136 u (jb 141 X (jb 146 x (jg o (jb 153 Y (jb 158 y (jb 162 Z (jb 166 z (jb 170 A (jb 174 C (jb 178 D (jb 182 E (lE AC [0] [])))))))))))))))))))))))))))))))))))))))))) (λP=>rO (jc (sb [.agg 5 (L1 [.i a.cells,.i a.symbols,.ints a.values,.sl 1 a.nbrs.length (AK AO a.nbrs),.sl 9 (([(⟨1,([0,1]:Ξ),0,0,0,0,([]:Ξ),0,0⟩:AD)]:List AD).length) (AK BW ([(⟨1,([0,1]:Ξ),0,0,0,0,([]:Ξ),0,0⟩:AD)]:List AD))]),.msl 2 1 0 2,.i 100,.i 1000] (MJ e) (jL a) ⟨Az.plain (by kernel_rfl),Az.ints rfl (by decide:2=([7,7]:Ξ).length),Az.plain (by kernel_rfl),Az.plain (by kernel_rfl),trivial⟩) (jc (sb [.agg 5 (L1 [.i a.cells,.i a.symbols,.ints a.values,.sl 1 a.nbrs.length (AK AO a.nbrs),.sl 9 (([(⟨1,([0,1]:Ξ),0,0,0,0,([]:Ξ),0,0⟩:AD)]:List AD).length) (AK BW ([(⟨1,([0,1]:Ξ),0,0,0,0,([]:Ξ),0,0⟩:AD)]:List AD))]),.msl 3 1 0 2,.i 2,.i 1000] (MJ H) (Si a) ⟨Az.plain (by kernel_rfl),Az.ints rfl (by decide:2=([7,7]:Ξ).length),Az.plain (by kernel_rfl),Az.plain (by kernel_rfl),trivial⟩) (jc (fb (Wl I) (Si a)) (jc (sb [.agg 5 (L1 (AH t)),.msl 4 1 0 3] (lO J) (jK a) ⟨Az.plain (by kernel_rfl),Az.ints rfl (by decide:3=([7,3,3]:Ξ).length),trivial⟩) (jb 92 P (jb 95 k (jz 98 5 (jg (by decide:1=([0]:Ξ).length) (jz 99 6 (jg (by decide:1=([1]:Ξ).length) (ja 100 7 1 (Ej (c:=AO) (L:=([([0]:Ξ),([1]:Ξ)]:List Ξ)) (vals:=[.ints ([0]:Ξ),.ints ([1]:Ξ)]) rfl ⟨⟨_,rfl,⟨Ax,trivial⟩⟩,⟨_,rfl,⟨Ax,trivial⟩⟩,trivial⟩) (jz 100 7 (jg (by decide:2=([([0]:Ξ),([1]:Ξ)]:List Ξ).length) (jc (fb (Ri K) (jJ a)) (jb 101 w (jb 106 v (jb 110 l (jb 114 V (jz 118 8 (jg (by decide:1=([0]:Ξ).length) (ja 119 9 1 (Ej (c:=AO) (L:=([([0]:Ξ)]:List Ξ)) (vals:=[.ints ([0]:Ξ)]) rfl ⟨⟨_,rfl,⟨Ax,trivial⟩⟩,trivial⟩) (jz 119 9 (jg (by decide:1=([([0]:Ξ)]:List Ξ).length) (jc (fb (Ri f) (jI a)) (jb 120 m (jb 125 s (jg q (jb 132 W (jb 136 u (jb 141 X (jb 146 x (jg o (jb 153 Y (jb 158 y (jb 162 Z (jb 166 z (jb 170 A (jb 174 C (jb 178 D (jb 182 E (lE AC [0] []))))))))))))))))))))))))))))))))))))))))))) (λ_=>lE AC [0] [])) (λ_=>lE AC [0] [])) (λ_=>lE AC [0] [])) (λ_=>lE AC [0] [])) (λ_=>lE AC [0] [])) (λ_=>lE AC [0] [])) (λ_=>lE AC [0] [])) (λ_=>lE AC [0] []))) (λ_=>lE AC [0] [])) (λ_=>lE AC [0] [])) (λ_=>lE AC [0] [])) (λ_=>lE AC [0] []))) (λ_=>lE AC [0] [])) (λ_=>lE AC [0] [])))))))) (λ_=>lE AC [0] [])) (λ_=>lE AC [0] [])) (λ_=>lE AC [0] [])) (λ_=>lE AC [0] [])))))))))) (λ_=>lE AC [0] []))))))))))))))))))))))
end
end Go.Proofs.YtodinaconebmdaaGreatDoor
