/- Part 3 of 8 of what the proofs of these laws stand on. -/
import Derived.Test.YtodinaconebmdaaGreatDoorPxB
import Derived.LoopIn
set_option linter.all false
namespace Go.Proofs.YtodinaconebmdaaGreatDoor
open Go.RowKit
abbrev zIe:=@of_decide_eq_true
abbrev zMy:=@List.getElem?_take
abbrev zNI:=@List.drop_length
section
section
variable {P:Program} {Γ:Av}
variable {A B:World}{ρ:List AI}{h:DH}{v x G:Ψ}
def Aq.foreign (H:Aq P Γ v h ρ A)(e:AQ G A B)(q: ∀ b,G b -> v b/\ Γ.ng<=b)(R: ∀ b,x b -> v b∨A.heap.size<=b)(a: ∀ b,x b -> b<B.heap.size/\ Γ.ng<=b):Aq P Γ x h ρ B:=by
 have O:BP (MS v h ρ) A ρ (MS x h ρ) B ρ:=⟨λb f m _=>e.block b f λd=>m (.inl (q b d).1),λb a=>a.elim (λh=>(R b h).imp .inl id) (λh=>.inl (.inr h)),λ_ _ h=>h⟩;refine ⟨H.len,λk o hk=>?_,λk o p b n r s=>?_,H.dis,a,Γ.st _ _ H.gi (e.mono λi _ d=>(q i d).2)⟩
 ·obtain ⟨p,g,u⟩:=H.obj k o hk;exact ⟨p,g,u.out O e (λb a=>.inl (q b a).1) λb _ M w=>(H.cel k o p b hk g M).2.1 (q b w).1⟩
 ·obtain ⟨y,j,c,t,z,l⟩:=H.cel k o p b n r s;have f:=(zGS.1 l).1;exact ⟨y,λC=>(R b C).elim j (by omega),c,t,z,(e.block b f λd=>j (q b d).1).trans l⟩
def BP.foreign (q:AQ G A B)(a: ∀ b,G b -> v b/\ Γ.ng<=b)(R: ∀ b,x b -> v b∨A.heap.size<=b):BP (MS v h ρ) A ρ (MS x h ρ) B ρ:=
 ⟨λb p c _=>q.block b p λd=>c (.inl (a b d).1),λb e=>e.elim (λh=>(R b h).imp .inl id) (λh=>.inl (.inr h)),λ_ _ h=>h⟩
def Iz (fr:List DV)(V:List Tmp)(x:List DV):List DV:=(V.zip x).foldl (λt q=>t.set q.1 q.2) fr
variable {w:World}{M:Ψ}
def o9 : ∀ (V:List Tmp) (x:List DV) (v:List Value) {fr:List DV} {t:Array Value},x.length=v.length -> (∀ j,j<x.length -> AL M w (x.getD j .any) ρ (v.getD j undef)) -> BE M w ρ fr t ->
 BE M w ρ (Iz fr V x) ((V.zip v).foldl (λt (q:Tmp×Value)=>t.setIfInBounds q.1 q.2) t)
 | [],_,_,_,_,_,_,h=>h
 | _::_,[],[],_,_,_,_,h=>h
 | p::V,d::x,u::v,_,_,m,a,h=>o9 V x v (Nat.succ.inj m) (λj e=>a (j+1) (Nat.succ_lt_succ e)) (h.set p (a 0 (Nat.succ_pos _)))
variable {W:World}{R:Ψ}
def YV.rep {ds:List DV}{args:Array Value}(h:YV ds R W args)(X: ∀ b,M b -> b<W.heap.size/\ ¬ R b)(ρ:List AI): ∀ j,j<ds.length -> AL M W (ds.getD j .any) ρ (args.toList.getD j undef):=λj a=>by
 have e:args.toList.getD j undef=args.getD j undef:=by simp_all
 rw [e];exact (h.2 j a).out _ ⟨λ_ _ _ _=>rfl,λb c=>.inl (X b c),λk p hk=>by simp at hk⟩
def C4 (K:Nat):DV -> Bool
 | .ref k _=>decide (k<K)
 | .msl k _ _ _=>decide (k<K)
 | .mse k _ _ _=>decide (k<K)
 | .mri k _=>decide (k<K)
 | .mp k _ _ _=>decide (k<K)
 | .it k=>decide (k<K)
 | .agg m f=>(List.range m).all λj=>C4 K (f j)
 | .tup m f=>(List.range m).all λj=>C4 K (f j)
 | .fn _ m f=>(List.range m).all λj=>C4 K (f j)
 | _=>true
variable {K:Nat}
def TE {α:Type}{l:List α}{k:Nat}{x:α}(hk:k<K)(h:l[k]? =some x):(l.take K)[k]? =some x:=by grind
def AL.take : ∀ (d:DV) {ρ:List AI} {v:Value},C4 K d=true -> AL M w d ρ v -> AL M w d (ρ.take K) v:=by
 intro d
 induction d with
 | ref k j=>rintro ρ v c ⟨p,h,e⟩;exact ⟨p,TE (zIe c) h,e⟩
 | msl k m off n=>rintro ρ v c ⟨p,cap,h,e⟩;exact ⟨p,cap,TE (zIe c) h,e⟩
 | mp k m i j=>rintro ρ v c ⟨p,h,e⟩;exact ⟨p,TE (zIe c) h,e⟩
 | it k=>rintro ρ v c ⟨p,h,e⟩;exact ⟨p,TE (zIe c) h,e⟩
 | agg m f V=>
  rintro ρ v c ⟨cs,e,q,h⟩;exact ⟨cs,e,q,λj o=>let ⟨u,r,t⟩:=h j o;⟨u,r,V j (zGV.1 c j (zGX.2 o)) t⟩⟩
 | tup m f V=>
  rintro ρ v c ⟨cs,e,q,h⟩;exact ⟨cs,e,q,λj o=>let ⟨u,r,t⟩:=h j o;⟨u,r,V j (zGV.1 c j (zGX.2 o)) t⟩⟩
 | fn g m f V=>
  rintro ρ v c ⟨cs,e,q,h⟩;exact ⟨cs,e,q,λj o=>let ⟨u,r,t⟩:=h j o;⟨u,r,V j (zGV.1 c j (zGX.2 o)) t⟩⟩
 | yl l=>rintro ρ v _ h;exact h
 | cst u=>rintro ρ v _ h;exact h
 | mse k m off n=>rintro ρ v c ⟨p,a,cap,h,e⟩;exact ⟨p,a,cap,TE (zIe c) h,e⟩
 | mri k i=>rintro ρ v c ⟨p,vs,h,e⟩;exact ⟨p,vs,TE (zIe c) h,e⟩
 | any=>rintro ρ v _ h;trivial
 | nils=>rintro ρ v _ h;exact h
 | int k n=>rintro ρ v _ h;exact h
 | bool b=>rintro ρ v _ h;exact h
 | str s=>rintro ρ v _ h;exact h
 | ints l=>rintro ρ v _ h;exact h
 | bools l=>rintro ρ v _ h;exact h
 | sl m n f=>rintro ρ v _ h;exact h
 | fp m f=>rintro ρ v _ h;exact h
variable {fr:List DV}
def BE.take {t:Array Value}(h:BE M w ρ fr t)(hb:fr.all (C4 K)=true):BE M w (ρ.take K) fr t:=by
 refine ⟨h.1,λi hi=>AL.take _ ?_ (h.2 i hi)⟩
 grind
def BP.weak {a:Ψ}{k:Ψ}{w':World}{ρ':List AI}(h:BP a w ρ k w' ρ')(X: ∀ b,a b -> M b):BP M w ρ k w' ρ':=
 ⟨λb c u=>h.blk b c λd=>u (X b d),λb e=>(h.m b e).imp (X b) id,h.pl⟩
structure RI (K:Nat)(P:Program)(Γ:Av)(N:Ψ)(h0:DH)(ρ0:List AI)(w0:World)(G R:Ψ)(W:World)(h:DH)(ρ:List AI):Prop where
 hr:Aq P Γ (λb=>N b∨G b) h ρ W
 upd:AQ (MO h0 ρ0) w0 W
 grow: ∀ b,MO h ρ b -> MO h0 ρ0 b∨w0.heap.size<=b
 g: ∀ b,G b -> Γ.ng<=b/\ (MO h0 ρ0 b∨w0.heap.size<=b)
 r: ∀ b,R b -> ¬ N b/\ ¬ MO h ρ b
 kept:CA K ρ0 ρ
variable {w0:World}{ρ0:List AI}{h0:DH}{N:Ψ}
def RI.off (hR:RI K P Γ N h0 ρ0 w0 G R W h ρ): ∀ b,MO h ρ b -> b<W.heap.size/\ ¬ N b/\ ¬ (G b∨R b):=λb v=>by
 obtain ⟨k,o,p,i,d,m⟩:=id v;obtain ⟨_,a,c,_,_,e⟩:=hR.hr.cel k o p b i d m;exact ⟨(zGS.1 e).1,λh=>a (.inl h),λh=>h.elim (λh=>a (.inr h)) λh=>(hR.r b h).2 v⟩
def RI.stable (Cn:Γ.ng<=w0.heap.size)(a: ∀ b,N b -> b<w0.heap.size/\ ¬ MO h0 ρ0 b):Cz λG R W=>RI K P Γ N h0 ρ0 w0 G R W h ρ:=λG R G' R' A B hR q j c _ _ d=>by
 have hs:w0.heap.size<=A.heap.size:=hR.upd.size;refine ⟨hR.hr.foreign q (λb hx=>⟨.inr hx,(hR.g b hx).1⟩) (λb hx=>?_) (λb hx=>?_),hR.upd.comp q λi hi hx=>(hR.g i hx).2.resolve_right (by omega),hR.grow,λb hx=>?_,λb hx=>?_,hR.kept⟩
 ·grind
 ·rcases hx with hx | hx
  ·exact ⟨zGb (hR.hr.nlt b (.inl hx)).1 q.size,(hR.hr.nlt b (.inl hx)).2⟩
  ·exact ⟨d b (.inl hx),(j b hx).elim (λh=>(hR.g b h).1) (λh=>by omega)⟩
 ·rcases j b hx with hx | hx
  ·exact hR.g b hx
  grind
 ·rcases c b hx with hx | hx | hx
  ·exact hR.r b hx
  ·exact ⟨λu=>(hR.g b hx).2.elim (a b u).2 (by have:=(a b u).1;omega),λv=>(hR.off b v).2.2 (.inl hx)⟩
  ·exact ⟨λu=>by have:=(a b u).1;omega,λv=>by have:=(hR.off b v).1;omega⟩
def RI.outl {r:Ψ}(R:RI K P Γ N h0 ρ0 w0 G r W h ρ):BP (MS N h0 ρ0) w0 (ρ0.take K) (MS (λb=>N b∨G b) h ρ) W ρ:=
 ⟨λb a v _=>R.upd.block b a λd=>v (.inr d),λb hb=>by
  rcases hb with (hb | hb) | hb
  ·exact .inl (.inl hb)
  ·exact (R.g b hb).2.imp .inr id
  ·exact (R.grow b hb).imp .inr id,λk p hk=>by
  rw [zMy] at hk
  by_cases e:k<K
  ·rw [zEd e] at hk;exact R.kept k p e hk
  ·rw [zGW e] at hk;cases hk⟩
def KR:Exit -> Option Code
 | .ret=>some .ret
 | .exit id=>some (.exit id)
 | _=>none
def Tw (L:Nat)(J:DH -> Prop)(W:Exit -> DH -> Prop)(e:Exit)(S:St):Prop:=∃ M,A7 L S M/\ ((e= .normal/\ J M.h)∨((KR e).isSome=true/\ W e M.h))
def mL (P:Program)(Γ:Av)(fr:List DV)(V:List Tmp)(a T:Code)(L:Nat)(J:Nat -> DH -> Prop)(W:Exit -> DH -> Prop)(encs:List (List DV)):Prop:= ∀ (l B:Nat) (Y:BK P Γ L) (i:Nat) (x:List DV) (h:DH),encs[i]? =some x -> J i h -> Tr P Γ (Fence.wide.inRound l) (some B) L Y a ⟨Iz fr V x,h⟩ (RO (λS' I=>I=Y/\ ∀ b:BK P Γ L,Tr P Γ (Fence.wide.inRound l) (some B) L b T S' (stay b (Tw L (J (i+1)) W))) (λ_ _ _=>False))
def xP (L:Nat)(J:DH -> Prop)(W:Exit -> DH -> Prop)(R:List PanicEntry -> DH -> Prop)(e:Exit)(S:St):Prop:=Tw L J W e S∨∃ c M,e= .panic c/\ A7 L S M/\ PZ M.h/\ R c M.h
def dL (P:Program)(Γ:Av)(fr:List DV)(V:List Tmp)(a T:Code)(L:Nat)(J:Nat -> DH -> Prop)(W:Exit -> DH -> Prop)(R:List PanicEntry -> DH -> Prop)(encs:List (List DV)):Prop:= ∀ (l B:Nat) (Y:BK P Γ L) (i:Nat) (x:List DV) (h:DH),encs[i]? =some x -> J i h -> Tr P Γ (Fence.wide.inRound l) (some B) L Y a ⟨Iz fr V x,h⟩ (RO (λS' I=>I=Y/\ ∀ b:BK P Γ L,Tr P Γ (Fence.wide.inRound l) (some B) L b T S' (stay b (xP L (J (i+1)) W R))) (λ_ _ _=>False))
variable {encs:List (List DV)}{J:Nat -> DH -> Prop}{T:Code}
def mL.p {V:List Tmp}{a:Code}{L:Nat}{W:Exit -> DH -> Prop}(g:mL P Γ fr V a T L J W encs)(R:List PanicEntry -> DH -> Prop):dL P Γ fr V a T L J W R encs:=λl B Y i x h j k=>by
 refine Tr.mono (g l B Y i x h j k) λe o Y2 b=>?_
 cases e with
 | normal=>exact ⟨b.1,λd=>Tr.mono (show Tr P Γ (Fence.wide.inRound l) (some B) L d T o (stay d (Tw L (J (i+1)) W)) from b.2 d) λe S3 Y3 f=>⟨f.1,.inl f.2⟩⟩
 | ret=>exact b.elim
 | exit id=>exact b.elim
 | goto t=>exact b.elim
 | panic c=>exact b.elim
 | outgrown=>exact b.elim
abbrev RJ (P:Program)(Γ:Av)(N:Ψ)(h0:DH)(ρ:List AI)(w:World)(KK:Nat)(J:Nat -> DH -> Prop)(i:Nat)(G R:Ψ)(W:World):Prop:=∃ h ρ',J i h/\ RI KK P Γ N h0 ρ w G R W h ρ'
abbrev RX (P:Program)(Γ:Av)(N:Ψ)(h0:DH)(ρ:List AI)(w:World)(KK:Nat)(Jx:Exit -> DH -> Prop)(c:Code)(G R:Ψ)(W:World):Prop:=∃ e,KR e=some c/\ ∃ h ρ',Jx e h/\ RI KK P Γ N h0 ρ w G R W h ρ'
abbrev xQ (P:Program)(Γ:Av)(N:Ψ)(h0:DH)(ρ:List AI)(w:World)(KK:Nat)(Jp:List PanicEntry -> DH -> Prop)(c:List PanicEntry)(G R:Ψ)(W:World):Prop:=∃ h ρ',Jp c h/\ RI KK P Γ N h0 ρ w G R W h ρ'
variable {KK:Nat}
def RI.shut {q:World}(hR:RI KK P Γ N h0 ρ0 w0 G R W h ρ)(hi:PZ h){B:Nat}(d:Γ.ng<=w0.heap.size)(I:w0.heap.size<=B)(k:Mw B W q):RI KK P Γ N h0 ρ0 w0 G R q h ρ:=
 ⟨(AS.shut (S:=⟨[],h⟩) (a:={ tmps:=#[],defers:=[] }) ⟨hR.hr,rfl,λi hi=>absurd hi (zGa i)⟩ hi (zGU d I) k).hr,hR.upd.comp k λi hi b=>absurd b.1 (by omega),hR.grow,hR.g,hR.r,hR.kept⟩
def fc {S:St}{a:Act}(Q:AS P Γ N S ρ a w)(hN: ∀ b,N b -> b<w.heap.size/\ ¬ MO h0 ρ b)(hh: ∀ b,MO h0 ρ b -> MO S.h ρ b){V:Array Tmp}{j:Code}{H:Exit -> DH -> Prop}{Jp:List PanicEntry -> DH -> Prop}(CH:S.fr.all (C4 KK)=true) 
 (DS:dL P Γ S.fr V.toList j T KK J H Jp encs) (l:Nat):Xh P YV encs V j T a l (RJ P Γ N h0 ρ w KK J) (RX P Γ N h0 ρ w KK H) (xQ P Γ N h0 ρ w KK Jp):=by
 rintro G R i x args W n hE ⟨h,ρ1,hJ,hR⟩ hS hl KD;have Cn:Γ.ng<=w.heap.size:=Γ.lo _ Q.hr.gi
 have hM: ∀ {h:DH} {ρ1:List AI} {W:World},RI KK P Γ N h0 ρ w G R W h ρ1 -> ∀ b,MS (λb=>N b∨G b) h ρ1 b -> b<W.heap.size/\ ¬ R b:=λhR b hb=>by
  rcases hb with (hb | hb) | hb
  ·exact ⟨(hR.hr.nlt b (.inl hb)).1,λh=>(hR.r b h).1 hb⟩
  ·exact ⟨(hR.hr.nlt b (.inr hb)).1,hS.dis b hb⟩
  ·exact ⟨(hR.off b hb).1,λh=>(hR.off b hb).2.2 (.inr h)⟩
 have WD:BP (MS N S.h ρ) w (ρ.take KK) (MS (λb=>N b∨G b) h ρ1) W ρ1:=hR.outl.weak (λb hb=>hb.imp id (hh b))
 have Lc:BE (MS (λb=>N b∨G b) h ρ1) W ρ1 (Iz S.fr V.toList x) ((V.zip args).foldl (λt (p,v)=>t.setIfInBounds p v) a.tmps):=by
  have:=o9 V.toList x args.toList (by simpa using hE.1) (hE.rep (hM hR) ρ1) ((Q.fr.take CH).out WD)
  grind [Array.toList_zip]
 have step: ∀ {G R:Ψ} {W o:World} {h h':DH} {ρ1 ρ2:List AI},RI KK P Γ N h0 ρ w G R W h ρ1 -> (∀ b,R b -> b<W.heap.size) -> Aq P Γ (λb=>N b∨G b) h' ρ2 o -> A3 h ρ1 W h' ρ2 o -> CA KK ρ1 ρ2 -> RI KK P Γ N h0 ρ w G R o h' ρ2:=by
  intro G R W o h h' ρ1 ρ2 hR O CG st hk;have hs:=hR.upd.size;exact ⟨CG,hR.upd.comp st.upd λb hb q=>(hR.grow b q).resolve_right (by omega),λb hb=>(st.grow b hb).elim (hR.grow b) λh=>.inr (by omega),hR.g,λb hb=>⟨(hR.r b hb).1,λq=>(st.grow b q).elim (hR.r b hb).2 (by have:=O b hb;omega)⟩,hR.kept.trans hk⟩
 have bR: ∀ b,R b -> b<W.heap.size:=λb h=>hS.lt b (.inr h)
 have bd:Bd (Fence.wide.inRound l) (some W.heap.size) W:=⟨λb e=>by cases e;exact zGd _,λl' e=>by cases e;exact hl⟩;refine zMb (DS l W.heap.size (RU P Γ KK (λb=>N b∨G b) h ρ1 W) i x h n hJ _ ρ1 _ W ⟨hR.hr,Lc⟩ ⟨rfl,A3.refl _ _ _,CA.refl _ _⟩ trivial bd) ?_;rintro e U L ⟨S',ρ2,N2,Y2,z,h2,K,h4,_⟩;cases e with
 | normal=>
  obtain ⟨rfl,z⟩:=z;obtain ⟨rfl,K,h5⟩:=K;refine ⟨λG' R' o=>RI KK P Γ N h0 ρ w G' R' o S'.h ρ2/\ BE (MS (λb=>N b∨G' b) S'.h ρ2) o ρ2 S'.fr U.tmps/\ Ed W.heap.size U.defers o/\ L.heap.size<=o.heap.size/\ (∀ b,G' b -> b<W.heap.size∨L.heap.size<=b)/\ (∀ d∈U.defers,∀ D,d.target= .collected D -> D<L.heap.size)/\ (∀ b,R' b -> b<o.heap.size),?_,K.upd.mono λb _ q=>(hR.off b q).2.2,⟨step hR bR h2.hr K h5,h2.fr,h4,zGd _,λb X=>.inl (hR.hr.nlt b (.inr X)).1,λd hd D ht=>Ed.lt h4 hd ht,λb hb=>zGb (bR b hb) K.upd.size⟩,?_⟩
  ·rintro G1 R1 G2 R2 A C ⟨B,q2,q3,q4,q5,q6,q7⟩ Y X hr IX hd hb;have hR2:=RI.stable Cn hN _ _ _ _ _ _ B Y X hr IX hd hb;refine ⟨hR2,q2.out (BP.foreign (Γ:=Γ) Y (λb n=>⟨.inr n,(B.g b n).1⟩) λb n=>?_),?_,zGU q4 Y.size,λb n=>(X b n).elim (q5 b) (λh=>.inr (by omega)),q6,λb h=>hb b (.inr h)⟩
   ·grind
   ·have go: ∀ {ds:List Deferred},Ed W.heap.size ds A -> (∀ d∈ds,∀ D,d.target= .collected D -> D<L.heap.size) -> Ed W.heap.size ds C:=by
     intro ds
     induction ds with
     | nil=>intros;trivial
     | cons d ds ih=>
      rintro ⟨D,f,Z,m,r4,M⟩ O;have hD:D<L.heap.size:=O d (by simp) D (by rw [f]);refine ⟨D,f,Z,(Y.block D (zGS.1 m).1 λn=>?_).trans m,r4,ih M λd' Hl=>O d' (by simp [Hl])⟩;rcases q5 D n with h | h <;> omega
    exact go q3 q6
  ·rintro E ⟨B,q2,q3,q4,q5,q6,q7⟩ Cb;have bd2:Bd (Fence.wide.inRound l) (some W.heap.size) E:=⟨λb e=>by cases e;exact zGU K.upd.size q4,λl' e=>by cases e;exact Cb⟩;refine zMb (z (RU P Γ KK (λb=>N b∨G b) S'.h ρ2 E) _ ρ2 U E ⟨B.hr,q2⟩ ⟨rfl,A3.refl _ _ _,CA.refl _ _⟩ q3 bd2) ?_;rintro e a3 u ⟨S3,ρ3,N3,Y3,f,Z,m,r4,_⟩
   have s: ∀ e,(RU P Γ KK (λb=>N b∨G b) S'.h ρ2 E).I N3 S3.h ρ3 u -> Tw KK (J (i+1)) H e S3 -> AQ (λk=>¬ (G k∨R k)) E u/\ ((e= .normal/\ RJ P Γ N h0 ρ w KK J (i+1) G R u)∨((KR e).isSome=true/\ ∃ h ρ',H e h/\ RI KK P Γ N h0 ρ w G R u h ρ')):=by
    rintro e r0 ⟨S4,Bg,hJ4⟩;obtain ⟨rfl,m,M⟩:=r0;obtain ⟨ρ4,R4,s4,k4⟩:=Bg P Γ _ ρ3 a3 u Z;have ay:=step B q7 R4.hr (m.trans s4) (M.trans k4);exact ⟨m.upd.mono λb _ q=>(B.off b q).2.2,hJ4.imp (λ⟨x,y⟩=>⟨x,S4.h,ρ4,y,ay⟩) (λ⟨x,y⟩=>⟨x,S4.h,ρ4,y,ay⟩)⟩
   have E2: ∀ {e c},KR e=some c -> (RU P Γ KK (λb=>N b∨G b) S'.h ρ2 E).I N3 S3.h ρ3 u -> Tw KK (J (i+1)) H e S3 -> AQ (λk=>¬ (G k∨R k)) E u/\ RX P Γ N h0 ρ w KK H c G R u:=λhe m f=>by
    obtain ⟨o1,F⟩:=s _ m f;rcases F with ⟨rfl,_⟩ | ⟨_,F⟩
    ·cases he
    ·exact ⟨o1,_,he,F⟩
   cases e with
   | normal=>
    obtain ⟨rfl,f⟩:=f;obtain ⟨o1,F⟩:=s _ m (f.resolve_right (by rintro ⟨_,_,h,_⟩;cases h));rcases F with ⟨_,F⟩ | ⟨F,_⟩
    ·exact ⟨o1,F⟩
    ·cases F
   | ret=>obtain ⟨rfl,f⟩:=f;exact E2 rfl m (f.resolve_right (by rintro ⟨_,_,h,_⟩;cases h))
   | exit id=>obtain ⟨rfl,f⟩:=f;exact E2 rfl m (f.resolve_right (by rintro ⟨_,_,h,_⟩;cases h))
   | goto t=>
    obtain ⟨rfl,f⟩:=f;obtain ⟨o1,F⟩:=s _ m (f.resolve_right (by rintro ⟨_,_,h,_⟩;cases h));rcases F with ⟨F,_⟩ | ⟨F,_⟩ <;> cases F
   | panic c=>
    obtain ⟨rfl,f⟩:=f;rcases f with f | ⟨c',S4,he,Bg,hni,hjp⟩
    ·obtain ⟨o1,F⟩:=s _ m f;rcases F with ⟨F,_⟩ | ⟨F,_⟩ <;> cases F
    ·cases he;obtain ⟨rfl,m,M⟩:=m;obtain ⟨ρ4,R4,s4,k4⟩:=Bg P Γ _ ρ3 a3 u Z;have ay:=step B q7 R4.hr (m.trans s4) (M.trans k4);refine ⟨W.heap.size,r4,λW4 IZ=>⟨(m.upd.mono λb _ q=>(B.off b q).2.2).comp IZ λk _ n hgr=>?_,S4.h,ρ4,hjp,ay.shut hni Cn hR.upd.size IZ⟩⟩;have:=hS.lt k hgr;have:=n.1;omega
   | outgrown=>exact f.elim
 | ret=>exact z.elim
 | exit id=>exact z.elim
 | goto t=>exact z.elim
 | panic c=>exact z.elim
 | outgrown=>exact z.elim
section
variable {N:Ψ} {S:St} {ρ:List AI} {a:Act} {w:World} {G R:Ψ} {W:World} {h h0:DH} {ρ':List AI} {KK:Nat}
def RI.hrel (hR:RI KK P Γ N h0 ρ w G R W h ρ'):Aq P Γ N h ρ' W:=
 hR.hr.foreign (G:=λ_=>False) (AQ.refl _ _) (λ_ h=>h.elim) (λb c=>.inl (.inl c)) λb c=>hR.hr.nlt b (.inl c)
def RI.frame (hR:RI KK P Γ N h0 ρ w G R W h ρ')(Q:AS P Γ N S ρ a w)(y: ∀ b,MO h0 ρ b -> MO S.h ρ b)(l:S.fr.all (C4 KK)=true):BE (MS N h ρ') W ρ' S.fr a.tmps:=
 ((Q.fr.take l).out (hR.outl.weak λb c=>c.imp id (y b))).out (D4 (λb c=>c.imp .inl id) ρ')
end
variable {V:Array Tmp}{g:Operand}{S:St}{L:Nat}{F:Fence}
def Tr.range (KL:F=Fence.wide∨∃ l,F=Fence.wide.inRound l){B:Nat}{Y:BK P Γ L}{f T:Code}{Q:QY P Γ L}{k:Nat}{encs:List (List DV)}(J:Nat -> DH -> Prop)(Z:Exit -> DH -> Prop) 
 (hg:AZ S.fr g= .it k) (hk:S.h[k]? =some (some (.iter encs))) (Ea: ∀ x∈encs,x.length=V.size) {KK:Nat} (hL:L<=KK) (CH:S.fr.all (C4 KK)=true) (h0:J 0 (S.h.set k none))
 (DS:mL P Γ S.fr V.toList f T KK J Z encs) (EA: ∀ h,J encs.length h -> Q .normal ⟨S.fr,h⟩ Y) (Nw: ∀ e h,(KR e).isSome=true -> Z e h -> Q e ⟨S.fr,h⟩ Y):Tr P Γ F (some B) L Y (.rangeFunc g V f T) S Q:=λN ρ a w R y m b=>by
 have O:=BV R g;rw [hg] at O;obtain ⟨p,q,hv⟩:=O;obtain ⟨p',BG,gf,lb,Rd,⟨e1,e2⟩,n,j,s⟩:=R.hr.obj k _ hk;have ep:p'=p:=zGT (BG.symm.trans q);subst ep;have tq:a.eval g= .func (.func gf) #[] lb:=hv.trans e1;have Cn:Γ.ng<=w.heap.size:=Γ.lo _ R.hr.gi;have kK: ∀ b,p'.foot b -> MO S.h ρ b:=λb hb=>⟨k,_,p',hk,q,hb⟩
 have U: ∀ b,N b -> b<w.heap.size/\ ¬ MO S.h ρ b:=λb hb=>⟨(R.hr.nlt b hb).1,λ⟨k,o,p,K,n,j⟩=>(R.hr.cel k o p b K n j).2.1 hb⟩
 have IZ:ED p'.foot Rd w:=⟨λb hb hr=>(j b hr).1 (.inr (kK b hb)),λb hb=>hb.elim (s b) λh=>(j b h).2⟩
 have bU:RJ P Γ N S.h ρ w KK J 0 p'.foot Rd w:=by
  refine ⟨S.h.set k none,ρ,h0,?_,AQ.refl _ _,λb hb=>.inl (MO.kill hb),λb hb=>⟨(R.hr.cel k _ p' b hk q hb).1,.inl (kK b hb)⟩,λb hb=>⟨λhn=>(j b hb).1 (.inl hn),λhm=>(j b hb).1 (.inr (MO.kill hm))⟩,CA.refl _ _⟩;have H1:Aq P Γ N (S.h.set k none) ρ w:=R.hr.kill k
  have LO: ∀ b,MS (λb=>N b∨p'.foot b) (S.h.set k none) ρ b -> MS N S.h ρ b:=λb hb=>by
   rcases hb with (hb | hb) | hb
   ·exact .inl hb
   ·exact .inr (kK b hb)
   ·exact .inr (MO.kill hb)
  refine ⟨H1.len,λi o hi=>?_,λi o p2 b g1 g2 g3=>?_,H1.dis,λb hb=>hb.elim (R.hr.nlt b) λh=>⟨s b h,(R.hr.cel k _ p' b hk q h).1⟩,R.hr.gi⟩
  ·obtain ⟨AY,X⟩:=La hi;obtain ⟨p2,QH,hr⟩:=R.hr.obj i o X;exact ⟨p2,QH,hr.out (D4 LO ρ) (S:=λ_=>False) (AQ.refl _ _) (λ_ h=>h.elim) λ_ _ _ h=>h⟩
  ·obtain ⟨AY,X⟩:=La g1;obtain ⟨c1,c2,c3⟩:=R.hr.cel i o p2 b X g2 g3;exact ⟨c1,λhb=>hb.elim c2 λhb=>R.hr.dis i k o _ p2 p' b AY X hk g2 q g3 hb,c3⟩
 have hst: ∀ i,Cz (RJ P Γ N S.h ρ w KK J i):=λi G R' G' R2 A C ⟨h,ρ',d,r⟩ K n j s q5 q6=>⟨h,ρ',d,RI.stable Cn U _ _ _ _ _ _ r K n j s q5 q6⟩
 have ar: ∀ c,Cz (RX P Γ N S.h ρ w KK Z c):=λc G R' G' R2 A C ⟨e,I,h,ρ',d,r⟩ K n j s q5 q6=>⟨e,I,h,ρ',d,RI.stable Cn U _ _ _ _ _ _ r K n j s q5 q6⟩
 have stp: ∀ {G R':Ψ} {W:World} {h:DH} {ρ':List AI},RI KK P Γ N S.h ρ w G R' W h ρ' -> A3 S.h ρ w h ρ' W:=λhR=>⟨hR.upd,hR.grow⟩
 have u: ∀ {G R':Ψ} {W:World} {h:DH} {ρ':List AI},RI KK P Γ N S.h ρ w G R' W h ρ' -> CA L ρ ρ':=λhR k p hk q=>hR.kept k p (zGb hk hL) q
 have tK: ∀ x∈encs,∀ R W args,YV x R W args -> args.size=V.size:=λx O R W args h=>h.1.symm.trans (Ea x O)
 have z: ∀ {G R':Ψ} {W:World} {h:DH} {ρ':List AI} {a':Act},RI KK P Γ N S.h ρ w G R' W h ρ' -> a'.tmps=a.tmps -> AS P Γ N ⟨S.fr,h⟩ ρ' a' W:=λhR e=>⟨hR.hrel,by rw [e];exact hR.frame (S:=S) R (λ_ h=>h) CH⟩
 rcases KL with rfl | ⟨l0,rfl⟩
 ·have mk: ∀ {D:Nat} {G R':Ψ} {W:World} {h:DH} {ρ':List AI},RI KK P Γ N S.h ρ w G R' W h ρ' -> W.heap[D]? =some (.deferred (some [])) -> w.heap.size<=D -> Ed B ({ target:=.collected D,args:=#[] }::a.defers) W:=λ{D G R' W h ρ'} hR E H=>
   ⟨D,rfl,zGU (b.le _ rfl) H,E,λd' Hl ht=>by have:=Ed.lt m Hl ht;omega,Vn R.hr (stp hR) m⟩
  refine xe tq e2 n.gen IZ tK _ _ _ hst ar (λc G R' G' R2 A C ⟨h,ρ',d,r⟩ _ _ _ _ _ _=>d.elim) (λh=>h.elim) (λc G R W ⟨h,ρ',d,r⟩=>d.elim) bU (fc R U (λ_ h=>h) CH (DS.p λ_ _=>False)) ?_ ?_
  ·rintro D e G R' own W W' ⟨v,rfl⟩ ⟨h,ρ',d,hR⟩ _ _ _ E H;exact ⟨⟨S.fr,h⟩,ρ',N,Y,EA h d,z hR rfl,Y.st y R.hr hR.hrel (stp hR) (u hR),mk hR E H,b.step R.hr (stp hR)⟩
  ·rintro D c G R' W ⟨e,I,h,ρ',d,hR⟩ E H;have M:=Nw e h (by rw [I];rfl) d;cases e with
   | ret=>cases I;exact zNe ⟨⟨S.fr,h⟩,ρ',N,Y,M,z hR rfl,Y.st y R.hr hR.hrel (stp hR) (u hR),mk hR E H,b.step R.hr (stp hR)⟩
   | exit id=>cases I;exact wpIn_exit ⟨⟨S.fr,h⟩,ρ',N,Y,M,z hR rfl,Y.st y R.hr hR.hrel (stp hR) (u hR),mk hR E H,b.step R.hr (stp hR)⟩
   | normal=>cases I
   | goto t=>cases I
   | panic c=>cases I
   | outgrown=>cases I
 ·refine xf tq e2 (b.rd l0 rfl) n.gen IZ tK _ _ _ hst ar (λc G R' G' R2 A C ⟨h,ρ',d,r⟩ _ _ _ _ _ _=>d.elim) (λh=>h.elim) (λc G R W ⟨h,ρ',d,r⟩=>d.elim) bU (fc R U (λ_ h=>h) CH (DS.p λ_ _=>False)) ?_ ?_
  ·rintro e G R' own W W' ⟨v,rfl⟩ ⟨h,ρ',d,hR⟩ _ _ _;exact ⟨⟨S.fr,h⟩,ρ',N,Y,EA h d,z hR rfl,Y.st y R.hr hR.hrel (stp hR) (u hR),Vn R.hr (stp hR) m,b.step R.hr (stp hR)⟩
  ·rintro c G R' W ⟨e,I,h,ρ',d,hR⟩;have M:=Nw e h (by rw [I];rfl) d;cases e with
   | ret=>cases I;exact zNe ⟨⟨S.fr,h⟩,ρ',N,Y,M,z hR rfl,Y.st y R.hr hR.hrel (stp hR) (u hR),Vn R.hr (stp hR) m,b.step R.hr (stp hR)⟩
   | exit id=>cases I;exact wpIn_exit ⟨⟨S.fr,h⟩,ρ',N,Y,M,z hR rfl,Y.st y R.hr hR.hrel (stp hR) (u hR),Vn R.hr (stp hR) m,b.step R.hr (stp hR)⟩
   | normal=>cases I
   | goto t=>cases I
   | panic c=>cases I
   | outgrown=>cases I
def Ch {α σ:Type}(f:α -> σ -> Option (σ×Nat)):List α -> σ -> Option (σ×Nat)
 | [],s=>some (s,0)
 | x::l,s=>(f x s).bind λr=>bif r.2==0 then Ch f l r.1 else some r
def CO {α σ:Type}(f:α -> σ -> Option σ):List α -> σ -> Option σ
 | [],s=>some s
 | x::l,s=>(f x s).bind (CO f l)
variable {α σ:Type}
def ur (f:α -> σ -> Option σ): ∀ (l:List α) (s:σ),Ch (λx s=>(f x s).map λh=>(h,0)) l s=(CO f l s).map λh=>(h,0)
 | [],s=>rfl
 | x::l,s=>by
  simp only [Ch,CO];cases f x s with
  | none=>rfl
  | some h=>exact ur f l h
def C0 (L:Nat)(T:List Exit)(c:Nat)(h':DH)(e:Exit)(S:St):Prop:=(Exit.normal::T)[c]? =some e/\ ∃ M,A7 L S M/\ M.h=h'
def HF (P:Program)(Γ:Av)(F:Fence)(B:Option Nat)(L:Nat)(N:BK P Γ L)(Q:Exit -> St -> Prop)(J T:Code)(S:St):Prop:= Tr P Γ F B L N J S (RO (λS' I=>I=N/\ ∀ x:BK P Γ L,Bi P Γ F B L x Q [.code T] S') (λ_ _ _=>False))
variable {a:Code}
def HF.go {B:Option Nat}{N:BK P Γ L}{Q:Exit -> St -> Prop}(R:Dv F P)(v:P.follows .mixedOrders=true){J:Code}(K:BX)(n:Nat)(o:BQ)(d σ:Θ)(fr:List DV)(h':DH)(vs:List Prop) 
 (h:(CN P Γ K n [.code J] S o).map (Vf d σ L)=some (.at [],fr,h',vs,[],[],true)) (p:Bq vs) (hk: ∀ x:BK P Γ L,Bi P Γ F B L x Q [.code a] ⟨fr,h'⟩):HF P Γ F B L N Q J a S:=by
 obtain ⟨S',_,i,k⟩:=zD3 h;have T:=GE (F:=F) (B:=B) (L:=L) (Y:=N) (Q:=λe f g=>e= .normal/\ g=N/\ ∀ x:BK P Γ L,Bi P Γ F B L x Q [.code a] f) R v n [.code J] S o _ _ _ _ i p ⟨rfl,rfl,λx=>Bi.le k rfl (hk x)⟩;refine Tr.mono (show Tr P Γ F B L N J S _ from T) λe f g b=>?_
 cases e with
 | normal=>exact b.2
 | ret=>exact absurd b.1 (by simp)
 | exit id=>exact absurd b.1 (by simp)
 | goto t=>exact absurd b.1 (by simp)
 | panic c=>exact absurd b.1 (by simp)
 | outgrown=>exact absurd b.1 (by simp)
def Bi.rangeFold (w:F=Fence.wide∨∃ l,F=Fence.wide.inRound l){B:Nat}{Y:BK P Γ L}{Q:QY P Γ L}{J:Code}{k:List KI}{n:Nat}(b:List Exit)(KE:(b.all λe=>(KR e).isSome)=true)(enc:α -> List DV)(l:List α)(H:σ -> DH)(f:α -> σ -> Option (σ×Nat)){G:σ}{rE:σ×Nat}(z:Ch f l G=some rE) 
 (A:AZ S.fr g= .it n) (hk:S.h[n]? =some (some (.iter (l.map enc)))) (Ea: ∀ x,(enc x).length=V.size) {K:Nat} (C:L<=K) (D:S.fr.all (C4 K)=true) (h0:S.h.set n none=H G)
 (E: ∀ (l B:Nat) (N:BK P Γ K) (x:α) (s:σ) (r:σ×Nat),f x s=some r -> HF P Γ (Fence.wide.inRound l) (some B) K N (C0 K b r.2 (H r.1)) J a ⟨Iz S.fr V.toList (enc x),H s⟩)
 (I: ∀ e,(Exit.normal::b)[rE.2]? =some e -> BF P Γ F (some B) L Q k e ⟨S.fr,H rE.1⟩ Y):A1 P Γ F (some B) L Y Q (.code (.rangeFunc g V J a)::k) S:=by
 refine Tr.range (Q:=BF P Γ F (some B) L Q k) (KK:=K) w (λi h=>∃ s,Ch f (l.drop i) s=some rE/\ h=H s) (λe h=>(Exit.normal::b)[rE.2]? =some e/\ h=H rE.1) A hk (λx j=>?_) C D ⟨G,z,h0⟩ ?_ ?_ ?_
 ·grind
 ·rintro l' u O i x h j ⟨s,m,rfl⟩;rw [zIL] at j;cases hy:l[i]? with
  | none=>rw [hy] at j;cases j
  | some y=>
   rw [hy] at j;cases j;have AU:=(zGq.1 hy).1
   have R:l.drop i=y::l.drop (i+1):=by
    grind [List.drop_eq_getElem_cons]
   rw [R] at m;obtain ⟨r,U,h2⟩:=Gg m;have T:=E l' u O y s r U
   have p: ∀ {e:Exit} {o:St},C0 K b r.2 (H r.1) e o -> Tw K (λh=>∃ s,Ch f (l.drop (i+1)) s=some rE/\ h=H s) (λe h=>(Exit.normal::b)[rE.2]? =some e/\ h=H rE.1) e o:=by
    rintro e o ⟨r1,M,W,r3⟩;refine ⟨M,W,?_⟩
    grind
   refine Tr.mono T λe o Y2 d=>?_
   cases e with
   | normal=>exact ⟨d.1,λq=>Tr.mono (show Tr P Γ (Fence.wide.inRound l') (some u) K q a o (stay q (C0 K b r.2 (H r.1))) from d.2 q) λe M Y3 v=>⟨v.1,p v.2⟩⟩
   | ret=>exact d.elim
   | exit id=>exact d.elim
   | goto t=>exact d.elim
   | panic c=>exact d.elim
   | outgrown=>exact d.elim
 ·rintro h ⟨s,m,rfl⟩;rw [zGh,zNI] at m;cases m;exact I .normal rfl
 grind
def TP {B:Option Nat}{Y:BK P Γ L}{Q:QY P Γ L}{id:Nat}(h:Q (.exit id) S Y): ∀ (k:List KI),J1 id k=none -> BF P Γ F B L Q k (.exit id) S Y
 | [],_=>h
 | .blk i::k,g=>by
  unfold J1 at g;split at g
  ·cases g
  ·rename_i e
   show (if id=i then _ else _)
   rw [zGW e];exact TP h k g
 | .code c::k,g=>TP (k:=k) h g
 | .lend J::k,g=>TP (k:=k) h g
 | .scp::k,g=>TP (k:=k) h g
 | .loopN m b::k,g=>TP (k:=k) h g
end
def L4 (t:Nat):Code -> Option (Array Tmp×Code×Code)
 | .rangeFunc (.tmp O) V a b=>if O=t then some (V,a,b) else L4 t b
 | .seq a b=>match L4 t a with
  | some r=>some r
  | none=>L4 t b
 | .cond _ a b=>match L4 t a with
  | some r=>some r
  | none=>L4 t b
 | .block _ c=>L4 t c
 | .loop c=>L4 t c
 | .scope c=>L4 t c
 | _=>none
def qN (f:Func)(t:Nat):Array Tmp×Code×Code:=match f.body with
 | some c=>(L4 t c).getD (#[],.skip,.skip)
 | none=>(#[],.skip,.skip)
def PI (f:Func)(t:Nat):Code:=(qN f t).2.2
def rgA (f:Func)(t:Nat):Code:=(qN f t).2.1
def AR (f:Func):Code:=f.body.getD .skip
def qr (id:Nat)(k:List KI):List KI:=(J1 id k).getD []
variable {L:Nat}{F:Fence}{Γ:Av}{P:Program}
def BF.exitTo {B:Option Nat}{Y:BK P Γ L}{Q:QY P Γ L}{id:Nat}{k:List KI}{S:St}(h:(J1 id k).isSome=true)(hk:A1 P Γ F B L Y Q (qr id k) S):BF P Γ F B L Q k (.exit id) S Y:=by
 unfold qr at hk;cases g:J1 id k with
 | none=>rw [g] at h;cases h
 | some k'=>rw [g] at hk;exact PN g hk
def PH:List KI -> Option (Operand×Array Tmp×Code×Code×List KI)
 | .code (.rangeFunc g V a b)::k=>some (g,V,a,b,k)
 | _=>none
variable {α σ:Type}{J B:Nat}{K:List KI}{h:DH}{fr:List DV}
def Bi.rangeAt (m:F=Fence.wide∨∃ l,F=Fence.wide.inRound l){Y:BK P Γ L}{Q:QY P Γ L}(T:List Exit)(p:(T.all λe=>(KR e).isSome)=true)(g:Operand)(V:Array Tmp)(a b:Code)(c:List KI)(enc:α -> List DV)(l:List α)(H:σ -> DH)(t:α -> List DV)(f:α -> σ -> Option (σ×Nat)){G:σ}{rE:σ×Nat}(M:Ch f l G=some rE) 
 (j:PH K=some (g,V,a,b,c)) (d:AZ fr g= .it J) (hk:h[J]? =some (some (.iter (l.map enc)))) (S: ∀ x,(enc x).length=V.size) (L':Nat) (i:Nat.ble L L'=true) (z:fr.all (C4 L')=true) (h0:h.set J none=H G) (k:(λx=>Iz fr V.toList (enc x))=t)
 (n: ∀ (l B:Nat) (N:BK P Γ L') (x:α) (s:σ) (r:σ×Nat),f x s=some r -> HF P Γ (Fence.wide.inRound l) (some B) L' N (C0 L' T r.2 (H r.1)) a b ⟨t x,H s⟩)
 (v: ∀ e,(Exit.normal::T)[rE.2]? =some e -> BF P Γ F (some B) L Q c e ⟨fr,H rE.1⟩ Y):A1 P Γ F (some B) L Y Q K ⟨fr,h⟩:=by
 unfold PH at j;split at j
 ·cases j;subst k;exact Bi.rangeFold m T p enc l H f M d hk S (zIi i) z h0 n v
 ·cases j
def Bi.rangeAt0 (m:F=Fence.wide∨∃ l,F=Fence.wide.inRound l){Y:BK P Γ L}{Q:QY P Γ L}(g:Operand)(V:Array Tmp)(a b:Code)(c:List KI)(enc:α -> List DV)(l:List α)(H:σ -> DH)(t:α -> List DV)(f:α -> σ -> Option σ){G E:σ}(M:CO f l G=some E) 
 (j:PH K=some (g,V,a,b,c)) (k:AZ fr g= .it J) (hk:h[J]? =some (some (.iter (l.map enc)))) (S: ∀ x,(enc x).length=V.size) (L':Nat) (n:Nat.ble L L'=true) (z:fr.all (C4 L')=true) (h0:h.set J none=H G) (o:(λx=>Iz fr V.toList (enc x))=t)
 (DS: ∀ (l B:Nat) (N:BK P Γ L') (x:α) (s r:σ),f x s=some r -> HF P Γ (Fence.wide.inRound l) (some B) L' N (C0 L' [] 0 (H r)) a b ⟨t x,H s⟩)
 (v:A1 P Γ F (some B) L Y Q c ⟨fr,H E⟩):A1 P Γ F (some B) L Y Q K ⟨fr,h⟩:=by
 refine Bi.rangeAt m [] rfl g V a b c enc l H t (λx s=>(f x s).map λd=>(d,0)) (rE:=(E,0)) (by rw [ur,M];rfl) j k hk S L' n z h0 o (λl' B' N' x s r i=>?_) (λe I=>?_)
 ·cases p:f x s with
  | none=>rw [p] at i;cases i
  | some d=>
   grind
 ·cases I;exact v
def OP (t:Nat):Θ -> Code -> List KI -> Option (List KI)
 | ms,.seq a b,k=>match OP t ms a (.code b::k) with
  | some r=>some r
  | none=>OP t ms b k
 | ms,.cond _ a b,k=>match OP t ms a k with
  | some r=>some r
  | none=>OP t ms b k
 | ms,.block i c,k=>OP t ms c (.blk i::k)
 | ms,.scope c,k=>OP t ms c (.scp::k)
 | m::ms,.loop b,k=>OP t ms b (.loopN m b::k)
 | _,.rangeFunc (.tmp O) V a b,k=>if O=t then some (.code (.rangeFunc (.tmp O) V a b)::k) else none
 | _,_,_=>none
def HE (c:Code)(t:Nat)(v:Θ):List KI:=(OP t v c []).getD []
def An (c:Code)(id:Nat)(v:Θ):List KI:=(OQ id v c []).getD []
def EP (c:Code)(id:Nat)(v:Θ):List KI:=(OR id v c []).getD []
end
abbrev L1 (l:List DV):Nat -> DV:=λj=>l.getD j .any
abbrev AK {α:Type} [Inhabited α] (c:α -> List DV) (l:List α):Nat -> Nat -> DV:=λi j=>(c (l.getD i default)).getD j .any
abbrev TU {α:Type}(c:α -> List DV):α -> Nat -> DV:=λx j=>(c x).getD j .any
def BW (c:AD):List DV:=[.int .i64 c.kind,.ints c.cells,.int .i64 c.set,.int .i64 c.other,.int .i64 c.lo,.int .i64 c.hi,.ints c.runs,.int .i64 c.rule,.int .i64 c.spot]
def AO (x:Ξ):List DV:=[.ints x]
def cx (x:Ω):List DV:=[.bools x]
def BS (x:Δ):List DV:=[.int .i64 x.1,.int .i64 x.2]
def AH (q:AA):List DV:=[.int .i64 q.cells,.int .i64 q.symbols,.ints q.values,.sl 1 q.nbrs.length (AK AO q.nbrs),.sl 9 q.cons.length (AK BW q.cons)]
abbrev oC (l:List DV):Option DO:=some (.cells l)
abbrev oI (l:Ξ):Option DO:=some (.ints l)
abbrev oW (c:AD)(q:AA)(pos:Ξ)(k ln:Nat):Option DO:=some (.cells (BW c++AH q++[.ints pos,.msl k 1 0 ln]))
abbrev zKJ:=@List.getElem_mem
abbrev zNJ:=@Nat.le_of_not_lt
section
structure Du (P:Program) where
 l:Nat
 encs:List (List DV)
 J:Nat -> (Ψ) -> (Ψ) -> World -> Prop
 Jx:(Ψ) -> (Ψ) -> World -> Prop
 hJ: ∀ i,Cz (J i)
 hJx:Cz Jx
 hy: ∀ i x args G R W1,encs[i]? =some x -> YV x R W1 args -> J i G R W1 -> ED G R W1 -> YieldAt Fence.wide 0 P l args W1 λe W'=>
  AQ (λk=>¬ (G k∨R k)) W1 W'/\ ((e= .returned (.bool true)/\ J (i+1) G R W')∨(e= .returned (.bool false)/\ Jx G R W'))
structure IY (Γ:Av)(N G R:Ψ)(h:DH)(ρ:List AI)(w:World):Prop where
 sh:ED G R w
 lo: ∀ b,b<Γ.ng -> R b
 own: ∀ b,MO h ρ b -> G b
 n: ∀ b,N b↔(b<w.heap.size/\ ¬ G b/\ ¬ R b)
def IY.ng {Γ:Av}{N G R:Ψ}{h:DH}{ρ:List AI}{w:World}(y:IY Γ N G R h ρ w){b:Nat}(c:N b):Γ.ng<=b:=zNJ λm=>((y.n b).1 c).2.2 (y.lo b m)
def Pu (P:Program)(Γ:Av)(L:Nat)(J:(Ψ) -> (Ψ) -> World -> Prop)(hJ:Cz J):BK P Γ L where
 I:=λN h ρ w=>∃ G R,J G R w/\ IY Γ N G R h ρ w
 st:=by
  rintro N h ρ w h' ρ' w' ⟨G,R,f,y⟩ H X st _;have a:=st.upd.size;have g: ∀ b,(G b∨(w.heap.size<=b/\ b<w'.heap.size)) -> ¬ R b:=λb hb i=>hb.elim (λh=>y.sh.dis b h i) λh=>by have:=y.sh.lt b (.inr i);omega
  have d: ∀ b,(G b∨(w.heap.size<=b/\ b<w'.heap.size))∨R b -> b<w'.heap.size:=λb hb=>by
   rcases hb with (hb | hb) | hb
   ·exact zGb (y.sh.lt b (.inl hb)) a
   ·exact hb.2
   ·exact zGb (y.sh.lt b (.inr hb)) a
  refine ⟨λb=>G b∨(w.heap.size<=b/\ b<w'.heap.size),R,hJ G R _ R w w' f (st.upd.mono λb _ hb=>y.own b hb) (λk hk=>hk.imp id λh=>h.1) (λk hk=>.inl hk) (λk hk=>hk.imp .inl id) g d,⟨g,d⟩,y.lo,λb hb=>?_,λb=>?_⟩
  ·rcases st.grow b hb with h | h
   ·exact .inl (y.own b h)
   ·obtain ⟨k,o,p,j,l,m⟩:=hb;obtain ⟨_,_,c,t,z,e⟩:=X.cel k o p b j l m
    grind
  ·rw [y.n]
   grind
section
variable {P:Program} {Γ:Av}
def Du.Y (C:Du P)(Γ:Av)(L i:Nat):BK P Γ L:=Pu P Γ L (C.J i) (C.hJ i)
def Du.X (C:Du P)(Γ:Av)(L:Nat):BK P Γ L:=Pu P Γ L C.Jx C.hJx
def Du.Q (C:Du P)(Γ:Av)(L:Nat):QY P Γ L:=λe _ Y=>(e= .normal∨e= .ret)/\ (Y=C.Y Γ L C.encs.length∨Y=C.X Γ L)
def T8 (P:Program)(Γ:Av)(ops:Array Oper)(p:Nat)(S:St)(N:BQ):Option (List DV×Nat×St×St×List Prop):=match EN P Γ ops (ops.toList.take p) S N with
 | none=>none
 | some (e,vs,a)=>match ops[p]? with
  | none=>none
  | some o=>match Kj ops e o with
   | some true=>match o.op with
    | .call c=>match c.callee with
     | .value f=>match AZ e.fr f with
      | .yl l=>match (c.args.toList.map (AZ e.fr)).all GD with
       | false=>none
       | true=>match EN P Γ ops (ops.toList.drop (p+1)) ⟨Co e.fr o.dst (.bool true),e.h⟩ a with
        | none=>none
        | some (ST,b,i)=>match EN P Γ ops (ops.toList.drop (p+1)) ⟨Co e.fr o.dst (.bool false),e.h⟩ i with
         | none=>none
         | some (B,d,_)=>some (c.args.toList.map (AZ e.fr),l,ST,B,vs++(b++d))
      | _=>none
     | _=>none
    | _=>none
   | _=>none
end
section
variable {P:Program} {Γ:Av} {N:Ψ} {S:St} {ρ:List AI} {a:Act} {w:World} {F:Fence}
variable {ops:Array Oper}
def TB (b:Dv F P)(x:DE ops=true){Q:Exit -> Act -> World -> Prop}{g:List Oper}: ∀ (l:List Oper) (_: ∀ o∈l,o∈ops) {S:St} {ρ:List AI} {a:Act} {w:World} {i:BQ} {S':St} {vs:List Prop} {u:BQ},
 AS P Γ N S ρ a w -> EN P Γ ops l S i=some (S',vs,u) -> Bq vs ->
 (∀ ρ' d w',AS P Γ N S' ρ' d w' -> DI S.h ρ w S'.h ρ' w' -> d.defers=a.defers -> wpListIn F 0 P ops Q g d w') -> wpListIn F 0 P ops Q (l++g) a w
 | [],_,S,ρ,a,w,i,S',vs,u,R,h,_,n=>by
  cases h;exact n ρ a w R (DI.refl _ _ _) rfl
 | o::rest,y,S,ρ,a,w,i,S',vs,u,R,h,z,n=>by
  have A: ∀ c,o.op≠.defer c:=by
   obtain ⟨j,E,e⟩:=Array.getElem_of_mem (y o (by simp));exact Hw x (j:=j) (by rw [zIq E,e])
  have V: ∀ o∈rest,o∈ops:=λo B=>y o (by simp [B])
  have G: ∀ v,(a.put o.dst v).defers=a.defers:=λv=>by cases B:o.dst <;> simp [Act.put]
  simp only [EN] at h;rw [List.cons_append];unfold wpListIn;split at h
  ·split at h
   ·cases h
   ·rename_i C I ext1 Gv k;split at h
    ·cases h
    ·rename_i M O T m;cases h;obtain ⟨L,J⟩:=DX.1 z;exact lj b R A k L λρ' d w' R' st U _=>TB b x rest V R' m J λρ'' K H p s q=>n ρ'' K H p (st.trans s) (q.trans U)
  ·split at h
   ·cases h
   ·rename_i C I cc k;split at h
    ·cases h
    ·rename_i M O T m;cases h;obtain ⟨L,J⟩:=DX.1 z;obtain ⟨W,X⟩:=ZO R k L
     have D: ∀ v,AS P Γ N C ρ (a.put o.dst v) w -> wpListIn F 0 P ops Q (rest++g) (a.put o.dst v) w:=λv R'=>
      TB b x rest V R' m J λρ'' K H p s q=>n ρ'' K H p (by rw [←W];exact s) (q.trans (G v))
     rcases X with ⟨r,v,Y,t⟩ | ⟨r,t⟩
     ·rw [zEd r];refine ⟨λf _=>b.fn f,?_⟩;rw [zJC _ _ _ A,Y w (Keep.ofExt (A0.refl w))];exact D v t
     ·rw [zGW (by rw [r];exact zMx)];exact ⟨λf _=>b.fn f,D undef t⟩
def pi {l:Nat}{ρ':Operand -> Value}{o:Oper}{c:Call}{f:Operand}{vs:List Value}(x:o.op= .call c)(a:c.callee= .value f)(M:ρ' f= .func (.yield l) #[] #[])(hv:c.args.toList.map ρ'=vs):(execOp ρ' o).run P w=(Instr.yield l vs.toArray).run P w:=by
 unfold execOp;rw [x]
 show ((resolve ρ' c o.type)>>=λd=>invoke d.target d.args).run P w=_
 unfold resolve;rw [a];simp only [Deferred.ofValue,M]
 have e: #[]++Array.map ρ' c.args=vs.toArray:=by
  grind
 have I:((pure { target:=.fn (.yield l) #[],args:=#[]++Array.map ρ' c.args }:Sem Deferred)>>=λd=>invoke d.target d.args).run P w=(Instr.yield l (#[]++Array.map ρ' c.args)).run P w:=rfl;rw [I,e]
variable {R:Ψ}
def YV.of {M:Ψ}{ρ:List AI}{g:Operand -> DV}{f:Operand -> Value}(a: ∀ x,AL M w (g x) ρ (f x))(X: ∀ b,b<w.heap.size/\ ¬ R b -> M b): ∀ {l:List Operand},(l.map g).all GD=true -> YV (l.map g) R w (l.map f).toArray:=λ{l} h=>by
 refine ⟨by simp,λj e=>?_⟩;have i:j<l.length:=by simpa using e
 have c:(l.map g).getD j .any=g l[j]:=by simp [zGR,i]
 have z:(l.map f).toArray.getD j undef=f l[j]:=by simp [zIH,i]
 rw [c,z];have u:=Nk (zGV.1 h (g l[j]) (zIS.2 ⟨_,zKJ i,rfl⟩));exact (u _ _ _ _ (a l[j])).out _ (D4 X [])
variable {h:DH}
def IY.part {N G:Ψ}{I:(Ψ) -> (Ψ) -> World -> Prop}(u:Cz I)(hi:I G R w)(y:IY Γ N G R h ρ w): ∃ R',I (MO h ρ) R' w/\ IY Γ N (MO h ρ) R' h ρ w/\ (∀ b,b<w.heap.size/\ ¬ R' b -> MS N h ρ b)/\ (∀ b,R b -> R' b):=by
 have r: ∀ b,MO h ρ b -> ¬ (R b∨(G b/\ ¬ MO h ρ b)):=λb v hx=>hx.elim (y.sh.dis b (y.own b v)) λhx=>hx.2 v
 have d: ∀ b,MO h ρ b∨(R b∨(G b/\ ¬ MO h ρ b)) -> b<w.heap.size:=λb hx=>by
  rcases hx with hx | hx | hx
  ·exact y.sh.lt b (.inl (y.own b hx))
  ·exact y.sh.lt b (.inr hx)
  ·exact y.sh.lt b (.inl hx.1)
 have q: ∀ b,G b -> MO h ρ b∨(R b∨(G b/\ ¬ MO h ρ b)):=λb j=>(Classical.em (MO h ρ b)).imp id λv=>.inr ⟨j,v⟩
 refine ⟨λb=>R b∨(G b/\ ¬ MO h ρ b),u G R _ _ w w hi (AQ.refl _ _) (λk hk=>.inl (y.own k hk)) (λk hk=>hk.imp id λh=>.inl h.1) (λk hk=>hk.elim (q k) λh=>.inr (.inl h)) r d,⟨⟨r,d⟩,λb h=>.inl (y.lo b h),λ_ h=>h,λb=>(y.n b).trans ⟨λ⟨i,a,m⟩=>⟨i,λv=>a (y.own b v),λhx=>hx.elim m λhx=>a hx.1⟩,λ⟨i,a,m⟩=>⟨i,λj=>(q b j).elim a m,λc=>m (.inl c)⟩⟩⟩,λb ⟨i,a⟩=>?_,λb h=>.inl h⟩
 by_cases j:G b
 ·exact .inr ((q b j).resolve_right a)
 ·exact .inl ((y.n b).2 ⟨i,j,λc=>a (.inl c)⟩)
def IY.later {N R':Ψ}{o:World}(z:IY Γ N (MO h ρ) R' h ρ w)(H:Aq P Γ N h ρ w)(q:AQ (λk=>¬ (MO h ρ k∨R' k)) w o):Aq P Γ (λB=>B<o.heap.size/\ ¬ MO h ρ B/\ ¬ R' B) h ρ o/\ BP (MS N h ρ) w ρ (MS (λB=>B<o.heap.size/\ ¬ MO h ρ B/\ ¬ R' B) h ρ) o ρ:=by
 have E:AQ N w o:=q.mono λB p u=>(z.n B).2 ⟨p,λd=>u (.inl d),λd=>u (.inr d)⟩
 have g: ∀ B,N B -> N B/\ Γ.ng<=B:=λB c=>⟨c,z.ng c⟩
 have a: ∀ B,(B<o.heap.size/\ ¬ MO h ρ B/\ ¬ R' B) -> N B∨w.heap.size<=B:=λB ⟨i,b,m⟩=>by
  rcases zIg B w.heap.size with h | h
  ·exact .inl ((z.n B).2 ⟨h,b,m⟩)
  ·exact .inr h
 exact ⟨H.foreign E g a λB ⟨i,_,m⟩=>⟨i,zNJ λe=>m (z.lo B e)⟩,BP.foreign (Γ:=Γ) E g a⟩
def Tr.yield {L:Nat}{C:Du P}{i:Nat}{Q:QY P Γ L}(r:Dv Fence.wide P){id:Nat}{p:Nat}{Ai:BQ}{x:List DV}{ST D:St}{vs:List Prop}(s:DE ops=true) 
 (h:T8 P Γ ops p S Ai=some (x,C.l,ST,D,vs)) (hv:Bq vs) (E:C.encs[i]? =some x) (hT:Q .normal ST (C.Y Γ L (i+1))) (hE:Q .normal D (C.X Γ L)):Tr P Γ Fence.wide none L (C.Y Γ L i) (.region id ops false) S Q:=λN ρ a w R y m b=>by
 unfold T8 at h;split at h
 ·cases h
 rename_i j DZ Gv h1;split at h
 ·cases h
 rename_i o O;split at h
 ·rename_i hw;split at h
  ·rename_i c QJ;split at h
   ·rename_i f hc;split at h
    ·rename_i l hl;split at h
     ·cases h
     rename_i V3;split at h
     ·cases h
     rename_i ST' vT Gu h2;split at h
     ·cases h
     rename_i SF' vF MF h3;cases h;obtain ⟨Bt,D8⟩:=DX.1 hv;obtain ⟨F,G⟩:=DX.1 D8;have n:p<ops.toList.length:=by grind
     have H:ops.toList=ops.toList.take p++o::ops.toList.drop (p+1):=by
      grind [List.drop_eq_getElem_cons,List.take_append_drop]
     have J: ∀ o'∈ops.toList,o'∈ops:=λo' h=>by simpa using h
     have hd: ∀ c,o.op≠.defer c:=Hw s O;refine zJK ?_;rw [H];refine TB r s _ (λo' z=>J o' (List.mem_of_mem_take z)) R h1 Bt λρ1 U w1 I V QQ=>?_
     obtain ⟨G0,R0,y1,y2⟩:=(C.Y Γ L i).st y R.hr I.hr V.st (λk p _ n=>V.pl k p n);obtain ⟨R',z1,u,z3,_⟩:=IY.part (C.hJ i) y1 y2;obtain ⟨fn,tmps,Qt,body,hy,hR⟩:=C.hy i _ _ _ R' w1 E (YV.of (g:=AZ j.fr) (f:=U.eval) (λx=>BV I x) z3 V3) z1 u.sh;unfold wpListIn;rw [zEd (Io I hw)]
     have jn:U.eval f= .func (.yield C.l) #[] #[]:=by
      have W:=BV I f;rw [hl] at W;exact W
     refine ⟨λf _=>r.fn f,?_⟩;rw [zJC _ _ _ hd,pi QJ hc jn rfl,hy];refine ⟨λE=>(by cases E),hR.mono ?_⟩;have Z:U.defers= []:=QQ.trans m;rintro e A ⟨hu,q⟩;obtain ⟨H',fo⟩:=u.later I.hr hu;have EC:AS P Γ (λB=>B<A.heap.size/\ ¬ MO j.h ρ1 B/\ ¬ R' B) j ρ1 U A:=⟨H',I.fr.out fo⟩;have Cv: ∀ v,(U.put o.dst v).defers=U.defers:=λv=>by cases O:o.dst <;> simp [Act.put]
     have yy:IY Γ (λB=>B<A.heap.size/\ ¬ MO j.h ρ1 B/\ ¬ R' B) (MO j.h ρ1) R' j.h ρ1 A:=⟨u.sh.upd hu,u.lo,λ_ h=>h,λ_=>Iff.rfl⟩;rcases q with ⟨rfl,q⟩ | ⟨rfl,q⟩
     ·have R':=HN EC o.dst (d:=.bool true) (v:=.bool true) rfl;refine LZ r s _ (λo' z=>J o' (List.mem_of_mem_drop z)) R' h2 F λρ2 K w2 T t M=>?_
      refine ⟨ST,ρ2,_,C.Y Γ L (i+1),hT,T,(C.Y Γ L (i+1)).st ⟨_,_,q,yy⟩ R'.hr T.hr t.st (λk p _ n=>t.pl k p n),?_,Bd.none⟩
      show K.defers= []
      rw [M,Cv];exact Z
     ·have R':=HN EC o.dst (d:=.bool false) (v:=.bool false) rfl;refine LZ r s _ (λo' z=>J o' (List.mem_of_mem_drop z)) R' h3 G λρ2 K w2 T t M=>?_
      refine ⟨D,ρ2,_,C.X Γ L,hE,T,(C.X Γ L).st ⟨_,_,q,yy⟩ R'.hr T.hr t.st (λk p _ n=>t.pl k p n),?_,Bd.none⟩
      show K.defers= []
      rw [M,Cv];exact Z
    ·cases h
   ·cases h
  ·cases h
 ·cases h
end
variable {fn:Func}{f:Nat}{P:Program}
def JV (M:P.funcs[f]? =some fn)(c:fn.body.isSome=true)(u:(fn.name== "runtime.NumGoroutine")=false)(args:Array Value)(W:World):(callFunc f args).run P W= .ok (.enter f args) W:=by
 have a: ¬ fn.name= "runtime.NumGoroutine" :=by simpa using u
 have b: ¬ fn.body=none:=by intro e;rw [e] at c;cases c
 simp [callFunc,go_sem,M,a,b]
variable {ds:List DV}{Γ:Av}
def wA (M:P.funcs[f]? =some fn)(p:fn.body.isSome=true){L:Nat}{Y:BK P Γ L}{Q:QY P Γ L}{h:DH}(T:A1 P Γ Fence.wide none L Y Q [.code (AR fn)] ⟨ds++List.replicate (fn.ntmps-ds.length) .any,h⟩) 
 {N:Ψ} {ρ:List AI} {W:World} {args:Array Value} (H:Aq P Γ N h ρ W) (fr:BE (MS N h ρ) W ρ ds args) (y:Y.I N h ρ W) {R:Ending -> World -> Prop}
 (n: ∀ e S' ρ' V a b o,Q e S' a -> AS P Γ V S' ρ' b o -> a.I V S'.h ρ' o -> match e with
  | .normal | .ret=>∃ v,(results fn b.tmps).run P o= .ok v o/\ R (.returned v) o
  | .panic c=>R (.panicked c) o
  | _=>False):CallsIn Fence.wide 0 P f args W R:=by
 cases l:fn.body with
 | none=>rw [l] at p;cases p
 | some k=>
 have q:AR fn=k:=by unfold AR;rw [l];rfl
 rw [q] at T;refine callsIn_of_wp M l trivial (zMb ((show Tr P Γ Fence.wide none L Y k _ (BF P Γ Fence.wide none L Q []) from T) N ρ _ W ⟨H,?_⟩ y rfl Bd.none) ?_) rfl
 ·rw [←fr.1];exact BE.append fr (BE.anys _ _ _ _)
 ·rintro e b o ⟨S',ρ',V,a,i,d,m,D,_⟩;cases e with
  | outgrown=>exact i.elim
  | normal=>obtain ⟨v,g,j⟩:=n _ S' ρ' V a b o i d m;exact ⟨D,v,g,j⟩
  | ret=>obtain ⟨v,g,j⟩:=n _ S' ρ' V a b o i d m;exact ⟨D,v,g,j⟩
  | exit id=>exact (n _ S' ρ' V a b o i d m).elim
  | goto t=>exact (n _ S' ρ' V a b o i d m).elim
  | panic c=>exact ⟨D,n _ S' ρ' V a b o i d m⟩
def ES.iterN {H m:Nat}{c:Nat -> DV}{h0:DH}{encs:List (List DV)}(A:ES P Γ f ds [] (.fn H m c) h0 true)(FL:ds.all GD=true) 
 (M:P.funcs[H]? =some fn) (a:fn.body.isSome=true) (hn:(fn.name== "runtime.NumGoroutine")=false) (B:fn.results= #[])
 (n: ∀ C:Du P,C.encs=encs -> A1 P Γ Fence.wide none h0.length (C.Y Γ h0.length 0) (C.Q Γ h0.length) [.code (AR fn)] ⟨.yl C.l::(List.range m).map c++List.replicate (fn.ntmps-(m+1)) .any,h0⟩) (h:DH):ES P Γ f ds h (.it h.length) (h++[some (.iter encs)]) true:=by
 refine ⟨A.1,λN ρ w args HR D=>?_⟩;refine (A.2 (MS N h ρ) [] w args (Se (λb a=>HR.lt2 a) HR.gi) ⟨D.1,λi hi=>?_⟩).mono ?_
 ·have hx:=Nk (zGV.1 FL (ds.getD i .any) (by simp [hi]));exact AL.out _ (D4 (λb a=>Q2.1 a) []) (hx _ _ _ _ (D.2 i hi))
 ·rintro e w' ⟨v,rfl,⟨⟨ρ',E,g2,g3,g4⟩,I⟩⟩;have F:=I rfl;obtain ⟨X,hv,x,So⟩:=g2;have JL: ∀ b,MO h0 ρ' b -> w.heap.size<=b:=λb a=>(g3.grow b a).resolve_left λ⟨k,o',p',d,_⟩=>by simp at d
  have K: ∀ b,MO h0 ρ' b -> Γ.ng<=b/\ ¬ MS N h ρ b/\ EF w' b:=λb ⟨k,o,q,d,L,s⟩=>E.cel k o q b d L s
  have Cn:Γ.ng<=w.heap.size:=Γ.lo _ HR.gi;have BJ:=F.size
  have y: ∀ b,MO h0 ρ' b -> b<w'.heap.size:=λb a=>by
   grind
  have lo: ∀ b,b<Γ.ng -> b<w'.heap.size/\ ¬ MS (MS N h ρ) h0 ρ' b:=λb a=>⟨zGb a (zGU Cn BJ),λhx=>by
   rcases hx with hx | hx
   ·have:=(HR.lt2 hx).2;omega
   ·have:=(K b hx).1;omega⟩
  let p:AI:=⟨0,0,0,v,λb=>MO h0 ρ' b⟩
  have O: ∀ b,p.foot b -> w.heap.size<=b/\ EF w' b:=λb a=>⟨JL b a,(K b a).2.2⟩
  refine ⟨v,rfl,⟨⟨ρ++[p],HR.snoc F O ?_,⟨p,by rw [←HR.len];simp,rfl⟩,A3.snoc HR F λb a=>(O b a).1,λ_ _ h=>Em h⟩,I⟩⟩;refine ⟨H,X,λb=>b<w'.heap.size/\ ¬ MS (MS N h ρ) h0 ρ' b,⟨hv,λargs W=>JV M a hn args W⟩,?_,λb a=>⟨λhm=>?_,a.1⟩,y⟩
  ·intro l J Jx W hJ z S hY kQ _
   let C:Du P:=⟨l,encs,J,Jx,hJ,z,hY⟩
   have U: ∀ b,(b<W.heap.size/\ ¬ MO h0 ρ' b/\ ¬ (b<w'.heap.size/\ ¬ MS (MS N h ρ) h0 ρ' b)) -> MS N h ρ b∨w'.heap.size<=b:=λb ⟨_,s,q4⟩=>by
    grind [MS]
   have V:AQ (λb=>MS N h ρ b) w' W:=S.mono λb y hx=>by
    grind [MS]
   have Z: ∀ b,MS N h ρ b -> MS N h ρ b/\ Γ.ng<=b:=λb a=>⟨a,(HR.lt2 a).2⟩
   have HW:Aq P Γ (λb=>b<W.heap.size/\ ¬ MO h0 ρ' b/\ ¬ (b<w'.heap.size/\ ¬ MS (MS N h ρ) h0 ρ' b)) h0 ρ' W:=E.foreign V Z U λb a=>⟨a.1,zNJ λx=>a.2.2 (lo b x)⟩
   have kV:BE (MS (MS N h ρ) h0 ρ') w' ρ' ((List.range m).map c) X:=⟨by simp [x],λj hj=>by
    simp_all⟩
   have kW:=kV.out (BP.foreign (Γ:=Γ) V Z U);have T:=n C rfl;have e3:fn.ntmps-(m+1)=fn.ntmps-(.yl C.l::(List.range m).map c).length:=by simp
   rw [e3] at T
   refine wA M a T HW (BE.append (l:=[.yl C.l]) (t:=#[.func (.yield l) #[] #[]]) ⟨rfl,λj hj=>by
    have:j=0:=Nat.lt_one_iff.1 hj;subst this;rfl⟩ kW) ⟨_,_,kQ,⟨⟨λb a hr=>hr.2 (.inr a),λb a=>zGb (a.elim (y b) λh=>h.1) S.size⟩,lo,λ_ h=>h,λ_=>Iff.rfl⟩⟩ ?_
   rintro e S' ρ2 N' Y' a' g d L s
   have r: ∃ v,(results fn a'.tmps).run P g= .ok v g/\ ∃ G R,ED G R g/\ ((C.J encs.length G R g/\ T0 (.returned v) G R g)∨((∃ u,Ending.returned v= .returned u)/\ C.Jx G R g)):=by
    obtain ⟨_,(rfl | rfl)⟩:=d <;> obtain ⟨G',R',k1,k2⟩:=s
    ·exact ⟨_,results_none B _ _ _,G',R',k2.sh,.inl ⟨k1,_,rfl⟩⟩
    ·exact ⟨_,results_none B _ _ _,G',R',k2.sh,.inr ⟨⟨_,rfl⟩,k1⟩⟩
   cases e with
   | normal=>exact r
   | ret=>exact r
   | exit id=>exact absurd d.1 (by simp)
   | goto t=>exact absurd d.1 (by simp)
   | panic ch=>exact absurd d.1 (by simp)
   | outgrown=>exact absurd d.1 (by simp)
  ·rcases hm with hm | hm
   ·exact a.2 (.inl (.inl hm))
   ·rcases MO.snoc HR hm with hm | hm
    ·exact a.2 (.inl (.inr hm))
    ·exact a.2 (.inr hm)
section
variable {P:Program} {Γ:Av}
def PJ:List KI -> Option (Array Oper×List KI)
 | .code (.region _ ops false)::k=>some (ops,k)
 | _=>none
def gF (B σ:Θ)(L:Nat)(r:List DV×Nat×St×St×List Prop):List DV×Nat×List DV×DH×List DV×DH×List Prop×Bool:= (r.1,r.2.1,(Proofs.YtodinaconebmdaaGreatDoor.comp B σ r.2.2.1).fr,(Proofs.YtodinaconebmdaaGreatDoor.comp B σ r.2.2.1).h,(Proofs.YtodinaconebmdaaGreatDoor.comp B σ r.2.2.2.1).fr,(Proofs.YtodinaconebmdaaGreatDoor.comp B σ r.2.2.2.1).h,r.2.2.2.2,Kp σ L r.2.2.1.h.length&&Kp σ L r.2.2.2.1.h.length)
variable {i:Nat}
def A1.yieldAt {L:Nat}{C:Du P}{Q:QY P Γ L}{S:St}{K k:List KI}{ops:Array Oper}(R:Dv Fence.wide P)(j:PJ K=some (ops,k))(d:DE ops=true)(p:Nat)(N:BQ){x:List DV}(B σ:Θ)(b:List DV)(m:DH)(D:List DV)(F:DH)(vs:List Prop) 
 (h:(T8 P Γ ops p S N).map (gF B σ L)=some (x,C.l,b,m,D,F,vs,true)) (e:Bq vs) (f:C.encs[i]? =some x) (c:JD k=true) (g:A1 P Γ Fence.wide none L (C.Y Γ L (i+1)) Q k ⟨b,m⟩) (n:A1 P Γ Fence.wide none L (C.X Γ L) Q k ⟨D,F⟩):A1 P Γ Fence.wide none L (C.Y Γ L i) Q K S:=by
 unfold PJ at j;split at j
 ·rename_i id gK k';cases j;cases a:T8 P Γ ops p S N with
  | none=>rw [a] at h;cases h
  | some r=>
   obtain ⟨xs,l,ST,o,DZ⟩:=r;rw [a] at h;simp only [zIO,gF,zH8,zIa,zFW] at h;obtain ⟨rfl,rfl,rfl,rfl,rfl,rfl,rfl,q,s⟩:=h;exact Tr.yield R d a e f (Bi.le (A7.comp B σ ST q) c g) (Bi.le (A7.comp B σ o s) c n)
 ·cases j
variable {α β:Type}
def SS {o:Option α}{f:α -> β}{r:β}(h:o.map f=some r): ∃ a,o=some a/\ r=f a:=by
 cases o with
 | none=>cases h
 | some a=>cases h;exact ⟨a,rfl,rfl⟩
def kr {l:List β}{f:α -> β}{x:α}{r:List α}(hd:l.drop i=(x::r).map f):l[i]? =some (f x)/\ i+1<=l.length/\ l.drop (i+1)=r.map f:=by
 grind [List.drop_eq_nil_of_le,List.drop_eq_getElem_cons]
def W0 {l:List β}{f:α -> β}(hi:i<=l.length)(r:l.drop i=([]:List α).map f):i=l.length:=by
 have:=congrArg List.length r;simp at this;omega
end
def Bw (x:Int):List DV:=[.int .i64 x]
def Qe (x:Δ):List DV:=[.int .i64 x.1,.int .i64 x.2]
end
section
def Jm:DV -> Bool
 | .ints _=>false
 | .bools _=>false
 | .sl .. =>false
 | .fp .. =>false
 | .agg m f=>(List.range m).all λj=>Jm (f j)
 | .tup m f=>(List.range m).all λj=>Jm (f j)
 | .fn _ m f=>(List.range m).all λj=>Jm (f j)
 | _=>true
def Uf:Option DO -> Bool
 | none=>true
 | some (.cells l)=>l.all Jm
 | some (.ints _)=>true
 | some (.bools _)=>true
 | some (.mo _)=>true
 | _=>false
def MOf (H:DH)(σ:Θ)(ρ:List AI)(b:Nat):Prop:=∃ (k:Nat) (o:DO) (p:AI),k∈σ/\ H[k]? =some (some o)/\ ρ[k]? =some p/\ p.foot b
def My (H:DH)(σ:Θ)(d C:DV):Prop:=∀ (P:Program) (Γ:Av) (N:Ψ) (ρ:List AI) (w:World) (v:Value),Aq P Γ N H ρ w -> AL (MS N H ρ) w d ρ v -> AL (MOf H σ ρ) w C [] v
variable {ρ ρ':List AI}{b:Nat}{σ:Θ}{w:World}{M:Ψ}
theorem oY {B:Ψ}(C: ∀ (k:Nat) (p:AI),ρ[k]? =some p -> ρ'[Da σ b k]? =some p): ∀ (d:DV) {v:Value},Jm d=true -> AL M w d ρ v -> AL B w (up σ b d) ρ' v:=by
 intro d
 induction d with
 | any=>intro v _ _;trivial
 | nils=>intro v _ h;exact h
 | int k n=>intro v _ h;exact h
 | bool b=>intro v _ h;exact h
 | str s=>intro v _ h;exact h
 | ints l=>intro v q h;cases q
 | bools l=>intro v q h;cases q
 | sl m n f _=>intro v q h;cases q
 | fp m f _=>intro v q h;cases q
 | agg m f V=>
  rintro v q ⟨cs,e,z,h⟩;simp only [Jm,zGV,zGX] at q;exact ⟨cs,e,z,λj t=>let ⟨u,y,A⟩:=h j t;⟨u,y,It t (V j (q j t) A)⟩⟩
 | tup m f V=>
  rintro v q ⟨cs,e,z,h⟩;simp only [Jm,zGV,zGX] at q;exact ⟨cs,e,z,λj t=>let ⟨u,y,A⟩:=h j t;⟨u,y,It t (V j (q j t) A)⟩⟩
 | fn g m c V=>
  rintro v q ⟨cs,e,z,h⟩;simp only [Jm,zGV,zGX] at q;exact ⟨cs,e,z,λj t=>let ⟨u,y,A⟩:=h j t;⟨u,y,It t (V j (q j t) A)⟩⟩
 | ref k j=>rintro v _ ⟨p,x,r⟩;exact ⟨p,C k p x,r⟩
 | msl k m o n=>rintro v _ ⟨p,cap,x,r⟩;exact ⟨p,cap,C k p x,r⟩
 | mp k m i j=>rintro v _ ⟨p,x,r⟩;exact ⟨p,C k p x,r⟩
 | it k=>rintro v _ ⟨p,x,r⟩;exact ⟨p,C k p x,r⟩
 | cst u=>intro v _ h;exact h
 | yl l=>intro v _ h;exact h
 | mse k m o n=>rintro v _ ⟨p,a,cap,x,r⟩;exact ⟨p,a,cap,C k p x,r⟩
 | mri k i=>rintro v _ ⟨p,vs,x,r⟩;exact ⟨p,vs,C k p x,r⟩
theorem zm {P:Program}{d:Ψ}{p:AI}(hρ: ∀ (k:Nat) (p:AI),ρ[k]? =some p -> ρ'[Da σ b k]? =some p){o o':DO}(c:Uf (some o)=true)(a:Dg σ b (some o)=some o')(h:EE P M w ρ p o):EE P d w ρ' p o':=by
 cases o with
 | cells l=>
  cases a
  show AX w p (l.map (up σ b)).length _
  rw [zGh];refine AX.out h rfl λj u hj q=>?_
  grind [oY,Uf]
 | ints l=>cases a;exact AX.out h rfl λj u _ q=>q
 | bools l=>cases a;exact AX.out h rfl λj u _ q=>q
 | arr m n f=>cases c
 | iter encs=>cases c
 | ro l=>cases c
 | mo x=>cases a;exact h
section
variable {P:Program} {Γ:Av}
def ES.embedS {f:Nat}{ds:List DV}{h:DH}{d:DV}{h':DH}{ext:Bool}(E5:ES P Γ f ds h d h' ext)(σ:Θ)(H:DH)(hn:σ.Nodup)(AU: ∀ k∈σ,k<H.length)(hl:σ.length=h.length)(Fb:h.length<=h'.length) 
 (hh:(σ.map λk=>H.getD k none)=h.map (Dg σ H.length)) {T:List DV} (Aj:T.length=ds.length) (zIy: ∀ i,i<ds.length -> T.getD i .any=up σ H.length (ds.getD i .any)∨My H σ (T.getD i .any) (ds.getD i .any)) (hsd:Jm d=true) (IZ:h'.all Uf=true):ES P Γ f T H (up σ H.length d) (DU H σ h') ext:=by
 refine ⟨E5.1,λN ρ w args HR CU=>?_⟩;obtain ⟨ρ0,ic⟩: ∃ ρ0,ρ0=σ.map λk=>ρ.getD k ga:=⟨_,rfl⟩
 have iH:ρ0.length=σ.length:=by rw [ic];simp
 have I: ∀ {i k:Nat},σ[i]? =some k -> ρ0[i]? =ρ[k]? :=λ{i k} hk=>by
  have Gb:k<ρ.length:=by rw [HR.len];exact AU k (zG6 hk)
  grind
 have eO: ∀ {i:Nat},i<σ.length -> ∃ k,σ[i]? =some k/\ Da σ H.length i=k:=λ{i} hi=>by
  simp_all [Da]
 have M: ∀ {i:Nat} {o:DO},h[i]? =some (some o) -> ∃ k o',σ[i]? =some k/\ H[k]? =some (some o')/\ Dg σ H.length (some o)=some o':=λ{i o} hi=>by
  have KB:i<σ.length:=by grind
  obtain ⟨k,hk,_⟩:=eO KB;have e:=congrArg (·[i]?) hh;simp only [zIL,hk,hi,zIO] at e;have E4:=AU k (zG6 hk);have e:H.getD k none=Dg σ H.length (some o):=zGT e;have r: ∃ o',Dg σ H.length (some o)=some o':=by cases o <;> exact ⟨_,rfl⟩
  grind
 have rZ: ∀ {i k:Nat} {o':DO},σ[i]? =some k -> H[k]? =some (some o') -> ∃ o,h[i]? =some (some o)/\ Dg σ H.length (some o)=some o':=λ{i k o'} hk ho=>by
  have KB:i<h.length:=by grind
  have e:=congrArg (·[i]?) hh
  grind [RH]
 obtain ⟨Q,QX⟩: ∃ Q:Ψ,Q=λ_=>False:=⟨_,rfl⟩
 have J: ∀ b,MO h ρ0 b -> MO H ρ b:=by
  rintro b ⟨i,o,p,j,u,g⟩;obtain ⟨k,o',q,r,_⟩:=M j;exact ⟨k,o',p,r,(I q).symm.trans u,g⟩
 have gj: ∀ b,MS Q h ρ0 b -> MS N H ρ b:=by
  rintro b (hb | hb)
  ·rw [QX] at hb;exact hb.elim
  ·exact .inr (J b hb)
 have dn: ∀ (k:Nat) (p:AI),ρ[Da σ H.length k]? =some p -> ρ0[k]? =some p:=λk p l=>by
  by_cases hk:k<σ.length
  ·grind
  ·unfold Da at l;rw [zGW hk] at l;have:=(zGq.1 l).1;rw [HR.len] at this;omega
 have a: ∀ {k:Nat} {o:DO} {p:AI} {b:Nat},Di σ k=none -> H[k]? =some (some o) -> ρ[k]? =some p -> p.foot b -> ¬ MO h ρ0 b:=by
  rintro R K p2 b y n m D ⟨i,o,p,j,u,g⟩;obtain ⟨k,o',q,r,_⟩:=M j;have l:=(I q).symm.trans u;refine HR.dis k R o' K p p2 b ?_ r n l m g D;rintro rfl;rw [Rt hn q] at y;cases y
 have H0:Aq P Γ Q h ρ0 w:=by
  refine ⟨by rw [iH,hl],λi o hi=>?_,λi o p b j u g=>?_,λi W o1 K S p2 b AY j u g g4 g5 g6=>?_,λb hb=>HR.lt2 (gj b (.inl hb)),HR.gi⟩
  ·obtain ⟨k,o',q,r,e3⟩:=M hi;obtain ⟨p,l,hr⟩:=HR.obj k o' r
   grind [vQ]
  ·obtain ⟨k,o',q,r,e3⟩:=M j;obtain ⟨y,n,m⟩:=HR.cel k o' p b r ((I q).symm.trans u) g
   grind
  ·obtain ⟨k,o',q,r,e3⟩:=M j;obtain ⟨R,gR,TV,Wz,e3'⟩:=M u;refine HR.dis k R o' gR S p2 b ?_ r Wz ((I q).symm.trans g) ((I TV).symm.trans g4) g5 g6;rintro rfl;have U:=Rt hn q;have A:=Rt hn TV
   grind
 refine (E5.2 Q ρ0 w args H0 ⟨by rw [←CU.1,Aj],λi hi=>?_⟩).mono ?_
 ·have:=CU.2 i (by rw [Aj];exact hi);rcases zIy i hi with e | e
  ·grind [cD]
  ·refine Rs (AL.out _ (D4 (λb hb=>?_) []) (e P Γ N ρ w _ HR this));rcases hb with hb | ⟨i,o,p,j,u,g⟩
   ·rw [QX] at hb;exact hb.elim
   ·obtain ⟨k,o',q,r,_⟩:=M j;exact ⟨k,o',p,zG6 q,r,(I q).symm.trans u,g⟩
 ·rintro e w' ⟨v,rfl,⟨⟨ρ1,j,u,g,g4⟩,g5⟩⟩;have l1:ρ1.length=h'.length:=j.len;obtain ⟨ρ',X⟩: ∃ ρ',ρ'=ρ++ρ1.drop σ.length:=⟨_,rfl⟩
  have at1: ∀ {i k:Nat},σ[i]? =some k -> ρ1[i]? =ρ[k]? :=λ{i k} hk=>by
   grind
  have K5: ∀ {k:Nat},k<H.length -> ρ'[k]? =ρ[k]? :=λ{k} hk=>by rw [X,zI5 (by rw [HR.len];exact hk)]
  have de: ∀ (k:Nat) (p:AI),ρ1[k]? =some p -> ρ'[Da σ H.length k]? =some p:=λk p l=>by
   by_cases hk:k<σ.length
   ·grind
   ·unfold Da;rw [zGW hk,X,zIB (by rw [HR.len];omega),zMd,HR.len]
    simp_all
  have iG:(DU H σ h').length=H.length+(h'.length-σ.length):=by simp [DU]
  have L: ∀ {k:Nat} {o':DO},(DU H σ h')[k]? =some (some o') -> (k<H.length/\ Di σ k=none/\ H[k]? =some (some o')/\ ρ'[k]? =ρ[k]?)∨∃ i o,h'[i]? =some (some o)/\ Dg σ H.length (some o)=some o'/\ ρ'[k]? =ρ1[i]? /\ k=Da σ H.length i:=by
   intro k o' hk
   by_cases E4:k<H.length
   ·unfold DU at hk;rw [zI5 (by simpa using E4),zIL,List.getElem?_range E4] at hk;simp only [zIO,zH8] at hk;split at hk
    ·rename_i i hi;have his:=Kv hi;obtain ⟨o0,e0⟩:=RH hk
     grind
    grind
   ·unfold DU at hk;rw [zIB (by simp;omega),zIL,zMd] at hk;simp only [zGh,zM8] at hk;cases F:h'[σ.length+(k-H.length)]? with
    | none=>rw [F] at hk;cases hk
    | some x=>
     rw [F] at hk;have hk:Dg σ H.length x=some o':=zGT hk;obtain ⟨o0,e0⟩:=RH hk;subst e0;refine .inr ⟨σ.length+(k-H.length),o0,F,hk,?_,?_⟩
     ·rw [X,zIB (by rw [HR.len];omega),zMd,HR.len]
     simp_all [Da,zGW]
  have back: ∀ {k:Nat} {o:DO},Di σ k=none -> H[k]? =some (some o) -> (DU H σ h')[k]? =some (some o):=by
   grind [DU]
  have B: ∀ {k:Nat} {o:DO} {p:AI} {b:Nat},Di σ k=none -> H[k]? =some (some o) -> ρ[k]? =some p -> p.foot b -> ¬ MO h' ρ1 b:=λ{k o p b} y n m D hm=>by
   rcases g.grow b hm with hg | hg
   ·exact a y n m D hg
   ·exact absurd (HR.lt (.inr ⟨k,o,p,n,m,D⟩)) (Nat.not_lt.2 hg)
  have E: ∀ b,MO (DU H σ h') ρ' b -> MO H ρ b∨w.heap.size<=b:=by
   rintro b ⟨k,o',p,y,n,m⟩;rcases L y with ⟨U,A,a3,a4⟩ | ⟨i,o,U,A,a3,a4⟩
   ·exact .inl ⟨k,o',p,a3,a4.symm.trans n,m⟩
   ·exact (g.grow b ⟨i,o,p,U,a3.symm.trans n,m⟩).imp (J b) id
  have pl: ∀ (k:Nat) (p:AI),ρ[k]? =some p -> ρ'[k]? =some p:=λk p l=>by
   grind
  have O:BP (MS N H ρ) w ρ (MS N (DU H σ h') ρ') w' ρ':=
   ⟨λb hb hm _=>g.upd.block b hb λF=>hm (.inr (J b F)),λb hb=>hb.elim (λhb=>.inl (.inl hb)) (λhb=>(E b hb).imp .inr id),pl⟩
  refine ⟨v,rfl,⟨⟨ρ',⟨?_,λk o' hk=>?_,λk o' p b y n m=>?_,λk R o1 K S p2 b AY y n m D Y Z=>?_,λb hb=>⟨zGb (HR.nlt b hb).1 g.upd.size,(HR.nlt b hb).2⟩,j.gi⟩,oY de _ hsd u,⟨g.upd.mono λb _ hb=>J b hb,E⟩,pl⟩,g5⟩⟩
  ·rw [iG,X];simp [HR.len,l1]
  ·rcases L hk with ⟨U,A,a3,a4⟩ | ⟨i,o,U,A,a3,a4⟩
   ·obtain ⟨p,l,hr⟩:=HR.obj k o' a3;refine ⟨p,a4.trans l,hr.out O g.upd (λb hb=>.inr (J b hb)) λb _ hf hs=>?_⟩;exact a A a3 l hf hs
   ·obtain ⟨p,l,hr⟩:=j.obj i o U
    grind [zm]
  ·rcases L y with ⟨U,A,a3,a4⟩ | ⟨i,o,U,A,a3,a4⟩
   ·have l:=a4.symm.trans n;obtain ⟨C,G,c,t,z,s⟩:=HR.cel k o' p b a3 l m;refine ⟨C,G,c,t,z,(g.upd.block b (zGS.1 s).1 λF=>?_).trans s⟩;exact a A a3 l m F
   ·obtain ⟨C,G,s⟩:=j.cel i o p b U (a3.symm.trans n) m;refine ⟨C,λhb=>?_,s⟩;rcases g.grow b ⟨i,o,p,U,a3.symm.trans n,m⟩ with hg | hg
    ·obtain ⟨k2,K,p2,d1,d2,d3⟩:=J b hg;exact (HR.cel k2 K p2 b d1 d2 d3).2.1 hb
    ·exact absurd (HR.nlt b hb).1 (Nat.not_lt.2 hg)
  ·rcases L y with ⟨U,A,a3,a4⟩ | ⟨i,o,U,A,a3,a4⟩
   ·rcases L n with ⟨C,G,s,V⟩ | ⟨W,o',C,G,s,V⟩
    ·exact HR.dis k R o1 K S p2 b AY a3 s (a4.symm.trans m) (V.symm.trans D) Y Z
    ·exact B A a3 (a4.symm.trans m) Y ⟨W,o',p2,C,s.symm.trans D,Z⟩
   ·rcases L n with ⟨C,G,s,V⟩ | ⟨W,o',C,G,s,V⟩
    ·exact B G s (V.symm.trans D) Z ⟨i,o,S,U,a3.symm.trans m,Y⟩
    ·refine j.dis i W o o' S p2 b ?_ U C (a3.symm.trans m) (s.symm.trans D) Y Z
     grind
end
variable {h:DH}
def My.own {σ:Θ}{j:Nat}{f:Int -> Ξ}{x:Int}{L:Ξ}{g:Bool}(hk:h[j]? =some (some (.mo (.rows f (some (x,L,g))))))(a:σ.contains j=false):My h σ (.mri j 1) (.ints L):=by
 rintro P Γ N ρ w v H ⟨p,vs,b,B,c⟩;obtain ⟨p',S,u,es,Ak,C⟩:=H.obj j _ hk;have:p'=p:=zGT (S.symm.trans b);subst this;have e: #[Value.map (some p'.blk),u]=vs:=by have:=C.val.symm.trans B;cases this;rfl
 subst e;have T:v=u:=by simpa using c.symm
 subst T;rcases (C.inHand x L g rfl).1 with ⟨rfl,rfl⟩ | ⟨q,cap,rfl,d,h2,l,A,h5⟩
 ·exact ⟨none,0,rfl,zGd _,zIR _,λj a=>absurd a (zGa j)⟩
 ·refine ⟨_,cap,rfl,d,l,λi hi=>⟨q.blk,q.off,rfl,?_,?_⟩⟩
  ·rintro ⟨k,o,p2,g1,s,m,n⟩;refine H.dis k j o _ p2 p' q.blk (λe=>?_) s hk m b n A.1
   grind
  grind [AX.cell]
def aE (H:DH)(σ:Θ):List DV -> List DV -> Prop
 | [],[]=>True
 | d1::w,d::ds=>(d1=up σ H.length d∨My H σ d1 d)/\ aE H σ w ds
 | _,_=>False
def iB {H:DH}{σ:Θ}: ∀ {w ds:List DV},aE H σ w ds -> w.length=ds.length/\ ∀ i,i<ds.length -> w.getD i .any=up σ H.length (ds.getD i .any)∨My H σ (w.getD i .any) (ds.getD i .any)
 | [],[],_=>⟨rfl,λi hi=>absurd hi (zGa i)⟩
 | d1::w,d::ds,⟨h1,b⟩=>by
  obtain ⟨g1,g2⟩:=iB b
  grind
 | [],_::_,h=>h.elim
 | _::_,[],h=>h.elim
def ES.embedSB {P:Program}{Γ:Av}{f:Nat}{ds:List DV}{d:DV}{h':DH}{ext:Bool}(u:ES P Γ f ds h d h' ext)(σ:Θ)(H:DH){w:List DV}(D:aE H σ w ds)(c:OW σ H.length h.length h'.length=true)(y:(σ.map λk=>H.getD k none)=h.map (Dg σ H.length))(a:(Jm d&&h'.all Uf)=true):
 ES P Γ f w H (up σ H.length d) (DU H σ h') ext:=by
 simp only [OW,zFW,zH6,zGV] at c;rw [zFW] at a;exact u.embedS σ H c.1.1.1 (λk hk=>c.1.1.2 k hk) c.1.2 c.2 y (iB D).1 (iB D).2 a.1 a.2
end
structure HX (F:Fence)(P:Program):Prop where
 f:Dv F P
 m:P.follows .mixedOrders=true
structure HS (c:List (DV×DH×Bool))(o:List (Nat×DV))(z:List (Nat×Fz))(v:List Prop):Prop where
 all:Bq v
section
variable {P:Program} {Γ:Av} {cs:List (DV×DH×Bool)} {os:List (Nat×DV)} {zs:List (Nat×Fz)} {vs:List Prop}
def H0:HS [] [] [] []:=⟨trivial⟩
variable {p:Prop}
theorem HS.add (q:HS cs os zs vs){U:List (DV×DH×Bool)}{o':List (Nat×DV)}{n:List (Nat×Fz)}(h:p):HS U o' n (vs++[p]):=⟨DX.2 ⟨q.all,h,trivial⟩⟩
variable {d:DV}
def HS.o (q:HS cs os zs vs)(t:Nat){d':DV}(x:AN d d'):HS cs (os++[(t,d')]) zs (vs++[AN d d']):=q.add x
def HS.b (q:HS cs os zs vs)(t:Nat){a b:Bool}(x:a=b):HS cs (os++[(t,.bool b)]) zs (vs++[AN (.bool a) (.bool b)]):=q.add (AN.bool x)
def HS.w (q:HS cs os zs vs)(t:Nat){x:Int}(h:AG x):HS cs (os++[(t,.int .i64 x)]) zs (vs++[AN (.int .i64 (IntKind.i64.wrap x)) (.int .i64 x)]):=q.add (xY h)
def HS.g (q:HS cs os zs vs)(x:p):HS cs os zs (vs++[p]):=q.add x
def HS.t (q:HS cs os zs vs):HS cs os zs (vs++[True]):=q.add trivial
def HS.c (q:HS cs os zs vs){f:Nat}{ds:List DV}{h:DH}{h':DH}{e:Bool}(x:ES P Γ f ds h d h' e):HS (cs++[(d,h',e)]) os zs (vs++[ES P Γ f ds h d h' e]):=q.add x
def HS.a (q:HS cs os zs vs)(t k m:Nat){n W:Nat}{f V:Nat -> Nat -> DV}(x:n=W/\ ∀ i j,i<n -> j<m -> AN (f i j) (V i j)):HS cs os (zs++[(t,.arr k W V)]) (vs++[n=W/\ ∀ i j,i<n -> j<m -> AN (f i j) (V i j)]):=q.add x
def HS.z (q:HS cs os zs vs)(t k:Nat):HS cs os (zs++[(t,.frz k)]) vs:=⟨q.all⟩
def HS.u (q:HS cs os zs vs)(t k:Nat):HS cs os (zs++[(t,.unf k)]) vs:=⟨q.all⟩
end
def ES.emC {P:Program}{Γ:Av}{f:Nat}{ds:List DV}{h:DH}{d:DV}{h':DH}{ext:Bool}(u:ES P Γ f ds h d h' ext)(σ:Θ)(H:DH)(c:OW σ H.length h.length h'.length=true)(y:(σ.map λk=>H.getD k none)=h.map (Dg σ H.length)):ES P Γ f (ds.map (up σ H.length)) H (up σ H.length d) (DU H σ h') ext:=
 u.embedB σ H c y rfl
def IS {α:Type} [Inhabited α] (c:α -> List DV) (L:List α) (n m:Nat) (h: ∀ x,(c x).all J3=true/\ m=(c x).length): ∀ i j,i<n -> j<m -> J3 (AK c L i j)=true:=λi j _ e=>zED (h _).1 (h _).2 j e
def frzL:Θ -> St -> Option (St×List Prop)
 | [],S=>some (S,[])
 | k::U,S=>match Wk k S with
  | some (S',vs)=>match frzL U S' with
   | some (T,Z)=>some (T,vs++Z)
   | none=>none
  | none=>none
def A7.frzL {L:Nat}: ∀ (U:Θ) {S S':St} {vs:List Prop},Proofs.YtodinaconebmdaaGreatDoor.frzL U S=some (S',vs) -> Bq vs -> A7 L S S'
 | [],S,S',vs,h,_=>by cases h;exact A7.refl L S
 | k::U,S,S',vs,h,p=>by
  simp only [Proofs.YtodinaconebmdaaGreatDoor.frzL] at h;split at h
  ·rename_i e f a;split at h
   ·rename_i S2 FU h2;cases h;obtain ⟨b,J⟩:=DX.1 p;exact (A7.frzE k e f a b).trans (A7.frzL U h2 J)
   ·cases h
  ·cases h
abbrev dM:=List Prop×List Prop×List (DV×DH×Bool)×List (Nat×DV)×Bool
def Ry (σ:Θ)(L:Nat)(w:List Prop)(r:KO×St×List Prop×BQ):dM:=(r.2.2.1,w,r.2.2.2.calls,r.2.2.2.co,Kp σ L r.2.1.h.length)
def Nh (B σ:Θ)(L:Nat)(U:Θ)(r:KO×St×List Prop×BQ):Option (KO×List DV×DH×dM):=match frzL U (comp B σ r.2.1) with
 | some (S,w)=>some (r.1,S.fr,S.h,Ry σ L w r)
 | none=>none
def sX:KO -> Option Exit
 | .ret=>some .ret
 | .at []=>some .normal
 | .at (.code (.exit i)::k)=>if (J1 i k).isNone then some (.exit i) else none
 | _=>none
def K3 (P:Program)(B σ:Θ)(L:Nat)(U:Θ)(fn:Func)(d:DV)(F:Nat)(r:KO×St×List Prop×BQ):Option (Bool×List DV×DH×dM):=match frzL U (comp B σ r.2.1) with
 | some (S,w)=>match NW P S fn.results.toList with
  | some k=>some ((match r.1 with | .ret=>true | .at []=>true | _=>false)&&(decide (S.h.length<=F)||(S.h.all Vk&&GD d&&decide (L<=S.h.length))),k,(if S.h.length<=F then S.h else (GN (List.range L) S).h),Ry σ L w r)
  | none=>none
 | none=>none
def gG (σ:Θ)(L:Nat)(r:KO×St×List Prop×BQ):Option Exit×DH×dM:=(sX r.1,(comp [] σ r.2.1).h,Ry σ L [] r)
section
variable {P:Program} {Γ:Av} {F:Fence} {B:Option Nat} {L:Nat} {Y N:BK P Γ L} {Q:QY P Γ L} {k k':List KI} {S:St} {fr:List DV} {h' h2:DH} {c:List (DV×DH×Bool)} {o:List (Nat×DV)} {z:List (Nat×Fz)} {v w:List Prop}
def zD2 {B σ U:Θ}{r:KO×St×List Prop×BQ}{l:KO}(h:Nh B σ L U r=some (l,fr,h',v,w,[],[],true))(S:Bq w):r.1=l/\ r.2.2.1=v/\ A7 L r.2.1 ⟨fr,h'⟩:=by
 unfold Nh at h;split at h
 ·rename_i S1 w1 M;simp only [Ry,zH8,zIa] at h;obtain ⟨rfl,rfl,rfl,rfl,rfl,_,_,k⟩:=h;exact ⟨rfl,rfl,(A7.comp B σ r.2.1 k).trans (A7.frzL U M S)⟩
 ·cases h
def Bi.gS (e:HX F P)(K:BX)(n:Nat)(a σ:Θ)(tg:List (List (Nat×Nat)×St))(j:HS c o z v)(U:Θ)(p:HS [] [] [] w)(k':List KI)(fr:List DV)(h':DH) 
 (h:(CN P Γ K n k S ⟨c,o,z,tg⟩).bind (Nh a σ L U)=some (.at k',fr,h',v,w,[],[],true)) (q:JD k'=true) (hk:A1 P Γ F B L Y Q k' ⟨fr,h'⟩):A1 P Γ F B L Y Q k S:=by
 cases i:CN P Γ K n k S ⟨c,o,z,tg⟩ with
 | none=>rw [i] at h;cases h
 | some r=>
  obtain ⟨l,s,g,o1⟩:=r;rw [i] at h;obtain ⟨b,d,t⟩:=zD2 (r:=(l,s,g,o1)) h p.all;have b:l= .at k':=b;have d:g=v:=d;subst b d;exact GE e.f e.m n k S _ _ _ _ _ i j.all (Bi.le t q hk)
variable {d:DV}{fn:Func}
theorem Bi.el (q:HX F P)(K:BX)(n:Nat)(a σ:Θ)(tg:List (List (Nat×Nat)×St))(u:HS c o z v)(U:Θ)(x:HS [] [] [] w)(j:List DV)(E:AN (IF j) d) 
 (h:(CN P Γ K n k S ⟨c,o,z,tg⟩).bind (K3 P a σ L U fn d h2.length)=some (true,j,h2,v,w,[],[],true)):Bi P Γ F B L N (Cx P fn L d h2) k S:=by
 cases l:CN P Γ K n k S ⟨c,o,z,tg⟩ with
 | none=>rw [l] at h;cases h
 | some r=>
  obtain ⟨t,g,A,o1⟩:=r;rw [l] at h;have h:K3 P a σ L U fn d h2.length (t,g,A,o1)=some (true,j,h2,v,w,[],[],true):=h;unfold K3 at h;split at h
  ·rename_i p w1 C;split at h
   ·rename_i D G;simp only [Ry,zH8,zIa,zFW] at h;obtain ⟨⟨s,i⟩,rfl,y,rfl,rfl,_,_,H⟩:=h;have I:A7 L g p:=(A7.comp a σ g H).trans (A7.frzL U C x.all)
    have b: ∀ e,(e= .normal∨e= .ret) -> Cx P fn L d h2 e g:=λe J=>by
     refine Cx.le I ⟨J,p,A7.refl _ _,D,G,?_⟩
     by_cases M:p.h.length<=h2.length
     ·rw [zEd M] at y;exact .inl ⟨E,y⟩
     ·rw [zGW M] at y;simp only [M,decide_false,zMa,zFW,zH6] at i;exact .inr ⟨PY i.1.1,E,Nk i.1.2,i.2,y⟩
    refine GE q.f q.m n k S _ _ _ _ _ l u.all ?_;rcases t with (_ | ⟨_,_⟩) | _
    ·exact ⟨rfl,b _ (.inl rfl)⟩
    ·cases s
    ·exact ⟨rfl,b _ (.inr rfl)⟩
   ·cases h
  ·cases h
def Bi.e (f:HX F P)(K:BX)(n:Nat)(a σ:Θ)(tg:List (List (Nat×Nat)×St))(m:HS c o z v)(U:Θ)(g:HS [] [] [] w) 
 (h:(CN P Γ K n k S ⟨c,o,z,tg⟩).bind (λr=>(K3 P a σ L U fn d h2.length r).map λq=>(q.1,IF q.2.1,q.2.2))=some (true,d,h2,v,w,[],[],true)):Bi P Γ F B L N (Cx P fn L d h2) k S:=by
 cases i:CN P Γ K n k S ⟨c,o,z,tg⟩ with
 | none=>rw [i] at h;cases h
 | some r=>
  rw [i] at h;have h:(K3 P a σ L U fn d h2.length r).map (λq=>(q.1,IF q.2.1,q.2.2))=some (true,d,h2,v,w,[],[],true):=h;cases b:K3 P a σ L U fn d h2.length r with
  | none=>rw [b] at h;cases h
  | some q=>
   obtain ⟨q1,j,q3⟩:=q;rw [b] at h;simp only [zIO,zH8,zIa] at h;obtain ⟨rfl,l,rfl⟩:=h;exact Bi.el f K n a σ tg m U g j (AN.of_eq l) (by rw [i];exact b)
def Zn (P:Program)(L:Nat)(U:Θ)(fn:Func)(d:DV)(F:Nat)(S:St):Option (Bool×List DV×DH×List Prop):=match frzL U S with
 | some (S,w)=>match NW P S fn.results.toList with
  | some k=>some (decide (S.h.length<=F)||(S.h.all Vk&&GD d&&decide (L<=S.h.length)),k,(if S.h.length<=F then S.h else (GN (List.range L) S).h),w)
  | none=>none
 | none=>none
theorem Cx.el {e:Exit}(I:e= .normal∨e= .ret)(U:Θ)(z:HS [] [] [] w)(k:List DV)(E:AN (IF k) d)(h:Zn P L U fn d h2.length S=some (true,k,h2,w)):Cx P fn L d h2 e S:=by
 unfold Zn at h;split at h
 ·rename_i o w1 b;split at h
  ·rename_i r s;simp only [zH8,zIa] at h;obtain ⟨a,rfl,y,rfl⟩:=h;refine Cx.le (A7.frzL U b z.all) ⟨I,o,A7.refl _ _,r,s,?_⟩
   by_cases M:o.h.length<=h2.length
   ·rw [zEd M] at y;exact .inl ⟨E,y⟩
   ·rw [zGW M] at y;simp only [M,decide_false,zMa,zFW,zH6] at a;exact .inr ⟨PY a.1.1,E,Nk a.1.2,a.2,y⟩
  ·cases h
 ·cases h
def Cx.e {e:Exit}(he:e= .normal∨e= .ret)(U:Θ)(hz:HS [] [] [] w)(h:(Zn P L U fn d h2.length S).map (λq=>(q.1,IF q.2.1,q.2.2))=some (true,d,h2,w)):Cx P fn L d h2 e S:=by
 cases a:Zn P L U fn d h2.length S with
 | none=>rw [a] at h;cases h
 | some q=>
  obtain ⟨q1,rs,q3⟩:=q;rw [a] at h;simp only [zIO,zH8,zIa] at h;obtain ⟨rfl,hd,rfl⟩:=h
  grind [Cx.el,AN.of_eq]
def Bi.r (d:HX F P){T:List Exit}{i:Nat}{e:Exit}(K:BX)(n:Nat)(σ:Θ)(tg:List (List (Nat×Nat)×St))(j:HS c o z v)(I:(Exit.normal::T)[i]? =some e) 
 (h:(CN P Γ K n k S ⟨c,o,z,tg⟩).map (gG σ L)=some (some e,h2,v,[],[],[],true)):Bi P Γ F B L N (C0 L T i h2) k S:=by
 cases b:CN P Γ K n k S ⟨c,o,z,tg⟩ with
 | none=>rw [b] at h;cases h
 | some r=>
  obtain ⟨r1,g,v1,o1⟩:=r;rw [b] at h;simp only [zIO,gG,Ry,zH8,zIa] at h;obtain ⟨hk,y,rfl,_,_,_,l⟩:=h;have a:stay N (C0 L T i h2) e g N:=⟨rfl,I,_,A7.comp [] σ g l,y⟩;refine GE d.f d.m n k S _ _ _ _ _ b j.all ?_;unfold sX at hk;split at hk
  ·cases hk;exact a
  ·cases hk;exact a
  ·rename_i i' k';split at hk
   ·rename_i p;cases hk;exact Tr.exit (TP a k' (Option.isNone_iff_eq_none.1 p))
   ·cases hk
  ·cases hk
def HF.g (d:HX F P){Q:Exit -> St -> Prop}{J T:Code}(K:BX)(n:Nat)(a σ:Θ)(b:HS c o z v)(fr:List DV)(h':DH) 
 (h:(CN P Γ K n [.code J] S ⟨c,o,z,[]⟩).map (Vf a σ L)=some (.at [],fr,h',v,[],[],true)) (hk: ∀ x:BK P Γ L,Bi P Γ F B L x Q [.code T] ⟨fr,h'⟩):HF P Γ F B L N Q J T S:=
 HF.go d.f d.m K n _ a σ fr h' v h b.all hk
end
section
variable {P:Program} {Γ:Av} {L:Nat} {k:List KI} {S:St} {c:List (DV×DH×Bool)} {o:List (Nat×DV)} {z:List (Nat×Fz)} {v:List Prop}
variable {C:Du P}
def TrI.e {Y:BK P Γ L}(d:HX Fence.wide P)(K:BX)(n:Nat)(a:HS c o z v) 
 (h:(CN P Γ K n k S ⟨c,o,z,[]⟩).map (λr=>((match r.1 with | .ret=>true | .at []=>true | _=>false),r.2.2.1))=some (true,v)) (G:Y=C.Y Γ L C.encs.length∨Y=C.X Γ L):A1 P Γ Fence.wide none L Y (C.Q Γ L) k S:=by
 cases i:CN P Γ K n k S ⟨c,o,z,[]⟩ with
 | none=>rw [i] at h;cases h
 | some r=>
  obtain ⟨l,S1,DZ,o1⟩:=r;rw [i] at h;simp only [zIO,zH8,zIa] at h;obtain ⟨b,rfl⟩:=h;refine GE d.f d.m n k S _ _ _ _ _ i a.all ?_;rcases l with (_ | ⟨_,_⟩) | _
  ·exact ⟨.inl rfl,G⟩
  ·cases b
  ·exact ⟨.inr rfl,G⟩
def A1.y {i:Nat}{Q:QY P Γ L}{K:List KI}{ops:Array Oper}(d:HX Fence.wide P)(p:Nat)(B σ:Θ)(b:HS c o z v){x:List DV}(a:List DV)(m:DH)(D:List DV)(F:DH) 
 (j:PJ K=some (ops,Eh K)) (e:DE ops=true) (h:(T8 P Γ ops p S ⟨c,o,z,[]⟩).map (gF B σ L)=some (x,C.l,a,m,D,F,v,true)) (g:C.encs[i]? =some x) (k:JD (Eh K)=true) (n:A1 P Γ Fence.wide none L (C.Y Γ L (i+1)) Q (Eh K) ⟨a,m⟩) (q:A1 P Γ Fence.wide none L (C.X Γ L) Q (Eh K) ⟨D,F⟩):A1 P Γ Fence.wide none L (C.Y Γ L i) Q K S:=
 A1.yieldAt d.f j e p _ B σ a m D F v h b.all g k n q
end
section
variable {P:Program} {Γ:Av} {F:Fence} {B L:Nat} {Y:BK P Γ L} {Q:QY P Γ L} {fr:List DV} {h:DH} {K:List KI} {a b:Code} {α σ:Type} {l:List α} {H:σ -> DH} {FR:α -> List DV}
variable {G:σ}
def Bi.rg (m:F=Fence.wide∨∃ l,F=Fence.wide.inRound l)(T:List Exit)(p:(T.all λe=>(KR e).isSome)=true)(J t:Nat)(V:Array Tmp)(enc:α -> List DV)(L':Nat){f:α -> σ -> Option (σ×Nat)}{rE:σ×Nat}(M:Ch f l G=some rE) 
 (S: ∀ (l B:Nat) (N:BK P Γ L') (x:α) (s:σ) (r:σ×Nat),f x s=some r -> HF P Γ (Fence.wide.inRound l) (some B) L' N (C0 L' T r.2 (H r.1)) a b ⟨FR x,H s⟩)
 (j:PH K=some (.tmp t,V,a,b,Eh K)) (c:AZ fr (.tmp t)= .it J) (hk:h[J]? =some (some (.iter (l.map enc)))) (d: ∀ x,(enc x).length=V.size) (g:Nat.ble L L'=true) (z:fr.all (C4 L')=true) (h0:h.set J none=H G) (i:(λx=>Iz fr V.toList (enc x))=FR)
 (v: ∀ e,(Exit.normal::T)[rE.2]? =some e -> BF P Γ F (some B) L Q (Eh K) e ⟨fr,H rE.1⟩ Y):A1 P Γ F (some B) L Y Q K ⟨fr,h⟩:=
 Bi.rangeAt m T p (.tmp t) V a b (Eh K) enc l H FR f M j c hk d L' g z h0 i S v
def Bi.rg0 (m:F=Fence.wide∨∃ l,F=Fence.wide.inRound l)(J t:Nat)(V:Array Tmp)(enc:α -> List DV)(L':Nat){f:α -> σ -> Option σ}{E:σ}(M:CO f l G=some E) 
 (S: ∀ (l B:Nat) (N:BK P Γ L') (x:α) (s r:σ),f x s=some r -> HF P Γ (Fence.wide.inRound l) (some B) L' N (C0 L' [] 0 (H r)) a b ⟨FR x,H s⟩)
 (j:PH K=some (.tmp t,V,a,b,Eh K)) (c:AZ fr (.tmp t)= .it J) (hk:h[J]? =some (some (.iter (l.map enc)))) (d: ∀ x,(enc x).length=V.size) (e:Nat.ble L L'=true) (z:fr.all (C4 L')=true) (h0:h.set J none=H G) (g:(λx=>Iz fr V.toList (enc x))=FR)
 (v:A1 P Γ F (some B) L Y Q (Eh K) ⟨fr,H E⟩):A1 P Γ F (some B) L Y Q K ⟨fr,h⟩:=
 Bi.rangeAt0 m (.tmp t) V a b (Eh K) enc l H FR f M j c hk d L' e z h0 g S v
end
abbrev zMq:=@List.filter_cons
abbrev zNO:=@List.filter_sublist
section
abbrev LK:=Nat×Array MapEntry×Nat
variable {i:Nat}
def zFJ :aG none i:=λ_ h=>by cases h
def zFI {j:Nat}{g:LK}(h:i≠j):aG (some (i,g)) j:=λy e=>by cases e;exact h
def I7 {R:Type} [DecidableEq R] (B:KS) (a:Option R) (f:Ξ -> Option R):Option R:=match B with
 | []=>a
 | x::r=>match f x with
  | none=>none
  | some v=>if r.all (λy=>decide (f y=some v)) then some v else none
variable {B:KS}{R:Type}
def Zy [DecidableEq R]  {a:Option R} {f:Ξ -> Option R} {r:R} (h:I7 B a f=some r):(B= [] -> a=some r)/\ ∀ y∈B,f y=some r:=by
 cases B with
 | nil=>exact ⟨λ_=>h,λy hy=>absurd hy zMp⟩
 | cons x l=>
  refine ⟨λe=>absurd e (List.cons_ne_nil x l),?_⟩;unfold I7 at h
  grind
def rY [DecidableEq R] {a:Option R} {f:Ξ -> Option R}:I7 [] a f=a:=rfl
theorem zEE [DecidableEq R]  {a:Option R} {f:Ξ -> Option R} {r:R} (u:B≠[]) (h: ∀ y∈B,f y=some r):I7 B a f=some r:=by
 cases B with
 | nil=>exact absurd rfl u
 | cons x l=>
  simp_all [I7]
def zB0 {P:Program}{w:World}{r h f a Y:Nat}{seen:Array Nat}{es:Array MapEntry}(i:w.heap[r]? =some (.mapIter (some h) f seen a))(c:w.heap[h]? =some (.map es Y))(l: ∀ x∈es.toList,x.born<f)(t:f<=a)(ty:TypeId):
 ((leftOf es seen).size=0/\ (Instr.next (.pointer (some ⟨r,0,none⟩)) false ty).run P w= .ok (.tuple #[.bool false]) w)∨
 ∃ e∈(leftOf es seen).toList,∃ w1:World,(w1=w∨w1=w.drew)/\ (Instr.next (.pointer (some ⟨r,0,none⟩)) false ty).run P w= .ok (.tuple #[.bool true,e.key,e.val]) { w1 with heap:=w1.heap.setIfInBounds r (.mapIter (some h) f (seen.push e.born) Y) }:=by
 simp only [Instr.next,getObj,zG3,Sem.run,i,c,Result.andThen,next_test_false seen es f a l t,zI1,zNA];unfold leftOf;have E: ∀ x∈(Array.filter (λe=>!seen.contains e.born) es).toList,x.born<f:=λx d=>l x (by simp at d ⊢;exact d.1)
 generalize Array.filter (λe=>!seen.contains e.born) es=L at E ⊢
 have g:L.filter (λx=>decide (x.born<f))=L:=Array.filter_eq_self.2 (λx d=>by simpa using E x (by simpa using d))
 have z:L.filter (λx=>decide (x.born>=f))= #[]:=by
  simp_all
 simp only [g,z,Array.append_empty]
 by_cases h0:L.size=0
 ·simp_all [Question.forced]
 ·right;have D:L.isEmpty=false:=by simp [Array.isEmpty,h0]
  simp only [D,zI1,zNA,Array.empty_append,Array.size_map]
  have k: ∃ (j:Nat) (w1:World),j<L.size/\ (w1=w∨w1=w.drew)/\ (choose (Question.mapNext L.size)).run P w= .ok j w1:=by
   by_cases M:L.size<=1
   ·exact ⟨0,w,by omega,.inl rfl,by simp [choose,Sem.run,Question.forced,M]⟩
   ·exact ⟨_,w.drew,Nat.mod_lt _ (by omega),.inr rfl,by
     simp only [choose,Sem.run,Question.forced,zH6,M,zNA,Question.cut];rfl⟩
  obtain ⟨j,w1,hj,b,MY⟩:=k;have WB:w1.heap[r]? =some (.mapIter (some h) f seen a):=by rcases b with rfl | rfl <;> exact i
  refine ⟨L[j],by simp,w1,b,?_⟩
  simp_all [setObj,Sem.run]
section
variable {P:Program} {Γ:Av} {N:Ψ} {S:St} {ρ:List AI} {a:Act} {w:World} {F:Fence} {B:Option Nat} {L:Nat} {Y:BK P Γ L} {Q:QY P Γ L}
variable {p:AI}
def AS.setMo (R:AS P Γ N S ρ a w){k:Nat}{x x':MX}(hk:S.h[k]? =some (some (.mo x)))(g:ρ[k]? =some p)(J:Oj w p x')(l: ∀ b,p.foot b -> EF w b):
 AS P Γ N ⟨S.fr,S.h.set k (some (.mo x'))⟩ ρ a w/\ A3 S.h ρ w (S.h.set k (some (.mo x'))) ρ w:=
 ⟨⟨R.hr.write hk g (AQ.refl _ _) l J,R.fr.out (BP.write trivial hk g (AQ.refl p.foot w))⟩,A3.write hk g (AQ.refl _ _)⟩
variable {vs:Array Value}{E:List (Option KS)}{n:Nat}
def Ft.relock (h:Ft w p n E none vs){i:Nat}(hi:(E.getD i none).isSome=true): ∃ g:LK,Ft w p n E (some (i,g)) vs:=by
 obtain ⟨Q,g1,g2,g3,es,Y,g4,_⟩:=h.has i _ (Wf hi);refine ⟨(Q,es,Y),{ h with has:=λj l m=>?_ }⟩
 by_cases e:j=i
 ·grind
 ·obtain ⟨b,k1,k2,k3,Lh,c1,k4,_⟩:=h.has j l m
  grind
def Ft.unlock {H:Option (Nat×LK)}(h:Ft w p n E H vs):Ft w p n E none vs:=
 { h with has:=λj l m=>let ⟨b,B,Y,a,P,c,d,_⟩:=h.has j l m;⟨b,B,Y,a,P,c,d,λx e=>by cases e⟩ }
variable {j:Nat}
def Tr.lock {c:Code}{i:Nat}(hk:S.h[j]? =some (some (.mo (.sets n E none))))(hi:(E.getD i none).isSome=true)(H: ∀ g:LK,Tr P Γ F B L Y c ⟨S.fr,S.h.set j (some (.mo (.sets n E (some (i,g)))))⟩ Q):Tr P Γ F B L Y c S Q:=λN ρ a w R y m b=>by
 obtain ⟨p,e,vs,d⟩:=R.hr.obj j _ hk;obtain ⟨g,f⟩:=d.relock hi;obtain ⟨R',st⟩:=R.setMo hk e (x':=.sets n E (some (i,g))) ⟨vs,f⟩ λb k=>d.lies k
 exact H g N ρ a w R' (Y.st y R.hr R'.hr st (CA.refl _ _)) m b
def sf:List KI -> Bool
 | .code _::_=>true
 | _=>false
variable {h:DH}{fr:List DV}{K:List KI}
def Bi.lock (j i n:Nat)(hk:h[j]? =some (some (.mo (.sets n E none))))(hi:(E.getD i none).isSome=true)(a:sf K=true)(h':LK -> DH)(I:h'=λg=>h.set j (some (.mo (.sets n E (some (i,g))))))(H: ∀ g:LK,A1 P Γ F B L Y Q K ⟨fr,h' g⟩):A1 P Γ F B L Y Q K ⟨fr,h⟩:=by
 subst I;unfold sf at a;split at a
 ·exact Tr.lock (S:=⟨fr,h⟩) hk hi H
 ·cases a
variable {g:LK}{m W:Nat}
def zEb (R:AS P Γ N S ρ a w){i:Nat}{B:KS}{L:Option Ξ}(M:S.h[m]? =some (some (.mo (.mit n g.1 g.2.1 g.2.2 B L))))(O:S.h[j]? =some (some (.mo (.sets W E (some (i,g))))))(hi:(E.getD i none).isSome=true){v:Value}(T:AL (MS N S.h ρ) w (.it m) ρ v)(ty:TypeId):
 (B= []/\ (Instr.next v false ty).run P w= .ok (.tuple #[.bool false]) w)∨∃ y∈B,∃ (k u:Value) (w':World) (p:AI),(Instr.next v false ty).run P w= .ok (.tuple #[.bool true,k,u]) w'/\ ρ[m]? =some p/\ AQ p.foot w w'/\ Oj w' p (.mit n g.1 g.2.1 g.2.2 (B.erase y) (some y))/\ ∀ b,p.foot b -> EF w' b:=by
 obtain ⟨p,t,rfl⟩:=T;obtain ⟨p',U,h0,z,c,seen,d,A,V⟩:=R.hr.obj m _ M;have:p'=p:=zGT (U.symm.trans t);subst this;obtain ⟨q,hq,vs,X⟩:=R.hr.obj j _ O;obtain ⟨b,k1,k2,k3,Z,lM,f,C⟩:=X.has i _ (Wf hi);have C:=C _ rfl rfl;obtain ⟨Q,es,Y⟩:=g
 have e3:Q=b/\ es=Z/\ Y=lM:=by
  grind
 obtain ⟨rfl,rfl,rfl⟩:=e3;simp only at d A V;rw [z];have N7: ∀ x∈es.toList,x.born<Y:=f.born;rcases zB0 (P:=P) d f.blk N7 (zGd _) ty with ⟨e1,D⟩ | ⟨e,I,w1,F,D⟩
 ·simp_all
 ·have o:e.key∈B.map Bb:=A.mem_iff.1 (zIS.2 ⟨e,I,rfl⟩);obtain ⟨y,hy,hye⟩:=zIS.1 o;have hes:e∈es.toList:=by simp [leftOf] at I ⊢;exact I.1
  have hrlt:p'.blk<w.heap.size:=(zGS.1 d).1;have hw1h:w1.heap=w.heap:=by rcases F with rfl | rfl <;> rfl
  have hU:AQ p'.foot w { w1 with heap:=w1.heap.setIfInBounds p'.blk (.mapIter (some Q) Y (seen.push e.born) Y) }:=by
   rw [c]
   have u1:AQ (λk=>k=p'.blk) w w1:=by
    rcases F with rfl | rfl
    ·exact AQ.refl _ _
    ·exact AQ.ofExt (A0.toDrew w)
   exact u1.trans (UJ _)
  have G:({ w1 with heap:=w1.heap.setIfInBounds p'.blk (.mapIter (some Q) Y (seen.push e.born) Y) }:World).heap[p'.blk]? =some (.mapIter (some Q) Y (seen.push e.born) Y):=by
   grind
  refine .inr ⟨y,hy,e.key,e.val,_,p',D,t,hU,⟨λx r=>?_,z,c,seen.push e.born,G,?_,λx r=>?_⟩,λb H=>?_⟩
  ·grind
  ·have hl:leftOf es (seen.push e.born)=(leftOf es seen).filter λx=>x.born != e.born:=by
    grind [leftOf,Array.filter_filter]
   have BA:((leftOf es seen).toList.map (·.born)).Nodup:=by
    have:((leftOf es seen).toList.map (·.born)).Sublist (es.toList.map (·.born)):=by
     unfold leftOf;rw [Array.toList_filter];exact zNO.map _
    exact this.nodup f.stamps
   have s: ∀ (l:List MapEntry),(l.map (·.born)).Nodup -> e∈l -> (l.map (·.key)).Perm (e.key::((l.filter λx=>x.born != e.born).map (·.key))):=by
    intro l
    induction l with
    | nil=>intro _ h;cases h
    | cons x l ih=>
     intro J r;rw [zL1,zNr] at J
     by_cases K:x=e
     ·subst K
      have:(l.filter λy=>y.born != x.born)=l:=List.filter_eq_self.2 λy hy=>by
       grind
      simp [this]
     ·have bL:e∈l:=(zIn.1 r).resolve_left λh=>K h.symm
      have AY:(x.born != e.born)=true:=by
       grind
      rw [zMq,zEd AY,zL1,zL1];exact ((ih J.2 bL).cons x.key).trans (List.Perm.swap e.key x.key _)
   have P1:=s _ BA I;rw [hl,Array.toList_filter];have P2:(B.map Bb).Perm (Bb y::(B.erase y).map Bb):=(List.perm_cons_erase hy).map Bb;have P3:=P1.symm.trans (A.trans P2)
   simp_all
  ·grind
  ·rw [c] at H;exact ⟨_,rfl,(),by rw [show b=p'.blk from H];exact G⟩
variable {ops:Array Oper}
def Tr.next (z:Dv F P){id:Nat}(BA:DE ops=true){o:Oper}{rest:List Oper}(WE:ops.toList=o::rest){x:Operand}(A:o.op= .next x false)(hw:Kj ops S o=some true){i:Nat}{f:KS}{Fe:Option Ξ}(hx:AZ S.fr x= .it m)(r:S.h[m]? =some (some (.mo (.mit n g.1 g.2.1 g.2.2 f Fe))))(C:S.h[j]? =some (some (.mo (.sets W E (some (i,g))))))(tc:m≠j)(hi:(E.getD i none).isSome=true) 
 (h0:f= [] -> ∃ S' vs o0 o',EN P Γ ops rest ⟨Co S.fr o.dst (.tup 1 (L1 [.bool false])),(S.h.set j (some (.mo (.sets W E none)))).set m none⟩ o0=some (S',vs,o')/\ Bq vs/\ Q .normal S' Y)
 (h1: ∀ y∈f,∃ S' vs o0 o',EN P Γ ops rest ⟨Co S.fr o.dst (.tup 3 (L1 [.bool true])),S.h.set m (some (.mo (.mit n g.1 g.2.1 g.2.2 (f.erase y) (some y))))⟩ o0=some (S',vs,o')/\ Bq vs/\ Q .normal S' Y):Tr P Γ F B L Y (.region id ops false) S Q:=λN ρ a w R y mk b=>by
 refine zJK ?_;rw [WE];have hd: ∀ c,o.op≠.defer c:=λc e=>by rw [A] at e;cases e
 have Fb: ∀ o'∈rest,o'∈ops:=λo' Sl=>by
  grind
 have Cv: ∀ v,(a.put o.dst v).defers=a.defers:=λv=>by cases A:o.dst <;> simp [Act.put]
 have rx:=BV R x;rw [hx] at rx;unfold wpListIn;rw [zEd (Io R hw)];have KE:execOp a.eval o=(do pure (.value (←Instr.next (a.eval x) false o.type))):=by unfold execOp;rw [A]
 have AU:m<S.h.length:=(zGq.1 r).1;rcases zEb R r C hi rx o.type with ⟨e1,D⟩ | ⟨Z,H,k,u,w',p,D,l,M,hO,hC⟩
 ·obtain ⟨S',vs,o0,o',J,K,O⟩:=h0 e1;obtain ⟨q,hq,yB,hS⟩:=R.hr.obj j _ C;obtain ⟨I,T⟩:=R.setMo C hq (x':=.sets W E none) ⟨yB,hS.unlock⟩ λb hb=>hS.lies hb
  have R2:AS P Γ N ⟨S.fr,(S.h.set j (some (.mo (.sets W E none)))).set m none⟩ ρ a w:=⟨I.hr.kill m,I.fr.out (BP.kill m)⟩
  have U:=HN R2 o.dst (d:=.tup 1 (L1 [.bool false])) (v:=.tuple #[.bool false]) ⟨#[.bool false],rfl,rfl,λV bH=>by
   have:V=0:=by omega
   subst this;exact ⟨_,rfl,rfl⟩⟩
  refine Lj z hd (G:=λv t=>v= .tuple #[.bool false]/\ t=w) (BO.value (s:=Instr.next (a.eval x) false o.type) KE D ⟨rfl,rfl⟩) λv t ⟨X,iv⟩=>?_
  subst X iv;refine LZ z BA rest Fb U J K λρ' a' w3 R' st EL=>?_
  exact Tr.done R y mk b O R' ((T.trans (A3.kill m)).trans st.st) (λk p _ l=>st.pl k p l) (EL.trans (Cv _))
 ·obtain ⟨S',vs,o0,o',J,K,O⟩:=h1 Z H;have T:=A3.write (h:=S.h) (o':=.mo (.mit n g.1 g.2.1 g.2.2 (f.erase Z) (some Z))) r l M;have I:AS P Γ N ⟨S.fr,S.h.set m (some (.mo (.mit n g.1 g.2.1 g.2.2 (f.erase Z) (some Z))))⟩ ρ a w':=⟨R.hr.write r l M hC hO,R.fr.out (BP.write trivial r l M)⟩
  have U:=HN I o.dst (d:=.tup 3 (L1 [.bool true])) (v:=.tuple #[.bool true,k,u]) ⟨#[.bool true,k,u],rfl,rfl,λV bH=>by
   match V,bH with
   | 0,_=>exact ⟨_,rfl,rfl⟩
   | 1,_=>exact ⟨_,rfl,trivial⟩
   | 2,_=>exact ⟨_,rfl,trivial⟩⟩
  refine Lj z hd (G:=λv t=>v= .tuple #[.bool true,k,u]/\ t=w') (BO.value (s:=Instr.next (a.eval x) false o.type) KE D ⟨rfl,rfl⟩) λv t ⟨X,iv⟩=>?_
  subst X iv;refine LZ z BA rest Fb U J K λρ' a' w3 R' st EL=>?_
  exact Tr.done R y mk b O R' (T.trans st.st) (λk p _ l=>st.pl k p l) (EL.trans (Cv _))
def gU (ops:Array Oper):Operand:=match ops.toList with
 | o::_=>match o.op with
  | .next x _=>x
  | _=>.tmp 0
 | []=>.tmp 0
def Z1 (ops:Array Oper):Option Tmp:=match ops.toList with
 | o::_=>o.dst
 | []=>none
def PU (ops:Array Oper):List Oper:=ops.toList.tail
def gV (ops:Array Oper):Bool:=match ops.toList with
 | o::_=>match o.op with
  | .next _ false=>o.guard.isNone&&DE ops
  | _=>false
 | []=>false
def zEK (h:gV ops=true):DE ops=true/\ ∃ o,ops.toList=o::PU ops/\ o.op= .next (gU ops) false/\ o.guard=none/\ o.dst=Z1 ops:=by
 unfold gV at h;unfold gU Z1 PU;split at h
 ·rename_i o rest M;rw [M];split at h
  ·simp_all
  ·cases h
 ·cases h
def Zr (B σ:Θ)(L:Nat)(r:St×List Prop×BQ):List DV×DH×List Prop×Bool:=((comp B σ r.1).fr,(comp B σ r.1).h,r.2.1,Kp σ L r.1.h.length)
def A1.nx (t:HX F P)(d:PJ K=some (ops,Eh K))(u:gV ops=true)(m j i n:Nat)(E:List (Option KS))(g:LK)(b:KS)(v:Option Ξ)(a σ:Θ)(l:List DV)(h0:DH)(σ1:Θ)(U:Ξ -> List DV)(p:Ξ -> DH) 
 (w:AZ fr (gU ops)= .it m) (x:h[m]? =some (some (.mo (.mit n g.1 g.2.1 g.2.2 b v)))) (z:h[j]? =some (some (.mo (.sets n E (some (i,g)))))) (A:m≠j) (hi:(E.getD i none).isSome=true) (C:JD (Eh K)=true)
 (G:(EN P Γ ops (PU ops) ⟨Co fr (Z1 ops) (.tup 1 (L1 [.bool false])),(h.set j (some (.mo (.sets n E none)))).set m none⟩ ⟨[],[],[],[]⟩).map (Zr a σ L)=some (l,h0,[],true))
 (H: ∀ y,(EN P Γ ops (PU ops) ⟨Co fr (Z1 ops) (.tup 3 (L1 [.bool true])),h.set m (some (.mo (.mit n g.1 g.2.1 g.2.2 (b.erase y) (some y))))⟩ ⟨[],[],[],[]⟩).map (Zr a σ1 L)=some (U y,p y,[],true))
 (I:b= [] -> A1 P Γ F B L Y Q (Eh K) ⟨l,h0⟩) (J: ∀ y∈b,A1 P Γ F B L Y Q (Eh K) ⟨U y,p y⟩):A1 P Γ F B L Y Q K ⟨fr,h⟩:=by
 have s: ∀ {S:St} {a σ:Θ} {fr':List DV} {h':DH},(EN P Γ ops (PU ops) S ⟨[],[],[],[]⟩).map (Zr a σ L)=some (fr',h',[],true) -> A1 P Γ F B L Y Q (Eh K) ⟨fr',h'⟩ -> ∃ S' vs o0 o',EN P Γ ops (PU ops) S o0=some (S',vs,o')/\ Bq vs/\ A1 P Γ F B L Y Q (Eh K) S':=by
  intro S a σ fr' h' c hk;cases k:EN P Γ ops (PU ops) S ⟨[],[],[],[]⟩ with
  | none=>rw [k] at c;cases c
  | some r=>
   obtain ⟨q,v1,o1⟩:=r;rw [k] at c;simp only [zIO,Zr,zH8,zIa] at c;obtain ⟨rfl,rfl,rfl,M⟩:=c;exact ⟨q,_,_,_,k,trivial,Bi.le (A7.comp a σ q M) C hk⟩
 unfold PJ at d;split at d
 ·rename_i id gK k';have e:=zGT d;simp only [Eh,zIa,and_true] at e;subst e;obtain ⟨N,o,O,R,T,D⟩:=zEK u;exact Tr.next (S:=⟨fr,h⟩) t.f N O R (by unfold Kj;rw [T]) w x z A hi (λe=>by rw [D];exact s G (I e)) (λy hy=>by rw [D];exact s (H y) (J y hy))
 ·cases d
end
end
abbrev zEf:=@Option.bind_some
abbrev zGg:=@Nat.lt_succ_iff_lt_or_eq
abbrev zIG:=@List.mem_cons_of_mem
abbrev zIV:=@List.mem_cons_self
def At {R:Type}(f:Nat -> Option R)(Q:R -> Prop):Prop:=∃ N,∀ n,N<=n -> ∃ r,f n=some r/\ Q r
def Ev {R:Type}(f:Nat -> Option R)(r:R):Prop:=∃ N,∀ n,N<=n -> f n=some r
section
variable {R T:Type} {f g:Nat -> Option R} {Q Q':R -> Prop} {r:R}
def Ev.p (h:Ev f r)(L:Q r):At f Q:=let ⟨N,h⟩:=h;⟨N,λn u=>⟨r,h n u,L⟩⟩
def At.ev (h:At f Q)(hu: ∀ r V,Q r -> Q V -> r=V): ∃ r,Q r/\ Ev f r:=by
 obtain ⟨N,h⟩:=h;obtain ⟨r,h1,b⟩:=h N (zGd _);refine ⟨r,b,N,λn hn=>?_⟩
 grind
theorem At.mono (h:At f Q)(L: ∀ r,Q r -> Q' r):At f Q':=let ⟨N,h⟩:=h;⟨N,λn u=>let ⟨r,a,b⟩:=h n u;⟨r,a,L r b⟩⟩
def At.step (k:Nat)(h: ∀ n,f (n+k)=g n)(j:At g Q):At f Q:=by
 obtain ⟨N,j⟩:=j;refine ⟨N+k,λn hn=>?_⟩;have:=j (n-k) (by omega)
 grind
def Ev.step (k:Nat)(h: ∀ n,f (n+k)=g n)(j:Ev g r):Ev f r:=by
 obtain ⟨N,j⟩:=j;refine ⟨N+k,λn hn=>?_⟩;have:=j (n-k) (by omega)
 grind
def Ev.now (h: ∀ n,f n=some r):Ev f r:=⟨0,λn _=>h n⟩
def Ev.eq {f g:Nat -> Option R}(h:Ev g r)(e: ∀ n,f n=g n):Ev f r:=let ⟨N,h⟩:=h;⟨N,λn u=>(e n).trans (h n u)⟩
def At.eq {f g:Nat -> Option R}(h:At g Q)(e: ∀ n,f n=g n):At f Q:=let ⟨N,h⟩:=h;⟨N,λn u=>by rw [e];exact h n u⟩
variable {b:Nat -> T -> Option R}{x:T}{a:Nat -> Option T}
def Ev.bind (D:Ev a x)(c:Ev (λn=>b n x) r):Ev (λn=>(a n).bind (b n)) r:=by
 obtain ⟨N,D⟩:=D;obtain ⟨M,c⟩:=c;refine ⟨max N M,λn hn=>?_⟩
 grind
def At.bind (D:Ev a x)(c:At (λn=>b n x) Q):At (λn=>(a n).bind (b n)) Q:=by
 obtain ⟨N,D⟩:=D;obtain ⟨M,c⟩:=c;refine ⟨max N M,λn hn=>?_⟩
 show ∃ r,(a n).bind (b n)=some r/\ _
 rw [D n (by omega),zEf];exact c n (by omega)
def At.all {l:List T}{F:T -> Nat -> Option R}(h: ∀ y∈l,At (F y) Q): ∃ N,∀ n,N<=n -> ∀ y∈l,∃ r,F y n=some r/\ Q r:=by
 induction l with
 | nil=>simp_all
 | cons x l V=>
  obtain ⟨N,a⟩:=V λy hy=>h y (zIG _ hy)
  obtain ⟨M,X⟩:=h x zIV;refine ⟨max N M,λn hn y hy=>?_⟩;rcases zIn.1 hy with rfl | hy
  ·exact X n (by omega)
  ·exact a n (by omega) y hy
def At.range {F:Nat -> Nat -> Option R}{A:Nat -> R -> Prop}: ∀ (k:Nat),(∀ i,i<k -> At (F i) (A i)) -> ∃ N,∀ n,N<=n -> ∀ i,i<k -> ∃ r,F i n=some r/\ A i r
 | 0,_=>⟨0,λn _ i hi=>absurd hi (zGa i)⟩
 | k+1,h=>by
  obtain ⟨N,a⟩:=At.range k λi hi=>h i (by omega)
  obtain ⟨M,X⟩:=h k (by omega);refine ⟨max N M,λn hn i hi=>?_⟩;rcases zGg.1 hi with hi | rfl
  ·exact a n (by omega) i hi
  ·exact X n (by omega)
def At.next [DecidableEq R] {B:KS} {a:Nat -> Option R} {F:Nat -> Ξ -> Option R} (u:B≠[]) (h: ∀ y∈B,At (λn=>F n y) Q) (hu: ∀ r V,Q r -> Q V -> r=V):At (λn=>I7 B (a n) (F n)) Q:=by
 obtain ⟨N,hN⟩:=At.all h;refine ⟨N,λn OD=>?_⟩;obtain ⟨y0,hy0⟩:=List.exists_mem_of_ne_nil B u
 grind [zEE]
end
def AV {T R:Type}(m:Nat -> T -> Option R)(a b:T):Prop:=∃ N S,∀ n,N<=n -> m (n+S) a=m n b
section
variable {T R:Type} {m:Nat -> T -> Option R} {a b c:T} {r:R} {Q:R -> Prop}
theorem AV.refl:AV m a a:=⟨0,0,λ_ _=>rfl⟩
def AV.one (h: ∀ n,m (n+1) a=m n b):AV m a b:=⟨0,1,λn _=>h n⟩
def AV.oneN (N:Nat)(h: ∀ n,N<=n -> m (n+1) a=m n b):AV m a b:=⟨N,1,h⟩
def AV.trans (h:AV m a b)(d:AV m b c):AV m a c:=by
 obtain ⟨N,S,h⟩:=h;obtain ⟨x,o,d⟩:=d;exact ⟨max N x,o+S,λn hn=>by grind⟩
def AV.ev (h:AV m a b)(c:Ev (λn=>m n b) r):Ev (λn=>m n a) r:=by
 obtain ⟨N,S,h⟩:=h;obtain ⟨M,c⟩:=c;refine ⟨max N M+S,λn hn=>?_⟩;have:=h (n-S) (by omega)
 grind
def Ev.one (h: ∀ n,m (n+1) a=some r):Ev (λn=>m n a) r:=⟨1,λn hn=>by
 obtain ⟨k,rfl⟩: ∃ k,n=k+1:=⟨n-1,by omega⟩;exact h k⟩
def Ev.oneN (N:Nat)(h: ∀ n,N<=n -> m (n+1) a=some r):Ev (λn=>m n a) r:=⟨N+1,λn hn=>by
 obtain ⟨k,rfl⟩: ∃ k,n=k+1:=⟨n-1,by omega⟩;exact h k (by omega)⟩
def LI {S:Type}(st:Nat -> S -> T)(I:Nat -> S -> Prop)(len:Nat)(h: ∀ i s,i<len -> I i s -> ∃ a,I (i+1) a/\ AV m (st i s) (st (i+1) a)): ∀ (k i:Nat) (s:S),i+k=len -> I i s -> ∃ a,I len a/\ AV m (st i s) (st len a)
 | 0,i,s,e,u=>by
  grind [AV.refl]
 | k+1,i,s,e,u=>by
  obtain ⟨a,b,c⟩:=h i s (by omega) u;obtain ⟨D,d,A⟩:=LI st I len h k (i+1) a (by omega) b;exact ⟨D,d,c.trans A⟩
end
section
class HC (F:Fence):Prop where
 x:HX F Tryz.prog
 w:F=Fence.wide∨∃ l,F=Fence.wide.inRound l
instance:HC Fence.wide:=⟨⟨Dv.wide,by kernel_rfl⟩,.inl rfl⟩
instance (l:Nat):HC (Fence.wide.inRound l):=⟨⟨Dv.round l,by kernel_rfl⟩,.inr ⟨l,rfl⟩⟩
abbrev DV.i (x:Int):DV:=.int .i64 x
def AC:BX:=λ_=>.no
def GZ:Nat -> List DV -> Θ
 | _,[]=>[]
 | i,.any::r=>GZ (i+1) r
 | i,_::r=>i::GZ (i+1) r
section
variable {F:Fence} {B:Option Nat} {L:Nat} {Y N:BK Tryz.prog GG L} {Q:QY Tryz.prog GG L} {k k':List KI} {S:St} {fr:List DV} {h' h2:DH} {c:List (DV×DH×Bool)} {o:List (Nat×DV)} {z:List (Nat×Fz)} {v w:List Prop}
def gz [d:HC F] (K:BX) (σ:Θ) (m:HS c o z v) (U:Θ) (a:HS [] [] [] w) (k':List KI) (fr:List DV) (h':DH) (hk:A1 Tryz.prog GG F B L Y Q k' ⟨fr,h'⟩) (tg:List (List (Nat×Nat)×St):=[])
 (h:(CN Tryz.prog GG K 400 k S ⟨c,o,z,tg⟩).bind (Nh (GZ 0 fr) σ L U)=some (.at k',fr,h',v,w,[],[],true):=by kernel_rfl) (l:JD k'=true:=by kernel_rfl):A1 Tryz.prog GG F B L Y Q k S:=
 Bi.gS d.x K 400 (GZ 0 fr) σ tg m U a k' fr h' h l hk
theorem gs [d:HC F] (K:BX) (σ:Θ) (m:HS c o z v) (k':List KI) (fr:List DV) (h':DH) (hk:A1 Tryz.prog GG F B L Y Q k' ⟨fr,h'⟩) (tg:List (List (Nat×Nat)×St):=[])
 (h:(CN Tryz.prog GG K 400 k S ⟨c,o,z,tg⟩).bind (Nh (GZ 0 fr) σ L [])=some (.at k',fr,h',v,[],[],[],true):=by kernel_rfl) (l:JD k'=true:=by kernel_rfl):A1 Tryz.prog GG F B L Y Q k S:=
 Bi.gS d.x K 400 (GZ 0 fr) σ tg m [] H0 k' fr h' h l hk
def gg [d:HC F] (K:BX) (σ:Θ) (m:HS c o z v) (hk:A1 Tryz.prog GG F B L Y Q k' ⟨fr,h'⟩) (tg:List (List (Nat×Nat)×St):=[])
 (h:(CN Tryz.prog GG K 400 k S ⟨c,o,z,tg⟩).bind (Nh (GZ 0 fr) σ L [])=some (.at k',fr,h',v,[],[],[],true):=by kernel_rfl) (l:JD k'=true:=by kernel_rfl):A1 Tryz.prog GG F B L Y Q k S:=
 Bi.gS d.x K 400 (GZ 0 fr) σ tg m [] H0 k' fr h' h l hk
variable {d:DV}{fn:Func}
theorem el [e:HC F]   (K:BX) (a σ:Θ) (m:HS c o z v) (U:Θ) (f:HS [] [] [] w) (b:List DV) (E:AN (IF b) d) (tg:List (List (Nat×Nat)×St):=[])
 (h:(CN Tryz.prog GG K 400 k S ⟨c,o,z,tg⟩).bind (K3 Tryz.prog a σ L U fn d h2.length)=some (true,b,h2,v,w,[],[],true):=by kernel_rfl):Bi Tryz.prog GG F B L N (Cx Tryz.prog fn L d h2) k S:=
 Bi.el e.x K 400 a σ tg m U f b E h
def ez [b:HC F]   (K:BX) (a σ:Θ) (m:HS c o z v) (U:Θ) (f:HS [] [] [] w) (tg:List (List (Nat×Nat)×St):=[])
 (h:(CN Tryz.prog GG K 400 k S ⟨c,o,z,tg⟩).bind (λr=>(K3 Tryz.prog a σ L U fn d h2.length r).map λq=>(q.1,IF q.2.1,q.2.2))=some (true,d,h2,v,w,[],[],true):=by kernel_rfl):Bi Tryz.prog GG F B L N (Cx Tryz.prog fn L d h2) k S:=
 Bi.e b.x K 400 a σ tg m U f h
def ee [b:HC F]   (K:BX) (a σ:Θ) (m:HS c o z v) (tg:List (List (Nat×Nat)×St):=[])
 (h:(CN Tryz.prog GG K 400 k S ⟨c,o,z,tg⟩).bind (λr=>(K3 Tryz.prog a σ L [] fn d h2.length r).map λq=>(q.1,IF q.2.1,q.2.2))=some (true,d,h2,v,[],[],[],true):=by kernel_rfl):Bi Tryz.prog GG F B L N (Cx Tryz.prog fn L d h2) k S:=
 Bi.e b.x K 400 a σ tg m [] H0 h
def rr [d:HC F] {T:List Exit} {i:Nat} {e:Exit} (K:BX) (σ:Θ) (I:(Exit.normal::T)[i]? =some e) (m:HS c o z v) (tg:List (List (Nat×Nat)×St):=[])
 (h:(CN Tryz.prog GG K 400 k S ⟨c,o,z,tg⟩).map (gG σ L)=some (some e,h2,v,[],[],[],true):=by kernel_rfl):Bi Tryz.prog GG F B L N (C0 L T i h2) k S:=
 Bi.r d.x K 400 σ tg m I h
def ag [d:HC F] {Q:Exit -> St -> Prop} {J T:Code} (K:BX) (σ:Θ) (m:HS c o z v) (fr:List DV) (h':DH) (hk: ∀ a:BK Tryz.prog GG L,Bi Tryz.prog GG F B L a Q [.code T] ⟨fr,h'⟩)
 (h:(CN Tryz.prog GG K 400 [.code J] S ⟨c,o,z,[]⟩).map (Vf (GZ 0 fr) σ L)=some (.at [],fr,h',v,[],[],true):=by kernel_rfl):HF Tryz.prog GG F B L N Q J T S:=
 HF.g d.x K 400 (GZ 0 fr) σ m fr h' h hk
def rd {n m:Nat}(v:n+1<=m)(h: ∀ m,n<=m -> A1 Tryz.prog GG F B L Y Q (m9 m k) S)(hk:Pv k=true:=by kernel_rfl):A1 Tryz.prog GG F B L Y Q (Ag m k) S:=Bi.round v hk h
def en (m:Nat)(h:A1 Tryz.prog GG F B L Y Q (Ag m k) S)(hk:Pv k=true:=by kernel_rfl):A1 Tryz.prog GG F B L Y Q k S:=Bi.enter m hk h
end
variable {ext:Bool}{h' h:DH}{d:DV}{ds:List DV}{f:Nat}
def em (u:ES Tryz.prog GG f ds h d h' ext)(σ:Θ)(H:DH)(c:OW σ H.length h.length h'.length=true:=by kernel_rfl)(y:(σ.map λk=>H.getD k none)=h.map (Dg σ H.length):=by kernel_rfl):ES Tryz.prog GG f (ds.map (up σ H.length)) H (up σ H.length d) (DU H σ h') ext:=ES.emC u σ H c y
def es (u:ES Tryz.prog GG f ds h d h' ext)(σ:Θ)(H:DH)(w:List DV)(D:aE H σ w ds)(c:OW σ H.length h.length h'.length=true:=by kernel_rfl)(y:(σ.map λk=>H.getD k none)=h.map (Dg σ H.length):=by kernel_rfl)(a:(Jm d&&h'.all Uf)=true:=by kernel_rfl):ES Tryz.prog GG f w H (up σ H.length d) (DU H σ h') ext:=ES.embedSB u σ H D c y a
def fb (h0:ES Tryz.prog GG f ds [] d [] true)(h:DH)(C:ds.all GD=true:=by kernel_rfl):ES Tryz.prog GG f ds h d h true:=ES.frameB h0 h C
def sb (ds:List DV){j:List DV}(h0:ES Tryz.prog GG f j [] d [] true)(h:DH)(k:Oc h ds j)(r:Yh d=true:=by kernel_rfl):ES Tryz.prog GG f ds h d h true:=ES.snapB h0 h k r
def ot {fn:Func}(M:Tryz.prog.funcs[f]? =some fn)(H: ∀ (B:Nat) (N:BK Tryz.prog GG h.length),Bi Tryz.prog GG Fence.wide (some B) h.length N (Cx Tryz.prog fn h.length d h') (start fn) ⟨ds++List.replicate (fn.ntmps-ds.length) .any,h⟩) 
 (c:fn.body.isSome=true:=by kernel_rfl) (o:(fn.name== "runtime.NumGoroutine")=false:=by kernel_rfl) (hni:h'.all Vk=true:=by kernel_rfl) (T:(!ext||h.isEmpty)=true:=by kernel_rfl):ES Tryz.prog GG f ds h d h' ext:=
 ES.of_trk M c o (PY hni) (λe=>by subst e;simpa using T) H
section
variable {F:Fence} {B L:Nat} {Y:BK Tryz.prog GG L} {Q:QY Tryz.prog GG L} {fr:List DV} {h:DH} {K:List KI} {a b:Code} {α σ:Type} {l:List α} {H:σ -> DH} {FR:α -> List DV}
variable {G:σ}
def rx [d:HC F] (T:List Exit) (J t:Nat) (V:Array Tmp) (enc:α -> List DV) (L':Nat) {f:α -> σ -> Option (σ×Nat)}  {rE:σ×Nat} (M:Ch f l G=some rE)
 (S: ∀ (l B:Nat) (N:BK Tryz.prog GG L') (x:α) (s:σ) (r:σ×Nat),f x s=some r -> HF Tryz.prog GG (Fence.wide.inRound l) (some B) L' N (C0 L' T r.2 (H r.1)) a b ⟨FR x,H s⟩)
 (v: ∀ e,(Exit.normal::T)[rE.2]? =some e -> BF Tryz.prog GG F (some B) L Q (Eh K) e ⟨fr,H rE.1⟩ Y) (p:(T.all λe=>(KR e).isSome)=true:=by kernel_rfl)
 (j:PH K=some (.tmp t,V,a,b,Eh K):=by kernel_rfl) (c:AZ fr (.tmp t)= .it J:=by kernel_rfl) (hk:h[J]? =some (some (.iter (l.map enc))):=by kernel_rfl) (g: ∀ x,(enc x).length=V.size:=by exact λ_=>rfl) (i:Nat.ble L L'=true:=by kernel_rfl) (z:fr.all (C4 L')=true:=by kernel_rfl) (h0:h.set J none=H G:=by kernel_rfl) (k:(λx=>Iz fr V.toList (enc x))=FR:=by kernel_rfl):A1 Tryz.prog GG F (some B) L Y Q K ⟨fr,h⟩:=
 Bi.rg d.w T p J t V enc L' M S j c hk g i z h0 k v
def r0 [d:HC F] (J t:Nat) (V:Array Tmp) (enc:α -> List DV) (L':Nat) {f:α -> σ -> Option σ} {E:σ} (M:CO f l G=some E)
 (S: ∀ (l B:Nat) (N:BK Tryz.prog GG L') (x:α) (s r:σ),f x s=some r -> HF Tryz.prog GG (Fence.wide.inRound l) (some B) L' N (C0 L' [] 0 (H r)) a b ⟨FR x,H s⟩)
 (v:A1 Tryz.prog GG F (some B) L Y Q (Eh K) ⟨fr,H E⟩)
 (j:PH K=some (.tmp t,V,a,b,Eh K):=by kernel_rfl) (c:AZ fr (.tmp t)= .it J:=by kernel_rfl) (hk:h[J]? =some (some (.iter (l.map enc))):=by kernel_rfl) (e: ∀ x,(enc x).length=V.size:=by exact λ_=>rfl) (g:Nat.ble L L'=true:=by kernel_rfl) (z:fr.all (C4 L')=true:=by kernel_rfl) (h0:h.set J none=H G:=by kernel_rfl) (i:(λx=>Iz fr V.toList (enc x))=FR:=by kernel_rfl):A1 Tryz.prog GG F (some B) L Y Q K ⟨fr,h⟩:=
 Bi.rg0 d.w J t V enc L' M S j c hk e g z h0 i v
end
abbrev Yd (L:Nat):=BK Tryz.prog GG L
abbrev EQ:=ES Tryz.prog GG
abbrev FQ:=Cx Tryz.prog
abbrev TW (B:Nat){L:Nat}(N:Yd L)(Q:Exit -> St -> Prop)(k:List KI)(S:St):Prop:=Bi Tryz.prog GG Fence.wide (some B) L N Q k S
abbrev TA (l B:Nat){L:Nat}(N:Yd L)(Q:Exit -> St -> Prop)(fn:Func)(t:Nat)(S:St):Prop:=HF Tryz.prog GG (Fence.wide.inRound l) (some B) L N Q (rgA fn t) (PI fn t) S
abbrev Al {X R:Type}(m:Nat -> X -> Option R)(T:Nat -> R -> X -> Prop):Prop:=∀ n x r,m n x=some r -> T n r x
def ia {X R:Type}{m:Nat -> X -> Option R}{T:Nat -> R -> X -> Prop}(h0: ∀ x,m 0 x=none)(h: ∀ n,(∀ x r,m n x=some r -> T n r x) -> ∀ x r,m (n+1) x=some r -> T (n+1) r x):Al m T
 | 0,x,_,e=>by rw [h0 x] at e;cases e
 | n+1,x,r,e=>h n (ia h0 h n) x r e
/-A proof in u shape a v was read off:v holds a each way on,u hints gathered so Ib. -/
def Gt {R:Type}(T:R -> Prop)(c:List (DV×DH×Bool))(o:List (Nat×DV))(z:List (Nat×Fz))(v:List Prop)(A:Option R):Prop:=HS c o z v -> ∀ r,A=some r -> T r
section
variable {R R':Type} {T:R -> Prop} {c:List (DV×DH×Bool)} {o:List (Nat×DV)} {z:List (Nat×Fz)} {v:List Prop} {A A':Option R} {r0:R} {b b':Bool} {p q:Prop} {f:Nat} {ds:List DV} {h h':DH} {d d':DV} {e:Bool} {xi:Int}
def gO {F:Fence}{B:Option Nat}{L:Nat}{Y:Yd L}{Q:R -> QY Tryz.prog GG L}{k:List KI}{S:St}(t:Gt (λr=>A1 Tryz.prog GG F B L Y (Q r) k S) [] [] [] [] A): ∀ r,A=some r -> A1 Tryz.prog GG F B L Y (Q r) k S:=t H0
def gT (t:Gt T [] [] [] [] A): ∀ r,A=some r -> T r:=t H0
def rO (t:Gt T [] [] [] [] A):Gt T c o z v A:=λ_=>t H0
def nO:Gt T c o z v none:=λ_ _ h=>by cases h
def lF (x:HS c o z v -> T r0):Gt T c o z v (some r0):=λp _ h=>zGT h▸x p
def bn (x:b=true -> Gt T c o z v A)(y:b=false -> Gt T c o z v A'):Gt T c o z v (bif b then A else A'):=λp r h=>(DN h).elim (λh=>x h.1 p r h.2) (λh=>y h.1 p r h.2)
def bj (t:Nat)(x:b=true -> Gt T c (o++[(t,.bool true)]) z (v++[AN (.bool b) (.bool true)]) A)(y:b=false -> Gt T c (o++[(t,.bool false)]) z (v++[AN (.bool b) (.bool false)]) A'):Gt T c o z v (bif b then A else A'):=bn (λh p=>x h (p.b t h)) (λh p=>y h (p.b t h))
def bi (t:Nat)(x:Gt T c (o++[(t,.bool true)]) z (v++[AN (.bool b) (.bool true)]) A)(y:Gt T c (o++[(t,.bool false)]) z (v++[AN (.bool b) (.bool false)]) A'):Gt T c o z v (bif b then A else A'):=bj t (λ_=>x) (λ_=>y)
def gn {_:Decidable p}(x:p -> Gt T c o z v A):Gt T c o z v (if p then A else none):=λw r h=>x (DG h).1 w r (DG h).2
def gi {_:Decidable p}(x:Gt T c o z (v++[p]) A):Gt T c o z v (if p then A else none):=gn λg w=>x (w.g g)
def gc {_:Decidable p}{_:Decidable q}(x:Gt T c o z v (if p then (if q then A else none) else none)):Gt T c o z v (if p/\ q then A else none):=λw r h=>x w r (by obtain ⟨⟨g,L⟩,h⟩:=DG h;rw [zEd g,zEd L];exact h)
def gw {_:Decidable (AG xi)}(t:Nat)(x:Gt T c (o++[(t,.int .i64 xi)]) z (v++[AN (.int .i64 (IntKind.i64.wrap xi)) (.int .i64 xi)]) A):Gt T c o z v (if AG xi then A else none):=gn λg w=>x (w.w t g)
variable {F:Option R'}
def cn {A:R' -> Option R}(x: ∀ y,F=some y -> Gt T c o z v (A y)):Gt T c o z v (F.bind A):=λw r h=>let ⟨y,hy,h⟩:=Gg h;x y hy w r h
def cf {A:R' -> Option R}{d:R' -> DV}(k: ∀ {y},F=some y -> ES Tryz.prog GG f ds [] (d y) [] true)(h:DH)(x: ∀ y,Gt T (c++[(d y,h,true)]) o z (v++[ES Tryz.prog GG f ds h (d y) h true]) (A y))(C:ds.all GD=true:=by kernel_rfl):Gt T c o z v (F.bind A):=cn λy hy w=>x y (w.c (fb (k hy) h C))
def ce {A:R' -> Option R}{d:R' -> DV}{h':R' -> DH}(k: ∀ {y},F=some y -> ES Tryz.prog GG f ds h (d y) (h' y) e)(σ:Θ)(H:DH)(x: ∀ y,Gt T (c++[(up σ H.length (d y),DU H σ (h' y),e)]) o z (v++[ES Tryz.prog GG f (ds.map (up σ H.length)) H (up σ H.length (d y)) (DU H σ (h' y)) e]) (A y))(a: ∀ y,OW σ H.length h.length (h' y).length=true:=by intro;kernel_rfl)(b:(σ.map λk=>H.getD k none)=h.map (Dg σ H.length):=by kernel_rfl):Gt T c o z v (F.bind A):=cn λy hy w=>x y (w.c (em (k hy) σ H (a y) b))
def jb (t:Nat)(g:b=b')(x:Gt T c (o++[(t,.bool b')]) z (v++[AN (.bool b) (.bool b')]) A):Gt T c o z v A:=λw=>x (w.b t g)
def jw (t:Nat)(g:AG xi)(x:Gt T c (o++[(t,.int .i64 xi)]) z (v++[AN (.int .i64 (IntKind.i64.wrap xi)) (.int .i64 xi)]) A):Gt T c o z v A:=λw=>x (w.w t g)
def jg (g:p)(x:Gt T c o z (v++[p]) A):Gt T c o z v A:=λw=>x (w.g g)
def jt (x:Gt T c o z (v++[True]) A):Gt T c o z v A:=λw=>x w.t
def jo (t:Nat)(g:AN d d')(x:Gt T c (o++[(t,d')]) z (v++[AN d d']) A):Gt T c o z v A:=λw=>x (w.o t g)
def jc (g:ES Tryz.prog GG f ds h d h' e)(x:Gt T (c++[(d,h',e)]) o z (v++[ES Tryz.prog GG f ds h d h' e]) A):Gt T c o z v A:=λw=>x (w.c g)
def ja (t k m:Nat){n W:Nat}{f V:Nat -> Nat -> DV}(g:n=W/\ ∀ i j,i<n -> j<m -> AN (f i j) (V i j))(x:Gt T c o (z++[(t,.arr k W V)]) (v++[n=W/\ ∀ i j,i<n -> j<m -> AN (f i j) (V i j)]) A):Gt T c o z v A:=λw=>x (w.a t k m g)
def jz (t k:Nat)(x:Gt T c o (z++[(t,.frz k)]) v A):Gt T c o z v A:=λw=>x (w.z t k)
def ju (t k:Nat)(x:Gt T c o (z++[(t,.unf k)]) v A):Gt T c o z v A:=λw=>x (w.u t k)
end
section
variable {R:Type} {c:List (DV×DH×Bool)} {o:List (Nat×DV)} {z:List (Nat×Fz)} {v:List Prop} {A:Option R} {r0:R} {F:Fence} {B:Option Nat} {L:Nat} {Y N:BK Tryz.prog GG L} {k k':List KI} {S:St} {fr:List DV} {h':DH}
variable {Q:R -> QY Tryz.prog GG L}
def lG [hX:HC F] (K:BX) (σ:Θ)  (hk: ∀ {r},A=some r -> A1 Tryz.prog GG F B L Y (Q r) k' ⟨fr,h'⟩) (tg:List (List (Nat×Nat)×St):=[])
 (h:(CN Tryz.prog GG K 400 k S ⟨c,o,z,tg⟩).bind (Nh (GZ 0 fr) σ L [])=some (.at k',fr,h',v,[],[],[],true):=by kernel_rfl) (l:JD k'=true:=by kernel_rfl):Gt (λr=>A1 Tryz.prog GG F B L Y (Q r) k S) c o z v A:=
 λp _ e=>gg K σ p (hk e) tg h l
def lN [hX:HC F] {m:Nat} (K:BX) (σ:Θ)  (hk: ∀ {r},A=some r -> A1 Tryz.prog GG F B L Y (Q r) (Ag m k') ⟨fr,h'⟩) (tg:List (List (Nat×Nat)×St):=[])
 (h:(CN Tryz.prog GG K 400 k S ⟨c,o,z,tg⟩).bind (Nh (GZ 0 fr) σ L [])=some (.at k',fr,h',v,[],[],[],true):=by kernel_rfl) (l:JD k'=true:=by kernel_rfl) (a:Pv k'=true:=by kernel_rfl):Gt (λr=>A1 Tryz.prog GG F B L Y (Q r) k S) c o z v A:=
 lG K σ (λe=>en m (hk e) a) tg h l
def lE [hX:HC F] {fn:Func} {D:R -> DV} {E:R -> DH} (K:BX) (a σ:Θ) (tg:List (List (Nat×Nat)×St):=[])
 (h:(CN Tryz.prog GG K 400 k S ⟨c,o,z,tg⟩).bind (λr=>(K3 Tryz.prog a σ L [] fn (D r0) (E r0).length r).map λq=>(q.1,IF q.2.1,q.2.2))=some (true,D r0,E r0,v,[],[],[],true):=by kernel_rfl):Gt (λr=>Bi Tryz.prog GG F B L N (Cx Tryz.prog fn L (D r) (E r)) k S) c o z v (some r0):=
 lF λp=>ee K a σ p tg h
end
end
abbrev zGf:=@Nat.le_of_succ_le
section
set_option maxRecDepth 100000
set_option maxHeartbeats 40000000
def zAj:Au (A9 Tryz.f20 6) [] (List.range 9) []:=by unfold Au;kernel_rfl
def Uq:BX:=λi=>match i with
 | 6=>.ord [] (List.range 9) []
 | _=>.no
inductive Yj where
 | l1 (x5:Int)
def Yi (n:Nat)(self:Yj -> Option Bool)(a R:Ξ)(P:Int):Option Bool:= bif (decide (P<(a.length:Int))) then if (0<=P/\ P<(a.length:Int))/\ (0<=P/\ P<(R.length:Int)) then bif ((a.getD P.toNat 0) != (R.getD P.toNat 0)) then some false else if AG (P+1) then self (.l1 (P+1)) else none else none else some true
def pJ (n:Nat)(self:Yj -> Option Bool)(a R:Ξ):Option Bool:= bif ((a.length:Int) != (R.length:Int)) then some false else self (.l1 0)
def Rg (a R:Ξ):Nat -> Yj -> Option Bool
 | 0,_=>none
 | n+1,.l1 P=>Yi n (Rg a R n) a R P
def same (n:Nat)(a R:Ξ):Option Bool:=pJ n (Rg a R n) a R
def zAS (n B:Nat)(N:Yd 0)(a R:Ξ)(r:Bool):Yj -> Prop
 | .l1 P=>∀ f:Nat,n<=f -> TW B N (FQ Tryz.f20 0 (.bool r) []) (Ag f (An (AR Tryz.f20) 0 [])) ⟨AF 26 [(0,.ints a),(1,.ints R),(5,.i P)],[]⟩
def zAT (B:Nat)(N:Yd 0)(a R:Ξ):Al (Rg a R) (zAS · B N a R):=ia (λ_=>rfl) λn C A r h=>by
 cases A
 case l1 x5=>
  intro f b;refine rd b λf b=>?_
  revert r;apply gO;exact bi 14 (jg zAj (gc (gi (gi (bi 25 (lE Uq [4] []) (gw 16 (lG Uq [] (C _ _ · f b)))))))) (lE Uq [4] [])
variable {r:Bool}{a:Ξ}{n:Nat}
def eZ {R:Ξ}(h:same n a R=some r):EQ 20 [.ints a,.ints R] [] (.bool r) [] true:=by
 refine ot Tryz.func20 λB N=>?_
 revert r;apply gO;exact bi 10 (lE Uq [4] []) (lN Uq [] ((zAT B N a R n) _ _ · n Nat.le.refl))
inductive bP where
 | l1 (x5:Int)
def kG (n:Nat)(self:bP -> Option Bool)(h:Ξ)(N:Int)(P:Int):Option Bool:= bif (decide (P<(h.length:Int))) then if 0<=P/\ P<(h.length:Int) then bif ((h.getD P.toNat 0)==N) then some true else if AG (P+1) then self (.l1 (P+1)) else none else none else some false
def uF (n:Nat)(self:bP -> Option Bool)(l_:Ξ)(n_:Int):Option Bool:= self (.l1 0)
def S5 (h:Ξ)(N:Int):Nat -> bP -> Option Bool
 | 0,_=>none
 | n+1,.l1 P=>kG n (S5 h N n) h N P
def has (n:Nat)(h:Ξ)(N:Int):Option Bool:=uF n (S5 h N n) h N
def zIw (n B:Nat)(N:Yd 0)(h:Ξ)(a:Int)(r:Bool):bP -> Prop
 | .l1 P=>∀ f:Nat,n<=f -> TW B N (FQ Tryz.f87 0 (.bool r) []) (Ag f (An (AR Tryz.f87) 0 [])) ⟨AF 18 [(0,.ints h),(1,.i a),(5,.i P)],[]⟩
def zIx (B:Nat)(N:Yd 0)(b:Ξ)(c:Int):Al (S5 b c) (zIw · B N b c):=ia (λ_=>rfl) λn C A r h=>by
 cases A
 case l1 x5=>
  intro f a;refine rd a λf a=>?_
  revert r;apply gO;exact bi 9 (gi (bi 17 (lE AC [4] []) (gw 11 (lG AC [] (C _ _ · f a))))) (lE AC [4] [])
def uE {b:Int}(h:has n a b=some r):EQ 87 [.ints a,.i b] [] (.bool r) [] true:=by
 refine ot Tryz.func87 λB N=>?_
 revert r;apply gO;exact lN AC [] ((zIx B N a b n) _ _ · n Nat.le.refl)
inductive dB where
 | l1 (x7:Int)
def lX (n:Nat)(self:dB -> Option Bool)(h:Ξ)(lo hi:Int)(U:Int):Option Bool:= bif (decide (U<(h.length:Int))) then if 0<=U/\ U<(h.length:Int) then bif (decide ((h.getD U.toNat 0)<lo)) then some false else bif (decide ((h.getD U.toNat 0)>hi)) then some false else if AG (U+1) then self (.l1 (U+1)) else none else none else some true
def wN (n:Nat)(self:dB -> Option Bool)(l_:Ξ)(lo hi:Int):Option Bool:= self (.l1 0)
def Tl (h:Ξ)(lo hi:Int):Nat -> dB -> Option Bool
 | 0,_=>none
 | n+1,.l1 U=>lX n (Tl h lo hi n) h lo hi U
def Oa (n:Nat)(h:Ξ)(lo hi:Int):Option Bool:=wN n (Tl h lo hi n) h lo hi
def zLl (n B:Nat)(N:Yd 0)(h:Ξ)(lo hi:Int)(r:Bool):dB -> Prop
 | .l1 U=>∀ f:Nat,n<=f -> TW B N (FQ Tryz.f55 0 (.bool r) []) (Ag f (An (AR Tryz.f55) 0 [])) ⟨AF 28 [(0,.ints h),(1,.i lo),(2,.i hi),(7,.i U)],[]⟩
def zLm (B:Nat)(N:Yd 0)(b:Ξ)(lo hi:Int):Al (Tl b lo hi) (zLl · B N b lo hi):=ia (λ_=>rfl) λn C A r h=>by
 cases A
 case l1 x7=>
  intro f a;refine rd a λf a=>?_
  revert r;apply gO;exact bi 11 (gn λq=>jg q (bi 19 (lE AC [6] []) (jg q (bi 26 (lE AC [6] []) (gw 13 (lG AC [] (C _ _ · f a))))))) (lE AC [6] [])
def XT {lo hi:Int}(h:Oa n a lo hi=some r):EQ 55 [.ints a,.i lo,.i hi] [] (.bool r) [] true:=by
 refine ot Tryz.func55 λB N=>?_
 revert r;apply gO;exact lN AC [] ((zLm B N a lo hi n) _ _ · n Nat.le.refl)
def zBW:Au (A9 Tryz.f88 7) [] (List.range 9) []:=by unfold Au;kernel_rfl
def Re:BX:=λi=>match i with
 | 7=>.ord [] (List.range 9) []
 | _=>.no
inductive TY where
 | l1 (x3:Int)
 | l2 (x3 x4:Int)
def kw (n:Nat)(self:TY -> Option Bool)(h:Ξ)(H:Int):Option Bool:= bif (decide (H<(h.length:Int))) then self (.l2 H 0) else some true
def cH (n:Nat)(self:TY -> Option Bool)(h:Ξ)(H K:Int):Option Bool:= bif (decide (K<H)) then if (0<=H/\ H<(h.length:Int))/\ (0<=K/\ K<(h.length:Int)) then bif ((h.getD H.toNat 0)==(h.getD K.toNat 0)) then some false else if AG (K+1) then self (.l2 H (K+1)) else none else none else if AG (H+1) then self (.l1 (H+1)) else none
def vU (n:Nat)(self:TY -> Option Bool)(l_:Ξ):Option Bool:= self (.l1 0)
def KU (h:Ξ):Nat -> TY -> Option Bool
 | 0,_=>none
 | n+1,.l1 H=>kw n (KU h n) h H
 | n+1,.l2 H K=>cH n (KU h n) h H K
def cI (n:Nat)(h:Ξ):Option Bool:=vU n (KU h n) h
def zKT (n B:Nat)(N:Yd 0)(h:Ξ)(r:Bool):TY -> Prop
 | .l1 H=>∀ f:Nat,n<=f -> TW B N (FQ Tryz.f88 0 (.bool r) []) (Ag f (An (AR Tryz.f88) 0 [])) ⟨AF 25 [(0,.ints h),(3,.i H)],[]⟩
 | .l2 H K=>∀ f Y:Nat,n<=f -> n<=Y -> TW B N (FQ Tryz.f88 0 (.bool r) []) (Ag Y (An (AR Tryz.f88) 2 [f])) ⟨AF 25 [(0,.ints h),(3,.i H),(4,.i K)],[]⟩
def zKU (B:Nat)(N:Yd 0)(b:Ξ):Al (KU b) (zKT · B N b):=ia (λ_=>rfl) λn C A r h=>by
 cases A
 case l1 x3=>
  intro f a;refine rd a λf a=>?_
  revert r;apply gO;exact bi 8 (lN Re [] (C _ _ · f n a Nat.le.refl)) (lE Re [2] [])
 case l2 x3 x4=>
  intro f Y a x;have a:=zGf a;refine rd x λY x=>?_
  revert r;apply gO;exact bi 13 (jg zBW (gc (gi (gi (bi 24 (lE Re [2] []) (gw 15 (lG Re [] (C _ _ · f Y a x)))))))) (gw 10 (lG Re [] (C _ _ · f a)))
def zKR (h:cI n a=some r):EQ 88 [.ints a] [] (.bool r) [] true:=by
 refine ot Tryz.func88 λB N=>?_
 revert r;apply gO;exact lN Re [] ((zKU B N a n) _ _ · n Nat.le.refl)
inductive ac where
 | l1 (x8:Int)
def iV (n:Nat)(self:ac -> Option Int)(N:Ξ)(v:Int)(x8:Int):Option Int:= bif (decide (x8<(N.length:Int))) then if 0<=x8/\ x8<(N.length:Int) then bif (v==(N.getD x8.toNat 0)) then some x8 else if AG (x8+1) then self (.l1 (x8+1)) else none else none else some (-1)
def s6 (n:Nat)(self:ac -> Option Int)(s_:Ξ)(v:Int):Option Int:= self (.l1 0)
def Py (N:Ξ)(v:Int):Nat -> ac -> Option Int
 | 0,_=>none
 | n+1,.l1 x8=>iV n (Py N v n) N v x8
def ae (n:Nat)(N:Ξ)(v:Int):Option Int:=s6 n (Py N v n) N v
def zGB (n B:Nat)(N:Yd 0)(a:Ξ)(v:Int)(r:Int):ac -> Prop
 | .l1 x8=>∀ f:Nat,n<=f -> TW B N (FQ Tryz.f96 0 (.i r) []) (Ag f (An (AR Tryz.f96) 0 [])) ⟨AF 19 [(0,.ints a),(1,.i v),(7,.i (a.length:Int)),(8,.i x8)],[]⟩
def zGC (B:Nat)(N:Yd 0)(b:Ξ)(v:Int):Al (Py b v) (zGB · B N b v):=ia (λ_=>rfl) λn C A r h=>by
 cases A
 case l1 x8=>
  intro f a;refine rd a λf a=>?_
  revert r;apply gO;exact bi 9 (gi (bi 16 (lE AC [4] []) (gw 18 (lG AC [] (C _ _ · f a))))) (lE AC [4] [])
variable {v:Int}
def zGA {r:Int}(h:ae n a v=some r):EQ 96 [.ints a,.i v] [] (.i r) [] true:=by
 refine ot Tryz.func96 λB N=>?_
 revert r;apply gO;exact lN AC [] ((zGC B N a v n) _ _ · n Nat.le.refl)
inductive aj where
 | l1 (x8:Int)
def ah (n:Nat)(self:aj -> Option Int)(N:Ω)(v:Bool)(x8:Int):Option Int:= bif (decide (x8<(N.length:Int))) then if 0<=x8/\ x8<(N.length:Int) then bif (v==(N.getD x8.toNat false)) then some x8 else if AG (x8+1) then self (.l1 (x8+1)) else none else none else some (-1)
def zGH (n:Nat)(self:aj -> Option Int)(s_:Ω)(v:Bool):Option Int:= self (.l1 0)
def Nt (N:Ω)(v:Bool):Nat -> aj -> Option Int
 | 0,_=>none
 | n+1,.l1 x8=>ah n (Nt N v n) N v x8
def ak (n:Nat)(N:Ω)(v:Bool):Option Int:=zGH n (Nt N v n) N v
def zGI (n B:Nat)(N:Yd 0)(a:Ω)(v:Bool)(r:Int):aj -> Prop
 | .l1 x8=>∀ f:Nat,n<=f -> TW B N (FQ Tryz.f136 0 (.i r) []) (Ag f (An (AR Tryz.f136) 0 [])) ⟨AF 19 [(0,.bools a),(1,.bool v),(7,.i (a.length:Int)),(8,.i x8)],[]⟩
def zGJ (B:Nat)(N:Yd 0)(b:Ω)(v:Bool):Al (Nt b v) (zGI · B N b v):=ia (λ_=>rfl) λn C A r h=>by
 cases A
 case l1 x8=>
  intro f a;refine rd a λf a=>?_
  revert r;apply gO;exact bi 9 (gi (bi 16 (lE AC [4] []) (gw 18 (lG AC [] (C _ _ · f a))))) (lE AC [4] [])
def zGG {a:Ω}{v:Bool}{r:Int}(h:ak n a v=some r):EQ 136 [.bools a,.bool v] [] (.i r) [] true:=by
 refine ot Tryz.func136 λB N=>?_
 revert r;apply gO;exact lN AC [] ((zGJ B N a v n) _ _ · n Nat.le.refl)
def lC (n:Nat)(N:Ξ)(v:Int):Option Bool:= (ae n N v).bind λj=> some (decide (j>=0))
def OX (n:Nat)(N:Ξ)(v:Int):Option Bool:=lC n N v
def vb (h:OX n a v=some r):EQ 78 [.ints a,.i v] [] (.bool r) [] true:=by
 unfold OX lC at h;refine ot Tryz.func78 λB N=>?_
 revert r;apply gO;exact cf zGA [] λ_=>lE AC [4] []
def zBT:Au (A9 Tryz.f84 6) [] (List.range 9) []:=by unfold Au;kernel_rfl
def Us:BX:=λi=>match i with
 | 6=>.ord [] (List.range 9) []
 | _=>.no
inductive cA where
 | l1 (x13:Int)
def b9 (n:Nat)(self:cA -> Option Bool)(M Fn:Ξ)(x13:Int):Option Bool:= bif (decide (x13<(M.length:Int))) then if (0<=x13/\ x13<(M.length:Int))/\ (0<=x13/\ x13<(Fn.length:Int)) then bif ((M.getD x13.toNat 0) != (Fn.getD x13.toNat 0)) then some false else if AG (x13+1) then self (.l1 (x13+1)) else none else none else some true
def vC (n:Nat)(self:cA -> Option Bool)(M Fn:Ξ):Option Bool:= bif ((M.length:Int) != (Fn.length:Int)) then some false else self (.l1 0)
def TR (M Fn:Ξ):Nat -> cA -> Option Bool
 | 0,_=>none
 | n+1,.l1 x13=>b9 n (TR M Fn n) M Fn x13
def Wu (n:Nat)(M Fn:Ξ):Option Bool:=vC n (TR M Fn n) M Fn
def zKE (n B:Nat)(N:Yd 0)(M Fn:Ξ)(r:Bool):cA -> Prop
 | .l1 x13=>∀ f:Nat,n<=f -> TW B N (FQ Tryz.f84 0 (.bool r) []) (Ag f (An (AR Tryz.f84) 0 [])) ⟨AF 26 [(0,.ints M),(1,.ints Fn),(12,.i (M.length:Int)),(13,.i x13)],[]⟩
def zKF (B:Nat)(N:Yd 0)(M Fn:Ξ):Al (TR M Fn) (zKE · B N M Fn):=ia (λ_=>rfl) λn C A r h=>by
 cases A
 case l1 x13=>
  intro f a;refine rd a λf a=>?_
  revert r;apply gO;exact bi 14 (jg zBT (gc (gi (gi (bi 24 (lE Us [4] []) (gw 25 (lG Us [] (C _ _ · f a)))))))) (lE Us [4] [])
def zKC {M Fn:Ξ}(h:Wu n M Fn=some r):EQ 84 [.ints M,.ints Fn] [] (.bool r) [] true:=by
 refine ot Tryz.func84 λB N=>?_
 revert r;apply gO;exact bi 10 (lE Us [4] []) (lN Us [] ((zKF B N M Fn n) _ _ · n Nat.le.refl))
inductive Rv where
 | l1 (x3:Int)
 | l2 (x3 x4:Int)
def fY (n:Nat)(self:Rv -> Option Int)(E:List Ξ)(H:Int):Option Int:= bif (decide (H<(E.length:Int))) then self (.l2 H 0) else some 0
def ZJ (n:Nat)(self:Rv -> Option Int)(E:List Ξ)(H K:Int):Option Int:= if 0<=H/\ H<(E.length:Int) then bif (decide (K<(((E.getD H.toNat []).length:Nat):Int))) then if 0<=K/\ K<(((E.getD H.toNat []).length:Nat):Int) then bif (decide (((E.getD H.toNat []).getD K.toNat 0)<0)) then some 120 else bif (decide (((E.getD H.toNat []).getD K.toNat 0)>=(E.length:Int))) then some 120 else bif (((E.getD H.toNat []).getD K.toNat 0)==H) then some 120 else bif (decide (K>0)) then if AG (K-1)/\ (0<=(K-1)/\ (K-1)<(((E.getD H.toNat []).length:Nat):Int)) then bif (decide (((E.getD H.toNat []).getD (((K-1)).toNat) 0)>=((E.getD H.toNat []).getD K.toNat 0))) then some 120 else if (0:Int)<=((E.getD H.toNat []).getD K.toNat 0)/\ ((E.getD H.toNat []).getD K.toNat 0)<(E.length:Int) then (has n (E.getD (((E.getD H.toNat []).getD K.toNat 0).toNat) []) H).bind λj=> bif (!j) then some 120 else if AG (K+1) then self (.l2 H (K+1)) else none else none else none else if (0:Int)<=((E.getD H.toNat []).getD K.toNat 0)/\ ((E.getD H.toNat []).getD K.toNat 0)<(E.length:Int) then (has n (E.getD (((E.getD H.toNat []).getD K.toNat 0).toNat) []) H).bind λj=> bif (!j) then some 120 else if AG (K+1) then self (.l2 H (K+1)) else none else none else none else if AG (H+1) then self (.l1 (H+1)) else none else none
def qT (n:Nat)(self:Rv -> Option Int)(E:List Ξ):Option Int:= bif (decide ((E.length:Int)>256)) then some 120 else self (.l1 0)
def Ju (E:List Ξ):Nat -> Rv -> Option Int
 | 0,_=>none
 | n+1,.l1 H=>fY n (Ju E n) E H
 | n+1,.l2 H K=>ZJ n (Ju E n) E H K
def NZ (n:Nat)(E:List Ξ):Option Int:=qT n (Ju E n) E
def zDA (n B:Nat)(N:Yd 0)(E:List Ξ)(r:Int):Rv -> Prop
 | .l1 H=>∀ f:Nat,n<=f -> TW B N (FQ Tryz.f56 0 (.i r) []) (Ag f (An (AR Tryz.f56) 0 [])) ⟨AF 69 [(0,.sl 1 E.length (AK AO E)),(3,.i H)],[]⟩
 | .l2 H K=>∀ f Y:Nat,n<=f -> n<=Y -> TW B N (FQ Tryz.f56 0 (.i r) []) (Ag Y (An (AR Tryz.f56) 2 [f])) ⟨AF 69 [(0,.sl 1 E.length (AK AO E)),(3,.i H),(4,.i K)],[]⟩
def zDB (B:Nat)(N:Yd 0)(E:List Ξ):Al (Ju E) (zDA · B N E):=ia (λ_=>rfl) λn C A r h=>by
 cases A
 case l1 x3=>
  intro f a;refine rd a λf a=>?_
  revert r;apply gO;exact bi 12 (lN AC [] (C _ _ · f n a Nat.le.refl)) (lE AC [2] [])
 case l2 x3 x4=>
  intro f Y a x;have a:=zGf a;refine rd x λY x=>?_
  revert r;apply gO;exact gn λq=>jg q (bi 21 (jg q (gi (bi 32 (lE AC [2] []) (bi 37 (lE AC [2] []) (bi 42 (lE AC [2] []) (bi 46 (jg q (gc (gw 53 (gi (bi 57 (lE AC [2] []) (gi (cf uE [] λ_=>bi 67 (lE AC [2] []) (gw 23 (lG AC [] (C _ _ · f Y a x)))))))))) (gi (cf uE [] λ_=>bi 67 (lE AC [2] []) (gw 23 (lG AC [] (C _ _ · f Y a x))))))))))) (gw 14 (lG AC [] (C _ _ · f a))))
variable {E:List Ξ}
def fX {r:Int}(h:NZ n E=some r):EQ 56 [.sl 1 E.length (AK AO E)] [] (.i r) [] true:=by
 refine ot Tryz.func56 λB N=>?_
 revert r;apply gO;exact bi 8 (lE AC [2] []) (lN AC [] ((zDB B N E n) _ _ · n Nat.le.refl))
inductive TH where
 | l1 (BB:Int)
 | l2 (x3:Int) (x4:Ξ) (BB:Int) (BM:Ξ) (Lo DY:Int)
def kT (n:Nat)(self:TH -> Option Int)(E:List Ξ)(W:Int):Option Int:= bif (decide (W<(E.length:Int))) then if 0<=W/\ W<(E.length:Int) then self (.l2 W (E.getD W.toNat []) W (E.getD W.toNat []) (((E.getD W.toNat []).length:Nat):Int) 0) else none else some 0
def be (n:Nat)(self:TH -> Option Int)(E:List Ξ)(H:Int)(K:Ξ)(W:Int)(l:Ξ)(x a:Int):Option Int:= bif (decide (a<x)) then if 0<=a/\ a<(l.length:Int) then bif (decide ((l.getD a.toNat 0)<0)) then some 120 else bif (decide ((l.getD a.toNat 0)>=(E.length:Int))) then some 120 else bif ((l.getD a.toNat 0)==H) then some 120 else bif (decide (a>0)) then if AG (a-1)/\ (0<=(a-1)/\ (a-1)<(K.length:Int)) then bif (decide ((K.getD (((a-1)).toNat) 0)>=(l.getD a.toNat 0))) then some 120 else if 0<=(l.getD a.toNat 0)/\ (l.getD a.toNat 0)<(E.length:Int) then (OX n (E.getD ((l.getD a.toNat 0).toNat) []) H).bind λj=> bif (!j) then some 120 else if AG (a+1) then self (.l2 H K W l x (a+1)) else none else none else none else if 0<=(l.getD a.toNat 0)/\ (l.getD a.toNat 0)<(E.length:Int) then (OX n (E.getD ((l.getD a.toNat 0).toNat) []) H).bind λj=> bif (!j) then some 120 else if AG (a+1) then self (.l2 H K W l x (a+1)) else none else none else none else if AG (W+1) then self (.l1 (W+1)) else none
def uh (n:Nat)(self:TH -> Option Int)(E:List Ξ):Option Int:= bif (decide ((E.length:Int)>256)) then some 120 else self (.l1 0)
def KM (E:List Ξ):Nat -> TH -> Option Int
 | 0,_=>none
 | n+1,.l1 W=>kT n (KM E n) E W
 | n+1,.l2 H K W l x a=>be n (KM E n) E H K W l x a
def Wg (n:Nat)(E:List Ξ):Option Int:=uh n (KM E n) E
def zJX (n B:Nat)(N:Yd 0)(E:List Ξ)(r:Int):TH -> Prop
 | .l1 W=>∀ f:Nat,n<=f -> TW B N (FQ Tryz.f44 0 (.i r) []) (Ag f (An (AR Tryz.f44) 0 [])) ⟨AF 61 [(0,.sl 1 E.length (AK AO E)),(10,.sl 1 E.length (AK AO E)),(11,.i (E.length:Int)),(12,.i W)],[]⟩
 | .l2 H K W l x a=>∀ f Y:Nat,n<=f -> n<=Y -> TW B N (FQ Tryz.f44 0 (.i r) []) (Ag Y (An (AR Tryz.f44) 2 [f])) ⟨AF 61 [(0,.sl 1 E.length (AK AO E)),(3,.i H),(4,.ints K),(10,.sl 1 E.length (AK AO E)),(11,.i (E.length:Int)),(12,.i W),(17,.ints l),(18,.i x),(19,.i a)],[]⟩
def zJY (B:Nat)(N:Yd 0)(E:List Ξ):Al (KM E) (zJX · B N E):=ia (λ_=>rfl) λn C A r h=>by
 cases A
 case l1 BB=>
  intro f a;refine rd a λf a=>?_
  revert r;apply gO;exact bi 13 (gi (lN AC [] (C _ _ · f n a Nat.le.refl))) (lE AC [2] [])
 case l2 x3 x4 BB BM Lo DY=>
  intro f Y a x;have a:=zGf a;refine rd x λY x=>?_
  revert r;apply gO;exact bi 20 (gi (bi 25 (lE AC [2] []) (bi 30 (lE AC [2] []) (bi 35 (lE AC [2] []) (bi 39 (gc (gw 43 (gi (bi 47 (lE AC [2] []) (gi (cf vb [] λ_=>bi 57 (lE AC [2] []) (gw 59 (lG AC [] (C _ _ · f Y a x))))))))) (gi (cf vb [] λ_=>bi 57 (lE AC [2] []) (gw 59 (lG AC [] (C _ _ · f Y a x)))))))))) (gw 60 (lG AC [] (C _ _ · f a)))
def ug {r:Int}(h:Wg n E=some r):EQ 44 [.sl 1 E.length (AK AO E)] [] (.i r) [] true:=by
 refine ot Tryz.func44 λB N=>?_
 revert r;apply gO;exact bi 9 (lE AC [2] []) (lN AC [] ((zJY B N E n) _ _ · n Nat.le.refl))
end
section
set_option maxRecDepth 100000
set_option maxHeartbeats 40000000
def mj (n:Nat)(v lo hi:Int):Option Bool:= bif (decide (v<lo)) then some true else some (decide (v>hi))
def da (n:Nat)(v lo hi:Int):Option Bool:=mj n v lo hi
variable {r:Bool}{lo hi:Int}{n:Nat}
def xo {v:Int}(h:da n v lo hi=some r):EQ 77 [.i v,.fp 1 (L1 [.i lo]),.fp 1 (L1 [.i hi])] [] (.bool r) [] true:=by
 refine ot Tryz.func77 λB N=>?_
 revert r;apply gO;exact bi 7 (lE AC [4] []) (lE AC [4] [])
inductive aZ where
 | l1 (x8:Int)
def iU (n:Nat)(self:aZ -> Option Int)(l:Ξ)(lo hi:Int)(x8:Int):Option Int:= bif (decide (x8<(l.length:Int))) then if 0<=x8/\ x8<(l.length:Int) then (da n (l.getD x8.toNat 0) lo hi).bind λj=> bif j then some x8 else if AG (x8+1) then self (.l1 (x8+1)) else none else none else some (-1)
def s3 (n:Nat)(self:aZ -> Option Int)(l:Ξ)(lo hi:Int):Option Int:= self (.l1 0)
def Px (l:Ξ)(lo hi:Int):Nat -> aZ -> Option Int
 | 0,_=>none
 | n+1,.l1 x8=>iU n (Px l lo hi n) l lo hi x8
def ab (n:Nat)(l:Ξ)(lo hi:Int):Option Int:=s3 n (Px l lo hi n) l lo hi
def zF4 (n B:Nat)(N:Yd 0)(l:Ξ)(lo hi:Int)(r:Int):aZ -> Prop
 | .l1 x8=>∀ f:Nat,n<=f -> TW B N (FQ Tryz.f85 0 (.i r) []) (Ag f (An (AR Tryz.f85) 0 [])) ⟨AF 19 [(0,.ints l),(1,.fn 77 2 (L1 [.fp 1 (L1 [.i lo]),.fp 1 (L1 [.i hi])])),(7,.i (l.length:Int)),(8,.i x8)],[]⟩
def zF5 (B:Nat)(N:Yd 0)(l:Ξ)(lo hi:Int):Al (Px l lo hi) (zF4 · B N l lo hi):=ia (λ_=>rfl) λn C A r h=>by
 cases A
 case l1 x8=>
  intro f a;refine rd a λf a=>?_
  revert r;apply gO;exact bi 9 (gi (cf xo [] λ_=>bi 16 (lE AC [4] []) (gw 18 (lG AC [] (C _ _ · f a))))) (lE AC [4] [])
variable {l:Ξ}
def zF2 {r:Int}(h:ab n l lo hi=some r):EQ 85 [.ints l,.fn 77 2 (L1 [.fp 1 (L1 [.i lo]),.fp 1 (L1 [.i hi])])] [] (.i r) [] true:=by
 refine ot Tryz.func85 λB N=>?_
 revert r;apply gO;exact lN AC [] ((zF5 B N l lo hi n) _ _ · n Nat.le.refl)
def lB (n:Nat)(l:Ξ)(lo hi:Int):Option Bool:= (ab n l lo hi).bind λj=> some (decide (j>=0))
def cU (n:Nat)(l:Ξ)(lo hi:Int):Option Bool:=lB n l lo hi
def zKy (h:cU n l lo hi=some r):EQ 76 [.ints l,.fn 77 2 (L1 [.fp 1 (L1 [.i lo]),.fp 1 (L1 [.i hi])])] [] (.bool r) [] true:=by
 unfold cU lB at h;refine ot Tryz.func76 λB N=>?_
 revert r;apply gO;exact cf zF2 [] λ_=>lE AC [4] []
def fl (n:Nat)(h:Ξ)(lo hi:Int):Option Bool:= (cU n h lo hi).bind λj=> some (!j)
def Nd (n:Nat)(h:Ξ)(lo hi:Int):Option Bool:=fl n h lo hi
def ZK {a:Ξ}(h:Nd n a lo hi=some r):EQ 43 [.ints a,.i lo,.i hi] [] (.bool r) [] true:=by
 unfold Nd fl at h;refine ot Tryz.func43 λB N=>?_
 revert r;apply gO;exact cn λy1 u=>jc (sb [.ints a,.fn 77 2 (L1 [.ref 0 0,.ref 1 0])] (zKy u) [oC [.i lo],oC [.i hi]] ⟨Az.plain (by kernel_rfl),(Az.fnL (l:=[.ref 0 0,.ref 1 0]) (l0:=[.fp 1 (L1 [.i lo]),.fp 1 (L1 [.i hi])]) ⟨(Az.refL (l:=[.i lo]) (l0:=[.i lo]) rfl ⟨Az.plain (by kernel_rfl),trivial⟩),(Az.refL (l:=[.i hi]) (l0:=[.i hi]) rfl ⟨Az.plain (by kernel_rfl),trivial⟩),trivial⟩),trivial⟩) (lE AC [6] [])
def zBR:Au (A9 Tryz.f47 24) [([0,1,2,3,5,6,7,8],4),([],9),([10,11,12,13,14],15),([],16),([17,18,19,20,21,22,23,24,25,26],27)] [28,29] []:=by unfold Au;kernel_rfl
def EI:BX:=λi=>match i with
 | 24=>.ord [([0,1,2,3,5,6,7,8],4),([],9),([10,11,12,13,14],15),([],16),([17,18,19,20,21,22,23,24,25,26],27)] [28,29] []
 | _=>.no
def tY (q:AA)(W:AD):DH:=[oC (AH q),oC (BW W),oI ([W.set,W.other]:Ξ),oI ([W.lo,W.hi]:Ξ)]
inductive ON where
 | l1 (Am:Int) (o2:Ω)
 | l2
def Wo (n:Nat)(self:ON -> Option Bool)(q:AA)(W:AD)(X:Int)(F:Ω):Option Bool:= bif (decide (X<(W.cells.length:Int))) then if 0<=X/\ X<(W.cells.length:Int) then bif (decide ((W.cells.getD X.toNat 0)<0)) then some false else bif (decide ((W.cells.getD X.toNat 0)>=q.cells)) then some false else if (0<=(W.cells.getD X.toNat 0)/\ (W.cells.getD X.toNat 0)<((256:Nat):Int))/\ 0+((W.cells.getD X.toNat 0).toNat)<F.length then bif (F.getD (0+((W.cells.getD X.toNat 0).toNat)) false) then some false else bif (decide (W.kind>=8)) then bif ((W.cells.getD X.toNat 0) != X) then some false else if AG (X+1) then self (.l1 (X+1) (F.set (0+((W.cells.getD X.toNat 0).toNat)) true)) else none else if AG (X+1) then self (.l1 (X+1) (F.set (0+((W.cells.getD X.toNat 0).toNat)) true)) else none else none else none else bif (W.kind==1) then self (.l2) else bif (W.kind==2) then self (.l2) else bif (W.kind==3) then self (.l2) else bif (W.kind==4) then self (.l2) else bif (W.kind==5) then self (.l2) else bif (W.kind==6) then bif ((W.cells.length:Int) != 2) then some false else self (.l2) else bif (W.kind==7) then bif ((W.cells.length:Int) != 2) then some false else self (.l2) else bif (W.kind==8) then bif ((W.cells.length:Int) != q.cells) then some false else self (.l2) else bif (W.kind==9) then bif ((W.cells.length:Int) != q.cells) then some false else self (.l2) else some false
def ke (n:Nat)(self:ON -> Option Bool)(q:AA)(W:AD):Option Bool:= if (0<=q.symbols/\ q.symbols<=(IntKind.i64.bits:Int))/\ AG ((IntKind.i64.wrap (1*2 ^ (q.symbols).toNat))-1) then (Nd n ([W.set,W.other]:Ξ) 0 ((IntKind.i64.wrap (1*2 ^ (q.symbols).toNat))-1)).bind λj=> bif j then (Nd n ([W.lo,W.hi]:Ξ) 0 65536).bind λG=> bif G then bif (decide ((W.runs.length:Int)<=8)) then (Nd n W.runs 1 256).bind λy3=> some y3 else some false else some false else some false else none
def uw (n:Nat)(self:ON -> Option Bool)(q:AA)(c_:AD):Option Bool:= self (.l1 0 (List.replicate 256 false))
def TN (q:AA)(W:AD):Nat -> ON -> Option Bool
 | 0,_=>none
 | n+1,.l1 X F=>Wo n (TN q W n) q W X F
 | n+1,.l2=>ke n (TN q W n) q W
def bv (n:Nat)(q:AA)(W:AD):Option Bool:=uw n (TN q W n) q W
def zJs (n B:Nat)(N:Yd 0)(q:AA)(W:AD)(r:Bool):ON -> Prop
 | .l1 X F=>∀ f:Nat,n<=f -> TW B N (FQ Tryz.f47 0 (.bool r) []) (Ag f (An (AR Tryz.f47) 0 [])) ⟨AF 95 [(2,.ref 0 0),(3,.ref 1 0),(5,.mp 2 1 0 0),(9,.ints W.cells),(10,.i (W.cells.length:Int)),(11,.i X)],[oC (AH q),oC (BW W),some (.bools F)]⟩
 | .l2=>TW B N (FQ Tryz.f47 0 (.bool r) []) (EP (AR Tryz.f47) 24 []) ⟨AF 95 [(2,.ref 0 0),(3,.ref 1 0)],[oC (AH q),oC (BW W)]⟩
def zJt (B:Nat)(N:Yd 0)(q:AA)(W:AD):Al (TN q W) (zJs · B N q W):=ia (λ_=>rfl) λn C A r h=>by
 cases A
 case l1 Am o2=>
  intro f a;refine rd a λf a=>?_
  revert r;apply gO;exact bi 12 (gi (bi 17 (lE (Ab 24 EI) [4] []) (bi 22 (lE (Ab 24 EI) [4] []) (gc (gn λo=>jg o (gn λs=>jg s (bi 27 (lE (Ab 24 EI) [4] []) (bi 32 (bi 36 (lE (Ab 24 EI) [4] []) (jg o (jg s (gw 41 (lG (Ab 24 EI) [0,1,2] (C _ _ · f a)))))) (jg o (jg s (gw 41 (lG (Ab 24 EI) [0,1,2] (C _ _ · f a))))))))))))) (bi 45 (lG (Ab 24 EI) [0,1] (C _ _ ·)) (bi 46 (lG (Ab 24 EI) [0,1] (C _ _ ·)) (bi 47 (lG (Ab 24 EI) [0,1] (C _ _ ·)) (bi 48 (lG (Ab 24 EI) [0,1] (C _ _ ·)) (bi 49 (lG (Ab 24 EI) [0,1] (C _ _ ·)) (bi 51 (bi 56 (lE (Ab 24 EI) [4] []) (lG (Ab 24 EI) [0,1] (C _ _ ·))) (bi 52 (bi 56 (lE (Ab 24 EI) [4] []) (lG (Ab 24 EI) [0,1] (C _ _ ·))) (bi 58 (bi 65 (lE (Ab 24 EI) [4] []) (lG (Ab 24 EI) [0,1] (C _ _ ·))) (bi 59 (bi 65 (lE (Ab 24 EI) [4] []) (lG (Ab 24 EI) [0,1] (C _ _ ·))) (lE (Ab 24 EI) [4] []))))))))))
 case l2=>
  revert r;apply gO;exact jg zBR (gc (gi (gw 74 (cn λy1 u=>jc (sb [.msl 2 1 0 2,.i 0,.i ((IntKind.i64.wrap (1*2 ^ (q.symbols).toNat))-1)] (ZK u) [oC (AH q),oC (BW W),oI ([W.set,W.other]:Ξ)] ⟨Az.ints rfl (Eq.refl 2),Az.plain (by kernel_rfl),Az.plain (by kernel_rfl),trivial⟩) (bi 75 (cn λy2 k=>jc (sb [.msl 3 1 0 2,.i 0,.i 65536] (ZK k) (tY q W) ⟨Az.ints rfl (Eq.refl 2),Az.plain (by kernel_rfl),Az.plain (by kernel_rfl),trivial⟩) (bi 82 (bi 88 (cf ZK (tY q W) λ_=>lE EI [4] []) (lE EI [4] [])) (lE EI [4] []))) (lE EI [4] []))))))
variable {W:AD}{q:AA}
def zJq (h:bv n q W=some r):EQ 47 [.agg 5 (L1 (AH q)),.agg 9 (L1 (BW W))] [] (.bool r) [] true:=by
 refine ot Tryz.func47 λB N=>?_
 revert r;apply gO;exact lN (Ab 24 EI) [0,1,2] ((zJt B N q W n) _ _ · n Nat.le.refl)
def dj (n:Nat)(c:AD)(q:AA):Option Bool:= (bv n q c).bind λj=> some (!j)
def Xy (n:Nat)(c:AD)(q:AA):Option Bool:=dj n c q
def yN {c:AD}(h:Xy n c q=some r):EQ 46 [.agg 9 (L1 (BW c)),.fp 5 (L1 (AH q))] [] (.bool r) [] true:=by
 unfold Xy dj at h;refine ot Tryz.func46 λB N=>?_
 revert r;apply gO;exact cf zJq [oC (BW c)] λ_=>lE AC [3] []
inductive aX where
 | l1 (x8:Int)
def aW (n:Nat)(self:aX -> Option Int)(l:List AD)(q:AA)(x8:Int):Option Int:= bif (decide (x8<(l.length:Int))) then if 0<=x8/\ x8<(l.length:Int) then (Xy n (l.getD x8.toNat default) q).bind λj=> bif j then some x8 else if AG (x8+1) then self (.l1 (x8+1)) else none else none else some (-1)
def sw (n:Nat)(self:aX -> Option Int)(l:List AD)(q:AA):Option Int:= self (.l1 0)
def Ns (l:List AD)(q:AA):Nat -> aX -> Option Int
 | 0,_=>none
 | n+1,.l1 x8=>aW n (Ns l q n) l q x8
def aY (n:Nat)(l:List AD)(q:AA):Option Int:=sw n (Ns l q n) l q
def zF0 (n B:Nat)(N:Yd 0)(l:List AD)(q:AA)(r:Int):aX -> Prop
 | .l1 x8=>∀ f:Nat,n<=f -> TW B N (FQ Tryz.f79 0 (.i r) []) (Ag f (An (AR Tryz.f79) 0 [])) ⟨AF 19 [(0,.sl 9 l.length (AK BW l)),(1,.fn 46 1 (L1 [.fp 5 (L1 (AH q))])),(7,.i (l.length:Int)),(8,.i x8)],[]⟩
def zF1 (B:Nat)(N:Yd 0)(l:List AD)(q:AA):Al (Ns l q) (zF0 · B N l q):=ia (λ_=>rfl) λn C A r h=>by
 cases A
 case l1 x8=>
  intro f a;refine rd a λf a=>?_
  revert r;apply gO;exact bi 9 (gi (cf yN [] λ_=>bi 16 (lE AC [4] []) (gw 18 (lG AC [] (C _ _ · f a))))) (lE AC [4] [])
def zFz {l:List AD}{r:Int}(h:aY n l q=some r):EQ 79 [.sl 9 l.length (AK BW l),.fn 46 1 (L1 [.fp 5 (L1 (AH q))])] [] (.i r) [] true:=by
 refine ot Tryz.func79 λB N=>?_
 revert r;apply gO;exact lN AC [] ((zF1 B N l q n) _ _ · n Nat.le.refl)
def lA (n:Nat)(l:List AD)(q:AA):Option Bool:= (aY n l q).bind λj=> some (decide (j>=0))
def cS (n:Nat)(l:List AD)(q:AA):Option Bool:=lA n l q
def zKx {l:List AD}(h:cS n l q=some r):EQ 45 [.sl 9 l.length (AK BW l),.fn 46 1 (L1 [.fp 5 (L1 (AH q))])] [] (.bool r) [] true:=by
 unfold cS lA at h;refine ot Tryz.func45 λB N=>?_
 revert r;apply gO;exact cf zFz [] λ_=>lE AC [4] []
def mz (n:Nat)(q:AA):Option Int:= bif (decide (q.cells<1)) then some 191 else bif (decide (q.cells>256)) then some 191 else bif (decide (q.symbols<1)) then some 191 else bif (decide (q.symbols>16)) then some 191 else bif ((q.values.length:Int) != q.symbols) then some 191 else (Nd n q.values 0 99).bind λj=> bif (!j) then some 191 else bif ((q.nbrs.length:Int) != q.cells) then some 191 else (Wg n q.nbrs).bind λG=> bif (G != 0) then some 191 else bif (decide ((q.cons.length:Int)>4096)) then some 191 else (cS n q.cons q).bind λy3=> bif y3 then some 191 else some 0
def valid (n:Nat)(q:AA):Option Int:=mz n q
def my {r:Int}(h:valid n q=some r):EQ 33 [.agg 5 (L1 (AH q))] [] (.i r) [] true:=by
 refine ot Tryz.func33 λB N=>?_
 revert r;apply gO;exact bi 5 (lE AC [2] []) (bi 9 (lE AC [2] []) (bi 14 (lE AC [2] []) (bi 19 (lE AC [2] []) (bi 27 (lE AC [2] []) (cf ZK [oC (AH q)] λ_=>bi 33 (lE AC [2] []) (bi 40 (lE AC [2] []) (cf ug [oC (AH q)] λ_=>bi 45 (lE AC [2] []) (bi 51 (lE AC [2] []) (cn λy3 a=>jc (sb [.sl 9 q.cons.length (AK BW q.cons),.fn 46 1 (L1 [.ref 0 0])] (zKx a) [oC (AH q)] ⟨Az.plain (by kernel_rfl),(Az.fnL (l:=[.ref 0 0]) (l0:=[.fp 5 (L1 (AH q))]) ⟨(Az.refL (l:=(AH q)) (l0:=(AH q)) rfl ⟨Az.plain (by kernel_rfl),Az.plain (by kernel_rfl),Az.plain (by kernel_rfl),Az.plain (by kernel_rfl),Az.plain (by kernel_rfl),trivial⟩),trivial⟩),trivial⟩) (bi 56 (lE AC [2] []) (lE AC [2] [])))))))))))
def iE (n:Nat)(q:AA)(i:Int):Option (Δ):= (valid n q).bind λj=> bif (j != 0) then some (0,j) else bif (decide (i<0)) then some (0,260) else bif (decide (i>=(q.cons.length:Int))) then some (0,260) else if (0<=i/\ i<(q.cons.length:Int))/\ ((0:Int)<=((q.cons.getD i.toNat default).kind)/\ ((q.cons.getD i.toNat default).kind)<((10:Nat):Int)) then some (([0,1,1,2,2,3,1,1,4,4]:Ξ).getD ((q.cons.getD i.toNat default).kind).toNat 0,0) else none
def Pk (n:Nat)(q:AA)(i:Int):Option (Δ):=iE n q i
def iD {i:Int}{r:Δ}(h:Pk n q i=some r):EQ 97 [.agg 5 (L1 (AH q)),.i i] [] (.tup 2 (L1 [.i r.1,.i r.2])) [] true:=by
 unfold Pk iE at h;refine ot Tryz.func97 λB N=>?_
 revert r;apply gO;exact cf my [oC (AH q)] λ_=>bi 10 (lE AC [4,5] []) (bi 13 (lE AC [4,5] []) (bi 19 (lE AC [4,5] []) (gc (gi (gn λo=>jg o (jo 28 (AN.ixI [0,1,1,2,2,3,1,1,4,4] rfl o) (lE AC [4,5] [])))))))
inductive ZC where
 | l1 (x7:Int)
def VH (n:Nat)(self:ZC -> Option Bool)(W:AD)(cells y:Int)(U:Int):Option Bool:= bif (decide (U<(W.cells.length:Int))) then bif (W.kind==8) then if 0<=U/\ U<(W.cells.length:Int) then bif ((W.cells.getD U.toNat 0) != U) then some false else if AG (U+1) then self (.l1 (U+1)) else none else none else bif (W.kind==9) then if 0<=U/\ U<(W.cells.length:Int) then bif ((W.cells.getD U.toNat 0) != U) then some false else if AG (U+1) then self (.l1 (U+1)) else none else none else if AG (U+1) then self (.l1 (U+1)) else none else if (0<=y/\ y<=(IntKind.i64.bits:Int))/\ AG ((IntKind.i64.wrap (1*2 ^ (y).toNat))-1) then (Oa n ([W.set,W.other]:Ξ) 0 ((IntKind.i64.wrap (1*2 ^ (y).toNat))-1)).bind λj=> bif j then (Oa n ([W.lo,W.hi]:Ξ) 0 65536).bind λG=> bif G then bif (decide ((W.runs.length:Int)<=8)) then (Oa n W.runs 1 256).bind λy3=> some y3 else some false else some false else some false else none
def qO (n:Nat)(self:ZC -> Option Bool)(W:AD)(cells symbols:Int):Option Bool:= bif (decide (W.kind<1)) then some false else bif (decide (W.kind>9)) then some false else bif (decide ((W.cells.length:Int)>cells)) then some false else if AG (cells-1) then (Oa n W.cells 0 (cells-1)).bind λj=> bif (!j) then some false else (cI n W.cells).bind λG=> bif (!G) then some false else bif (W.kind==6) then bif ((W.cells.length:Int) != 2) then some false else bif (W.kind==8) then bif ((W.cells.length:Int) != cells) then some false else self (.l1 0) else bif (W.kind==9) then bif ((W.cells.length:Int) != cells) then some false else self (.l1 0) else self (.l1 0) else bif (W.kind==7) then bif ((W.cells.length:Int) != 2) then some false else bif (W.kind==8) then bif ((W.cells.length:Int) != cells) then some false else self (.l1 0) else bif (W.kind==9) then bif ((W.cells.length:Int) != cells) then some false else self (.l1 0) else self (.l1 0) else bif (W.kind==8) then bif ((W.cells.length:Int) != cells) then some false else self (.l1 0) else bif (W.kind==9) then bif ((W.cells.length:Int) != cells) then some false else self (.l1 0) else self (.l1 0) else none
def NT (W:AD)(cells y:Int):Nat -> ZC -> Option Bool
 | 0,_=>none
 | n+1,.l1 U=>VH n (NT W cells y n) W cells y U
def ZE (n:Nat)(W:AD)(cells y:Int):Option Bool:=qO n (NT W cells y n) W cells y
def zCq (n B:Nat)(N:Yd 0)(W:AD)(cells y:Int)(r:Bool):ZC -> Prop
 | .l1 U=>∀ f:Nat,n<=f -> TW B N (FQ Tryz.f57 0 (.bool r) []) (Ag f (An (AR Tryz.f57) 0 [])) ⟨AF 120 [(2,.i y),(3,.ref 0 0),(7,.i U)],[oC (BW W)]⟩
def zCr (B:Nat)(N:Yd 0)(W:AD)(cells y:Int):Al (NT W cells y) (zCq · B N W cells y):=ia (λ_=>rfl) λn C A r h=>by
 cases A
 case l1 x7=>
  intro f a;refine rd a λf a=>?_
  revert r;apply gO;exact bi 71 (bi 76 (gi (bi 89 (lE AC [6] []) (gw 73 (lG AC [0] (C _ _ · f a))))) (bi 80 (gi (bi 89 (lE AC [6] []) (gw 73 (lG AC [0] (C _ _ · f a))))) (gw 73 (lG AC [0] (C _ _ · f a))))) (gc (gi (gw 93 (cn λy1 u=>jc (sb [.msl 1 1 0 2,.i 0,.i ((IntKind.i64.wrap (1*2 ^ (y).toNat))-1)] (XT u) [oC (BW W),oI ([W.set,W.other]:Ξ)] ⟨Az.ints rfl (Eq.refl 2),Az.plain (by kernel_rfl),Az.plain (by kernel_rfl),trivial⟩) (bi 100 (cn λy2 k=>jc (sb [.msl 2 1 0 2,.i 0,.i 65536] (XT k) [oC (BW W),oI ([W.set,W.other]:Ξ),oI ([W.lo,W.hi]:Ξ)] ⟨Az.ints rfl (Eq.refl 2),Az.plain (by kernel_rfl),Az.plain (by kernel_rfl),trivial⟩) (bi 107 (bi 113 (cf XT [oC (BW W),oI ([W.set,W.other]:Ξ),oI ([W.lo,W.hi]:Ξ)] λ_=>lE AC [6] []) (lE AC [6] [])) (lE AC [6] []))) (lE AC [6] []))))))
def zCm {cells y:Int}(h:ZE n W cells y=some r):EQ 57 [.agg 9 (L1 (BW W)),.i cells,.i y] [] (.bool r) [] true:=by
 have C:=λB N=>(zCr B N W cells y n)
 refine ot Tryz.func57 λB N=>?_
 revert r;apply gO;exact bi 11 (lE AC [6] []) (bi 15 (lE AC [6] []) (bi 22 (lE AC [6] []) (gw 28 (cf XT [oC (BW W)] λ_=>bi 30 (lE AC [6] []) (cf zKR [oC (BW W)] λ_=>bi 36 (lE AC [6] []) (bi 40 (bi 50 (lE AC [6] []) (bi 54 (bi 65 (lE AC [6] []) (lN AC [0] ((C B N) _ _ · n Nat.le.refl))) (bi 58 (bi 65 (lE AC [6] []) (lN AC [0] ((C B N) _ _ · n Nat.le.refl))) (lN AC [0] ((C B N) _ _ · n Nat.le.refl))))) (bi 44 (bi 50 (lE AC [6] []) (bi 54 (bi 65 (lE AC [6] []) (lN AC [0] ((C B N) _ _ · n Nat.le.refl))) (bi 58 (bi 65 (lE AC [6] []) (lN AC [0] ((C B N) _ _ · n Nat.le.refl))) (lN AC [0] ((C B N) _ _ · n Nat.le.refl))))) (bi 54 (bi 65 (lE AC [6] []) (lN AC [0] ((C B N) _ _ · n Nat.le.refl))) (bi 58 (bi 65 (lE AC [6] []) (lN AC [0] ((C B N) _ _ · n Nat.le.refl))) (lN AC [0] ((C B N) _ _ · n Nat.le.refl)))))))))))
def zAm:Au (A9 Tryz.f37 8) [([0,1,2,3,4,5,6,7,8],9)] [10] []:=by unfold Au;kernel_rfl
def IJ:BX:=λi=>match i with
 | 8=>.ord [([0,1,2,3,4,5,6,7,8],9)] [10] []
 | _=>.no
inductive Yr where
 | l1 (x3:Int)
def Yq (n:Nat)(self:Yr -> Option Int)(q:AA)(H:Int):Option Int:= bif (decide (H<(q.cons.length:Int))) then if 0<=H/\ H<(q.cons.length:Int) then (ZE n (q.cons.getD H.toNat default) q.cells q.symbols).bind λj=> bif (!j) then some 191 else if AG (H+1) then self (.l1 (H+1)) else none else none else some 0
def pU (n:Nat)(self:Yr -> Option Int)(q:AA):Option Int:= bif (decide (q.cells<1)) then some 191 else bif (decide (q.cells>256)) then some 191 else bif (decide (q.symbols<1)) then some 191 else bif (decide (q.symbols>16)) then some 191 else bif ((q.values.length:Int) != q.symbols) then some 191 else (Oa n q.values 0 99).bind λj=> bif (!j) then some 191 else bif ((q.nbrs.length:Int) != q.cells) then some 191 else (NZ n q.nbrs).bind λG=> bif (G != 0) then some 191 else bif (decide ((q.cons.length:Int)>4096)) then some 191 else self (.l1 0)
def NL (q:AA):Nat -> Yr -> Option Int
 | 0,_=>none
 | n+1,.l1 H=>Yq n (NL q n) q H
def Rl (n:Nat)(q:AA):Option Int:=pU n (NL q n) q
def zBh (n B:Nat)(N:Yd 0)(q:AA)(r:Int):Yr -> Prop
 | .l1 H=>∀ f:Nat,n<=f -> TW B N (FQ Tryz.f37 0 (.i r) []) (Ag f (An (AR Tryz.f37) 0 [])) ⟨AF 72 [(1,.ref 0 0),(3,.i H)],[oC (AH q)]⟩
def zBi (B:Nat)(N:Yd 0)(q:AA):Al (NL q) (zBh · B N q):=ia (λ_=>rfl) λn C A r h=>by
 cases A
 case l1 x3=>
  intro f a;refine rd a λf a=>?_
  revert r;apply gO;exact bi 58 (jg zAm (gi (cf zCm [oC (AH q)] λ_=>bi 71 (lE IJ [2] []) (gw 60 (lG IJ [0] (C _ _ · f a)))))) (lE IJ [2] [])
def pT {r:Int}(h:Rl n q=some r):EQ 37 [.agg 5 (L1 (AH q))] [] (.i r) [] true:=by
 refine ot Tryz.func37 λB N=>?_
 revert r;apply gO;exact bi 6 (lE IJ [2] []) (bi 10 (lE IJ [2] []) (bi 15 (lE IJ [2] []) (bi 20 (lE IJ [2] []) (bi 28 (lE IJ [2] []) (cf XT [oC (AH q)] λ_=>bi 34 (lE IJ [2] []) (bi 41 (lE IJ [2] []) (cf fX [oC (AH q)] λ_=>bi 46 (lE IJ [2] []) (bi 52 (lE IJ [2] []) (lN IJ [0] ((zBi B N q n) _ _ · n Nat.le.refl))))))))))
end
abbrev zCl:=@Int.toNat_natCast
abbrev zEI:=@decide_eq_true
abbrev zEl:=@decide_eq_false
abbrev zFi:=@cond_true
abbrev zGK:=@cond_false
abbrev zIC:=@beq_eq_false_iff_ne
abbrev zIU:=@decide_eq_false_iff_not
abbrev zIf:=@Int.natCast_nonneg
abbrev zIt:=@Bool.eq_iff_iff
abbrev zKO:=@decide_true
abbrev zLp:=@Int.eq_ofNat_of_zero_le
abbrev zMi:=@List.contains_iff_mem
abbrev zMj:=@List.pairwise_iff_getElem
abbrev zMn:=@List.exists_of_findSome?_eq_some
abbrev zNB:=@and_self
abbrev zNC:=@List.findSome?_eq_none_iff
abbrev zNM:=@List.mem_take_iff_getElem
abbrev zNm:=@List.range'_succ
abbrev zNo:=@List.range_eq_range'
end Go.Proofs.YtodinaconebmdaaGreatDoor
namespace Go.Proofs.YtodinaconebmdaaGreatDoor
def LM (lo hi:Int)(n:Int):Bool:=decide (lo<=n)&&decide (n<=hi)
def Dy (xs:Ξ)(lo hi:Int):Bool:=xs.all (LM lo hi)
def Gw (g:List Ξ)(i:Nat)(l:Ξ)(k:Nat):Bool:=
 let n:=l.getD k 0
 decide (0<=n)&&decide (n<g.length)&&(n != i)&&(!decide (0<k)||decide (l.getD (k-1) 0<n))&&(g.getD n.toNat []).contains (i:Int)
def IL (g:List Ξ)(i:Nat)(l:Ξ):Bool:=(List.range l.length).all (Gw g i l)
def JT (g:List Ξ):Bool:=decide (g.length<=256)&&(List.range g.length).all λi=>IL g i (g.getD i [])
def Qk (n kind:Int)(cells:Ξ)(i:Nat):Bool:=
 let x:=cells.getD i 0
 decide (0<=x)&&decide (x<n)&&!(cells.take i).contains x&&(!decide (8<=kind)||x==(i:Int))
def cq (n kind:Int)(cells:Ξ):Bool:=(List.range cells.length).all (Qk n kind cells)
def Hx (n kind:Int)(len:Nat):Bool:= (decide (1<=kind)&&decide (kind<=5))||((kind==6||kind==7)&&len==2)||((kind==8||kind==9)&&(len:Int)==n)
def E6 (q:AA)(c:AD):Bool:= cq q.cells c.kind c.cells&&Hx q.cells c.kind c.cells.length&& Dy [c.set,c.other] 0 (2 ^ q.symbols.toNat-1)&&Dy [c.lo,c.hi] 0 65536&&decide (c.runs.length<=8)&&Dy c.runs 1 256
def SM (l:Ξ):Bool:=(List.range l.length).all λi=>!(l.take i).contains (l.getD i 0)
def ZD (c:AD)(n sy:Int):Bool:= (decide (1<=c.kind)&&decide (c.kind<=9))&&decide ((c.cells.length:Int)<=n)&&Dy c.cells 0 (n-1)&&SM c.cells&& (!(c.kind==6||c.kind==7)||c.cells.length==2)&&(!(c.kind==8||c.kind==9)||((c.cells.length:Int)==n))&& (!(c.kind==8||c.kind==9)||(List.range c.cells.length).all λi=>c.cells.getD i 0==(i:Int))&& Dy [c.set,c.other] 0 (2 ^ sy.toNat-1)&&Dy [c.lo,c.hi] 0 65536&&decide (c.runs.length<=8)&&Dy c.runs 1 256
def SL: ∀ (n:Nat) (l:Ξ),l.Nodup -> (∀ x∈l,0<=x/\ x<(n:Int)) -> l.length<=n
 | 0,l,_,h=>by
  cases l with
  | nil=>simp
  | cons a l=>have:=h a (by simp);omega
 | n+1,l,r,h=>by
  have h1:(l.erase (n:Int)).length<=n:=SL n _ (r.erase _) (λx hx=>by
   grind)
  grind
variable {l:Ξ}
def rf :SM l=true↔l.Nodup:=by
 unfold SM List.Nodup;rw [zGV,zMj];constructor
 ·intro h i j hi a WO e;have:=h j (by simpa using a);simp only [zGR,zGc a,zNj,zG0] at this;rw [zMm,ne_eq,zMi,zNM] at this;exact this ⟨i,by omega,e⟩
 ·intro h i hi;have G:i<l.length:=by simpa using hi
  simp only [zGR,zGc G,zNj,zG0];rw [zMm,ne_eq,zMi,zNM]
  grind
def Xr {lo hi:Int}:Dy l lo hi=true↔∀ x∈l,lo<=x/\ x<=hi:=by
 unfold Dy;simp [LM]
variable {n kind:Int}
def lS {cells:Ξ}:cq n kind cells=true↔(∀ x∈cells,0<=x/\ x<n)/\ cells.Nodup/\ (8<=kind -> ∀ j,j<cells.length -> cells.getD j 0=(j:Int)):=by
 rw [←rf];unfold cq SM Qk;simp only [zGV,zGX,zFW,zH6,zGz,zG0,zGo,zIU];constructor
 ·intro h;refine ⟨λx d=>?_,λj e=>(h j e).1.2,λh8 j e=>?_⟩
  ·obtain ⟨j,e,rfl⟩:=zG2 d
   grind
  grind
 grind
def zCp (q:AA)(c:AD)(h1:1<=q.cells):ZD c q.cells q.symbols=E6 q c:=by
 rw [zIt];unfold ZD E6;simp only [zFW,lS,rf,Xr (l:=c.cells),zGz,zG0,Bool.or_eq_false_iff,zGo,zIC,zH6,zGV,zGX,Hx];constructor
 ·grind
 ·rintro ⟨⟨⟨⟨⟨⟨B,Y,k3⟩,k4⟩,k9⟩,k10⟩,k11⟩,k12⟩
  have Aj:(c.cells.length:Int)<=q.cells:=by
   have:=SL q.cells.toNat c.cells Y (λx d=>by have:=B x d;omega);omega
  grind
def CK (q:AA):Bool:= decide (1<=q.cells)&&decide (q.cells<=256)&&decide (1<=q.symbols)&&decide (q.symbols<=16)&&((q.values.length:Int)==q.symbols)&&Dy q.values 0 99&& ((q.nbrs.length:Int)==q.cells)&&JT q.nbrs&&decide (q.cons.length<=4096)&&q.cons.all (E6 q)
def IU (kind:Int):Int:=if kind=3∨kind=4 then 2 else if kind=5 then 3 else if kind=8∨kind=9 then 4 else 1
def ML (q:AA)(i:Int):Δ:= if CK q=false then (0,191) else if 0<=i/\ i<q.cons.length then (IU ((q.cons.getD i.toNat default).kind),0) else (0,260)
variable {q:AA}
def DP (h:CK q=true):(1<=q.cells/\ q.cells<=256)/\ (1<=q.symbols/\ q.symbols<=16)/\ ((q.values.length:Int)=q.symbols/\ Dy q.values 0 99=true)/\
 ((q.nbrs.length:Int)=q.cells/\ JT q.nbrs=true)/\ q.cons.length<=4096/\ ∀ c∈q.cons,E6 q c=true:=by
 simp_all [CK]
def sY {c:AD}(h:E6 q c=true):Hx q.cells c.kind c.cells.length=true:=by
 simp_all [E6]
def Po {len:Nat}(h:Hx n kind len=true):1<=kind/\ kind<=9:=by
 unfold Hx at h;simp at h;omega
theorem Pp {k:Int}(h:1<=k/\ k<=9):k=1∨k=2∨k=3∨k=4∨k=5∨k=6∨k=7∨k=8∨k=9:=by omega
end Go.Proofs.YtodinaconebmdaaGreatDoor
namespace Go.Proofs.YtodinaconebmdaaGreatDoor
open Go.RowKit
section
variable {R:Type}
def pG (m:Nat -> Int -> Option R)(len a:Nat)(B:Nat -> Option R)(h0: ∀ (n i:Nat),a<=n -> i<len -> m (n+1) (i:Int)=(B i).or (m n ((i:Int)+1))):
 ∀ (k i n:Nat),i+k=len -> a<=n -> m (n+k) (i:Int)=((List.range' i k).findSome? B).or (m n (len:Int))
 | 0,i,n,h,u=>by
  grind
 | k+1,i,n,h,u=>by
  show m (n+k+1) (i:Int)=_
  rw [h0 (n+k) i (by omega) (by omega),zNm,List.findSome?_cons];cases B i with
  | some r=>rfl
  | none=>
   have:=pG m len a B h0 k (i+1) n (by omega) u;rw [←this];simp
variable {n:Nat}
def Kr (m:Nat -> Int -> Option R)(len a:Nat)(B:Nat -> Option R)(h0: ∀ (n i:Nat),a<=n -> i<len -> m (n+1) (i:Int)=(B i).or (m n ((i:Int)+1)))(hn:a+len<=n):
 m n 0=((List.range len).findSome? B).or (m (n-len) (len:Int)):=by
 have:=pG m len a B h0 len 0 (n-len) (by omega) (by omega)
 grind [List.range_eq_range']
def Qd {l:Θ}{p:Nat -> Bool}{r:R}:(l.findSome? λi=>if p i then none else some r)=if l.all p then none else some r:=by
 induction l with
 | nil=>rfl
 | cons a l ih=>
  grind
def VK {α:Type}{l:List α}{d:α}{p:α -> Bool}:((List.range l.length).all λi=>p (l.getD i d))=l.all p:=by
 rw [zIt,zGV,zGV];constructor
 ·intro h x a;obtain ⟨i,hi,rfl⟩:=zG2 a
  simp_all
 grind
def r64 {i len:Nat}(h:i<len)(m:len<=LB):AG ((i:Int)+1):=by rw [Ah];unfold LB at m;omega
variable {lo up:Int}{l:Ξ}
def XU (a:l.length<=LB)(hn:l.length<n):Oa n l lo up=some (Dy l lo up):=by
 unfold Oa wN;have S:=Kr (λn i=>Tl l lo up n (.l1 i)) l.length 0 (λi=>if LM lo up (l.getD i 0) then none else some false) (λn i _ hi=>?_) (n:=n) (by omega)
 ·refine S.trans ?_;rw [Qd,VK (p:=LM lo up)];unfold Dy;cases l.all (LM lo up) with
  | false=>rfl
  | true=>
   obtain ⟨m,hm⟩: ∃ m,n-l.length=m+1:=⟨n-l.length-1,by omega⟩
   grind [Tl,lX]
 ·have b:(i:Int)<(l.length:Int):=by omega
  have c:=r64 hi a;simp only [Tl,lX,b,c,zKO,zFi,zIf,zNB,zJH,zCl,LM]
  grind
def zF3 (a:l.length<=LB)(hn:l.length<n): ∃ r:Int,ab n l lo up=some r/\ (0<=r↔Dy l lo up=false):=by
 unfold ab s3;have S:=Kr (λn i=>Px l lo up n (.l1 i)) l.length 0 (λi=>if LM lo up (l.getD i 0) then none else some (i:Int)) (λn i _ hi=>?_) (n:=n) (by omega)
 ·have S:=S;rw [show Px l lo up n (.l1 0)=_ from S];cases M:(List.range l.length).findSome? (λi=>if LM lo up (l.getD i 0) then none else some (i:Int)) with
  | some r=>
   refine ⟨r,rfl,?_⟩;obtain ⟨i,hi,hr⟩:=zMn M
   grind [Dy]
  | none=>
   obtain ⟨m,v⟩: ∃ m,n-l.length=m+1:=⟨n-l.length-1,by omega⟩;refine ⟨-1,by rw [v];simp [Px,iU],?_⟩;rw [zNC] at M
   have:Dy l lo up=true:=by
    unfold Dy;rw [←VK (p:=LM lo up) (d:=(0:Int)),zGV]
    grind
   simp [this]
 ·have b:(i:Int)<(l.length:Int):=by omega
  have c:=r64 hi a;simp only [Px,iU,da,mj,b,c,zKO,zFi,zIf,zNB,zJH,zCl,LM]
  grind
def ZL (m:l.length<=LB)(u:l.length<n):Nd n l lo up=some (Dy l lo up):=by
 obtain ⟨r,h1,h2⟩:=zF3 (lo:=lo) (up:=up) m u
 grind [Nd,fl,cU,lB]
variable {x:Int}
def zIv (a:l.length<=LB)(hn:l.length<n):has n l x=some (l.contains x):=by
 unfold has uF;have S:=Kr (λn i=>S5 l x n (.l1 i)) l.length 0 (λi=>if (l.getD i 0 != x) then none else some true) (λn i _ hi=>?_) (n:=n) (by omega)
 ·refine S.trans ?_;rw [Qd,VK (p:=λy=>y != x)]
  have e:l.all (λy=>y != x)= !l.contains x:=by
   grind
  rw [e];cases l.contains x with
  | true=>rfl
  | false=>
   obtain ⟨m,v⟩: ∃ m,n-l.length=m+1:=⟨n-l.length-1,by omega⟩;rw [v];simp [S5,kG]
 ·have b:(i:Int)<(l.length:Int):=by omega
  have c:=r64 hi a;simp only [S5,kG,b,c,zKO,zFi,zIf,zNB,zJH,zCl]
  grind
def zK1 (c:l.length<=LB)(hn:l.length<n):OX n l x=some (l.contains x):=by
 have: ∃ r:Int,ae n l x=some r/\ (0<=r↔l.contains x=true):=by
  unfold ae s6;have S:=Kr (λn i=>Py l x n (.l1 i)) l.length 0 (λi=>if (x != l.getD i 0) then none else some (i:Int)) (λn i _ hi=>?_) (n:=n) (by omega)
  ·rw [show Py l x n (.l1 0)=_ from S];cases M:(List.range l.length).findSome? (λi=>if (x != l.getD i 0) then none else some (i:Int)) with
   | some r=>
    refine ⟨r,rfl,?_⟩;obtain ⟨i,hi,hr⟩:=zMn M
    grind
   | none=>
    obtain ⟨m,v⟩: ∃ m,n-l.length=m+1:=⟨n-l.length-1,by omega⟩;refine ⟨-1,by rw [v];simp [Py,iV],?_⟩;rw [zNC] at M
    have:l.contains x=false:=by
     rw [zMm]
     grind [List.getElem_of_mem]
    rw [this];simp
  ·have a:(i:Int)<(l.length:Int):=by omega
   have b:=r64 hi c;simp only [Py,iV,a,b,zKO,zFi,zIf,zNB,zJH,zCl]
   grind
 obtain ⟨r,a,b⟩:=this
 simp_all [OX,lC]
end
section
def Fk (g:List Ξ):Nat:=(g.map λr=>r.length+2).sum
def UE: ∀ {g:List Ξ} {r:Ξ},r∈g -> r.length+2<=Fk g
 | [],_,h=>by cases h
 | a::g,r,h=>by
  simp only [Fk,zL1,List.sum_cons];rcases zIn.1 h with rfl | h
  ·omega
  ·have:=UE h;unfold Fk at this;omega
variable {v:Nat}{g:List Ξ}
def mh (hv:v<g.length):Fk (g.drop v)=(g.getD v []).length+2+Fk (g.drop (v+1)):=by
 grind [List.drop_eq_getElem_cons,Fk]
def TG (hv:v<g.length):g.getD v []∈g:=by
 grind
section
variable {g:List Ξ} {v j n:Nat}
def rp {R:Type}(next G:R)(c:Bool -> R)(hc:c true=next)(Md:c false=G)(hv:v<g.length)(hj:j<(g.getD v []).length):
 (if Gw g v (g.getD v []) j then next else G)=
  (if (g.getD v []).getD j 0<0 then G else if (g.getD v []).getD j 0>=(g.length:Int) then G else if (g.getD v []).getD j 0=(v:Int) then G else
   if 0<j then (if (g.getD v []).getD (j-1) 0>=(g.getD v []).getD j 0 then G else c ((g.getD ((g.getD v []).getD j 0).toNat []).contains (v:Int)))
   else c ((g.getD ((g.getD v []).getD j 0).toNat []).contains (v:Int))):=by
 unfold Gw
 grind
variable {len:Nat}
def qc {j:Nat}(h:j<len)(m:len<=LB):AG ((j:Int)-1):=by rw [Ah];unfold LB at m;omega
def qm {j:Nat}(h:0<j)(h2:j<len):((0:Int)<=(j:Int)-1/\ (j:Int)-1<(len:Int))/\ ((j:Int)-1).toNat=j-1/\ (j:Int)>0:=by omega
def zDC {self:Rv -> Option Int}(p:v<g.length)(hg:g.length<=256)(c:j<(g.getD v []).length)(i: ∀ r∈g,r.length<=LB)(u: ∀ r∈g,r.length<n):
 ZJ n self g (v:Int) (j:Int)=(if Gw g v (g.getD v []) j then none else some (120:Int)).or (self (.l2 (v:Int) ((j:Int)+1))):=by
 have M:=i _ (TG p);have f:(v:Int)<(g.length:Int):=by omega
 have h:(j:Int)<((g.getD v []).length:Int):=by omega
 have k:=r64 c M;have key:=rp (g:=g) (v:=v) (j:=j) (self (.l2 (v:Int) ((j:Int)+1))) (some (120:Int)) (λb=>bif b then self (.l2 (v:Int) ((j:Int)+1)) else some 120) rfl rfl p c
 have w:((if Gw g v (g.getD v []) j then none else some (120:Int)).or (self (.l2 (v:Int) ((j:Int)+1))))=(if Gw g v (g.getD v []) j then self (.l2 (v:Int) ((j:Int)+1)) else some 120):=by
  grind
 rw [w,key];simp only [ZJ,f,h,k,zKO,zFi,zIf,zNB,zJH,zCl];obtain ⟨x,l⟩: ∃ x,(g.getD v []).getD j 0=x:=⟨_,rfl⟩;simp only [l]
 by_cases a:x<0
 ·simp [a]
 by_cases b:x>=(g.length:Int)
 ·simp [a,b]
 by_cases d:x=(v:Int)
 ·simp [a,b,d]
 have d':(x==(v:Int))=false:=by simp [d]
 have V:g.getD x.toNat []∈g:=TG (by omega);have hh:has n (g.getD x.toNat []) (v:Int)=some ((g.getD x.toNat []).contains (v:Int)):=zIv (i _ V) (u _ V);have J6:0<=x/\ x<(g.length:Int):=by omega
 have fin:((has n (g.getD x.toNat []) (v:Int)).bind λm=>bif (!m) then some (120:Int) else self (.l2 (v:Int) ((j:Int)+1)))=(bif (g.getD x.toNat []).contains (v:Int) then self (.l2 (v:Int) ((j:Int)+1)) else some 120):=by
  grind
 by_cases e:0<j
 ·have h4:AG ((j:Int)-1)/\ ((0:Int)<=(j:Int)-1/\ (j:Int)-1<((g.getD v []).length:Int)):=⟨qc c M,(qm e c).1⟩
  simp_all [zGW]
 grind
def zJZ {self:TH -> Option Int}{row:Ξ}(f:row=g.getD v [])(p:v<g.length)(hg:g.length<=256)(c:j<(g.getD v []).length)(i: ∀ r∈g,r.length<=LB)(u: ∀ r∈g,r.length<n):
 be n self g (v:Int) row (v:Int) row (row.length:Int) (j:Int)=(if Gw g v (g.getD v []) j then none else some (120:Int)).or (self (.l2 (v:Int) row (v:Int) row (row.length:Int) ((j:Int)+1))):=by
 subst f;have M:=i _ (TG p);have h:(v:Int)<(g.length:Int):=by omega
 have k:(j:Int)<((g.getD v []).length:Int):=by omega
 have l:=r64 c M;obtain ⟨y,q⟩: ∃ y,self (.l2 (v:Int) (g.getD v []) (v:Int) (g.getD v []) ((g.getD v []).length:Int) ((j:Int)+1))=y:=⟨_,rfl⟩;have key:=rp (g:=g) (v:=v) (j:=j) y (some (120:Int)) (λb=>bif b then y else some 120) rfl rfl p c
 have w:((if Gw g v (g.getD v []) j then none else some (120:Int)).or y)=(if Gw g v (g.getD v []) j then y else some 120):=by
  grind
 rw [q,w,key];simp only [be,h,k,l,zKO,zFi,zIf,zNB,zJH,zCl,q];obtain ⟨x,m⟩: ∃ x,(g.getD v []).getD j 0=x:=⟨_,rfl⟩;simp only [m]
 by_cases a:x<0
 ·simp [a]
 by_cases b:x>=(g.length:Int)
 ·simp [a,b]
 by_cases d:x=(v:Int)
 ·simp [a,b,d]
 have d':(x==(v:Int))=false:=by simp [d]
 have V:g.getD x.toNat []∈g:=TG (by omega);have hh:OX n (g.getD x.toNat []) (v:Int)=some ((g.getD x.toNat []).contains (v:Int)):=zK1 (i _ V) (u _ V);have J6:0<=x/\ x<(g.length:Int):=by omega
 have fin:((OX n (g.getD x.toNat []) (v:Int)).bind λo=>bif (!o) then some (120:Int) else y)=(bif (g.getD x.toNat []).contains (v:Int) then y else some 120):=by
  grind
 by_cases e:0<j
 ·have h4:AG ((j:Int)-1)/\ ((0:Int)<=(j:Int)-1/\ (j:Int)-1<((g.getD v []).length:Int)):=⟨qc c M,(qm e c).1⟩
  simp_all [zGW]
 grind
end
def pw {g:List Ξ}{v:Nat}(hv:v<g.length):((List.range' v (g.length-v)).all λi=>IL g i (g.getD i []))=(IL g v (g.getD v [])&&(List.range' (v+1) (g.length-(v+1))).all λi=>IL g i (g.getD i [])):=by
 grind
def qW {g:List Ξ}(a:g.length<=256)(b: ∀ r∈g,r.length<=LB): ∀ (k v n:Nat),v+k=g.length -> Fk (g.drop v)+Fk g+1<=n -> Ju g n (.l1 (v:Int))=some (Dc ((List.range' v (g.length-v)).all λi=>IL g i (g.getD i [])) 120)
 | 0,v,n,p,u=>by
  have:v=g.length:=by omega
  subst this;obtain ⟨m,rfl⟩: ∃ m,n=m+1:=⟨n-1,by omega⟩;simp [Ju,fY,Dc]
 | k+1,v,n,p,u=>by
  have w:v<g.length:=by omega
  rw [mh w] at u;have hm:=UE (TG w);obtain ⟨m,rfl⟩: ∃ m,n=m+1:=⟨n-1,by omega⟩;have c:(v:Int)<(g.length:Int):=by omega
  have d:Ju g (m+1) (.l1 (v:Int))=Ju g m (.l2 (v:Int) 0):=by simp [Ju,fY,c]
  rw [d];have S:=Kr (λn i=>Ju g n (.l2 (v:Int) i)) (g.getD v []).length (Fk g) (λj=>if Gw g v (g.getD v []) j then none else some 120) (λW j GH e=>zDC (n:=W) w a e b λr f=>by have:=UE f;omega) (n:=m) (by omega);refine S.trans ?_;rw [Qd,pw w];have C:((List.range (g.getD v []).length).all λi=>Gw g v (g.getD v []) i)=IL g v (g.getD v []):=rfl;rw [C];cases IL g v (g.getD v []) with
  | false=>rfl
  | true=>
   obtain ⟨Z,U⟩: ∃ Z,m-(g.getD v []).length=Z+1:=⟨m-(g.getD v []).length-1,by omega⟩;rw [U];have h2:AG ((v:Int)+1):=by rw [Ah];omega
   have ih:=qW a b k (v+1) Z (by omega) (by omega)
   simp_all [Ju,ZJ]
def uj {g:List Ξ}(a:g.length<=256)(b: ∀ r∈g,r.length<=LB): ∀ (k v n:Nat),v+k=g.length -> Fk (g.drop v)+Fk g+1<=n -> KM g n (.l1 (v:Int))=some (Dc ((List.range' v (g.length-v)).all λi=>IL g i (g.getD i [])) 120)
 | 0,v,n,p,u=>by
  have:v=g.length:=by omega
  subst this;obtain ⟨m,rfl⟩: ∃ m,n=m+1:=⟨n-1,by omega⟩;simp [KM,kT,Dc]
 | k+1,v,n,p,u=>by
  have w:v<g.length:=by omega
  rw [mh w] at u;have hm:=UE (TG w);obtain ⟨m,rfl⟩: ∃ m,n=m+1:=⟨n-1,by omega⟩;have c:(v:Int)<(g.length:Int):=by omega
  have d:KM g (m+1) (.l1 (v:Int))=KM g m (.l2 (v:Int) (g.getD v []) (v:Int) (g.getD v []) ((g.getD v []).length:Int) 0):=by
   simp only [KM,kT,c,zKO,zFi,zIf,zNB,zJH,zCl]
  rw [d];have S:=Kr (λn i=>KM g n (.l2 (v:Int) (g.getD v []) (v:Int) (g.getD v []) ((g.getD v []).length:Int) i)) (g.getD v []).length (Fk g) (λj=>if Gw g v (g.getD v []) j then none else some 120) (λW j GH e=>zJZ (n:=W) rfl w a e b λr f=>by have:=UE f;omega) (n:=m) (by omega);refine S.trans ?_;rw [Qd,pw w];have C:((List.range (g.getD v []).length).all λi=>Gw g v (g.getD v []) i)=IL g v (g.getD v []):=rfl;rw [C];cases IL g v (g.getD v []) with
  | false=>rfl
  | true=>
   obtain ⟨Z,U⟩: ∃ Z,m-(g.getD v []).length=Z+1:=⟨m-(g.getD v []).length-1,by omega⟩;rw [U];have h2:AG ((v:Int)+1):=by rw [Ah];omega
   have ih:=uj a b k (v+1) Z (by omega) (by omega)
   simp_all [KM,be]
variable {n:Nat}
def qV {g:List Ξ}(i: ∀ r∈g,r.length<=LB)(hn:2*Fk g+1<=n):NZ n g=some (Dc (JT g) 120):=by
 unfold NZ qT JT
 by_cases h:(g.length:Int)>256
 ·grind [Dc]
 ·have h':g.length<=256:=by omega
  have:=qW h' i g.length 0 n (by omega) (by simp;omega)
  grind
def ui {g:List Ξ}(i: ∀ r∈g,r.length<=LB)(hn:2*Fk g+1<=n):Wg n g=some (Dc (JT g) 120):=by
 unfold Wg uh JT
 by_cases h:(g.length:Int)>256
 ·grind [Dc]
 ·have h':g.length<=256:=by omega
  have:=uj h' i g.length 0 n (by omega) (by simp;omega)
  grind
end
section
def ZR {s:Int}(a:1<=s)(b:s<=16):IntKind.i64.wrap (1*2 ^ s.toNat)=2 ^ s.toNat/\ AG ((2:Int) ^ s.toNat-1)/\ ((0:Int)<=s/\ s<=((IntKind.i64.bits:Nat):Int)):=by
 obtain ⟨m,rfl⟩:=zLp (show 0<=s by omega);rw [zCl];have h:m<17:=by omega
 refine ⟨?_,?_,by omega,by show (m:Int)<=64;omega⟩
 ·revert h;clear a b;revert m;decide
 ·revert h;clear a b;revert m;decide
variable {n i:Nat}{l:Ξ}
def zKW (m:l.length<=LB)(hi:i<l.length){self:TY -> Option Bool}(j:Nat)(hj:j<i):cH n self l (i:Int) (j:Int)=(if l.getD i 0 != l.getD j 0 then none else some false).or (self (.l2 (i:Int) ((j:Int)+1))):=by
 have a:(j:Int)<(i:Int):=by omega
 have b:(i:Int)<(l.length:Int):=by omega
 have h:(j:Int)<(l.length:Int):=by omega
 have A:=r64 (show j<l.length by omega) m;simp only [cH,a,b,h,A,zKO,zFi,zIf,zNB,zJH,zCl]
 grind
def ya (hi:i<=l.length){x:Int}:((List.range i).all λj=>x != l.getD j 0)= !(l.take i).contains x:=by
 rw [zIt];simp only [zGV,zGX,zJN,ne_eq,zG0,zMm,zMi,zNM,not_exists]
 grind
def vV (a:l.length<=LB): ∀ (k i n:Nat),i+k=l.length -> k*(l.length+2)+1<=n -> KU l n (.l1 (i:Int))=some ((List.range' i k).all λi=>!(l.take i).contains (l.getD i 0))
 | 0,i,n,hi,u=>by
  have:i=l.length:=by omega
  subst this;obtain ⟨m,rfl⟩: ∃ m,n=m+1:=⟨n-1,by omega⟩;simp [KU,kw]
 | k+1,i,n,hi,u=>by
  have G:i<l.length:=by omega
  rw [zMu] at u;obtain ⟨m,rfl⟩: ∃ m,n=m+1:=⟨n-1,by omega⟩;have b:(i:Int)<(l.length:Int):=by omega
  have w:KU l (m+1) (.l1 (i:Int))=KU l m (.l2 (i:Int) 0):=by simp [KU,kw,b]
  rw [w];have S:=Kr (λn j=>KU l n (.l2 (i:Int) j)) i 0 (λj=>if l.getD i 0 != l.getD j 0 then none else some false) (λW j _ e=>zKW (n:=W) a G j e) (n:=m) (by omega);refine S.trans ?_;rw [Qd,ya (by omega),zNm,zM4];cases (l.take i).contains (l.getD i 0) with
  | true=>rfl
  | false=>
   obtain ⟨Z,U⟩: ∃ Z,m-i=Z+1:=⟨m-i-1,by omega⟩;rw [U];have ih:=vV a k (i+1) Z (by omega) (by omega);have h2:=r64 G a
   simp_all [KU,cH]
def zKS (m:l.length<=LB)(u:l.length*(l.length+2)+1<=n):cI n l=some (SM l):=by
 unfold cI vU SM;rw [zNo];exact vV m l.length 0 n (by omega) u
section
variable {c:AD} {n:Nat}
def NV (sy:Int)(c:AD):Bool:=Dy [c.set,c.other] 0 (2 ^ sy.toNat-1)&&Dy [c.lo,c.hi] 0 65536&&decide (c.runs.length<=8)&&Dy c.runs 1 256
def aL {a b:Int}:([a,b]:Ξ).length<=LB:=by show 2<=LB;unfold LB;omega
variable {q:AA}{self:ON -> Option Bool}
theorem zJn (a:1<=q.symbols)(b:q.symbols<=16)(i:c.runs.length<=LB)(u:c.runs.length<n)(w:2<n):ke n self q c=some (NV q.symbols c):=by
 obtain ⟨J,p2,I⟩:=ZR a b;unfold ke;rw [J,zEd ⟨I,p2⟩,ZL aL (show 2<n from w),ZL aL (show 2<n from w),ZL i u]
 grind [NV]
variable {o:Ω}
def zJp (hq:q.cells<=256)(l:c.cells.length<=LB){i:Nat}(hi:i<c.cells.length)(ho:o.length=256)(hm: ∀ x:Nat,x<256 -> o.getD x false=(c.cells.take i).contains (x:Int)):
 Wo n self q c (i:Int) o=if Qk q.cells c.kind c.cells i then self (.l1 ((i:Int)+1) (o.set (0+(c.cells.getD i 0).toNat) true)) else some false:=by
 have a:(i:Int)<(c.cells.length:Int):=by omega
 have b:=r64 hi l;unfold Qk;obtain ⟨x,d⟩: ∃ x,c.cells.getD i 0=x:=⟨_,rfl⟩;simp only [Wo,a,b,zKO,zFi,zIf,zNB,zJH,zCl,d]
 grind
def zJo :Wo n self q c (c.cells.length:Int) o=if Hx q.cells c.kind c.cells.length then self .l2 else some false:=by
 have a: ¬ ((c.cells.length:Int)<(c.cells.length:Int)):=by omega
 simp only [Wo,zEl a,zGK]
 by_cases hk:1<=c.kind/\ c.kind<=9
 ·obtain ⟨k,j⟩: ∃ k,c.kind=k:=⟨_,rfl⟩;rw [j] at hk;simp only [j];have e2:(((c.cells.length:Nat):Int) != 2)= !(c.cells.length==2):=by rw [zIt];simp;omega
  have e3:(((c.cells.length:Nat):Int) != q.cells)= !(((c.cells.length:Nat):Int)==q.cells):=rfl
  grind [Pp,Hx]
 ·have N9:Hx q.cells c.kind c.cells.length=false:=by
   rw [zMm];exact λh=>hk (Po h)
  grind
def uu (L:q.cells<=256)(l:c.cells.length<=LB)(b:1<=q.symbols)(d:q.symbols<=16)(e:c.runs.length<=LB): ∀ (k i n:Nat) (o:Ω),i+k=c.cells.length -> k+c.runs.length+6<=n -> o.length=256 -> (∀ x:Nat,x<256 -> o.getD x false=(c.cells.take i).contains (x:Int)) ->
 TN q c n (.l1 (i:Int) o)=some ((List.range' i k).all (Qk q.cells c.kind c.cells)&&Hx q.cells c.kind c.cells.length&&NV q.symbols c)
 | 0,i,n,o,hi,u,a,v=>by
  have:i=c.cells.length:=by omega
  subst this;obtain ⟨m,rfl⟩: ∃ m,n=m+1:=⟨n-1,by omega⟩;refine (zJo (n:=m)).trans ?_;cases Hx q.cells c.kind c.cells.length with
  | false=>simp
  | true=>
   obtain ⟨Z,rfl⟩: ∃ Z,m=Z+1:=⟨m-1,by omega⟩
   grind [TN,zJn]
 | k+1,i,n,o,hi,u,a,v=>by
  obtain ⟨m,rfl⟩: ∃ m,n=m+1:=⟨n-1,by omega⟩;refine (zJp (n:=m) L l (show i<c.cells.length by omega) a v).trans ?_;rw [zNm,zM4];cases hck:Qk q.cells c.kind c.cells i with
  | false=>simp
  | true=>
   have hx:0<=c.cells.getD i 0/\ c.cells.getD i 0<q.cells:=by
    simp_all [Qk]
   have ih:=uu L l b d e k (i+1) m (o.set (0+(c.cells.getD i 0).toNat) true) (by omega) (by omega) (by simp [a]) (λx D=>?_)
   ·grind
   ·have Bp:i<c.cells.length:=by omega
    rw [zG4]
    have f:c.cells.take (i+1)=c.cells.take i++[c.cells.getD i 0]:=by
     simp_all
    rw [f,List.contains_append,←v x D];rw [zGR,zJM]
    grind
def zJr (L:q.cells<=256)(l:c.cells.length<=LB)(a:1<=q.symbols)(b:q.symbols<=16)(i:c.runs.length<=LB)(hn:c.cells.length+c.runs.length+6<=n):bv n q c=some (E6 q c):=by
 unfold bv uw;have:=uu L l a b i c.cells.length 0 n (List.replicate 256 false) (by omega) (by omega) zIA (λx hx=>by grind);refine Eq.trans this ?_
 grind [E6,cq,NV]
end
end
section
variable {c:AD} {n:Nat} {cells sy:Int}
def V1 (c:AD):Bool:=(List.range c.cells.length).all λi=>c.cells.getD i 0==(i:Int)
def zCn (l:c.cells.length<=LB)(d:c.runs.length<=LB)(a:1<=sy)(b:sy<=16)(hn:c.cells.length+c.runs.length+6<=n):NT c cells sy n (.l1 0)=some ((!(c.kind==8||c.kind==9)||V1 c)&&NV sy c):=by
 have S:=Kr (λn i=>NT c cells sy n (.l1 i)) c.cells.length 0 (λi=>if (!(c.kind==8||c.kind==9)||c.cells.getD i 0==(i:Int)) then none else some false) (λn i _ hi=>?_) (n:=n) (by omega)
 ·refine S.trans ?_;rw [Qd]
  have e:((List.range c.cells.length).all λi=>(!(c.kind==8||c.kind==9)||c.cells.getD i 0==(i:Int)))=(!(c.kind==8||c.kind==9)||V1 c):=by
   grind [V1]
  rw [e];cases (!(c.kind==8||c.kind==9)||V1 c) with
  | false=>rfl
  | true=>
   obtain ⟨m,v⟩: ∃ m,n-c.cells.length=m+1:=⟨n-c.cells.length-1,by omega⟩;rw [v];obtain ⟨J,p2,I⟩:=ZR a b;have h: ¬ ((c.cells.length:Int)<(c.cells.length:Int)):=by omega
   show VH m (NT c cells sy m) c cells sy (c.cells.length:Int)=_
   unfold VH;rw [zEl h,zGK,J,zEd ⟨I,p2⟩,XU aL (show 2<m by omega),XU aL (show 2<m by omega),XU d (show c.runs.length<m by omega)];unfold NV
   grind
 ·have a:(i:Int)<(c.cells.length:Int):=by omega
  have b:=r64 hi l
  show VH n (NT c cells sy n) c cells sy (i:Int)=_
  generalize NT c cells sy n=self
  simp only [VH,a,b,zKO,zFi,zIf,zNB,zJH,zCl]
  grind
def zCo (l:c.cells.length<=LB)(a:c.runs.length<=LB)(h0:1<=cells)(h00:cells<=256)(d:1<=sy)(e:sy<=16)(hn:c.cells.length*(c.cells.length+2)+c.cells.length+c.runs.length+7<=n):ZE n c cells sy=some (ZD c cells sy):=by
 have u:=zCn (cells:=cells) l a d e (n:=n) (by omega);have hR:AG (cells-1):=by rw [Ah];omega
 unfold ZE qO ZD;simp only [hR,zJH,XU l (show c.cells.length<n by omega),zKS l (show c.cells.length*(c.cells.length+2)+1<=n by omega),u,zEf];have E:((List.range c.cells.length).all λi=>c.cells.getD i 0==(i:Int))=V1 c:=rfl;have F: ∀ b:Bool,(b&&Dy [c.set,c.other] 0 (2 ^ sy.toNat-1)&&Dy [c.lo,c.hi] 0 65536&&decide (c.runs.length<=8)&&Dy c.runs 1 256)=(b&&NV sy c):=λb=>by unfold NV;simp only [Bool.and_assoc]
 rw [E,F];have e2:(((c.cells.length:Nat):Int) != 2)= !(c.cells.length==2):=by rw [zIt];simp;omega
 grind
end
def RQ (c:AD):Nat:=c.cells.length*(c.cells.length+2)+c.cells.length+c.runs.length+7
theorem oA (c:AD):RQ c=c.cells.length*(c.cells.length+2)+c.cells.length+c.runs.length+7:=rfl
def EG (q:AA):Nat:=q.values.length+2*Fk q.nbrs+(q.cons.map RQ).sum+q.cons.length+10
structure DJ (q:AA):Prop where
 values:q.values.length<=LB
 nbrs: ∀ r∈q.nbrs,r.length<=LB
 cells: ∀ c∈q.cons,c.cells.length<=LB
 runs: ∀ c∈q.cons,c.runs.length<=LB
def dx: ∀ {l:List AD} {c:AD},c∈l -> RQ c<=(l.map RQ).sum
 | [],_,h=>by cases h
 | a::l,c,h=>by
  rw [zL1,List.sum_cons];rcases zIn.1 h with rfl | h
  ·omega
  ·have:=dx h;omega
section
variable {q:AA} {n:Nat}
def vB {b:Bool}:(Dc b 120==0)=b:=by cases b <;> rfl
def yO (R:DJ q)(h1:1<=q.cells)(b:q.cells<=256)(h:1<=q.symbols)(A:q.symbols<=16)(h5:q.cons.length<=4096)(u:EG q<=n): ∃ r:Int,aY n q.cons q=some r/\ (0<=r↔q.cons.all (E6 q)=false):=by
 unfold aY sw;have S:=Kr (λn i=>Ns q.cons q n (.l1 i)) q.cons.length (q.cons.map RQ).sum (λi=>if E6 q (q.cons.getD i default) then none else some (i:Int)) (λn i GH hi=>?_) (n:=n) (by unfold EG at u;omega)
 ·rw [show Ns q.cons q n (.l1 0)=_ from S];cases M:(List.range q.cons.length).findSome? (λi=>if E6 q (q.cons.getD i default) then none else some (i:Int)) with
  | some r=>
   refine ⟨r,rfl,?_⟩;obtain ⟨i,hi,hr⟩:=zMn M
   grind
  | none=>
   obtain ⟨m,v⟩: ∃ m,n-q.cons.length=m+1:=⟨n-q.cons.length-1,by unfold EG at u;omega⟩;refine ⟨-1,by rw [v];simp [Ns,aW],?_⟩;rw [zNC] at M
   have:q.cons.all (E6 q)=true:=by
    rw [←VK (p:=E6 q) (d:=(default:AD)),zGV]
    grind
   simp [this]
 ·have a:(i:Int)<(q.cons.length:Int):=by omega
  have hR:AG ((i:Int)+1):=by rw [Ah];omega
  have E:q.cons.getD i default∈q.cons:=by grind
  have BJ:=dx E;have k:=zJr (n:=n) b (R.cells _ E) h A (R.runs _ E) (by grind [oA])
  show aW n (Ns q.cons q n) q.cons q (i:Int)=_
  generalize Ns q.cons q n=self
  simp only [aW,Xy,dj,a,hR,zKO,zFi,zIf,zNB,zJH,zCl,k,zEf]
  grind
def m4 (R:DJ q)(u:EG q<=n):valid n q=some (Dc (CK q) 191):=by
 unfold valid mz CK;have p:=ZL (lo:=0) (up:=99) R.values (show q.values.length<n by unfold EG at u;omega);have j:=ui R.nbrs (show 2*Fk q.nbrs+1<=n by unfold EG at u;omega)
 by_cases w:q.cells<1
 ·grind [Dc]
 have l:1<=q.cells:=by omega
 by_cases v:q.cells>256
 ·grind [Dc]
 have m:q.cells<=256:=by omega
 by_cases c:q.symbols<1
 ·grind [Dc]
 have a:1<=q.symbols:=by omega
 by_cases V:q.symbols>16
 ·grind [Dc]
 have o:q.symbols<=16:=by omega
 simp only [zEl w,zEl v,zEl c,zEl V,zEI l,zEI m,zEI a,zEI o,zGK,zI9,p,j,zEf,bne,vB];cases ((q.values.length:Nat):Int)==q.symbols with
 | false=>rfl
 | true=>
 cases Dy q.values 0 99 with
 | false=>rfl
 | true=>
 cases ((q.nbrs.length:Nat):Int)==q.cells with
 | false=>rfl
 | true=>
 cases JT q.nbrs with
 | false=>rfl
 | true=>
 by_cases d:((q.cons.length:Nat):Int)>4096
 ·grind [Dc]
 have G:q.cons.length<=4096:=by omega
 obtain ⟨r,b,r2⟩:=yO R l m a o G u;simp only [cS,lA,b,zEl d,zEI G,zEf,zGK,zI9,zIF,zKB,zNk]
 grind [Dc]
def zBg (R:DJ q)(a:1<=q.cells)(b:q.cells<=256)(h:1<=q.symbols)(A:q.symbols<=16)(h5:q.cons.length<=4096)(u:EG q<=n):NL q n (.l1 0)=some (Dc (q.cons.all (E6 q)) 191):=by
 have S:=Kr (λn i=>NL q n (.l1 i)) q.cons.length (q.cons.map RQ).sum (λi=>if E6 q (q.cons.getD i default) then none else some 191) (λn i GH hi=>?_) (n:=n) (by unfold EG at u;omega)
 ·refine S.trans ?_;rw [Qd,VK (p:=E6 q)];cases q.cons.all (E6 q) with
  | false=>rfl
  | true=>
   obtain ⟨m,hm⟩: ∃ m,n-q.cons.length=m+1:=⟨n-q.cons.length-1,by unfold EG at u;omega⟩
   grind [NL,Yq,Dc]
 ·have c:(i:Int)<(q.cons.length:Int):=by omega
  have hR:AG ((i:Int)+1):=by rw [Ah];omega
  have E:q.cons.getD i default∈q.cons:=by grind
  have BJ:=dx E;have k:=zCo (n:=n) (R.cells _ E) (R.runs _ E) a b h A (by grind [oA]);rw [zCp q _ a] at k
  show Yq n (NL q n) q (i:Int)=_
  generalize NL q n=self
  simp only [Yq,c,hR,zKO,zFi,zIf,zNB,zJH,zCl,k,zEf]
  grind
def pV (R:DJ q)(u:EG q<=n):Rl n q=some (Dc (CK q) 191):=by
 unfold Rl pU CK;have p:=XU (lo:=0) (up:=99) R.values (show q.values.length<n by unfold EG at u;omega);have j:=qV R.nbrs (show 2*Fk q.nbrs+1<=n by unfold EG at u;omega)
 by_cases w:q.cells<1
 ·grind [Dc]
 have l:1<=q.cells:=by omega
 by_cases v:q.cells>256
 ·grind [Dc]
 have m:q.cells<=256:=by omega
 by_cases c:q.symbols<1
 ·grind [Dc]
 have a:1<=q.symbols:=by omega
 by_cases V:q.symbols>16
 ·grind [Dc]
 have o:q.symbols<=16:=by omega
 simp only [zEl w,zEl v,zEl c,zEl V,zEI l,zEI m,zEI a,zEI o,zGK,zI9,p,j,zEf,bne,vB];cases ((q.values.length:Nat):Int)==q.symbols with
 | false=>rfl
 | true=>
 cases Dy q.values 0 99 with
 | false=>rfl
 | true=>
 cases ((q.nbrs.length:Nat):Int)==q.cells with
 | false=>rfl
 | true=>
 cases JT q.nbrs with
 | false=>rfl
 | true=>
 by_cases c5:((q.cons.length:Nat):Int)>4096
 ·grind [Dc]
 have lV:q.cons.length<=4096:=by omega
 simp_all [zBg,zEl]
def zE1 {k:Int}(h:1<=k/\ k<=9):([0,1,1,2,2,3,1,1,4,4]:Ξ).getD k.toNat 0=IU k:=by
 rcases Pp h with h | h | h | h | h | h | h | h | h <;> subst h <;> rfl
def zFj (p:CK q=true){i:Int}(h0:0<=i)(hi:i<(q.cons.length:Int)):1<=(q.cons.getD i.toNat default).kind/\ (q.cons.getD i.toNat default).kind<=9:=by
 have Bp:i.toNat<q.cons.length:=by omega
 have E:q.cons.getD i.toNat default∈q.cons:=by grind
 exact Po (sY ((DP p).2.2.2.2.2 _ E))
def iF (R:DJ q)(u:EG q<=n)(i:Int):Pk n q i=some (ML q i):=by
 unfold Pk iE ML;rw [m4 R u];cases p:CK q with
 | false=>rfl
 | true=>
  by_cases h0:i<0
  ·grind [Dc]
  ·by_cases hi:i>=(q.cons.length:Int)
   ·grind [Dc]
   ·have l:0<=i/\ i<(q.cons.length:Int):=by omega
    have hk:=zFj p l.1 l.2;have j:(0<=i/\ i<(q.cons.length:Int))/\ (0<=(q.cons.getD i.toNat default).kind/\ (q.cons.getD i.toNat default).kind<((10:Nat):Int)):=⟨l,by omega,by omega⟩;simp only [Dc,zJH,zEf,bne_self_eq_false,zGK,zEl h0,zEl hi,zEd j,zEd l,zE1 hk,Bool.true_eq_false,zNA]
end
abbrev zMf:=@List.filter_append
abbrev zNu:=@Go.Lib.hid
theorem yQ (x k H:Nat)(w:World)(Hf:((x:Int)==0)=false) 
 (key:IntKind.u64.wrap (bits BinOp.and IntKind.u64 (x:Int) (IntKind.u64.wrap (-(x:Int)))*285870213051353865)/288230376151711744=(H:Int))
 (hi:H<64) (hk:k<64) (FM:w.cell? ⟨1,H,none⟩=some (.int .u8 k)):
 Calls Tryz.prog 151 #[.int .u64 x] w λe w'=>e= .returned (.int .i64 k)/\ w=w':=by
 go_enter Tryz.func151,Tryz.ntmps151
 go_wp2_with (simp only [key])
 go_ret
 exact ⟨rfl,rfl⟩
def yR (x:Nat)(d:x<18446744073709551616)(C:x≠0)(w:World)(m:Og w):
 Calls Tryz.prog 151 #[.int .u64 x] w λe w'=>e= .returned (.int .i64 (Lib.ctz 64 x))/\ w=w':=by
 obtain ⟨jd,hk⟩:=Lib.lowest_bit 64 x C d;obtain ⟨hi,htab⟩:=Lib.deBruijn64_at _ hk;have FM:=m _ hi
 grind [yQ,tz64_key]
def yP (x:Nat)(d:x<18446744073709551616)(C:x≠0)(w:World)(m:Og w):
 Calls Tryz.prog 134 #[.int .u64 x] w λe w'=>e= .returned (.int .i64 (Lib.ctz 64 x))/\ w=w':=by
 have a:=yR x d C w m
 go_enter Tryz.func134,Tryz.ntmps134
 go_wp2_with (go_at_call 151;refine a.mono ?_;rintro e w' ⟨rfl,rfl⟩)
 go_ret
 exact ⟨rfl,rfl⟩
def Fl (x:Nat):Θ:=(List.range 64).filter λs=>x.testBit s
theorem oB:Fl 0= []:=by simp [Fl]
def zE5 (k m s:Nat):(2 ^ k*(2*m+1)).testBit s=(decide (k<=s)&&(2*m+1).testBit (s-k)):=by
 grind
def zEH (m s:Nat):(2*m+1).testBit s=(decide (s=0)||(2*m).testBit s):=by
 cases s with
 | zero=>simp [Nat.testBit_zero]
 | succ s=>simp [Nat.testBit_succ];congr 1;omega
def zDD: ∀ k,k<64 -> List.range 64=List.range k++k::List.range' (k+1) (63-k):=by decide+kernel
def oD (x:Nat)(d:x<18446744073709551616)(C:x≠0):Fl x=Lib.ctz 64 x::Fl (x&&& (x-1)):=by
 have l:Lib.ctz 64 x=Lib.ctzFrom 64 x:=by simp [Lib.ctz,C]
 obtain ⟨m,v,hk⟩:=Lib.ctzFrom_spec 64 x (by omega) (by simpa using d);rw [l]
 generalize Lib.ctzFrom 64 x=k at*
 have c: ∀ s,x.testBit s=(decide (k<=s)&&(decide (s-k=0)||(2*m).testBit (s-k))):=λs=>by rw [v,zE5,zEH]
 have hy: ∀ s,(x&&& (x-1)).testBit s=(x.testBit s&&decide (s≠k)):=by
  intro s;have hp:0<2 ^ k:=Nat.two_pow_pos k
  have F:x-1=2 ^ k*(2*m)+(2 ^ k-1):=by
   grind
  have KJ:(x-1).testBit s=if s<k then (2 ^ k-1).testBit s else (2*m).testBit (s-k):=by
   rw [F,Nat.testBit_two_pow_mul_add _ (by omega)]
  grind
 unfold Fl;have i:List.range 64=List.range k++k::List.range' (k+1) (63-k):=zDD k hk;rw [i];simp only [zMf,zMq]
 have a: ∀ y:Nat,(∀ s,s<k -> y.testBit s=false) -> (List.range k).filter (λs=>y.testBit s)= []:=λy h=>by
  simp_all
 rw [a x (λs b=>by rw [c];simp;omega),a (x&&& (x-1)) (λs b=>by rw [hy,c];simp;omega)];have e:x.testBit k=true:=by rw [c];simp
 have f:(x&&& (x-1)).testBit k=false:=by rw [hy];simp
 simp only [e,f,zIs,zJH,zI1,zNA]
 congr 1
 apply List.filter_congr
 grind
def zMC (x:Nat)(hx:x<9223372036854775808)(Hf:x≠0):bits .and .i64 (x:Int) ((x:Int)-1)=((x&&& (x-1):Nat):Int):=by
 have e:((x:Int)-1)=((x-1:Nat):Int):=by omega
 have AU:x&&& (x-1)<=x:=Nat.and_le_left;rw [e]
 have a:(BitVec.ofInt 64 (x:Int)).toNat=x:=by
  grind
 have b:(BitVec.ofInt 64 ((x-1:Nat):Int)).toNat=x-1:=by
  grind
 show IntKind.i64.wrap ((BitVec.ofInt 64 (x:Int)&&& BitVec.ofInt 64 ((x-1:Nat):Int)).toNat:Int)=_
 rw [BitVec.toNat_and,a,b];have v:((x&&& (x-1):Nat):Int) % 2 ^ 64=((x&&& (x-1):Nat):Int):=by omega
 simp only [IntKind.wrap,IntKind.signed,IntKind.bits,v]
 grind
def pD (w:World)(b o:Nat):Nat:=match w.cell? ⟨b,o,none⟩ with
 | some (.int _ x)=>x.toNat
 | _=>0
def X8 (s:Nat):List DV:=[.int .i64 s]
def hE1 (R:Ψ)(W:World)(x:Nat):YV (X8 x) R W #[.int .i64 x]:=⟨rfl,λj e=>by
 have:j=0:=Nat.lt_one_iff.1 e;subst this;rfl⟩
set_option maxRecDepth 100000 in
set_option maxHeartbeats 4000000 in
def yh (set b o:Nat)(w:World)(H:set<9223372036854775808)(U:Og w)(q:w.cell? ⟨b,o,none⟩=some (.int .i64 set))(V:w.frozen? ⟨b,o,none⟩=false)(s:b≠1):
 Ol Tryz.prog 133 #[.pointer (some ⟨b,o,none⟩)] YV ((Fl set).map X8) T0 (λk=>k=b) (λk=>k=1) w:=by
 intro l J Jx W hJ hJx M t h0 _;have X:=zNu t;clear t;have u:W.cell? ⟨b,o,none⟩=some (.int .i64 set):=M.cell (λh=>h (.inl rfl)) q
 have f:W.frozen? ⟨b,o,none⟩=false:=by
  rw [World.frozen?_of_block (M.block b (zIm w _ q) (λh=>h (.inl rfl)))];exact V
 have v:Og W:=λj a=>M.cell (λh=>h (.inr rfl)) (U j a)
 have c: ∀ g,W.heap.size<=g.heap.size -> ED (λk=>k=b) (λk=>k=1) g:=λg h=>⟨λk e Y=>s (e.symm.trans Y),λk hk=>zGb (hk.elim (λe=>e▸zIm W _ u) (λe=>e▸zIm W _ (v 0 (by decide)))) h⟩
 obtain ⟨G,z⟩: ∃ G:Ψ,(λk=>k=b)=G:=⟨_,rfl⟩;obtain ⟨R,A⟩: ∃ R:Ψ,(λk=>k=1)=R:=⟨_,rfl⟩;rw [z,A] at h0 c;have K:G b:=by rw [←z]
 have L:R 1:=by rw [←A]
 refine callsIn_of_wp Tryz.func133 rfl trivial ?_ rfl;simp only [Tryz.ntmps133,List.size_toArray,zIN,zM1,Nat.reduceAdd,Nat.reduceSub,Array.replicate_succ,Array.replicate_zero,List.push_toArray,List.append_toArray,zIs,List.cons_append]
 gi_wp2
 gi_loopw [3,4,5,6,7,8,9,10,11,12,13,14] (λ_ _ _ _ _ _ _ _ _ _ _ _ wr=>∃ (i x:Nat),W.heap.size<=wr.heap.size/\ x<9223372036854775808/\ i<=(Fl set).length/\ Hid ((Fl set).drop i=Fl x)/\ Hid (J i G R wr)/\ wr.cell? ⟨b,o,none⟩=some (.int .i64 x)/\ wr.frozen? ⟨b,o,none⟩=false/\ Hid (Og wr))
  (λ_ _ _ _ _ _ _ _ _ _ _ _ wr=>pD wr b o)
 case atStart=>exact ⟨0,set,zGd _,H,zIR _,zNu rfl,zNu h0,u,f,zNu v⟩
 case round=>
  obtain ⟨i,x,d,Z,CT,r,a,B,hf,D⟩:=hrel
  by_cases C:x=0
  ·subst C
   have m:i=(Fl set).length:=by
    have:=congrArg List.length r.out
    grind [oB]
   gi_wp2
   go_end0
   exact ⟨G,R,c _ d,.inl ⟨m▸a.out,_,rfl⟩⟩
  ·have N0:((x:Int)==0)=false:=by simp [C]
   have E:(Fl set).drop i=Lib.ctz 64 x::Fl (x&&& (x-1)):=by rw [r.out,oD x (by omega) C]
   have m:i<(Fl set).length:=by
    grind
   have hie:(Fl set)[i]=Lib.ctz 64 x:=by
    grind [List.drop_eq_getElem_cons]
   obtain ⟨fn,tmps,Qt,body,hy,hR⟩:=X.out i (X8 (Lib.ctz 64 x)) #[.int .i64 (Lib.ctz 64 x)] G R wr (by grind) (hE1 R wr _) a.out (c _ d);have N:=zNu hR;clear hR;have O:=zNu (yP x (by omega) C wr D.out);have P:=zNu E;clear E r
   gi_wp2_with (first | refine ⟨trivial,rfl,?_⟩ | (gi_at_call 134;refine (zNG.2 O.out).mono ?_;rintro e w' ⟨rfl,rfl⟩))
   refine ⟨rfl,N.out.mono ?_⟩;rintro e y ⟨I,(⟨rfl,Q⟩ | ⟨rfl,P7⟩)⟩
   ·have bO:y.cell? ⟨b,o,none⟩=some (.int .i64 x):=I.cell (λh=>h (.inl K)) B
    have n:y.frozen? ⟨b,o,none⟩=false:=by
     rw [World.frozen?_of_block (I.block b (zIm wr _ B) (λh=>h (.inl K)))];exact hf
    have F:Og y:=λj a=>I.cell (λh=>h (.inr L)) (D.out j a)
    have p:AQ G y (y.setCell ⟨b,o,none⟩ (.int .i64 ((x&&& (x-1):Nat):Int))):=(AQ.refl G y).setCell (λ_=>K) _;have S:=zGU d (zGU I.size p.size);have WN:=zNu ((hJ _).same (c _ (zGU d I.size)) Q p)
    have T:Hid (Og (y.setCell ⟨b,o,none⟩ (.int .i64 ((x&&& (x-1):Nat):Int)))):=zNu λj a=>
     ((AQ.refl (λk=>k=b) y).setCell (λ_=>rfl) _).cell (λe=>s e.symm) (F j a)
    have AU:x&&& (x-1)<x:=Nat.lt_of_le_of_lt Nat.and_le_right (by omega);clear p F
    gi_wp2
    rw [zMC x Z C];have Md:(y.setCell ⟨b,o,none⟩ (.int .i64 ((x&&& (x-1):Nat):Int))).cell? ⟨b,o,none⟩=some (.int .i64 ((x&&& (x-1):Nat):Int)):=World.cell?_setCell_same' y _ _ (by rw [bO];rfl);refine ⟨⟨_,_,_,_,_,_,_,_,_,_,_,_,⟨i+1,x&&& (x-1),S,by omega,m,zNu ?_,WN,Md,?_,T⟩,rfl⟩,?_⟩
    ·rw [←List.drop_drop,P.out];rfl
    ·rw [World.frozen?_setCell];exact n
    grind [pD]
   ·gi_wp2
    refine bodyPost_ret (results_none rfl _ _ _) rfl ?_;exact ⟨G,R,c _ (zGU d I.size),.inr ⟨⟨_,rfl⟩,P7⟩⟩
def Bj (x:Int):Ξ:=(Fl x.toNat).map λ(s:Nat)=>(s:Int)
def zKM (x:Int):(Bj x).map Bw=(Fl x.toNat).map X8:=by
 unfold Bj;rw [List.map_map];rfl
def yg {x:Int}(hx:(0:Int)<=x/\ x<9223372036854775808)(w:World)(b o:Nat)(u:Value)(j:GG.gi w)(d:GG.ng<=b)(c: ∃ cs t,w.heap[b]? =some (.cells cs t (0,0)))(l:w.cell? ⟨b,o,none⟩=some u)(i:u= .int .i64 x):
 Ol Tryz.prog 133 #[.pointer (some ⟨b,o,none⟩)] YV ((Bj x).map Bw) T0 (λk=>k=b) (λk=>k=1) w:=by
 rw [zKM];obtain ⟨cs,t,c⟩:=c;have d:2<=b:=d;refine yh x.toNat b o w (by omega) j.1 ?_ ?_ (by omega)
 ·rw [l,i];congr 2;omega
 ·unfold World.frozen?;simp [c]
def ES.iterOf {P:Program}{Γ:Av}{f H:Nat}{ds:List DV}{c:Nat -> DV}{d:DV}{encs:List (List DV)}{Rd:Ψ}(h0:ES P Γ f ds [] (.fn H 1 c) [some (.cells [d])] true)(x:c 0= .ref 0 0)(y:ds.all GD=true) 
 (z: ∀ args W,(callFunc H args).run P W= .ok (.enter H args) W)
 (U: ∀ (w:World) (b o:Nat) (u:Value),Γ.gi w -> Γ.ng<=b -> (∃ cs t,w.heap[b]? =some (.cells cs t (0,0))) -> w.cell? ⟨b,o,none⟩=some u -> AL (λ_=>False) w d [] u -> Ol P H #[.pointer (some ⟨b,o,none⟩)] YV encs T0 (λk=>k=b) Rd w)
 (A:SC d=true) (V: ∀ b,Rd b -> b<Γ.ng) (h:DH):ES P Γ f ds h (.it h.length) (h++[some (.iter encs)]) true:=by
 refine ⟨h0.1,λN ρ w args HR C=>?_⟩;refine (h0.2 (MS N h ρ) [] w args (Se (λb a=>HR.lt2 a) HR.gi) ⟨C.1,λi hi=>?_⟩).mono ?_
 ·have B:=Nk (zGV.1 y (ds.getD i .any) (by simp [hi]));exact AL.out _ (D4 (λb a=>Q2.1 a) []) (B _ _ _ _ (C.2 i hi))
 ·rintro e w' ⟨v,rfl,⟨⟨ρ',g,D,E,g4⟩,q⟩⟩;have F:=q rfl;obtain ⟨p,m,l⟩:=g.obj 0 _ rfl;have l:AX w' p 1 _:=l;have M: ∀ b,p.foot b -> w.heap.size<=b:=λb a=>(E.grow b ⟨0,_,p,rfl,m,a⟩).resolve_left λ⟨k,o',p',G,_⟩=>by simp at G
  obtain ⟨X,I,hl,J⟩:=D;obtain ⟨u,hu,r⟩:=J 0 (by omega);rw [x] at r;obtain ⟨p',S,V6⟩:=r;have K:p'=p:=zGT (S.symm.trans m);subst K
  have n:X= #[.pointer (some ⟨p'.blk,p'.off,none⟩)]:=by
   grind
  subst n;obtain ⟨L,O,Q⟩:=AX.cell l (j:=0) (by omega);have s:p'.foot=λb=>b=p'.blk:=l.1
  have R:Γ.ng<=w.heap.size:=Γ.lo _ HR.gi;have T:=g.cel 0 _ p' p'.blk rfl m (by rw [s]);refine ⟨v,rfl,⟨⟨ρ++[{ p' with val:=v }],HR.snoc F (λb a=>⟨M b a,(g.cel 0 _ p' b rfl m a).2.2⟩) ?_,⟨{ p' with val:=v },by rw [←HR.len];simp,rfl⟩,A3.snoc HR F M,λ_ _ h=>Em h⟩,q⟩⟩;obtain ⟨_,cs,t,Y,_⟩:=l;refine ⟨H,_,Rd,⟨I,z⟩,?_,λb a=>?_,λb a=>?_⟩
  ·show Ol P H _ YV encs T0 p'.foot Rd w'
   rw [s];refine U w' _ _ L g.gi T.1 ⟨cs,t,Y⟩ (by simpa using O) ?_;exact AL.out _ (D4 (λb a=>a.elim) []) (fw A Q)
  ·have Z:=V b a;refine ⟨λhm=>?_,zGb (zGb Z R) F.size⟩;rcases hm with hm | hm
   ·have:=(HR.nlt b hm).2;omega
   ·rcases MO.snoc HR hm with hm | hm
    ·have:=HR.low hm;omega
    ·have:=M b hm;omega
  grind
section
set_option maxRecDepth 100000
set_option maxHeartbeats 40000000
inductive cO where
 | l1 (x7:Int)
def cN (n:Nat)(self:cO -> Option Bool)(d:Ξ)(U:Int):Option Bool:= bif (decide (U<(d.length:Int))) then if 0<=U/\ U<(d.length:Int) then bif ((d.getD U.toNat 0)==0) then some true else if AG (U+1) then self (.l1 (U+1)) else none else none else some false
def vY (n:Nat)(self:cO -> Option Bool)(sets:Ξ):Option Bool:= self (.l1 0)
def Ta (d:Ξ):Nat -> cO -> Option Bool
 | 0,_=>none
 | n+1,.l1 U=>cN n (Ta d n) d U
def XA (n:Nat)(d:Ξ):Option Bool:=vY n (Ta d n) d
def zKh (n B:Nat)(N:Yd 0)(d:Ξ)(r:Bool):cO -> Prop
 | .l1 U=>∀ f:Nat,n<=f -> TW B N (FQ Tryz.f80 0 (.bool r) []) (Ag f (An (AR Tryz.f80) 0 [])) ⟨AF 14 [(5,.ints d),(6,.i (d.length:Int)),(7,.i U)],[]⟩
def zKi (B:Nat)(N:Yd 0)(d:Ξ):Al (Ta d) (zKh · B N d):=ia (λ_=>rfl) λn C A r h=>by
 cases A
 case l1 x7=>
  intro f a;refine rd a λf a=>?_
  revert r;apply gO;exact bi 8 (gi (bi 12 (lE AC [2] []) (gw 13 (lG AC [] (C _ _ · f a))))) (lE AC [2] [])
variable {n:Nat}
def vX {d:Ξ}{r:Bool}(h:XA n d=some r):EQ 80 [.ints d] [] (.bool r) [] true:=by
 refine ot Tryz.func80 λB N=>?_
 revert r;apply gO;exact lN AC [] ((zKi B N d n) _ _ · n Nat.le.refl)
def iP (n:Nat)(pos:Ξ):Option Bool:= (XA n pos).bind λj=> some j
def Gz (n:Nat)(pos:Ξ):Option Bool:=iP n pos
variable {pos:Ξ}
def Pw {r:Bool}(h:Gz n pos=some r):EQ 53 [.ints pos] [] (.bool r) [] true:=by
 unfold Gz iP at h;refine ot Tryz.func53 λB N=>?_
 revert r;apply gO;exact cf vX [] λ_=>lE AC [2] []
def gX (n:Nat)(pos:Ξ):Option (Ξ):= (XA n pos).bind λj=> bif j then if ((pos.length:Int):Int)=(pos.length:Int)/\ 0<=(pos.length:Int)/\ ((pos.length:Int):Int)<=1000000000000 then if pos.length=(List.replicate pos.length (0:Int)).length then some (List.replicate pos.length (0:Int)) else none else none else some pos
def SK (n:Nat)(pos:Ξ):Option (Ξ):=gX n pos
def zEP {r:Ξ}(h:SK n pos=some r):EQ 48 [.ints pos] [] (.ints r) [] true:=by
 unfold SK gX at h;refine ot Tryz.func48 λB N=>?_
 revert r;apply gO;exact cf vX [] λ_=>bi 4 (gi (gn λo=>lF λp=>ez AC [2] [0] p [0] (H0.g o))) (lE AC [2] [])
inductive ZY where
 | l1 (x20:Int)
def ZW (n:Nat)(self:ZY -> Option Int)(q:AA)(pos:Ξ)(x20:Int):Option Int:= bif (decide (x20<(pos.length:Int))) then if 0<=x20/\ x20<(pos.length:Int) then bif (decide ((pos.getD x20.toNat 0)<0)) then some 250 else if 0<=q.symbols/\ q.symbols<=(IntKind.i64.bits:Int) then bif (decide ((pos.getD x20.toNat 0)>=(IntKind.i64.wrap (1*2 ^ (q.symbols).toNat)))) then some 250 else if AG (x20+1) then self (.l1 (x20+1)) else none else none else none else some 0
def qt (n:Nat)(self:ZY -> Option Int)(q:AA)(pos:Ξ):Option Int:= (valid n q).bind λj=> bif (j != 0) then some j else bif ((pos.length:Int) != q.cells) then some 250 else self (.l1 0)
def PQ (q:AA)(pos:Ξ):Nat -> ZY -> Option Int
 | 0,_=>none
 | n+1,.l1 x20=>ZW n (PQ q pos n) q pos x20
def FX (n:Nat)(q:AA)(pos:Ξ):Option Int:=qt n (PQ q pos n) q pos
def zDh (n B:Nat)(N:Yd 0)(q:AA)(pos:Ξ)(r:Int):ZY -> Prop
 | .l1 x20=>∀ f:Nat,n<=f -> TW B N (FQ Tryz.f21 0 (.i r) []) (Ag f (An (AR Tryz.f21) 0 [])) ⟨AF 34 [(2,.ref 0 0),(18,.ints pos),(19,.i (pos.length:Int)),(20,.i x20)],[oC (AH q)]⟩
def zDi (B:Nat)(N:Yd 0)(q:AA)(pos:Ξ):Al (PQ q pos) (zDh · B N q pos):=ia (λ_=>rfl) λn C A r h=>by
 cases A
 case l1 x20=>
  intro f a;refine rd a λf a=>?_
  revert r;apply gO;exact bi 21 (gi (bi 25 (lE AC [4] []) (gi (bi 31 (lE AC [4] []) (gw 33 (lG AC [0] (C _ _ · f a))))))) (lE AC [4] [])
variable {r:Int}{q:AA}
def L8 (h:FX n q pos=some r):EQ 21 [.agg 5 (L1 (AH q)),.ints pos] [] (.i r) [] true:=by
 refine ot Tryz.func21 λB N=>?_
 revert r;apply gO;exact cf my [oC (AH q)] λ_=>bi 11 (lE AC [4] []) (bi 17 (lE AC [4] []) (lN AC [0] ((zDi B N q pos n) _ _ · n Nat.le.refl)))
def vm (n:Nat)(N:Ξ):Option (Ξ):= if 0<N.length/\ ((True)/\ (0=0/\ 0=([]:Ξ).length)/\ ([]:Ξ).length+N.length<=Ay) then if ([]:Ξ).length+N.length=(([]:Ξ)++N).length then some (([]:Ξ)++N) else none else none
def cg (n:Nat)(N:Ξ):Option (Ξ):=vm n N
def zLH {a:Ξ}{r:Ξ}(h:cg n a=some r):EQ 115 [.ints a] [] (.msl 0 1 0 r.length) [oI r] true:=by
 refine ot Tryz.func115 λB N=>?_
 revert r;apply gO;exact gc (gi (gi (gn λs=>lF λp=>el AC [2] [1] p [] H0 [.msl 0 1 0 (([]:Ξ).length+a.length)] (AN.mslN s))))
def lL (n:Nat)(N:Ω):Option (Ω):= if 0<N.length/\ ((True)/\ (0=0/\ 0=([]:Ω).length)/\ ([]:Ω).length+N.length<=Ay) then if ([]:Ω).length+N.length=(([]:Ω)++N).length then some (([]:Ω)++N) else none else none
def Qi (n:Nat)(N:Ω):Option (Ω):=lL n N
def vn {a:Ω}{r:Ω}(h:Qi n a=some r):EQ 137 [.bools a] [] (.msl 0 1 0 r.length) [some (.bools r)] true:=by
 refine ot Tryz.func137 λB N=>?_
 revert r;apply gO;exact gc (gi (gi (gn λs=>lF λp=>el AC [2] [1] p [] H0 [.msl 0 1 0 (([]:Ω).length+a.length)] (AN.mslN s))))
def lQ (n:Nat)(q:AA)(i:Int)(pos:Ξ):Option Int:= (Pk n q i).bind λj=> bif (j.2 != 0) then some j.2 else (FX n q pos).bind λG=> some G
def Tg (n:Nat)(q:AA)(i:Int)(pos:Ξ):Option Int:=lQ n q i pos
def zLN {i:Int}(h:Tg n q i pos=some r):EQ 98 [.agg 5 (L1 (AH q)),.i i,.ints pos] [] (.i r) [] true:=by
 unfold Tg lQ at h;refine ot Tryz.func98 λB N=>?_
 revert r;apply gO;exact cf iD [oC (AH q)] λ_=>bi 16 (lE AC [6] []) (cf L8 [oC (AH q)] λ_=>lE AC [6] [])
inductive bZ where
 | l1 (A8:Int)
def bY (n:Nat)(self:bZ -> Option Int)(E:List Ξ)(d:List Ω)(A:Int):Option Int:= bif (decide (A<(d.length:Int))) then if 0<=A/\ A<(d.length:Int) then bif ((((d.getD A.toNat []).length:Nat):Int) != (E.length:Int)) then some 1 else if AG (A+1) then self (.l1 (A+1)) else none else none else some 0
def uW (n:Nat)(self:bZ -> Option Int)(E:List Ξ)(sets:List Ω):Option Int:= (Wg n E).bind λj=> bif (j != 0) then some j else self (.l1 0)
def S9 (E:List Ξ)(d:List Ω):Nat -> bZ -> Option Int
 | 0,_=>none
 | n+1,.l1 A=>bY n (S9 E d n) E d A
def OL (n:Nat)(E:List Ξ)(d:List Ω):Option Int:=uW n (S9 E d n) E d
def zJO (n B:Nat)(N:Yd 0)(E:List Ξ)(d:List Ω)(r:Int):bZ -> Prop
 | .l1 A=>∀ f:Nat,n<=f -> TW B N (FQ Tryz.f139 0 (.i r) []) (Ag f (An (AR Tryz.f139) 0 [])) ⟨AF 25 [(0,.sl 1 E.length (AK AO E)),(13,.sl 1 d.length (AK cx d)),(14,.i (d.length:Int)),(15,.i A)],[]⟩
def zJP (B:Nat)(N:Yd 0)(E:List Ξ)(d:List Ω):Al (S9 E d) (zJO · B N E d):=ia (λ_=>rfl) λn C A r h=>by
 cases A
 case l1 A8=>
  intro f a;refine rd a λf a=>?_
  revert r;apply gO;exact bi 16 (gi (bi 23 (lE AC [4] []) (gw 24 (lG AC [] (C _ _ · f a))))) (lE AC [4] [])
def uU {E:List Ξ}{d:List Ω}(h:OL n E d=some r):EQ 139 [.sl 1 E.length (AK AO E),.sl 1 d.length (AK cx d)] [] (.i r) [] true:=by
 refine ot Tryz.func139 λB N=>?_
 revert r;apply gO;exact cf ug [] λ_=>bi 11 (lE AC [4] []) (lN AC [] ((zJP B N E d n) _ _ · n Nat.le.refl))
end
section
set_option maxRecDepth 100000
set_option maxHeartbeats 40000000
def zBM:Au (A9 Tryz.f120 0) [] (List.range 18) [18]:=by unfold Au;kernel_rfl
def zAM:BX:=λi=>match i with
 | 0=>.ord [] (List.range 18) [18]
 | _=>.no
def iA (n:Nat)(cell ss:Int)(c:AD)(q:AA)(pos:Ξ)(ln:Nat)(lost:Ξ):Option (Ξ):= if (0<=cell/\ cell<(ln:Int))/\ 0+cell.toNat<lost.length/\ (0<=cell/\ cell<(pos.length:Int)) then some (lost.set (0+cell.toNat) (bits .or .i64 (lost.getD (0+cell.toNat) 0) (bits .and .i64 (pos.getD cell.toNat 0) ss))) else none
def D7 (n:Nat)(cell ss:Int)(c:AD)(q:AA)(pos:Ξ)(ln:Nat)(lost:Ξ):Option (Ξ):=iA n cell ss c q pos ln lost
variable {r lost pos:Ξ}{ln n:Nat}{q:AA}{c:AD}{cell:Int}
def Gy {ss:Int}(h:D7 n cell ss c q pos ln lost=some r):EQ 120 [.ref 0 0,.i cell,.i ss] [oW c q pos 1 ln,oI lost] (.tup 0 (λj=>([]:List DV).getD j .any)) [oW c q pos 1 ln,oI r] false:=by
 refine ot Tryz.func120 λB N=>?_
 revert r;apply gO;exact jg zBM (gc (gn λa=>jg a (gc (gn λo=>jg o (gi (jg a (jg o (lE zAM [] [0,1]))))))))
def zBB:Au (A9 Tryz.f121 0) [] (List.range 22) [22]:=by unfold Au;kernel_rfl
def zAL:BX:=λi=>match i with
 | 0=>.ord [] (List.range 22) [22]
 | _=>.no
def gN (n:Nat)(cell:Int)(c:AD)(q:AA)(pos:Ξ)(ln:Nat)(lost:Ξ):Option (Ξ):= if (0<=cell/\ cell<(ln:Int))/\ 0+cell.toNat<lost.length/\ (0<=cell/\ cell<(pos.length:Int)) then some (lost.set (0+cell.toNat) (bits .or .i64 (lost.getD (0+cell.toNat) 0) (bits .andNot .i64 (pos.getD cell.toNat 0) c.set))) else none
def Hc (n:Nat)(cell:Int)(c:AD)(q:AA)(pos:Ξ)(ln:Nat)(lost:Ξ):Option (Ξ):=gN n cell c q pos ln lost
def Ni (h:Hc n cell c q pos ln lost=some r):EQ 121 [.ref 0 0,.i cell] [oW c q pos 1 ln,oI lost] (.tup 0 (λj=>([]:List DV).getD j .any)) [oW c q pos 1 ln,oI r] false:=by
 refine ot Tryz.func121 λB N=>?_
 revert r;apply gO;exact jg zBB (gc (gn λa=>jg a (gc (gn λo=>jg o (gi (jg a (jg o (lE zAL [] [0,1]))))))))
inductive W5 where
 | l1 (x3 x4 BM:Int)
 | l2 (x3 x4 CP:Int) (o1:Ξ)
def cK (n:Nat)(self:W5 -> Option (Bool×Ξ))(c:AD)(q:AA)(pos:Ξ)(ln:Nat)(lost:Ξ)(H K l:Int):Option (Bool×Ξ):= bif (decide (l<(c.cells.length:Int))) then if (0<=l/\ l<(c.cells.length:Int))/\ (0<=(c.cells.getD l.toNat 0)/\ (c.cells.getD l.toNat 0)<(pos.length:Int))/\ AG ((pos.getD ((c.cells.getD l.toNat 0).toNat) 0)-1) then bif ((bits .and .i64 (pos.getD ((c.cells.getD l.toNat 0).toNat) 0) ((pos.getD ((c.cells.getD l.toNat 0).toNat) 0)-1))==0) then if AG (l+1) then self (.l1 (bits .or .i64 H (pos.getD ((c.cells.getD l.toNat 0).toNat) 0)) (bits .or .i64 K (bits .and .i64 H (pos.getD ((c.cells.getD l.toNat 0).toNat) 0))) (l+1)) else none else if AG (l+1) then self (.l1 H K (l+1)) else none else none else self (.l2 H K 0 lost)
def cJ (n:Nat)(self:W5 -> Option (Bool×Ξ))(c:AD)(q:AA)(pos:Ξ)(ln:Nat)(lost:Ξ)(H K P:Int)(o1:Ξ):Option (Bool×Ξ):= bif (decide (P<(c.cells.length:Int))) then if (0<=P/\ P<(c.cells.length:Int))/\ (0<=(c.cells.getD P.toNat 0)/\ (c.cells.getD P.toNat 0)<(pos.length:Int))/\ AG ((pos.getD ((c.cells.getD P.toNat 0).toNat) 0)-1) then bif ((bits .and .i64 (pos.getD ((c.cells.getD P.toNat 0).toNat) 0) ((pos.getD ((c.cells.getD P.toNat 0).toNat) 0)-1))==0) then (D7 n (c.cells.getD P.toNat 0) (bits .or .i64 (bits .andNot .i64 H (pos.getD ((c.cells.getD P.toNat 0).toNat) 0)) K) c q pos ln o1).bind λj=> if AG (P+1) then self (.l2 H K (P+1) j) else none else (D7 n (c.cells.getD P.toNat 0) H c q pos ln o1).bind λj=> if AG (P+1) then self (.l2 H K (P+1) j) else none else none else some (true,o1)
def vW (n:Nat)(self:W5 -> Option (Bool×Ξ))(c:AD)(q:AA)(pos:Ξ)(ln:Nat)(lost:Ξ):Option (Bool×Ξ):= self (.l1 0 0 0)
def Mj (c:AD)(q:AA)(pos:Ξ)(ln:Nat)(lost:Ξ):Nat -> W5 -> Option (Bool×Ξ)
 | 0,_=>none
 | n+1,.l1 H K l=>cK n (Mj c q pos ln lost n) c q pos ln lost H K l
 | n+1,.l2 H K P o1=>cJ n (Mj c q pos ln lost n) c q pos ln lost H K P o1
def TZ (n:Nat)(c:AD)(q:AA)(pos:Ξ)(ln:Nat)(lost:Ξ):Option (Bool×Ξ):=vW n (Mj c q pos ln lost n) c q pos ln lost
def zKZ (n B:Nat)(N:Yd 2)(c:AD)(q:AA)(pos:Ξ)(ln:Nat)(lost:Ξ)(r:Bool×Ξ):W5 -> Prop
 | .l1 H K l=>∀ f:Nat,n<=f -> TW B N (FQ Tryz.f106 2 (.bool r.1) [oW c q pos 1 ln,oI r.2]) (Ag f (An (AR Tryz.f106) 0 [])) ⟨AF 77 [(0,.ref 0 0),(3,.i H),(4,.i K),(15,.ints c.cells),(16,.i (c.cells.length:Int)),(17,.i l)],[oW c q pos 1 ln,oI lost]⟩
 | .l2 H K P o1=>∀ f:Nat,n<=f -> TW B N (FQ Tryz.f106 2 (.bool r.1) [oW c q pos 1 ln,oI r.2]) (Ag f (An (AR Tryz.f106) 2 [])) ⟨AF 77 [(0,.ref 0 0),(3,.i H),(4,.i K),(46,.ints c.cells),(47,.i (c.cells.length:Int)),(48,.i P)],[oW c q pos 1 ln,oI o1]⟩
def zKa (B:Nat)(N:Yd 2)(c:AD)(q:AA)(pos:Ξ)(ln:Nat)(lost:Ξ):Al (Mj c q pos ln lost) (zKZ · B N c q pos ln lost):=ia (λ_=>rfl) λn C A r h=>by
 cases A
 case l1 x3 x4 BM=>
  intro f a;refine rd a λf a=>?_
  revert r;apply gO;exact bi 18 (gc (gi (gc (gi (gw 30 (bi 32 (gw 41 (lG AC [0,1] (C _ _ · f a))) (gw 41 (lG AC [0,1] (C _ _ · f a))))))))) (lN AC [0,1] (C _ _ · n Nat.le.refl))
 case l2 x3 x4 CP o1=>
  intro f a;refine rd a λf a=>?_
  revert r;apply gO;exact bi 49 (gc (gi (gc (gi (gw 61 (bi 63 (ce Gy [0,1] [oW c q pos 1 ln,oI o1] λ_=>gw 76 (lG AC [0,1] (C _ _ · f a))) (ce Gy [0,1] [oW c q pos 1 ln,oI o1] λ_=>gw 76 (lG AC [0,1] (C _ _ · f a))))))))) (lE AC [2] [0,1])
def zKY {r:Bool×Ξ}(h:TZ n c q pos ln lost=some r):EQ 106 [.ref 0 0] [oW c q pos 1 ln,oI lost] (.bool r.1) [oW c q pos 1 ln,oI r.2] false:=by
 refine ot Tryz.func106 λB N=>?_
 revert r;apply gO;exact lN AC [0,1] ((zKa B N c q pos ln lost n) _ _ · n Nat.le.refl)
def zBZ:Au (A9 Tryz.f107 5) [] (List.range 15) []:=by unfold Au;kernel_rfl
def zBY:Au (A9 Tryz.f107 8) [] (List.range 15) []:=by unfold Au;kernel_rfl
def zBa:Au (A9 Tryz.f107 16) [] (List.range 23) []:=by unfold Au;kernel_rfl
def fC:Au (A9 Tryz.f107 18) [] (List.range 23) []:=by unfold Au;kernel_rfl
def GS:BX:=λi=>match i with
 | 5=>.ord [] (List.range 15) []
 | 8=>.ord [] (List.range 15) []
 | 16=>.ord [] (List.range 23) []
 | 18=>.ord [] (List.range 23) []
 | _=>.no
inductive XF where
 | l1 (x3 x4 A8:Int)
 | l2 (x3 x4 CV:Int) (o1:Ξ)
def XE (n:Nat)(self:XF -> Option (Bool×Ξ))(c:AD)(q:AA)(pos:Ξ)(ln:Nat)(lost:Ξ)(H K A:Int):Option (Bool×Ξ):= bif (decide (A<(c.cells.length:Int))) then if (0<=A/\ A<(c.cells.length:Int))/\ (0<=(c.cells.getD A.toNat 0)/\ (c.cells.getD A.toNat 0)<(pos.length:Int)) then bif ((bits .andNot .i64 (pos.getD ((c.cells.getD A.toNat 0).toNat) 0) c.set)==0) then if AG (H+1)/\ AG (K+1)/\ AG (A+1) then self (.l1 (H+1) (K+1) (A+1)) else none else bif ((bits .and .i64 (pos.getD ((c.cells.getD A.toNat 0).toNat) 0) c.set) != 0) then if AG (K+1)/\ AG (A+1) then self (.l1 H (K+1) (A+1)) else none else if AG (A+1) then self (.l1 H K (A+1)) else none else none else bif (decide (H>c.hi)) then some (false,lost) else bif (decide (K<c.lo)) then some (false,lost) else self (.l2 H K 0 lost)
def cP (n:Nat)(self:XF -> Option (Bool×Ξ))(c:AD)(q:AA)(pos:Ξ)(ln:Nat)(lost:Ξ)(H K Q:Int)(o1:Ξ):Option (Bool×Ξ):= bif (decide (Q<(c.cells.length:Int))) then if 0<=Q/\ Q<(c.cells.length:Int) then bif (H==c.hi) then if 0<=(c.cells.getD Q.toNat 0)/\ (c.cells.getD Q.toNat 0)<(pos.length:Int) then bif ((bits .andNot .i64 (pos.getD ((c.cells.getD Q.toNat 0).toNat) 0) c.set) != 0) then (D7 n (c.cells.getD Q.toNat 0) c.set c q pos ln o1).bind λj=> bif (K==c.lo) then bif ((bits .and .i64 (pos.getD ((c.cells.getD Q.toNat 0).toNat) 0) c.set) != 0) then (Hc n (c.cells.getD Q.toNat 0) c q pos ln j).bind λG=> if AG (Q+1) then self (.l2 H K (Q+1) G) else none else if AG (Q+1) then self (.l2 H K (Q+1) j) else none else if AG (Q+1) then self (.l2 H K (Q+1) j) else none else bif (K==c.lo) then bif ((bits .and .i64 (pos.getD ((c.cells.getD Q.toNat 0).toNat) 0) c.set) != 0) then (Hc n (c.cells.getD Q.toNat 0) c q pos ln o1).bind λj=> if AG (Q+1) then self (.l2 H K (Q+1) j) else none else if AG (Q+1) then self (.l2 H K (Q+1) o1) else none else if AG (Q+1) then self (.l2 H K (Q+1) o1) else none else none else bif (K==c.lo) then if 0<=(c.cells.getD Q.toNat 0)/\ (c.cells.getD Q.toNat 0)<(pos.length:Int) then bif ((bits .and .i64 (pos.getD ((c.cells.getD Q.toNat 0).toNat) 0) c.set) != 0) then (Hc n (c.cells.getD Q.toNat 0) c q pos ln o1).bind λj=> if AG (Q+1) then self (.l2 H K (Q+1) j) else none else if AG (Q+1) then self (.l2 H K (Q+1) o1) else none else none else if AG (Q+1) then self (.l2 H K (Q+1) o1) else none else none else some (true,o1)
def zKo (n:Nat)(self:XF -> Option (Bool×Ξ))(c:AD)(q:AA)(pos:Ξ)(ln:Nat)(lost:Ξ):Option (Bool×Ξ):= self (.l1 0 0 0)
def KW (c:AD)(q:AA)(pos:Ξ)(ln:Nat)(lost:Ξ):Nat -> XF -> Option (Bool×Ξ)
 | 0,_=>none
 | n+1,.l1 H K A=>XE n (KW c q pos ln lost n) c q pos ln lost H K A
 | n+1,.l2 H K Q o1=>cP n (KW c q pos ln lost n) c q pos ln lost H K Q o1
def Tb (n:Nat)(c:AD)(q:AA)(pos:Ξ)(ln:Nat)(lost:Ξ):Option (Bool×Ξ):=zKo n (KW c q pos ln lost n) c q pos ln lost
def zKp (n B:Nat)(N:Yd 2)(c:AD)(q:AA)(pos:Ξ)(ln:Nat)(lost:Ξ)(r:Bool×Ξ):XF -> Prop
 | .l1 H K A=>∀ f:Nat,n<=f -> TW B N (FQ Tryz.f107 2 (.bool r.1) [oW c q pos 1 ln,oI r.2]) (Ag f (An (AR Tryz.f107) 0 [])) ⟨AF 140 [(0,.ref 0 0),(3,.i H),(4,.i K),(13,.ints c.cells),(14,.i (c.cells.length:Int)),(15,.i A)],[oW c q pos 1 ln,oI lost]⟩
 | .l2 H K Q o1=>∀ f:Nat,n<=f -> TW B N (FQ Tryz.f107 2 (.bool r.1) [oW c q pos 1 ln,oI r.2]) (Ag f (An (AR Tryz.f107) 3 [])) ⟨AF 140 [(0,.ref 0 0),(3,.i H),(4,.i K),(76,.ints c.cells),(77,.i (c.cells.length:Int)),(78,.i Q)],[oW c q pos 1 ln,oI o1]⟩
def zKq (B:Nat)(N:Yd 2)(c:AD)(q:AA)(pos:Ξ)(ln:Nat)(lost:Ξ):Al (KW c q pos ln lost) (zKp · B N c q pos ln lost):=ia (λ_=>rfl) λn C A r h=>by
 cases A
 case l1 x3 x4 A8=>
  intro f a;refine rd a λf a=>?_
  revert r;apply gO;exact bi 16 (gc (gi (jg zBZ (gn λo=>jg o (bi 33 (gc (gw 35 (gc (gw 37 (gw 55 (lG GS [0,1] (C _ _ · f a))))))) (jg zBY (jg o (bi 52 (gc (gw 54 (gw 55 (lG GS [0,1] (C _ _ · f a))))) (gw 55 (lG GS [0,1] (C _ _ · f a))))))))))) (bi 62 (lE GS [2] [0,1]) (bi 70 (lE GS [2] [0,1]) (lN GS [0,1] (C _ _ · n Nat.le.refl))))
 case l2 x3 x4 CV o1=>
  intro f a;refine rd a λf a=>?_
  revert r;apply gO;exact bi 79 (gi (jg zBa (bi 88 (gn λo=>jg o (bi 103 (ce Gy [0,1] [oW c q pos 1 ln,oI o1] λj=>jg fC (bi 119 (jg o (bi 134 (ce Ni [0,1] [oW c q pos 1 ln,oI j] λ_=>gw 139 (lG GS [0,1] (C _ _ · f a))) (gw 139 (lG GS [0,1] (C _ _ · f a))))) (gw 139 (lG GS [0,1] (C _ _ · f a))))) (jg fC (bi 119 (jg o (bi 134 (ce Ni [0,1] [oW c q pos 1 ln,oI o1] λ_=>gw 139 (lG GS [0,1] (C _ _ · f a))) (gw 139 (lG GS [0,1] (C _ _ · f a))))) (gw 139 (lG GS [0,1] (C _ _ · f a))))))) (jg fC (bi 119 (gi (bi 134 (ce Ni [0,1] [oW c q pos 1 ln,oI o1] λ_=>gw 139 (lG GS [0,1] (C _ _ · f a))) (gw 139 (lG GS [0,1] (C _ _ · f a))))) (gw 139 (lG GS [0,1] (C _ _ · f a)))))))) (lE GS [2] [0,1])
def zKn {r:Bool×Ξ}(h:Tb n c q pos ln lost=some r):EQ 107 [.ref 0 0] [oW c q pos 1 ln,oI lost] (.bool r.1) [oW c q pos 1 ln,oI r.2] false:=by
 refine ot Tryz.func107 λB N=>?_
 revert r;apply gO;exact lN GS [0,1] ((zKq B N c q pos ln lost n) _ _ · n Nat.le.refl)
end
end Go.Proofs.YtodinaconebmdaaGreatDoor
