/- Part 3 of 8 of what the proofs of these laws stand on. -/
import Derived.Test.YtodinaconebmdaaGreatDoorPgB
import Derived.LoopIn
set_option linter.all false
namespace Go.Proofs.YtodinaconebmdaaGreatDoor
open Go.RowKit
abbrev zNS:=@of_decide_eq_true
abbrev zP7:=@List.getElem?_take
section
section
variable {P:Program} {Γ:Ay}
variable {A B:World}{ρ:List AK}{h:DH}{G:Ψ}
def As.foreign {g e:Ψ}(H:As P Γ g h ρ A)(f:AS G A B)(D: ∀ b,G b -> g b/\ Γ.ng<=b)(W: ∀ b,e b -> g b∨A.heap.size<=b)(a: ∀ b,e b -> b<B.heap.size/\ Γ.ng<=b):As P Γ e h ρ B:=by
 have O:BL (MS g h ρ) A ρ (MS e h ρ) B ρ:=⟨λb j n _=>f.block b j λd=>n (.inl (D b d).1),λb a=>a.elim (λh=>(W b h).imp .inl id) (λh=>.inl (.inr h)),λ_ _ h=>h⟩;refine ⟨H.len,λk o hk=>?_,λk o p b q r s=>?_,H.dis,a,Γ.st _ _ H.gi (f.mono λi _ d=>(D i d).2)⟩
 ·obtain ⟨p,l,u⟩:=H.obj k o hk;exact ⟨p,l,u.out O f (λb a=>.inl (D b a).1) λb _ v w=>(H.cel k o p b hk l v).2.1 (D b w).1⟩
 ·obtain ⟨x,m,c,t,z,E⟩:=H.cel k o p b q r s;have j:=(zA0.1 E).1;exact ⟨x,λy=>(W b y).elim m Z2,c,t,z,(f.block b j λd=>m (D b d).1).trans E⟩
def BL.foreign {g a:Ψ}(t:AS G A B)(D: ∀ b,G b -> g b/\ Γ.ng<=b)(W: ∀ b,a b -> g b∨A.heap.size<=b):BL (MS g h ρ) A ρ (MS a h ρ) B ρ:=
 ⟨λb c z _=>t.block b c λd=>z (.inl (D b d).1),λb e=>e.elim (λh=>(W b h).imp .inl id) (λh=>.inl (.inr h)),λ_ _ h=>h⟩
def I6 (fr:List DV)(V:List Tmp)(x:List DV):List DV:=(V.zip x).foldl (λt q=>t.set q.1 q.2) fr
variable {w:World}{M:Ψ}
def rl : ∀ (V:List Tmp) (x:List DV) (v:List Value) {fr:List DV} {t:Array Value},x.length=v.length -> (∀ j,j<x.length -> AI M w (x.getD j .any) ρ (v.getD j undef)) -> BB M w ρ fr t ->
 BB M w ρ (I6 fr V x) ((V.zip v).foldl (λt (q:Tmp×Value)=>t.setIfInBounds q.1 q.2) t)
 | [],_,_,_,_,_,_,h=>h
 | _::_,[],[],_,_,_,_,h=>h
 | p::V,d::x,u::v,_,_,o,a,h=>rl V x v (Nat.succ.inj o) (λj i=>a (j+1) (Nat.succ_lt_succ i)) (h.set p (a 0 (Nat.succ_pos _)))
variable {W:World}{R:Ψ}
theorem YV.rep {ds:List DV}{args:Array Value}(h:YV ds R W args)(Y: ∀ b,M b -> b<W.heap.size/\ ¬ R b)(ρ:List AK): ∀ j,j<ds.length -> AI M W (ds.getD j .any) ρ (args.toList.getD j undef):=λj i=>by
 have e:args.toList.getD j undef=args.getD j undef:=by simp_all
 rw [e];exact (h.2 j i).out _ ⟨λ_ _ _ _=>rfl,λb c=>.inl (Y b c),λk p hk=>by simp at hk⟩
def CP (K:Nat):DV -> Bool
 | .ref k _=>decide (k<K)
 | .msl k _ _ _=>decide (k<K)
 | .mse k _ _ _=>decide (k<K)
 | .gr k=>decide (k<K)
 | .mri k _=>decide (k<K)
 | .mp k _ _ _=>decide (k<K)
 | .it k=>decide (k<K)
 | .agg m f=>(List.range m).all λj=>CP K (f j)
 | .tup m f=>(List.range m).all λj=>CP K (f j)
 | .fn _ m f=>(List.range m).all λj=>CP K (f j)
 | _=>true
variable {K:Nat}
theorem nK {α:Type}{l:List α}{k:Nat}{x:α}(hk:k<K)(h:l[k]? =some x):(l.take K)[k]? =some x:=Z4
theorem AI.take : ∀ (d:DV) {ρ:List AK} {v:Value},CP K d=true -> AI M w d ρ v -> AI M w d (ρ.take K) v:=by
 intro d
 induction d with
 | ref k j=>simp_all [CP,AI]
 | msl k m off n=>grind [CP,AI]
 | mp k m i j=>simp_all [CP,AI]
 | it k=>simp_all [CP,AI]
 | agg m f o=>
  grind [CP,AI]
 | tup m f o=>
  grind [CP,AI]
 | fn g m f o=>
  grind [CP,AI]
 | yl l=>rintro ρ v _ h;exact h
 | cst u=>rintro ρ v _ h;exact h
 | mse k m off n=>rintro ρ v c ⟨p,a,cap,h,e⟩;exact ⟨p,a,cap,nK (zNS c) h,e⟩
 | gr k=>rintro ρ v c ⟨p,a,n,cap,h,e⟩;exact ⟨p,a,n,cap,nK (zNS c) h,e⟩
 | mri k i=>rintro ρ v c ⟨p,vs,h,e⟩;exact ⟨p,vs,nK (zNS c) h,e⟩
 | any=>rintro ρ v _ h;trivial
 | nils=>rintro ρ v _ h;exact h
 | int k n=>rintro ρ v _ h;exact h
 | bool b=>rintro ρ v _ h;exact h
 | str s=>rintro ρ v _ h;exact h
 | ints l=>rintro ρ v _ h;exact h
 | bools l=>rintro ρ v _ h;exact h
 | sl m n f=>rintro ρ v _ h;exact h
 | fp m f=>rintro ρ v _ h;exact h
variable {fr:List DV}
theorem BB.take {t:Array Value}(h:BB M w ρ fr t)(hb:fr.all (CP K)=true):BB M w (ρ.take K) fr t:=by
 grind [AI.take,BB]
def BL.weak {g:Ψ}{M':Ψ}{w':World}{ρ':List AK}(h:BL g w ρ M' w' ρ')(Y: ∀ b,g b -> M b):BL M w ρ M' w' ρ':=
 ⟨λb o u=>h.blk b o λd=>u (Y b d),λb c=>(h.m b c).imp (Y b) id,h.pl⟩
structure RI (K:Nat)(P:Program)(Γ:Ay)(N:Ψ)(h0:DH)(ρ0:List AK)(w0:World)(G R:Ψ)(W:World)(h:DH)(ρ:List AK):Prop where
 hr:As P Γ (λb=>N b∨G b) h ρ W
 upd:AS (MO h0 ρ0) w0 W
 grow: ∀ b,MO h ρ b -> MO h0 ρ0 b∨w0.heap.size<=b
 g: ∀ b,G b -> Γ.ng<=b/\ (MO h0 ρ0 b∨w0.heap.size<=b)
 r: ∀ b,R b -> ¬ N b/\ ¬ MO h ρ b
 kept:B0 K ρ0 ρ
variable {w0:World}{ρ0:List AK}{h0:DH}{N:Ψ}
def RI.off (hR:RI K P Γ N h0 ρ0 w0 G R W h ρ): ∀ b,MO h ρ b -> b<W.heap.size/\ ¬ N b/\ ¬ (G b∨R b):=λb z=>by
 obtain ⟨k,o,p,q,s,x⟩:=id z;obtain ⟨_,a,c,_,_,E⟩:=hR.hr.cel k o p b q s x;exact ⟨(zA0.1 E).1,λh=>a (.inl h),λh=>h.elim (λh=>a (.inr h)) λh=>(hR.r b h).2 z⟩
theorem RI.stable (Ck:Γ.ng<=w0.heap.size)(a: ∀ b,N b -> b<w0.heap.size/\ ¬ MO h0 ρ0 b):Cw λG R W=>RI K P Γ N h0 ρ0 w0 G R W h ρ:=λG R G' R' A B hR t n j _ _ c=>by
 have hs:w0.heap.size<=A.heap.size:=hR.upd.size;refine ⟨hR.hr.foreign t (λb hx=>⟨.inr hx,(hR.g b hx).1⟩) (λb hx=>?_) (λb hx=>?_),hR.upd.comp t λi hi hx=>(hR.g i hx).2.resolve_right Z2,hR.grow,λb hx=>?_,λb hx=>?_,hR.kept⟩
 ·grind
 ·rcases hx with hx | hx
  ·exact ⟨zCD (hR.hr.nlt b (.inl hx)).1 t.size,(hR.hr.nlt b (.inl hx)).2⟩
  ·exact ⟨c b (.inl hx),(n b hx).elim (λh=>(hR.g b h).1) (λh=>Z2)⟩
 ·rcases n b hx with hx | hx
  ·exact hR.g b hx
  grind
 ·rcases j b hx with hx | hx | hx
  ·exact hR.r b hx
  ·exact ⟨λu=>(hR.g b hx).2.elim (a b u).2 (by have:=(a b u).1;omega),λz=>(hR.off b z).2.2 (.inl hx)⟩
  ·exact ⟨λu=>by have:=(a b u).1;omega,λz=>by have:=(hR.off b z).1;omega⟩
theorem RI.outl {r:Ψ}(R:RI K P Γ N h0 ρ0 w0 G r W h ρ):BL (MS N h0 ρ0) w0 (ρ0.take K) (MS (λb=>N b∨G b) h ρ) W ρ:=
 ⟨λb A z _=>R.upd.block b A λd=>z (.inr d),λb hb=>by
  rcases hb with (hb | hb) | hb
  ·exact .inl (.inl hb)
  ·exact (R.g b hb).2.imp .inr id
  ·exact (R.grow b hb).imp .inr id,λk p hk=>by
  rw [zP7] at hk
  by_cases e:k<K
  ·rw [zAE e] at hk;exact R.kept k p e hk
  grind⟩
def Kk:Exit -> Option Code
 | .ret=>some .ret
 | .exit id=>some (.exit id)
 | _=>none
def Rb (L:Nat)(J:DH -> Prop)(c:Exit -> DH -> Prop)(e:Exit)(S:St):Prop:=∃ w,A7 L S w/\ ((e= .normal/\ J w.h)∨((Kk e).isSome=true/\ c e w.h))
def pD (P:Program)(Γ:Ay)(fr:List DV)(V:List Tmp)(a X:Code)(L:Nat)(J:Nat -> DH -> Prop)(c:Exit -> DH -> Prop)(encs:List (List DV)):Prop:= ∀ (l B:Nat) (Y:BK P Γ L) (i:Nat) (x:List DV) (h:DH),encs[i]? =some x -> J i h -> Tr P Γ (Fence.wide.inRound l) (some B) L Y a ⟨I6 fr V x,h⟩ (PV (λS' e=>e=Y/\ ∀ N:BK P Γ L,Tr P Γ (Fence.wide.inRound l) (some B) L N X S' (stay N (Rb L (J (i+1)) c))) (λ_ _ _=>False))
def zA1 (L:Nat)(J:DH -> Prop)(a:Exit -> DH -> Prop)(Q:List PanicEntry -> DH -> Prop)(e:Exit)(S:St):Prop:=Rb L J a e S∨∃ c w,e= .panic c/\ A7 L S w/\ QK w.h/\ Q c w.h
def f7 (P:Program)(Γ:Ay)(fr:List DV)(V:List Tmp)(a X:Code)(L:Nat)(J:Nat -> DH -> Prop)(c:Exit -> DH -> Prop)(Q:List PanicEntry -> DH -> Prop)(encs:List (List DV)):Prop:= ∀ (l B:Nat) (Y:BK P Γ L) (i:Nat) (x:List DV) (h:DH),encs[i]? =some x -> J i h -> Tr P Γ (Fence.wide.inRound l) (some B) L Y a ⟨I6 fr V x,h⟩ (PV (λS' e=>e=Y/\ ∀ N:BK P Γ L,Tr P Γ (Fence.wide.inRound l) (some B) L N X S' (stay N (zA1 L (J (i+1)) c Q))) (λ_ _ _=>False))
variable {encs:List (List DV)}{J:Nat -> DH -> Prop}{X:Code}
def pD.p {V:List Tmp}{a:Code}{L:Nat}{b:Exit -> DH -> Prop}(j:pD P Γ fr V a X L J b encs)(f:List PanicEntry -> DH -> Prop):f7 P Γ fr V a X L J b f encs:=λl B Y i x h k m=>by
 refine Tr.mono (j l B Y i x h k m) λe n Y2 Q=>?_
 cases e with
 | normal=>exact ⟨Q.1,λg=>Tr.mono (show Tr P Γ (Fence.wide.inRound l) (some B) L g X n (stay g (Rb L (J (i+1)) b)) from Q.2 g) λe S3 Y3 d=>⟨d.1,.inl d.2⟩⟩
 | ret=>exact Q.elim
 | exit id=>exact Q.elim
 | goto t=>exact Q.elim
 | panic c=>exact Q.elim
 | outgrown=>exact Q.elim
abbrev RJ (P:Program)(Γ:Ay)(N:Ψ)(h0:DH)(ρ:List AK)(w:World)(KK:Nat)(J:Nat -> DH -> Prop)(i:Nat)(G R:Ψ)(W:World):Prop:=∃ h ρ',J i h/\ RI KK P Γ N h0 ρ w G R W h ρ'
abbrev RX (P:Program)(Γ:Ay)(N:Ψ)(h0:DH)(ρ:List AK)(w:World)(KK:Nat)(Jx:Exit -> DH -> Prop)(c:Code)(G R:Ψ)(W:World):Prop:=∃ e,Kk e=some c/\ ∃ h ρ',Jx e h/\ RI KK P Γ N h0 ρ w G R W h ρ'
abbrev RPn (P:Program)(Γ:Ay)(N:Ψ)(h0:DH)(ρ:List AK)(w:World)(KK:Nat)(Jp:List PanicEntry -> DH -> Prop)(c:List PanicEntry)(G R:Ψ)(W:World):Prop:=∃ h ρ',Jp c h/\ RI KK P Γ N h0 ρ w G R W h ρ'
variable {KK:Nat}
def RI.shut {y:World}(hR:RI KK P Γ N h0 ρ0 w0 G R W h ρ)(hi:QK h){B:Nat}(b:Γ.ng<=w0.heap.size)(H:w0.heap.size<=B)(l:NM B W y):RI KK P Γ N h0 ρ0 w0 G R y h ρ:=
 ⟨(AU.shut (S:=⟨[],h⟩) (a:={ tmps:=#[],defers:=[] }) ⟨hR.hr,rfl,λi hi=>absurd hi (zA6 i)⟩ hi (zA4 b H) l).hr,hR.upd.comp l λi hi d=>absurd d.1 Z2,hR.grow,hR.g,hR.r,hR.kept⟩
theorem jB {S:St}{a:Act}(Q:AU P Γ N S ρ a w)(hN: ∀ b,N b -> b<w.heap.size/\ ¬ MO h0 ρ b)(hh: ∀ b,MO h0 ρ b -> MO S.h ρ b){V:Array Tmp}{L:Code}{B:Exit -> DH -> Prop}{Jp:List PanicEntry -> DH -> Prop}(CD:S.fr.all (CP KK)=true) 
 (DU:f7 P Γ S.fr V.toList L X KK J B Jp encs) (l:Nat):Yi P YV encs V L X a l (RJ P Γ N h0 ρ w KK J) (RX P Γ N h0 ρ w KK B) (RPn P Γ N h0 ρ w KK Jp):=by
 rintro G R i x args W n hE ⟨h,ρ1,hJ,hR⟩ hS hl Hm;have Ck:Γ.ng<=w.heap.size:=Γ.lo _ Q.hr.gi
 have hM: ∀ {h:DH} {ρ1:List AK} {W:World},RI KK P Γ N h0 ρ w G R W h ρ1 -> ∀ b,MS (λb=>N b∨G b) h ρ1 b -> b<W.heap.size/\ ¬ R b:=λhR b hb=>by
  rcases hb with (hb | hb) | hb
  ·exact ⟨(hR.hr.nlt b (.inl hb)).1,λh=>(hR.r b h).1 hb⟩
  ·exact ⟨(hR.hr.nlt b (.inr hb)).1,hS.dis b hb⟩
  ·exact ⟨(hR.off b hb).1,λh=>(hR.off b hb).2.2 (.inr h)⟩
 have Wu:BL (MS N S.h ρ) w (ρ.take KK) (MS (λb=>N b∨G b) h ρ1) W ρ1:=hR.outl.weak (λb hb=>hb.imp id (hh b))
 have Lu:BB (MS (λb=>N b∨G b) h ρ1) W ρ1 (I6 S.fr V.toList x) ((V.zip args).foldl (λt (p,v)=>t.setIfInBounds p v) a.tmps):=by
  have:=rl V.toList x args.toList (by simpa using hE.1) (hE.rep (hM hR) ρ1) ((Q.fr.take CD).out Wu)
  grind [Array.toList_zip]
 have step: ∀ {G R:Ψ} {W m:World} {h h':DH} {ρ1 ρ2:List AK},RI KK P Γ N h0 ρ w G R W h ρ1 -> (∀ b,R b -> b<W.heap.size) -> As P Γ (λb=>N b∨G b) h' ρ2 m -> A3 h ρ1 W h' ρ2 m -> B0 KK ρ1 ρ2 -> RI KK P Γ N h0 ρ w G R m h' ρ2:=by
  intro G R W m h h' ρ1 ρ2 hR M Cf st hk;have hs:=hR.upd.size;exact ⟨Cf,hR.upd.comp st.upd λb hb z=>(hR.grow b z).resolve_right Z2,λb hb=>(st.grow b hb).elim (hR.grow b) λh=>.inr Z2,hR.g,λb hb=>⟨(hR.r b hb).1,λz=>(st.grow b z).elim (hR.r b hb).2 (by have:=M b hb;omega)⟩,hR.kept.trans hk⟩
 have yI: ∀ b,R b -> b<W.heap.size:=λb h=>hS.lt b (.inr h)
 have bd:Bd (Fence.wide.inRound l) (some W.heap.size) W:=⟨λb e=>by cases e;exact zBT _,λl' e=>by cases e;exact hl⟩;refine zMY (DU l W.heap.size (SG P Γ KK (λb=>N b∨G b) h ρ1 W) i x h n hJ _ ρ1 _ W ⟨hR.hr,Lu⟩ ⟨rfl,A3.refl _ _ _,B0.refl _ _⟩ trivial bd) ?_;rintro e O H ⟨S',ρ2,N2,Y2,q,h2,F,h4,_⟩;cases e with
 | normal=>
  obtain ⟨rfl,q⟩:=q;obtain ⟨rfl,F,h5⟩:=F;refine ⟨λG' R' m=>RI KK P Γ N h0 ρ w G' R' m S'.h ρ2/\ BB (MS (λb=>N b∨G' b) S'.h ρ2) m ρ2 S'.fr O.tmps/\ EM W.heap.size O.defers m/\ H.heap.size<=m.heap.size/\ (∀ b,G' b -> b<W.heap.size∨H.heap.size<=b)/\ (∀ d∈O.defers,∀ D,d.target= .collected D -> D<H.heap.size)/\ (∀ b,R' b -> b<m.heap.size),?_,F.upd.mono λb _ z=>(hR.off b z).2.2,⟨step hR yI h2.hr F h5,h2.fr,h4,zBT _,λb T=>.inl (hR.hr.nlt b (.inr T)).1,λd hd D ht=>EM.lt h4 hd ht,λb hb=>zCD (yI b hb) F.upd.size⟩,?_⟩
  ·rintro G1 R1 G2 R2 A C ⟨s,q2,q3,q4,q5,q6,q7⟩ U T hr Ik hd hb;have m6:=RI.stable Ck hN _ _ _ _ _ _ s U T hr Ik hd hb;refine ⟨m6,q2.out (BL.foreign (Γ:=Γ) U (λb n=>⟨.inr n,(s.g b n).1⟩) λb n=>?_),?_,zA4 q4 U.size,λb n=>(T b n).elim (q5 b) (λh=>.inr Z2),q6,λb h=>hb b (.inr h)⟩
   ·grind
   ·have go: ∀ {ds:List Deferred},EM W.heap.size ds A -> (∀ d∈ds,∀ D,d.target= .collected D -> D<H.heap.size) -> EM W.heap.size ds C:=by
     intro ds
     induction ds with
     | nil=>intros;trivial
     | cons d ds ih=>
      rintro ⟨D,f,Y,j,r4,K⟩ M;have hD:D<H.heap.size:=M d Z3 D (by rw [f]);refine ⟨D,f,Y,(U.block D (zA0.1 j).1 λn=>?_).trans j,r4,ih K λd' JY=>M d' (by simp [JY])⟩
      grind
    exact go q3 q6
  ·rintro u ⟨s,q2,q3,q4,q5,q6,q7⟩ DY;have bd2:Bd (Fence.wide.inRound l) (some W.heap.size) u:=⟨λb e=>by cases e;exact zA4 F.upd.size q4,λl' e=>by cases e;exact DY⟩;refine zMY (q (SG P Γ KK (λb=>N b∨G b) S'.h ρ2 u) _ ρ2 O u ⟨s.hr,q2⟩ ⟨rfl,A3.refl _ _ _,B0.refl _ _⟩ q3 bd2) ?_;rintro e a3 o ⟨S3,ρ3,N3,Y3,f,Y,j,r4,_⟩
   have Z: ∀ e,(SG P Γ KK (λb=>N b∨G b) S'.h ρ2 u).I N3 S3.h ρ3 o -> Rb KK (J (i+1)) B e S3 -> AS (λk=>¬ (G k∨R k)) u o/\ ((e= .normal/\ RJ P Γ N h0 ρ w KK J (i+1) G R o)∨((Kk e).isSome=true/\ ∃ h ρ',B e h/\ RI KK P Γ N h0 ρ w G R o h ρ')):=by
    rintro e r0 ⟨S4,Bc,hJ4⟩;obtain ⟨rfl,j,K⟩:=r0;obtain ⟨ρ4,R4,s4,k4⟩:=Bc P Γ _ ρ3 a3 o Y;have dS:=step s q7 R4.hr (j.trans s4) (K.trans k4);exact ⟨j.upd.mono λb _ z=>(s.off b z).2.2,hJ4.imp (λ⟨x,y⟩=>⟨x,S4.h,ρ4,y,dS⟩) (λ⟨x,y⟩=>⟨x,S4.h,ρ4,y,dS⟩)⟩
   have E7: ∀ {e c},Kk e=some c -> (SG P Γ KK (λb=>N b∨G b) S'.h ρ2 u).I N3 S3.h ρ3 o -> Rb KK (J (i+1)) B e S3 -> AS (λk=>¬ (G k∨R k)) u o/\ RX P Γ N h0 ρ w KK B c G R o:=λhe j f=>by
    obtain ⟨o1,E⟩:=Z _ j f;rcases E with ⟨rfl,_⟩ | ⟨_,E⟩
    ·cases he
    ·exact ⟨o1,_,he,E⟩
   cases e with
   | normal=>
    obtain ⟨rfl,f⟩:=f;obtain ⟨o1,E⟩:=Z _ j (f.resolve_right Z4);rcases E with ⟨_,E⟩ | ⟨E,_⟩
    ·exact ⟨o1,E⟩
    ·cases E
   | ret=>obtain ⟨rfl,f⟩:=f;exact E7 rfl j (f.resolve_right Z4)
   | exit id=>obtain ⟨rfl,f⟩:=f;exact E7 rfl j (f.resolve_right Z4)
   | goto t=>
    obtain ⟨rfl,f⟩:=f;obtain ⟨o1,E⟩:=Z _ j (f.resolve_right Z4);rcases E with ⟨E,_⟩ | ⟨E,_⟩ <;> cases E
   | panic c=>
    obtain ⟨rfl,f⟩:=f;rcases f with f | ⟨c',S4,he,Bc,hni,hjp⟩
    ·obtain ⟨o1,E⟩:=Z _ j f;rcases E with ⟨E,_⟩ | ⟨E,_⟩ <;> cases E
    ·cases he;obtain ⟨rfl,j,K⟩:=j;obtain ⟨ρ4,R4,s4,k4⟩:=Bc P Γ _ ρ3 a3 o Y;have dS:=step s q7 R4.hr (j.trans s4) (K.trans k4);refine ⟨W.heap.size,r4,λW4 Il=>⟨(j.upd.mono λb _ z=>(s.off b z).2.2).comp Il λk _ n hgr=>?_,S4.h,ρ4,hjp,dS.shut hni Ck hR.upd.size Il⟩⟩;have:=hS.lt k hgr;omega
   | outgrown=>exact f.elim
 | ret=>exact q.elim
 | exit id=>exact q.elim
 | goto t=>exact q.elim
 | panic c=>exact q.elim
 | outgrown=>exact q.elim
section
variable {N:Ψ} {S:St} {ρ:List AK} {a:Act} {w:World} {G R:Ψ} {W:World} {h h0:DH} {ρ':List AK} {KK:Nat}
def RI.hrel (hR:RI KK P Γ N h0 ρ w G R W h ρ'):As P Γ N h ρ' W:=
 hR.hr.foreign (G:=λ_=>False) (AS.refl _ _) (λ_ h=>h.elim) (λb c=>.inl (.inl c)) λb c=>hR.hr.nlt b (.inl c)
def RI.frame (hR:RI KK P Γ N h0 ρ w G R W h ρ')(Q:AU P Γ N S ρ a w)(d: ∀ b,MO h0 ρ b -> MO S.h ρ b)(u:S.fr.all (CP KK)=true):BB (MS N h ρ') W ρ' S.fr a.tmps:=
 ((Q.fr.take u).out (hR.outl.weak λb c=>c.imp id (d b))).out (DK (λb c=>c.imp .inl id) ρ')
end
variable {V:Array Tmp}{g:Operand}{S:St}{L:Nat}{F:Fence}
theorem Tr.range (Kf:F=Fence.wide∨∃ l,F=Fence.wide.inRound l){B:Nat}{Y:BK P Γ L}{j X:Code}{Q:QY P Γ L}{k:Nat}{encs:List (List DV)}(J:Nat -> DH -> Prop)(Jx:Exit -> DH -> Prop) 
 (hg:Ad S.fr g= .it k) (hk:S.h[k]? =some (some (.iter encs))) (Es: ∀ x∈encs,x.length=V.size) {KK:Nat} (hL:L<=KK) (CD:S.fr.all (CP KK)=true) (h0:J 0 (S.h.set k none))
 (DU:pD P Γ S.fr V.toList j X KK J Jx encs) (EH: ∀ h,J encs.length h -> Q .normal ⟨S.fr,h⟩ Y) (Oe: ∀ e h,(Kk e).isSome=true -> Jx e h -> Q e ⟨S.fr,h⟩ Y):Tr P Γ F (some B) L Y (.rangeFunc g V j X) S Q:=λN ρ a w R y m b=>by
 have T:=BV R g;rw [hg] at T;obtain ⟨p,q,hv⟩:=T;obtain ⟨p',BE,gf,lb,Rd,⟨e1,e2⟩,s,n,u⟩:=R.hr.obj k _ hk;have ep:p'=p:=zA2 (BE.symm.trans q);subst ep;have xo:a.eval g= .func (.func gf) #[] lb:=hv.trans e1;have Ck:Γ.ng<=w.heap.size:=Γ.lo _ R.hr.gi;have yN: ∀ b,p'.foot b -> MO S.h ρ b:=λb d=>⟨k,_,p',hk,q,d⟩
 have U: ∀ b,N b -> b<w.heap.size/\ ¬ MO S.h ρ b:=λb d=>⟨(R.hr.nlt b d).1,λ⟨k,o,p,K,s,n⟩=>(R.hr.cel k o p b K s n).2.1 d⟩
 have Il:D8 p'.foot Rd w:=⟨λb d hr=>(n b hr).1 (.inr (yN b d)),λb d=>d.elim (u b) λh=>(n b h).2⟩
 have du:RJ P Γ N S.h ρ w KK J 0 p'.foot Rd w:=by
  refine ⟨S.h.set k none,ρ,h0,?_,AS.refl _ _,λb d=>.inl (MO.kill d),λb d=>⟨(R.hr.cel k _ p' b hk q d).1,.inl (yN b d)⟩,λb d=>⟨λhn=>(n b d).1 (.inl hn),λhm=>(n b d).1 (.inr (MO.kill hm))⟩,B0.refl _ _⟩;have H1:As P Γ N (S.h.set k none) ρ w:=R.hr.kill k
  have Od: ∀ b,MS (λb=>N b∨p'.foot b) (S.h.set k none) ρ b -> MS N S.h ρ b:=λb d=>by
   grind [MS,MO]
  refine ⟨H1.len,λi o hi=>?_,λi o Z b g1 g2 g3=>?_,H1.dis,λb d=>d.elim (R.hr.nlt b) λh=>⟨u b h,(R.hr.cel k _ p' b hk q h).1⟩,R.hr.gi⟩
  ·obtain ⟨Ah,Bq⟩:=Lr hi;obtain ⟨Z,Qn,hr⟩:=R.hr.obj i o Bq;exact ⟨Z,Qn,hr.out (DK Od ρ) (S:=λ_=>False) (AS.refl _ _) (λ_ h=>h.elim) λ_ _ _ h=>h⟩
  ·obtain ⟨Ah,Bq⟩:=Lr g1;obtain ⟨c1,c2,c3⟩:=R.hr.cel i o Z b Bq g2 g3;exact ⟨c1,λd=>d.elim c2 λd=>R.hr.dis i k o _ Z p' b Ah Bq hk g2 q g3 d,c3⟩
 have hst: ∀ i,Cw (RJ P Γ N S.h ρ w KK J i):=λi G R' G' R2 A C ⟨h,ρ',f,r⟩ K s n u q5 q6=>⟨h,ρ',f,RI.stable Ck U _ _ _ _ _ _ r K s n u q5 q6⟩
 have dN: ∀ c,Cw (RX P Γ N S.h ρ w KK Jx c):=λc G R' G' R2 A C ⟨e,M,h,ρ',f,r⟩ K s n u q5 q6=>⟨e,M,h,ρ',f,RI.stable Ck U _ _ _ _ _ _ r K s n u q5 q6⟩
 have stp: ∀ {G R':Ψ} {W:World} {h:DH} {ρ':List AK},RI KK P Γ N S.h ρ w G R' W h ρ' -> A3 S.h ρ w h ρ' W:=λhR=>⟨hR.upd,hR.grow⟩
 have z: ∀ {G R':Ψ} {W:World} {h:DH} {ρ':List AK},RI KK P Γ N S.h ρ w G R' W h ρ' -> B0 L ρ ρ':=λhR k p hk q=>hR.kept k p (zCD hk hL) q
 have xM: ∀ x∈encs,∀ R W args,YV x R W args -> args.size=V.size:=λx T R W args h=>h.1.symm.trans (Es x T)
 have E: ∀ {G R':Ψ} {W:World} {h:DH} {ρ':List AK} {a':Act},RI KK P Γ N S.h ρ w G R' W h ρ' -> a'.tmps=a.tmps -> AU P Γ N ⟨S.fr,h⟩ ρ' a' W:=λhR e=>⟨hR.hrel,by rw [e];exact hR.frame (S:=S) R (λ_ h=>h) CD⟩
 rcases Kf with rfl | ⟨l0,rfl⟩
 ·have mk: ∀ {D:Nat} {G R':Ψ} {W:World} {h:DH} {ρ':List AK},RI KK P Γ N S.h ρ w G R' W h ρ' -> W.heap[D]? =some (.deferred (some [])) -> w.heap.size<=D -> EM B ({ target:=.collected D,args:=#[] }::a.defers) W:=λ{D G R' W h ρ'} hR H I=>
   ⟨D,rfl,zA4 (b.le _ rfl) I,H,λd' JY ht=>by have:=EM.lt m JY ht;omega,WY R.hr (stp hR) m⟩
  refine zBD xo e2 s.gen Il xM _ _ _ hst dN (λc G R' G' R2 A C ⟨h,ρ',f,r⟩ _ _ _ _ _ _=>f.elim) (λh=>h.elim) (λc G R W ⟨h,ρ',f,r⟩=>f.elim) du (jB R U (λ_ h=>h) CD (DU.p λ_ _=>False)) ?_ ?_
  ·rintro D e G R' own W W' ⟨v,rfl⟩ ⟨h,ρ',f,hR⟩ _ _ _ H I;exact ⟨⟨S.fr,h⟩,ρ',N,Y,EH h f,E hR rfl,Y.st y R.hr hR.hrel (stp hR) (z hR),mk hR H I,b.step R.hr (stp hR)⟩
  ·rintro D c G R' W ⟨e,M,h,ρ',f,hR⟩ H I;have O:=Oe e h (by rw [M];rfl) f;cases e with
   | ret=>cases M;exact zQE ⟨⟨S.fr,h⟩,ρ',N,Y,O,E hR rfl,Y.st y R.hr hR.hrel (stp hR) (z hR),mk hR H I,b.step R.hr (stp hR)⟩
   | exit id=>cases M;exact wpIn_exit ⟨⟨S.fr,h⟩,ρ',N,Y,O,E hR rfl,Y.st y R.hr hR.hrel (stp hR) (z hR),mk hR H I,b.step R.hr (stp hR)⟩
   | normal=>cases M
   | goto t=>cases M
   | panic c=>cases M
   | outgrown=>cases M
 ·refine zBE xo e2 (b.rd l0 rfl) s.gen Il xM _ _ _ hst dN (λc G R' G' R2 A C ⟨h,ρ',f,r⟩ _ _ _ _ _ _=>f.elim) (λh=>h.elim) (λc G R W ⟨h,ρ',f,r⟩=>f.elim) du (jB R U (λ_ h=>h) CD (DU.p λ_ _=>False)) ?_ ?_
  ·rintro e G R' own W W' ⟨v,rfl⟩ ⟨h,ρ',f,hR⟩ _ _ _;exact ⟨⟨S.fr,h⟩,ρ',N,Y,EH h f,E hR rfl,Y.st y R.hr hR.hrel (stp hR) (z hR),WY R.hr (stp hR) m,b.step R.hr (stp hR)⟩
  ·rintro c G R' W ⟨e,M,h,ρ',f,hR⟩;have O:=Oe e h (by rw [M];rfl) f;cases e with
   | ret=>cases M;exact zQE ⟨⟨S.fr,h⟩,ρ',N,Y,O,E hR rfl,Y.st y R.hr hR.hrel (stp hR) (z hR),WY R.hr (stp hR) m,b.step R.hr (stp hR)⟩
   | exit id=>cases M;exact wpIn_exit ⟨⟨S.fr,h⟩,ρ',N,Y,O,E hR rfl,Y.st y R.hr hR.hrel (stp hR) (z hR),WY R.hr (stp hR) m,b.step R.hr (stp hR)⟩
   | normal=>cases M
   | goto t=>cases M
   | panic c=>cases M
   | outgrown=>cases M
def CY {α σ:Type}(f:α -> σ -> Option (σ×Nat)):List α -> σ -> Option (σ×Nat)
 | [],s=>some (s,0)
 | x::l,s=>(f x s).bind λr=>bif r.2==0 then CY f l r.1 else some r
def CK {α σ:Type}(f:α -> σ -> Option σ):List α -> σ -> Option σ
 | [],s=>some s
 | x::l,s=>(f x s).bind (CK f l)
variable {α σ:Type}
def yk (f:α -> σ -> Option σ): ∀ (l:List α) (s:σ),CY (λx s=>(f x s).map λq=>(q,0)) l s=(CK f l s).map λq=>(q,0)
 | [],s=>rfl
 | x::l,s=>by
  simp only [CY,CK];cases f x s with
  | none=>rfl
  | some q=>exact yk f l q
def Cx (L:Nat)(R:List Exit)(c:Nat)(h':DH)(e:Exit)(S:St):Prop:=(Exit.normal::R)[c]? =some e/\ ∃ w,A7 L S w/\ w.h=h'
def HJ (P:Program)(Γ:Ay)(F:Fence)(B:Option Nat)(L:Nat)(N:BK P Γ L)(Q:Exit -> St -> Prop)(a X:Code)(S:St):Prop:= Tr P Γ F B L N a S (PV (λS' e=>e=N/\ ∀ g:BK P Γ L,BI P Γ F B L g Q [.code X] S') (λ_ _ _=>False))
variable {a:Code}
theorem HJ.go {B:Option Nat}{N:BK P Γ L}{Q:Exit -> St -> Prop}(d:Du F P)(z:P.follows .mixedOrders=true){X:Code}(J:BF)(n:Nat)(o:BS)(C σ:Θ)(fr:List DV)(h':DH)(vs:List Prop) 
 (h:(CH P Γ J n [.code a] S o).map (WM C σ L)=some (.at [],fr,h',vs,[],[],true)) (s:BX vs) (hk: ∀ g:BK P Γ L,BI P Γ F B L g Q [.code X] ⟨fr,h'⟩):HJ P Γ F B L N Q a X S:=by
 obtain ⟨S',_,f,l⟩:=zHj h;have T:=GL (F:=F) (B:=B) (L:=L) (Y:=N) (Q:=λe b c=>e= .normal/\ c=N/\ ∀ g:BK P Γ L,BI P Γ F B L g Q [.code X] b) d z n [.code a] S o _ _ _ _ f s ⟨rfl,rfl,λg=>BI.le l rfl (hk g)⟩;refine Tr.mono (show Tr P Γ F B L N a S _ from T) λe b c hq=>?_
 grind [PV,BG]
theorem BI.rangeFold (u:F=Fence.wide∨∃ l,F=Fence.wide.inRound l){B:Nat}{Y:BK P Γ L}{Q:QY P Γ L}{X:Code}{k:List KI}{D:Nat}(R:List Exit)(KY:(R.all λe=>(Kk e).isSome)=true)(enc:α -> List DV)(l:List α)(H:σ -> DH)(f:α -> σ -> Option (σ×Nat)){m:σ}{rE:σ×Nat}(O:CY f l m=some rE) 
 (v:Ad S.fr g= .it D) (hk:S.h[D]? =some (some (.iter (l.map enc)))) (Es: ∀ x,(enc x).length=V.size) {K:Nat} (w:L<=K) (z:S.fr.all (CP K)=true) (h0:S.h.set D none=H m)
 (A: ∀ (l B:Nat) (N:BK P Γ K) (x:α) (s:σ) (r:σ×Nat),f x s=some r -> HJ P Γ (Fence.wide.inRound l) (some B) K N (Cx K R r.2 (H r.1)) a X ⟨I6 S.fr V.toList (enc x),H s⟩)
 (EH: ∀ e,(Exit.normal::R)[rE.2]? =some e -> BG P Γ F (some B) L Q k e ⟨S.fr,H rE.1⟩ Y):A5 P Γ F (some B) L Y Q (.code (.rangeFunc g V a X)::k) S:=by
 refine Tr.range (Q:=BG P Γ F (some B) L Q k) (KK:=K) u (λi h=>∃ s,CY f (l.drop i) s=some rE/\ h=H s) (λe h=>(Exit.normal::R)[rE.2]? =some e/\ h=H rE.1) v hk (λx d=>?_) w z ⟨m,O,h0⟩ ?_ ?_ ?_
 ·grind
 ·rintro l' o C i x h d ⟨s,p,rfl⟩;rw [zKG] at d;cases hy:l[i]? with
  | none=>rw [hy] at d;cases d
  | some y=>
   rw [hy] at d;cases d
   have E:l.drop i=y::l.drop (i+1):=by
    grind [List.drop_eq_getElem_cons]
   rw [E] at p;obtain ⟨r,G,h2⟩:=Gq p;have T:=A l' o C y s r G
   have J: ∀ {e:Exit} {j:St},Cx K R r.2 (H r.1) e j -> Rb K (λh=>∃ s,CY f (l.drop (i+1)) s=some rE/\ h=H s) (λe h=>(Exit.normal::R)[rE.2]? =some e/\ h=H rE.1) e j:=by
    rintro e j ⟨r1,I,r2,r3⟩
    grind [Rb]
   refine Tr.mono T λe j Y2 b=>?_
   cases e with
   | normal=>exact ⟨b.1,λn=>Tr.mono (show Tr P Γ (Fence.wide.inRound l') (some o) K n X j (stay n (Cx K R r.2 (H r.1))) from b.2 n) λe I Y3 q=>⟨q.1,J q.2⟩⟩
   | ret=>exact b.elim
   | exit id=>exact b.elim
   | goto t=>exact b.elim
   | panic c=>exact b.elim
   | outgrown=>exact b.elim
 ·grind [CY]
 grind
def UC {B:Option Nat}{Y:BK P Γ L}{Q:QY P Γ L}{id:Nat}(h:Q (.exit id) S Y): ∀ (k:List KI),KD id k=none -> BG P Γ F B L Q k (.exit id) S Y
 | [],_=>h
 | .blk i::k,f=>by
  unfold KD at f;split at f
  ·cases f
  ·rename_i e
   show (if id=i then _ else _)
   rw [zEO e];exact UC h k f
 | .code c::k,f=>UC (k:=k) h f
 | .lend J::k,f=>UC (k:=k) h f
 | .scp::k,f=>UC (k:=k) h f
 | .loopN m b::k,f=>UC (k:=k) h f
end
def MK (t:Nat):Code -> Option (Array Tmp×Code×Code)
 | .rangeFunc (.tmp T) V a b=>if T=t then some (V,a,b) else MK t b
 | .seq a b=>match MK t a with
  | some r=>some r
  | none=>MK t b
 | .cond _ a b=>match MK t a with
  | some r=>some r
  | none=>MK t b
 | .block _ c=>MK t c
 | .loop c=>MK t c
 | .scope c=>MK t c
 | _=>none
def tS (f:Func)(t:Nat):Array Tmp×Code×Code:=match f.body with
 | some c=>(MK t c).getD (#[],.skip,.skip)
 | none=>(#[],.skip,.skip)
def Pk (f:Func)(t:Nat):Code:=(tS f t).2.2
def rgA (f:Func)(t:Nat):Code:=(tS f t).2.1
def Ac (f:Func):Code:=f.body.getD .skip
def u4 (id:Nat)(k:List KI):List KI:=(KD id k).getD []
variable {L:Nat}{F:Fence}{Γ:Ay}{P:Program}
theorem BG.exitTo {B:Option Nat}{Y:BK P Γ L}{Q:QY P Γ L}{id:Nat}{k:List KI}{S:St}(h:(KD id k).isSome=true)(hk:A5 P Γ F B L Y Q (u4 id k) S):BG P Γ F B L Q k (.exit id) S Y:=by
 unfold u4 at hk;cases f:KD id k with
 | none=>rw [f] at h;cases h
 | some k'=>grind [P6,A5]
def Pj:List KI -> Option (Operand×Array Tmp×Code×Code×List KI)
 | .code (.rangeFunc g V a b)::k=>some (g,V,a,b,k)
 | _=>none
variable {α σ:Type}{D B:Nat}{K:List KI}{h:DH}{fr:List DV}
def BI.rangeAt (k:F=Fence.wide∨∃ l,F=Fence.wide.inRound l){Y:BK P Γ L}{Q:QY P Γ L}(R:List Exit)(n:(R.all λe=>(Kk e).isSome)=true)(g:Operand)(V:Array Tmp)(a b:Code)(t:List KI)(enc:α -> List DV)(l:List α)(H:σ -> DH)(y:α -> List DV)(f:α -> σ -> Option (σ×Nat)){d:σ}{rE:σ×Nat}(O:CY f l d=some rE) 
 (c:Pj K=some (g,V,a,b,t)) (i:Ad fr g= .it D) (hk:h[D]? =some (some (.iter (l.map enc)))) (j: ∀ x,(enc x).length=V.size) (L':Nat) (m:Nat.ble L L'=true) (o:fr.all (CP L')=true) (h0:h.set D none=H d) (u:(λx=>I6 fr V.toList (enc x))=y)
 (p: ∀ (l B:Nat) (N:BK P Γ L') (x:α) (s:σ) (r:σ×Nat),f x s=some r -> HJ P Γ (Fence.wide.inRound l) (some B) L' N (Cx L' R r.2 (H r.1)) a b ⟨y x,H s⟩)
 (q: ∀ e,(Exit.normal::R)[rE.2]? =some e -> BG P Γ F (some B) L Q t e ⟨fr,H rE.1⟩ Y):A5 P Γ F (some B) L Y Q K ⟨fr,h⟩:=by
 unfold Pj at c;split at c
 ·cases c;subst u;exact BI.rangeFold k R n enc l H f O i hk j (zJr m) o h0 p q
 ·cases c
theorem BI.rangeAt0 (k:F=Fence.wide∨∃ l,F=Fence.wide.inRound l){Y:BK P Γ L}{Q:QY P Γ L}(g:Operand)(V:Array Tmp)(a b:Code)(t:List KI)(enc:α -> List DV)(l:List α)(H:σ -> DH)(y:α -> List DV)(f:α -> σ -> Option σ){c I:σ}(O:CK f l c=some I) 
 (d:Pj K=some (g,V,a,b,t)) (n:Ad fr g= .it D) (hk:h[D]? =some (some (.iter (l.map enc)))) (i: ∀ x,(enc x).length=V.size) (L':Nat) (m:Nat.ble L L'=true) (o:fr.all (CP L')=true) (h0:h.set D none=H c) (u:(λx=>I6 fr V.toList (enc x))=y)
 (DU: ∀ (l B:Nat) (N:BK P Γ L') (x:α) (s r:σ),f x s=some r -> HJ P Γ (Fence.wide.inRound l) (some B) L' N (Cx L' [] 0 (H r)) a b ⟨y x,H s⟩)
 (p:A5 P Γ F (some B) L Y Q t ⟨fr,H I⟩):A5 P Γ F (some B) L Y Q K ⟨fr,h⟩:=by
 refine BI.rangeAt k [] rfl g V a b t enc l H y (λx s=>(f x s).map λq=>(q,0)) (rE:=(I,0)) (by rw [yk,O];rfl) d n hk i L' m o h0 u (λl' B' N' x s r j=>?_) (λe M=>?_)
 ·cases v:f x s with
  | none=>rw [v] at j;cases j
  | some q=>
   grind
 ·cases M;exact p
def O0 (t:Nat):Θ -> Code -> List KI -> Option (List KI)
 | ms,.seq a b,k=>match O0 t ms a (.code b::k) with
  | some r=>some r
  | none=>O0 t ms b k
 | ms,.cond _ a b,k=>match O0 t ms a k with
  | some r=>some r
  | none=>O0 t ms b k
 | ms,.block i c,k=>O0 t ms c (.blk i::k)
 | ms,.scope c,k=>O0 t ms c (.scp::k)
 | m::ms,.loop b,k=>O0 t ms b (.loopN m b::k)
 | _,.rangeFunc (.tmp T) V a b,k=>if T=t then some (.code (.rangeFunc (.tmp T) V a b)::k) else none
 | _,_,_=>none
def HI (c:Code)(t:Nat)(C:Θ):List KI:=(O0 t C c []).getD []
def Fk (c:Code)(id:Nat)(C:Θ):List KI:=(O1 id C c []).getD []
def Dr (c:Code)(id:Nat)(C:Θ):List KI:=(O3 id C c []).getD []
end
abbrev L1 (l:List DV):Nat -> DV:=λj=>l.getD j .any
abbrev AO {α:Type} [Inhabited α] (c:α -> List DV) (l:List α):Nat -> Nat -> DV:=λi j=>(c (l.getD i default)).getD j .any
abbrev Xv {α:Type}(c:α -> List DV):α -> Nat -> DV:=λx j=>(c x).getD j .any
def AX (c:AC):List DV:=[.int .i64 c.kind,.ints c.ce,.int .i64 c.set,.int .i64 c.other,.int .i64 c.lo,.int .i64 c.hi,.ints c.ru,.int .i64 c.rule,.int .i64 c.spot]
def AW (x:Ξ):List DV:=[.ints x]
def fZ (x:Ω):List DV:=[.bools x]
def A2 (x:Δ):List DV:=[.int .i64 x.1,.int .i64 x.2]
def AE (q:AA):List DV:=[.int .i64 q.ce,.int .i64 q.sy,.ints q.va,.sl 1 q.nb.length (AO AW q.nb),.sl 9 q.cons.length (AO AX q.cons)]
abbrev oC (l:List DV):Option DO:=some (.cells l)
abbrev oI (l:Ξ):Option DO:=some (.ints l)
abbrev oW (c:AC)(q:AA)(pos:Ξ)(k ln:Nat):Option DO:=some (.cells (AX c++AE q++[.ints pos,.msl k 1 0 ln]))
abbrev zQL:=@Nat.le_of_not_lt
abbrev zQM:=@List.cons_append
section
structure Dt (P:Program) where
 l:Nat
 encs:List (List DV)
 J:Nat -> (Ψ) -> (Ψ) -> World -> Prop
 Jx:(Ψ) -> (Ψ) -> World -> Prop
 hJ: ∀ i,Cw (J i)
 hJx:Cw Jx
 hy: ∀ i x args G R W1,encs[i]? =some x -> YV x R W1 args -> J i G R W1 -> D8 G R W1 -> YieldAt Fence.wide 0 P l args W1 λe W'=>
  AS (λk=>¬ (G k∨R k)) W1 W'/\ ((e= .returned (.bool true)/\ J (i+1) G R W')∨(e= .returned (.bool false)/\ Jx G R W'))
structure IY (Γ:Ay)(N G R:Ψ)(h:DH)(ρ:List AK)(w:World):Prop where
 sh:D8 G R w
 lo: ∀ b,b<Γ.ng -> R b
 own: ∀ b,MO h ρ b -> G b
 n: ∀ b,N b↔(b<w.heap.size/\ ¬ G b/\ ¬ R b)
def IY.ng {Γ:Ay}{N G R:Ψ}{h:DH}{ρ:List AK}{w:World}(y:IY Γ N G R h ρ w){b:Nat}(c:N b):Γ.ng<=b:=zQL λo=>((y.n b).1 c).2.2 (y.lo b o)
def QX (P:Program)(Γ:Ay)(L:Nat)(J:(Ψ) -> (Ψ) -> World -> Prop)(hJ:Cw J):BK P Γ L where
 I:=λN h ρ w=>∃ G R,J G R w/\ IY Γ N G R h ρ w
 st:=by
  rintro N h ρ w h' ρ' w' ⟨G,R,a,y⟩ H d st _;have l:=st.upd.size;have Z: ∀ b,(G b∨(w.heap.size<=b/\ b<w'.heap.size)) -> ¬ R b:=λb hb j=>hb.elim (λh=>y.sh.dis b h j) λh=>by have:=y.sh.lt b (.inr j);omega
  have A: ∀ b,(G b∨(w.heap.size<=b/\ b<w'.heap.size))∨R b -> b<w'.heap.size:=λb hb=>by
   rcases hb with (hb | hb) | hb
   ·exact zCD (y.sh.lt b (.inl hb)) l
   ·exact hb.2
   ·exact zCD (y.sh.lt b (.inr hb)) l
  refine ⟨λb=>G b∨(w.heap.size<=b/\ b<w'.heap.size),R,hJ G R _ R w w' a (st.upd.mono λb _ hb=>y.own b hb) (λk hk=>hk.imp id λh=>h.1) (λk hk=>.inl hk) (λk hk=>hk.imp .inl id) Z A,⟨Z,A⟩,y.lo,λb hb=>?_,λb=>?_⟩
  ·rcases st.grow b hb with h | h
   ·exact .inl (y.own b h)
   ·obtain ⟨k,o,p,q,s,x⟩:=hb;obtain ⟨_,_,c,t,z,e⟩:=d.cel k o p b q s x
    grind
  ·rw [y.n]
   grind
section
variable {P:Program} {Γ:Ay}
def Dt.Y (C:Dt P)(Γ:Ay)(L i:Nat):BK P Γ L:=QX P Γ L (C.J i) (C.hJ i)
def Dt.X (C:Dt P)(Γ:Ay)(L:Nat):BK P Γ L:=QX P Γ L C.Jx C.hJx
def Dt.Q (C:Dt P)(Γ:Ay)(L:Nat):QY P Γ L:=λe _ Y=>(e= .normal∨e= .ret)/\ (Y=C.Y Γ L C.encs.length∨Y=C.X Γ L)
def Uo (P:Program)(Γ:Ay)(ops:Array Oper)(p:Nat)(S:St)(Q:BS):Option (List DV×Nat×St×St×List Prop):=match EL P Γ ops (ops.toList.take p) S Q with
 | none=>none
 | some (a,vs,m)=>match ops[p]? with
  | none=>none
  | some o=>match K3 ops a o with
   | some true=>match o.op with
    | .call c=>match c.callee with
     | .value f=>match Ad a.fr f with
      | .yl l=>match (c.args.toList.map (Ad a.fr)).all GK with
       | false=>none
       | true=>match EL P Γ ops (ops.toList.drop (p+1)) ⟨Cn a.fr o.dst (.bool true),a.h⟩ m with
        | none=>none
        | some (ST,b,n)=>match EL P Γ ops (ops.toList.drop (p+1)) ⟨Cn a.fr o.dst (.bool false),a.h⟩ n with
         | none=>none
         | some (r,d,_)=>some (c.args.toList.map (Ad a.fr),l,ST,r,vs++(b++d))
      | _=>none
     | _=>none
    | _=>none
   | _=>none
end
section
variable {P:Program} {Γ:Ay} {N:Ψ} {S:St} {ρ:List AK} {a:Act} {w:World} {F:Fence}
variable {ops:Array Oper}
theorem T3 (b:Du F P)(q:Ct ops=true){Q:Exit -> Act -> World -> Prop}{d:List Oper}: ∀ (l:List Oper) (_: ∀ o∈l,o∈ops) {S:St} {ρ:List AK} {a:Act} {w:World} {g:BS} {S':St} {vs:List Prop} {B:BS},
 AU P Γ N S ρ a w -> EL P Γ ops l S g=some (S',vs,B) -> BX vs ->
 (∀ ρ' a' w',AU P Γ N S' ρ' a' w' -> DF S.h ρ w S'.h ρ' w' -> a'.defers=a.defers -> wpListIn F 0 P ops Q d a' w') -> wpListIn F 0 P ops Q (l++d) a w
 | [],_,S,ρ,a,w,g,S',vs,B,R,h,_,u=>by
  cases h;exact u ρ a w R (DF.refl _ _ _) rfl
 | o::rest,s,S,ρ,a,w,g,S',vs,B,R,h,t,u=>by
  have x: ∀ c,o.op≠.defer c:=by
   obtain ⟨j,hj,e⟩:=Array.getElem_of_mem (s o Z3)
   grind [Ct]
  have Y: ∀ o∈rest,o∈ops:=λo y=>s o (by simp [y])
  have C: ∀ v,(a.put o.dst v).defers=a.defers:=λv=>by cases y:o.dst <;> simp [Act.put]
  simp only [EL] at h;rw [zQM];unfold wpListIn;split at h
  ·split at h
   ·cases h
   ·rename_i z D ext1 G7 i;split at h
    ·cases h
    ·rename_i E G I k;cases h;obtain ⟨V,H⟩:=Da.1 t;exact oR b R x i V λρ' a' w' R' st J _=>T3 b q rest Y R' k H λρ'' m K L n p=>u ρ'' m K L (st.trans n) (p.trans J)
  ·split at h
   ·cases h
   ·rename_i z D fM i;split at h
    ·cases h
    ·rename_i E G I k;cases h;obtain ⟨V,H⟩:=Da.1 t;obtain ⟨M,O⟩:=bO R i V
     have A: ∀ v,AU P Γ N z ρ (a.put o.dst v) w -> wpListIn F 0 P ops Q (rest++d) (a.put o.dst v) w:=λv R'=>
      T3 b q rest Y R' k H λρ'' m K L n p=>u ρ'' m K L (by rw [←M];exact n) (p.trans (C v))
     rcases O with ⟨X,v,T,r⟩ | ⟨X,r⟩
     ·rw [zAE X];refine ⟨λf _=>b.fn f,?_⟩;rw [zLv _ _ _ x,T w (Keep.ofExt (Az.refl w))];exact A v r
     ·rw [zEO Z4];exact ⟨λf _=>b.fn f,A undef r⟩
theorem sk {l:Nat}{ρ':Operand -> Value}{o:Oper}{c:Call}{f:Operand}{vs:List Value}(y:o.op= .call c)(n:c.callee= .value f)(O:ρ' f= .func (.yield l) #[] #[])(hv:c.args.toList.map ρ'=vs):(execOp ρ' o).run P w=(Instr.yield l vs.toArray).run P w:=by
 unfold execOp;rw [y]
 show ((resolve ρ' c o.type)>>=λd=>invoke d.target d.args).run P w=_
 unfold resolve;rw [n];simp only [Deferred.ofValue,O]
 have e: #[]++Array.map ρ' c.args=vs.toArray:=by
  grind
 have M:((pure { target:=.fn (.yield l) #[],args:=#[]++Array.map ρ' c.args }:Sem Deferred)>>=λd=>invoke d.target d.args).run P w=(Instr.yield l (#[]++Array.map ρ' c.args)).run P w:=rfl;rw [M,e]
variable {R:Ψ}
theorem YV.of {M:Ψ}{ρ:List AK}{g:Operand -> DV}{f:Operand -> Value}(a: ∀ x,AI M w (g x) ρ (f x))(Y: ∀ b,b<w.heap.size/\ ¬ R b -> M b): ∀ {l:List Operand},(l.map g).all GK=true -> YV (l.map g) R w (l.map f).toArray:=λ{l} h=>by
 refine ⟨Z3,λj i=>?_⟩;have c:j<l.length:=by simpa using i
 have B:(l.map g).getD j .any=g l[j]:=Z4
 have F:(l.map f).toArray.getD j undef=f l[j]:=by simp_all
 rw [B,F];have u:=OO (zBk.1 h (g l[j]) (zL1.2 ⟨_,List.getElem_mem c,rfl⟩));exact (u _ _ _ _ (a l[j])).out _ (DK Y [])
variable {h:DH}
theorem IY.part {N G:Ψ}{I:(Ψ) -> (Ψ) -> World -> Prop}(c:Cw I)(hi:I G R w)(y:IY Γ N G R h ρ w): ∃ R',I (MO h ρ) R' w/\ IY Γ N (MO h ρ) R' h ρ w/\ (∀ b,b<w.heap.size/\ ¬ R' b -> MS N h ρ b)/\ (∀ b,R b -> R' b):=by
 have v: ∀ b,MO h ρ b -> ¬ (R b∨(G b/\ ¬ MO h ρ b)):=λb z hx=>hx.elim (y.sh.dis b (y.own b z)) λhx=>hx.2 z
 have o: ∀ b,MO h ρ b∨(R b∨(G b/\ ¬ MO h ρ b)) -> b<w.heap.size:=λb hx=>by
  rcases hx with hx | hx | hx
  ·exact y.sh.lt b (.inl (y.own b hx))
  ·exact y.sh.lt b (.inr hx)
  ·exact y.sh.lt b (.inl hx.1)
 have t: ∀ b,G b -> MO h ρ b∨(R b∨(G b/\ ¬ MO h ρ b)):=λb a=>(Classical.em (MO h ρ b)).imp id λz=>.inr ⟨a,z⟩
 refine ⟨λb=>R b∨(G b/\ ¬ MO h ρ b),c G R _ _ w w hi (AS.refl _ _) (λk hk=>.inl (y.own k hk)) (λk hk=>hk.imp id λh=>.inl h.1) (λk hk=>hk.elim (t k) λh=>.inr (.inl h)) v o,⟨⟨v,o⟩,λb h=>.inl (y.lo b h),λ_ h=>h,λb=>(y.n b).trans ⟨λ⟨q,s,x⟩=>⟨q,λz=>s (y.own b z),λhx=>hx.elim x λhx=>s hx.1⟩,λ⟨q,s,x⟩=>⟨q,λa=>(t b a).elim s x,λj=>x (.inl j)⟩⟩⟩,λb ⟨q,s⟩=>?_,λb h=>.inl h⟩
 by_cases a:G b
 ·grind [MS]
 ·exact .inl ((y.n b).2 ⟨q,a,λj=>s (.inl j)⟩)
def IY.later {N R':Ψ}{p:World}(z:IY Γ N (MO h ρ) R' h ρ w)(H:As P Γ N h ρ w)(t:AS (λk=>¬ (MO h ρ k∨R' k)) w p):As P Γ (λO=>O<p.heap.size/\ ¬ MO h ρ O/\ ¬ R' O) h ρ p/\ BL (MS N h ρ) w ρ (MS (λO=>O<p.heap.size/\ ¬ MO h ρ O/\ ¬ R' O) h ρ) p ρ:=by
 have D:AS N w p:=t.mono λO A u=>(z.n O).2 ⟨A,λd=>u (.inl d),λd=>u (.inr d)⟩
 have a: ∀ O,N O -> N O/\ Γ.ng<=O:=λO c=>⟨c,z.ng c⟩
 have o: ∀ O,(O<p.heap.size/\ ¬ MO h ρ O/\ ¬ R' O) -> N O∨w.heap.size<=O:=λO ⟨q,s,x⟩=>by
  rcases zKL O w.heap.size with h | h
  ·exact .inl ((z.n O).2 ⟨h,s,x⟩)
  ·exact .inr h
 exact ⟨H.foreign D a o λO ⟨q,_,x⟩=>⟨q,zQL λb=>x (z.lo O b)⟩,BL.foreign (Γ:=Γ) D a o⟩
theorem Tr.yield {L:Nat}{C:Dt P}{i:Nat}{Q:QY P Γ L}(z:Du Fence.wide P){id:Nat}{p:Nat}{An:BS}{x:List DV}{ST E:St}{vs:List Prop}(A:Ct ops=true) 
 (h:Uo P Γ ops p S An=some (x,C.l,ST,E,vs)) (hv:BX vs) (F:C.encs[i]? =some x) (hT:Q .normal ST (C.Y Γ L (i+1))) (hE:Q .normal E (C.X Γ L)):Tr P Γ Fence.wide none L (C.Y Γ L i) (.region id ops false) S Q:=λN ρ a w R y m b=>by
 unfold Uo at h;split at h
 ·cases h
 rename_i j DQ G7 h1;split at h
 ·cases h
 rename_i o K;split at h
 ·rename_i hw;split at h
  ·rename_i c Qo;split at h
   ·rename_i f hc;split at h
    ·rename_i l hl;split at h
     ·cases h
     rename_i Wk;split at h
     ·cases h
     rename_i ST' vT G6 h2;split at h
     ·cases h
     rename_i SF' vF Me h3;cases h;obtain ⟨Bp,Ec⟩:=Da.1 hv;obtain ⟨W,G⟩:=Da.1 Ec;have n:p<ops.toList.length:=Z4
     have H:ops.toList=ops.toList.take p++o::ops.toList.drop (p+1):=by
      grind [List.drop_eq_getElem_cons,List.take_append_drop]
     have I: ∀ o'∈ops.toList,o'∈ops:=λo' h=>by simpa using h
     have hd: ∀ c,o.op≠.defer c:=JJ A K;refine zL4 ?_;rw [H];refine T3 z A _ (λo' u=>I o' (List.mem_of_mem_take u)) R h1 Bp λρ1 q w1 r M Qw=>?_
     obtain ⟨G0,R0,y1,y2⟩:=(C.Y Γ L i).st y R.hr r.hr M.st (λk p _ n=>M.pl k p n);obtain ⟨R',z1,B,z3,_⟩:=IY.part (C.hJ i) y1 y2;obtain ⟨fn,tmps,RR,body,hy,hR⟩:=C.hy i _ _ _ R' w1 F (YV.of (g:=Ad j.fr) (f:=q.eval) (λx=>BV r x) z3 Wk) z1 B.sh;unfold wpListIn;rw [zAE (I2 r hw)]
     have mX:q.eval f= .func (.yield C.l) #[] #[]:=by
      have T:=BV r f;rw [hl] at T;exact T
     refine ⟨λf _=>z.fn f,?_⟩;rw [zLv _ _ _ hd,sk Qo hc mX rfl,hy];refine ⟨λF=>(by cases F),hR.mono ?_⟩;have AT:q.defers= []:=Qw.trans m;rintro e D ⟨U,s⟩;obtain ⟨H',fo⟩:=B.later r.hr U;have V:AU P Γ (λO=>O<D.heap.size/\ ¬ MO j.h ρ1 O/\ ¬ R' O) j ρ1 q D:=⟨H',r.fr.out fo⟩;have C3: ∀ v,(q.put o.dst v).defers=q.defers:=λv=>by cases K:o.dst <;> simp [Act.put]
     have yy:IY Γ (λO=>O<D.heap.size/\ ¬ MO j.h ρ1 O/\ ¬ R' O) (MO j.h ρ1) R' j.h ρ1 D:=⟨B.sh.upd U,B.lo,λ_ h=>h,λ_=>Iff.rfl⟩;rcases s with ⟨rfl,s⟩ | ⟨rfl,s⟩
     ·have R':=HP V o.dst (d:=.bool true) (v:=.bool true) rfl;refine Lp z A _ (λo' u=>I o' (List.mem_of_mem_drop u)) R' h2 W λρ2 a2 w2 Z t J=>?_
      refine ⟨ST,ρ2,_,C.Y Γ L (i+1),hT,Z,(C.Y Γ L (i+1)).st ⟨_,_,s,yy⟩ R'.hr Z.hr t.st (λk p _ n=>t.pl k p n),?_,Bd.none⟩
      grind [Jk]
     ·have R':=HP V o.dst (d:=.bool false) (v:=.bool false) rfl;refine Lp z A _ (λo' u=>I o' (List.mem_of_mem_drop u)) R' h3 G λρ2 a2 w2 Z t J=>?_
      refine ⟨E,ρ2,_,C.X Γ L,hE,Z,(C.X Γ L).st ⟨_,_,s,yy⟩ R'.hr Z.hr t.st (λk p _ n=>t.pl k p n),?_,Bd.none⟩
      grind [Jk]
    ·cases h
   ·cases h
  ·cases h
 ·cases h
end
variable {fn:Func}{f:Nat}{P:Program}
theorem Jd (hf:P.funcs[f]? =some fn)(hb:fn.body.isSome=true)(u:(fn.name== "runtime.NumGoroutine")=false)(args:Array Value)(W:World):(callFunc f args).run P W= .ok (.enter f args) W:=by
 have Tq: ¬ fn.name= "runtime.NumGoroutine" :=by simpa using u
 have EJ: ¬ fn.body=none:=Z4
 simp_all [callFunc]
variable {ds:List DV}{Γ:Ay}
theorem z7 (O:P.funcs[f]? =some fn)(k:fn.body.isSome=true){L:Nat}{Y:BK P Γ L}{Q:QY P Γ L}{h:DH}(T:A5 P Γ Fence.wide none L Y Q [.code (Ac fn)] ⟨ds++List.replicate (fn.ntmps-ds.length) .any,h⟩) 
 {N:Ψ} {ρ:List AK} {W:World} {args:Array Value} (H:As P Γ N h ρ W) (fr:BB (MS N h ρ) W ρ ds args) (y:Y.I N h ρ W) {R:Ending -> World -> Prop}
 (u: ∀ e S' ρ' a b a' p,Q e S' b -> AU P Γ a S' ρ' a' p -> b.I a S'.h ρ' p -> match e with
  | .normal | .ret=>∃ v,(results fn a'.tmps).run P p= .ok v p/\ R (.returned v) p
  | .panic c=>R (.panicked c) p
  | _=>False):CallsIn Fence.wide 0 P f args W R:=by
 cases n:fn.body with
 | none=>rw [n] at k;cases k
 | some d=>
 have l:Ac fn=d:=by unfold Ac;rw [n];rfl
 rw [l] at T;refine callsIn_of_wp O n trivial (zMY ((show Tr P Γ Fence.wide none L Y d _ (BG P Γ Fence.wide none L Q []) from T) N ρ _ W ⟨H,?_⟩ y rfl Bd.none) ?_) rfl
 ·rw [←fr.1];grind [BB.append,BB.anys]
 ·rintro e a' p ⟨S',ρ',a,b,q,s,x,g,_⟩;cases e with
  | outgrown=>exact q.elim
  | normal=>obtain ⟨v,i,j⟩:=u _ S' ρ' a b a' p q s x;exact ⟨g,v,i,j⟩
  | ret=>obtain ⟨v,i,j⟩:=u _ S' ρ' a b a' p q s x;exact ⟨g,v,i,j⟩
  | exit id=>exact (u _ S' ρ' a b a' p q s x).elim
  | goto t=>exact (u _ S' ρ' a b a' p q s x).elim
  | panic c=>exact ⟨g,u _ S' ρ' a b a' p q s x⟩
theorem ES.iterN {r m:Nat}{c:Nat -> DV}{h0:DH}{encs:List (List DV)}(z:ES P Γ f ds [] (.fn r m c) h0 true)(FU:ds.all GK=true) 
 (O:P.funcs[r]? =some fn) (a:fn.body.isSome=true) (hn:(fn.name== "runtime.NumGoroutine")=false) (B:fn.results= #[])
 (X: ∀ C:Dt P,C.encs=encs -> A5 P Γ Fence.wide none h0.length (C.Y Γ h0.length 0) (C.Q Γ h0.length) [.code (Ac fn)] ⟨.yl C.l::(List.range m).map c++List.replicate (fn.ntmps-(m+1)) .any,h0⟩) (h:DH):ES P Γ f ds h (.it h.length) (h++[some (.iter encs)]) true:=by
 refine ⟨z.1,λN ρ w args HR F=>?_⟩;refine (z.2 (MS N h ρ) [] w args (Tj (λb a=>HR.lt2 a) HR.gi) ⟨F.1,λi hi=>?_⟩).mono ?_
 ·have hx:=OO (zBk.1 FU (ds.getD i .any) (by simp [hi]));exact AI.out _ (DK (λb a=>Rg.1 a) []) (hx _ _ _ _ (F.2 i hi))
 ·rintro e w' ⟨v,rfl,⟨⟨ρ',D,g2,g3,g4⟩,E⟩⟩;have H:=E rfl;obtain ⟨I,hv,s,Ts⟩:=g2;have JV: ∀ b,MO h0 ρ' b -> w.heap.size<=b:=λb a=>(g3.grow b a).resolve_left λ⟨k,o',p',d,_⟩=>by simp at d
  have Gi: ∀ b,MO h0 ρ' b -> Γ.ng<=b/\ ¬ MS N h ρ b/\ Ds w' b:=λb ⟨k,o,q,d,K,x⟩=>D.cel k o q b d K x
  have Ck:Γ.ng<=w.heap.size:=Γ.lo _ HR.gi;have BR:=H.size
  have A: ∀ b,MO h0 ρ' b -> b<w'.heap.size:=λb a=>by
   grind
  have lo: ∀ b,b<Γ.ng -> b<w'.heap.size/\ ¬ MS (MS N h ρ) h0 ρ' b:=λb a=>⟨zCD a (zA4 Ck BR),λhx=>by
   rcases hx with hx | hx
   ·have:=(HR.lt2 hx).2;omega
   grind⟩
  let p:AK:=⟨0,0,0,v,λb=>MO h0 ρ' b⟩
  have L: ∀ b,p.foot b -> w.heap.size<=b/\ Ds w' b:=λb a=>⟨JV b a,(Gi b a).2.2⟩
  refine ⟨v,rfl,⟨⟨ρ++[p],HR.snoc H L ?_,⟨p,by rw [←HR.len];simp,rfl⟩,A3.snoc HR H λb a=>(L b a).1,λ_ _ h=>Ef h⟩,E⟩⟩;refine ⟨r,I,λb=>b<w'.heap.size/\ ¬ MS (MS N h ρ) h0 ρ' b,⟨hv,λargs W=>Jd O a hn args W⟩,?_,λb a=>⟨λhm=>?_,a.1⟩,A⟩
  ·intro l J Jx W hJ y S hY nH _
   let C:Dt P:=⟨l,encs,J,Jx,hJ,y,hY⟩
   have M: ∀ b,(b<W.heap.size/\ ¬ MO h0 ρ' b/\ ¬ (b<w'.heap.size/\ ¬ MS (MS N h ρ) h0 ρ' b)) -> MS N h ρ b∨w'.heap.size<=b:=λb ⟨_,x,q4⟩=>by
    grind [MS]
   have U:AS (λb=>MS N h ρ b) w' W:=S.mono λb A hx=>by
    grind [MS]
   have V: ∀ b,MS N h ρ b -> MS N h ρ b/\ Γ.ng<=b:=λb a=>⟨a,(HR.lt2 a).2⟩
   have HW:As P Γ (λb=>b<W.heap.size/\ ¬ MO h0 ρ' b/\ ¬ (b<w'.heap.size/\ ¬ MS (MS N h ρ) h0 ρ' b)) h0 ρ' W:=D.foreign U V M λb a=>⟨a.1,zQL λs=>a.2.2 (lo b s)⟩
   have nR:BB (MS (MS N h ρ) h0 ρ') w' ρ' ((List.range m).map c) I:=⟨by simp [s],λj Z=>by
    simp_all⟩
   have nS:=nR.out (BL.foreign (Γ:=Γ) U V M);have T:=X C rfl;have e3:fn.ntmps-(m+1)=fn.ntmps-(.yl C.l::(List.range m).map c).length:=Z3
   rw [e3] at T
   refine z7 O a T HW (BB.append (l:=[.yl C.l]) (t:=#[.func (.yield l) #[] #[]]) ⟨rfl,λj Z=>by
    have:j=0:=Nat.lt_one_iff.1 Z;subst this;rfl⟩ nS) ⟨_,_,nH,⟨⟨λb a hr=>hr.2 (.inr a),λb a=>zCD (a.elim (A b) λh=>h.1) S.size⟩,lo,λ_ h=>h,λ_=>Iff.rfl⟩⟩ ?_
   rintro e S' ρ2 N' Y' a' g d K x
   have n: ∃ v,(results fn a'.tmps).run P g= .ok v g/\ ∃ G R,D8 G R g/\ ((C.J encs.length G R g/\ Uk (.returned v) G R g)∨((∃ u,Ending.returned v= .returned u)/\ C.Jx G R g)):=by
    obtain ⟨_,(rfl | rfl)⟩:=d <;> obtain ⟨G',R',k1,k2⟩:=x
    ·exact ⟨_,results_none B _ _ _,G',R',k2.sh,.inl ⟨k1,_,rfl⟩⟩
    ·exact ⟨_,results_none B _ _ _,G',R',k2.sh,.inr ⟨⟨_,rfl⟩,k1⟩⟩
   cases e with
   | normal=>exact n
   | ret=>exact n
   | exit id=>exact absurd d.1 Z3
   | goto t=>exact absurd d.1 Z3
   | panic ch=>exact absurd d.1 Z3
   | outgrown=>exact absurd d.1 Z3
  ·rcases hm with hm | hm
   ·exact a.2 (.inl (.inl hm))
   ·rcases MO.snoc HR hm with hm | hm
    ·exact a.2 (.inl (.inr hm))
    ·exact a.2 (.inr hm)
section
variable {P:Program} {Γ:Ay}
def Pn:List KI -> Option (Array Oper×List KI)
 | .code (.region _ ops false)::k=>some (ops,k)
 | _=>none
def jr (C σ:Θ)(L:Nat)(r:List DV×Nat×St×St×List Prop):List DV×Nat×List DV×DH×List DV×DH×List Prop×Bool:= (r.1,r.2.1,(Proofs.YtodinaconebmdaaGreatDoor.comp C σ r.2.2.1).fr,(Proofs.YtodinaconebmdaaGreatDoor.comp C σ r.2.2.1).h,(Proofs.YtodinaconebmdaaGreatDoor.comp C σ r.2.2.2.1).fr,(Proofs.YtodinaconebmdaaGreatDoor.comp C σ r.2.2.2.1).h,r.2.2.2.2,K7 σ L r.2.2.1.h.length&&K7 σ L r.2.2.2.1.h.length)
variable {i:Nat}
def A5.yieldAt {L:Nat}{C:Dt P}{Q:QY P Γ L}{S:St}{K k:List KI}{ops:Array Oper}(f:Du Fence.wide P)(b:Pn K=some (ops,k))(u:Ct ops=true)(p:Nat)(c:BS){x:List DV}(a σ:Θ)(d:List DV)(e:DH)(y:List DV)(H:DH)(vs:List Prop) 
 (h:(Uo P Γ ops p S c).map (jr a σ L)=some (x,C.l,d,e,y,H,vs,true)) (s:BX vs) (g:C.encs[i]? =some x) (n:JM k=true) (m:A5 P Γ Fence.wide none L (C.Y Γ L (i+1)) Q k ⟨d,e⟩) (o:A5 P Γ Fence.wide none L (C.X Γ L) Q k ⟨y,H⟩):A5 P Γ Fence.wide none L (C.Y Γ L i) Q K S:=by
 unfold Pn at b;split at b
 ·cases b;cases j:Uo P Γ ops p S c with
  | none=>rw [j] at h;cases h
  | some r=>
   obtain ⟨xs,l,ST,q,DQ⟩:=r;rw [j] at h;simp only [zLo,jr,zJw,zKR,zAD] at h;obtain ⟨rfl,rfl,rfl,rfl,rfl,rfl,rfl,B,v⟩:=h;exact Tr.yield f u j s g (BI.le (A7.comp a σ ST B) n m) (BI.le (A7.comp a σ q v) n o)
 ·cases b
variable {α β:Type}
theorem TO {o:Option α}{f:α -> β}{r:β}(h:o.map f=some r): ∃ a,o=some a/\ r=f a:=by
 cases o with
 | none=>cases h
 | some a=>grind
theorem nk {l:List β}{f:α -> β}{x:α}{r:List α}(hd:l.drop i=(x::r).map f):l[i]? =some (f x)/\ i+1<=l.length/\ l.drop (i+1)=r.map f:=by
 grind [List.drop_eq_nil_of_le,List.drop_eq_getElem_cons]
def Xy {l:List β}{f:α -> β}(hi:i<=l.length)(v:l.drop i=([]:List α).map f):i=l.length:=by
 have:=congrArg List.length v;simp at this;omega
end
def Br (x:Int):List DV:=[.int .i64 x]
def RB (x:Δ):List DV:=[.int .i64 x.1,.int .i64 x.2]
end
section
def Jy:DV -> Bool
 | .ints _=>false
 | .bools _=>false
 | .sl .. =>false
 | .fp .. =>false
 | .agg m f=>(List.range m).all λj=>Jy (f j)
 | .tup m f=>(List.range m).all λj=>Jy (f j)
 | .fn _ m f=>(List.range m).all λj=>Jy (f j)
 | _=>true
def VH:Option DO -> Bool
 | none=>true
 | some (.cells l)=>l.all Jy
 | some (.ints _)=>true
 | some (.bools _)=>true
 | some (.mo _)=>true
 | _=>false
def MOf (H:DH)(σ:Θ)(ρ:List AK)(b:Nat):Prop:=∃ (k:Nat) (o:DO) (p:AK),k∈σ/\ H[k]? =some (some o)/\ ρ[k]? =some p/\ p.foot b
def NN (H:DH)(σ:Θ)(d W:DV):Prop:=∀ (P:Program) (Γ:Ay) (N:Ψ) (ρ:List AK) (w:World) (v:Value),As P Γ N H ρ w -> AI (MS N H ρ) w d ρ v -> AI (MOf H σ ρ) w W [] v
variable {ρ ρ':List AK}{b:Nat}{σ:Θ}{w:World}{M M':Ψ}
theorem rN (y: ∀ (k:Nat) (p:AK),ρ[k]? =some p -> ρ'[DI σ b k]? =some p): ∀ (d:DV) {v:Value},Jy d=true -> AI M w d ρ v -> AI M' w (up σ b d) ρ' v:=by
 intro d
 induction d with
 | any=>intro v _ _;trivial
 | nils=>intro v _ h;exact h
 | int k n=>intro v _ h;exact h
 | bool b=>intro v _ h;exact h
 | str s=>intro v _ h;exact h
 | ints l=>intro v q h;cases q
 | bools l=>intro v q h;cases q
 | sl m n f _=>intro v q h;cases q
 | fp m f _=>intro v q h;cases q
 | agg m f z=>
  rintro v q ⟨cs,e,P,h⟩;simp only [Jy,zBk,zIN] at q;exact ⟨cs,e,P,λj x=>let ⟨u,A,B⟩:=h j x;⟨u,A,K5 x (z j (q j x) B)⟩⟩
 | tup m f z=>
  rintro v q ⟨cs,e,P,h⟩;simp only [Jy,zBk,zIN] at q;exact ⟨cs,e,P,λj x=>let ⟨u,A,B⟩:=h j x;⟨u,A,K5 x (z j (q j x) B)⟩⟩
 | fn g m c z=>
  rintro v q ⟨cs,e,P,h⟩;simp only [Jy,zBk,zIN] at q;exact ⟨cs,e,P,λj x=>let ⟨u,A,B⟩:=h j x;⟨u,A,K5 x (z j (q j x) B)⟩⟩
 | ref k j=>rintro v _ ⟨p,t,r⟩;exact ⟨p,y k p t,r⟩
 | msl k m o n=>rintro v _ ⟨p,cap,t,r⟩;exact ⟨p,cap,y k p t,r⟩
 | mp k m i j=>rintro v _ ⟨p,t,r⟩;exact ⟨p,y k p t,r⟩
 | it k=>rintro v _ ⟨p,t,r⟩;exact ⟨p,y k p t,r⟩
 | cst u=>intro v _ h;exact h
 | yl l=>intro v _ h;exact h
 | mse k m o n=>rintro v _ ⟨p,a,cap,t,r⟩;exact ⟨p,a,cap,y k p t,r⟩
 | gr k=>rintro v _ ⟨p,a,n,cap,t,r⟩;exact ⟨p,a,n,cap,y k p t,r⟩
 | mri k i=>rintro v _ ⟨p,vs,t,r⟩;exact ⟨p,vs,y k p t,r⟩
theorem zCV {P:Program}{p:AK}(hρ: ∀ (k:Nat) (p:AK),ρ[k]? =some p -> ρ'[DI σ b k]? =some p){o o':DO}(a:VH (some o)=true)(y:C0 σ b (some o)=some o')(h:BT P M w ρ p o):BT P M' w ρ' p o':=by
 cases o with
 | cells l=>
  cases y
  show AY w p (l.map (up σ b)).length _
  rw [zJu];refine AY.out h rfl λj u hj t=>?_
  grind [rN,VH]
 | ints l=>cases y;exact AY.out h rfl λj u _ t=>t
 | bools l=>cases y;exact AY.out h rfl λj u _ t=>t
 | arr m n f=>cases a
 | gro m n f=>cases a
 | iter encs=>cases a
 | ro l=>cases a
 | mo x=>cases y;exact h
section
variable {P:Program} {Γ:Ay}
theorem ES.embedS {f:Nat}{ds:List DV}{h:DH}{d:DV}{h':DH}{ext:Bool}(E8:ES P Γ f ds h d h' ext)(σ:Θ)(H:DH)(hn:σ.Nodup)(Ab: ∀ k∈σ,k<H.length)(hl:σ.length=h.length)(De:h.length<=h'.length) 
 (hh:(σ.map λk=>H.getD k none)=h.map (C0 σ H.length)) {W:List DV} (Ag:W.length=ds.length) (zMM: ∀ i,i<ds.length -> W.getD i .any=up σ H.length (ds.getD i .any)∨NN H σ (W.getD i .any) (ds.getD i .any)) (hsd:Jy d=true) (Il:h'.all VH=true):ES P Γ f W H (up σ H.length d) (DZ H σ h') ext:=by
 refine ⟨E8.1,λN ρ w args HR CN=>?_⟩;obtain ⟨ρ0,lA⟩: ∃ ρ0,ρ0=σ.map λk=>ρ.getD k kI:=⟨_,rfl⟩
 have kY:ρ0.length=σ.length:=by rw [lA];simp
 have I: ∀ {i k:Nat},σ[i]? =some k -> ρ0[i]? =ρ[k]? :=λ{i k} hk=>by
  have Fw:k<ρ.length:=by rw [HR.len];exact Ab k (zJ1 hk)
  grind
 have re: ∀ {i:Nat},i<σ.length -> ∃ k,σ[i]? =some k/\ DI σ H.length i=k:=λ{i} hi=>by
  simp_all [DI]
 have C: ∀ {i:Nat} {o:DO},h[i]? =some (some o) -> ∃ k o',σ[i]? =some k/\ H[k]? =some (some o')/\ C0 σ H.length (some o)=some o':=λ{i o} hi=>by
  have My:i<σ.length:=Z4
  obtain ⟨k,hk,_⟩:=re My;have e:=congrArg (·[i]?) hh;simp only [zKG,hk,hi,zLo] at e;have FT:=Ab k (zJ1 hk);have e:H.getD k none=C0 σ H.length (some o):=zA2 e;have F: ∃ o',C0 σ H.length (some o)=some o':=by cases o <;> exact ⟨_,rfl⟩
  grind
 have zH1: ∀ {i k:Nat} {o':DO},σ[i]? =some k -> H[k]? =some (some o') -> ∃ o,h[i]? =some (some o)/\ C0 σ H.length (some o)=some o':=λ{i k o'} hk ho=>by
  have My:i<h.length:=Z4
  have e:=congrArg (·[i]?) hh
  grind [Rx]
 obtain ⟨S,dt⟩: ∃ S:Ψ,S=λ_=>False:=⟨_,rfl⟩
 have J: ∀ b,MO h ρ0 b -> MO H ρ b:=by
  rintro b ⟨i,o,p,g,r,R⟩;obtain ⟨k,o',B,F,_⟩:=C g;exact ⟨k,o',p,F,(I B).symm.trans r,R⟩
 have kJ: ∀ b,MS S h ρ0 b -> MS N H ρ b:=by
  rintro b (hb | hb)
  ·rw [dt] at hb;exact hb.elim
  ·exact .inr (J b hb)
 have dn: ∀ (k:Nat) (p:AK),ρ[DI σ H.length k]? =some p -> ρ0[k]? =some p:=λk p j=>by
  by_cases hk:k<σ.length
  ·grind
  ·unfold DI at j;rw [zEO hk] at j;have:=(zJ0.1 j).1;rw [HR.len] at this;omega
 have Q: ∀ {k:Nat} {o:DO} {p:AK} {b:Nat},EW σ k=none -> H[k]? =some (some o) -> ρ[k]? =some p -> p.foot b -> ¬ MO h ρ0 b:=by
  rintro T K u b q s a y ⟨i,o,p,g,r,R⟩;obtain ⟨k,o',B,F,_⟩:=C g;have j:=(I B).symm.trans r;refine HR.dis k T o' K p u b ?_ F s j a R y;rintro rfl;rw [Sh hn B] at q;cases q
 have H0:As P Γ S h ρ0 w:=by
  refine ⟨by rw [kY,hl],λi o hi=>?_,λi o p b g r R=>?_,λi X o1 K U u b Ah g r R g4 g5 g6=>?_,λb hb=>HR.lt2 (kJ b (.inl hb)),HR.gi⟩
  ·obtain ⟨k,o',B,F,e3⟩:=C hi;obtain ⟨p,j,hr⟩:=HR.obj k o' F
   grind [zT]
  ·obtain ⟨k,o',B,F,e3⟩:=C g;obtain ⟨q,s,a⟩:=HR.cel k o' p b F ((I B).symm.trans r) R
   grind
  ·obtain ⟨k,o',B,F,e3⟩:=C g;obtain ⟨T,j9,UG,Xx,e3'⟩:=C r;refine HR.dis k T o' j9 U u b ?_ F Xx ((I B).symm.trans R) ((I UG).symm.trans g4) g5 g6;rintro rfl;have l:=Sh hn B;have m:=Sh hn UG
   grind
 refine (E8.2 S ρ0 w args H0 ⟨by rw [←CN.1,Ag],λi hi=>?_⟩).mono ?_
 ·have:=CN.2 i (by rw [Ag];exact hi);rcases zMM i hi with e | e
  ·grind [eS]
  ·refine Sf (AI.out _ (DK (λb hb=>?_) []) (e P Γ N ρ w _ HR this));rcases hb with hb | ⟨i,o,p,g,r,R⟩
   ·rw [dt] at hb;exact hb.elim
   ·obtain ⟨k,o',B,F,_⟩:=C g;exact ⟨k,o',p,zJ1 B,F,(I B).symm.trans r,R⟩
 ·rintro e w' ⟨v,rfl,⟨⟨ρ1,g,r,R,g4⟩,g5⟩⟩;have l1:ρ1.length=h'.length:=g.len;obtain ⟨ρ',Y⟩: ∃ ρ',ρ'=ρ++ρ1.drop σ.length:=⟨_,rfl⟩
  have at1: ∀ {i k:Nat},σ[i]? =some k -> ρ1[i]? =ρ[k]? :=λ{i k} hk=>by
   grind
  have Mf: ∀ {k:Nat},k<H.length -> ρ'[k]? =ρ[k]? :=λ{k} hk=>by rw [Y,zLT (by rw [HR.len];exact hk)]
  have gV: ∀ (k:Nat) (p:AK),ρ1[k]? =some p -> ρ'[DI σ H.length k]? =some p:=λk p j=>by
   by_cases hk:k<σ.length
   ·grind
   ·unfold DI;rw [zEO hk,Y,zJx (by rw [HR.len];omega),zMa,HR.len]
    simp_all
  have kX:(DZ H σ h').length=H.length+(h'.length-σ.length):=by simp [DZ]
  have L: ∀ {k:Nat} {o':DO},(DZ H σ h')[k]? =some (some o') -> (k<H.length/\ EW σ k=none/\ H[k]? =some (some o')/\ ρ'[k]? =ρ[k]?)∨∃ i o,h'[i]? =some (some o)/\ C0 σ H.length (some o)=some o'/\ ρ'[k]? =ρ1[i]? /\ k=DI σ H.length i:=by
   intro k o' hk
   by_cases FT:k<H.length
   ·unfold DZ at hk;rw [zLT (by simpa using FT),zKG,List.getElem?_range FT] at hk;simp only [zLo,zJw] at hk;split at hk
    ·rename_i i hi;have mU:=J4 hi;obtain ⟨o0,e0⟩:=Rx hk
     grind
    grind
   ·unfold DZ at hk;rw [zJx Z7,zKG,zMa] at hk;simp only [zJu,zPs] at hk;cases D:h'[σ.length+(k-H.length)]? with
    | none=>rw [D] at hk;cases hk
    | some x=>
     rw [D] at hk;have hk:C0 σ H.length x=some o':=zA2 hk;obtain ⟨o0,e0⟩:=Rx hk;subst e0;refine .inr ⟨σ.length+(k-H.length),o0,D,hk,?_,?_⟩
     ·rw [Y,zJx (by rw [HR.len];omega),zMa,HR.len]
     simp_all [DI,zEO]
  have back: ∀ {k:Nat} {o:DO},EW σ k=none -> H[k]? =some (some o) -> (DZ H σ h')[k]? =some (some o):=by
   grind [DZ]
  have n: ∀ {k:Nat} {o:DO} {p:AK} {b:Nat},EW σ k=none -> H[k]? =some (some o) -> ρ[k]? =some p -> p.foot b -> ¬ MO h' ρ1 b:=λ{k o p b} q s a y hm=>by
   rcases R.grow b hm with hg | hg
   ·exact Q q s a y hg
   ·exact absurd (HR.lt (.inr ⟨k,o,p,s,a,y⟩)) (Nat.not_lt.2 hg)
  have M: ∀ b,MO (DZ H σ h') ρ' b -> MO H ρ b∨w.heap.size<=b:=by
   rintro b ⟨k,o',p,q,s,a⟩;rcases L q with ⟨l,m,a3,a4⟩ | ⟨i,o,l,m,a3,a4⟩
   ·exact .inl ⟨k,o',p,a3,a4.symm.trans s,a⟩
   ·exact (R.grow b ⟨i,o,p,l,a3.symm.trans s,a⟩).imp (J b) id
  have pl: ∀ (k:Nat) (p:AK),ρ[k]? =some p -> ρ'[k]? =some p:=λk p j=>by
   grind
  have O:BL (MS N H ρ) w ρ (MS N (DZ H σ h') ρ') w' ρ':=
   ⟨λb hb hm _=>R.upd.block b hb λD=>hm (.inr (J b D)),λb hb=>hb.elim (λhb=>.inl (.inl hb)) (λhb=>(M b hb).imp .inr id),pl⟩
  refine ⟨v,rfl,⟨⟨ρ',⟨?_,λk o' hk=>?_,λk o' p b q s a=>?_,λk T o1 K U u b Ah q s a y Z q6=>?_,λb hb=>⟨zCD (HR.nlt b hb).1 R.upd.size,(HR.nlt b hb).2⟩,g.gi⟩,rN gV _ hsd r,⟨R.upd.mono λb _ hb=>J b hb,M⟩,pl⟩,g5⟩⟩
  ·rw [kX,Y];simp [HR.len,l1]
  ·rcases L hk with ⟨l,m,a3,a4⟩ | ⟨i,o,l,m,a3,a4⟩
   ·obtain ⟨p,j,hr⟩:=HR.obj k o' a3;refine ⟨p,a4.trans j,hr.out O R.upd (λb hb=>.inr (J b hb)) λb _ hf hs=>?_⟩;exact Q m a3 j hf hs
   ·obtain ⟨p,j,hr⟩:=g.obj i o l
    grind [zCV]
  ·rcases L q with ⟨l,m,a3,a4⟩ | ⟨i,o,l,m,a3,a4⟩
   ·have j:=a4.symm.trans s;obtain ⟨A,G,c,t,z,E⟩:=HR.cel k o' p b a3 j a;refine ⟨A,G,c,t,z,(R.upd.block b (zA0.1 E).1 λD=>?_).trans E⟩;exact Q m a3 j a D
   ·obtain ⟨A,G,E⟩:=g.cel i o p b l (a3.symm.trans s) a;refine ⟨A,λhb=>?_,E⟩;rcases R.grow b ⟨i,o,p,l,a3.symm.trans s,a⟩ with hg | hg
    ·obtain ⟨k2,K,u,d1,d2,d3⟩:=J b hg;exact (HR.cel k2 K u b d1 d2 d3).2.1 hb
    ·exact absurd (HR.nlt b hb).1 (Nat.not_lt.2 hg)
  ·rcases L q with ⟨l,m,a3,a4⟩ | ⟨i,o,l,m,a3,a4⟩
   ·rcases L s with ⟨A,G,E,V⟩ | ⟨X,o',A,G,E,V⟩
    ·exact HR.dis k T o1 K U u b Ah a3 E (a4.symm.trans a) (V.symm.trans y) Z q6
    ·exact n m a3 (a4.symm.trans a) Z ⟨X,o',u,A,E.symm.trans y,q6⟩
   ·rcases L s with ⟨A,G,E,V⟩ | ⟨X,o',A,G,E,V⟩
    ·exact n G E (V.symm.trans y) q6 ⟨i,o,U,l,a3.symm.trans a,Z⟩
    ·refine g.dis i X o o' U u b ?_ l A (a3.symm.trans a) (E.symm.trans y) Z q6
     grind
end
variable {h:DH}
theorem NN.own {σ:Θ}{j:Nat}{f:Int -> Ξ}{x:Int}{L:Ξ}{g:Bool}(hk:h[j]? =some (some (.mo (.rows f (some (x,L,g))))))(a:σ.contains j=false):NN h σ (.mri j 1) (.ints L):=by
 rintro P Γ N ρ w v H ⟨p,vs,b,c,t⟩;obtain ⟨p',d,u,es,Ao,E⟩:=H.obj j _ hk;have:p'=p:=zA2 (d.symm.trans b);subst this;have e: #[Value.map (some p'.blk),u]=vs:=by have:=E.val.symm.trans c;cases this;rfl
 subst e;have y:v=u:=by simpa using t.symm
 subst y;rcases (E.inHand x L g rfl).1 with ⟨rfl,rfl⟩ | ⟨q,cap,rfl,l,h2,m,A,h5⟩
 ·exact ⟨none,0,rfl,zBT _,zJs _,λj a=>absurd a (zA6 j)⟩
 ·refine ⟨_,cap,rfl,l,m,λi hi=>⟨q.blk,q.off,rfl,?_,?_⟩⟩
  ·rintro ⟨k,o,F,g1,r,R,U⟩;refine H.dis k j o _ F p' q.blk (λe=>?_) r hk R b U A.1
   grind
  grind [AY.cell]
def cT (H:DH)(σ:Θ):List DV -> List DV -> Prop
 | [],[]=>True
 | d1::n,d::ds=>(d1=up σ H.length d∨NN H σ d1 d)/\ cT H σ n ds
 | _,_=>False
theorem kS {H:DH}{σ:Θ}: ∀ {n ds:List DV},cT H σ n ds -> n.length=ds.length/\ ∀ i,i<ds.length -> n.getD i .any=up σ H.length (ds.getD i .any)∨NN H σ (n.getD i .any) (ds.getD i .any)
 | [],[],_=>⟨rfl,λi hi=>absurd hi (zA6 i)⟩
 | d1::n,d::ds,⟨h1,b⟩=>by
  obtain ⟨g1,g2⟩:=kS b
  grind
 | [],_::_,h=>h.elim
 | _::_,[],h=>h.elim
def ES.embedSB {P:Program}{Γ:Ay}{f:Nat}{ds:List DV}{d:DV}{h':DH}{ext:Bool}(v:ES P Γ f ds h d h' ext)(σ:Θ)(H:DH){n:List DV}(K:cT H σ n ds)(c:O6 σ H.length h.length h'.length=true)(W:(σ.map λk=>H.getD k none)=h.map (C0 σ H.length))(l:(Jy d&&h'.all VH)=true):
 ES P Γ f n H (up σ H.length d) (DZ H σ h') ext:=by
 simp only [O6,zAD,zJ4,zBk] at c;rw [zAD] at l;exact v.embedS σ H c.1.1.1 (λk hk=>c.1.1.2 k hk) c.1.2 c.2 W (kS K).1 (kS K).2 l.1 l.2
end
structure HX (F:Fence)(P:Program):Prop where
 f:Du F P
 m:P.follows .mixedOrders=true
structure HS (c:List (DV×DH×Bool))(o:List (Nat×DV))(z:List (Nat×Fz))(v:List Prop):Prop where
 all:BX v
section
variable {P:Program} {Γ:Ay} {cs:List (DV×DH×Bool)} {os:List (Nat×DV)} {zs:List (Nat×Fz)} {vs:List Prop}
def H0:HS [] [] [] []:=⟨trivial⟩
variable {p:Prop}
theorem HS.add (q:HS cs os zs vs){u:List (DV×DH×Bool)}{o':List (Nat×DV)}{k:List (Nat×Fz)}(h:p):HS u o' k (vs++[p]):=⟨Da.2 ⟨q.all,h,trivial⟩⟩
variable {d:DV}
def HS.o (q:HS cs os zs vs)(t:Nat){d':DV}(x:AM d d'):HS cs (os++[(t,d')]) zs (vs++[AM d d']):=q.add x
def HS.b (q:HS cs os zs vs)(t:Nat){a b:Bool}(x:a=b):HS cs (os++[(t,.bool b)]) zs (vs++[AM (.bool a) (.bool b)]):=q.add (AM.bool x)
def HS.w (q:HS cs os zs vs)(t:Nat){x:Int}(h:AG x):HS cs (os++[(t,.int .i64 x)]) zs (vs++[AM (.int .i64 (IntKind.i64.wrap x)) (.int .i64 x)]):=q.add (zA7 h)
def HS.g (q:HS cs os zs vs)(x:p):HS cs os zs (vs++[p]):=q.add x
def HS.t (q:HS cs os zs vs):HS cs os zs (vs++[True]):=q.add trivial
def HS.c (q:HS cs os zs vs){f:Nat}{ds:List DV}{h:DH}{h':DH}{e:Bool}(x:ES P Γ f ds h d h' e):HS (cs++[(d,h',e)]) os zs (vs++[ES P Γ f ds h d h' e]):=q.add x
def HS.a (q:HS cs os zs vs)(t k m:Nat){n e:Nat}{f L:Nat -> Nat -> DV}(x:n=e/\ ∀ i j,i<n -> j<m -> AM (f i j) (L i j)):HS cs os (zs++[(t,.arr k e L)]) (vs++[n=e/\ ∀ i j,i<n -> j<m -> AM (f i j) (L i j)]):=q.add x
def HS.z (q:HS cs os zs vs)(t k:Nat):HS cs os (zs++[(t,.frz k)]) vs:=⟨q.all⟩
def HS.u (q:HS cs os zs vs)(t k:Nat):HS cs os (zs++[(t,.unf k)]) vs:=⟨q.all⟩
end
def ES.emC {P:Program}{Γ:Ay}{f:Nat}{ds:List DV}{h:DH}{d:DV}{h':DH}{ext:Bool}(v:ES P Γ f ds h d h' ext)(σ:Θ)(H:DH)(c:O6 σ H.length h.length h'.length=true)(W:(σ.map λk=>H.getD k none)=h.map (C0 σ H.length)):ES P Γ f (ds.map (up σ H.length)) H (up σ H.length d) (DZ H σ h') ext:=
 v.embedB σ H c W rfl
def OL {α:Type} [Inhabited α] (c:α -> List DV) (L:List α) (n m:Nat) (h: ∀ x,(c x).all Ie=true/\ m=(c x).length): ∀ i j,i<n -> j<m -> Ie (AO c L i j)=true:=λi j _ a=>zHv (h _).1 (h _).2 j a
def frzL:Θ -> St -> Option (St×List Prop)
 | [],S=>some (S,[])
 | k::T,S=>match Xf k S with
  | some (S',vs)=>match frzL T S' with
   | some (U,j)=>some (U,vs++j)
   | none=>none
  | none=>none
def A7.frzL {L:Nat}: ∀ (T:Θ) {S S':St} {vs:List Prop},Proofs.YtodinaconebmdaaGreatDoor.frzL T S=some (S',vs) -> BX vs -> A7 L S S'
 | [],S,S',vs,h,_=>by cases h;exact A7.refl L S
 | k::T,S,S',vs,h,s=>by
  simp only [Proofs.YtodinaconebmdaaGreatDoor.frzL] at h;split at h
  ·rename_i c P a;split at h
   ·rename_i S2 FD h2;cases h;obtain ⟨V,H⟩:=Da.1 s;exact (A7.frzE k c P a V).trans (A7.frzL T h2 H)
   ·cases h
  ·cases h
abbrev gA:=List Prop×List Prop×List (DV×DH×Bool)×List (Nat×DV)×Bool
def So (σ:Θ)(L:Nat)(w:List Prop)(r:KO×St×List Prop×BS):gA:=(r.2.2.1,w,r.2.2.2.calls,r.2.2.2.co,K7 σ L r.2.1.h.length)
def OJ (C σ:Θ)(L:Nat)(T:Θ)(r:KO×St×List Prop×BS):Option (KO×List DV×DH×gA):=match frzL T (comp C σ r.2.1) with
 | some (S,w)=>some (r.1,S.fr,S.h,So σ L w r)
 | none=>none
def wh:KO -> Option Exit
 | .ret=>some .ret
 | .at []=>some .normal
 | .at (.code (.exit i)::k)=>if (KD i k).isNone then some (.exit i) else none
 | _=>none
def LU (P:Program)(C σ:Θ)(L:Nat)(T:Θ)(fn:Func)(d:DV)(k:Nat)(r:KO×St×List Prop×BS):Option (Bool×List DV×DH×gA):=match frzL T (comp C σ r.2.1) with
 | some (S,w)=>match Nz P S fn.results.toList with
  | some t=>some ((match r.1 with | .ret=>true | .at []=>true | _=>false)&&(decide (S.h.length<=k)||(S.h.all WV&&GK d&&decide (L<=S.h.length))),t,(if S.h.length<=k then S.h else (Gp (List.range L) S).h),So σ L w r)
  | none=>none
 | none=>none
def js (σ:Θ)(L:Nat)(r:KO×St×List Prop×BS):Option Exit×DH×gA:=(wh r.1,(comp [] σ r.2.1).h,So σ L [] r)
section
variable {P:Program} {Γ:Ay} {F:Fence} {B:Option Nat} {L:Nat} {Y N:BK P Γ L} {Q:QY P Γ L} {k k':List KI} {S:St} {fr:List DV} {h' h2:DH} {c:List (DV×DH×Bool)} {o:List (Nat×DV)} {z:List (Nat×Fz)} {v w:List Prop}
def zHi {C σ T:Θ}{r:KO×St×List Prop×BS}{a:KO}(h:OJ C σ L T r=some (a,fr,h',v,w,[],[],true))(X:BX w):r.1=a/\ r.2.2.1=v/\ A7 L r.2.1 ⟨fr,h'⟩:=by
 unfold OJ at h;split at h
 ·rename_i S1 w1 O;simp only [So,zJw,zKR] at h;obtain ⟨rfl,rfl,rfl,rfl,rfl,_,_,l⟩:=h;exact ⟨rfl,rfl,(A7.comp C σ r.2.1 l).trans (A7.frzL T O X)⟩
 ·cases h
def BI.gS (d:HX F P)(J:BF)(n:Nat)(C σ:Θ)(tg:List (List (Nat×Nat)×St))(i:HS c o z v)(T:Θ)(l:HS [] [] [] w)(k':List KI)(fr:List DV)(h':DH) 
 (h:(CH P Γ J n k S ⟨c,o,z,tg⟩).bind (OJ C σ L T)=some (.at k',fr,h',v,w,[],[],true)) (p:JM k'=true) (hk:A5 P Γ F B L Y Q k' ⟨fr,h'⟩):A5 P Γ F B L Y Q k S:=by
 cases j:CH P Γ J n k S ⟨c,o,z,tg⟩ with
 | none=>rw [j] at h;cases h
 | some r=>
  obtain ⟨e,q,g,o1⟩:=r;rw [j] at h;obtain ⟨a,b,s⟩:=zHi (r:=(e,q,g,o1)) h l.all;have a:e= .at k':=a;have b:g=v:=b;subst a b;exact GL d.f d.m n k S _ _ _ _ _ j i.all (BI.le s p hk)
variable {d:DV}{fn:Func}
theorem BI.el (g:HX F P)(i:BF)(n:Nat)(C σ:Θ)(tg:List (List (Nat×Nat)×St))(q:HS c o z v)(T:Θ)(s:HS [] [] [] w)(t:List DV)(l:AM (IT t) d) 
 (h:(CH P Γ i n k S ⟨c,o,z,tg⟩).bind (LU P C σ L T fn d h2.length)=some (true,t,h2,v,w,[],[],true)):BI P Γ F B L N (Cp P fn L d h2) k S:=by
 cases j:CH P Γ i n k S ⟨c,o,z,tg⟩ with
 | none=>rw [j] at h;cases h
 | some r=>
  obtain ⟨p,a,u,o1⟩:=r;rw [j] at h;have h:LU P C σ L T fn d h2.length (p,a,u,o1)=some (true,t,h2,v,w,[],[],true):=h;unfold LU at h;split at h
  ·rename_i X w1 O;split at h
   ·rename_i x y;simp only [So,zJw,zKR,zAD] at h;obtain ⟨⟨b,Q⟩,rfl,W,rfl,rfl,_,_,A⟩:=h;have D:A7 L a X:=(A7.comp C σ a A).trans (A7.frzL T O s.all)
    have J: ∀ e,(e= .normal∨e= .ret) -> Cp P fn L d h2 e a:=λe M=>by
     refine Cp.le D ⟨M,X,A7.refl _ _,x,y,?_⟩
     by_cases G:X.h.length<=h2.length
     ·rw [zAE G] at W;exact .inl ⟨l,W⟩
     ·rw [zEO G] at W;simp only [G,decide_false,zNg,zAD,zJ4] at Q;exact .inr ⟨QJ Q.1.1,l,OO Q.1.2,Q.2,W⟩
    refine GL g.f g.m n k S _ _ _ _ _ j q.all ?_;rcases p with (_ | ⟨_,_⟩) | _
    ·exact ⟨rfl,J _ (.inl rfl)⟩
    ·cases b
    ·exact ⟨rfl,J _ (.inr rfl)⟩
   ·cases h
  ·cases h
def BI.e (b:HX F P)(J:BF)(n:Nat)(C σ:Θ)(tg:List (List (Nat×Nat)×St))(a:HS c o z v)(T:Θ)(f:HS [] [] [] w) 
 (h:(CH P Γ J n k S ⟨c,o,z,tg⟩).bind (λr=>(LU P C σ L T fn d h2.length r).map λq=>(q.1,IT q.2.1,q.2.2))=some (true,d,h2,v,w,[],[],true)):BI P Γ F B L N (Cp P fn L d h2) k S:=by
 cases j:CH P Γ J n k S ⟨c,o,z,tg⟩ with
 | none=>rw [j] at h;cases h
 | some r=>
  rw [j] at h;have h:(LU P C σ L T fn d h2.length r).map (λq=>(q.1,IT q.2.1,q.2.2))=some (true,d,h2,v,w,[],[],true):=h;cases Q:LU P C σ L T fn d h2.length r with
  | none=>rw [Q] at h;cases h
  | some q=>
   obtain ⟨q1,t,q3⟩:=q;rw [Q] at h;simp only [zLo,zJw,zKR] at h;obtain ⟨rfl,g,rfl⟩:=h;exact BI.el b J n C σ tg a T f t (AM.of_eq g) (by rw [j];exact Q)
def br (P:Program)(L:Nat)(T:Θ)(fn:Func)(d:DV)(k:Nat)(S:St):Option (Bool×List DV×DH×List Prop):=match frzL T S with
 | some (S,w)=>match Nz P S fn.results.toList with
  | some t=>some (decide (S.h.length<=k)||(S.h.all WV&&GK d&&decide (L<=S.h.length)),t,(if S.h.length<=k then S.h else (Gp (List.range L) S).h),w)
  | none=>none
 | none=>none
theorem Cp.el {e:Exit}(M:e= .normal∨e= .ret)(T:Θ)(a:HS [] [] [] w)(t:List DV)(v:AM (IT t) d)(h:br P L T fn d h2.length S=some (true,t,h2,w)):Cp P fn L d h2 e S:=by
 unfold br at h;split at h
 ·rename_i X w1 O;split at h
  ·rename_i l u;simp only [zJw,zKR] at h;obtain ⟨Q,rfl,W,rfl⟩:=h;refine Cp.le (A7.frzL T O a.all) ⟨M,X,A7.refl _ _,l,u,?_⟩
   by_cases G:X.h.length<=h2.length
   ·rw [zAE G] at W;exact .inl ⟨v,W⟩
   ·rw [zEO G] at W;simp only [G,decide_false,zNg,zAD,zJ4] at Q;exact .inr ⟨QJ Q.1.1,v,OO Q.1.2,Q.2,W⟩
  ·cases h
 ·cases h
theorem Cp.e {e:Exit}(he:e= .normal∨e= .ret)(T:Θ)(hz:HS [] [] [] w)(h:(br P L T fn d h2.length S).map (λq=>(q.1,IT q.2.1,q.2.2))=some (true,d,h2,w)):Cp P fn L d h2 e S:=by
 cases Q:br P L T fn d h2.length S with
 | none=>rw [Q] at h;cases h
 | some q=>
  obtain ⟨q1,rs,q3⟩:=q;rw [Q] at h;simp only [zLo,zJw,zKR] at h;obtain ⟨rfl,hd,rfl⟩:=h
  grind [Cp.el,AM.of_eq]
def BI.r (b:HX F P){R:List Exit}{i:Nat}{e:Exit}(a:BF)(n:Nat)(σ:Θ)(tg:List (List (Nat×Nat)×St))(g:HS c o z v)(M:(Exit.normal::R)[i]? =some e) 
 (h:(CH P Γ a n k S ⟨c,o,z,tg⟩).map (js σ L)=some (some e,h2,v,[],[],[],true)):BI P Γ F B L N (Cx L R i h2) k S:=by
 cases j:CH P Γ a n k S ⟨c,o,z,tg⟩ with
 | none=>rw [j] at h;cases h
 | some r=>
  obtain ⟨r1,d,v1,o1⟩:=r;rw [j] at h;simp only [zLo,js,So,zJw,zKR] at h;obtain ⟨hk,W,rfl,_,_,_,l⟩:=h;have J:stay N (Cx L R i h2) e d N:=⟨rfl,M,_,A7.comp [] σ d l,W⟩;refine GL b.f b.m n k S _ _ _ _ _ j g.all ?_;unfold wh at hk;split at hk
  ·cases hk;exact J
  ·cases hk;exact J
  ·rename_i i' k';split at hk
   ·rename_i p;cases hk;exact Tr.exit (UC J k' (Option.isNone_iff_eq_none.1 p))
   ·cases hk
  ·cases hk
def HJ.g (b:HX F P){Q:Exit -> St -> Prop}{a X:Code}(J:BF)(n:Nat)(C σ:Θ)(d:HS c o z v)(fr:List DV)(h':DH) 
 (h:(CH P Γ J n [.code a] S ⟨c,o,z,[]⟩).map (WM C σ L)=some (.at [],fr,h',v,[],[],true)) (hk: ∀ e:BK P Γ L,BI P Γ F B L e Q [.code X] ⟨fr,h'⟩):HJ P Γ F B L N Q a X S:=
 HJ.go b.f b.m J n _ C σ fr h' v h d.all hk
end
section
variable {P:Program} {Γ:Ay} {L:Nat} {k:List KI} {S:St} {c:List (DV×DH×Bool)} {o:List (Nat×DV)} {z:List (Nat×Fz)} {v:List Prop}
variable {C:Dt P}
def TrI.e {Y:BK P Γ L}(b:HX Fence.wide P)(J:BF)(n:Nat)(a:HS c o z v) 
 (h:(CH P Γ J n k S ⟨c,o,z,[]⟩).map (λr=>((match r.1 with | .ret=>true | .at []=>true | _=>false),r.2.2.1))=some (true,v)) (K:Y=C.Y Γ L C.encs.length∨Y=C.X Γ L):A5 P Γ Fence.wide none L Y (C.Q Γ L) k S:=by
 cases j:CH P Γ J n k S ⟨c,o,z,[]⟩ with
 | none=>rw [j] at h;cases h
 | some r=>
  obtain ⟨d,S1,DQ,o1⟩:=r;rw [j] at h;simp only [zLo,zJw,zKR] at h;obtain ⟨g,rfl⟩:=h;refine GL b.f b.m n k S _ _ _ _ _ j a.all ?_;rcases d with (_ | ⟨_,_⟩) | _
  ·exact ⟨.inl rfl,K⟩
  ·cases g
  ·exact ⟨.inr rfl,K⟩
def A5.y {i:Nat}{Q:QY P Γ L}{K:List KI}{ops:Array Oper}(g:HX Fence.wide P)(p:Nat)(a σ:Θ)(j:HS c o z v){x:List DV}(b:List DV)(d:DH)(e:List DV)(H:DH) 
 (k:Pn K=some (ops,Em K)) (u:Ct ops=true) (h:(Uo P Γ ops p S ⟨c,o,z,[]⟩).map (jr a σ L)=some (x,C.l,b,d,e,H,v,true)) (m:C.encs[i]? =some x) (n:JM (Em K)=true) (q:A5 P Γ Fence.wide none L (C.Y Γ L (i+1)) Q (Em K) ⟨b,d⟩) (r:A5 P Γ Fence.wide none L (C.X Γ L) Q (Em K) ⟨e,H⟩):A5 P Γ Fence.wide none L (C.Y Γ L i) Q K S:=
 A5.yieldAt g.f k u p _ a σ b d e H v h j.all m n q r
end
section
variable {P:Program} {Γ:Ay} {F:Fence} {B L:Nat} {Y:BK P Γ L} {Q:QY P Γ L} {fr:List DV} {h:DH} {K:List KI} {a b:Code} {α σ:Type} {l:List α} {H:σ -> DH} {FR:α -> List DV}
variable {c:σ}
def BI.rg (k:F=Fence.wide∨∃ l,F=Fence.wide.inRound l)(R:List Exit)(n:(R.all λe=>(Kk e).isSome)=true)(D t:Nat)(V:Array Tmp)(enc:α -> List DV)(L':Nat){f:α -> σ -> Option (σ×Nat)}{rE:σ×Nat}(O:CY f l c=some rE) 
 (d: ∀ (l B:Nat) (N:BK P Γ L') (x:α) (s:σ) (r:σ×Nat),f x s=some r -> HJ P Γ (Fence.wide.inRound l) (some B) L' N (Cx L' R r.2 (H r.1)) a b ⟨FR x,H s⟩)
 (g:Pj K=some (.tmp t,V,a,b,Em K)) (i:Ad fr (.tmp t)= .it D) (hk:h[D]? =some (some (.iter (l.map enc)))) (j: ∀ x,(enc x).length=V.size) (m:Nat.ble L L'=true) (o:fr.all (CP L')=true) (h0:h.set D none=H c) (u:(λx=>I6 fr V.toList (enc x))=FR)
 (y: ∀ e,(Exit.normal::R)[rE.2]? =some e -> BG P Γ F (some B) L Q (Em K) e ⟨fr,H rE.1⟩ Y):A5 P Γ F (some B) L Y Q K ⟨fr,h⟩:=
 BI.rangeAt k R n (.tmp t) V a b (Em K) enc l H FR f O g i hk j L' m o h0 u d y
def BI.rg0 (k:F=Fence.wide∨∃ l,F=Fence.wide.inRound l)(D t:Nat)(V:Array Tmp)(enc:α -> List DV)(L':Nat){f:α -> σ -> Option σ}{I:σ}(O:CK f l c=some I) 
 (d: ∀ (l B:Nat) (N:BK P Γ L') (x:α) (s r:σ),f x s=some r -> HJ P Γ (Fence.wide.inRound l) (some B) L' N (Cx L' [] 0 (H r)) a b ⟨FR x,H s⟩)
 (e:Pj K=some (.tmp t,V,a,b,Em K)) (n:Ad fr (.tmp t)= .it D) (hk:h[D]? =some (some (.iter (l.map enc)))) (g: ∀ x,(enc x).length=V.size) (j:Nat.ble L L'=true) (i:fr.all (CP L')=true) (h0:h.set D none=H c) (u:(λx=>I6 fr V.toList (enc x))=FR)
 (y:A5 P Γ F (some B) L Y Q (Em K) ⟨fr,H I⟩):A5 P Γ F (some B) L Y Q K ⟨fr,h⟩:=
 BI.rangeAt0 k (.tmp t) V a b (Em K) enc l H FR f O e n hk g L' j i h0 u d y
end
abbrev zQN:=@List.filter_cons
section
abbrev LK:=Nat×Array MapEntry×Nat
variable {i:Nat}
def zIr :Wd none i:=λ_ h=>by cases h
def zIq {j:Nat}{g:LK}(h:i≠j):Wd (some (i,g)) j:=λy e=>by cases e;exact h
def If {R:Type} [DecidableEq R] (b:KS) (a:Option R) (f:Ξ -> Option R):Option R:=match b with
 | []=>a
 | x::r=>match f x with
  | none=>none
  | some v=>if r.all (λy=>decide (f y=some v)) then some v else none
variable {b:KS}{R:Type}
theorem cC [DecidableEq R]  {a:Option R} {f:Ξ -> Option R} {r:R} (h:If b a f=some r):(b= [] -> a=some r)/\ ∀ y∈b,f y=some r:=by
 cases b with
 | nil=>exact ⟨λ_=>h,λy hy=>absurd hy zMP⟩
 | cons x l=>
  refine ⟨λe=>absurd e (List.cons_ne_nil x l),?_⟩;unfold If at h
  grind
def zHx [DecidableEq R] {a:Option R} {f:Ξ -> Option R}:If [] a f=a:=rfl
theorem zHw [DecidableEq R]  {a:Option R} {f:Ξ -> Option R} {r:R} (u:b≠[]) (h: ∀ y∈b,f y=some r):If b a f=some r:=by
 cases b with
 | nil=>exact absurd rfl u
 | cons x l=>
  simp_all [If]
theorem zEi {P:Program}{w:World}{r f a h Y:Nat}{seen:Array Nat}{es:Array MapEntry}(b:w.heap[r]? =some (.mapIter (some f) a seen h))(c:w.heap[f]? =some (.map es Y))(u: ∀ x∈es.toList,x.born<a)(n:a<=h)(ty:TypeId):
 ((leftOf es seen).size=0/\ (Instr.next (.pointer (some ⟨r,0,none⟩)) false ty).run P w= .ok (.tuple #[.bool false]) w)∨
 ∃ e∈(leftOf es seen).toList,∃ w1:World,(w1=w∨w1=w.drew)/\ (Instr.next (.pointer (some ⟨r,0,none⟩)) false ty).run P w= .ok (.tuple #[.bool true,e.key,e.val]) { w1 with heap:=w1.heap.setIfInBounds r (.mapIter (some f) a (seen.push e.born) Y) }:=by
 simp only [Instr.next,getObj,zJ2,Sem.run,b,c,Result.andThen,next_test_false seen es a h u n,zLk,zP3];unfold leftOf;have R: ∀ x∈(Array.filter (λe=>!seen.contains e.born) es).toList,x.born<a:=λx d=>u x (by simp at d ⊢;exact d.1)
 generalize Array.filter (λe=>!seen.contains e.born) es=L at R ⊢
 have B:L.filter (λx=>decide (x.born<a))=L:=Array.filter_eq_self.2 (λx d=>by simpa using R x (by simpa using d))
 have F:L.filter (λx=>decide (x.born>=a))= #[]:=by
  simp_all
 simp only [B,F,Array.append_empty]
 by_cases h0:L.size=0
 ·simp_all [Question.forced]
 ·right;have K:L.isEmpty=false:=by simp [Array.isEmpty,h0]
  simp only [K,zLk,zP3,Array.empty_append,Array.size_map]
  have g: ∃ (j:Nat) (w1:World),j<L.size/\ (w1=w∨w1=w.drew)/\ (choose (Question.mapNext L.size)).run P w= .ok j w1:=by
   by_cases O:L.size<=1
   ·exact ⟨0,w,Z2,.inl rfl,by simp [choose,Sem.run,Question.forced,O]⟩
   ·exact ⟨_,w.drew,Nat.mod_lt _ Z2,.inr rfl,by
     simp only [choose,Sem.run,Question.forced,zJ4,O,zP3,Question.cut];rfl⟩
  obtain ⟨j,w1,hj,q,Mt⟩:=g;have Tk:w1.heap[r]? =some (.mapIter (some f) a seen h):=by rcases q with rfl | rfl <;> exact b
  refine ⟨L[j],Z3,w1,q,?_⟩
  simp_all [setObj,Sem.run]
section
variable {P:Program} {Γ:Ay} {N:Ψ} {S:St} {ρ:List AK} {a:Act} {w:World} {F:Fence} {B:Option Nat} {L:Nat} {Y:BK P Γ L} {Q:QY P Γ L}
variable {p:AK}
def AU.setMo (R:AU P Γ N S ρ a w){k:Nat}{x x':MX}(hk:S.h[k]? =some (some (.mo x)))(f:ρ[k]? =some p)(c:PL w p x')(n: ∀ b,p.foot b -> Ds w b):
 AU P Γ N ⟨S.fr,S.h.set k (some (.mo x'))⟩ ρ a w/\ A3 S.h ρ w (S.h.set k (some (.mo x'))) ρ w:=
 ⟨⟨R.hr.write hk f (AS.refl _ _) n c,R.fr.out (BL.write trivial hk f (AS.refl p.foot w))⟩,A3.write hk f (AS.refl _ _)⟩
variable {vs:Array Value}{n:Nat}
theorem F5.relock {B:List (Option KS)}(a:F5 w p n B none vs){i:Nat}(hi:(B.getD i none).isSome=true): ∃ g:LK,F5 w p n B (some (i,g)) vs:=by
 obtain ⟨X,g1,g2,g3,es,Y,g4,_⟩:=a.has i _ (Xa hi);refine ⟨(X,es,Y),{ a with has:=λj l o=>?_ }⟩
 by_cases e:j=i
 ·grind
 ·obtain ⟨b,k1,k2,k3,Lv,c1,k4,_⟩:=a.has j l o
  grind
def F5.unlock {B:List (Option KS)}{z:Option (Nat×LK)}(i:F5 w p n B z vs):F5 w p n B none vs:=
 { i with has:=λj l o=>let ⟨b,F,t,s,S,a,c,_⟩:=i.has j l o;⟨b,F,t,s,S,a,c,λx d=>by cases d⟩ }
variable {j:Nat}
def Tr.lock {c:Code}{i:Nat}{d:List (Option KS)}(hk:S.h[j]? =some (some (.mo (.sets n d none))))(hi:(d.getD i none).isSome=true)(H: ∀ g:LK,Tr P Γ F B L Y c ⟨S.fr,S.h.set j (some (.mo (.sets n d (some (i,g)))))⟩ Q):Tr P Γ F B L Y c S Q:=λN ρ a w R y m b=>by
 obtain ⟨p,f,vs,e⟩:=R.hr.obj j _ hk;obtain ⟨g,q⟩:=e.relock hi;obtain ⟨R',st⟩:=R.setMo hk f (x':=.sets n d (some (i,g))) ⟨vs,q⟩ λb k=>e.lies k
 exact H g N ρ a w R' (Y.st y R.hr R'.hr st (B0.refl _ _)) m b
def wo:List KI -> Bool
 | .code _::_=>true
 | _=>false
variable {h:DH}{fr:List DV}{K:List KI}
def BI.lock (j i n:Nat){a:List (Option KS)}(hk:h[j]? =some (some (.mo (.sets n a none))))(hi:(a.getD i none).isSome=true)(l:wo K=true)(h':LK -> DH)(M:h'=λg=>h.set j (some (.mo (.sets n a (some (i,g))))))(H: ∀ g:LK,A5 P Γ F B L Y Q K ⟨fr,h' g⟩):A5 P Γ F B L Y Q K ⟨fr,h⟩:=by
 subst M;unfold wo at l;split at l
 ·exact Tr.lock (S:=⟨fr,h⟩) hk hi H
 ·cases l
variable {g:LK}{m:Nat}
theorem zIK (R:AU P Γ N S ρ a w){J i:Nat}{B:List (Option KS)}{c:KS}{K:Option Ξ}(L:S.h[m]? =some (some (.mo (.mit n g.1 g.2.1 g.2.2 c K))))(O:S.h[j]? =some (some (.mo (.sets J B (some (i,g))))))(hi:(B.getD i none).isSome=true){v:Value}(T:AI (MS N S.h ρ) w (.it m) ρ v)(ty:TypeId):
 (c= []/\ (Instr.next v false ty).run P w= .ok (.tuple #[.bool false]) w)∨∃ y∈c,∃ (k u:Value) (w':World) (p:AK),(Instr.next v false ty).run P w= .ok (.tuple #[.bool true,k,u]) w'/\ ρ[m]? =some p/\ AS p.foot w w'/\ PL w' p (.mit n g.1 g.2.1 g.2.2 (c.erase y) (some y))/\ ∀ b,p.foot b -> Ds w' b:=by
 obtain ⟨p,z,rfl⟩:=T;obtain ⟨p',U,h0,C,d,seen,f,A,V⟩:=R.hr.obj m _ L;have:p'=p:=zA2 (U.symm.trans z);subst this;obtain ⟨q,hq,vs,W⟩:=R.hr.obj j _ O;obtain ⟨b,k1,k2,k3,Z,n7,s,D⟩:=W.has i _ (Xa hi);have D:=D _ rfl rfl;obtain ⟨X,es,Y⟩:=g
 have e3:X=b/\ es=Z/\ Y=n7:=by
  grind
 obtain ⟨rfl,rfl,rfl⟩:=e3;simp only at f A V;rw [C];have Mv: ∀ x∈es.toList,x.born<Y:=s.born;rcases zEi (P:=P) f s.blk Mv (zBT _) ty with ⟨e1,F⟩ | ⟨e,M,w1,Q,F⟩
 ·simp_all
 ·have o:e.key∈c.map BW:=A.mem_iff.1 (zL1.2 ⟨e,M,rfl⟩);obtain ⟨y,hy,hye⟩:=zL1.1 o;have hes:e∈es.toList:=by simp [leftOf] at M ⊢;exact M.1
  have hrlt:p'.blk<w.heap.size:=(zA0.1 f).1;have hw1h:w1.heap=w.heap:=by rcases Q with rfl | rfl <;> rfl
  have hU:AS p'.foot w { w1 with heap:=w1.heap.setIfInBounds p'.blk (.mapIter (some X) Y (seen.push e.born) Y) }:=by
   rw [d]
   have u1:AS (λk=>k=p'.blk) w w1:=by
    rcases Q with rfl | rfl
    ·exact AS.refl _ _
    ·exact AS.ofExt (Az.toDrew w)
   exact u1.trans (Uy _)
  have E:({ w1 with heap:=w1.heap.setIfInBounds p'.blk (.mapIter (some X) Y (seen.push e.born) Y) }:World).heap[p'.blk]? =some (.mapIter (some X) Y (seen.push e.born) Y):=by
   grind
  refine .inr ⟨y,hy,e.key,e.val,_,p',F,z,hU,⟨λx r=>?_,C,d,seen.push e.born,E,?_,λx r=>?_⟩,λb G=>?_⟩
  ·grind
  ·have hl:leftOf es (seen.push e.born)=(leftOf es seen).filter λx=>x.born != e.born:=by
    grind [leftOf,Array.filter_filter]
   have A8:((leftOf es seen).toList.map (·.born)).Nodup:=by
    have:((leftOf es seen).toList.map (·.born)).Sublist (es.toList.map (·.born)):=by
     unfold leftOf;rw [Array.toList_filter];exact List.filter_sublist.map _
    exact this.nodup s.stamps
   have t: ∀ (l:List MapEntry),(l.map (·.born)).Nodup -> e∈l -> (l.map (·.key)).Perm (e.key::((l.filter λx=>x.born != e.born).map (·.key))):=by
    intro l
    induction l with
    | nil=>intro _ h;cases h
    | cons x l ih=>
     intro H r;rw [zMS,List.nodup_cons] at H
     by_cases I:x=e
     ·subst I
      have:(l.filter λy=>y.born != x.born)=l:=List.filter_eq_self.2 λy hy=>by
       grind
      simp [this]
     ·have dg:e∈l:=(zKP.1 r).resolve_left λh=>I h.symm
      have Ah:(x.born != e.born)=true:=by
       grind
      rw [zQN,zAE Ah,zMS,zMS];exact ((ih H.2 dg).cons x.key).trans (List.Perm.swap e.key x.key _)
   have P1:=t _ A8 M;rw [hl,Array.toList_filter];have P2:(c.map BW).Perm (BW y::(c.erase y).map BW):=(List.perm_cons_erase hy).map BW;have P3:=P1.symm.trans (A.trans P2)
   simp_all
  ·grind
  ·rw [d] at G;exact ⟨_,rfl,(),by rw [show b=p'.blk from G];exact E⟩
variable {ops:Array Oper}
theorem Tr.next (A:Du F P){id:Nat}(A8:Ct ops=true){o:Oper}{rest:List Oper}(Wv:ops.toList=o::rest){x:Operand}(E:o.op= .next x false)(hw:K3 ops S o=some true){C i:Nat}{r:List (Option KS)}{f:KS}{Fi:Option Ξ}(hx:Ad S.fr x= .it m)(z:S.h[m]? =some (some (.mo (.mit n g.1 g.2.1 g.2.2 f Fi))))(H:S.h[j]? =some (some (.mo (.sets C r (some (i,g))))))(xh:m≠j)(hi:(r.getD i none).isSome=true) 
 (h0:f= [] -> ∃ S' vs o0 o',EL P Γ ops rest ⟨Cn S.fr o.dst (.tup 1 (L1 [.bool false])),(S.h.set j (some (.mo (.sets C r none)))).set m none⟩ o0=some (S',vs,o')/\ BX vs/\ Q .normal S' Y)
 (h1: ∀ y∈f,∃ S' vs o0 o',EL P Γ ops rest ⟨Cn S.fr o.dst (.tup 3 (L1 [.bool true])),S.h.set m (some (.mo (.mit n g.1 g.2.1 g.2.2 (f.erase y) (some y))))⟩ o0=some (S',vs,o')/\ BX vs/\ Q .normal S' Y):Tr P Γ F B L Y (.region id ops false) S Q:=λN ρ a w R y mk b=>by
 refine zL4 ?_;rw [Wv];have hd: ∀ c,o.op≠.defer c:=λc e=>by rw [E] at e;cases e
 have De: ∀ o'∈rest,o'∈ops:=λo' Tp=>by
  grind
 have C3: ∀ v,(a.put o.dst v).defers=a.defers:=λv=>by cases E:o.dst <;> simp [Act.put]
 have rx:=BV R x;rw [hx] at rx;unfold wpListIn;rw [zAE (I2 R hw)];have KY:execOp a.eval o=(do pure (.value (←Instr.next (a.eval x) false o.type))):=by unfold execOp;rw [E]
 have Ab:m<S.h.length:=(zJ0.1 z).1;rcases zIK R z H hi rx o.type with ⟨e1,I⟩ | ⟨X,J,k,u,w',p,I,l,K,hO,hC⟩
 ·obtain ⟨S',vs,o0,o',M,O,T⟩:=h0 e1;obtain ⟨q,hq,U,hS⟩:=R.hr.obj j _ H;obtain ⟨D,V⟩:=R.setMo H hq (x':=.sets C r none) ⟨U,hS.unlock⟩ λb hb=>hS.lies hb
  have R2:AU P Γ N ⟨S.fr,(S.h.set j (some (.mo (.sets C r none)))).set m none⟩ ρ a w:=⟨D.hr.kill m,D.fr.out (BL.kill m)⟩
  have W:=HP R2 o.dst (d:=.tup 1 (L1 [.bool false])) (v:=.tuple #[.bool false]) ⟨#[.bool false],rfl,rfl,λZ da=>by
   have:Z=0:=Z2
   subst this;exact ⟨_,rfl,rfl⟩⟩
  refine Lx A hd (G:=λv t=>v= .tuple #[.bool false]/\ t=w) (BH.value (s:=Instr.next (a.eval x) false o.type) KY I ⟨rfl,rfl⟩) λv t ⟨hv,lP⟩=>?_
  subst hv lP;refine Lp A A8 rest De W M O λρ' a' w3 R' st EI=>?_
  exact Tr.done R y mk b T R' ((V.trans (A3.kill m)).trans st.st) (λk p _ l=>st.pl k p l) (EI.trans (C3 _))
 ·obtain ⟨S',vs,o0,o',M,O,T⟩:=h1 X J;have V:=A3.write (h:=S.h) (o':=.mo (.mit n g.1 g.2.1 g.2.2 (f.erase X) (some X))) z l K;have D:AU P Γ N ⟨S.fr,S.h.set m (some (.mo (.mit n g.1 g.2.1 g.2.2 (f.erase X) (some X))))⟩ ρ a w':=⟨R.hr.write z l K hC hO,R.fr.out (BL.write trivial z l K)⟩
  have W:=HP D o.dst (d:=.tup 3 (L1 [.bool true])) (v:=.tuple #[.bool true,k,u]) ⟨#[.bool true,k,u],rfl,rfl,λZ da=>by
   match Z,da with
   | 0,_=>exact ⟨_,rfl,rfl⟩
   | 1,_=>exact ⟨_,rfl,trivial⟩
   | 2,_=>exact ⟨_,rfl,trivial⟩⟩
  refine Lx A hd (G:=λv t=>v= .tuple #[.bool true,k,u]/\ t=w') (BH.value (s:=Instr.next (a.eval x) false o.type) KY I ⟨rfl,rfl⟩) λv t ⟨hv,lP⟩=>?_
  subst hv lP;refine Lp A A8 rest De W M O λρ' a' w3 R' st EI=>?_
  exact Tr.done R y mk b T R' (V.trans st.st) (λk p _ l=>st.pl k p l) (EI.trans (C3 _))
def kA (ops:Array Oper):Operand:=match ops.toList with
 | o::_=>match o.op with
  | .next x _=>x
  | _=>.tmp 0
 | []=>.tmp 0
def cE (ops:Array Oper):Option Tmp:=match ops.toList with
 | o::_=>o.dst
 | []=>none
def QD (ops:Array Oper):List Oper:=ops.toList.tail
def kB (ops:Array Oper):Bool:=match ops.toList with
 | o::_=>match o.op with
  | .next _ false=>o.guard.isNone&&Ct ops
  | _=>false
 | []=>false
theorem zH3 (h:kB ops=true):Ct ops=true/\ ∃ o,ops.toList=o::QD ops/\ o.op= .next (kA ops) false/\ o.guard=none/\ o.dst=cE ops:=by
 unfold kB at h;unfold kA cE QD;split at h
 ·rename_i o rest F;rw [F];split at h
  ·simp_all
  ·cases h
 ·cases h
def bx (C σ:Θ)(L:Nat)(r:St×List Prop×BS):List DV×DH×List Prop×Bool:=((comp C σ r.1).fr,(comp C σ r.1).h,r.2.1,K7 σ L r.1.h.length)
theorem A5.nx (q:HX F P)(l:Pn K=some (ops,Em K))(s:kB ops=true)(m j i n:Nat)(b:List (Option KS))(g:LK)(a:KS)(t:Option Ξ)(C σ:Θ)(v:List DV)(h0:DH)(σ1:Θ)(X:Ξ -> List DV)(d:Ξ -> DH) 
 (u:Ad fr (kA ops)= .it m) (z:h[m]? =some (some (.mo (.mit n g.1 g.2.1 g.2.2 a t)))) (A:h[j]? =some (some (.mo (.sets n b (some (i,g)))))) (D:m≠j) (hi:(b.getD i none).isSome=true) (E:JM (Em K)=true)
 (G:(EL P Γ ops (QD ops) ⟨Cn fr (cE ops) (.tup 1 (L1 [.bool false])),(h.set j (some (.mo (.sets n b none)))).set m none⟩ ⟨[],[],[],[]⟩).map (bx C σ L)=some (v,h0,[],true))
 (H: ∀ y,(EL P Γ ops (QD ops) ⟨Cn fr (cE ops) (.tup 3 (L1 [.bool true])),h.set m (some (.mo (.mit n g.1 g.2.1 g.2.2 (a.erase y) (some y))))⟩ ⟨[],[],[],[]⟩).map (bx C σ1 L)=some (X y,d y,[],true))
 (I:a= [] -> A5 P Γ F B L Y Q (Em K) ⟨v,h0⟩) (J: ∀ y∈a,A5 P Γ F B L Y Q (Em K) ⟨X y,d y⟩):A5 P Γ F B L Y Q K ⟨fr,h⟩:=by
 have x: ∀ {S:St} {C σ:Θ} {fr':List DV} {h':DH},(EL P Γ ops (QD ops) S ⟨[],[],[],[]⟩).map (bx C σ L)=some (fr',h',[],true) -> A5 P Γ F B L Y Q (Em K) ⟨fr',h'⟩ -> ∃ S' vs o0 o',EL P Γ ops (QD ops) S o0=some (S',vs,o')/\ BX vs/\ A5 P Γ F B L Y Q (Em K) S':=by
  intro S C σ fr' h' w hk;cases c:EL P Γ ops (QD ops) S ⟨[],[],[],[]⟩ with
  | none=>rw [c] at w;cases w
  | some r=>
   obtain ⟨k,v1,o1⟩:=r;rw [c] at w;simp only [zLo,bx,zJw,zKR] at w;obtain ⟨rfl,rfl,rfl,M⟩:=w;exact ⟨k,_,_,_,c,trivial,BI.le (A7.comp C σ k M) E hk⟩
 unfold Pn at l;split at l
 ·rename_i id vf k';have e:=zA2 l;simp only [Em,zKR,and_true] at e;subst e;obtain ⟨N,o,O,R,T,p⟩:=zH3 s;exact Tr.next (S:=⟨fr,h⟩) q.f N O R (by unfold K3;rw [T]) u z A D hi (λe=>by rw [p];exact x G (I e)) (λy hy=>by rw [p];exact x (H y) (J y hy))
 ·cases l
end
end
abbrev zAB:=@Option.bind_some
abbrev zIR:=@Nat.lt_succ_iff_lt_or_eq
abbrev zKA:=@List.mem_cons_of_mem
abbrev zLb:=@List.mem_cons_self
def AZ {R:Type}(f:Nat -> Option R)(Q:R -> Prop):Prop:=∃ N,∀ n,N<=n -> ∃ r,f n=some r/\ Q r
def Ev {R:Type}(f:Nat -> Option R)(r:R):Prop:=∃ N,∀ n,N<=n -> f n=some r
section
variable {R T:Type} {f g:Nat -> Option R} {Q Q':R -> Prop} {r:R}
def Ev.p (h:Ev f r)(a:Q r):AZ f Q:=let ⟨N,h⟩:=h;⟨N,λn u=>⟨r,h n u,a⟩⟩
theorem AZ.ev (h:AZ f Q)(hu: ∀ r F,Q r -> Q F -> r=F): ∃ r,Q r/\ Ev f r:=by
 obtain ⟨N,h⟩:=h;obtain ⟨r,h1,b⟩:=h N (zBT _);refine ⟨r,b,N,λn hn=>?_⟩
 grind
theorem AZ.mono (h:AZ f Q)(a: ∀ r,Q r -> Q' r):AZ f Q':=let ⟨N,h⟩:=h;⟨N,λn u=>let ⟨r,b,c⟩:=h n u;⟨r,b,a r c⟩⟩
theorem AZ.step (k:Nat)(h: ∀ n,f (n+k)=g n)(a:AZ g Q):AZ f Q:=by
 obtain ⟨N,a⟩:=a;refine ⟨N+k,λn hn=>?_⟩;have:=a (n-k) Z2
 grind
theorem Ev.step (k:Nat)(h: ∀ n,f (n+k)=g n)(a:Ev g r):Ev f r:=by
 obtain ⟨N,a⟩:=a;refine ⟨N+k,λn hn=>?_⟩;have:=a (n-k) Z2
 grind
def Ev.now (h: ∀ n,f n=some r):Ev f r:=⟨0,λn _=>h n⟩
def Ev.eq {f g:Nat -> Option R}(h:Ev g r)(e: ∀ n,f n=g n):Ev f r:=let ⟨N,h⟩:=h;⟨N,λn u=>(e n).trans (h n u)⟩
def AZ.eq {f g:Nat -> Option R}(h:AZ g Q)(e: ∀ n,f n=g n):AZ f Q:=let ⟨N,h⟩:=h;⟨N,λn u=>by rw [e];exact h n u⟩
variable {b:Nat -> T -> Option R}{x:T}{a:Nat -> Option T}
theorem Ev.bind (K:Ev a x)(c:Ev (λn=>b n x) r):Ev (λn=>(a n).bind (b n)) r:=by
 obtain ⟨N,K⟩:=K;obtain ⟨M,c⟩:=c;refine ⟨max N M,λn hn=>?_⟩
 grind
def AZ.bind (K:Ev a x)(c:AZ (λn=>b n x) Q):AZ (λn=>(a n).bind (b n)) Q:=by
 obtain ⟨N,K⟩:=K;obtain ⟨M,c⟩:=c;refine ⟨max N M,λn hn=>?_⟩
 show ∃ r,(a n).bind (b n)=some r/\ _
 rw [K n Z2,zAB];exact c n Z2
theorem AZ.all {l:List T}{F:T -> Nat -> Option R}(h: ∀ y∈l,AZ (F y) Q): ∃ N,∀ n,N<=n -> ∀ y∈l,∃ r,F y n=some r/\ Q r:=by
 induction l with
 | nil=>simp_all
 | cons x l b=>
  obtain ⟨N,W⟩:=b λy hy=>h y (zKA _ hy)
  obtain ⟨M,Y⟩:=h x zLb;refine ⟨max N M,λn hn y hy=>?_⟩;rcases zKP.1 hy with rfl | hy
  ·exact Y n Z2
  ·exact W n Z2 y hy
def AZ.range {F:Nat -> Nat -> Option R}{A:Nat -> R -> Prop}: ∀ (k:Nat),(∀ i,i<k -> AZ (F i) (A i)) -> ∃ N,∀ n,N<=n -> ∀ i,i<k -> ∃ r,F i n=some r/\ A i r
 | 0,_=>⟨0,λn _ i hi=>absurd hi (zA6 i)⟩
 | k+1,h=>by
  obtain ⟨N,W⟩:=AZ.range k λi hi=>h i Z2
  obtain ⟨M,Y⟩:=h k Z2;refine ⟨max N M,λn hn i hi=>?_⟩;rcases zIR.1 hi with hi | rfl
  ·exact W n Z2 i hi
  ·exact Y n Z2
theorem AZ.next [DecidableEq R] {b:KS} {a:Nat -> Option R} {F:Nat -> Ξ -> Option R} (u:b≠[]) (h: ∀ y∈b,AZ (λn=>F n y) Q) (hu: ∀ r c,Q r -> Q c -> r=c):AZ (λn=>If b (a n) (F n)) Q:=by
 obtain ⟨N,hN⟩:=AZ.all h;refine ⟨N,λn Tq=>?_⟩;obtain ⟨y0,hy0⟩:=List.exists_mem_of_ne_nil b u
 grind [zHw]
end
section
class HC (F:Fence):Prop where
 x:HX F Tryz.prog
 w:F=Fence.wide∨∃ l,F=Fence.wide.inRound l
instance:HC Fence.wide:=⟨⟨Du.wide,Z5⟩,.inl rfl⟩
instance (l:Nat):HC (Fence.wide.inRound l):=⟨⟨Du.round l,Z5⟩,.inr ⟨l,rfl⟩⟩
abbrev DV.i (x:Int):DV:=.int .i64 x
def AD:BF:=λ_=>.no
def Gh:Nat -> List DV -> Θ
 | _,[]=>[]
 | i,.any::r=>Gh (i+1) r
 | i,_::r=>i::Gh (i+1) r
section
variable {F:Fence} {B:Option Nat} {L:Nat} {Y N:BK Tryz.prog GG L} {Q:QY Tryz.prog GG L} {k k':List KI} {S:St} {fr:List DV} {h' h2:DH} {c:List (DV×DH×Bool)} {o:List (Nat×DV)} {z:List (Nat×Fz)} {v w:List Prop}
def gz [b:HC F] (J:BF) (σ:Θ) (a:HS c o z v) (T:Θ) (P:HS [] [] [] w) (k':List KI) (fr:List DV) (h':DH) (hk:A5 Tryz.prog GG F B L Y Q k' ⟨fr,h'⟩) (tg:List (List (Nat×Nat)×St):=[])
 (h:(CH Tryz.prog GG J 400 k S ⟨c,o,z,tg⟩).bind (OJ (Gh 0 fr) σ L T)=some (.at k',fr,h',v,w,[],[],true):=by kernel_rfl) (n:JM k'=true:=by kernel_rfl):A5 Tryz.prog GG F B L Y Q k S:=
 BI.gS b.x J 400 (Gh 0 fr) σ tg a T P k' fr h' h n hk
theorem gs [b:HC F] (J:BF) (σ:Θ) (a:HS c o z v) (k':List KI) (fr:List DV) (h':DH) (hk:A5 Tryz.prog GG F B L Y Q k' ⟨fr,h'⟩) (tg:List (List (Nat×Nat)×St):=[])
 (h:(CH Tryz.prog GG J 400 k S ⟨c,o,z,tg⟩).bind (OJ (Gh 0 fr) σ L [])=some (.at k',fr,h',v,[],[],[],true):=by kernel_rfl) (n:JM k'=true:=by kernel_rfl):A5 Tryz.prog GG F B L Y Q k S:=
 BI.gS b.x J 400 (Gh 0 fr) σ tg a [] H0 k' fr h' h n hk
def gg [b:HC F] (J:BF) (σ:Θ) (a:HS c o z v) (hk:A5 Tryz.prog GG F B L Y Q k' ⟨fr,h'⟩) (tg:List (List (Nat×Nat)×St):=[])
 (h:(CH Tryz.prog GG J 400 k S ⟨c,o,z,tg⟩).bind (OJ (Gh 0 fr) σ L [])=some (.at k',fr,h',v,[],[],[],true):=by kernel_rfl) (n:JM k'=true:=by kernel_rfl):A5 Tryz.prog GG F B L Y Q k S:=
 BI.gS b.x J 400 (Gh 0 fr) σ tg a [] H0 k' fr h' h n hk
variable {d:DV}{fn:Func}
theorem el [b:HC F]   (J:BF) (C σ:Θ) (a:HS c o z v) (T:Θ) (P:HS [] [] [] w) (t:List DV) (e:AM (IT t) d) (tg:List (List (Nat×Nat)×St):=[])
 (h:(CH Tryz.prog GG J 400 k S ⟨c,o,z,tg⟩).bind (LU Tryz.prog C σ L T fn d h2.length)=some (true,t,h2,v,w,[],[],true):=by kernel_rfl):BI Tryz.prog GG F B L N (Cp Tryz.prog fn L d h2) k S:=
 BI.el b.x J 400 C σ tg a T P t e h
def ez [b:HC F]   (J:BF) (C σ:Θ) (a:HS c o z v) (T:Θ) (P:HS [] [] [] w) (tg:List (List (Nat×Nat)×St):=[])
 (h:(CH Tryz.prog GG J 400 k S ⟨c,o,z,tg⟩).bind (λr=>(LU Tryz.prog C σ L T fn d h2.length r).map λq=>(q.1,IT q.2.1,q.2.2))=some (true,d,h2,v,w,[],[],true):=by kernel_rfl):BI Tryz.prog GG F B L N (Cp Tryz.prog fn L d h2) k S:=
 BI.e b.x J 400 C σ tg a T P h
def ee [b:HC F]   (J:BF) (C σ:Θ) (a:HS c o z v) (tg:List (List (Nat×Nat)×St):=[])
 (h:(CH Tryz.prog GG J 400 k S ⟨c,o,z,tg⟩).bind (λr=>(LU Tryz.prog C σ L [] fn d h2.length r).map λq=>(q.1,IT q.2.1,q.2.2))=some (true,d,h2,v,[],[],[],true):=by kernel_rfl):BI Tryz.prog GG F B L N (Cp Tryz.prog fn L d h2) k S:=
 BI.e b.x J 400 C σ tg a [] H0 h
def rr [b:HC F] {R:List Exit} {i:Nat} {e:Exit} (J:BF) (σ:Θ) (M:(Exit.normal::R)[i]? =some e) (a:HS c o z v) (tg:List (List (Nat×Nat)×St):=[])
 (h:(CH Tryz.prog GG J 400 k S ⟨c,o,z,tg⟩).map (js σ L)=some (some e,h2,v,[],[],[],true):=by kernel_rfl):BI Tryz.prog GG F B L N (Cx L R i h2) k S:=
 BI.r b.x J 400 σ tg a M h
def ag [b:HC F] {Q:Exit -> St -> Prop} {a X:Code} (J:BF) (σ:Θ) (d:HS c o z v) (fr:List DV) (h':DH) (hk: ∀ e:BK Tryz.prog GG L,BI Tryz.prog GG F B L e Q [.code X] ⟨fr,h'⟩)
 (h:(CH Tryz.prog GG J 400 [.code a] S ⟨c,o,z,[]⟩).map (WM (Gh 0 fr) σ L)=some (.at [],fr,h',v,[],[],true):=by kernel_rfl):HJ Tryz.prog GG F B L N Q a X S:=
 HJ.g b.x J 400 (Gh 0 fr) σ d fr h' h hk
def rd {n m:Nat}(z:n+1<=m)(h: ∀ m,n<=m -> A5 Tryz.prog GG F B L Y Q (pz m k) S)(hk:QZ k=true:=by kernel_rfl):A5 Tryz.prog GG F B L Y Q (Dx m k) S:=BI.round z hk h
def en (m:Nat)(h:A5 Tryz.prog GG F B L Y Q (Dx m k) S)(hk:QZ k=true:=by kernel_rfl):A5 Tryz.prog GG F B L Y Q k S:=BI.enter m hk h
end
variable {ext:Bool}{h' h:DH}{d:DV}{ds:List DV}{f:Nat}
def em (v:ES Tryz.prog GG f ds h d h' ext)(σ:Θ)(H:DH)(c:O6 σ H.length h.length h'.length=true:=by kernel_rfl)(W:(σ.map λk=>H.getD k none)=h.map (C0 σ H.length):=by kernel_rfl):ES Tryz.prog GG f (ds.map (up σ H.length)) H (up σ H.length d) (DZ H σ h') ext:=ES.emC v σ H c W
def es (v:ES Tryz.prog GG f ds h d h' ext)(σ:Θ)(H:DH)(n:List DV)(K:cT H σ n ds)(c:O6 σ H.length h.length h'.length=true:=by kernel_rfl)(W:(σ.map λk=>H.getD k none)=h.map (C0 σ H.length):=by kernel_rfl)(l:(Jy d&&h'.all VH)=true:=by kernel_rfl):ES Tryz.prog GG f n H (up σ H.length d) (DZ H σ h') ext:=ES.embedSB v σ H K c W l
def fb (h0:ES Tryz.prog GG f ds [] d [] true)(h:DH)(F:ds.all GK=true:=by kernel_rfl):ES Tryz.prog GG f ds h d h true:=ES.frameB h0 h F
def sb (ds:List DV){X:List DV}(h0:ES Tryz.prog GG f X [] d [] true)(h:DH)(l:PE h ds X)(v:Zk d=true:=by kernel_rfl):ES Tryz.prog GG f ds h d h true:=ES.snapB h0 h l v
def ot {fn:Func}(O:Tryz.prog.funcs[f]? =some fn)(H: ∀ (B:Nat) (N:BK Tryz.prog GG h.length),BI Tryz.prog GG Fence.wide (some B) h.length N (Cp Tryz.prog fn h.length d h') (start fn) ⟨ds++List.replicate (fn.ntmps-ds.length) .any,h⟩) 
 (c:fn.body.isSome=true:=by kernel_rfl) (l:(fn.name== "runtime.NumGoroutine")=false:=by kernel_rfl) (hni:h'.all WV=true:=by kernel_rfl) (W:(!ext||h.isEmpty)=true:=by kernel_rfl):ES Tryz.prog GG f ds h d h' ext:=
 ES.of_trk O c l (QJ hni) (λe=>by subst e;simpa using W) H
section
variable {F:Fence} {B L:Nat} {Y:BK Tryz.prog GG L} {Q:QY Tryz.prog GG L} {fr:List DV} {h:DH} {K:List KI} {a b:Code} {α σ:Type} {l:List α} {H:σ -> DH} {FR:α -> List DV}
variable {c:σ}
def rx [d:HC F] (R:List Exit) (D t:Nat) (V:Array Tmp) (enc:α -> List DV) (L':Nat) {f:α -> σ -> Option (σ×Nat)}  {rE:σ×Nat} (O:CY f l c=some rE)
 (g: ∀ (l B:Nat) (N:BK Tryz.prog GG L') (x:α) (s:σ) (r:σ×Nat),f x s=some r -> HJ Tryz.prog GG (Fence.wide.inRound l) (some B) L' N (Cx L' R r.2 (H r.1)) a b ⟨FR x,H s⟩)
 (y: ∀ e,(Exit.normal::R)[rE.2]? =some e -> BG Tryz.prog GG F (some B) L Q (Em K) e ⟨fr,H rE.1⟩ Y) (n:(R.all λe=>(Kk e).isSome)=true:=by kernel_rfl)
 (i:Pj K=some (.tmp t,V,a,b,Em K):=by kernel_rfl) (j:Ad fr (.tmp t)= .it D:=by kernel_rfl) (hk:h[D]? =some (some (.iter (l.map enc))):=by kernel_rfl) (k: ∀ x,(enc x).length=V.size:=by exact λ_=>rfl) (m:Nat.ble L L'=true:=by kernel_rfl) (o:fr.all (CP L')=true:=by kernel_rfl) (h0:h.set D none=H c:=by kernel_rfl) (u:(λx=>I6 fr V.toList (enc x))=FR:=by kernel_rfl):A5 Tryz.prog GG F (some B) L Y Q K ⟨fr,h⟩:=
 BI.rg d.w R n D t V enc L' O g i j hk k m o h0 u y
def r0 [d:HC F] (D t:Nat) (V:Array Tmp) (enc:α -> List DV) (L':Nat) {f:α -> σ -> Option σ} {I:σ} (O:CK f l c=some I)
 (e: ∀ (l B:Nat) (N:BK Tryz.prog GG L') (x:α) (s r:σ),f x s=some r -> HJ Tryz.prog GG (Fence.wide.inRound l) (some B) L' N (Cx L' [] 0 (H r)) a b ⟨FR x,H s⟩)
 (y:A5 Tryz.prog GG F (some B) L Y Q (Em K) ⟨fr,H I⟩)
 (g:Pj K=some (.tmp t,V,a,b,Em K):=by kernel_rfl) (n:Ad fr (.tmp t)= .it D:=by kernel_rfl) (hk:h[D]? =some (some (.iter (l.map enc))):=by kernel_rfl) (i: ∀ x,(enc x).length=V.size:=by exact λ_=>rfl) (j:Nat.ble L L'=true:=by kernel_rfl) (k:fr.all (CP L')=true:=by kernel_rfl) (h0:h.set D none=H c:=by kernel_rfl) (u:(λx=>I6 fr V.toList (enc x))=FR:=by kernel_rfl):A5 Tryz.prog GG F (some B) L Y Q K ⟨fr,h⟩:=
 BI.rg0 d.w D t V enc L' O e g n hk i j k h0 u y
end
abbrev Yd (L:Nat):=BK Tryz.prog GG L
abbrev EQ:=ES Tryz.prog GG
abbrev FQ:=Cp Tryz.prog
def px {α:Type}(n B:Nat){L:Nat}(F:Fence)(N:Yd L)(Q:Exit -> St -> Prop)(c:Code)(g:α -> Nat×Nat×List DV×DH)(d:α):Prop:=match g d with
 | (0,b,f,h)=>∀ m,n<=m -> BI Tryz.prog GG F (some B) L N Q (Dx m (Fk c b [])) ⟨f,h⟩
 | (1,b,f,h)=>∀ m a,n<=m -> n<=a -> BI Tryz.prog GG F (some B) L N Q (Dx a (Fk c b [m])) ⟨f,h⟩
 | (2,b,f,h)=>∀ m a p,n<=m -> n<=a -> n<=p -> BI Tryz.prog GG F (some B) L N Q (Dx p (Fk c b [m,a])) ⟨f,h⟩
 | (3,b,f,h)=>BI Tryz.prog GG F (some B) L N Q (Dr c b []) ⟨f,h⟩
 | (4,b,f,h)=>∀ m,n<=m -> BI Tryz.prog GG F (some B) L N Q (Dr c b [m]) ⟨f,h⟩
 | (5,b,f,h)=>∀ m a,n<=m -> n<=a -> BI Tryz.prog GG F (some B) L N Q (Dr c b [m,a]) ⟨f,h⟩
 | (_,b,f,h)=>∀ m a p,n<=m -> n<=a -> n<=p -> BI Tryz.prog GG F (some B) L N Q (Dr c b [m,a,p]) ⟨f,h⟩
abbrev TW (B:Nat){L:Nat}(N:Yd L)(Q:Exit -> St -> Prop)(k:List KI)(S:St):Prop:=BI Tryz.prog GG Fence.wide (some B) L N Q k S
abbrev TA (l B:Nat){L:Nat}(N:Yd L)(Q:Exit -> St -> Prop)(fn:Func)(t:Nat)(S:St):Prop:=HJ Tryz.prog GG (Fence.wide.inRound l) (some B) L N Q (rgA fn t) (Pk fn t) S
abbrev Al {X R:Type}(m:Nat -> X -> Option R)(T:Nat -> R -> X -> Prop):Prop:=∀ n x r,m n x=some r -> T n r x
def ia {X R:Type}{m:Nat -> X -> Option R}{T:Nat -> R -> X -> Prop}(h0: ∀ x,m 0 x=none)(h: ∀ n,(∀ x r,m n x=some r -> T n r x) -> ∀ x r,m (n+1) x=some r -> T (n+1) r x):Al m T
 | 0,x,_,e=>by rw [h0 x] at e;cases e
 | n+1,x,r,e=>h n (ia h0 h n) x r e
/-A proof in q shape a u was read off:u holds a each way on,q hints gathered so Ir. -/
def Gt {R:Type}(T:R -> Prop)(c:List (DV×DH×Bool))(o:List (Nat×DV))(z:List (Nat×Fz))(v:List Prop)(A:Option R):Prop:=HS c o z v -> ∀ r,A=some r -> T r
section
variable {R R':Type} {T:R -> Prop} {c:List (DV×DH×Bool)} {o:List (Nat×DV)} {z:List (Nat×Fz)} {v:List Prop} {A A':Option R} {r0:R} {b b':Bool} {p q:Prop} {f:Nat} {ds:List DV} {h h':DH} {d d':DV} {e:Bool} {xi:Int}
def gO {F:Fence}{B:Option Nat}{L:Nat}{Y:Yd L}{Q:R -> QY Tryz.prog GG L}{k:List KI}{S:St}(t:Gt (λr=>A5 Tryz.prog GG F B L Y (Q r) k S) [] [] [] [] A): ∀ r,A=some r -> A5 Tryz.prog GG F B L Y (Q r) k S:=t H0
def gT (t:Gt T [] [] [] [] A): ∀ r,A=some r -> T r:=t H0
def rO (t:Gt T [] [] [] [] A):Gt T c o z v A:=λ_=>t H0
def nO:Gt T c o z v none:=λ_ _ h=>by cases h
def lF (x:HS c o z v -> T r0):Gt T c o z v (some r0):=λp _ h=>zA2 h▸x p
def bn (x:b=true -> Gt T c o z v A)(y:b=false -> Gt T c o z v A'):Gt T c o z v (bif b then A else A'):=λp r h=>(DN h).elim (λh=>x h.1 p r h.2) (λh=>y h.1 p r h.2)
def bj (t:Nat)(x:b=true -> Gt T c (o++[(t,.bool true)]) z (v++[AM (.bool b) (.bool true)]) A)(y:b=false -> Gt T c (o++[(t,.bool false)]) z (v++[AM (.bool b) (.bool false)]) A'):Gt T c o z v (bif b then A else A'):=bn (λh p=>x h (p.b t h)) (λh p=>y h (p.b t h))
def bi (t:Nat)(x:Gt T c (o++[(t,.bool true)]) z (v++[AM (.bool b) (.bool true)]) A)(y:Gt T c (o++[(t,.bool false)]) z (v++[AM (.bool b) (.bool false)]) A'):Gt T c o z v (bif b then A else A'):=bj t (λ_=>x) (λ_=>y)
def gn {_:Decidable p}(x:p -> Gt T c o z v A):Gt T c o z v (if p then A else none):=λw r h=>x (DE h).1 w r (DE h).2
def gi {_:Decidable p}(x:Gt T c o z (v++[p]) A):Gt T c o z v (if p then A else none):=gn λg w=>x (w.g g)
def gc {_:Decidable p}{_:Decidable q}(x:Gt T c o z v (if p then (if q then A else none) else none)):Gt T c o z v (if p/\ q then A else none):=λw r h=>x w r (by obtain ⟨⟨f,Q⟩,h⟩:=DE h;rw [zAE f,zAE Q];exact h)
def gw {_:Decidable (AG xi)}(t:Nat)(x:Gt T c (o++[(t,.int .i64 xi)]) z (v++[AM (.int .i64 (IntKind.i64.wrap xi)) (.int .i64 xi)]) A):Gt T c o z v (if AG xi then A else none):=gn λg w=>x (w.w t g)
variable {F:Option R'}
def cn {A:R' -> Option R}(x: ∀ y,F=some y -> Gt T c o z v (A y)):Gt T c o z v (F.bind A):=λw r h=>let ⟨y,hy,h⟩:=Gq h;x y hy w r h
def cf {A:R' -> Option R}{d:R' -> DV}(k: ∀ {y},F=some y -> ES Tryz.prog GG f ds [] (d y) [] true)(h:DH)(x: ∀ y,Gt T (c++[(d y,h,true)]) o z (v++[ES Tryz.prog GG f ds h (d y) h true]) (A y))(a:ds.all GK=true:=by kernel_rfl):Gt T c o z v (F.bind A):=cn λy hy w=>x y (w.c (fb (k hy) h a))
def ce {A:R' -> Option R}{d:R' -> DV}{h':R' -> DH}(k: ∀ {y},F=some y -> ES Tryz.prog GG f ds h (d y) (h' y) e)(σ:Θ)(H:DH)(x: ∀ y,Gt T (c++[(up σ H.length (d y),DZ H σ (h' y),e)]) o z (v++[ES Tryz.prog GG f (ds.map (up σ H.length)) H (up σ H.length (d y)) (DZ H σ (h' y)) e]) (A y))(a: ∀ y,O6 σ H.length h.length (h' y).length=true:=by intro;kernel_rfl)(W:(σ.map λk=>H.getD k none)=h.map (C0 σ H.length):=by kernel_rfl):Gt T c o z v (F.bind A):=cn λy hy w=>x y (w.c (em (k hy) σ H (a y) W))
def jb (t:Nat)(g:b=b')(x:Gt T c (o++[(t,.bool b')]) z (v++[AM (.bool b) (.bool b')]) A):Gt T c o z v A:=λw=>x (w.b t g)
def jw (t:Nat)(g:AG xi)(x:Gt T c (o++[(t,.int .i64 xi)]) z (v++[AM (.int .i64 (IntKind.i64.wrap xi)) (.int .i64 xi)]) A):Gt T c o z v A:=λw=>x (w.w t g)
def jg (g:p)(x:Gt T c o z (v++[p]) A):Gt T c o z v A:=λw=>x (w.g g)
def jt (x:Gt T c o z (v++[True]) A):Gt T c o z v A:=λw=>x w.t
def jo (t:Nat)(g:AM d d')(x:Gt T c (o++[(t,d')]) z (v++[AM d d']) A):Gt T c o z v A:=λw=>x (w.o t g)
def jc (g:ES Tryz.prog GG f ds h d h' e)(x:Gt T (c++[(d,h',e)]) o z (v++[ES Tryz.prog GG f ds h d h' e]) A):Gt T c o z v A:=λw=>x (w.c g)
def ja (t k m:Nat){n e:Nat}{f L:Nat -> Nat -> DV}(g:n=e/\ ∀ i j,i<n -> j<m -> AM (f i j) (L i j))(x:Gt T c o (z++[(t,.arr k e L)]) (v++[n=e/\ ∀ i j,i<n -> j<m -> AM (f i j) (L i j)]) A):Gt T c o z v A:=λw=>x (w.a t k m g)
def jz (t k:Nat)(x:Gt T c o (z++[(t,.frz k)]) v A):Gt T c o z v A:=λw=>x (w.z t k)
def ju (t k:Nat)(x:Gt T c o (z++[(t,.unf k)]) v A):Gt T c o z v A:=λw=>x (w.u t k)
end
section
variable {R:Type} {c:List (DV×DH×Bool)} {o:List (Nat×DV)} {z:List (Nat×Fz)} {v:List Prop} {A:Option R} {r0:R} {F:Fence} {B:Option Nat} {L:Nat} {Y N:BK Tryz.prog GG L} {k k':List KI} {S:St} {fr:List DV} {h':DH}
variable {Q:R -> QY Tryz.prog GG L}
def lG [hX:HC F] (J:BF) (σ:Θ)  (hk: ∀ {r},A=some r -> A5 Tryz.prog GG F B L Y (Q r) k' ⟨fr,h'⟩) (tg:List (List (Nat×Nat)×St):=[])
 (h:(CH Tryz.prog GG J 400 k S ⟨c,o,z,tg⟩).bind (OJ (Gh 0 fr) σ L [])=some (.at k',fr,h',v,[],[],[],true):=by kernel_rfl) (n:JM k'=true:=by kernel_rfl):Gt (λr=>A5 Tryz.prog GG F B L Y (Q r) k S) c o z v A:=
 λp _ e=>gg J σ p (hk e) tg h n
def lN [hX:HC F] {m:Nat} (J:BF) (σ:Θ)  (hk: ∀ {r},A=some r -> A5 Tryz.prog GG F B L Y (Q r) (Dx m k') ⟨fr,h'⟩) (tg:List (List (Nat×Nat)×St):=[])
 (h:(CH Tryz.prog GG J 400 k S ⟨c,o,z,tg⟩).bind (OJ (Gh 0 fr) σ L [])=some (.at k',fr,h',v,[],[],[],true):=by kernel_rfl) (n:JM k'=true:=by kernel_rfl) (a:QZ k'=true:=by kernel_rfl):Gt (λr=>A5 Tryz.prog GG F B L Y (Q r) k S) c o z v A:=
 lG J σ (λe=>en m (hk e) a) tg h n
def lE [hX:HC F] {fn:Func} {D:R -> DV} {E:R -> DH} (J:BF) (C σ:Θ) (tg:List (List (Nat×Nat)×St):=[])
 (h:(CH Tryz.prog GG J 400 k S ⟨c,o,z,tg⟩).bind (λr=>(LU Tryz.prog C σ L [] fn (D r0) (E r0).length r).map λq=>(q.1,IT q.2.1,q.2.2))=some (true,D r0,E r0,v,[],[],[],true):=by kernel_rfl):Gt (λr=>BI Tryz.prog GG F B L N (Cp Tryz.prog fn L (D r) (E r)) k S) c o z v (some r0):=
 lF λp=>ee J C σ p tg h
end
end
abbrev zBR:=@Nat.le_of_succ_le
section
set_option maxRecDepth 100000
set_option maxHeartbeats 40000000
def zDH:Ae (A0 Tryz.f20 6) [] (List.range 9) []:=Z0
def VR:BF:=λi=>match i with
 | 6=>.ord [] (List.range 9) []
 | _=>.no
inductive Zp where
 | l1 (x5:Int)
def Zl (n:Nat)(self:Zp -> W9)(a b:Ξ)(l:Int):W9:= bif (decide (l<(a.length:Int))) then if (0<=l/\ l<(a.length:Int))/\ (0<=l/\ l<(b.length:Int)) then bif ((a.getD l.toNat 0) != (b.getD l.toNat 0)) then some false else if AG (l+1) then self (.l1 (l+1)) else none else none else some true
def sD (n:Nat)(self:Zp -> W9)(a b:Ξ):W9:= bif ((a.length:Int) != (b.length:Int)) then some false else self (.l1 0)
def SS (a b:Ξ):Nat -> Zp -> W9
 | 0,_=>none
 | n+1,.l1 l=>Zl n (SS a b n) a b l
def same (n:Nat)(a b:Ξ):W9:=sD n (SS a b n) a b
def zCw (n B:Nat)(N:Yd 0)(a b:Ξ)(r:Bool):Zp -> Prop:=px n B Fence.wide N (FQ Tryz.f20 0 (.bool r) []) (Ac Tryz.f20) λ
 | .l1 l=>(0,0,AH 26 [(0,.ints a),(1,.ints b),(5,.i l)],[])
def zCx (B:Nat)(N:Yd 0)(a b:Ξ):Al (SS a b) (zCw · B N a b):=ia (λ_=>rfl) λn w c r h=>by
 cases c
 case l1 x5=>
  intro m k;refine rd k λm k=>?_
  revert r;apply gO;exact bi 14 (jg zDH (gc (gi (gi (bi 25 (lE VR [4] []) (gw 16 (lG VR [] (w _ _ · m k)))))))) (lE VR [4] [])
variable {r:Bool}{a:Ξ}{n:Nat}
def zCu {b:Ξ}(h:same n a b=some r):EQ 20 [.ints a,.ints b] [] (.bool r) [] true:=by
 refine ot Tryz.func20 λB N=>?_
 revert r;apply gO;exact bi 10 (lE VR [4] []) (lN VR [] ((zCx B N a b n) _ _ · n Nat.le.refl))
inductive dl where
 | l1 (x5:Int)
def mz (n:Nat)(self:dl -> W9)(N:Ξ)(P:Int)(l:Int):W9:= bif (decide (l<(N.length:Int))) then if 0<=l/\ l<(N.length:Int) then bif ((N.getD l.toNat 0)==P) then some true else if AG (l+1) then self (.l1 (l+1)) else none else none else some false
def yC (n:Nat)(self:dl -> W9)(l_:Ξ)(n_:Int):W9:= self (.l1 0)
def Ty (N:Ξ)(P:Int):Nat -> dl -> W9
 | 0,_=>none
 | n+1,.l1 l=>mz n (Ty N P n) N P l
def has (n:Nat)(N:Ξ)(P:Int):W9:=yC n (Ty N P n) N P
def zMK (n B:Nat)(N:Yd 0)(a:Ξ)(P:Int)(r:Bool):dl -> Prop:=px n B Fence.wide N (FQ Tryz.f87 0 (.bool r) []) (Ac Tryz.f87) λ
 | .l1 l=>(0,0,AH 18 [(0,.ints a),(1,.i P),(5,.i l)],[])
def zML (B:Nat)(N:Yd 0)(a:Ξ)(P:Int):Al (Ty a P) (zMK · B N a P):=ia (λ_=>rfl) λn w b r h=>by
 cases b
 case l1 x5=>
  intro m k;refine rd k λm k=>?_
  revert r;apply gO;exact bi 9 (gi (bi 17 (lE AD [4] []) (gw 11 (lG AD [] (w _ _ · m k))))) (lE AD [4] [])
def my {P:Int}(h:has n a P=some r):EQ 87 [.ints a,.i P] [] (.bool r) [] true:=by
 refine ot Tryz.func87 λB N=>?_
 revert r;apply gO;exact lN AD [] ((zML B N a P n) _ _ · n Nat.le.refl)
inductive fg where
 | l1 (x7:Int)
def oK (n:Nat)(self:fg -> W9)(N:Ξ)(lo hi:Int)(P:Int):W9:= bif (decide (P<(N.length:Int))) then if 0<=P/\ P<(N.length:Int) then bif (decide ((N.getD P.toNat 0)<lo)) then some false else bif (decide ((N.getD P.toNat 0)>hi)) then some false else if AG (P+1) then self (.l1 (P+1)) else none else none else some true
def zAK (n:Nat)(self:fg -> W9)(l_:Ξ)(lo hi:Int):W9:= self (.l1 0)
def UW (N:Ξ)(lo hi:Int):Nat -> fg -> W9
 | 0,_=>none
 | n+1,.l1 P=>oK n (UW N lo hi n) N lo hi P
def PC (n:Nat)(N:Ξ)(lo hi:Int):W9:=zAK n (UW N lo hi n) N lo hi
def zOr (n B:Nat)(N:Yd 0)(a:Ξ)(lo hi:Int)(r:Bool):fg -> Prop:=px n B Fence.wide N (FQ Tryz.f55 0 (.bool r) []) (Ac Tryz.f55) λ
 | .l1 P=>(0,0,AH 28 [(0,.ints a),(1,.i lo),(2,.i hi),(7,.i P)],[])
def zOs (B:Nat)(N:Yd 0)(a:Ξ)(lo hi:Int):Al (UW a lo hi) (zOr · B N a lo hi):=ia (λ_=>rfl) λn w b r h=>by
 cases b
 case l1 x7=>
  intro m k;refine rd k λm k=>?_
  revert r;apply gO;exact bi 11 (gn λW=>jg W (bi 19 (lE AD [6] []) (jg W (bi 26 (lE AD [6] []) (gw 13 (lG AD [] (w _ _ · m k))))))) (lE AD [6] [])
def YT {lo hi:Int}(h:PC n a lo hi=some r):EQ 55 [.ints a,.i lo,.i hi] [] (.bool r) [] true:=by
 refine ot Tryz.func55 λB N=>?_
 revert r;apply gO;exact lN AD [] ((zOs B N a lo hi n) _ _ · n Nat.le.refl)
def zEI:Ae (A0 Tryz.f88 7) [] (List.range 9) []:=Z0
def SQ:BF:=λi=>match i with
 | 7=>.ord [] (List.range 9) []
 | _=>.no
inductive UI where
 | l1 (x3:Int)
 | l2 (x3 x4:Int)
def nm (n:Nat)(self:UI -> W9)(N:Ξ)(D:Int):W9:= bif (decide (D<(N.length:Int))) then self (.l2 D 0) else some true
def eW (n:Nat)(self:UI -> W9)(N:Ξ)(D I:Int):W9:= bif (decide (I<D)) then if (0<=D/\ D<(N.length:Int))/\ (0<=I/\ I<(N.length:Int)) then bif ((N.getD D.toNat 0)==(N.getD I.toNat 0)) then some false else if AG (I+1) then self (.l2 D (I+1)) else none else none else if AG (D+1) then self (.l1 (D+1)) else none
def zX (n:Nat)(self:UI -> W9)(l_:Ξ):W9:= self (.l1 0)
def Km (N:Ξ):Nat -> UI -> W9
 | 0,_=>none
 | n+1,.l1 D=>nm n (Km N n) N D
 | n+1,.l2 D I=>eW n (Km N n) N D I
def eX (n:Nat)(N:Ξ):W9:=zX n (Km N n) N
def zNp (n B:Nat)(N:Yd 0)(a:Ξ)(r:Bool):UI -> Prop:=px n B Fence.wide N (FQ Tryz.f88 0 (.bool r) []) (Ac Tryz.f88) λ
 | .l1 D=>(0,0,AH 25 [(0,.ints a),(3,.i D)],[])
 | .l2 D I=>(1,2,AH 25 [(0,.ints a),(3,.i D),(4,.i I)],[])
def zNq (B:Nat)(N:Yd 0)(a:Ξ):Al (Km a) (zNp · B N a):=ia (λ_=>rfl) λn w b r h=>by
 cases b
 case l1 x3=>
  intro m k;refine rd k λm k=>?_
  revert r;apply gO;exact bi 8 (lN SQ [] (w _ _ · m n k Nat.le.refl)) (lE SQ [2] [])
 case l2 x3 x4=>
  intro m g k j;have k:=zBR k;refine rd j λg j=>?_
  revert r;apply gO;exact bi 13 (jg zEI (gc (gi (gi (bi 24 (lE SQ [2] []) (gw 15 (lG SQ [] (w _ _ · m g k j)))))))) (gw 10 (lG SQ [] (w _ _ · m k)))
def zNn (h:eX n a=some r):EQ 88 [.ints a] [] (.bool r) [] true:=by
 refine ot Tryz.func88 λB N=>?_
 revert r;apply gO;exact lN SQ [] ((zNq B N a n) _ _ · n Nat.le.refl)
inductive dB where
 | l1 (x8:Int)
def k6 (n:Nat)(self:dB -> Option Int)(G:Ξ)(v:Int)(x8:Int):Option Int:= bif (decide (x8<(G.length:Int))) then if 0<=x8/\ x8<(G.length:Int) then bif (v==(G.getD x8.toNat 0)) then some x8 else if AG (x8+1) then self (.l1 (x8+1)) else none else none else some (-1)
def xB (n:Nat)(self:dB -> Option Int)(s_:Ξ)(v:Int):Option Int:= self (.l1 0)
def Qc (G:Ξ)(v:Int):Nat -> dB -> Option Int
 | 0,_=>none
 | n+1,.l1 x8=>k6 n (Qc G v n) G v x8
def dD (n:Nat)(G:Ξ)(v:Int):Option Int:=xB n (Qc G v n) G v
def zJf (n B:Nat)(N:Yd 0)(G:Ξ)(v:Int)(r:Int):dB -> Prop:=px n B Fence.wide N (FQ Tryz.f96 0 (.i r) []) (Ac Tryz.f96) λ
 | .l1 x8=>(0,0,AH 19 [(0,.ints G),(1,.i v),(7,.i (G.length:Int)),(8,.i x8)],[])
def zJg (B:Nat)(N:Yd 0)(G:Ξ)(v:Int):Al (Qc G v) (zJf · B N G v):=ia (λ_=>rfl) λn w a r h=>by
 cases a
 case l1 x8=>
  intro m k;refine rd k λm k=>?_
  revert r;apply gO;exact bi 9 (gi (bi 16 (lE AD [4] []) (gw 18 (lG AD [] (w _ _ · m k))))) (lE AD [4] [])
variable {v:Int}{G:Ξ}
def zJe {r:Int}(h:dD n G v=some r):EQ 96 [.ints G,.i v] [] (.i r) [] true:=by
 refine ot Tryz.func96 λB N=>?_
 revert r;apply gO;exact lN AD [] ((zJg B N G v n) _ _ · n Nat.le.refl)
inductive dI where
 | l1 (x8:Int)
def dG (n:Nat)(self:dI -> Option Int)(G:Ω)(v:Bool)(x8:Int):Option Int:= bif (decide (x8<(G.length:Int))) then if 0<=x8/\ x8<(G.length:Int) then bif (v==(G.getD x8.toNat false)) then some x8 else if AG (x8+1) then self (.l1 (x8+1)) else none else none else some (-1)
def zJl (n:Nat)(self:dI -> Option Int)(s_:Ω)(v:Bool):Option Int:= self (.l1 0)
def Ob (G:Ω)(v:Bool):Nat -> dI -> Option Int
 | 0,_=>none
 | n+1,.l1 x8=>dG n (Ob G v n) G v x8
def dJ (n:Nat)(G:Ω)(v:Bool):Option Int:=zJl n (Ob G v n) G v
def zJm (n B:Nat)(N:Yd 0)(G:Ω)(v:Bool)(r:Int):dI -> Prop:=px n B Fence.wide N (FQ Tryz.f136 0 (.i r) []) (Ac Tryz.f136) λ
 | .l1 x8=>(0,0,AH 19 [(0,.bools G),(1,.bool v),(7,.i (G.length:Int)),(8,.i x8)],[])
def zJn (B:Nat)(N:Yd 0)(G:Ω)(v:Bool):Al (Ob G v) (zJm · B N G v):=ia (λ_=>rfl) λn w a r h=>by
 cases a
 case l1 x8=>
  intro m k;refine rd k λm k=>?_
  revert r;apply gO;exact bi 9 (gi (bi 16 (lE AD [4] []) (gw 18 (lG AD [] (w _ _ · m k))))) (lE AD [4] [])
def zJk {G:Ω}{v:Bool}{r:Int}(h:dJ n G v=some r):EQ 136 [.bools G,.bool v] [] (.i r) [] true:=by
 refine ot Tryz.func136 λB N=>?_
 revert r;apply gO;exact lN AD [] ((zJn B N G v n) _ _ · n Nat.le.refl)
def nu (n:Nat)(G:Ξ)(v:Int):W9:= (dD n G v).bind λe=> some (decide (e>=0))
def O8 (n:Nat)(G:Ξ)(v:Int):W9:=nu n G v
def zf (h:O8 n G v=some r):EQ 78 [.ints G,.i v] [] (.bool r) [] true:=by
 unfold O8 nu at h;refine ot Tryz.func78 λB N=>?_
 revert r;apply gO;exact cf zJe [] λ_=>lE AD [4] []
def zEF:Ae (A0 Tryz.f84 6) [] (List.range 9) []:=Z0
def VW:BF:=λi=>match i with
 | 6=>.ord [] (List.range 9) []
 | _=>.no
inductive eP where
 | l1 (x13:Int)
def eO (n:Nat)(self:eP -> W9)(Q z:Ξ)(x13:Int):W9:= bif (decide (x13<(Q.length:Int))) then if (0<=x13/\ x13<(Q.length:Int))/\ (0<=x13/\ x13<(z.length:Int)) then bif ((Q.getD x13.toNat 0) != (z.getD x13.toNat 0)) then some false else if AG (x13+1) then self (.l1 (x13+1)) else none else none else some true
def zH (n:Nat)(self:eP -> W9)(Q z:Ξ):W9:= bif ((Q.length:Int) != (z.length:Int)) then some false else self (.l1 0)
def UD (Q z:Ξ):Nat -> eP -> W9
 | 0,_=>none
 | n+1,.l1 x13=>eO n (UD Q z n) Q z x13
def Xr (n:Nat)(Q z:Ξ):W9:=zH n (UD Q z n) Q z
def zNW (n B:Nat)(N:Yd 0)(Q z:Ξ)(r:Bool):eP -> Prop:=px n B Fence.wide N (FQ Tryz.f84 0 (.bool r) []) (Ac Tryz.f84) λ
 | .l1 x13=>(0,0,AH 26 [(0,.ints Q),(1,.ints z),(12,.i (Q.length:Int)),(13,.i x13)],[])
def zNX (B:Nat)(N:Yd 0)(Q z:Ξ):Al (UD Q z) (zNW · B N Q z):=ia (λ_=>rfl) λn w a r h=>by
 cases a
 case l1 x13=>
  intro m k;refine rd k λm k=>?_
  revert r;apply gO;exact bi 14 (jg zEF (gc (gi (gi (bi 24 (lE VW [4] []) (gw 25 (lG VW [] (w _ _ · m k)))))))) (lE VW [4] [])
def zNU {Q z:Ξ}(h:Xr n Q z=some r):EQ 84 [.ints Q,.ints z] [] (.bool r) [] true:=by
 refine ot Tryz.func84 λB N=>?_
 revert r;apply gO;exact bi 10 (lE VW [4] []) (lN VW [] ((zNX B N Q z n) _ _ · n Nat.le.refl))
inductive Si where
 | l1 (x3:Int)
 | l2 (x3 x4:Int)
def i9 (n:Nat)(self:Si -> Option Int)(H:List Ξ)(D:Int):Option Int:= bif (decide (D<(H.length:Int))) then self (.l2 D 0) else some 0
def aV (n:Nat)(self:Si -> Option Int)(H:List Ξ)(D I:Int):Option Int:= if 0<=D/\ D<(H.length:Int) then bif (decide (I<(((H.getD D.toNat []).length:Nat):Int))) then if 0<=I/\ I<(((H.getD D.toNat []).length:Nat):Int) then bif (decide (((H.getD D.toNat []).getD I.toNat 0)<0)) then some 120 else bif (decide (((H.getD D.toNat []).getD I.toNat 0)>=(H.length:Int))) then some 120 else bif (((H.getD D.toNat []).getD I.toNat 0)==D) then some 120 else bif (decide (I>0)) then if AG (I-1)/\ (0<=(I-1)/\ (I-1)<(((H.getD D.toNat []).length:Nat):Int)) then bif (decide (((H.getD D.toNat []).getD (((I-1)).toNat) 0)>=((H.getD D.toNat []).getD I.toNat 0))) then some 120 else if (0:Int)<=((H.getD D.toNat []).getD I.toNat 0)/\ ((H.getD D.toNat []).getD I.toNat 0)<(H.length:Int) then (has n (H.getD (((H.getD D.toNat []).getD I.toNat 0).toNat) []) D).bind λe=> bif (!e) then some 120 else if AG (I+1) then self (.l2 D (I+1)) else none else none else none else if (0:Int)<=((H.getD D.toNat []).getD I.toNat 0)/\ ((H.getD D.toNat []).getD I.toNat 0)<(H.length:Int) then (has n (H.getD (((H.getD D.toNat []).getD I.toNat 0).toNat) []) D).bind λe=> bif (!e) then some 120 else if AG (I+1) then self (.l2 D (I+1)) else none else none else none else if AG (D+1) then self (.l1 (D+1)) else none else none
def tY (n:Nat)(self:Si -> Option Int)(H:List Ξ):Option Int:= bif (decide ((H.length:Int)>256)) then some 120 else self (.l1 0)
def J6 (H:List Ξ):Nat -> Si -> Option Int
 | 0,_=>none
 | n+1,.l1 D=>i9 n (J6 H n) H D
 | n+1,.l2 D I=>aV n (J6 H n) H D I
def N6 (n:Nat)(H:List Ξ):Option Int:=tY n (J6 H n) H
def zFn (n B:Nat)(N:Yd 0)(H:List Ξ)(r:Int):Si -> Prop:=px n B Fence.wide N (FQ Tryz.f56 0 (.i r) []) (Ac Tryz.f56) λ
 | .l1 D=>(0,0,AH 69 [(0,.sl 1 H.length (AO AW H)),(3,.i D)],[])
 | .l2 D I=>(1,2,AH 69 [(0,.sl 1 H.length (AO AW H)),(3,.i D),(4,.i I)],[])
def zFo (B:Nat)(N:Yd 0)(H:List Ξ):Al (J6 H) (zFn · B N H):=ia (λ_=>rfl) λn w a r h=>by
 cases a
 case l1 x3=>
  intro m k;refine rd k λm k=>?_
  revert r;apply gO;exact bi 12 (lN AD [] (w _ _ · m n k Nat.le.refl)) (lE AD [2] [])
 case l2 x3 x4=>
  intro m g k j;have k:=zBR k;refine rd j λg j=>?_
  revert r;apply gO;exact gn λW=>jg W (bi 21 (jg W (gi (bi 32 (lE AD [2] []) (bi 37 (lE AD [2] []) (bi 42 (lE AD [2] []) (bi 46 (jg W (gc (gw 53 (gi (bi 57 (lE AD [2] []) (gi (cf my [] λ_=>bi 67 (lE AD [2] []) (gw 23 (lG AD [] (w _ _ · m g k j)))))))))) (gi (cf my [] λ_=>bi 67 (lE AD [2] []) (gw 23 (lG AD [] (w _ _ · m g k j))))))))))) (gw 14 (lG AD [] (w _ _ · m k))))
variable {H:List Ξ}
def i8 {r:Int}(h:N6 n H=some r):EQ 56 [.sl 1 H.length (AO AW H)] [] (.i r) [] true:=by
 refine ot Tryz.func56 λB N=>?_
 revert r;apply gO;exact bi 8 (lE AD [2] []) (lN AD [] ((zFo B N H n) _ _ · n Nat.le.refl))
inductive T6 where
 | l1 (AQ:Int)
 | l2 (x3:Int) (x4:Ξ) (AQ:Int) (BN:Ξ) (L7 Dc:Int)
def nP (n:Nat)(self:T6 -> Option Int)(H:List Ξ)(k:Int):Option Int:= bif (decide (k<(H.length:Int))) then if 0<=k/\ k<(H.length:Int) then self (.l2 k (H.getD k.toNat []) k (H.getD k.toNat []) (((H.getD k.toNat []).length:Nat):Int) 0) else none else some 0
def eA (n:Nat)(self:T6 -> Option Int)(H:List Ξ)(D:Int)(I:Ξ)(a:Int)(o:Ξ)(C k:Int):Option Int:= bif (decide (k<C)) then if 0<=k/\ k<(o.length:Int) then bif (decide ((o.getD k.toNat 0)<0)) then some 120 else bif (decide ((o.getD k.toNat 0)>=(H.length:Int))) then some 120 else bif ((o.getD k.toNat 0)==D) then some 120 else bif (decide (k>0)) then if AG (k-1)/\ (0<=(k-1)/\ (k-1)<(I.length:Int)) then bif (decide ((I.getD (((k-1)).toNat) 0)>=(o.getD k.toNat 0))) then some 120 else if 0<=(o.getD k.toNat 0)/\ (o.getD k.toNat 0)<(H.length:Int) then (O8 n (H.getD ((o.getD k.toNat 0).toNat) []) D).bind λe=> bif (!e) then some 120 else if AG (k+1) then self (.l2 D I a o C (k+1)) else none else none else none else if 0<=(o.getD k.toNat 0)/\ (o.getD k.toNat 0)<(H.length:Int) then (O8 n (H.getD ((o.getD k.toNat 0).toNat) []) D).bind λe=> bif (!e) then some 120 else if AG (k+1) then self (.l2 D I a o C (k+1)) else none else none else none else if AG (a+1) then self (.l1 (a+1)) else none
def yb (n:Nat)(self:T6 -> Option Int)(H:List Ξ):Option Int:= bif (decide ((H.length:Int)>256)) then some 120 else self (.l1 0)
def Kg (H:List Ξ):Nat -> T6 -> Option Int
 | 0,_=>none
 | n+1,.l1 k=>nP n (Kg H n) H k
 | n+1,.l2 D I k o C a=>eA n (Kg H n) H D I k o C a
def Xb (n:Nat)(H:List Ξ):Option Int:=yb n (Kg H n) H
def zMm (n B:Nat)(N:Yd 0)(H:List Ξ)(r:Int):T6 -> Prop:=px n B Fence.wide N (FQ Tryz.f44 0 (.i r) []) (Ac Tryz.f44) λ
 | .l1 k=>(0,0,AH 61 [(0,.sl 1 H.length (AO AW H)),(10,.sl 1 H.length (AO AW H)),(11,.i (H.length:Int)),(12,.i k)],[])
 | .l2 D I k o C a=>(1,2,AH 61 [(0,.sl 1 H.length (AO AW H)),(3,.i D),(4,.ints I),(10,.sl 1 H.length (AO AW H)),(11,.i (H.length:Int)),(12,.i k),(17,.ints o),(18,.i C),(19,.i a)],[])
def zMn (B:Nat)(N:Yd 0)(H:List Ξ):Al (Kg H) (zMm · B N H):=ia (λ_=>rfl) λn w a r h=>by
 cases a
 case l1 AQ=>
  intro m k;refine rd k λm k=>?_
  revert r;apply gO;exact bi 13 (gi (lN AD [] (w _ _ · m n k Nat.le.refl))) (lE AD [2] [])
 case l2 x3 x4 AQ BN L7 Dc=>
  intro m g k j;have k:=zBR k;refine rd j λg j=>?_
  revert r;apply gO;exact bi 20 (gi (bi 25 (lE AD [2] []) (bi 30 (lE AD [2] []) (bi 35 (lE AD [2] []) (bi 39 (gc (gw 43 (gi (bi 47 (lE AD [2] []) (gi (cf zf [] λ_=>bi 57 (lE AD [2] []) (gw 59 (lG AD [] (w _ _ · m g k j))))))))) (gi (cf zf [] λ_=>bi 57 (lE AD [2] []) (gw 59 (lG AD [] (w _ _ · m g k j)))))))))) (gw 60 (lG AD [] (w _ _ · m k)))
def ya {r:Int}(h:Xb n H=some r):EQ 44 [.sl 1 H.length (AO AW H)] [] (.i r) [] true:=by
 refine ot Tryz.func44 λB N=>?_
 revert r;apply gO;exact bi 9 (lE AD [2] []) (lN AD [] ((zMn B N H n) _ _ · n Nat.le.refl))
end
section
set_option maxRecDepth 100000
set_option maxHeartbeats 40000000
def pb (n:Nat)(v lo hi:Int):W9:= bif (decide (v<lo)) then some true else some (decide (v>hi))
def gQ (n:Nat)(v lo hi:Int):W9:=pb n v lo hi
variable {r:Bool}{lo hi:Int}{n:Nat}
def zBJ {v:Int}(h:gQ n v lo hi=some r):EQ 77 [.i v,.fp 1 (L1 [.i lo]),.fp 1 (L1 [.i hi])] [] (.bool r) [] true:=by
 refine ot Tryz.func77 λB N=>?_
 revert r;apply gO;exact bi 7 (lE AD [4] []) (lE AD [4] [])
inductive cy where
 | l1 (x8:Int)
def kz (n:Nat)(self:cy -> Option Int)(l:Ξ)(lo hi:Int)(x8:Int):Option Int:= bif (decide (x8<(l.length:Int))) then if 0<=x8/\ x8<(l.length:Int) then (gQ n (l.getD x8.toNat 0) lo hi).bind λe=> bif e then some x8 else if AG (x8+1) then self (.l1 (x8+1)) else none else none else some (-1)
def w6 (n:Nat)(self:cy -> Option Int)(l:Ξ)(lo hi:Int):Option Int:= self (.l1 0)
def Qb (l:Ξ)(lo hi:Int):Nat -> cy -> Option Int
 | 0,_=>none
 | n+1,.l1 x8=>kz n (Qb l lo hi n) l lo hi x8
def dA (n:Nat)(l:Ξ)(lo hi:Int):Option Int:=w6 n (Qb l lo hi n) l lo hi
def zJY (n B:Nat)(N:Yd 0)(l:Ξ)(lo hi:Int)(r:Int):cy -> Prop:=px n B Fence.wide N (FQ Tryz.f85 0 (.i r) []) (Ac Tryz.f85) λ
 | .l1 x8=>(0,0,AH 19 [(0,.ints l),(1,.fn 77 2 (L1 [.fp 1 (L1 [.i lo]),.fp 1 (L1 [.i hi])])),(7,.i (l.length:Int)),(8,.i x8)],[])
def zJZ (B:Nat)(N:Yd 0)(l:Ξ)(lo hi:Int):Al (Qb l lo hi) (zJY · B N l lo hi):=ia (λ_=>rfl) λn w a r h=>by
 cases a
 case l1 x8=>
  intro m k;refine rd k λm k=>?_
  revert r;apply gO;exact bi 9 (gi (cf zBJ [] λ_=>bi 16 (lE AD [4] []) (gw 18 (lG AD [] (w _ _ · m k))))) (lE AD [4] [])
variable {l:Ξ}
def zJW {r:Int}(h:dA n l lo hi=some r):EQ 85 [.ints l,.fn 77 2 (L1 [.fp 1 (L1 [.i lo]),.fp 1 (L1 [.i hi])])] [] (.i r) [] true:=by
 refine ot Tryz.func85 λB N=>?_
 revert r;apply gO;exact lN AD [] ((zJZ B N l lo hi n) _ _ · n Nat.le.refl)
def nt (n:Nat)(l:Ξ)(lo hi:Int):W9:= (dA n l lo hi).bind λe=> some (decide (e>=0))
def fG (n:Nat)(l:Ξ)(lo hi:Int):W9:=nt n l lo hi
def zN9 (h:fG n l lo hi=some r):EQ 76 [.ints l,.fn 77 2 (L1 [.fp 1 (L1 [.i lo]),.fp 1 (L1 [.i hi])])] [] (.bool r) [] true:=by
 unfold fG nt at h;refine ot Tryz.func76 λB N=>?_
 revert r;apply gO;exact cf zJW [] λ_=>lE AD [4] []
def jX (n:Nat)(N:Ξ)(lo hi:Int):W9:= (fG n N lo hi).bind λe=> some (!e)
def OG (n:Nat)(N:Ξ)(lo hi:Int):W9:=jX n N lo hi
def bL {a:Ξ}(h:OG n a lo hi=some r):EQ 43 [.ints a,.i lo,.i hi] [] (.bool r) [] true:=by
 unfold OG jX at h;refine ot Tryz.func43 λB N=>?_
 revert r;apply gO;exact cn λy1 b=>jc (sb [.ints a,.fn 77 2 (L1 [.ref 0 0,.ref 1 0])] (zN9 b) [oC [.i lo],oC [.i hi]] ⟨Ax.plain Z5,(Ax.fnL (l:=[.ref 0 0,.ref 1 0]) (l0:=[.fp 1 (L1 [.i lo]),.fp 1 (L1 [.i hi])]) ⟨(Ax.refL (l:=[.i lo]) (l0:=[.i lo]) rfl ⟨Ax.plain Z5,trivial⟩),(Ax.refL (l:=[.i hi]) (l0:=[.i hi]) rfl ⟨Ax.plain Z5,trivial⟩),trivial⟩),trivial⟩) (lE AD [6] [])
def zEC:Ae (A0 Tryz.f47 24) [([0,1,2,3,5,6,7,8],4),([],9),([10,11,12,13,14],15),([],16),([17,18,19,20,21,22,23,24,25,26],27)] [28,29] []:=Z0
def EC:BF:=λi=>match i with
 | 24=>.ord [([0,1,2,3,5,6,7,8],4),([],9),([10,11,12,13,14],15),([],16),([17,18,19,20,21,22,23,24,25,26],27)] [28,29] []
 | _=>.no
def xe (q:AA)(g:AC):DH:=[oC (AE q),oC (AX g),oI ([g.set,g.other]:Ξ),oI ([g.lo,g.hi]:Ξ)]
inductive Oy where
 | l1 (AN:Int) (o2:Ω)
 | l2
def Xj (n:Nat)(self:Oy -> W9)(q:AA)(g:AC)(T:Int)(E:Ω):W9:= bif (decide (T<(g.ce.length:Int))) then if 0<=T/\ T<(g.ce.length:Int) then bif (decide ((g.ce.getD T.toNat 0)<0)) then some false else bif (decide ((g.ce.getD T.toNat 0)>=q.ce)) then some false else if (0<=(g.ce.getD T.toNat 0)/\ (g.ce.getD T.toNat 0)<((256:Nat):Int))/\ 0+((g.ce.getD T.toNat 0).toNat)<E.length then bif (E.getD (0+((g.ce.getD T.toNat 0).toNat)) false) then some false else bif (decide (g.kind>=8)) then bif ((g.ce.getD T.toNat 0) != T) then some false else if AG (T+1) then self (.l1 (T+1) (E.set (0+((g.ce.getD T.toNat 0).toNat)) true)) else none else if AG (T+1) then self (.l1 (T+1) (E.set (0+((g.ce.getD T.toNat 0).toNat)) true)) else none else none else none else bif (g.kind==1) then self (.l2) else bif (g.kind==2) then self (.l2) else bif (g.kind==3) then self (.l2) else bif (g.kind==4) then self (.l2) else bif (g.kind==5) then self (.l2) else bif (g.kind==6) then bif ((g.ce.length:Int) != 2) then some false else self (.l2) else bif (g.kind==7) then bif ((g.ce.length:Int) != 2) then some false else self (.l2) else bif (g.kind==8) then bif ((g.ce.length:Int) != q.ce) then some false else self (.l2) else bif (g.kind==9) then bif ((g.ce.length:Int) != q.ce) then some false else self (.l2) else some false
def nX (n:Nat)(self:Oy -> W9)(q:AA)(g:AC):W9:= if (0<=q.sy/\ q.sy<=(IntKind.i64.bits:Int))/\ AG ((IntKind.i64.wrap (1*2 ^ (q.sy).toNat))-1) then (OG n ([g.set,g.other]:Ξ) 0 ((IntKind.i64.wrap (1*2 ^ (q.sy).toNat))-1)).bind λe=> bif e then (OG n ([g.lo,g.hi]:Ξ) 0 65536).bind λx=> bif x then bif (decide ((g.ru.length:Int)<=8)) then (OG n g.ru 1 256).bind λy3=> some y3 else some false else some false else some false else none
def yq (n:Nat)(self:Oy -> W9)(q:AA)(c_:AC):W9:= self (.l1 0 (List.replicate 256 false))
def UB (q:AA)(g:AC):Nat -> Oy -> W9
 | 0,_=>none
 | n+1,.l1 T E=>Xj n (UB q g n) q g T E
 | n+1,.l2=>nX n (UB q g n) q g
def eK (n:Nat)(q:AA)(g:AC):W9:=yq n (UB q g n) q g
def zNB (n B:Nat)(N:Yd 0)(q:AA)(g:AC)(r:Bool):Oy -> Prop:=px n B Fence.wide N (FQ Tryz.f47 0 (.bool r) []) (Ac Tryz.f47) λ
 | .l1 T E=>(0,0,AH 95 [(2,.ref 0 0),(3,.ref 1 0),(5,.mp 2 1 0 0),(9,.ints g.ce),(10,.i (g.ce.length:Int)),(11,.i T)],[oC (AE q),oC (AX g),some (.bools E)])
 | .l2=>(3,24,AH 95 [(2,.ref 0 0),(3,.ref 1 0)],[oC (AE q),oC (AX g)])
def zNC (B:Nat)(N:Yd 0)(q:AA)(g:AC):Al (UB q g) (zNB · B N q g):=ia (λ_=>rfl) λn w b r h=>by
 cases b
 case l1 AN o2=>
  intro m k;refine rd k λm k=>?_
  revert r;apply gO;exact bi 12 (gi (bi 17 (lE (AJ 24 EC) [4] []) (bi 22 (lE (AJ 24 EC) [4] []) (gc (gn λp=>jg p (gn λa=>jg a (bi 27 (lE (AJ 24 EC) [4] []) (bi 32 (bi 36 (lE (AJ 24 EC) [4] []) (jg p (jg a (gw 41 (lG (AJ 24 EC) [0,1,2] (w _ _ · m k)))))) (jg p (jg a (gw 41 (lG (AJ 24 EC) [0,1,2] (w _ _ · m k))))))))))))) (bi 45 (lG (AJ 24 EC) [0,1] (w _ _ ·)) (bi 46 (lG (AJ 24 EC) [0,1] (w _ _ ·)) (bi 47 (lG (AJ 24 EC) [0,1] (w _ _ ·)) (bi 48 (lG (AJ 24 EC) [0,1] (w _ _ ·)) (bi 49 (lG (AJ 24 EC) [0,1] (w _ _ ·)) (bi 51 (bi 56 (lE (AJ 24 EC) [4] []) (lG (AJ 24 EC) [0,1] (w _ _ ·))) (bi 52 (bi 56 (lE (AJ 24 EC) [4] []) (lG (AJ 24 EC) [0,1] (w _ _ ·))) (bi 58 (bi 65 (lE (AJ 24 EC) [4] []) (lG (AJ 24 EC) [0,1] (w _ _ ·))) (bi 59 (bi 65 (lE (AJ 24 EC) [4] []) (lG (AJ 24 EC) [0,1] (w _ _ ·))) (lE (AJ 24 EC) [4] []))))))))))
 case l2=>
  revert r;apply gO;exact jg zEC (gc (gi (gw 74 (cn λy1 c=>jc (sb [.msl 2 1 0 2,.i 0,.i ((IntKind.i64.wrap (1*2 ^ (q.sy).toNat))-1)] (bL c) [oC (AE q),oC (AX g),oI ([g.set,g.other]:Ξ)] ⟨Ax.ints rfl (Eq.refl 2),Ax.plain Z5,Ax.plain Z5,trivial⟩) (bi 75 (cn λy2 A=>jc (sb [.msl 3 1 0 2,.i 0,.i 65536] (bL A) (xe q g) ⟨Ax.ints rfl (Eq.refl 2),Ax.plain Z5,Ax.plain Z5,trivial⟩) (bi 82 (bi 88 (cf bL (xe q g) λ_=>lE EC [4] []) (lE EC [4] [])) (lE EC [4] []))) (lE EC [4] []))))))
variable {g:AC}{q:AA}
def zM9 (h:eK n q g=some r):EQ 47 [.agg 5 (L1 (AE q)),.agg 9 (L1 (AX g))] [] (.bool r) [] true:=by
 refine ot Tryz.func47 λB N=>?_
 revert r;apply gO;exact lN (AJ 24 EC) [0,1,2] ((zNC B N q g n) _ _ · n Nat.le.refl)
def gZ (n:Nat)(c:AC)(q:AA):W9:= (eK n q c).bind λe=> some (!e)
def ZG (n:Nat)(c:AC)(q:AA):W9:=gZ n c q
def zBf {c:AC}(h:ZG n c q=some r):EQ 46 [.agg 9 (L1 (AX c)),.fp 5 (L1 (AE q))] [] (.bool r) [] true:=by
 unfold ZG gZ at h;refine ot Tryz.func46 λB N=>?_
 revert r;apply gO;exact cf zM9 [oC (AX c)] λ_=>lE AD [3] []
inductive cw where
 | l1 (x8:Int)
def cv (n:Nat)(self:cw -> Option Int)(l:List AC)(q:AA)(x8:Int):Option Int:= bif (decide (x8<(l.length:Int))) then if 0<=x8/\ x8<(l.length:Int) then (ZG n (l.getD x8.toNat default) q).bind λe=> bif e then some x8 else if AG (x8+1) then self (.l1 (x8+1)) else none else none else some (-1)
def w5 (n:Nat)(self:cw -> Option Int)(l:List AC)(q:AA):Option Int:= self (.l1 0)
def Oa (l:List AC)(q:AA):Nat -> cw -> Option Int
 | 0,_=>none
 | n+1,.l1 x8=>cv n (Oa l q n) l q x8
def cx (n:Nat)(l:List AC)(q:AA):Option Int:=w5 n (Oa l q n) l q
def zJU (n B:Nat)(N:Yd 0)(l:List AC)(q:AA)(r:Int):cw -> Prop:=px n B Fence.wide N (FQ Tryz.f79 0 (.i r) []) (Ac Tryz.f79) λ
 | .l1 x8=>(0,0,AH 19 [(0,.sl 9 l.length (AO AX l)),(1,.fn 46 1 (L1 [.fp 5 (L1 (AE q))])),(7,.i (l.length:Int)),(8,.i x8)],[])
def zJV (B:Nat)(N:Yd 0)(l:List AC)(q:AA):Al (Oa l q) (zJU · B N l q):=ia (λ_=>rfl) λn w a r h=>by
 cases a
 case l1 x8=>
  intro m k;refine rd k λm k=>?_
  revert r;apply gO;exact bi 9 (gi (cf zBf [] λ_=>bi 16 (lE AD [4] []) (gw 18 (lG AD [] (w _ _ · m k))))) (lE AD [4] [])
def zJT {l:List AC}{r:Int}(h:cx n l q=some r):EQ 79 [.sl 9 l.length (AO AX l),.fn 46 1 (L1 [.fp 5 (L1 (AE q))])] [] (.i r) [] true:=by
 refine ot Tryz.func79 λB N=>?_
 revert r;apply gO;exact lN AD [] ((zJV B N l q n) _ _ · n Nat.le.refl)
def ns (n:Nat)(l:List AC)(q:AA):W9:= (cx n l q).bind λe=> some (decide (e>=0))
def fE (n:Nat)(l:List AC)(q:AA):W9:=ns n l q
def zN8 {l:List AC}(h:fE n l q=some r):EQ 45 [.sl 9 l.length (AO AX l),.fn 46 1 (L1 [.fp 5 (L1 (AE q))])] [] (.bool r) [] true:=by
 unfold fE ns at h;refine ot Tryz.func45 λB N=>?_
 revert r;apply gO;exact cf zJT [] λ_=>lE AD [4] []
def pn (n:Nat)(q:AA):Option Int:= bif (decide (q.ce<1)) then some 191 else bif (decide (q.ce>256)) then some 191 else bif (decide (q.sy<1)) then some 191 else bif (decide (q.sy>16)) then some 191 else bif ((q.va.length:Int) != q.sy) then some 191 else (OG n q.va 0 99).bind λe=> bif (!e) then some 191 else bif ((q.nb.length:Int) != q.ce) then some 191 else (Xb n q.nb).bind λx=> bif (x != 0) then some 191 else bif (decide ((q.cons.length:Int)>4096)) then some 191 else (fE n q.cons q).bind λy3=> bif y3 then some 191 else some 0
def valid (n:Nat)(q:AA):Option Int:=pn n q
def pm {r:Int}(h:valid n q=some r):EQ 33 [.agg 5 (L1 (AE q))] [] (.i r) [] true:=by
 refine ot Tryz.func33 λB N=>?_
 revert r;apply gO;exact bi 5 (lE AD [2] []) (bi 9 (lE AD [2] []) (bi 14 (lE AD [2] []) (bi 19 (lE AD [2] []) (bi 27 (lE AD [2] []) (cf bL [oC (AE q)] λ_=>bi 33 (lE AD [2] []) (bi 40 (lE AD [2] []) (cf ya [oC (AE q)] λ_=>bi 45 (lE AD [2] []) (bi 51 (lE AD [2] []) (cn λy3 x=>jc (sb [.sl 9 q.cons.length (AO AX q.cons),.fn 46 1 (L1 [.ref 0 0])] (zN8 x) [oC (AE q)] ⟨Ax.plain Z5,(Ax.fnL (l:=[.ref 0 0]) (l0:=[.fp 5 (L1 (AE q))]) ⟨(Ax.refL (l:=(AE q)) (l0:=(AE q)) rfl ⟨Ax.plain Z5,Ax.plain Z5,Ax.plain Z5,Ax.plain Z5,Ax.plain Z5,trivial⟩),trivial⟩),trivial⟩) (bi 56 (lE AD [2] []) (lE AD [2] [])))))))))))
def kV (n:Nat)(q:AA)(i:Int):Option Δ:= (valid n q).bind λe=> bif (e != 0) then some (0,e) else bif (decide (i<0)) then some (0,260) else bif (decide (i>=(q.cons.length:Int))) then some (0,260) else if (0<=i/\ i<(q.cons.length:Int))/\ ((0:Int)<=((q.cons.getD i.toNat default).kind)/\ ((q.cons.getD i.toNat default).kind)<((10:Nat):Int)) then some (([0,1,1,2,2,3,1,1,4,4]:Ξ).getD ((q.cons.getD i.toNat default).kind).toNat 0,0) else none
def QU (n:Nat)(q:AA)(i:Int):Option Δ:=kV n q i
def kU {i:Int}{r:Δ}(h:QU n q i=some r):EQ 97 [.agg 5 (L1 (AE q)),.i i] [] (.tup 2 (L1 [.i r.1,.i r.2])) [] true:=by
 unfold QU kV at h;refine ot Tryz.func97 λB N=>?_
 revert r;apply gO;exact cf pm [oC (AE q)] λ_=>bi 10 (lE AD [4,5] []) (bi 13 (lE AD [4,5] []) (bi 19 (lE AD [4,5] []) (gc (gi (gn λp=>jg p (jo 28 (AM.ixI [0,1,1,2,2,3,1,1,4,4] rfl p) (lE AD [4,5] [])))))))
inductive aN where
 | l1 (x7:Int)
def Vn (n:Nat)(self:aN -> W9)(g:AC)(cells l:Int)(P:Int):W9:= bif (decide (P<(g.ce.length:Int))) then bif (g.kind==8) then if 0<=P/\ P<(g.ce.length:Int) then bif ((g.ce.getD P.toNat 0) != P) then some false else if AG (P+1) then self (.l1 (P+1)) else none else none else bif (g.kind==9) then if 0<=P/\ P<(g.ce.length:Int) then bif ((g.ce.getD P.toNat 0) != P) then some false else if AG (P+1) then self (.l1 (P+1)) else none else none else if AG (P+1) then self (.l1 (P+1)) else none else if (0<=l/\ l<=(IntKind.i64.bits:Int))/\ AG ((IntKind.i64.wrap (1*2 ^ (l).toNat))-1) then (PC n ([g.set,g.other]:Ξ) 0 ((IntKind.i64.wrap (1*2 ^ (l).toNat))-1)).bind λe=> bif e then (PC n ([g.lo,g.hi]:Ξ) 0 65536).bind λx=> bif x then bif (decide ((g.ru.length:Int)<=8)) then (PC n g.ru 1 256).bind λy3=> some y3 else some false else some false else some false else none
def tT (n:Nat)(self:aN -> W9)(g:AC)(cells Bx:Int):W9:= bif (decide (g.kind<1)) then some false else bif (decide (g.kind>9)) then some false else bif (decide ((g.ce.length:Int)>cells)) then some false else if AG (cells-1) then (PC n g.ce 0 (cells-1)).bind λe=> bif (!e) then some false else (eX n g.ce).bind λx=> bif (!x) then some false else bif (g.kind==6) then bif ((g.ce.length:Int) != 2) then some false else bif (g.kind==8) then bif ((g.ce.length:Int) != cells) then some false else self (.l1 0) else bif (g.kind==9) then bif ((g.ce.length:Int) != cells) then some false else self (.l1 0) else self (.l1 0) else bif (g.kind==7) then bif ((g.ce.length:Int) != 2) then some false else bif (g.kind==8) then bif ((g.ce.length:Int) != cells) then some false else self (.l1 0) else bif (g.kind==9) then bif ((g.ce.length:Int) != cells) then some false else self (.l1 0) else self (.l1 0) else bif (g.kind==8) then bif ((g.ce.length:Int) != cells) then some false else self (.l1 0) else bif (g.kind==9) then bif ((g.ce.length:Int) != cells) then some false else self (.l1 0) else self (.l1 0) else none
def Pm (g:AC)(cells l:Int):Nat -> aN -> W9
 | 0,_=>none
 | n+1,.l1 P=>Vn n (Pm g cells l n) g cells l P
def aP (n:Nat)(g:AC)(cells l:Int):W9:=tT n (Pm g cells l n) g cells l
def zFS (n B:Nat)(N:Yd 0)(g:AC)(cells l:Int)(r:Bool):aN -> Prop:=px n B Fence.wide N (FQ Tryz.f57 0 (.bool r) []) (Ac Tryz.f57) λ
 | .l1 P=>(0,0,AH 120 [(2,.i l),(3,.ref 0 0),(7,.i P)],[oC (AX g)])
def zFT (B:Nat)(N:Yd 0)(g:AC)(cells l:Int):Al (Pm g cells l) (zFS · B N g cells l):=ia (λ_=>rfl) λn w a r h=>by
 cases a
 case l1 x7=>
  intro m k;refine rd k λm k=>?_
  revert r;apply gO;exact bi 71 (bi 76 (gi (bi 89 (lE AD [6] []) (gw 73 (lG AD [0] (w _ _ · m k))))) (bi 80 (gi (bi 89 (lE AD [6] []) (gw 73 (lG AD [0] (w _ _ · m k))))) (gw 73 (lG AD [0] (w _ _ · m k))))) (gc (gi (gw 93 (cn λy1 b=>jc (sb [.msl 1 1 0 2,.i 0,.i ((IntKind.i64.wrap (1*2 ^ (l).toNat))-1)] (YT b) [oC (AX g),oI ([g.set,g.other]:Ξ)] ⟨Ax.ints rfl (Eq.refl 2),Ax.plain Z5,Ax.plain Z5,trivial⟩) (bi 100 (cn λy2 A=>jc (sb [.msl 2 1 0 2,.i 0,.i 65536] (YT A) [oC (AX g),oI ([g.set,g.other]:Ξ),oI ([g.lo,g.hi]:Ξ)] ⟨Ax.ints rfl (Eq.refl 2),Ax.plain Z5,Ax.plain Z5,trivial⟩) (bi 107 (bi 113 (cf YT [oC (AX g),oI ([g.set,g.other]:Ξ),oI ([g.lo,g.hi]:Ξ)] λ_=>lE AD [6] []) (lE AD [6] [])) (lE AD [6] []))) (lE AD [6] []))))))
def zFO {cells l:Int}(h:aP n g cells l=some r):EQ 57 [.agg 9 (L1 (AX g)),.i cells,.i l] [] (.bool r) [] true:=by
 have w:=λB N=>(zFT B N g cells l n)
 refine ot Tryz.func57 λB N=>?_
 revert r;apply gO;exact bi 11 (lE AD [6] []) (bi 15 (lE AD [6] []) (bi 22 (lE AD [6] []) (gw 28 (cf YT [oC (AX g)] λ_=>bi 30 (lE AD [6] []) (cf zNn [oC (AX g)] λ_=>bi 36 (lE AD [6] []) (bi 40 (bi 50 (lE AD [6] []) (bi 54 (bi 65 (lE AD [6] []) (lN AD [0] ((w B N) _ _ · n Nat.le.refl))) (bi 58 (bi 65 (lE AD [6] []) (lN AD [0] ((w B N) _ _ · n Nat.le.refl))) (lN AD [0] ((w B N) _ _ · n Nat.le.refl))))) (bi 44 (bi 50 (lE AD [6] []) (bi 54 (bi 65 (lE AD [6] []) (lN AD [0] ((w B N) _ _ · n Nat.le.refl))) (bi 58 (bi 65 (lE AD [6] []) (lN AD [0] ((w B N) _ _ · n Nat.le.refl))) (lN AD [0] ((w B N) _ _ · n Nat.le.refl))))) (bi 54 (bi 65 (lE AD [6] []) (lN AD [0] ((w B N) _ _ · n Nat.le.refl))) (bi 58 (bi 65 (lE AD [6] []) (lN AD [0] ((w B N) _ _ · n Nat.le.refl))) (lN AD [0] ((w B N) _ _ · n Nat.le.refl)))))))))))
def zDL:Ae (A0 Tryz.f37 8) [([0,1,2,3,4,5,6,7,8],9)] [10] []:=Z0
def IW:BF:=λi=>match i with
 | 8=>.ord [([0,1,2,3,4,5,6,7,8],9)] [10] []
 | _=>.no
inductive Zw where
 | l1 (x3:Int)
def Zv (n:Nat)(self:Zw -> Option Int)(q:AA)(D:Int):Option Int:= bif (decide (D<(q.cons.length:Int))) then if 0<=D/\ D<(q.cons.length:Int) then (aP n (q.cons.getD D.toNat default) q.ce q.sy).bind λe=> bif (!e) then some 191 else if AG (D+1) then self (.l1 (D+1)) else none else none else some 0
def sU (n:Nat)(self:Zw -> Option Int)(q:AA):Option Int:= bif (decide (q.ce<1)) then some 191 else bif (decide (q.ce>256)) then some 191 else bif (decide (q.sy<1)) then some 191 else bif (decide (q.sy>16)) then some 191 else bif ((q.va.length:Int) != q.sy) then some 191 else (PC n q.va 0 99).bind λe=> bif (!e) then some 191 else bif ((q.nb.length:Int) != q.ce) then some 191 else (N6 n q.nb).bind λx=> bif (x != 0) then some 191 else bif (decide ((q.cons.length:Int)>4096)) then some 191 else self (.l1 0)
def Nn (q:AA):Nat -> Zw -> Option Int
 | 0,_=>none
 | n+1,.l1 D=>Zv n (Nn q n) q D
def Zx (n:Nat)(q:AA):Option Int:=sU n (Nn q n) q
def zEX (n B:Nat)(N:Yd 0)(q:AA)(r:Int):Zw -> Prop:=px n B Fence.wide N (FQ Tryz.f37 0 (.i r) []) (Ac Tryz.f37) λ
 | .l1 D=>(0,0,AH 72 [(1,.ref 0 0),(3,.i D)],[oC (AE q)])
def zEY (B:Nat)(N:Yd 0)(q:AA):Al (Nn q) (zEX · B N q):=ia (λ_=>rfl) λn w a r h=>by
 cases a
 case l1 x3=>
  intro m k;refine rd k λm k=>?_
  revert r;apply gO;exact bi 58 (jg zDL (gi (cf zFO [oC (AE q)] λ_=>bi 71 (lE IW [2] []) (gw 60 (lG IW [0] (w _ _ · m k)))))) (lE IW [2] [])
def zEU {r:Int}(h:Zx n q=some r):EQ 37 [.agg 5 (L1 (AE q))] [] (.i r) [] true:=by
 refine ot Tryz.func37 λB N=>?_
 revert r;apply gO;exact bi 6 (lE IW [2] []) (bi 10 (lE IW [2] []) (bi 15 (lE IW [2] []) (bi 20 (lE IW [2] []) (bi 28 (lE IW [2] []) (cf YT [oC (AE q)] λ_=>bi 34 (lE IW [2] []) (bi 41 (lE IW [2] []) (cf i8 [oC (AE q)] λ_=>bi 46 (lE IW [2] []) (bi 52 (lE IW [2] []) (lN IW [0] ((zEY B N q n) _ _ · n Nat.le.refl))))))))))
end
abbrev u8:=@Int.toNat_natCast
abbrev zAC:=@decide_eq_true
abbrev zAF:=@decide_eq_false
abbrev zAG:=@cond_true
abbrev zAz:=@cond_false
abbrev zJ8:=@beq_eq_false_iff_ne
abbrev zKO:=@decide_eq_false_iff_not
abbrev zLc:=@Int.natCast_nonneg
abbrev zLs:=@Bool.eq_iff_iff
abbrev zL7:=@Int.eq_ofNat_of_zero_le
abbrev zMB:=@Bool.true_and
abbrev zMG:=@List.pairwise_iff_getElem
abbrev zMX:=@decide_true
abbrev zMb:=@bne_iff_ne
abbrev zNb:=@List.exists_of_findSome?_eq_some
abbrev zPv:=@List.findSome?_eq_none_iff
abbrev zP1:=@List.mem_take_iff_getElem
abbrev zP5:=@and_self
abbrev zQJ:=@List.contains_iff_mem
abbrev zQO:=@List.range'_succ
end Go.Proofs.YtodinaconebmdaaGreatDoor
namespace Go.Proofs.YtodinaconebmdaaGreatDoor
def Lf (lo hi:Int)(n:Int):Bool:=decide (lo<=n)&&decide (n<=hi)
def Dw (xs:Ξ)(lo hi:Int):Bool:=xs.all (Lf lo hi)
def Hi (g:List Ξ)(i:Nat)(l:Ξ)(k:Nat):Bool:=
 let n:=l.getD k 0
 decide (0<=n)&&decide (n<g.length)&&(n != i)&&(!decide (0<k)||decide (l.getD (k-1) 0<n))&&(g.getD n.toNat []).contains (i:Int)
def JD (g:List Ξ)(i:Nat)(l:Ξ):Bool:=(List.range l.length).all (Hi g i l)
def Lq (g:List Ξ):Bool:=decide (g.length<=256)&&(List.range g.length).all λi=>JD g i (g.getD i [])
def RF (n kind:Int)(cells:Ξ)(i:Nat):Bool:=
 let x:=cells.getD i 0
 decide (0<=x)&&decide (x<n)&&!(cells.take i).contains x&&(!decide (8<=kind)||x==(i:Int))
def fT (n kind:Int)(cells:Ξ):Bool:=(List.range cells.length).all (RF n kind cells)
def H7 (n kind:Int)(len:Nat):Bool:= (decide (1<=kind)&&decide (kind<=5))||((kind==6||kind==7)&&len==2)||((kind==8||kind==9)&&(len:Int)==n)
def Eu (q:AA)(c:AC):Bool:= fT q.ce c.kind c.ce&&H7 q.ce c.kind c.ce.length&& Dw [c.set,c.other] 0 (2 ^ q.sy.toNat-1)&&Dw [c.lo,c.hi] 0 65536&&decide (c.ru.length<=8)&&Dw c.ru 1 256
def TJ (l:Ξ):Bool:=(List.range l.length).all λi=>!(l.take i).contains (l.getD i 0)
def aO (c:AC)(n sy:Int):Bool:= (decide (1<=c.kind)&&decide (c.kind<=9))&&decide ((c.ce.length:Int)<=n)&&Dw c.ce 0 (n-1)&&TJ c.ce&& (!(c.kind==6||c.kind==7)||c.ce.length==2)&&(!(c.kind==8||c.kind==9)||((c.ce.length:Int)==n))&& (!(c.kind==8||c.kind==9)||(List.range c.ce.length).all λi=>c.ce.getD i 0==(i:Int))&& Dw [c.set,c.other] 0 (2 ^ sy.toNat-1)&&Dw [c.lo,c.hi] 0 65536&&decide (c.ru.length<=8)&&Dw c.ru 1 256
theorem TI: ∀ (n:Nat) (l:Ξ),l.Nodup -> (∀ x∈l,0<=x/\ x<(n:Int)) -> l.length<=n
 | 0,l,_,h=>by
  cases l with
  | nil=>simp
  | cons a l=>have:=h a Z3;omega
 | n+1,l,v,h=>by
  have h1:(l.erase (n:Int)).length<=n:=TI n _ (v.erase _) (λx hx=>by
   grind)
  grind
variable {l:Ξ}
theorem vo :TJ l=true↔l.Nodup:=by
 unfold TJ List.Nodup;rw [zBk,zMG];constructor
 ·intro h i j hi a db e;have:=h j (by simpa using a);simp only [zBS,zKF a,Option.getD_some,zFN] at this;rw [zMq,ne_eq,zQJ,zP1] at this;exact this ⟨i,Z2,e⟩
 ·intro h i hi;have U:i<l.length:=by simpa using hi
  simp only [zBS,zKF U,Option.getD_some,zFN];rw [zMq,ne_eq,zQJ,zP1]
  grind
theorem Uu {lo hi:Int}:Dw l lo hi=true↔∀ x∈l,lo<=x/\ x<=hi:=by
 unfold Dw;simp [Lf]
variable {n kind:Int}
theorem oD {cells:Ξ}:fT n kind cells=true↔(∀ x∈cells,0<=x/\ x<n)/\ cells.Nodup/\ (8<=kind -> ∀ j,j<cells.length -> cells.getD j 0=(j:Int)):=by
 rw [←vo];unfold fT TJ RF;simp only [zBk,zIN,zAD,zJ4,zJo,zFN,zH2,zKO];constructor
 ·intro h;refine ⟨λx d=>?_,λj i=>(h j i).1.2,λh8 j i=>?_⟩
  ·obtain ⟨j,i,rfl⟩:=zJ3 d
   grind
  grind
 grind
theorem zFR (q:AA)(c:AC)(h1:1<=q.ce):aO c q.ce q.sy=Eu q c:=by
 rw [zLs];unfold aO Eu;simp only [zAD,oD,vo,Uu (l:=c.ce),zJo,zFN,Bool.or_eq_false_iff,zH2,zJ8,zJ4,zBk,zIN,H7];constructor
 ·grind
 ·rintro ⟨⟨⟨⟨⟨⟨F,t,k3⟩,k4⟩,k9⟩,k10⟩,k11⟩,k12⟩
  have Ag:(c.ce.length:Int)<=q.ce:=by
   have:=TI q.ce.toNat c.ce t (λx d=>by have:=F x d;omega);omega
  grind
def C4 (q:AA):Bool:= decide (1<=q.ce)&&decide (q.ce<=256)&&decide (1<=q.sy)&&decide (q.sy<=16)&&((q.va.length:Int)==q.sy)&&Dw q.va 0 99&& ((q.nb.length:Int)==q.ce)&&Lq q.nb&&decide (q.cons.length<=4096)&&q.cons.all (Eu q)
def KL (kind:Int):Int:=if kind=3∨kind=4 then 2 else if kind=5 then 3 else if kind=8∨kind=9 then 4 else 1
def Mm (q:AA)(i:Int):Δ:= if C4 q=false then (0,191) else if 0<=i/\ i<q.cons.length then (KL ((q.cons.getD i.toNat default).kind),0) else (0,260)
variable {q:AA}
theorem Dl (h:C4 q=true):(1<=q.ce/\ q.ce<=256)/\ (1<=q.sy/\ q.sy<=16)/\ ((q.va.length:Int)=q.sy/\ Dw q.va 0 99=true)/\
 ((q.nb.length:Int)=q.ce/\ Lq q.nb=true)/\ q.cons.length<=4096/\ ∀ c∈q.cons,Eu q c=true:=by
 simp_all [C4]
theorem wi {c:AC}(h:Eu q c=true):H7 q.ce c.kind c.ce.length=true:=by
 simp_all [Eu]
theorem TR {len:Nat}(h:H7 n kind len=true):1<=kind/\ kind<=9:=by
 grind [H7]
theorem TS {k:Int}(h:1<=k/\ k<=9):k=1∨k=2∨k=3∨k=4∨k=5∨k=6∨k=7∨k=8∨k=9:=Z2
end Go.Proofs.YtodinaconebmdaaGreatDoor
namespace Go.Proofs.YtodinaconebmdaaGreatDoor
open Go.RowKit
section
variable {R:Type}
theorem r7 (m:Nat -> Int -> Option R)(len e:Nat)(B:Nat -> Option R)(h0: ∀ (n i:Nat),e<=n -> i<len -> m (n+1) (i:Int)=(B i).or (m n ((i:Int)+1))):
 ∀ (k i n:Nat),i+k=len -> e<=n -> m (n+k) (i:Int)=((List.range' i k).findSome? B).or (m n (len:Int))
 | 0,i,n,h,u=>by
  grind
 | k+1,i,n,h,u=>by
  show m (n+k+1) (i:Int)=_
  rw [h0 (n+k) i Z2 Z2,zQO,List.findSome?_cons];cases B i with
  | some r=>rfl
  | none=>
   have:=r7 m len e B h0 k (i+1) n Z2 u;rw [←this];simp
variable {n:Nat}
theorem K9 (m:Nat -> Int -> Option R)(len e:Nat)(B:Nat -> Option R)(h0: ∀ (n i:Nat),e<=n -> i<len -> m (n+1) (i:Int)=(B i).or (m n ((i:Int)+1)))(hn:e+len<=n):
 m n 0=((List.range len).findSome? B).or (m (n-len) (len:Int)):=by
 have:=r7 m len e B h0 len 0 (n-len) Z2 Z2
 grind [List.range_eq_range']
theorem Q8 {l:Θ}{p:Nat -> Bool}{r:R}:(l.findSome? λi=>if p i then none else some r)=if l.all p then none else some r:=by
 induction l with
 | nil=>rfl
 | cons a l ih=>
  grind
theorem Vq {α:Type}{l:List α}{d:α}{p:α -> Bool}:((List.range l.length).all λi=>p (l.getD i d))=l.all p:=by
 rw [zLs,zBk,zBk];constructor
 ·intro h x a;obtain ⟨i,hi,rfl⟩:=zJ3 a
  simp_all
 grind
theorem r64 {i len:Nat}(h:i<len)(hl:len<=LB):AG ((i:Int)+1):=by grind [Aa,LB]
variable {lo up:Int}{l:Ξ}
theorem YU (o:l.length<=LB)(hn:l.length<n):PC n l lo up=some (Dw l lo up):=by
 unfold PC zAK;have S:=K9 (λn i=>UW l lo up n (.l1 i)) l.length 0 (λi=>if Lf lo up (l.getD i 0) then none else some false) (λn i _ hi=>?_) (n:=n) Z2
 ·refine S.trans ?_;rw [Q8,Vq (p:=Lf lo up)];unfold Dw;cases l.all (Lf lo up) with
  | false=>rfl
  | true=>
   obtain ⟨m,hm⟩: ∃ m,n-l.length=m+1:=⟨n-l.length-1,Z2⟩
   grind [UW,oK]
 ·have a:(i:Int)<(l.length:Int):=Z2
  have b:=r64 hi o;simp only [UW,oK,a,b,zMX,zAG,zLc,zP5,zL0,u8,Lf]
  grind
theorem zJX (o:l.length<=LB)(hn:l.length<n): ∃ r:Int,dA n l lo up=some r/\ (0<=r↔Dw l lo up=false):=by
 unfold dA w6;have S:=K9 (λn i=>Qb l lo up n (.l1 i)) l.length 0 (λi=>if Lf lo up (l.getD i 0) then none else some (i:Int)) (λn i _ hi=>?_) (n:=n) Z2
 ·have S:=S;rw [show Qb l lo up n (.l1 0)=_ from S];cases O:(List.range l.length).findSome? (λi=>if Lf lo up (l.getD i 0) then none else some (i:Int)) with
  | some r=>
   refine ⟨r,rfl,?_⟩;obtain ⟨i,hi,hr⟩:=zNb O
   grind [Dw]
  | none=>
   obtain ⟨m,z⟩: ∃ m,n-l.length=m+1:=⟨n-l.length-1,Z2⟩;refine ⟨-1,by rw [z];simp [Qb,kz],?_⟩;rw [zPv] at O
   have:Dw l lo up=true:=by
    unfold Dw;rw [←Vq (p:=Lf lo up) (d:=(0:Int)),zBk]
    grind
   simp [this]
 ·have a:(i:Int)<(l.length:Int):=Z2
  have b:=r64 hi o;simp only [Qb,kz,gQ,pb,a,b,zMX,zAG,zLc,zP5,zL0,u8,Lf]
  grind
theorem bM (o:l.length<=LB)(u:l.length<n):OG n l lo up=some (Dw l lo up):=by
 obtain ⟨r,h1,h2⟩:=zJX (lo:=lo) (up:=up) o u
 grind [OG,jX,fG,nt]
variable {x:Int}
theorem yD (o:l.length<=LB)(hn:l.length<n):has n l x=some (l.contains x):=by
 unfold has yC;have S:=K9 (λn i=>Ty l x n (.l1 i)) l.length 0 (λi=>if (l.getD i 0 != x) then none else some true) (λn i _ hi=>?_) (n:=n) Z2
 ·refine S.trans ?_;rw [Q8,Vq (p:=λy=>y != x)]
  have e:l.all (λy=>y != x)= !l.contains x:=by
   grind
  rw [e];cases l.contains x with
  | true=>rfl
  | false=>
   obtain ⟨m,z⟩: ∃ m,n-l.length=m+1:=⟨n-l.length-1,Z2⟩;rw [z];simp [Ty,mz]
 ·have a:(i:Int)<(l.length:Int):=Z2
  have b:=r64 hi o;simp only [Ty,mz,a,b,zMX,zAG,zLc,zP5,zL0,u8]
  grind
theorem zOC (o:l.length<=LB)(hn:l.length<n):O8 n l x=some (l.contains x):=by
 have: ∃ r:Int,dD n l x=some r/\ (0<=r↔l.contains x=true):=by
  unfold dD xB;have S:=K9 (λn i=>Qc l x n (.l1 i)) l.length 0 (λi=>if (x != l.getD i 0) then none else some (i:Int)) (λn i _ hi=>?_) (n:=n) Z2
  ·rw [show Qc l x n (.l1 0)=_ from S];cases O:(List.range l.length).findSome? (λi=>if (x != l.getD i 0) then none else some (i:Int)) with
   | some r=>
    refine ⟨r,rfl,?_⟩;obtain ⟨i,hi,hr⟩:=zNb O
    grind
   | none=>
    obtain ⟨m,z⟩: ∃ m,n-l.length=m+1:=⟨n-l.length-1,Z2⟩;refine ⟨-1,by rw [z];simp [Qc,k6],?_⟩;rw [zPv] at O
    have:l.contains x=false:=by
     rw [zMq]
     grind [List.getElem_of_mem]
    rw [this];simp
  ·have a:(i:Int)<(l.length:Int):=Z2
   have b:=r64 hi o;simp only [Qc,k6,a,b,zMX,zAG,zLc,zP5,zL0,u8]
   grind
 obtain ⟨r,a,b⟩:=this
 simp_all [O8,nu]
end
section
def Fo (g:List Ξ):Nat:=(g.map λr=>r.length+2).sum
def gP: ∀ {g:List Ξ} {r:Ξ},r∈g -> r.length+2<=Fo g
 | [],_,h=>by cases h
 | a::g,r,h=>by
  simp only [Fo,zMS,List.sum_cons];rcases zKP.1 h with rfl | h
  ·omega
  ·have:=gP h;unfold Fo at this;omega
variable {v:Nat}{g:List Ξ}
theorem pa (hv:v<g.length):Fo (g.drop v)=(g.getD v []).length+2+Fo (g.drop (v+1)):=by
 grind [List.drop_eq_getElem_cons,Fo]
theorem d9 (hv:v<g.length):g.getD v []∈g:=by
 grind
section
variable {g:List Ξ} {v j n:Nat}
theorem vv {R:Type}(next A:R)(c:Bool -> R)(hc:c true=next)(M5:c false=A)(hv:v<g.length)(hj:j<(g.getD v []).length):
 (if Hi g v (g.getD v []) j then next else A)=
  (if (g.getD v []).getD j 0<0 then A else if (g.getD v []).getD j 0>=(g.length:Int) then A else if (g.getD v []).getD j 0=(v:Int) then A else
   if 0<j then (if (g.getD v []).getD (j-1) 0>=(g.getD v []).getD j 0 then A else c ((g.getD ((g.getD v []).getD j 0).toNat []).contains (v:Int)))
   else c ((g.getD ((g.getD v []).getD j 0).toNat []).contains (v:Int))):=by
 unfold Hi
 grind
variable {len:Nat}
theorem uj {j:Nat}(h:j<len)(hl:len<=LB):AG ((j:Int)-1):=by grind [Aa,LB]
def uu {j:Nat}(h:0<j)(h2:j<len):((0:Int)<=(j:Int)-1/\ (j:Int)-1<(len:Int))/\ ((j:Int)-1).toNat=j-1/\ (j:Int)>0:=Z2
theorem zFp {self:Si -> Option Int}(s:v<g.length)(hg:g.length<=256)(i:j<(g.getD v []).length)(c: ∀ r∈g,r.length<=LB)(u: ∀ r∈g,r.length<n):
 aV n self g (v:Int) (j:Int)=(if Hi g v (g.getD v []) j then none else some (120:Int)).or (self (.l2 (v:Int) ((j:Int)+1))):=by
 have G:=c _ (d9 s);have h:(v:Int)<(g.length:Int):=Z2
 have k:(j:Int)<((g.getD v []).length:Int):=Z2
 have l:=r64 i G;have key:=vv (g:=g) (v:=v) (j:=j) (self (.l2 (v:Int) ((j:Int)+1))) (some (120:Int)) (λb=>bif b then self (.l2 (v:Int) ((j:Int)+1)) else some 120) rfl rfl s i
 have B:((if Hi g v (g.getD v []) j then none else some (120:Int)).or (self (.l2 (v:Int) ((j:Int)+1))))=(if Hi g v (g.getD v []) j then self (.l2 (v:Int) ((j:Int)+1)) else some 120):=by
  grind
 rw [B,key];simp only [aV,h,k,l,zMX,zAG,zLc,zP5,zL0,u8];obtain ⟨x,m⟩: ∃ x,(g.getD v []).getD j 0=x:=⟨_,rfl⟩;simp only [m]
 by_cases a:x<0
 ·simp [a]
 by_cases b:x>=(g.length:Int)
 ·simp [a,b]
 by_cases d:x=(v:Int)
 ·simp [a,b,d]
 have d':(x==(v:Int))=false:=by simp [d]
 have f:g.getD x.toNat []∈g:=d9 Z2;have hh:has n (g.getD x.toNat []) (v:Int)=some ((g.getD x.toNat []).contains (v:Int)):=yD (c _ f) (u _ f);have KM:0<=x/\ x<(g.length:Int):=Z2
 have fin:((has n (g.getD x.toNat []) (v:Int)).bind λo=>bif (!o) then some (120:Int) else self (.l2 (v:Int) ((j:Int)+1)))=(bif (g.getD x.toNat []).contains (v:Int) then self (.l2 (v:Int) ((j:Int)+1)) else some 120):=by
  grind
 by_cases e:0<j
 ·have h4:AG ((j:Int)-1)/\ ((0:Int)<=(j:Int)-1/\ (j:Int)-1<((g.getD v []).length:Int)):=⟨uj i G,(uu e i).1⟩
  simp_all [zEO]
 grind
theorem zMo {self:T6 -> Option Int}{row:Ξ}(w:row=g.getD v [])(s:v<g.length)(hg:g.length<=256)(i:j<(g.getD v []).length)(c: ∀ r∈g,r.length<=LB)(u: ∀ r∈g,r.length<n):
 eA n self g (v:Int) row (v:Int) row (row.length:Int) (j:Int)=(if Hi g v (g.getD v []) j then none else some (120:Int)).or (self (.l2 (v:Int) row (v:Int) row (row.length:Int) ((j:Int)+1))):=by
 subst w;have G:=c _ (d9 s);have h:(v:Int)<(g.length:Int):=Z2
 have k:(j:Int)<((g.getD v []).length:Int):=Z2
 have l:=r64 i G;obtain ⟨D,y⟩: ∃ D,self (.l2 (v:Int) (g.getD v []) (v:Int) (g.getD v []) ((g.getD v []).length:Int) ((j:Int)+1))=D:=⟨_,rfl⟩;have key:=vv (g:=g) (v:=v) (j:=j) D (some (120:Int)) (λb=>bif b then D else some 120) rfl rfl s i
 have B:((if Hi g v (g.getD v []) j then none else some (120:Int)).or D)=(if Hi g v (g.getD v []) j then D else some 120):=by
  grind
 rw [y,B,key];simp only [eA,h,k,l,zMX,zAG,zLc,zP5,zL0,u8,y];obtain ⟨x,m⟩: ∃ x,(g.getD v []).getD j 0=x:=⟨_,rfl⟩;simp only [m]
 by_cases a:x<0
 ·simp [a]
 by_cases b:x>=(g.length:Int)
 ·simp [a,b]
 by_cases d:x=(v:Int)
 ·simp [a,b,d]
 have d':(x==(v:Int))=false:=by simp [d]
 have f:g.getD x.toNat []∈g:=d9 Z2;have hh:O8 n (g.getD x.toNat []) (v:Int)=some ((g.getD x.toNat []).contains (v:Int)):=zOC (c _ f) (u _ f);have KM:0<=x/\ x<(g.length:Int):=Z2
 have fin:((O8 n (g.getD x.toNat []) (v:Int)).bind λo=>bif (!o) then some (120:Int) else D)=(bif (g.getD x.toNat []).contains (v:Int) then D else some 120):=by
  grind
 by_cases e:0<j
 ·have h4:AG ((j:Int)-1)/\ ((0:Int)<=(j:Int)-1/\ (j:Int)-1<((g.getD v []).length:Int)):=⟨uj i G,(uu e i).1⟩
  simp_all [zEO]
 grind
end
theorem tB {g:List Ξ}{v:Nat}(hv:v<g.length):((List.range' v (g.length-v)).all λi=>JD g i (g.getD i []))=(JD g v (g.getD v [])&&(List.range' (v+1) (g.length-(v+1))).all λi=>JD g i (g.getD i [])):=by
 grind
theorem te {g:List Ξ}(a:g.length<=256)(b: ∀ r∈g,r.length<=LB): ∀ (k v n:Nat),v+k=g.length -> Fo (g.drop v)+Fo g+1<=n -> J6 g n (.l1 (v:Int))=some (Dg ((List.range' v (g.length-v)).all λi=>JD g i (g.getD i [])) 120)
 | 0,v,n,s,u=>by
  have:v=g.length:=Z2
  subst this;obtain ⟨m,rfl⟩: ∃ m,n=m+1:=⟨n-1,Z2⟩;simp [J6,i9,Dg]
 | k+1,v,n,s,u=>by
  have T:v<g.length:=Z2
  rw [pa T] at u;obtain ⟨m,rfl⟩: ∃ m,n=m+1:=⟨n-1,Z2⟩;have c:(v:Int)<(g.length:Int):=Z2
  have B:J6 g (m+1) (.l1 (v:Int))=J6 g m (.l2 (v:Int) 0):=by simp [J6,i9,c]
  rw [B];have S:=K9 (λn i=>J6 g n (.l2 (v:Int) i)) (g.getD v []).length (Fo g) (λj=>if Hi g v (g.getD v []) j then none else some 120) (λe j GM d=>zFp (n:=e) T a d b λr V=>by have:=gP V;omega) (n:=m) Z2;refine S.trans ?_;rw [Q8,tB T];have y:((List.range (g.getD v []).length).all λi=>Hi g v (g.getD v []) i)=JD g v (g.getD v []):=rfl;rw [y];cases JD g v (g.getD v []) with
  | false=>rfl
  | true=>
   obtain ⟨f,EG⟩: ∃ f,m-(g.getD v []).length=f+1:=⟨m-(g.getD v []).length-1,Z2⟩;have h2:AG ((v:Int)+1):=by rw [Aa];omega
   have ih:=te a b k (v+1) f Z2 Z2
   simp_all [J6,aV]
theorem yd {g:List Ξ}(a:g.length<=256)(b: ∀ r∈g,r.length<=LB): ∀ (k v n:Nat),v+k=g.length -> Fo (g.drop v)+Fo g+1<=n -> Kg g n (.l1 (v:Int))=some (Dg ((List.range' v (g.length-v)).all λi=>JD g i (g.getD i [])) 120)
 | 0,v,n,s,u=>by
  have:v=g.length:=Z2
  subst this;obtain ⟨m,rfl⟩: ∃ m,n=m+1:=⟨n-1,Z2⟩;simp [Kg,nP,Dg]
 | k+1,v,n,s,u=>by
  have T:v<g.length:=Z2
  rw [pa T] at u;obtain ⟨m,rfl⟩: ∃ m,n=m+1:=⟨n-1,Z2⟩;have h1:(v:Int)<(g.length:Int):=Z2
  have B:Kg g (m+1) (.l1 (v:Int))=Kg g m (.l2 (v:Int) (g.getD v []) (v:Int) (g.getD v []) ((g.getD v []).length:Int) 0):=by
   simp_all [Kg,nP]
  rw [B];have S:=K9 (λn i=>Kg g n (.l2 (v:Int) (g.getD v []) (v:Int) (g.getD v []) ((g.getD v []).length:Int) i)) (g.getD v []).length (Fo g) (λj=>if Hi g v (g.getD v []) j then none else some 120) (λe j GM c=>zMo (n:=e) rfl T a c b λr V=>by have:=gP V;omega) (n:=m) Z2;refine S.trans ?_;rw [Q8,tB T];have y:((List.range (g.getD v []).length).all λi=>Hi g v (g.getD v []) i)=JD g v (g.getD v []):=rfl;rw [y];cases JD g v (g.getD v []) with
  | false=>rfl
  | true=>
   obtain ⟨f,EG⟩: ∃ f,m-(g.getD v []).length=f+1:=⟨m-(g.getD v []).length-1,Z2⟩;have h2:AG ((v:Int)+1):=by rw [Aa];omega
   have ih:=yd a b k (v+1) f Z2 Z2
   simp_all [Kg,eA]
variable {n:Nat}
theorem tc {g:List Ξ}(j: ∀ r∈g,r.length<=LB)(hn:2*Fo g+1<=n):N6 n g=some (Dg (Lq g) 120):=by
 unfold N6 tY Lq
 by_cases h:(g.length:Int)>256
 ·grind [Dg]
 ·have h':g.length<=256:=Z2
  have:=te h' j g.length 0 n Z2 Z7
  grind
theorem yc {g:List Ξ}(j: ∀ r∈g,r.length<=LB)(hn:2*Fo g+1<=n):Xb n g=some (Dg (Lq g) 120):=by
 unfold Xb yb Lq
 by_cases h:(g.length:Int)>256
 ·grind [Dg]
 ·have h':g.length<=256:=Z2
  have:=yd h' j g.length 0 n Z2 Z7
  grind
end
section
def bS {s:Int}(a:1<=s)(b:s<=16):IntKind.i64.wrap (1*2 ^ s.toNat)=2 ^ s.toNat/\ AG ((2:Int) ^ s.toNat-1)/\ ((0:Int)<=s/\ s<=((IntKind.i64.bits:Nat):Int)):=by
 obtain ⟨m,rfl⟩:=zL7 (show 0<=s by omega);have h:m<17:=Z2
 refine ⟨?_,?_,Z2,by show (m:Int)<=64;omega⟩
 ·clear a b;revert m;decide
 ·clear a b;revert m;decide
variable {n i:Nat}{l:Ξ}
theorem zNs (o:l.length<=LB)(hi:i<l.length){self:UI -> W9}(j:Nat)(hj:j<i):eW n self l (i:Int) (j:Int)=(if l.getD i 0 != l.getD j 0 then none else some false).or (self (.l2 (i:Int) ((j:Int)+1))):=by
 have a:(j:Int)<(i:Int):=Z2
 have b:(i:Int)<(l.length:Int):=Z2
 have h:(j:Int)<(l.length:Int):=Z2
 have A:=r64 (show j<l.length by omega) o;simp only [eW,a,b,h,A,zMX,zAG,zLc,zP5,zL0,u8]
 grind
theorem zBo (hi:i<=l.length){x:Int}:((List.range i).all λj=>x != l.getD j 0)= !(l.take i).contains x:=by
 rw [zLs];simp only [zBk,zIN,zMb,ne_eq,zFN,zMq,zQJ,zP1,not_exists]
 grind
theorem zY (o:l.length<=LB): ∀ (k i n:Nat),i+k=l.length -> k*(l.length+2)+1<=n -> Km l n (.l1 (i:Int))=some ((List.range' i k).all λi=>!(l.take i).contains (l.getD i 0))
 | 0,i,n,hi,u=>by
  have:i=l.length:=Z2
  subst this;obtain ⟨m,rfl⟩: ∃ m,n=m+1:=⟨n-1,Z2⟩;simp [Km,nm]
 | k+1,i,n,hi,u=>by
  have U:i<l.length:=Z2
  rw [Nat.succ_mul] at u;obtain ⟨m,rfl⟩: ∃ m,n=m+1:=⟨n-1,Z2⟩;have a:(i:Int)<(l.length:Int):=Z2
  have B:Km l (m+1) (.l1 (i:Int))=Km l m (.l2 (i:Int) 0):=by simp [Km,nm,a]
  rw [B];have S:=K9 (λn j=>Km l n (.l2 (i:Int) j)) i 0 (λj=>if l.getD i 0 != l.getD j 0 then none else some false) (λe j _ b=>zNs (n:=e) o U j b) (n:=m) Z2;refine S.trans ?_;rw [Q8,zBo Z2,zQO,zPm];cases (l.take i).contains (l.getD i 0) with
  | true=>rfl
  | false=>
   obtain ⟨f,E⟩: ∃ f,m-i=f+1:=⟨m-i-1,Z2⟩;rw [E];have ih:=zY o k (i+1) f Z2 Z2
   grind [r64,Km,eW]
theorem zNo (hl:l.length<=LB)(hn:l.length*(l.length+2)+1<=n):eX n l=some (TJ l):=by
 unfold eX zX TJ
 grind [List.range_eq_range',zY,LB]
section
variable {c:AC} {n:Nat}
def Ny (sy:Int)(c:AC):Bool:=Dw [c.set,c.other] 0 (2 ^ sy.toNat-1)&&Dw [c.lo,c.hi] 0 65536&&decide (c.ru.length<=8)&&Dw c.ru 1 256
theorem cd {a b:Int}:([a,b]:Ξ).length<=LB:=by grind [LB]
variable {q:AA}{self:Oy -> W9}
theorem zM6 (a:1<=q.sy)(b:q.sy<=16)(j:c.ru.length<=LB)(u:c.ru.length<n)(K:2<n):nX n self q c=some (Ny q.sy c):=by
 obtain ⟨C,F,M⟩:=bS a b;unfold nX;rw [C,zAE ⟨M,F⟩,bM cd (show 2<n from K),bM cd (show 2<n from K),bM j u]
 grind [Ny]
variable {o:Ω}
theorem zM8 (hq:q.ce<=256)(a:c.ce.length<=LB){i:Nat}(hi:i<c.ce.length)(ho:o.length=256)(hm: ∀ x:Nat,x<256 -> o.getD x false=(c.ce.take i).contains (x:Int)):
 Xj n self q c (i:Int) o=if RF q.ce c.kind c.ce i then self (.l1 ((i:Int)+1) (o.set (0+(c.ce.getD i 0).toNat) true)) else some false:=by
 have b:(i:Int)<(c.ce.length:Int):=Z2
 have d:=r64 hi a;unfold RF;obtain ⟨x,e⟩: ∃ x,c.ce.getD i 0=x:=⟨_,rfl⟩;simp only [Xj,b,d,zMX,zAG,zLc,zP5,zL0,u8,e]
 grind
theorem zM7 :Xj n self q c (c.ce.length:Int) o=if H7 q.ce c.kind c.ce.length then self .l2 else some false:=by
 have a: ¬ ((c.ce.length:Int)<(c.ce.length:Int)):=Z2
 simp only [Xj,zAF a,zAz]
 by_cases hk:1<=c.kind/\ c.kind<=9
 ·obtain ⟨k,p⟩: ∃ k,c.kind=k:=⟨_,rfl⟩;rw [p] at hk;simp only [p];have e2:(((c.ce.length:Nat):Int) != 2)= !(c.ce.length==2):=by rw [zLs];simp;omega
  have e3:(((c.ce.length:Nat):Int) != q.ce)= !(((c.ce.length:Nat):Int)==q.ce):=rfl
  grind [TS,H7]
 ·have Mw:H7 q.ce c.kind c.ce.length=false:=by
   rw [zMq];exact λh=>hk (TR h)
  grind
theorem yp (Q:q.ce<=256)(a:c.ce.length<=LB)(b:1<=q.sy)(d:q.sy<=16)(j:c.ru.length<=LB): ∀ (k i n:Nat) (o:Ω),i+k=c.ce.length -> k+c.ru.length+6<=n -> o.length=256 -> (∀ x:Nat,x<256 -> o.getD x false=(c.ce.take i).contains (x:Int)) ->
 UB q c n (.l1 (i:Int) o)=some ((List.range' i k).all (RF q.ce c.kind c.ce)&&H7 q.ce c.kind c.ce.length&&Ny q.sy c)
 | 0,i,n,o,hi,u,y,z=>by
  have:i=c.ce.length:=Z2
  subst this;obtain ⟨m,rfl⟩: ∃ m,n=m+1:=⟨n-1,Z2⟩;refine (zM7 (n:=m)).trans ?_;cases H7 q.ce c.kind c.ce.length with
  | false=>simp
  | true=>
   obtain ⟨f,rfl⟩: ∃ f,m=f+1:=⟨m-1,Z2⟩
   grind [UB,zM6]
 | k+1,i,n,o,hi,u,y,z=>by
  obtain ⟨m,rfl⟩: ∃ m,n=m+1:=⟨n-1,Z2⟩;refine (zM8 (n:=m) Q a (show i<c.ce.length by omega) y z).trans ?_;rw [zQO,zPm];cases hck:RF q.ce c.kind c.ce i with
  | false=>simp
  | true=>
   have hx:0<=c.ce.getD i 0/\ c.ce.getD i 0<q.ce:=by
    simp_all [RF]
   have ih:=yp Q a b d j k (i+1) m (o.set (0+(c.ce.getD i 0).toNat) true) Z2 Z2 (by simp [y]) (λx hx256=>?_)
   ·grind
   ·have Bq:i<c.ce.length:=Z2
    have ht:c.ce.take (i+1)=c.ce.take i++[c.ce.getD i 0]:=by
     simp_all
    rw [zBS,zMD]
    grind
theorem zNA (Q:q.ce<=256)(a:c.ce.length<=LB)(b:1<=q.sy)(d:q.sy<=16)(j:c.ru.length<=LB)(hn:c.ce.length+c.ru.length+6<=n):eK n q c=some (Eu q c):=by
 unfold eK yq;have:=yp Q a b d j c.ce.length 0 n (List.replicate 256 false) Z2 Z2 zKM (λx hx=>Z4)
 grind [Eu,fT,Ny]
end
end
section
variable {c:AC} {n:Nat} {cells sy:Int}
def Wj (c:AC):Bool:=(List.range c.ce.length).all λi=>c.ce.getD i 0==(i:Int)
theorem zFP (d:c.ce.length<=LB)(j:c.ru.length<=LB)(a:1<=sy)(b:sy<=16)(hn:c.ce.length+c.ru.length+6<=n):Pm c cells sy n (.l1 0)=some ((!(c.kind==8||c.kind==9)||Wj c)&&Ny sy c):=by
 have S:=K9 (λn i=>Pm c cells sy n (.l1 i)) c.ce.length 0 (λi=>if (!(c.kind==8||c.kind==9)||c.ce.getD i 0==(i:Int)) then none else some false) (λn i _ hi=>?_) (n:=n) Z2
 ·refine S.trans ?_;rw [Q8]
  have e:((List.range c.ce.length).all λi=>(!(c.kind==8||c.kind==9)||c.ce.getD i 0==(i:Int)))=(!(c.kind==8||c.kind==9)||Wj c):=by
   grind [Wj]
  rw [e];cases (!(c.kind==8||c.kind==9)||Wj c) with
  | false=>rfl
  | true=>
   obtain ⟨m,z⟩: ∃ m,n-c.ce.length=m+1:=⟨n-c.ce.length-1,Z2⟩;rw [z];obtain ⟨C,F,M⟩:=bS a b;have h: ¬ ((c.ce.length:Int)<(c.ce.length:Int)):=Z2
   show Vn m (Pm c cells sy m) c cells sy (c.ce.length:Int)=_
   unfold Vn;rw [zAF h,zAz,C,zAE ⟨M,F⟩,YU cd (show 2<m by omega),YU cd (show 2<m by omega),YU j (show c.ru.length<m by omega)];unfold Ny
   grind
 ·have b:=r64 hi d
  show Vn n (Pm c cells sy n) c cells sy (i:Int)=_
  simp only [Vn,a,b,zMX,zAG,zLc,zP5,zL0,u8]
  grind
theorem zFQ (a:c.ce.length<=LB)(j:c.ru.length<=LB)(h0:1<=cells)(h00:cells<=256)(d:1<=sy)(e:sy<=16)(hn:c.ce.length*(c.ce.length+2)+c.ce.length+c.ru.length+7<=n):aP n c cells sy=some (aO c cells sy):=by
 have x:=zFP (cells:=cells) a j d e (n:=n) Z2;have hR:AG (cells-1):=by rw [Aa];omega
 unfold aP tT aO;simp only [hR,zL0,YU a (show c.ce.length<n by omega),zNo a (show c.ce.length*(c.ce.length+2)+1<=n by omega),x,zAB];have A:((List.range c.ce.length).all λi=>c.ce.getD i 0==(i:Int))=Wj c:=rfl;have B: ∀ b:Bool,(b&&Dw [c.set,c.other] 0 (2 ^ sy.toNat-1)&&Dw [c.lo,c.hi] 0 65536&&decide (c.ru.length<=8)&&Dw c.ru 1 256)=(b&&Ny sy c):=λb=>by grind [Ny]
 rw [A,B];have e2:(((c.ce.length:Nat):Int) != 2)= !(c.ce.length==2):=Z4
 grind
end
def SC (c:AC):Nat:=c.ce.length*(c.ce.length+2)+c.ce.length+c.ru.length+7
theorem qr (c:AC):SC c=c.ce.length*(c.ce.length+2)+c.ce.length+c.ru.length+7:=rfl
def EU (q:AA):Nat:=q.va.length+2*Fo q.nb+(q.cons.map SC).sum+q.cons.length+10
structure Cm (q:AA):Prop where
 va:q.va.length<=LB
 nb: ∀ r∈q.nb,r.length<=LB
 ce: ∀ c∈q.cons,c.ce.length<=LB
 ru: ∀ c∈q.cons,c.ru.length<=LB
def g8: ∀ {l:List AC} {c:AC},c∈l -> SC c<=(l.map SC).sum
 | [],_,h=>by cases h
 | a::l,c,h=>by
  rw [zMS,List.sum_cons];rcases zKP.1 h with rfl | h
  ·omega
  ·have:=g8 h;omega
section
variable {q:AA} {n:Nat}
def zF {b:Bool}:(Dg b 120==0)=b:=by cases b <;> rfl
theorem zBg (a:Cm q)(h1:1<=q.ce)(b:q.ce<=256)(h:1<=q.sy)(A:q.sy<=16)(h5:q.cons.length<=4096)(u:EU q<=n): ∃ r:Int,cx n q.cons q=some r/\ (0<=r↔q.cons.all (Eu q)=false):=by
 unfold cx w5;have S:=K9 (λn i=>Oa q.cons q n (.l1 i)) q.cons.length (q.cons.map SC).sum (λi=>if Eu q (q.cons.getD i default) then none else some (i:Int)) (λn i GM hi=>?_) (n:=n) (by unfold EU at u;omega)
 ·rw [show Oa q.cons q n (.l1 0)=_ from S];cases O:(List.range q.cons.length).findSome? (λi=>if Eu q (q.cons.getD i default) then none else some (i:Int)) with
  | some r=>
   refine ⟨r,rfl,?_⟩;obtain ⟨i,hi,hr⟩:=zNb O
   grind
  | none=>
   obtain ⟨m,z⟩: ∃ m,n-q.cons.length=m+1:=⟨n-q.cons.length-1,by unfold EU at u;omega⟩;refine ⟨-1,by rw [z];simp [Oa,cv],?_⟩;rw [zPv] at O
   have:q.cons.all (Eu q)=true:=by
    rw [←Vq (p:=Eu q) (d:=(default:AC)),zBk]
    grind
   simp [this]
 ·have c:(i:Int)<(q.cons.length:Int):=Z2
  have hR:AG ((i:Int)+1):=by rw [Aa];omega
  have R:q.cons.getD i default∈q.cons:=Z4
  have BR:=g8 R;have e:=zNA (n:=n) b (a.ce _ R) h A (a.ru _ R) (by grind [qr])
  show cv n (Oa q.cons q n) q.cons q (i:Int)=_
  generalize Oa q.cons q n=self
  simp only [cv,ZG,gZ,c,hR,zMX,zAG,zLc,zP5,zL0,u8,e,zAB]
  grind
theorem po (S:Cm q)(u:EU q<=n):valid n q=some (Dg (C4 q) 191):=by
 unfold valid pn C4;have c:=bM (lo:=0) (up:=99) S.va (show q.va.length<n by unfold EU at u;omega);have d:=yc S.nb (show 2*Fo q.nb+1<=n by unfold EU at u;omega)
 by_cases w:q.ce<1
 ·grind [Dg]
 have a:1<=q.ce:=Z2
 by_cases p:q.ce>256
 ·grind [Dg]
 have s:q.ce<=256:=Z2
 by_cases E:q.sy<1
 ·grind [Dg]
 have t:1<=q.sy:=Z2
 by_cases e:q.sy>16
 ·grind [Dg]
 have b:q.sy<=16:=Z2
 simp only [zAF w,zAF p,zAF E,zAF e,zAC a,zAC s,zAC t,zAC b,zAz,zMB,c,d,zAB,bne,zF];cases ((q.va.length:Nat):Int)==q.sy with
 | false=>rfl
 | true=>
 cases Dw q.va 0 99 with
 | false=>rfl
 | true=>
 cases ((q.nb.length:Nat):Int)==q.ce with
 | false=>rfl
 | true=>
 cases Lq q.nb with
 | false=>rfl
 | true=>
 by_cases P:((q.cons.length:Nat):Int)>4096
 ·grind [Dg]
 have G:q.cons.length<=4096:=Z2
 obtain ⟨r,f,r2⟩:=zBg S a s t b G u;simp only [fE,ns,f,zAF P,zAC G,zAB,zAz,zMB,zLa,zNT,zP0]
 grind [Dg]
theorem zEV (a:Cm q)(b:1<=q.ce)(d:q.ce<=256)(h:1<=q.sy)(A:q.sy<=16)(h5:q.cons.length<=4096)(u:EU q<=n):Nn q n (.l1 0)=some (Dg (q.cons.all (Eu q)) 191):=by
 have S:=K9 (λn i=>Nn q n (.l1 i)) q.cons.length (q.cons.map SC).sum (λi=>if Eu q (q.cons.getD i default) then none else some 191) (λn i GM hi=>?_) (n:=n) (by unfold EU at u;omega)
 ·refine S.trans ?_;rw [Q8,Vq (p:=Eu q)];cases q.cons.all (Eu q) with
  | false=>rfl
  | true=>
   obtain ⟨m,hm⟩: ∃ m,n-q.cons.length=m+1:=⟨n-q.cons.length-1,by unfold EU at u;omega⟩
   grind [Nn,Zv,Dg]
 ·have e:(i:Int)<(q.cons.length:Int):=Z2
  have hR:AG ((i:Int)+1):=by rw [Aa];omega
  have R:q.cons.getD i default∈q.cons:=Z4
  have BR:=g8 R;have c:=zFQ (n:=n) (a.ce _ R) (a.ru _ R) b d h A (by grind [qr]);rw [zFR q _ b] at c
  show Zv n (Nn q n) q (i:Int)=_
  generalize Nn q n=self
  simp only [Zv,e,hR,zMX,zAG,zLc,zP5,zL0,u8,c,zAB]
  grind
theorem zEW (S:Cm q)(u:EU q<=n):Zx n q=some (Dg (C4 q) 191):=by
 unfold Zx sU C4;have s:=YU (lo:=0) (up:=99) S.va (show q.va.length<n by unfold EU at u;omega);have a:=tc S.nb (show 2*Fo q.nb+1<=n by unfold EU at u;omega)
 by_cases w:q.ce<1
 ·grind [Dg]
 have r:1<=q.ce:=Z2
 by_cases p:q.ce>256
 ·grind [Dg]
 have b:q.ce<=256:=Z2
 by_cases E:q.sy<1
 ·grind [Dg]
 have t:1<=q.sy:=Z2
 by_cases c:q.sy>16
 ·grind [Dg]
 have d:q.sy<=16:=Z2
 simp only [zAF w,zAF p,zAF E,zAF c,zAC r,zAC b,zAC t,zAC d,zAz,zMB,s,a,zAB,bne,zF];cases ((q.va.length:Nat):Int)==q.sy with
 | false=>rfl
 | true=>
 cases Dw q.va 0 99 with
 | false=>rfl
 | true=>
 grind [Dg,zEV]
def zId {k:Int}(h:1<=k/\ k<=9):([0,1,1,2,2,3,1,1,4,4]:Ξ).getD k.toNat 0=KL k:=by
 rcases TS h with h | h | h | h | h | h | h | h | h <;> subst h <;> rfl
theorem zJC (s:C4 q=true){i:Int}(h0:0<=i)(hi:i<(q.cons.length:Int)):1<=(q.cons.getD i.toNat default).kind/\ (q.cons.getD i.toNat default).kind<=9:=by
 have R:q.cons.getD i.toNat default∈q.cons:=Z4
 exact TR (wi ((Dl s).2.2.2.2.2 _ R))
theorem kW (S:Cm q)(u:EU q<=n)(i:Int):QU n q i=some (Mm q i):=by
 unfold QU kV Mm;rw [po S u];cases s:C4 q with
 | false=>rfl
 | true=>
  by_cases h0:i<0
  ·grind [Dg]
  ·by_cases hi:i>=(q.cons.length:Int)
   ·grind [Dg]
   ·have a:0<=i/\ i<(q.cons.length:Int):=Z2
    have hk:=zJC s a.1 a.2;have b:(0<=i/\ i<(q.cons.length:Int))/\ (0<=(q.cons.getD i.toNat default).kind/\ (q.cons.getD i.toNat default).kind<((10:Nat):Int)):=⟨a,Z2,Z2⟩;simp only [Dg,zL0,zAB,bne_self_eq_false,zAz,zAF h0,zAF hi,zAE b,zAE a,zId hk,Bool.true_eq_false,zP3]
end
abbrev zMQ:=@List.length_cons
abbrev zQW:=@Go.Lib.hid
theorem zBi (x k C:Nat)(w:World)(Hk:((x:Int)==0)=false) 
 (key:IntKind.u64.wrap (bits BinOp.and IntKind.u64 (x:Int) (IntKind.u64.wrap (-(x:Int)))*285870213051353865)/288230376151711744=(C:Int))
 (hi:C<64) (hk:k<64) (Gi:w.cell? ⟨1,C,none⟩=some (.int .u8 k)):
 Calls Tryz.prog 151 #[.int .u64 x] w λe w'=>e= .returned (.int .i64 k)/\ w=w':=by
 go_enter Tryz.func151,Tryz.ntmps151
 go_wp2_with (simp only [key])
 go_ret
 exact ⟨rfl,rfl⟩
theorem zBj (x:Nat)(d:x<18446744073709551616)(B:x≠0)(w:World)(L:PH w):
 Calls Tryz.prog 151 #[.int .u64 x] w λe w'=>e= .returned (.int .i64 (Lib.ctz 64 x))/\ w=w':=by
 obtain ⟨mO,hk⟩:=Lib.lowest_bit 64 x B d;obtain ⟨hi,htab⟩:=Lib.deBruijn64_at _ hk;have Gi:=L _ hi
 grind [zBi,tz64_key]
def zBh (x:Nat)(d:x<18446744073709551616)(B:x≠0)(w:World)(L:PH w):
 Calls Tryz.prog 134 #[.int .u64 x] w λe w'=>e= .returned (.int .i64 (Lib.ctz 64 x))/\ w=w':=by
 have a:=zBj x d B w L
 go_enter Tryz.func134,Tryz.ntmps134
 go_wp2_with (go_at_call 151;refine a.mono ?_;rintro e w' ⟨rfl,rfl⟩)
 go_ret
 exact ⟨rfl,rfl⟩
def Fp (x:Nat):Θ:=(List.range 64).filter λs=>x.testBit s
theorem qs:Fp 0= []:=by simp [Fp]
theorem zIe (k m s:Nat):(2 ^ k*(2*m+1)).testBit s=(decide (k<=s)&&(2*m+1).testBit (s-k)):=by
 grind
def zH0 (m s:Nat):(2*m+1).testBit s=(decide (s=0)||(2*m).testBit s):=by
 cases s with
 | zero=>simp [Nat.testBit_zero]
 | succ s=>simp [Nat.testBit_succ];congr 1;omega
def zFq: ∀ k,k<64 -> List.range 64=List.range k++k::List.range' (k+1) (63-k):=by decide+kernel
theorem qt (x:Nat)(d:x<18446744073709551616)(B:x≠0):Fp x=Lib.ctz 64 x::Fp (x&&& (x-1)):=by
 have n:Lib.ctz 64 x=Lib.ctzFrom 64 x:=by simp [Lib.ctz,B]
 obtain ⟨m,z,hk⟩:=Lib.ctzFrom_spec 64 x Z2 (by simpa using d);rw [n]
 generalize Lib.ctzFrom 64 x=k at*
 have c: ∀ s,x.testBit s=(decide (k<=s)&&(decide (s-k=0)||(2*m).testBit (s-k))):=λs=>by rw [z,zIe,zH0]
 have hy: ∀ s,(x&&& (x-1)).testBit s=(x.testBit s&&decide (s≠k)):=by
  intro s;have hp:0<2 ^ k:=Nat.two_pow_pos k
  have w:x-1=2 ^ k*(2*m)+(2 ^ k-1):=by
   grind
  have Kc:(x-1).testBit s=if s<k then (2 ^ k-1).testBit s else (2*m).testBit (s-k):=by
   rw [w,Nat.testBit_two_pow_mul_add _ Z2]
  grind
 unfold Fp;have j:List.range 64=List.range k++k::List.range' (k+1) (63-k):=zFq k hk;rw [j];simp only [List.filter_append,zQN]
 have a: ∀ y:Nat,(∀ s,s<k -> y.testBit s=false) -> (List.range k).filter (λs=>y.testBit s)= []:=λy h=>by
  simp_all
 rw [a x (λs l=>by rw [c];simp;omega),a (x&&& (x-1)) (λs l=>by rw [hy,c];simp;omega)];have b:x.testBit k=true:=by rw [c];simp
 have e:(x&&& (x-1)).testBit k=false:=by rw [hy];simp
 simp only [b,e,zLn,zL0,zLk,zP3]
 congr 1
 apply List.filter_congr
 grind
theorem zPI (x:Nat)(hx:x<9223372036854775808)(Hk:x≠0):bits .and .i64 (x:Int) ((x:Int)-1)=((x&&& (x-1):Nat):Int):=by
 have e:((x:Int)-1)=((x-1:Nat):Int):=Z2
 have Ab:x&&& (x-1)<=x:=Nat.and_le_left;rw [e]
 have a:(BitVec.ofInt 64 (x:Int)).toNat=x:=by
  grind
 have b:(BitVec.ofInt 64 ((x-1:Nat):Int)).toNat=x-1:=by
  grind
 show IntKind.i64.wrap ((BitVec.ofInt 64 (x:Int)&&& BitVec.ofInt 64 ((x-1:Nat):Int)).toNat:Int)=_
 rw [BitVec.toNat_and,a,b];have z:((x&&& (x-1):Nat):Int) % 2 ^ 64=((x&&& (x-1):Nat):Int):=Z2
 simp only [IntKind.wrap,IntKind.signed,IntKind.bits,z]
 grind
def rp (w:World)(b o:Nat):Nat:=match w.cell? ⟨b,o,none⟩ with
 | some (.int _ x)=>x.toNat
 | _=>0
def ZN (s:Nat):List DV:=[.int .i64 s]
def hE1 (R:Ψ)(W:World)(x:Nat):YV (ZN x) R W #[.int .i64 x]:=⟨rfl,λj i=>by
 have:j=0:=Nat.lt_one_iff.1 i;subst this;rfl⟩
set_option maxRecDepth 100000 in
set_option maxHeartbeats 4000000 in
theorem zBs (set b o:Nat)(w:World)(P:set<9223372036854775808)(Q:PH w)(s:w.cell? ⟨b,o,none⟩=some (.int .i64 set))(T:w.frozen? ⟨b,o,none⟩=false)(t:b≠1):
 PN Tryz.prog 133 #[.pointer (some ⟨b,o,none⟩)] YV ((Fp set).map ZN) Uk (λk=>k=b) (λk=>k=1) w:=by
 intro l J Jx W hJ hJx S u h0 _;have U:=zQW u;clear u;have A:W.cell? ⟨b,o,none⟩=some (.int .i64 set):=S.cell (λh=>h (.inl rfl)) s
 have E:W.frozen? ⟨b,o,none⟩=false:=by
  rw [World.frozen?_of_block (S.block b (zKN w _ s) (λh=>h (.inl rfl)))];exact T
 have y:PH W:=λj a=>S.cell (λh=>h (.inr rfl)) (Q j a)
 have c: ∀ p,W.heap.size<=p.heap.size -> D8 (λk=>k=b) (λk=>k=1) p:=λp h=>⟨λk e Y=>t (e.symm.trans Y),λk hk=>zCD (hk.elim (λe=>e▸zKN W _ A) (λe=>e▸zKN W _ (y 0 Z6))) h⟩
 obtain ⟨G,D⟩: ∃ G:Ψ,(λk=>k=b)=G:=⟨_,rfl⟩;obtain ⟨R,C⟩: ∃ R:Ψ,(λk=>k=1)=R:=⟨_,rfl⟩;rw [D,C] at h0 c;have F:G b:=by rw [←D]
 have d:R 1:=by rw [←C]
 refine callsIn_of_wp Tryz.func133 rfl trivial ?_ rfl;simp only [Tryz.ntmps133,List.size_toArray,zMQ,List.length_nil,Nat.reduceAdd,Nat.reduceSub,Array.replicate_succ,Array.replicate_zero,List.push_toArray,List.append_toArray,zLn,zQM]
 gi_wp2
 gi_loopw [3,4,5,6,7,8,9,10,11,12,13,14] (λ_ _ _ _ _ _ _ _ _ _ _ _ wr=>∃ (i x:Nat),W.heap.size<=wr.heap.size/\ x<9223372036854775808/\ i<=(Fp set).length/\ Hid ((Fp set).drop i=Fp x)/\ Hid (J i G R wr)/\ wr.cell? ⟨b,o,none⟩=some (.int .i64 x)/\ wr.frozen? ⟨b,o,none⟩=false/\ Hid (PH wr))
  (λ_ _ _ _ _ _ _ _ _ _ _ _ wr=>rp wr b o)
 case atStart=>exact ⟨0,set,zBT _,P,zJs _,zQW rfl,zQW h0,A,E,zQW y⟩
 case round=>
  obtain ⟨i,x,f,Z,CT,g,a,z,hf,V⟩:=hrel
  by_cases B:x=0
  ·subst B
   have K:i=(Fp set).length:=by
    have:=congrArg List.length g.out
    grind [qs]
   gi_wp2
   go_end0
   exact ⟨G,R,c _ f,.inl ⟨K▸a.out,_,rfl⟩⟩
  ·have N0:((x:Int)==0)=false:=by simp [B]
   have X:(Fp set).drop i=Lib.ctz 64 x::Fp (x&&& (x-1)):=by rw [g.out,qt x Z2 B]
   have K:i<(Fp set).length:=by
    grind
   have hie:(Fp set)[i]=Lib.ctz 64 x:=by
    grind [List.drop_eq_getElem_cons]
   obtain ⟨fn,tmps,RR,body,hy,hR⟩:=U.out i (ZN (Lib.ctz 64 x)) #[.int .i64 (Lib.ctz 64 x)] G R wr Z4 (hE1 R wr _) a.out (c _ f);have m:=zQW hR;clear hR;have n:=zQW (zBh x Z2 B wr V.out);have q:=zQW X;clear X g
   gi_wp2_with (first | refine ⟨trivial,rfl,?_⟩ | (gi_at_call 134;refine (zPy.2 n.out).mono ?_;rintro e w' ⟨rfl,rfl⟩))
   refine ⟨rfl,m.out.mono ?_⟩;rintro e v ⟨I,(⟨rfl,L⟩ | ⟨rfl,Qe⟩)⟩
   ·have dk:v.cell? ⟨b,o,none⟩=some (.int .i64 x):=I.cell (λh=>h (.inl F)) z
    have M:v.frozen? ⟨b,o,none⟩=false:=by
     rw [World.frozen?_of_block (I.block b (zKN wr _ z) (λh=>h (.inl F)))];exact hf
    have H:PH v:=λj a=>I.cell (λh=>h (.inr d)) (V.out j a)
    have r:AS G v (v.setCell ⟨b,o,none⟩ (.int .i64 ((x&&& (x-1):Nat):Int))):=(AS.refl G v).setCell (λ_=>F) _;have N:=zA4 f (zA4 I.size r.size);have XE:=zQW ((hJ _).same (c _ (zA4 f I.size)) L r)
    have O:Hid (PH (v.setCell ⟨b,o,none⟩ (.int .i64 ((x&&& (x-1):Nat):Int)))):=zQW λj a=>
     ((AS.refl (λk=>k=b) v).setCell (λ_=>rfl) _).cell (λe=>t e.symm) (H j a)
    have Ab:x&&& (x-1)<x:=Nat.lt_of_le_of_lt Nat.and_le_right Z2;clear r H
    gi_wp2
    rw [zPI x Z B];have M5:(v.setCell ⟨b,o,none⟩ (.int .i64 ((x&&& (x-1):Nat):Int))).cell? ⟨b,o,none⟩=some (.int .i64 ((x&&& (x-1):Nat):Int)):=World.cell?_setCell_same' v _ _ (by rw [dk];rfl);refine ⟨⟨_,_,_,_,_,_,_,_,_,_,_,_,⟨i+1,x&&& (x-1),N,Z2,K,zQW ?_,XE,M5,?_,O⟩,rfl⟩,?_⟩
    ·rw [←List.drop_drop,q.out];rfl
    ·rw [World.frozen?_setCell];exact M
    grind [rp]
   ·gi_wp2
    refine bodyPost_ret (results_none rfl _ _ _) rfl ?_;exact ⟨G,R,c _ (zA4 f I.size),.inr ⟨⟨_,rfl⟩,Qe⟩⟩
def BY (x:Int):Ξ:=(Fp x.toNat).map λ(s:Nat)=>(s:Int)
def zNe (x:Int):(BY x).map Br=(Fp x.toNat).map ZN:=by
 unfold BY;rw [List.map_map];rfl
def zBr {x:Int}(hx:(0:Int)<=x/\ x<9223372036854775808)(w:World)(b o:Nat)(u:Value)(n:GG.gi w)(a:GG.ng<=b)(c: ∃ cs t,w.heap[b]? =some (.cells cs t (0,0)))(d:w.cell? ⟨b,o,none⟩=some u)(j:u= .int .i64 x):
 PN Tryz.prog 133 #[.pointer (some ⟨b,o,none⟩)] YV ((BY x).map Br) Uk (λk=>k=b) (λk=>k=1) w:=by
 rw [zNe];obtain ⟨cs,t,c⟩:=c;have a:2<=b:=a;refine zBs x.toNat b o w Z2 n.1 ?_ ?_ Z2
 ·rw [d,j];congr 2;omega
 ·unfold World.frozen?;simp [c]
theorem ES.iterOf {P:Program}{Γ:Ay}{f g:Nat}{ds:List DV}{c:Nat -> DV}{d:DV}{encs:List (List DV)}{Rd:Ψ}(h0:ES P Γ f ds [] (.fn g 1 c) [some (.cells [d])] true)(x:c 0= .ref 0 0)(y:ds.all GK=true) 
 (z: ∀ args W,(callFunc g args).run P W= .ok (.enter g args) W)
 (q: ∀ (w:World) (b o:Nat) (u:Value),Γ.gi w -> Γ.ng<=b -> (∃ cs t,w.heap[b]? =some (.cells cs t (0,0))) -> w.cell? ⟨b,o,none⟩=some u -> AI (λ_=>False) w d [] u -> PN P g #[.pointer (some ⟨b,o,none⟩)] YV encs Uk (λk=>k=b) Rd w)
 (A:TC d=true) (Q: ∀ b,Rd b -> b<Γ.ng) (h:DH):ES P Γ f ds h (.it h.length) (h++[some (.iter encs)]) true:=by
 refine ⟨h0.1,λN ρ w args HR F=>?_⟩;refine (h0.2 (MS N h ρ) [] w args (Tj (λb a=>HR.lt2 a) HR.gi) ⟨F.1,λi hi=>?_⟩).mono ?_
 ·have B:=OO (zBk.1 y (ds.getD i .any) (by simp [hi]));exact AI.out _ (DK (λb a=>Rg.1 a) []) (B _ _ _ _ (F.2 i hi))
 ·rintro e w' ⟨v,rfl,⟨⟨ρ',m,C,E,g4⟩,D⟩⟩;have H:=D rfl;obtain ⟨p,n,l⟩:=m.obj 0 _ rfl;have l:AY w' p 1 _:=l;have O: ∀ b,p.foot b -> w.heap.size<=b:=λb a=>(E.grow b ⟨0,_,p,rfl,n,a⟩).resolve_left λ⟨k,o',p',G,_⟩=>by simp at G
  obtain ⟨I,J,hl,K⟩:=C;obtain ⟨u,hu,r⟩:=K 0 Z2;rw [x] at r;obtain ⟨p',L,Wn⟩:=r;have Z:p'=p:=zA2 (L.symm.trans n);subst Z
  have R:I= #[.pointer (some ⟨p'.blk,p'.off,none⟩)]:=by
   grind
  subst R;obtain ⟨T,M,S⟩:=AY.cell l (j:=0) Z2;have s:p'.foot=λb=>b=p'.blk:=l.1
  have U:Γ.ng<=w.heap.size:=Γ.lo _ HR.gi;have Y:=m.cel 0 _ p' p'.blk rfl n (by rw [s]);refine ⟨v,rfl,⟨⟨ρ++[{ p' with val:=v }],HR.snoc H (λb a=>⟨O b a,(m.cel 0 _ p' b rfl n a).2.2⟩) ?_,⟨{ p' with val:=v },by rw [←HR.len];simp,rfl⟩,A3.snoc HR H O,λ_ _ h=>Ef h⟩,D⟩⟩;obtain ⟨_,cs,t,V,_⟩:=l;refine ⟨g,_,Rd,⟨J,z⟩,?_,λb a=>?_,λb a=>?_⟩
  ·show PN P g _ YV encs Uk p'.foot Rd w'
   rw [s];refine q w' _ _ T m.gi Y.1 ⟨cs,t,V⟩ (by simpa using M) ?_;exact AI.out _ (DK (λb a=>a.elim) []) (jh A S)
  ·have X:=Q b a;refine ⟨λhm=>?_,zCD (zCD X U) H.size⟩;rcases hm with hm | hm
   ·have:=(HR.nlt b hm).2;omega
   ·rcases MO.snoc HR hm with hm | hm
    ·have:=HR.low hm;omega
    ·have:=O b hm;omega
  grind
section
set_option maxRecDepth 100000
set_option maxHeartbeats 40000000
inductive fC where
 | l1 (x7:Int)
def fB (n:Nat)(self:fC -> W9)(f:Ξ)(P:Int):W9:= bif (decide (P<(f.length:Int))) then if 0<=P/\ P<(f.length:Int) then bif ((f.getD P.toNat 0)==0) then some true else if AG (P+1) then self (.l1 (P+1)) else none else none else some false
def zb (n:Nat)(self:fC -> W9)(sets:Ξ):W9:= self (.l1 0)
def UK (f:Ξ):Nat -> fC -> W9
 | 0,_=>none
 | n+1,.l1 P=>fB n (UK f n) f P
def YA (n:Nat)(f:Ξ):W9:=zb n (UK f n) f
def zNy (n B:Nat)(N:Yd 0)(f:Ξ)(r:Bool):fC -> Prop:=px n B Fence.wide N (FQ Tryz.f80 0 (.bool r) []) (Ac Tryz.f80) λ
 | .l1 P=>(0,0,AH 14 [(5,.ints f),(6,.i (f.length:Int)),(7,.i P)],[])
def zNz (B:Nat)(N:Yd 0)(f:Ξ):Al (UK f) (zNy · B N f):=ia (λ_=>rfl) λn w a r h=>by
 cases a
 case l1 x7=>
  intro m k;refine rd k λm k=>?_
  revert r;apply gO;exact bi 8 (gi (bi 12 (lE AD [2] []) (gw 13 (lG AD [] (w _ _ · m k))))) (lE AD [2] [])
variable {n:Nat}
def za {f:Ξ}{r:Bool}(h:YA n f=some r):EQ 80 [.ints f] [] (.bool r) [] true:=by
 refine ot Tryz.func80 λB N=>?_
 revert r;apply gO;exact lN AD [] ((zNz B N f n) _ _ · n Nat.le.refl)
def kn (n:Nat)(pos:Ξ):W9:= (YA n pos).bind λe=> some e
def G9 (n:Nat)(pos:Ξ):W9:=kn n pos
variable {pos:Ξ}
def Qa {r:Bool}(h:G9 n pos=some r):EQ 53 [.ints pos] [] (.bool r) [] true:=by
 unfold G9 kn at h;refine ot Tryz.func53 λB N=>?_
 revert r;apply gO;exact cf za [] λ_=>lE AD [2] []
def kD (n:Nat)(pos:Ξ):Option Ξ:= (YA n pos).bind λe=> bif e then if ((pos.length:Int):Int)=(pos.length:Int)/\ 0<=(pos.length:Int)/\ ((pos.length:Int):Int)<=1000000000000 then if pos.length=(List.replicate pos.length (0:Int)).length then some (List.replicate pos.length (0:Int)) else none else none else some pos
def cG (n:Nat)(pos:Ξ):Option Ξ:=kD n pos
def zH8 {r:Ξ}(h:cG n pos=some r):EQ 48 [.ints pos] [] (.ints r) [] true:=by
 unfold cG kD at h;refine ot Tryz.func48 λB N=>?_
 revert r;apply gO;exact cf za [] λ_=>bi 4 (gi (gn λa=>lF λp=>ez AD [2] [0] p [0] (H0.g a))) (lE AD [2] [])
inductive bV where
 | l1 (x20:Int)
def bU (n:Nat)(self:bV -> Option Int)(q:AA)(pos:Ξ)(x20:Int):Option Int:= bif (decide (x20<(pos.length:Int))) then if 0<=x20/\ x20<(pos.length:Int) then bif (decide ((pos.getD x20.toNat 0)<0)) then some 250 else if 0<=q.sy/\ q.sy<=(IntKind.i64.bits:Int) then bif (decide ((pos.getD x20.toNat 0)>=(IntKind.i64.wrap (1*2 ^ (q.sy).toNat)))) then some 250 else if AG (x20+1) then self (.l1 (x20+1)) else none else none else none else some 0
def u6 (n:Nat)(self:bV -> Option Int)(q:AA)(pos:Ξ):Option Int:= (valid n q).bind λe=> bif (e != 0) then some e else bif ((pos.length:Int) != q.ce) then some 250 else self (.l1 0)
def P9 (q:AA)(pos:Ξ):Nat -> bV -> Option Int
 | 0,_=>none
 | n+1,.l1 x20=>bU n (P9 q pos n) q pos x20
def Fd (n:Nat)(q:AA)(pos:Ξ):Option Int:=u6 n (P9 q pos n) q pos
def zHM (n B:Nat)(N:Yd 0)(q:AA)(pos:Ξ)(r:Int):bV -> Prop:=px n B Fence.wide N (FQ Tryz.f21 0 (.i r) []) (Ac Tryz.f21) λ
 | .l1 x20=>(0,0,AH 34 [(2,.ref 0 0),(18,.ints pos),(19,.i (pos.length:Int)),(20,.i x20)],[oC (AE q)])
def zHN (B:Nat)(N:Yd 0)(q:AA)(pos:Ξ):Al (P9 q pos) (zHM · B N q pos):=ia (λ_=>rfl) λn w a r h=>by
 cases a
 case l1 x20=>
  intro m k;refine rd k λm k=>?_
  revert r;apply gO;exact bi 21 (gi (bi 25 (lE AD [4] []) (gi (bi 31 (lE AD [4] []) (gw 33 (lG AD [0] (w _ _ · m k))))))) (lE AD [4] [])
variable {r:Int}{q:AA}
def MY (h:Fd n q pos=some r):EQ 21 [.agg 5 (L1 (AE q)),.ints pos] [] (.i r) [] true:=by
 refine ot Tryz.func21 λB N=>?_
 revert r;apply gO;exact cf pm [oC (AE q)] λ_=>bi 11 (lE AD [4] []) (bi 17 (lE AD [4] []) (lN AD [0] ((zHN B N q pos n) _ _ · n Nat.le.refl)))
def zl (n:Nat)(G:Ξ):Option Ξ:= if 0<G.length/\ ((True)/\ (0=0/\ 0=([]:Ξ).length)/\ ([]:Ξ).length+G.length<=Av) then if ([]:Ξ).length+G.length=(([]:Ξ)++G).length then some (([]:Ξ)++G) else none else none
def fN (n:Nat)(G:Ξ):Option Ξ:=zl n G
def zON {G:Ξ}{r:Ξ}(h:fN n G=some r):EQ 115 [.ints G] [] (.msl 0 1 0 r.length) [oI r] true:=by
 refine ot Tryz.func115 λB N=>?_
 revert r;apply gO;exact gc (gi (gi (gn λa=>lF λp=>el AD [2] [1] p [] H0 [.msl 0 1 0 (([]:Ξ).length+G.length)] (AM.mslN a))))
def n6 (n:Nat)(G:Ω):Option Ω:= if 0<G.length/\ ((True)/\ (0=0/\ 0=([]:Ω).length)/\ ([]:Ω).length+G.length<=Av) then if ([]:Ω).length+G.length=(([]:Ω)++G).length then some (([]:Ω)++G) else none else none
def RD (n:Nat)(G:Ω):Option Ω:=n6 n G
def zm {G:Ω}{r:Ω}(h:RD n G=some r):EQ 137 [.bools G] [] (.msl 0 1 0 r.length) [some (.bools r)] true:=by
 refine ot Tryz.func137 λB N=>?_
 revert r;apply gO;exact gc (gi (gi (gn λa=>lF λp=>el AD [2] [1] p [] H0 [.msl 0 1 0 (([]:Ω).length+G.length)] (AM.mslN a))))
def n8 (n:Nat)(q:AA)(i:Int)(pos:Ξ):Option Int:= (QU n q i).bind λe=> bif (e.2 != 0) then some e.2 else (Fd n q pos).bind λx=> some x
def UQ (n:Nat)(q:AA)(i:Int)(pos:Ξ):Option Int:=n8 n q i pos
def zOS {i:Int}(h:UQ n q i pos=some r):EQ 98 [.agg 5 (L1 (AE q)),.i i,.ints pos] [] (.i r) [] true:=by
 unfold UQ n8 at h;refine ot Tryz.func98 λB N=>?_
 revert r;apply gO;exact cf kU [oC (AE q)] λ_=>bi 16 (lE AD [6] []) (cf MY [oC (AE q)] λ_=>lE AD [6] [])
inductive d8 where
 | l1 (Aq:Int)
def d5 (n:Nat)(self:d8 -> Option Int)(H:List Ξ)(f:List Ω)(d:Int):Option Int:= bif (decide (d<(f.length:Int))) then if 0<=d/\ d<(f.length:Int) then bif ((((f.getD d.toNat []).length:Nat):Int) != (H.length:Int)) then some 1 else if AG (d+1) then self (.l1 (d+1)) else none else none else some 0
def yV (n:Nat)(self:d8 -> Option Int)(H:List Ξ)(sets:List Ω):Option Int:= (Xb n H).bind λe=> bif (e != 0) then some e else self (.l1 0)
def T0 (H:List Ξ)(f:List Ω):Nat -> d8 -> Option Int
 | 0,_=>none
 | n+1,.l1 d=>d5 n (T0 H f n) H f d
def Ow (n:Nat)(H:List Ξ)(f:List Ω):Option Int:=yV n (T0 H f n) H f
def zMf (n B:Nat)(N:Yd 0)(H:List Ξ)(f:List Ω)(r:Int):d8 -> Prop:=px n B Fence.wide N (FQ Tryz.f139 0 (.i r) []) (Ac Tryz.f139) λ
 | .l1 d=>(0,0,AH 25 [(0,.sl 1 H.length (AO AW H)),(13,.sl 1 f.length (AO fZ f)),(14,.i (f.length:Int)),(15,.i d)],[])
def zMg (B:Nat)(N:Yd 0)(H:List Ξ)(f:List Ω):Al (T0 H f) (zMf · B N H f):=ia (λ_=>rfl) λn w a r h=>by
 cases a
 case l1 Aq=>
  intro m k;refine rd k λm k=>?_
  revert r;apply gO;exact bi 16 (gi (bi 23 (lE AD [4] []) (gw 24 (lG AD [] (w _ _ · m k))))) (lE AD [4] [])
def yT {H:List Ξ}{f:List Ω}(h:Ow n H f=some r):EQ 139 [.sl 1 H.length (AO AW H),.sl 1 f.length (AO fZ f)] [] (.i r) [] true:=by
 refine ot Tryz.func139 λB N=>?_
 revert r;apply gO;exact cf ya [] λ_=>bi 11 (lE AD [4] []) (lN AD [] ((zMg B N H f n) _ _ · n Nat.le.refl))
end
section
set_option maxRecDepth 100000
set_option maxHeartbeats 40000000
def zD6:Ae (A0 Tryz.f120 0) [] (List.range 18) [18]:=Z0
def zCo:BF:=λi=>match i with
 | 0=>.ord [] (List.range 18) [18]
 | _=>.no
def kR (n:Nat)(cell ss:Int)(c:AC)(q:AA)(pos:Ξ)(ln:Nat)(lost:Ξ):Option Ξ:= if (0<=cell/\ cell<(ln:Int))/\ 0+cell.toNat<lost.length/\ (0<=cell/\ cell<(pos.length:Int)) then some (lost.set (0+cell.toNat) (bits .or .i64 (lost.getD (0+cell.toNat) 0) (bits .and .i64 (pos.getD cell.toNat 0) ss))) else none
def D5 (n:Nat)(cell ss:Int)(c:AC)(q:AA)(pos:Ξ)(ln:Nat)(lost:Ξ):Option Ξ:=kR n cell ss c q pos ln lost
variable {r lost pos:Ξ}{ln n:Nat}{q:AA}{c:AC}{cell:Int}
def G8 {ss:Int}(h:D5 n cell ss c q pos ln lost=some r):EQ 120 [.ref 0 0,.i cell,.i ss] [oW c q pos 1 ln,oI lost] (.tup 0 (λj=>([]:List DV).getD j .any)) [oW c q pos 1 ln,oI r] false:=by
 refine ot Tryz.func120 λB N=>?_
 revert r;apply gO;exact jg zD6 (gc (gn λW=>jg W (gc (gn λp=>jg p (gi (jg W (jg p (lE zCo [] [0,1]))))))))
def zD0:Ae (A0 Tryz.f121 0) [] (List.range 22) [22]:=Z0
def zCn:BF:=λi=>match i with
 | 0=>.ord [] (List.range 22) [22]
 | _=>.no
def j0 (n:Nat)(cell:Int)(c:AC)(q:AA)(pos:Ξ)(ln:Nat)(lost:Ξ):Option Ξ:= if (0<=cell/\ cell<(ln:Int))/\ 0+cell.toNat<lost.length/\ (0<=cell/\ cell<(pos.length:Int)) then some (lost.set (0+cell.toNat) (bits .or .i64 (lost.getD (0+cell.toNat) 0) (bits .andNot .i64 (pos.getD cell.toNat 0) c.set))) else none
def Hg (n:Nat)(cell:Int)(c:AC)(q:AA)(pos:Ξ)(ln:Nat)(lost:Ξ):Option Ξ:=j0 n cell c q pos ln lost
def OK (h:Hg n cell c q pos ln lost=some r):EQ 121 [.ref 0 0,.i cell] [oW c q pos 1 ln,oI lost] (.tup 0 (λj=>([]:List DV).getD j .any)) [oW c q pos 1 ln,oI r] false:=by
 refine ot Tryz.func121 λB N=>?_
 revert r;apply gO;exact jg zD0 (gc (gn λW=>jg W (gc (gn λp=>jg p (gi (jg W (jg p (lE zCn [] [0,1]))))))))
inductive Xz where
 | l1 (x3 x4 BN:Int)
 | l2 (x3 x4 CL:Int) (o1:Ξ)
def eZ (n:Nat)(self:Xz -> W0)(c:AC)(q:AA)(pos:Ξ)(ln:Nat)(lost:Ξ)(D I o:Int):W0:= bif (decide (o<(c.ce.length:Int))) then if (0<=o/\ o<(c.ce.length:Int))/\ (0<=(c.ce.getD o.toNat 0)/\ (c.ce.getD o.toNat 0)<(pos.length:Int))/\ AG ((pos.getD ((c.ce.getD o.toNat 0).toNat) 0)-1) then bif ((bits .and .i64 (pos.getD ((c.ce.getD o.toNat 0).toNat) 0) ((pos.getD ((c.ce.getD o.toNat 0).toNat) 0)-1))==0) then if AG (o+1) then self (.l1 (bits .or .i64 D (pos.getD ((c.ce.getD o.toNat 0).toNat) 0)) (bits .or .i64 I (bits .and .i64 D (pos.getD ((c.ce.getD o.toNat 0).toNat) 0))) (o+1)) else none else if AG (o+1) then self (.l1 D I (o+1)) else none else none else self (.l2 D I 0 lost)
def eY (n:Nat)(self:Xz -> W0)(c:AC)(q:AA)(pos:Ξ)(ln:Nat)(lost:Ξ)(D I P:Int)(o1:Ξ):W0:= bif (decide (P<(c.ce.length:Int))) then if (0<=P/\ P<(c.ce.length:Int))/\ (0<=(c.ce.getD P.toNat 0)/\ (c.ce.getD P.toNat 0)<(pos.length:Int))/\ AG ((pos.getD ((c.ce.getD P.toNat 0).toNat) 0)-1) then bif ((bits .and .i64 (pos.getD ((c.ce.getD P.toNat 0).toNat) 0) ((pos.getD ((c.ce.getD P.toNat 0).toNat) 0)-1))==0) then (D5 n (c.ce.getD P.toNat 0) (bits .or .i64 (bits .andNot .i64 D (pos.getD ((c.ce.getD P.toNat 0).toNat) 0)) I) c q pos ln o1).bind λe=> if AG (P+1) then self (.l2 D I (P+1) e) else none else (D5 n (c.ce.getD P.toNat 0) D c q pos ln o1).bind λe=> if AG (P+1) then self (.l2 D I (P+1) e) else none else none else some (true,o1)
def zZ (n:Nat)(self:Xz -> W0)(c:AC)(q:AA)(pos:Ξ)(ln:Nat)(lost:Ξ):W0:= self (.l1 0 0 0)
def ND (c:AC)(q:AA)(pos:Ξ)(ln:Nat)(lost:Ξ):Nat -> Xz -> W0
 | 0,_=>none
 | n+1,.l1 D I o=>eZ n (ND c q pos ln lost n) c q pos ln lost D I o
 | n+1,.l2 D I P o1=>eY n (ND c q pos ln lost n) c q pos ln lost D I P o1
def UJ (n:Nat)(c:AC)(q:AA)(pos:Ξ)(ln:Nat)(lost:Ξ):W0:=zZ n (ND c q pos ln lost n) c q pos ln lost
def zNv (n B:Nat)(N:Yd 2)(c:AC)(q:AA)(pos:Ξ)(ln:Nat)(lost:Ξ)(r:Bool×Ξ):Xz -> Prop:=px n B Fence.wide N (FQ Tryz.f106 2 (.bool r.1) [oW c q pos 1 ln,oI r.2]) (Ac Tryz.f106) λ
 | .l1 D I o=>(0,0,AH 77 [(0,.ref 0 0),(3,.i D),(4,.i I),(15,.ints c.ce),(16,.i (c.ce.length:Int)),(17,.i o)],[oW c q pos 1 ln,oI lost])
 | .l2 D I P o1=>(0,2,AH 77 [(0,.ref 0 0),(3,.i D),(4,.i I),(46,.ints c.ce),(47,.i (c.ce.length:Int)),(48,.i P)],[oW c q pos 1 ln,oI o1])
def zNw (B:Nat)(N:Yd 2)(c:AC)(q:AA)(pos:Ξ)(ln:Nat)(lost:Ξ):Al (ND c q pos ln lost) (zNv · B N c q pos ln lost):=ia (λ_=>rfl) λn w a r h=>by
 cases a
 case l1 x3 x4 BN=>
  intro m k;refine rd k λm k=>?_
  revert r;apply gO;exact bi 18 (gc (gi (gc (gi (gw 30 (bi 32 (gw 41 (lG AD [0,1] (w _ _ · m k))) (gw 41 (lG AD [0,1] (w _ _ · m k))))))))) (lN AD [0,1] (w _ _ · n Nat.le.refl))
 case l2 x3 x4 CL o1=>
  intro m k;refine rd k λm k=>?_
  revert r;apply gO;exact bi 49 (gc (gi (gc (gi (gw 61 (bi 63 (ce G8 [0,1] [oW c q pos 1 ln,oI o1] λ_=>gw 76 (lG AD [0,1] (w _ _ · m k))) (ce G8 [0,1] [oW c q pos 1 ln,oI o1] λ_=>gw 76 (lG AD [0,1] (w _ _ · m k))))))))) (lE AD [2] [0,1])
def zNu {r:Bool×Ξ}(h:UJ n c q pos ln lost=some r):EQ 106 [.ref 0 0] [oW c q pos 1 ln,oI lost] (.bool r.1) [oW c q pos 1 ln,oI r.2] false:=by
 refine ot Tryz.func106 λB N=>?_
 revert r;apply gO;exact lN AD [0,1] ((zNw B N c q pos ln lost n) _ _ · n Nat.le.refl)
def zEK:Ae (A0 Tryz.f107 5) [] (List.range 15) []:=Z0
def zEJ:Ae (A0 Tryz.f107 8) [] (List.range 15) []:=Z0
def zEL:Ae (A0 Tryz.f107 16) [] (List.range 23) []:=Z0
def iY:Ae (A0 Tryz.f107 18) [] (List.range 23) []:=Z0
def Ga:BF:=λi=>match i with
 | 5=>.ord [] (List.range 15) []
 | 8=>.ord [] (List.range 15) []
 | 16=>.ord [] (List.range 23) []
 | 18=>.ord [] (List.range 23) []
 | _=>.no
inductive YF where
 | l1 (x3 x4 Aq:Int)
 | l2 (x3 x4 CO:Int) (o1:Ξ)
def YE (n:Nat)(self:YF -> W0)(c:AC)(q:AA)(pos:Ξ)(ln:Nat)(lost:Ξ)(D I d:Int):W0:= bif (decide (d<(c.ce.length:Int))) then if (0<=d/\ d<(c.ce.length:Int))/\ (0<=(c.ce.getD d.toNat 0)/\ (c.ce.getD d.toNat 0)<(pos.length:Int)) then bif ((bits .andNot .i64 (pos.getD ((c.ce.getD d.toNat 0).toNat) 0) c.set)==0) then if AG (D+1)/\ AG (I+1)/\ AG (d+1) then self (.l1 (D+1) (I+1) (d+1)) else none else bif ((bits .and .i64 (pos.getD ((c.ce.getD d.toNat 0).toNat) 0) c.set) != 0) then if AG (I+1)/\ AG (d+1) then self (.l1 D (I+1) (d+1)) else none else if AG (d+1) then self (.l1 D I (d+1)) else none else none else bif (decide (D>c.hi)) then some (false,lost) else bif (decide (I<c.lo)) then some (false,lost) else self (.l2 D I 0 lost)
def fD (n:Nat)(self:YF -> W0)(c:AC)(q:AA)(pos:Ξ)(ln:Nat)(lost:Ξ)(D I Q:Int)(o1:Ξ):W0:= bif (decide (Q<(c.ce.length:Int))) then if 0<=Q/\ Q<(c.ce.length:Int) then bif (D==c.hi) then if 0<=(c.ce.getD Q.toNat 0)/\ (c.ce.getD Q.toNat 0)<(pos.length:Int) then bif ((bits .andNot .i64 (pos.getD ((c.ce.getD Q.toNat 0).toNat) 0) c.set) != 0) then (D5 n (c.ce.getD Q.toNat 0) c.set c q pos ln o1).bind λe=> bif (I==c.lo) then bif ((bits .and .i64 (pos.getD ((c.ce.getD Q.toNat 0).toNat) 0) c.set) != 0) then (Hg n (c.ce.getD Q.toNat 0) c q pos ln e).bind λx=> if AG (Q+1) then self (.l2 D I (Q+1) x) else none else if AG (Q+1) then self (.l2 D I (Q+1) e) else none else if AG (Q+1) then self (.l2 D I (Q+1) e) else none else bif (I==c.lo) then bif ((bits .and .i64 (pos.getD ((c.ce.getD Q.toNat 0).toNat) 0) c.set) != 0) then (Hg n (c.ce.getD Q.toNat 0) c q pos ln o1).bind λe=> if AG (Q+1) then self (.l2 D I (Q+1) e) else none else if AG (Q+1) then self (.l2 D I (Q+1) o1) else none else if AG (Q+1) then self (.l2 D I (Q+1) o1) else none else none else bif (I==c.lo) then if 0<=(c.ce.getD Q.toNat 0)/\ (c.ce.getD Q.toNat 0)<(pos.length:Int) then bif ((bits .and .i64 (pos.getD ((c.ce.getD Q.toNat 0).toNat) 0) c.set) != 0) then (Hg n (c.ce.getD Q.toNat 0) c q pos ln o1).bind λe=> if AG (Q+1) then self (.l2 D I (Q+1) e) else none else if AG (Q+1) then self (.l2 D I (Q+1) o1) else none else none else if AG (Q+1) then self (.l2 D I (Q+1) o1) else none else none else some (true,o1)
def zN5 (n:Nat)(self:YF -> W0)(c:AC)(q:AA)(pos:Ξ)(ln:Nat)(lost:Ξ):W0:= self (.l1 0 0 0)
def Kn (c:AC)(q:AA)(pos:Ξ)(ln:Nat)(lost:Ξ):Nat -> YF -> W0
 | 0,_=>none
 | n+1,.l1 D I d=>YE n (Kn c q pos ln lost n) c q pos ln lost D I d
 | n+1,.l2 D I Q o1=>fD n (Kn c q pos ln lost n) c q pos ln lost D I Q o1
def UL (n:Nat)(c:AC)(q:AA)(pos:Ξ)(ln:Nat)(lost:Ξ):W0:=zN5 n (Kn c q pos ln lost n) c q pos ln lost
def zN6 (n B:Nat)(N:Yd 2)(c:AC)(q:AA)(pos:Ξ)(ln:Nat)(lost:Ξ)(r:Bool×Ξ):YF -> Prop:=px n B Fence.wide N (FQ Tryz.f107 2 (.bool r.1) [oW c q pos 1 ln,oI r.2]) (Ac Tryz.f107) λ
 | .l1 D I d=>(0,0,AH 140 [(0,.ref 0 0),(3,.i D),(4,.i I),(13,.ints c.ce),(14,.i (c.ce.length:Int)),(15,.i d)],[oW c q pos 1 ln,oI lost])
 | .l2 D I Q o1=>(0,3,AH 140 [(0,.ref 0 0),(3,.i D),(4,.i I),(76,.ints c.ce),(77,.i (c.ce.length:Int)),(78,.i Q)],[oW c q pos 1 ln,oI o1])
def zN7 (B:Nat)(N:Yd 2)(c:AC)(q:AA)(pos:Ξ)(ln:Nat)(lost:Ξ):Al (Kn c q pos ln lost) (zN6 · B N c q pos ln lost):=ia (λ_=>rfl) λn w a r h=>by
 cases a
 case l1 x3 x4 Aq=>
  intro m k;refine rd k λm k=>?_
  revert r;apply gO;exact bi 16 (gc (gi (jg zEK (gn λp=>jg p (bi 33 (gc (gw 35 (gc (gw 37 (gw 55 (lG Ga [0,1] (w _ _ · m k))))))) (jg zEJ (jg p (bi 52 (gc (gw 54 (gw 55 (lG Ga [0,1] (w _ _ · m k))))) (gw 55 (lG Ga [0,1] (w _ _ · m k))))))))))) (bi 62 (lE Ga [2] [0,1]) (bi 70 (lE Ga [2] [0,1]) (lN Ga [0,1] (w _ _ · n Nat.le.refl))))
 case l2 x3 x4 CO o1=>
  intro m k;refine rd k λm k=>?_
  revert r;apply gO;exact bi 79 (gi (jg zEL (bi 88 (gn λp=>jg p (bi 103 (ce G8 [0,1] [oW c q pos 1 ln,oI o1] λe=>jg iY (bi 119 (jg p (bi 134 (ce OK [0,1] [oW c q pos 1 ln,oI e] λ_=>gw 139 (lG Ga [0,1] (w _ _ · m k))) (gw 139 (lG Ga [0,1] (w _ _ · m k))))) (gw 139 (lG Ga [0,1] (w _ _ · m k))))) (jg iY (bi 119 (jg p (bi 134 (ce OK [0,1] [oW c q pos 1 ln,oI o1] λ_=>gw 139 (lG Ga [0,1] (w _ _ · m k))) (gw 139 (lG Ga [0,1] (w _ _ · m k))))) (gw 139 (lG Ga [0,1] (w _ _ · m k))))))) (jg iY (bi 119 (gi (bi 134 (ce OK [0,1] [oW c q pos 1 ln,oI o1] λ_=>gw 139 (lG Ga [0,1] (w _ _ · m k))) (gw 139 (lG Ga [0,1] (w _ _ · m k))))) (gw 139 (lG Ga [0,1] (w _ _ · m k)))))))) (lE Ga [2] [0,1])
def zN4 {r:Bool×Ξ}(h:UL n c q pos ln lost=some r):EQ 107 [.ref 0 0] [oW c q pos 1 ln,oI lost] (.bool r.1) [oW c q pos 1 ln,oI r.2] false:=by
 refine ot Tryz.func107 λB N=>?_
 revert r;apply gO;exact lN Ga [0,1] ((zN7 B N c q pos ln lost n) _ _ · n Nat.le.refl)
end
section
set_option maxRecDepth 100000
set_option maxHeartbeats 40000000
def zBu (n:Nat)(A6:Int):Option Unit:= some ()
def zBv (n:Nat)(s:Int):Option Unit:=zBu n s
variable {n:Nat}
def zBt (s:Int){r:Unit}(h:zBv n s=some r):EQ 123 [.i s] [] (.fn 133 1 (L1 [.ref 0 0])) [oC [.i s]] true:=by
 refine ot Tryz.func123 λB N=>?_
 revert r;apply gO;exact lE AD [2] [0]
def MB {x:Int}(d:0<=x/\ x<9223372036854775808)(h:DH):EQ 123 [.i x] h (.it h.length) (h++[some (.iter ((BY x).map Br))]) true:=by
 refine ES.iterOf (zBt (n:=0) x (r:=()) rfl) rfl Z5 (λargs W=>?_) (λw b o u a e c f j=>zBr d w b o u a e c f j) rfl (λb c=>?_) h
 ·exact Jd Tryz.func133 Z5 Z5 args W
 ·rw [c];decide
def qq:ST:=.rd 0 (.rd 1 (.rd 2 (.rd 3 (.rd 4 (.rd 5 (.rd 6 (.rd 7 (.rd 8 (.rd 9 (.rd 10 (.rd 11 (.rd 12 (.rd 13 (.rd 14 (.rd 15 (.rd 16 (.rd 17 (.rd 18 (.rd 19 (.ef 20 (.ef 21 (.fin [] [4,5]) (.no)) (.no)))))))))))))))))))))
def zEH:B2 (A0 Tryz.f122 4) [20] qq:=Z1
def qp:ST:=.rd 0 (.rd 1 (.ef 2 (.ef 3 (.fin [] [4,5]) (.no)) (.no)))
def zEG:B2 (A0 Tryz.f122 5) [2] qp:=Z1
def Zj:BF:=λi=>match i with
 | 4=>.tre [20] qq
 | 5=>.tre [2] qp
 | _=>.no
def zLS (c:AC)(q:AA)(pos:Ξ)(ln:Nat)(lost:Ξ):DH:=[oW c q pos 1 ln,oI lost,oC [.ref 0 0],oC [.i 100],oC [.i (-1)]]
def zLR (c:AC)(q:AA)(pos:Ξ)(ln:Nat)(lost:Ξ)(ss:Int):DH:=[oW c q pos 1 ln,oI lost,oC [.ref 0 0],oC [.i 100],oC [.i (-1)],some (.iter ((BY ss).map Br))]
def qQ (c:AC)(q:AA)(pos:Ξ)(ln:Nat)(lost:Ξ)(a b:Int):St:=⟨(AH 32 [(4,.ref 3 0),(5,.ref 4 0)]),([oW c q pos 1 ln,oI lost,oC [.ref 0 0],oC [.i a],oC [.i b],none]:DH)⟩
def zLQ (c:AC)(q:AA)(pos:Ξ)(ln:Nat)(lost:Ξ)(C D:Int):DH:=[oW c q pos 1 ln,oI lost,oC [.ref 0 0],oC [.i C],oC [.i D],none]
def qP (c:AC)(q:AA)(pos:Ξ)(ln:Nat)(lost:Ξ)(I C D:Int):St:=⟨(AH 32 [(4,.ref 3 0),(5,.ref 4 0)]),([oW c q pos 1 ln,oI lost,oC [.ref 0 0],oC [.i (if (q.va.getD I.toNat 0)<C then (q.va.getD I.toNat 0) else C)],oC [.i (if (q.va.getD I.toNat 0)>D then (q.va.getD I.toNat 0) else D)],none]:DH)⟩
inductive O5 where
 | s0 (G5 Gz:Int)
def zO (c:AC)(q:AA)(pos:Ξ)(ln:Nat)(lost:Ξ):O5 -> DH
 | .s0 C D=>[oW c q pos 1 ln,oI lost,oC [.ref 0 0],oC [.i C],oC [.i D],none]
def zN (n:Nat)(c:AC)(q:AA)(pos:Ξ)(ln:Nat)(lost:Ξ)(I:Int)(C D:Int):Option O5:= if 0<=I/\ I<(q.va.length:Int) then some (.s0 (if (q.va.getD I.toNat 0)<C then (q.va.getD I.toNat 0) else C) (if (q.va.getD I.toNat 0)>D then (q.va.getD I.toNat 0) else D)) else none
def zM (n:Nat)(c:AC)(q:AA)(pos:Ξ)(ln:Nat)(lost:Ξ)(I:Int):O5 -> Option O5
 | .s0 C D=>zN n c q pos ln lost I C D
def Xt (n:Nat)(c:AC)(q:AA)(pos:Ξ)(ln:Nat)(lost:Ξ)(I:Int)(s:O5):Option O5:=zM n c q pos ln lost I s
def zNc (n:Nat)(c:AC)(q:AA)(pos:Ξ)(ln:Nat)(lost:Ξ)(l B:Nat)(N:Yd 6)(I:Int)(s:O5)(r:O5)(h:Xt n c q pos ln lost I s=some r):TA l B N (Cx 6 [] 0 (zO c q pos ln lost r)) Tryz.f122 8 ⟨AH 32 [(2,.ref 2 0),(4,.ref 3 0),(5,.ref 4 0),(8,.it 5),(9,.i I)],zO c q pos ln lost s⟩:=by
 cases s with
 | s0 C D=>
  refine ag Zj [0,1,2,3,4,5] H0 (AH 32 [(2,.ref 2 0),(4,.ref 3 0),(5,.ref 4 0),(6,.i I)]) (zLQ c q pos ln lost C D) λN=>?_
  revert r;apply gO;exact jg zEH (gn λJ=>jg J (jg J (jt (jt (jg (Eq.refl (qP c q pos ln lost I C D)) (lF λp=>rr (tg:=[([(20,3)],(qP c q pos ln lost I C D))]) Zj [0,1,2,3,4,5] rfl p))))))
def zL (n:Nat)(ss:Int)(c:AC)(q:AA)(pos:Ξ)(ln:Nat)(lost:Ξ):Option (Int×Int×Ξ):=
 if 0<=ss/\ ss<9223372036854775808 then
  (CK (Xt n c q pos ln lost) (BY ss) (.s0 100 (-1))).bind λe=>
   match e with
   | .s0 a b=>
    some (a,b,lost)
 else none
def Xu (n:Nat)(ss:Int)(c:AC)(q:AA)(pos:Ξ)(ln:Nat)(lost:Ξ):Option (Int×Int×Ξ):=zL n ss c q pos ln lost
variable {lost pos:Ξ}{ln:Nat}{q:AA}{c:AC}
def UE {ss:Int}{r:Int×Int×Ξ}(h:Xu n ss c q pos ln lost=some r):EQ 122 [.ref 0 0,.i ss] [oW c q pos 1 ln,oI lost] (.tup 2 (L1 [.i r.1,.i r.2.1])) [oW c q pos 1 ln,oI r.2.2] false:=by
 refine ot Tryz.func122 λB N=>?_
 revert r;apply gO
 exact jt (jt (gn λW=>jc (MB W (zLS c q pos ln lost)) (cn λe d=>λp r h=>by
  refine gs Zj [0,1,2,3,4,5] p (HI (Ac Tryz.f122) 8 []) (AH 32 [(2,.ref 2 0),(4,.ref 3 0),(5,.ref 4 0),(8,.it 5)]) (zLR c q pos ln lost ss) ?_;refine r0 5 8 #[9] Br 6 d (zNc n c q pos ln lost) ?_;cases e with
  | s0 a b=>
   dsimp only at h
   revert r;apply gO;exact jg zEG (jt (jt (jg (Eq.refl (qQ c q pos ln lost a b)) (lE (tg:=[([(2,3)],(qQ c q pos ln lost a b))]) Zj [4,5] [0,1,3,4])))))))
def qW:ST:=.rd 0 (.rd 1 (.rd 2 (.rd 3 (.rd 4 (.rd 5 (.rd 6 (.rd 7 (.ef 8 (.rd 9 (.rd 10 (.rd 11 (.rd 12 (.rd 13 (.fin [] [1,3,4,7,8,19,20,21,90])))))) (.no)))))))))
def zDB:B2 (A0 Tryz.f108 5) [] qW:=Z1
def qV:ST:=.rd 0 (.rd 1 (.rd 2 (.rd 3 (.rd 4 (.rd 5 (.ef 6 (.ef 7 (.fin [] [1,3,4,19,20,21,90]) (.no)) (.no)))))))
def zDA:B2 (A0 Tryz.f108 6) [6] qV:=Z1
def zC9:Ae (A0 Tryz.f108 8) [] (List.range 16) []:=Z0
def qY:ST:=.rd 0 (.rd 1 (.rd 2 (.rd 3 (.rd 4 (.rd 5 (.rd 6 (.rd 7 (.ef 8 (.rd 9 (.rd 10 (.rd 11 (.ef 12 (.ef 13 (.ef 14 (.ef 15 (.fin [0,1] [1,3,4,10,11,12,64,65,66,90]) (.no)) (.no)) (.no)) (.ef 13 (.ef 12 (.ef 14 (.ef 15 (.fin [1,0] [1,3,4,10,11,12,64,65,66,90]) (.no)) (.no)) (.no)) (.no)))))) (.ef 12 (.ef 8 (.rd 9 (.rd 10 (.rd 11 (.ef 13 (.ef 14 (.ef 15 (.fin [0,1] [1,3,4,10,11,12,64,65,66,90]) (.no)) (.no)) (.no))))) (.ef 13 (.ef 8 (.rd 9 (.rd 10 (.rd 11 (.ef 14 (.ef 15 (.fin [0,1] [1,3,4,10,11,12,64,65,66,90]) (.no)) (.no))))) (.no)) (.no))) (.ef 13 (.ef 8 (.rd 9 (.rd 10 (.rd 11 (.ef 12 (.ef 14 (.ef 15 (.fin [1,0] [1,3,4,10,11,12,64,65,66,90]) (.no)) (.no)) (.no))))) (.ef 12 (.ef 8 (.rd 9 (.rd 10 (.rd 11 (.ef 14 (.ef 15 (.fin [1,0] [1,3,4,10,11,12,64,65,66,90]) (.no)) (.no))))) (.no)) (.no))) (.no)))))))))))
def zDE:B2 (A0 Tryz.f108 13) [12,13,14] qY:=Z1
def zDD:Ae (A0 Tryz.f108 14) [([0,1,2,3,4,5,6],7)] [] []:=Z0
def zDC:Ae (A0 Tryz.f108 17) [] (List.range 24) []:=Z0
def qX:ST:=.rd 0 (.rd 1 (.rd 2 (.rd 3 (.ef 4 (.fin [] [2]) (.no)))))
def sJ:B2 (A0 Tryz.f108 18) [] qX:=Z1
def I7:BF:=λi=>match i with
 | 5=>.tre [] qW
 | 6=>.tre [6] qV
 | 8=>.ord [] (List.range 16) []
 | 13=>.tre [12,13,14] qY
 | 14=>.ord [([0,1,2,3,4,5,6],7)] [] []
 | 17=>.ord [] (List.range 24) []
 | 18=>.tre [] qX
 | _=>.no
def zKV (c:AC)(q:AA)(pos:Ξ)(ln:Nat)(o1:Ξ)(L a:Int):DH:=[oW c q pos 1 ln,oI o1,oC [.ref 0 0],oC [.i L],oC [.i a]]
def p8 (e:Int×Int×Ξ)(c:AC)(x21:Int)(q:AA)(pos:Ξ)(ln:Nat)(L a:Int):St:=⟨(AH 129 [(1,.ref 2 0),(3,.ref 3 0),(4,.ref 4 0),(7,.i e.1),(8,.i e.2.1),(19,.ints c.ce),(20,.i (c.ce.length:Int)),(21,.i x21)]),([oW c q pos 1 ln,oI e.2.2,oC [.ref 0 0],oC [.i L],oC [.i a]]:DH)⟩
def p7 (c:AC)(x21:Int)(q:AA)(pos:Ξ)(ln:Nat)(e:Int×Int×Ξ)(L a:Int):St:=⟨(AH 129 [(1,.ref 2 0),(3,.ref 3 0),(4,.ref 4 0),(19,.ints c.ce),(20,.i (c.ce.length:Int)),(21,.i x21)]),([oW c q pos 1 ln,oI e.2.2,oC [.ref 0 0],oC [.i (L+e.1)],oC [.i (a+e.2.1)]]:DH)⟩
def zKU (c:AC)(q:AA)(pos:Ξ)(ln:Nat)(o1:Ξ)(L a Z:Int):DH:=[oW c q pos 1 ln,oI o1,oC [.ref 0 0],oC [.i L],oC [.i a],oC [.i (c.ce.getD Z.toNat 0)]]
def PW (c:AC)(Z:Int)(q:AA)(pos:Ξ)(ln:Nat)(e:Int×Int×Ξ)(L a:Int):St:=⟨(AH 129 [(1,.ref 2 0),(3,.ref 3 0),(4,.ref 4 0),(10,.ref 5 0),(11,.ref 6 0),(12,.ref 7 0),(64,.ints c.ce),(65,.i (c.ce.length:Int)),(66,.i Z)]),([oW c q pos 1 ln,oI e.2.2,oC [.ref 0 0],oC [.i L],oC [.i a],oC [.i (c.ce.getD Z.toNat 0)],oC [.i e.1],oC [.i e.2.1]]:DH)⟩
def xP (c:AC)(q:AA)(pos:Ξ)(ln:Nat)(o1:Ξ)(L a Z:Int):DH:=[oW c q pos 1 ln,oI o1,oC [.ref 0 0],oC [.i L],oC [.i a],oC [.i (c.ce.getD Z.toNat 0)],oC [.i 0]]
def xO (c:AC)(q:AA)(pos:Ξ)(ln:Nat)(o1:Ξ)(L a Z:Int):DH:=[oW c q pos 1 ln,oI o1,oC [.ref 0 0],oC [.i L],oC [.i a],oC [.i (c.ce.getD Z.toNat 0)],oC [.i 0],oC [.i 0]]
def zKT (c:AC)(q:AA)(pos:Ξ)(ln:Nat)(e:Int×Int×Ξ)(L a Z:Int):DH:=[oW c q pos 1 ln,oI e.2.2,oC [.ref 0 0],oC [.i L],oC [.i a],oC [.i (c.ce.getD Z.toNat 0)],oC [.i e.1],oC [.i e.2.1]]
def zKS (c:AC)(q:AA)(pos:Ξ)(ln:Nat)(e:Int×Int×Ξ)(L a Z:Int):DH:=[oW c q pos 1 ln,oI e.2.2,oC [.ref 0 0],oC [.i L],oC [.i a],oC [.i (c.ce.getD Z.toNat 0)],oC [.i e.1],oC [.i e.2.1],some (.iter ((BY (pos.getD ((c.ce.getD Z.toNat 0).toNat) 0)).map Br))]
def lx (c:AC)(q:AA)(pos:Ξ)(ln:Nat)(P:Ξ)(L a Z:Int)(e:Int×Int×Ξ):DH:=[oW c q pos 1 ln,oI P,oC [.ref 0 0],oC [.i L],oC [.i a],oC [.i (c.ce.getD Z.toNat 0)],oC [.i e.1],oC [.i e.2.1],none]
def ZJ (c:AC)(q:AA)(pos:Ξ)(ln:Nat)(a:Ξ)(L b Z:Int)(e:Int×Int×Ξ):St:=⟨(AH 129 []),([oW c q pos 1 ln,oI a,oC [.ref 0 0],oC [.i L],oC [.i b],oC [.i (c.ce.getD Z.toNat 0)],oC [.i e.1],oC [.i e.2.1],none]:DH)⟩
inductive MC where
 | s0 (Hb:Ξ)
def qw (c:AC)(Z:Int)(q:AA)(pos:Ξ)(ln:Nat)(L a:Int)(e:Int×Int×Ξ):MC -> DH
 | .s0 P=>[oW c q pos 1 ln,oI P,oC [.ref 0 0],oC [.i L],oC [.i a],oC [.i (c.ce.getD Z.toNat 0)],oC [.i e.1],oC [.i e.2.1],none]
def ZP (n:Nat)(c:AC)(Z:Int)(q:AA)(pos:Ξ)(ln:Nat)(L i:Int)(e:Int×Int×Ξ)(R:Int)(P:Ξ):Option MC:= if (0<=R/\ R<(q.va.length:Int))/\ AG (L-e.1)/\ AG ((L-e.1)+(q.va.getD R.toNat 0)) then bif (decide (((L-e.1)+(q.va.getD R.toNat 0))>c.hi)) then if 0<=R/\ R<=(IntKind.i64.bits:Int) then (D5 n (c.ce.getD Z.toNat 0) (IntKind.i64.wrap (1*2 ^ (R).toNat)) c q pos ln P).bind λa=> some (.s0 a) else none else if AG (i-e.2.1)/\ AG ((i-e.2.1)+(q.va.getD R.toNat 0)) then bif (decide (((i-e.2.1)+(q.va.getD R.toNat 0))<c.lo)) then if 0<=R/\ R<=(IntKind.i64.bits:Int) then (D5 n (c.ce.getD Z.toNat 0) (IntKind.i64.wrap (1*2 ^ (R).toNat)) c q pos ln P).bind λa=> some (.s0 a) else none else some (.s0 P) else none else none
def qv (n:Nat)(c:AC)(Z:Int)(q:AA)(pos:Ξ)(ln:Nat)(L i:Int)(e:Int×Int×Ξ)(R:Int):MC -> Option MC
 | .s0 P=>ZP n c Z q pos ln L i e R P
def ZQ (n:Nat)(c:AC)(Z:Int)(q:AA)(pos:Ξ)(ln:Nat)(L i:Int)(e:Int×Int×Ξ)(R:Int)(s:MC):Option MC:=qv n c Z q pos ln L i e R s
def zB2 (n:Nat)(c:AC)(Z:Int)(q:AA)(pos:Ξ)(ln:Nat)(L a:Int)(e:Int×Int×Ξ)(l B:Nat)(N:Yd 9)(R:Int)(s:MC)(r:MC)(h:ZQ n c Z q pos ln L a e R s=some r):TA l B N (Cx 9 [] 0 (qw c Z q pos ln L a e r)) Tryz.f108 89 ⟨AH 129 [(1,.ref 2 0),(3,.ref 3 0),(4,.ref 4 0),(10,.ref 5 0),(11,.ref 6 0),(12,.ref 7 0),(64,.ints c.ce),(65,.i (c.ce.length:Int)),(66,.i Z),(89,.it 8),(90,.i R)],qw c Z q pos ln L a e s⟩:=by
 cases s with
 | s0 P=>
  replace h:ZP n c Z q pos ln L a e R P=some r:=h;unfold ZP at h;refine ag I7 [0,1,2,3,4,5,6,7,8] H0 (AH 129 [(1,.ref 2 0),(3,.ref 3 0),(4,.ref 4 0),(10,.ref 5 0),(11,.ref 6 0),(12,.ref 7 0),(13,.i R)]) (lx c q pos ln P L a Z e) λN=>?_
  revert r;apply gO;exact gc (gi (jg zDC (gc (gw 101 (gw 103 (bi 109 (jg sJ (gi (ce G8 [0,1] (lx c q pos ln P L a Z e) λb=>jg (Eq.refl (ZJ c q pos ln b L a Z e)) (lF λp=>rr (tg:=[([],(ZJ c q pos ln b L a Z e))]) I7 [0,1,2,3,4,5,6,7,8] rfl p)))) (gc (gw 113 (gw 115 (bi 121 (jg sJ (gi (ce G8 [0,1] (lx c q pos ln P L a Z e) λb=>jg (Eq.refl (ZJ c q pos ln b L a Z e)) (lF λp=>rr (tg:=[([],(ZJ c q pos ln b L a Z e))]) I7 [0,1,2,3,4,5,6,7,8] rfl p)))) (lF λp=>rr I7 [0,1,2,3,4,5,6,7,8] rfl p)))))))))))
inductive U6 where
 | l1 (x21:Int) (o1:Ξ) (Af Aw:Int)
 | l2 (At:Int) (o1:Ξ) (Af Aw:Int)
def U5 (n:Nat)(self:U6 -> W0)(c:AC)(q:AA)(pos:Ξ)(ln:Nat)(lost:Ξ)(x21:Int)(o1:Ξ)(L i:Int):W0:= bif (decide (x21<(c.ce.length:Int))) then if (0<=x21/\ x21<(c.ce.length:Int))/\ (0<=(c.ce.getD x21.toNat 0)/\ (c.ce.getD x21.toNat 0)<(pos.length:Int)) then (Xu n (pos.getD ((c.ce.getD x21.toNat 0).toNat) 0) c q pos ln o1).bind λe=> if AG (L+e.1)/\ AG (i+e.2.1)/\ AG (x21+1) then self (.l1 (x21+1) e.2.2 (L+e.1) (i+e.2.1)) else none else none else bif (decide (L>c.hi)) then some (false,o1) else bif (decide (i<c.lo)) then some (false,o1) else self (.l2 0 o1 L i)
def ZO (n:Nat)(self:U6 -> W0)(c:AC)(q:AA)(pos:Ξ)(ln:Nat)(lost:Ξ)(Z:Int)(o1:Ξ)(L i:Int):W0:=
 bif (decide (Z<(c.ce.length:Int))) then
  if (0<=Z/\ Z<(c.ce.length:Int))/\ (0<=(c.ce.getD Z.toNat 0)/\ (c.ce.getD Z.toNat 0)<(pos.length:Int)) then
   (Xu n (pos.getD ((c.ce.getD Z.toNat 0).toNat) 0) c q pos ln o1).bind λe=>
    if 0<=(pos.getD ((c.ce.getD Z.toNat 0).toNat) 0)/\ (pos.getD ((c.ce.getD Z.toNat 0).toNat) 0)<9223372036854775808 then
     (CK (ZQ n c Z q pos ln L i e) (BY (pos.getD ((c.ce.getD Z.toNat 0).toNat) 0)) (.s0 e.2.2)).bind λx=>
      match x with
      | .s0 a=>
       if AG (Z+1) then
        self (.l2 (Z+1) a L i)
       else none
    else none
  else none
 else
  some (true,o1)
def zB1 (n:Nat)(self:U6 -> W0)(c:AC)(q:AA)(pos:Ξ)(ln:Nat)(lost:Ξ):W0:= self (.l1 0 lost 0 0)
def Jt (c:AC)(q:AA)(pos:Ξ)(ln:Nat)(lost:Ξ):Nat -> U6 -> W0
 | 0,_=>none
 | n+1,.l1 x21 o1 L i=>U5 n (Jt c q pos ln lost n) c q pos ln lost x21 o1 L i
 | n+1,.l2 Z o1 L i=>ZO n (Jt c q pos ln lost n) c q pos ln lost Z o1 L i
def SD (n:Nat)(c:AC)(q:AA)(pos:Ξ)(ln:Nat)(lost:Ξ):W0:=zB1 n (Jt c q pos ln lost n) c q pos ln lost
def zB3 (n B:Nat)(N:Yd 2)(c:AC)(q:AA)(pos:Ξ)(ln:Nat)(lost:Ξ)(r:Bool×Ξ):U6 -> Prop:=px n B Fence.wide N (FQ Tryz.f108 2 (.bool r.1) [oW c q pos 1 ln,oI r.2]) (Ac Tryz.f108) λ
 | .l1 x21 o1 L a=>(0,0,AH 129 [(1,.ref 2 0),(3,.ref 3 0),(4,.ref 4 0),(19,.ints c.ce),(20,.i (c.ce.length:Int)),(21,.i x21)],[oW c q pos 1 ln,oI o1,oC [.ref 0 0],oC [.i L],oC [.i a]])
 | .l2 Z o1 L a=>(0,2,AH 129 [(1,.ref 2 0),(3,.ref 3 0),(4,.ref 4 0),(64,.ints c.ce),(65,.i (c.ce.length:Int)),(66,.i Z)],[oW c q pos 1 ln,oI o1,oC [.ref 0 0],oC [.i L],oC [.i a]])
def zB4 (B:Nat)(N:Yd 2)(c:AC)(q:AA)(pos:Ξ)(ln:Nat)(lost:Ξ):Al (Jt c q pos ln lost) (zB3 · B N c q pos ln lost):=ia (λ_=>rfl) λn w d r h=>by
 cases d
 case l1 x21 o1 Af Aw=>
  intro m k;refine rd k λm k=>?_
  revert r;apply gO;exact bi 22 (gc (gi (jg zDB (gi (ce UE [0,1] (zKV c q pos ln o1 Af Aw) λe=>jg (Eq.refl (p8 e c x21 q pos ln Af Aw)) (jg zDA (gc (gw 39 (gc (gw 42 (jt (jt (jg (Eq.refl (p7 c x21 q pos ln e Af Aw)) (gw 43 (lG (tg:=[([],(p8 e c x21 q pos ln Af Aw)),([(6,3)],(p7 c x21 q pos ln e Af Aw))]) I7 [0,1,2,3,4] (w _ _ · m k)))))))))))))))) (jg zC9 (bi 50 (lE I7 [2] [0,1]) (bi 58 (lE I7 [2] [0,1]) (lN I7 [0,1,2,3,4] (w _ _ · n Nat.le.refl)))))
 case l2 At o1 Af Aw=>
  intro m k;refine rd k λm k=>?_
  revert r;apply gO
  exact bi 67 (gc (gi (jt (jg zDE (gn λb=>jg b (cn λe a=>jc (em (UE a) [0,1] (zKU c q pos ln o1 Af Aw At)) (jt (jt (jg (Eq.refl (PW c At q pos ln e Af Aw)) (jt (jt (jg (Eq.refl (PW c At q pos ln e Af Aw)) (jc (em (UE a) [0,1] (xP c q pos ln o1 Af Aw At)) (jt (jt (jg (Eq.refl (PW c At q pos ln e Af Aw)) (jc (em (UE a) [0,1] (xO c q pos ln o1 Af Aw At)) (jt (jt (jg (Eq.refl (PW c At q pos ln e Af Aw)) (jc (em (UE a) [0,1] (xP c q pos ln o1 Af Aw At)) (jt (jt (jg (Eq.refl (PW c At q pos ln e Af Aw)) (jc (em (UE a) [0,1] (xO c q pos ln o1 Af Aw At)) (jt (jt (jg (Eq.refl (PW c At q pos ln e Af Aw)) (jg zDD (jg b (gn λf=>jc (MB f (zKT c q pos ln e Af Aw At)) (cn λx A=>λp r h=>by
   refine gs (tg:=[([],(PW c At q pos ln e Af Aw))]) I7 [0,1,2,3,4,5,6,7,8] p (HI (Ac Tryz.f108) 89 [m]) (AH 129 [(1,.ref 2 0),(3,.ref 3 0),(4,.ref 4 0),(10,.ref 5 0),(11,.ref 6 0),(12,.ref 7 0),(64,.ints c.ce),(65,.i (c.ce.length:Int)),(66,.i At),(89,.it 8)]) (zKS c q pos ln e Af Aw At) ?_;refine r0 8 89 #[90] Br 9 A (zB2 n c At q pos ln Af Aw e) ?_;cases x with
   | s0 Ez=>
    dsimp only at h
    revert r;apply gO;exact gw 128 (lG I7 [0,1,2,3,4] (w _ _ · m k)))))))))))))))))))))))))))))))))) (lE I7 [2] [0,1])
def zB0 {r:Bool×Ξ}(h:SD n c q pos ln lost=some r):EQ 108 [.ref 0 0] [oW c q pos 1 ln,oI lost] (.bool r.1) [oW c q pos 1 ln,oI r.2] false:=by
 refine ot Tryz.func108 λB N=>?_
 revert r;apply gO;exact jt (jt (lN I7 [0,1,2,3,4] ((zB4 B N c q pos ln lost n) _ _ · n Nat.le.refl)))
end
end Go.Proofs.YtodinaconebmdaaGreatDoor
