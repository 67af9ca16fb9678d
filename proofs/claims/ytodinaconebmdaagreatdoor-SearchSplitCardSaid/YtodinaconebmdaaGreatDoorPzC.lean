/- Part 3 of 8 of what the proofs of these laws stand on. -/
import Derived.Test.YtodinaconebmdaaGreatDoorPzB
import Derived.LoopIn
set_option linter.all false
namespace Go.Proofs.YtodinaconebmdaaGreatDoor
open Go.RowKit
abbrev zIT:=@of_decide_eq_true
abbrev zMm:=@List.getElem?_take
abbrev zM6:=@List.drop_length
section
section
variable {P:Program} {Γ:Au}
variable {A B:World}{ρ:List AI}{h:DH}{x G:Ψ}
def Aq.foreign {d:Ψ}(H:Aq P Γ d h ρ A)(q:AQ G A B)(r: ∀ b,G b -> d b/\ Γ.ng<=b)(X: ∀ b,x b -> d b∨A.heap.size<=b)(a: ∀ b,x b -> b<B.heap.size/\ Γ.ng<=b):Aq P Γ x h ρ B:=by
 have O:BQ (MS d h ρ) A ρ (MS x h ρ) B ρ:=⟨λb f v _=>q.block b f λe=>v (.inl (r b e).1),λb a=>a.elim (λh=>(X b h).imp .inl id) (λh=>.inl (.inr h)),λ_ _ h=>h⟩;refine ⟨H.len,λk o hk=>?_,λk o p b m n s=>?_,H.dis,a,Γ.st _ _ H.gi (q.mono λi _ e=>(r i e).2)⟩
 ·obtain ⟨p,g,u⟩:=H.obj k o hk;exact ⟨p,g,u.out O q (λb a=>.inl (r b a).1) λb _ M w=>(H.cel k o p b hk g M).2.1 (r b w).1⟩
 ·obtain ⟨y,j,c,t,z,l⟩:=H.cel k o p b m n s;have f:=(zGI.1 l).1;exact ⟨y,λC=>(X b C).elim j (by omega),c,t,z,(q.block b f λe=>j (r b e).1).trans l⟩
def BQ.foreign {r:Ψ}(q:AQ G A B)(a: ∀ b,G b -> r b/\ Γ.ng<=b)(X: ∀ b,x b -> r b∨A.heap.size<=b):BQ (MS r h ρ) A ρ (MS x h ρ) B ρ:=
 ⟨λb p v _=>q.block b p λe=>v (.inl (a b e).1),λb c=>c.elim (λh=>(X b h).imp .inl id) (λh=>.inl (.inr h)),λ_ _ h=>h⟩
def Iw (fr:List DV)(V:List Tmp)(x:List DV):List DV:=(V.zip x).foldl (λt q=>t.set q.1 q.2) fr
variable {w:World}{M:Ψ}
def oq : ∀ (V:List Tmp) (x:List DV) (v:List Value) {fr:List DV} {t:Array Value},x.length=v.length -> (∀ j,j<x.length -> AJ M w (x.getD j .any) ρ (v.getD j undef)) -> BE M w ρ fr t ->
 BE M w ρ (Iw fr V x) ((V.zip v).foldl (λt (q:Tmp×Value)=>t.setIfInBounds q.1 q.2) t)
 | [],_,_,_,_,_,_,h=>h
 | _::_,[],[],_,_,_,_,h=>h
 | p::V,d::x,u::v,_,_,m,e,h=>oq V x v (Nat.succ.inj m) (λj a=>e (j+1) (Nat.succ_lt_succ a)) (h.set p (e 0 (Nat.succ_pos _)))
variable {W:World}{R:Ψ}
def YV.rep {ds:List DV}{args:Array Value}(h:YV ds R W args)(Y: ∀ b,M b -> b<W.heap.size/\ ¬ R b)(ρ:List AI): ∀ j,j<ds.length -> AJ M W (ds.getD j .any) ρ (args.toList.getD j undef):=λj d=>by
 have e:args.toList.getD j undef=args.getD j undef:=by simp_all
 rw [e];exact (h.2 j d).out _ ⟨λ_ _ _ _=>rfl,λb c=>.inl (Y b c),λk p hk=>by simp at hk⟩
def C5 (K:Nat):DV -> Bool
 | .ref k _=>decide (k<K)
 | .msl k _ _ _=>decide (k<K)
 | .mse k _ _ _=>decide (k<K)
 | .mri k _=>decide (k<K)
 | .mp k _ _ _=>decide (k<K)
 | .it k=>decide (k<K)
 | .agg m f=>(List.range m).all λj=>C5 K (f j)
 | .tup m f=>(List.range m).all λj=>C5 K (f j)
 | .fn _ m f=>(List.range m).all λj=>C5 K (f j)
 | _=>true
variable {K:Nat}
def TC {α:Type}{l:List α}{k:Nat}{x:α}(hk:k<K)(h:l[k]? =some x):(l.take K)[k]? =some x:=by grind
def AJ.take : ∀ (d:DV) {ρ:List AI} {v:Value},C5 K d=true -> AJ M w d ρ v -> AJ M w d (ρ.take K) v:=by
 intro d
 induction d with
 | ref k j=>rintro ρ v c ⟨p,h,e⟩;exact ⟨p,TC (zIT c) h,e⟩
 | msl k m off n=>rintro ρ v c ⟨p,cap,h,e⟩;exact ⟨p,cap,TC (zIT c) h,e⟩
 | mp k m i j=>rintro ρ v c ⟨p,h,e⟩;exact ⟨p,TC (zIT c) h,e⟩
 | it k=>rintro ρ v c ⟨p,h,e⟩;exact ⟨p,TC (zIT c) h,e⟩
 | agg m f U=>
  rintro ρ v c ⟨cs,e,q,h⟩;exact ⟨cs,e,q,λj o=>let ⟨u,r,t⟩:=h j o;⟨u,r,U j (zGL.1 c j (zGQ.2 o)) t⟩⟩
 | tup m f U=>
  rintro ρ v c ⟨cs,e,q,h⟩;exact ⟨cs,e,q,λj o=>let ⟨u,r,t⟩:=h j o;⟨u,r,U j (zGL.1 c j (zGQ.2 o)) t⟩⟩
 | fn g m f U=>
  rintro ρ v c ⟨cs,e,q,h⟩;exact ⟨cs,e,q,λj o=>let ⟨u,r,t⟩:=h j o;⟨u,r,U j (zGL.1 c j (zGQ.2 o)) t⟩⟩
 | yl l=>rintro ρ v _ h;exact h
 | cst u=>rintro ρ v _ h;exact h
 | mse k m off n=>rintro ρ v c ⟨p,a,cap,h,e⟩;exact ⟨p,a,cap,TC (zIT c) h,e⟩
 | mri k i=>rintro ρ v c ⟨p,vs,h,e⟩;exact ⟨p,vs,TC (zIT c) h,e⟩
 | any=>rintro ρ v _ h;trivial
 | nils=>rintro ρ v _ h;exact h
 | int k n=>rintro ρ v _ h;exact h
 | bool b=>rintro ρ v _ h;exact h
 | str s=>rintro ρ v _ h;exact h
 | ints l=>rintro ρ v _ h;exact h
 | bools l=>rintro ρ v _ h;exact h
 | sl m n f=>rintro ρ v _ h;exact h
 | fp m f=>rintro ρ v _ h;exact h
variable {fr:List DV}
def BE.take {t:Array Value}(h:BE M w ρ fr t)(hb:fr.all (C5 K)=true):BE M w (ρ.take K) fr t:=by
 refine ⟨h.1,λi hi=>AJ.take _ ?_ (h.2 i hi)⟩
 grind
def BQ.weak {T:Ψ}{k:Ψ}{w':World}{ρ':List AI}(h:BQ T w ρ k w' ρ')(Y: ∀ b,T b -> M b):BQ M w ρ k w' ρ':=
 ⟨λb a u=>h.blk b a λe=>u (Y b e),λb c=>(h.m b c).imp (Y b) id,h.pl⟩
structure RI (K:Nat)(P:Program)(Γ:Au)(N:Ψ)(h0:DH)(ρ0:List AI)(w0:World)(G R:Ψ)(W:World)(h:DH)(ρ:List AI):Prop where
 hr:Aq P Γ (λb=>N b∨G b) h ρ W
 upd:AQ (MO h0 ρ0) w0 W
 grow: ∀ b,MO h ρ b -> MO h0 ρ0 b∨w0.heap.size<=b
 g: ∀ b,G b -> Γ.ng<=b/\ (MO h0 ρ0 b∨w0.heap.size<=b)
 r: ∀ b,R b -> ¬ N b/\ ¬ MO h ρ b
 kept:CA K ρ0 ρ
variable {w0:World}{ρ0:List AI}{h0:DH}{N:Ψ}
def RI.off (hR:RI K P Γ N h0 ρ0 w0 G R W h ρ): ∀ b,MO h ρ b -> b<W.heap.size/\ ¬ N b/\ ¬ (G b∨R b):=λb v=>by
 obtain ⟨k,o,p,i,a,m⟩:=id v;obtain ⟨_,t,c,_,_,d⟩:=hR.hr.cel k o p b i a m;exact ⟨(zGI.1 d).1,λh=>t (.inl h),λh=>h.elim (λh=>t (.inr h)) λh=>(hR.r b h).2 v⟩
def RI.stable (Co:Γ.ng<=w0.heap.size)(X: ∀ b,N b -> b<w0.heap.size/\ ¬ MO h0 ρ0 b):C0 λG R W=>RI K P Γ N h0 ρ0 w0 G R W h ρ:=λG R G' R' A B hR q j a _ _ c=>by
 have hs:w0.heap.size<=A.heap.size:=hR.upd.size;refine ⟨hR.hr.foreign q (λb hx=>⟨.inr hx,(hR.g b hx).1⟩) (λb hx=>?_) (λb hx=>?_),hR.upd.comp q λi hi hx=>(hR.g i hx).2.resolve_right (by omega),hR.grow,λb hx=>?_,λb hx=>?_,hR.kept⟩
 ·grind
 ·rcases hx with hx | hx
  ·exact ⟨zGS (hR.hr.nlt b (.inl hx)).1 q.size,(hR.hr.nlt b (.inl hx)).2⟩
  ·exact ⟨c b (.inl hx),(j b hx).elim (λh=>(hR.g b h).1) (λh=>by omega)⟩
 ·rcases j b hx with hx | hx
  ·exact hR.g b hx
  grind
 ·rcases a b hx with hx | hx | hx
  ·exact hR.r b hx
  ·exact ⟨λu=>(hR.g b hx).2.elim (X b u).2 (by have:=(X b u).1;omega),λv=>(hR.off b v).2.2 (.inl hx)⟩
  ·exact ⟨λu=>by have:=(X b u).1;omega,λv=>by have:=(hR.off b v).1;omega⟩
def RI.outl {s:Ψ}(R:RI K P Γ N h0 ρ0 w0 G s W h ρ):BQ (MS N h0 ρ0) w0 (ρ0.take K) (MS (λb=>N b∨G b) h ρ) W ρ:=
 ⟨λb a v _=>R.upd.block b a λc=>v (.inr c),λb hb=>by
  rcases hb with (hb | hb) | hb
  ·exact .inl (.inl hb)
  ·exact (R.g b hb).2.imp .inr id
  ·exact (R.grow b hb).imp .inr id,λk p hk=>by
  rw [zMm] at hk
  by_cases e:k<K
  ·rw [zEZ e] at hk;exact R.kept k p e hk
  ·rw [zGN e] at hk;cases hk⟩
def KN:Exit -> Option Code
 | .ret=>some .ret
 | .exit id=>some (.exit id)
 | _=>none
def Tp (L:Nat)(J:DH -> Prop)(X:Exit -> DH -> Prop)(e:Exit)(S:St):Prop:=∃ M,A8 L S M/\ ((e= .normal/\ J M.h)∨((KN e).isSome=true/\ X e M.h))
def mC (P:Program)(Γ:Au)(fr:List DV)(V:List Tmp)(I S:Code)(L:Nat)(J:Nat -> DH -> Prop)(X:Exit -> DH -> Prop)(encs:List (List DV)):Prop:= ∀ (l B:Nat) (Y:BL P Γ L) (i:Nat) (x:List DV) (h:DH),encs[i]? =some x -> J i h -> Tr P Γ (Fence.wide.inRound l) (some B) L Y I ⟨Iw fr V x,h⟩ (RM (λS' b=>b=Y/\ ∀ a:BL P Γ L,Tr P Γ (Fence.wide.inRound l) (some B) L a S S' (stay a (Tp L (J (i+1)) X))) (λ_ _ _=>False))
def xK (L:Nat)(J:DH -> Prop)(X:Exit -> DH -> Prop)(Q:List PanicEntry -> DH -> Prop)(e:Exit)(S:St):Prop:=Tp L J X e S∨∃ c M,e= .panic c/\ A8 L S M/\ PU M.h/\ Q c M.h
def cz (P:Program)(Γ:Au)(fr:List DV)(V:List Tmp)(I S:Code)(L:Nat)(J:Nat -> DH -> Prop)(X:Exit -> DH -> Prop)(Q:List PanicEntry -> DH -> Prop)(encs:List (List DV)):Prop:= ∀ (l B:Nat) (Y:BL P Γ L) (i:Nat) (x:List DV) (h:DH),encs[i]? =some x -> J i h -> Tr P Γ (Fence.wide.inRound l) (some B) L Y I ⟨Iw fr V x,h⟩ (RM (λS' b=>b=Y/\ ∀ a:BL P Γ L,Tr P Γ (Fence.wide.inRound l) (some B) L a S S' (stay a (xK L (J (i+1)) X Q))) (λ_ _ _=>False))
variable {encs:List (List DV)}{X:Exit -> DH -> Prop}{J:Nat -> DH -> Prop}
def mC.p {V:List Tmp}{I S:Code}{L:Nat}(f:mC P Γ fr V I S L J X encs)(Q:List PanicEntry -> DH -> Prop):cz P Γ fr V I S L J X Q encs:=λl B Y i x h g j=>by
 refine Tr.mono (f l B Y i x h g j) λe k Y2 a=>?_
 cases e with
 | normal=>exact ⟨a.1,λb=>Tr.mono (show Tr P Γ (Fence.wide.inRound l) (some B) L b S k (stay b (Tp L (J (i+1)) X)) from a.2 b) λe S3 Y3 d=>⟨d.1,.inl d.2⟩⟩
 | ret=>exact a.elim
 | exit id=>exact a.elim
 | goto t=>exact a.elim
 | panic c=>exact a.elim
 | outgrown=>exact a.elim
abbrev RJ (P:Program)(Γ:Au)(N:Ψ)(h0:DH)(ρ:List AI)(w:World)(KK:Nat)(J:Nat -> DH -> Prop)(i:Nat)(G R:Ψ)(W:World):Prop:=∃ h ρ',J i h/\ RI KK P Γ N h0 ρ w G R W h ρ'
abbrev RX (P:Program)(Γ:Au)(N:Ψ)(h0:DH)(ρ:List AI)(w:World)(KK:Nat)(Jx:Exit -> DH -> Prop)(c:Code)(G R:Ψ)(W:World):Prop:=∃ e,KN e=some c/\ ∃ h ρ',Jx e h/\ RI KK P Γ N h0 ρ w G R W h ρ'
abbrev xL (P:Program)(Γ:Au)(N:Ψ)(h0:DH)(ρ:List AI)(w:World)(KK:Nat)(Jp:List PanicEntry -> DH -> Prop)(c:List PanicEntry)(G R:Ψ)(W:World):Prop:=∃ h ρ',Jp c h/\ RI KK P Γ N h0 ρ w G R W h ρ'
variable {KK:Nat}
def RI.shut {p:World}(hR:RI KK P Γ N h0 ρ0 w0 G R W h ρ)(hi:PU h){B:Nat}(d:Γ.ng<=w0.heap.size)(H:w0.heap.size<=B)(j:Ms B W p):RI KK P Γ N h0 ρ0 w0 G R p h ρ:=
 ⟨(AS.shut (S:=⟨[],h⟩) (a:={ tmps:=#[],defers:=[] }) ⟨hR.hr,rfl,λi hi=>absurd hi (zGR i)⟩ hi (zGK d H) j).hr,hR.upd.comp j λi hi e=>absurd e.1 (by omega),hR.grow,hR.g,hR.r,hR.kept⟩
def fP {S:St}{a:Act}(Q:AS P Γ N S ρ a w)(hN: ∀ b,N b -> b<w.heap.size/\ ¬ MO h0 ρ b)(hh: ∀ b,MO h0 ρ b -> MO S.h ρ b){V:Array Tmp}{j z:Code}{Jp:List PanicEntry -> DH -> Prop}(CH:S.fr.all (C5 KK)=true) 
 (DT:cz P Γ S.fr V.toList j z KK J X Jp encs) (l:Nat):Xf P YV encs V j z a l (RJ P Γ N h0 ρ w KK J) (RX P Γ N h0 ρ w KK X) (xL P Γ N h0 ρ w KK Jp):=by
 rintro G R i x args W m hE ⟨h,ρ1,hJ,hR⟩ hS hl KB;have Co:Γ.ng<=w.heap.size:=Γ.lo _ Q.hr.gi
 have hM: ∀ {h:DH} {ρ1:List AI} {W:World},RI KK P Γ N h0 ρ w G R W h ρ1 -> ∀ b,MS (λb=>N b∨G b) h ρ1 b -> b<W.heap.size/\ ¬ R b:=λhR b hb=>by
  rcases hb with (hb | hb) | hb
  ·exact ⟨(hR.hr.nlt b (.inl hb)).1,λh=>(hR.r b h).1 hb⟩
  ·exact ⟨(hR.hr.nlt b (.inr hb)).1,hS.dis b hb⟩
  ·exact ⟨(hR.off b hb).1,λh=>(hR.off b hb).2.2 (.inr h)⟩
 have V7:BQ (MS N S.h ρ) w (ρ.take KK) (MS (λb=>N b∨G b) h ρ1) W ρ1:=hR.outl.weak (λb hb=>hb.imp id (hh b))
 have LZ:BE (MS (λb=>N b∨G b) h ρ1) W ρ1 (Iw S.fr V.toList x) ((V.zip args).foldl (λt (p,v)=>t.setIfInBounds p v) a.tmps):=by
  have:=oq V.toList x args.toList (by simpa using hE.1) (hE.rep (hM hR) ρ1) ((Q.fr.take CH).out V7)
  grind [Array.toList_zip]
 have step: ∀ {G R:Ψ} {W o:World} {h h':DH} {ρ1 ρ2:List AI},RI KK P Γ N h0 ρ w G R W h ρ1 -> (∀ b,R b -> b<W.heap.size) -> Aq P Γ (λb=>N b∨G b) h' ρ2 o -> A3 h ρ1 W h' ρ2 o -> CA KK ρ1 ρ2 -> RI KK P Γ N h0 ρ w G R o h' ρ2:=by
  intro G R W o h h' ρ1 ρ2 hR O CG st hk;have hs:=hR.upd.size;exact ⟨CG,hR.upd.comp st.upd λb hb q=>(hR.grow b q).resolve_right (by omega),λb hb=>(st.grow b hb).elim (hR.grow b) λh=>.inr (by omega),hR.g,λb hb=>⟨(hR.r b hb).1,λq=>(st.grow b q).elim (hR.r b hb).2 (by have:=O b hb;omega)⟩,hR.kept.trans hk⟩
 have uD: ∀ b,R b -> b<W.heap.size:=λb h=>hS.lt b (.inr h)
 have bd:Bd (Fence.wide.inRound l) (some W.heap.size) W:=⟨λb e=>by cases e;exact zGT _,λl' e=>by cases e;exact hl⟩;refine zMP (DT l W.heap.size (RS P Γ KK (λb=>N b∨G b) h ρ1 W) i x h m hJ _ ρ1 _ W ⟨hR.hr,LZ⟩ ⟨rfl,A3.refl _ _ _,CA.refl _ _⟩ trivial bd) ?_;rintro e T L ⟨S',ρ2,N2,Y2,B,h2,K,h4,_⟩;cases e with
 | normal=>
  obtain ⟨rfl,B⟩:=B;obtain ⟨rfl,K,h5⟩:=K;refine ⟨λG' R' o=>RI KK P Γ N h0 ρ w G' R' o S'.h ρ2/\ BE (MS (λb=>N b∨G' b) S'.h ρ2) o ρ2 S'.fr T.tmps/\ Ef W.heap.size T.defers o/\ L.heap.size<=o.heap.size/\ (∀ b,G' b -> b<W.heap.size∨L.heap.size<=b)/\ (∀ d∈T.defers,∀ D,d.target= .collected D -> D<L.heap.size)/\ (∀ b,R' b -> b<o.heap.size),?_,K.upd.mono λb _ q=>(hR.off b q).2.2,⟨step hR uD h2.hr K h5,h2.fr,h4,zGT _,λb U=>.inl (hR.hr.nlt b (.inr U)).1,λd hd D ht=>Ef.lt h4 hd ht,λb hb=>zGS (uD b hb) K.upd.size⟩,?_⟩
  ·rintro G1 R1 G2 R2 A C ⟨E,q2,q3,q4,q5,q6,q7⟩ Y U hr IW hd hb;have hR2:=RI.stable Co hN _ _ _ _ _ _ E Y U hr IW hd hb;refine ⟨hR2,q2.out (BQ.foreign (Γ:=Γ) Y (λb m=>⟨.inr m,(E.g b m).1⟩) λb m=>?_),?_,zGK q4 Y.size,λb m=>(U b m).elim (q5 b) (λh=>.inr (by omega)),q6,λb h=>hb b (.inr h)⟩
   ·grind
   ·have go: ∀ {ds:List Deferred},Ef W.heap.size ds A -> (∀ d∈ds,∀ D,d.target= .collected D -> D<L.heap.size) -> Ef W.heap.size ds C:=by
     intro ds
     induction ds with
     | nil=>intros;trivial
     | cons d ds ih=>
      rintro ⟨D,f,Z,n,r4,M⟩ O;have hD:D<L.heap.size:=O d (by simp) D (by rw [f]);refine ⟨D,f,Z,(Y.block D (zGI.1 n).1 λm=>?_).trans n,r4,ih M λd' Hl=>O d' (by simp [Hl])⟩;rcases q5 D m with h | h <;> omega
    exact go q3 q6
  ·rintro H ⟨E,q2,q3,q4,q5,q6,q7⟩ Cb;have bd2:Bd (Fence.wide.inRound l) (some W.heap.size) H:=⟨λb e=>by cases e;exact zGK K.upd.size q4,λl' e=>by cases e;exact Cb⟩;refine zMP (B (RS P Γ KK (λb=>N b∨G b) S'.h ρ2 H) _ ρ2 T H ⟨E.hr,q2⟩ ⟨rfl,A3.refl _ _ _,CA.refl _ _⟩ q3 bd2) ?_;rintro e a3 u ⟨S3,ρ3,N3,Y3,f,Z,n,r4,_⟩
   have s: ∀ e,(RS P Γ KK (λb=>N b∨G b) S'.h ρ2 H).I N3 S3.h ρ3 u -> Tp KK (J (i+1)) X e S3 -> AQ (λk=>¬ (G k∨R k)) H u/\ ((e= .normal/\ RJ P Γ N h0 ρ w KK J (i+1) G R u)∨((KN e).isSome=true/\ ∃ h ρ',X e h/\ RI KK P Γ N h0 ρ w G R u h ρ')):=by
    rintro e r0 ⟨S4,BU,hJ4⟩;obtain ⟨rfl,n,M⟩:=r0;obtain ⟨ρ4,R4,s4,k4⟩:=BU P Γ _ ρ3 a3 u Z;have ao:=step E q7 R4.hr (n.trans s4) (M.trans k4);exact ⟨n.upd.mono λb _ q=>(E.off b q).2.2,hJ4.imp (λ⟨x,y⟩=>⟨x,S4.h,ρ4,y,ao⟩) (λ⟨x,y⟩=>⟨x,S4.h,ρ4,y,ao⟩)⟩
   have E4: ∀ {e c},KN e=some c -> (RS P Γ KK (λb=>N b∨G b) S'.h ρ2 H).I N3 S3.h ρ3 u -> Tp KK (J (i+1)) X e S3 -> AQ (λk=>¬ (G k∨R k)) H u/\ RX P Γ N h0 ρ w KK X c G R u:=λhe n f=>by
    obtain ⟨o1,F⟩:=s _ n f;rcases F with ⟨rfl,_⟩ | ⟨_,F⟩
    ·cases he
    ·exact ⟨o1,_,he,F⟩
   cases e with
   | normal=>
    obtain ⟨rfl,f⟩:=f;obtain ⟨o1,F⟩:=s _ n (f.resolve_right (by rintro ⟨_,_,h,_⟩;cases h));rcases F with ⟨_,F⟩ | ⟨F,_⟩
    ·exact ⟨o1,F⟩
    ·cases F
   | ret=>obtain ⟨rfl,f⟩:=f;exact E4 rfl n (f.resolve_right (by rintro ⟨_,_,h,_⟩;cases h))
   | exit id=>obtain ⟨rfl,f⟩:=f;exact E4 rfl n (f.resolve_right (by rintro ⟨_,_,h,_⟩;cases h))
   | goto t=>
    obtain ⟨rfl,f⟩:=f;obtain ⟨o1,F⟩:=s _ n (f.resolve_right (by rintro ⟨_,_,h,_⟩;cases h));rcases F with ⟨F,_⟩ | ⟨F,_⟩ <;> cases F
   | panic c=>
    obtain ⟨rfl,f⟩:=f;rcases f with f | ⟨c',S4,he,BU,hni,hjp⟩
    ·obtain ⟨o1,F⟩:=s _ n f;rcases F with ⟨F,_⟩ | ⟨F,_⟩ <;> cases F
    ·cases he;obtain ⟨rfl,n,M⟩:=n;obtain ⟨ρ4,R4,s4,k4⟩:=BU P Γ _ ρ3 a3 u Z;have ao:=step E q7 R4.hr (n.trans s4) (M.trans k4);refine ⟨W.heap.size,r4,λW4 IX=>⟨(n.upd.mono λb _ q=>(E.off b q).2.2).comp IX λk _ m hgr=>?_,S4.h,ρ4,hjp,ao.shut hni Co hR.upd.size IX⟩⟩;have:=hS.lt k hgr;have:=m.1;omega
   | outgrown=>exact f.elim
 | ret=>exact B.elim
 | exit id=>exact B.elim
 | goto t=>exact B.elim
 | panic c=>exact B.elim
 | outgrown=>exact B.elim
section
variable {N:Ψ} {S:St} {ρ:List AI} {a:Act} {w:World} {G R:Ψ} {W:World} {h h0:DH} {ρ':List AI} {KK:Nat}
def RI.hrel (hR:RI KK P Γ N h0 ρ w G R W h ρ'):Aq P Γ N h ρ' W:=
 hR.hr.foreign (G:=λ_=>False) (AQ.refl _ _) (λ_ h=>h.elim) (λb c=>.inl (.inl c)) λb c=>hR.hr.nlt b (.inl c)
def RI.frame (hR:RI KK P Γ N h0 ρ w G R W h ρ')(Q:AS P Γ N S ρ a w)(x: ∀ b,MO h0 ρ b -> MO S.h ρ b)(l:S.fr.all (C5 KK)=true):BE (MS N h ρ') W ρ' S.fr a.tmps:=
 ((Q.fr.take l).out (hR.outl.weak λb c=>c.imp id (x b))).out (D5 (λb c=>c.imp .inl id) ρ')
end
variable {I:Code}{g:Operand}{S:St}{L:Nat}{F:Fence}
def Tr.range (KH:F=Fence.wide∨∃ l,F=Fence.wide.inRound l){B:Nat}{Y:BL P Γ L}{V:Array Tmp}{n:Code}{Q:QY P Γ L}{k:Nat}{encs:List (List DV)}(J:Nat -> DH -> Prop)(Z:Exit -> DH -> Prop) 
 (hg:AZ S.fr g= .it k) (hk:S.h[k]? =some (some (.iter encs))) (Ea: ∀ x∈encs,x.length=V.size) {KK:Nat} (hL:L<=KK) (CH:S.fr.all (C5 KK)=true) (h0:J 0 (S.h.set k none))
 (DT:mC P Γ S.fr V.toList I n KK J Z encs) (EB: ∀ h,J encs.length h -> Q .normal ⟨S.fr,h⟩ Y) (Ns: ∀ e h,(KN e).isSome=true -> Z e h -> Q e ⟨S.fr,h⟩ Y):Tr P Γ F (some B) L Y (.rangeFunc g V I n) S Q:=λN ρ a w R y m b=>by
 have O:=BW R g;rw [hg] at O;obtain ⟨p,r,hv⟩:=O;obtain ⟨p',BG,gf,lb,Rd,⟨e1,e2⟩,q,j,u⟩:=R.hr.obj k _ hk;have ep:p'=p:=zGJ (BG.symm.trans r);subst ep;have tc:a.eval g= .func (.func gf) #[] lb:=hv.trans e1;have Co:Γ.ng<=w.heap.size:=Γ.lo _ R.hr.gi;have kB: ∀ b,p'.foot b -> MO S.h ρ b:=λb hb=>⟨k,_,p',hk,r,hb⟩
 have X: ∀ b,N b -> b<w.heap.size/\ ¬ MO S.h ρ b:=λb hb=>⟨(R.hr.nlt b hb).1,λ⟨k,o,p,K,q,j⟩=>(R.hr.cel k o p b K q j).2.1 hb⟩
 have IX:EE p'.foot Rd w:=⟨λb hb hr=>(j b hr).1 (.inr (kB b hb)),λb hb=>hb.elim (u b) λh=>(j b h).2⟩
 have bL:RJ P Γ N S.h ρ w KK J 0 p'.foot Rd w:=by
  refine ⟨S.h.set k none,ρ,h0,?_,AQ.refl _ _,λb hb=>.inl (MO.kill hb),λb hb=>⟨(R.hr.cel k _ p' b hk r hb).1,.inl (kB b hb)⟩,λb hb=>⟨λhn=>(j b hb).1 (.inl hn),λhm=>(j b hb).1 (.inr (MO.kill hm))⟩,CA.refl _ _⟩;have H1:Aq P Γ N (S.h.set k none) ρ w:=R.hr.kill k
  have LJ: ∀ b,MS (λb=>N b∨p'.foot b) (S.h.set k none) ρ b -> MS N S.h ρ b:=λb hb=>by
   rcases hb with (hb | hb) | hb
   ·exact .inl hb
   ·exact .inr (kB b hb)
   ·exact .inr (MO.kill hb)
  refine ⟨H1.len,λi o hi=>?_,λi o p2 b g1 g2 g3=>?_,H1.dis,λb hb=>hb.elim (R.hr.nlt b) λh=>⟨u b h,(R.hr.cel k _ p' b hk r h).1⟩,R.hr.gi⟩
  ·obtain ⟨AY,T⟩:=LX hi;obtain ⟨p2,QA,hr⟩:=R.hr.obj i o T;exact ⟨p2,QA,hr.out (D5 LJ ρ) (S:=λ_=>False) (AQ.refl _ _) (λ_ h=>h.elim) λ_ _ _ h=>h⟩
  ·obtain ⟨AY,T⟩:=LX g1;obtain ⟨c1,c2,c3⟩:=R.hr.cel i o p2 b T g2 g3;exact ⟨c1,λhb=>hb.elim c2 λhb=>R.hr.dis i k o _ p2 p' b AY T hk g2 r g3 hb,c3⟩
 have hst: ∀ i,C0 (RJ P Γ N S.h ρ w KK J i):=λi G R' G' R2 A C ⟨h,ρ',d,s⟩ K q j u q5 q6=>⟨h,ρ',d,RI.stable Co X _ _ _ _ _ _ s K q j u q5 q6⟩
 have aj: ∀ c,C0 (RX P Γ N S.h ρ w KK Z c):=λc G R' G' R2 A C ⟨e,f,h,ρ',d,s⟩ K q j u q5 q6=>⟨e,f,h,ρ',d,RI.stable Co X _ _ _ _ _ _ s K q j u q5 q6⟩
 have stp: ∀ {G R':Ψ} {W:World} {h:DH} {ρ':List AI},RI KK P Γ N S.h ρ w G R' W h ρ' -> A3 S.h ρ w h ρ' W:=λhR=>⟨hR.upd,hR.grow⟩
 have z: ∀ {G R':Ψ} {W:World} {h:DH} {ρ':List AI},RI KK P Γ N S.h ρ w G R' W h ρ' -> CA L ρ ρ':=λhR k p hk r=>hR.kept k p (zGS hk hL) r
 have tB: ∀ x∈encs,∀ R W args,YV x R W args -> args.size=V.size:=λx O R W args h=>h.1.symm.trans (Ea x O)
 have E: ∀ {G R':Ψ} {W:World} {h:DH} {ρ':List AI} {a':Act},RI KK P Γ N S.h ρ w G R' W h ρ' -> a'.tmps=a.tmps -> AS P Γ N ⟨S.fr,h⟩ ρ' a' W:=λhR e=>⟨hR.hrel,by rw [e];exact hR.frame (S:=S) R (λ_ h=>h) CH⟩
 rcases KH with rfl | ⟨l0,rfl⟩
 ·have mk: ∀ {D:Nat} {G R':Ψ} {W:World} {h:DH} {ρ':List AI},RI KK P Γ N S.h ρ w G R' W h ρ' -> W.heap[D]? =some (.deferred (some [])) -> w.heap.size<=D -> Ef B ({ target:=.collected D,args:=#[] }::a.defers) W:=λ{D G R' W h ρ'} hR U H=>
   ⟨D,rfl,zGK (b.le _ rfl) H,U,λd' Hl ht=>by have:=Ef.lt m Hl ht;omega,Vh R.hr (stp hR) m⟩
  refine xZ tc e2 q.gen IX tB _ _ _ hst aj (λc G R' G' R2 A C ⟨h,ρ',d,s⟩ _ _ _ _ _ _=>d.elim) (λh=>h.elim) (λc G R W ⟨h,ρ',d,s⟩=>d.elim) bL (fP R X (λ_ h=>h) CH (DT.p λ_ _=>False)) ?_ ?_
  ·rintro D e G R' own W W' ⟨v,rfl⟩ ⟨h,ρ',d,hR⟩ _ _ _ U H;exact ⟨⟨S.fr,h⟩,ρ',N,Y,EB h d,E hR rfl,Y.st y R.hr hR.hrel (stp hR) (z hR),mk hR U H,b.step R.hr (stp hR)⟩
  ·rintro D c G R' W ⟨e,f,h,ρ',d,hR⟩ U H;have M:=Ns e h (by rw [f];rfl) d;cases e with
   | ret=>cases f;exact zNR ⟨⟨S.fr,h⟩,ρ',N,Y,M,E hR rfl,Y.st y R.hr hR.hrel (stp hR) (z hR),mk hR U H,b.step R.hr (stp hR)⟩
   | exit id=>cases f;exact wpIn_exit ⟨⟨S.fr,h⟩,ρ',N,Y,M,E hR rfl,Y.st y R.hr hR.hrel (stp hR) (z hR),mk hR U H,b.step R.hr (stp hR)⟩
   | normal=>cases f
   | goto t=>cases f
   | panic c=>cases f
   | outgrown=>cases f
 ·refine xa tc e2 (b.rd l0 rfl) q.gen IX tB _ _ _ hst aj (λc G R' G' R2 A C ⟨h,ρ',d,s⟩ _ _ _ _ _ _=>d.elim) (λh=>h.elim) (λc G R W ⟨h,ρ',d,s⟩=>d.elim) bL (fP R X (λ_ h=>h) CH (DT.p λ_ _=>False)) ?_ ?_
  ·rintro e G R' own W W' ⟨v,rfl⟩ ⟨h,ρ',d,hR⟩ _ _ _;exact ⟨⟨S.fr,h⟩,ρ',N,Y,EB h d,E hR rfl,Y.st y R.hr hR.hrel (stp hR) (z hR),Vh R.hr (stp hR) m,b.step R.hr (stp hR)⟩
  ·rintro c G R' W ⟨e,f,h,ρ',d,hR⟩;have M:=Ns e h (by rw [f];rfl) d;cases e with
   | ret=>cases f;exact zNR ⟨⟨S.fr,h⟩,ρ',N,Y,M,E hR rfl,Y.st y R.hr hR.hrel (stp hR) (z hR),Vh R.hr (stp hR) m,b.step R.hr (stp hR)⟩
   | exit id=>cases f;exact wpIn_exit ⟨⟨S.fr,h⟩,ρ',N,Y,M,E hR rfl,Y.st y R.hr hR.hrel (stp hR) (z hR),Vh R.hr (stp hR) m,b.step R.hr (stp hR)⟩
   | normal=>cases f
   | goto t=>cases f
   | panic c=>cases f
   | outgrown=>cases f
def Cj {α σ:Type}(f:α -> σ -> Option (σ×Nat)):List α -> σ -> Option (σ×Nat)
 | [],s=>some (s,0)
 | x::l,s=>(f x s).bind λr=>bif r.2==0 then Cj f l r.1 else some r
def CO {α σ:Type}(f:α -> σ -> Option σ):List α -> σ -> Option σ
 | [],s=>some s
 | x::l,s=>(f x s).bind (CO f l)
variable {α σ:Type}
def ui (f:α -> σ -> Option σ): ∀ (l:List α) (s:σ),Cj (λx s=>(f x s).map λi=>(i,0)) l s=(CO f l s).map λi=>(i,0)
 | [],s=>rfl
 | x::l,s=>by
  simp only [Cj,CO];cases f x s with
  | none=>rfl
  | some i=>exact ui f l i
def C1 (L:Nat)(V:List Exit)(c:Nat)(h':DH)(e:Exit)(S:St):Prop:=(Exit.normal::V)[c]? =some e/\ ∃ M,A8 L S M/\ M.h=h'
def HF (P:Program)(Γ:Au)(F:Fence)(B:Option Nat)(L:Nat)(N:BL P Γ L)(Q:Exit -> St -> Prop)(I a:Code)(S:St):Prop:= Tr P Γ F B L N I S (RM (λS' b=>b=N/\ ∀ x:BL P Γ L,Bi P Γ F B L x Q [.code a] S') (λ_ _ _=>False))
variable {a:Code}
def HF.go {B:Option Nat}{N:BL P Γ L}{Q:Exit -> St -> Prop}(f:Dv F P)(v:P.follows .mixedOrders=true)(g:Be)(n:Nat)(o:BR)(d σ:Θ)(fr:List DV)(h':DH)(vs:List Prop) 
 (h:(CN P Γ g n [.code I] S o).map (VZ d σ L)=some (.at [],fr,h',vs,[],[],true)) (i:Bp vs) (hk: ∀ x:BL P Γ L,Bi P Γ F B L x Q [.code a] ⟨fr,h'⟩):HF P Γ F B L N Q I a S:=by
 obtain ⟨S',_,j,k⟩:=zDz h;have T:=GH (F:=F) (B:=B) (L:=L) (Y:=N) (Q:=λe p J=>e= .normal/\ J=N/\ ∀ x:BL P Γ L,Bi P Γ F B L x Q [.code a] p) f v n [.code I] S o _ _ _ _ j i ⟨rfl,rfl,λx=>Bi.le k rfl (hk x)⟩;refine Tr.mono (show Tr P Γ F B L N I S _ from T) λe p J b=>?_
 cases e with
 | normal=>exact b.2
 | ret=>exact absurd b.1 (by simp)
 | exit id=>exact absurd b.1 (by simp)
 | goto t=>exact absurd b.1 (by simp)
 | panic c=>exact absurd b.1 (by simp)
 | outgrown=>exact absurd b.1 (by simp)
def Bi.rangeFold (w:F=Fence.wide∨∃ l,F=Fence.wide.inRound l){B:Nat}{Y:BL P Γ L}{Q:QY P Γ L}{m:Array Tmp}{k:List KI}{J:Nat}(V:List Exit)(KC:(V.all λe=>(KN e).isSome)=true)(enc:α -> List DV)(l:List α)(H:σ -> DH)(f:α -> σ -> Option (σ×Nat)){n:σ}{rE:σ×Nat}(z:Cj f l n=some rE) 
 (A:AZ S.fr g= .it J) (hk:S.h[J]? =some (some (.iter (l.map enc)))) (Ea: ∀ x,(enc x).length=m.size) {K:Nat} (C:L<=K) (D:S.fr.all (C5 K)=true) (h0:S.h.set J none=H n)
 (E: ∀ (l B:Nat) (N:BL P Γ K) (x:α) (s:σ) (r:σ×Nat),f x s=some r -> HF P Γ (Fence.wide.inRound l) (some B) K N (C1 K V r.2 (H r.1)) I a ⟨Iw S.fr m.toList (enc x),H s⟩)
 (G: ∀ e,(Exit.normal::V)[rE.2]? =some e -> BF P Γ F (some B) L Q k e ⟨S.fr,H rE.1⟩ Y):A1 P Γ F (some B) L Y Q (.code (.rangeFunc g m I a)::k) S:=by
 refine Tr.range (Q:=BF P Γ F (some B) L Q k) (KK:=K) w (λi h=>∃ s,Cj f (l.drop i) s=some rE/\ h=H s) (λe h=>(Exit.normal::V)[rE.2]? =some e/\ h=H rE.1) A hk (λx d=>?_) C D ⟨n,z,h0⟩ ?_ ?_ ?_
 ·grind
 ·rintro l' u X i x h d ⟨s,j,rfl⟩;rw [zIC] at d;cases hy:l[i]? with
  | none=>rw [hy] at d;cases d
  | some y=>
   rw [hy] at d;cases d;have AU:=(zGe.1 hy).1
   have O:l.drop i=y::l.drop (i+1):=by
    grind [List.drop_eq_getElem_cons]
   rw [O] at j;obtain ⟨r,R,h2⟩:=Gg j;have T:=E l' u X y s r R
   have o: ∀ {e:Exit} {p:St},C1 K V r.2 (H r.1) e p -> Tp K (λh=>∃ s,Cj f (l.drop (i+1)) s=some rE/\ h=H s) (λe h=>(Exit.normal::V)[rE.2]? =some e/\ h=H rE.1) e p:=by
    rintro e p ⟨r1,M,U,r3⟩;refine ⟨M,U,?_⟩
    grind
   refine Tr.mono T λe p Y2 b=>?_
   cases e with
   | normal=>exact ⟨b.1,λq=>Tr.mono (show Tr P Γ (Fence.wide.inRound l') (some u) K q a p (stay q (C1 K V r.2 (H r.1))) from b.2 q) λe M Y3 v=>⟨v.1,o v.2⟩⟩
   | ret=>exact b.elim
   | exit id=>exact b.elim
   | goto t=>exact b.elim
   | panic c=>exact b.elim
   | outgrown=>exact b.elim
 ·rintro h ⟨s,j,rfl⟩;rw [zGX,zM6] at j;cases j;exact G .normal rfl
 grind
def TK {B:Option Nat}{Y:BL P Γ L}{Q:QY P Γ L}{id:Nat}(h:Q (.exit id) S Y): ∀ (k:List KI),Jz id k=none -> BF P Γ F B L Q k (.exit id) S Y
 | [],_=>h
 | .blk i::k,g=>by
  unfold Jz at g;split at g
  ·cases g
  ·rename_i e
   show (if id=i then _ else _)
   rw [zGN e];exact TK h k g
 | .code c::k,g=>TK (k:=k) h g
 | .lend J::k,g=>TK (k:=k) h g
 | .scp::k,g=>TK (k:=k) h g
 | .loopN m b::k,g=>TK (k:=k) h g
end
def Lz (t:Nat):Code -> Option (Array Tmp×Code×Code)
 | .rangeFunc (.tmp N) V a b=>if N=t then some (V,a,b) else Lz t b
 | .seq a b=>match Lz t a with
  | some r=>some r
  | none=>Lz t b
 | .cond _ a b=>match Lz t a with
  | some r=>some r
  | none=>Lz t b
 | .block _ c=>Lz t c
 | .loop c=>Lz t c
 | .scope c=>Lz t c
 | _=>none
def qF (f:Func)(t:Nat):Array Tmp×Code×Code:=match f.body with
 | some c=>(Lz t c).getD (#[],.skip,.skip)
 | none=>(#[],.skip,.skip)
def PD (f:Func)(t:Nat):Code:=(qF f t).2.2
def rgA (f:Func)(t:Nat):Code:=(qF f t).2.1
def AR (f:Func):Code:=f.body.getD .skip
def qj (id:Nat)(k:List KI):List KI:=(Jz id k).getD []
variable {L:Nat}{F:Fence}{Γ:Au}{P:Program}
def BF.exitTo {B:Option Nat}{Y:BL P Γ L}{Q:QY P Γ L}{id:Nat}{k:List KI}{S:St}(h:(Jz id k).isSome=true)(hk:A1 P Γ F B L Y Q (qj id k) S):BF P Γ F B L Q k (.exit id) S Y:=by
 unfold qj at hk;cases g:Jz id k with
 | none=>rw [g] at h;cases h
 | some k'=>rw [g] at hk;exact PI g hk
def PC:List KI -> Option (Operand×Array Tmp×Code×Code×List KI)
 | .code (.rangeFunc g V a b)::k=>some (g,V,a,b,k)
 | _=>none
variable {α σ:Type}{J B:Nat}{K:List KI}{h:DH}{fr:List DV}
def Bi.rangeAt (k:F=Fence.wide∨∃ l,F=Fence.wide.inRound l){Y:BL P Γ L}{Q:QY P Γ L}(V:List Exit)(o:(V.all λe=>(KN e).isSome)=true)(g:Operand)(c:Array Tmp)(a b:Code)(Z:List KI)(enc:α -> List DV)(l:List α)(H:σ -> DH)(d:α -> List DV)(f:α -> σ -> Option (σ×Nat)){i:σ}{rE:σ×Nat}(M:Cj f l i=some rE) 
 (j:PC K=some (g,c,a,b,Z)) (m:AZ fr g= .it J) (hk:h[J]? =some (some (.iter (l.map enc)))) (R: ∀ x,(enc x).length=c.size) (L':Nat) (n:Nat.ble L L'=true) (A:fr.all (C5 L')=true) (h0:h.set J none=H i) (p:(λx=>Iw fr c.toList (enc x))=d)
 (S: ∀ (l B:Nat) (N:BL P Γ L') (x:α) (s:σ) (r:σ×Nat),f x s=some r -> HF P Γ (Fence.wide.inRound l) (some B) L' N (C1 L' V r.2 (H r.1)) a b ⟨d x,H s⟩)
 (v: ∀ e,(Exit.normal::V)[rE.2]? =some e -> BF P Γ F (some B) L Q Z e ⟨fr,H rE.1⟩ Y):A1 P Γ F (some B) L Y Q K ⟨fr,h⟩:=by
 unfold PC at j;split at j
 ·cases j;subst p;exact Bi.rangeFold k V o enc l H f M m hk R (zIa n) A h0 S v
 ·cases j
def Bi.rangeAt0 (k:F=Fence.wide∨∃ l,F=Fence.wide.inRound l){Y:BL P Γ L}{Q:QY P Γ L}(g:Operand)(V:Array Tmp)(a b:Code)(Z:List KI)(enc:α -> List DV)(l:List α)(H:σ -> DH)(c:α -> List DV)(f:α -> σ -> Option σ){d C:σ}(M:CO f l d=some C) 
 (m:PC K=some (g,V,a,b,Z)) (n:AZ fr g= .it J) (hk:h[J]? =some (some (.iter (l.map enc)))) (R: ∀ x,(enc x).length=V.size) (L':Nat) (o:Nat.ble L L'=true) (A:fr.all (C5 L')=true) (h0:h.set J none=H d) (p:(λx=>Iw fr V.toList (enc x))=c)
 (DT: ∀ (l B:Nat) (N:BL P Γ L') (x:α) (s r:σ),f x s=some r -> HF P Γ (Fence.wide.inRound l) (some B) L' N (C1 L' [] 0 (H r)) a b ⟨c x,H s⟩)
 (v:A1 P Γ F (some B) L Y Q Z ⟨fr,H C⟩):A1 P Γ F (some B) L Y Q K ⟨fr,h⟩:=by
 refine Bi.rangeAt k [] rfl g V a b Z enc l H c (λx s=>(f x s).map λi=>(i,0)) (rE:=(C,0)) (by rw [ui,M];rfl) m n hk R L' o A h0 p (λl' B' N' x s r j=>?_) (λe q=>?_)
 ·cases t:f x s with
  | none=>rw [t] at j;cases j
  | some i=>
   grind
 ·cases q;exact v
def OK (t:Nat):Θ -> Code -> List KI -> Option (List KI)
 | ms,.seq a b,k=>match OK t ms a (.code b::k) with
  | some r=>some r
  | none=>OK t ms b k
 | ms,.cond _ a b,k=>match OK t ms a k with
  | some r=>some r
  | none=>OK t ms b k
 | ms,.block i c,k=>OK t ms c (.blk i::k)
 | ms,.scope c,k=>OK t ms c (.scp::k)
 | m::ms,.loop b,k=>OK t ms b (.loopN m b::k)
 | _,.rangeFunc (.tmp N) V a b,k=>if N=t then some (.code (.rangeFunc (.tmp N) V a b)::k) else none
 | _,_,_=>none
def HE (c:Code)(t:Nat)(u:Θ):List KI:=(OK t u c []).getD []
def An (c:Code)(id:Nat)(u:Θ):List KI:=(OL id u c []).getD []
def EP (c:Code)(id:Nat)(u:Θ):List KI:=(OM id u c []).getD []
end
abbrev L1 (l:List DV):Nat -> DV:=λj=>l.getD j .any
abbrev AK {α:Type} [Inhabited α] (c:α -> List DV) (l:List α):Nat -> Nat -> DV:=λi j=>(c (l.getD i default)).getD j .any
abbrev TP {α:Type}(c:α -> List DV):α -> Nat -> DV:=λx j=>(c x).getD j .any
def BY (c:AD):List DV:=[.int .i64 c.kind,.ints c.cells,.int .i64 c.set,.int .i64 c.other,.int .i64 c.lo,.int .i64 c.hi,.ints c.runs,.int .i64 c.rule,.int .i64 c.spot]
def AP (x:Ξ):List DV:=[.ints x]
def cc (x:Ω):List DV:=[.bools x]
def BT (x:Δ):List DV:=[.int .i64 x.1,.int .i64 x.2]
def AH (q:AA):List DV:=[.int .i64 q.cells,.int .i64 q.symbols,.ints q.values,.sl 1 q.nbrs.length (AK AP q.nbrs),.sl 9 q.cons.length (AK BY q.cons)]
abbrev oC (l:List DV):Option DO:=some (.cells l)
abbrev oI (l:Ξ):Option DO:=some (.ints l)
abbrev oW (c:AD)(q:AA)(pos:Ξ)(k ln:Nat):Option DO:=some (.cells (BY c++AH q++[.ints pos,.msl k 1 0 ln]))
abbrev zM7:=@Nat.le_of_not_lt
abbrev zM8:=@List.getElem_mem
section
structure Du (P:Program) where
 l:Nat
 encs:List (List DV)
 J:Nat -> (Ψ) -> (Ψ) -> World -> Prop
 Jx:(Ψ) -> (Ψ) -> World -> Prop
 hJ: ∀ i,C0 (J i)
 hJx:C0 Jx
 hy: ∀ i x args G R W1,encs[i]? =some x -> YV x R W1 args -> J i G R W1 -> EE G R W1 -> YieldAt Fence.wide 0 P l args W1 λe W'=>
  AQ (λk=>¬ (G k∨R k)) W1 W'/\ ((e= .returned (.bool true)/\ J (i+1) G R W')∨(e= .returned (.bool false)/\ Jx G R W'))
structure IY (Γ:Au)(N G R:Ψ)(h:DH)(ρ:List AI)(w:World):Prop where
 sh:EE G R w
 lo: ∀ b,b<Γ.ng -> R b
 own: ∀ b,MO h ρ b -> G b
 n: ∀ b,N b↔(b<w.heap.size/\ ¬ G b/\ ¬ R b)
def IY.ng {Γ:Au}{N G R:Ψ}{h:DH}{ρ:List AI}{w:World}(y:IY Γ N G R h ρ w){b:Nat}(c:N b):Γ.ng<=b:=zM7 λm=>((y.n b).1 c).2.2 (y.lo b m)
def Pm (P:Program)(Γ:Au)(L:Nat)(J:(Ψ) -> (Ψ) -> World -> Prop)(hJ:C0 J):BL P Γ L where
 I:=λN h ρ w=>∃ G R,J G R w/\ IY Γ N G R h ρ w
 st:=by
  rintro N h ρ w h' ρ' w' ⟨G,R,f,y⟩ H W st _;have j:=st.upd.size;have a: ∀ b,(G b∨(w.heap.size<=b/\ b<w'.heap.size)) -> ¬ R b:=λb hb i=>hb.elim (λh=>y.sh.dis b h i) λh=>by have:=y.sh.lt b (.inr i);omega
  have d: ∀ b,(G b∨(w.heap.size<=b/\ b<w'.heap.size))∨R b -> b<w'.heap.size:=λb hb=>by
   rcases hb with (hb | hb) | hb
   ·exact zGS (y.sh.lt b (.inl hb)) j
   ·exact hb.2
   ·exact zGS (y.sh.lt b (.inr hb)) j
  refine ⟨λb=>G b∨(w.heap.size<=b/\ b<w'.heap.size),R,hJ G R _ R w w' f (st.upd.mono λb _ hb=>y.own b hb) (λk hk=>hk.imp id λh=>h.1) (λk hk=>.inl hk) (λk hk=>hk.imp .inl id) a d,⟨a,d⟩,y.lo,λb hb=>?_,λb=>?_⟩
  ·rcases st.grow b hb with h | h
   ·exact .inl (y.own b h)
   ·obtain ⟨k,o,p,g,l,m⟩:=hb;obtain ⟨_,_,c,t,z,e⟩:=W.cel k o p b g l m
    grind
  ·rw [y.n]
   grind
section
variable {P:Program} {Γ:Au}
def Du.Y (C:Du P)(Γ:Au)(L i:Nat):BL P Γ L:=Pm P Γ L (C.J i) (C.hJ i)
def Du.X (C:Du P)(Γ:Au)(L:Nat):BL P Γ L:=Pm P Γ L C.Jx C.hJx
def Du.Q (C:Du P)(Γ:Au)(L:Nat):QY P Γ L:=λe _ Y=>(e= .normal∨e= .ret)/\ (Y=C.Y Γ L C.encs.length∨Y=C.X Γ L)
def T0 (P:Program)(Γ:Au)(ops:Array Oper)(p:Nat)(S:St)(M:BR):Option (List DV×Nat×St×St×List Prop):=match EN P Γ ops (ops.toList.take p) S M with
 | none=>none
 | some (e,vs,i)=>match ops[p]? with
  | none=>none
  | some o=>match Kg ops e o with
   | some true=>match o.op with
    | .call c=>match c.callee with
     | .value f=>match AZ e.fr f with
      | .yl l=>match (c.args.toList.map (AZ e.fr)).all GF with
       | false=>none
       | true=>match EN P Γ ops (ops.toList.drop (p+1)) ⟨Cp e.fr o.dst (.bool true),e.h⟩ i with
        | none=>none
        | some (ST,Y,j)=>match EN P Γ ops (ops.toList.drop (p+1)) ⟨Cp e.fr o.dst (.bool false),e.h⟩ j with
         | none=>none
         | some (x,Z,_)=>some (c.args.toList.map (AZ e.fr),l,ST,x,vs++(Y++Z))
      | _=>none
     | _=>none
    | _=>none
   | _=>none
end
section
variable {P:Program} {Γ:Au} {N:Ψ} {S:St} {ρ:List AI} {a:Act} {w:World} {F:Fence}
variable {ops:Array Oper}
def S9 (b:Dv F P)(i:DF ops=true){Q:Exit -> Act -> World -> Prop}{k:List Oper}: ∀ (l:List Oper) (_: ∀ o∈l,o∈ops) {S:St} {ρ:List AI} {a:Act} {w:World} {M:BR} {S':St} {vs:List Prop} {t:BR},
 AS P Γ N S ρ a w -> EN P Γ ops l S M=some (S',vs,t) -> Bp vs ->
 (∀ ρ' d w',AS P Γ N S' ρ' d w' -> DJ S.h ρ w S'.h ρ' w' -> d.defers=a.defers -> wpListIn F 0 P ops Q k d w') -> wpListIn F 0 P ops Q (l++k) a w
 | [],_,S,ρ,a,w,M,S',vs,t,R,h,_,g=>by
  cases h;exact g ρ a w R (DJ.refl _ _ _) rfl
 | o::rest,r,S,ρ,a,w,M,S',vs,t,R,h,u,g=>by
  have x: ∀ c,o.op≠.defer c:=by
   obtain ⟨j,C,e⟩:=Array.getElem_of_mem (r o (by simp));exact Hw i (j:=j) (by rw [zIe C,e])
  have y: ∀ o∈rest,o∈ops:=λo z=>r o (by simp [z])
  have D: ∀ v,(a.put o.dst v).defers=a.defers:=λv=>by cases z:o.dst <;> simp [Act.put]
  simp only [EN] at h;rw [List.cons_append];unfold wpListIn;split at h
  ·split at h
   ·cases h
   ·rename_i A E ext1 Gv m;split at h
    ·cases h
    ·rename_i J Y O n;cases h;obtain ⟨L,I⟩:=DY.1 u;exact lV b R x m L λρ' d w' R' st T _=>S9 b i rest y R' n I λρ'' K G H s p=>g ρ'' K G H (st.trans s) (p.trans T)
  ·split at h
   ·cases h
   ·rename_i A E cQ m;split at h
    ·cases h
    ·rename_i J Y O n;cases h;obtain ⟨L,I⟩:=DY.1 u;obtain ⟨V,W⟩:=ZL R m L
     have B: ∀ v,AS P Γ N A ρ (a.put o.dst v) w -> wpListIn F 0 P ops Q (rest++k) (a.put o.dst v) w:=λv R'=>
      S9 b i rest y R' n I λρ'' K G H s p=>g ρ'' K G H (by rw [←V];exact s) (p.trans (D v))
     rcases W with ⟨U,v,X,q⟩ | ⟨U,q⟩
     ·rw [zEZ U];refine ⟨λf _=>b.fn f,?_⟩;rw [zI1 _ _ _ x,X w (Keep.ofExt (A0.refl w))];exact B v q
     ·rw [zGN (by rw [U];exact zMl)];exact ⟨λf _=>b.fn f,B undef q⟩
def pV {l:Nat}{ρ':Operand -> Value}{o:Oper}{c:Call}{f:Operand}{vs:List Value}(x:o.op= .call c)(a:c.callee= .value f)(M:ρ' f= .func (.yield l) #[] #[])(hv:c.args.toList.map ρ'=vs):(execOp ρ' o).run P w=(Instr.yield l vs.toArray).run P w:=by
 unfold execOp;rw [x]
 show ((resolve ρ' c o.type)>>=λd=>invoke d.target d.args).run P w=_
 unfold resolve;rw [a];simp only [Deferred.ofValue,M]
 have e: #[]++Array.map ρ' c.args=vs.toArray:=by
  grind
 have J:((pure { target:=.fn (.yield l) #[],args:=#[]++Array.map ρ' c.args }:Sem Deferred)>>=λd=>invoke d.target d.args).run P w=(Instr.yield l (#[]++Array.map ρ' c.args)).run P w:=rfl;rw [J,e]
variable {R:Ψ}
def YV.of {M:Ψ}{ρ:List AI}{g:Operand -> DV}{f:Operand -> Value}(i: ∀ x,AJ M w (g x) ρ (f x))(Y: ∀ b,b<w.heap.size/\ ¬ R b -> M b): ∀ {l:List Operand},(l.map g).all GF=true -> YV (l.map g) R w (l.map f).toArray:=λ{l} h=>by
 refine ⟨by simp,λj d=>?_⟩;have a:j<l.length:=by simpa using d
 have c:(l.map g).getD j .any=g l[j]:=by simp [zGH,a]
 have z:(l.map f).toArray.getD j undef=f l[j]:=by simp [zH6,a]
 rw [c,z];have u:=Ng (zGL.1 h (g l[j]) (zIH.2 ⟨_,zM8 a,rfl⟩));exact (u _ _ _ _ (i l[j])).out _ (D5 Y [])
variable {h:DH}
def IY.part {N G:Ψ}{I:(Ψ) -> (Ψ) -> World -> Prop}(u:C0 I)(hi:I G R w)(y:IY Γ N G R h ρ w): ∃ R',I (MO h ρ) R' w/\ IY Γ N (MO h ρ) R' h ρ w/\ (∀ b,b<w.heap.size/\ ¬ R' b -> MS N h ρ b)/\ (∀ b,R b -> R' b):=by
 have r: ∀ b,MO h ρ b -> ¬ (R b∨(G b/\ ¬ MO h ρ b)):=λb v hx=>hx.elim (y.sh.dis b (y.own b v)) λhx=>hx.2 v
 have d: ∀ b,MO h ρ b∨(R b∨(G b/\ ¬ MO h ρ b)) -> b<w.heap.size:=λb hx=>by
  rcases hx with hx | hx | hx
  ·exact y.sh.lt b (.inl (y.own b hx))
  ·exact y.sh.lt b (.inr hx)
  ·exact y.sh.lt b (.inl hx.1)
 have q: ∀ b,G b -> MO h ρ b∨(R b∨(G b/\ ¬ MO h ρ b)):=λb j=>(Classical.em (MO h ρ b)).imp id λv=>.inr ⟨j,v⟩
 refine ⟨λb=>R b∨(G b/\ ¬ MO h ρ b),u G R _ _ w w hi (AQ.refl _ _) (λk hk=>.inl (y.own k hk)) (λk hk=>hk.imp id λh=>.inl h.1) (λk hk=>hk.elim (q k) λh=>.inr (.inl h)) r d,⟨⟨r,d⟩,λb h=>.inl (y.lo b h),λ_ h=>h,λb=>(y.n b).trans ⟨λ⟨i,a,m⟩=>⟨i,λv=>a (y.own b v),λhx=>hx.elim m λhx=>a hx.1⟩,λ⟨i,a,m⟩=>⟨i,λj=>(q b j).elim a m,λc=>m (.inl c)⟩⟩⟩,λb ⟨i,a⟩=>?_,λb h=>.inl h⟩
 by_cases j:G b
 ·exact .inr ((q b j).resolve_right a)
 ·exact .inl ((y.n b).2 ⟨i,j,λc=>a (.inl c)⟩)
def IY.later {N R':Ψ}{o:World}(z:IY Γ N (MO h ρ) R' h ρ w)(H:Aq P Γ N h ρ w)(q:AQ (λk=>¬ (MO h ρ k∨R' k)) w o):Aq P Γ (λB=>B<o.heap.size/\ ¬ MO h ρ B/\ ¬ R' B) h ρ o/\ BQ (MS N h ρ) w ρ (MS (λB=>B<o.heap.size/\ ¬ MO h ρ B/\ ¬ R' B) h ρ) o ρ:=by
 have E:AQ N w o:=q.mono λB p u=>(z.n B).2 ⟨p,λe=>u (.inl e),λe=>u (.inr e)⟩
 have a: ∀ B,N B -> N B/\ Γ.ng<=B:=λB c=>⟨c,z.ng c⟩
 have b: ∀ B,(B<o.heap.size/\ ¬ MO h ρ B/\ ¬ R' B) -> N B∨w.heap.size<=B:=λB ⟨i,d,m⟩=>by
  rcases zIW B w.heap.size with h | h
  ·exact .inl ((z.n B).2 ⟨h,d,m⟩)
  ·exact .inr h
 exact ⟨H.foreign E a b λB ⟨i,_,m⟩=>⟨i,zM7 λf=>m (z.lo B f)⟩,BQ.foreign (Γ:=Γ) E a b⟩
def Tr.yield {L:Nat}{C:Du P}{i:Nat}{Q:QY P Γ L}(u:Dv Fence.wide P){id:Nat}{p:Nat}{Ai:BR}{x:List DV}{ST E:St}{vs:List Prop}(z:DF ops=true) 
 (h:T0 P Γ ops p S Ai=some (x,C.l,ST,E,vs)) (hv:Bp vs) (F:C.encs[i]? =some x) (hT:Q .normal ST (C.Y Γ L (i+1))) (hE:Q .normal E (C.X Γ L)):Tr P Γ Fence.wide none L (C.Y Γ L i) (.region id ops false) S Q:=λN ρ a w R y m b=>by
 unfold T0 at h;split at h
 ·cases h
 rename_i j Da Gv h1;split at h
 ·cases h
 rename_i o O;split at h
 ·rename_i hw;split at h
  ·rename_i c QB;split at h
   ·rename_i f hc;split at h
    ·rename_i l hl;split at h
     ·cases h
     rename_i Vx;split at h
     ·cases h
     rename_i ST' vT Gu h2;split at h
     ·cases h
     rename_i SF' vF MB h3;cases h;obtain ⟨Bs,D9⟩:=DY.1 hv;obtain ⟨W,G⟩:=DY.1 D9;have n:p<ops.toList.length:=by grind
     have I:ops.toList=ops.toList.take p++o::ops.toList.drop (p+1):=by
      grind [List.drop_eq_getElem_cons,List.take_append_drop]
     have J: ∀ o'∈ops.toList,o'∈ops:=λo' h=>by simpa using h
     have hd: ∀ c,o.op≠.defer c:=Hw z O;refine zI8 ?_;rw [I];refine S9 u z _ (λo' q=>J o' (List.mem_of_mem_take q)) R h1 Bs λρ1 T w1 H U QK=>?_
     obtain ⟨G0,R0,y1,y2⟩:=(C.Y Γ L i).st y R.hr H.hr U.st (λk p _ n=>U.pl k p n);obtain ⟨R',z1,A,z3,_⟩:=IY.part (C.hJ i) y1 y2;obtain ⟨fn,tmps,Qr,body,hy,hR⟩:=C.hy i _ _ _ R' w1 F (YV.of (g:=AZ j.fr) (f:=T.eval) (λx=>BW H x) z3 Vx) z1 A.sh;unfold wpListIn;rw [zEZ (Im H hw)]
     have jd:T.eval f= .func (.yield C.l) #[] #[]:=by
      have V:=BW H f;rw [hl] at V;exact V
     refine ⟨λf _=>u.fn f,?_⟩;rw [zI1 _ _ _ hd,pV QB hc jd rfl,hy];refine ⟨λF=>(by cases F),hR.mono ?_⟩;have Z:T.defers= []:=QK.trans m;rintro e D ⟨hu,r⟩;obtain ⟨H',fo⟩:=A.later H.hr hu;have ED:AS P Γ (λB=>B<D.heap.size/\ ¬ MO j.h ρ1 B/\ ¬ R' B) j ρ1 T D:=⟨H',H.fr.out fo⟩;have Cw: ∀ v,(T.put o.dst v).defers=T.defers:=λv=>by cases O:o.dst <;> simp [Act.put]
     have yy:IY Γ (λB=>B<D.heap.size/\ ¬ MO j.h ρ1 B/\ ¬ R' B) (MO j.h ρ1) R' j.h ρ1 D:=⟨A.sh.upd hu,A.lo,λ_ h=>h,λ_=>Iff.rfl⟩;rcases r with ⟨rfl,r⟩ | ⟨rfl,r⟩
     ·have R':=HN ED o.dst (d:=.bool true) (v:=.bool true) rfl;refine LW u z _ (λo' q=>J o' (List.mem_of_mem_drop q)) R' h2 W λρ2 K w2 s t M=>?_
      refine ⟨ST,ρ2,_,C.Y Γ L (i+1),hT,s,(C.Y Γ L (i+1)).st ⟨_,_,r,yy⟩ R'.hr s.hr t.st (λk p _ n=>t.pl k p n),?_,Bd.none⟩
      show K.defers= []
      rw [M,Cw];exact Z
     ·have R':=HN ED o.dst (d:=.bool false) (v:=.bool false) rfl;refine LW u z _ (λo' q=>J o' (List.mem_of_mem_drop q)) R' h3 G λρ2 K w2 s t M=>?_
      refine ⟨E,ρ2,_,C.X Γ L,hE,s,(C.X Γ L).st ⟨_,_,r,yy⟩ R'.hr s.hr t.st (λk p _ n=>t.pl k p n),?_,Bd.none⟩
      show K.defers= []
      rw [M,Cw];exact Z
    ·cases h
   ·cases h
  ·cases h
 ·cases h
end
variable {fn:Func}{f:Nat}{P:Program}
def JT (M:P.funcs[f]? =some fn)(c:fn.body.isSome=true)(u:(fn.name== "runtime.NumGoroutine")=false)(args:Array Value)(W:World):(callFunc f args).run P W= .ok (.enter f args) W:=by
 have a: ¬ fn.name= "runtime.NumGoroutine" :=by simpa using u
 have b: ¬ fn.body=none:=by intro e;rw [e] at c;cases c
 simp [callFunc,go_sem,M,a,b]
variable {ds:List DV}{Γ:Au}
def vw (M:P.funcs[f]? =some fn)(p:fn.body.isSome=true){L:Nat}{Y:BL P Γ L}{Q:QY P Γ L}{h:DH}(T:A1 P Γ Fence.wide none L Y Q [.code (AR fn)] ⟨ds++List.replicate (fn.ntmps-ds.length) .any,h⟩) 
 {N:Ψ} {ρ:List AI} {W:World} {args:Array Value} (H:Aq P Γ N h ρ W) (fr:BE (MS N h ρ) W ρ ds args) (y:Y.I N h ρ W) {R:Ending -> World -> Prop}
 (d: ∀ e S' ρ' X a b o,Q e S' a -> AS P Γ X S' ρ' b o -> a.I X S'.h ρ' o -> match e with
  | .normal | .ret=>∃ v,(results fn b.tmps).run P o= .ok v o/\ R (.returned v) o
  | .panic c=>R (.panicked c) o
  | _=>False):CallsIn Fence.wide 0 P f args W R:=by
 cases l:fn.body with
 | none=>rw [l] at p;cases p
 | some j=>
 have q:AR fn=j:=by unfold AR;rw [l];rfl
 rw [q] at T;refine callsIn_of_wp M l trivial (zMP ((show Tr P Γ Fence.wide none L Y j _ (BF P Γ Fence.wide none L Q []) from T) N ρ _ W ⟨H,?_⟩ y rfl Bd.none) ?_) rfl
 ·rw [←fr.1];exact BE.append fr (BE.anys _ _ _ _)
 ·rintro e b o ⟨S',ρ',X,a,i,k,m,D,_⟩;cases e with
  | outgrown=>exact i.elim
  | normal=>obtain ⟨v,g,n⟩:=d _ S' ρ' X a b o i k m;exact ⟨D,v,g,n⟩
  | ret=>obtain ⟨v,g,n⟩:=d _ S' ρ' X a b o i k m;exact ⟨D,v,g,n⟩
  | exit id=>exact (d _ S' ρ' X a b o i k m).elim
  | goto t=>exact (d _ S' ρ' X a b o i k m).elim
  | panic c=>exact ⟨D,d _ S' ρ' X a b o i k m⟩
def ES.iterN {H m:Nat}{c:Nat -> DV}{h0:DH}{encs:List (List DV)}(z:ES P Γ f ds [] (.fn H m c) h0 true)(FN:ds.all GF=true) 
 (M:P.funcs[H]? =some fn) (a:fn.body.isSome=true) (hn:(fn.name== "runtime.NumGoroutine")=false) (Z:fn.results= #[])
 (S: ∀ C:Du P,C.encs=encs -> A1 P Γ Fence.wide none h0.length (C.Y Γ h0.length 0) (C.Q Γ h0.length) [.code (AR fn)] ⟨.yl C.l::(List.range m).map c++List.replicate (fn.ntmps-(m+1)) .any,h0⟩) (h:DH):ES P Γ f ds h (.it h.length) (h++[some (.iter encs)]) true:=by
 refine ⟨z.1,λN ρ w args HR A=>?_⟩;refine (z.2 (MS N h ρ) [] w args (Sc (λb a=>HR.lt2 a) HR.gi) ⟨A.1,λi hi=>?_⟩).mono ?_
 ·have hx:=Ng (zGL.1 FN (ds.getD i .any) (by simp [hi]));exact AJ.out _ (D5 (λb a=>Qz.1 a) []) (hx _ _ _ _ (A.2 i hi))
 ·rintro e w' ⟨v,rfl,⟨⟨ρ',B,g2,g3,g4⟩,E⟩⟩;have s:=E rfl;obtain ⟨F,hv,x,Sl⟩:=g2;have JJ: ∀ b,MO h0 ρ' b -> w.heap.size<=b:=λb a=>(g3.grow b a).resolve_left λ⟨k,o',p',d,_⟩=>by simp at d
  have I: ∀ b,MO h0 ρ' b -> Γ.ng<=b/\ ¬ MS N h ρ b/\ EG w' b:=λb ⟨k,o,q,d,K,r⟩=>B.cel k o q b d K r
  have Co:Γ.ng<=w.heap.size:=Γ.lo _ HR.gi;have BK:=s.size
  have y: ∀ b,MO h0 ρ' b -> b<w'.heap.size:=λb a=>by
   grind
  have lo: ∀ b,b<Γ.ng -> b<w'.heap.size/\ ¬ MS (MS N h ρ) h0 ρ' b:=λb a=>⟨zGS a (zGK Co BK),λhx=>by
   rcases hx with hx | hx
   ·have:=(HR.lt2 hx).2;omega
   ·have:=(I b hx).1;omega⟩
  let p:AI:=⟨0,0,0,v,λb=>MO h0 ρ' b⟩
  have L: ∀ b,p.foot b -> w.heap.size<=b/\ EG w' b:=λb a=>⟨JJ b a,(I b a).2.2⟩
  refine ⟨v,rfl,⟨⟨ρ++[p],HR.snoc s L ?_,⟨p,by rw [←HR.len];simp,rfl⟩,A3.snoc HR s λb a=>(L b a).1,λ_ _ h=>Eo h⟩,E⟩⟩;refine ⟨H,F,λb=>b<w'.heap.size/\ ¬ MS (MS N h ρ) h0 ρ' b,⟨hv,λargs W=>JT M a hn args W⟩,?_,λb a=>⟨λhm=>?_,a.1⟩,y⟩
  ·intro l J Jx W hJ D O hY kH _
   let C:Du P:=⟨l,encs,J,Jx,hJ,D,hY⟩
   have U: ∀ b,(b<W.heap.size/\ ¬ MO h0 ρ' b/\ ¬ (b<w'.heap.size/\ ¬ MS (MS N h ρ) h0 ρ' b)) -> MS N h ρ b∨w'.heap.size<=b:=λb ⟨_,r,q4⟩=>by
    grind [MS]
   have V:AQ (λb=>MS N h ρ b) w' W:=O.mono λb y hx=>by
    grind [MS]
   have X: ∀ b,MS N h ρ b -> MS N h ρ b/\ Γ.ng<=b:=λb a=>⟨a,(HR.lt2 a).2⟩
   have HW:Aq P Γ (λb=>b<W.heap.size/\ ¬ MO h0 ρ' b/\ ¬ (b<w'.heap.size/\ ¬ MS (MS N h ρ) h0 ρ' b)) h0 ρ' W:=B.foreign V X U λb a=>⟨a.1,zM7 λx=>a.2.2 (lo b x)⟩
   have kM:BE (MS (MS N h ρ) h0 ρ') w' ρ' ((List.range m).map c) F:=⟨by simp [x],λj hj=>by
    simp_all⟩
   have kN:=kM.out (BQ.foreign (Γ:=Γ) V X U);have T:=S C rfl;have e3:fn.ntmps-(m+1)=fn.ntmps-(.yl C.l::(List.range m).map c).length:=by simp
   rw [e3] at T
   refine vw M a T HW (BE.append (l:=[.yl C.l]) (t:=#[.func (.yield l) #[] #[]]) ⟨rfl,λj hj=>by
    have:j=0:=Nat.lt_one_iff.1 hj;subst this;rfl⟩ kN) ⟨_,_,kH,⟨⟨λb a hr=>hr.2 (.inr a),λb a=>zGS (a.elim (y b) λh=>h.1) O.size⟩,lo,λ_ h=>h,λ_=>Iff.rfl⟩⟩ ?_
   rintro e S' ρ2 N' Y' a' g d K r
   have n: ∃ v,(results fn a'.tmps).run P g= .ok v g/\ ∃ G R,EE G R g/\ ((C.J encs.length G R g/\ Tu (.returned v) G R g)∨((∃ u,Ending.returned v= .returned u)/\ C.Jx G R g)):=by
    obtain ⟨_,(rfl | rfl)⟩:=d <;> obtain ⟨G',R',k1,k2⟩:=r
    ·exact ⟨_,results_none Z _ _ _,G',R',k2.sh,.inl ⟨k1,_,rfl⟩⟩
    ·exact ⟨_,results_none Z _ _ _,G',R',k2.sh,.inr ⟨⟨_,rfl⟩,k1⟩⟩
   cases e with
   | normal=>exact n
   | ret=>exact n
   | exit id=>exact absurd d.1 (by simp)
   | goto t=>exact absurd d.1 (by simp)
   | panic ch=>exact absurd d.1 (by simp)
   | outgrown=>exact absurd d.1 (by simp)
  ·rcases hm with hm | hm
   ·exact a.2 (.inl (.inl hm))
   ·rcases MO.snoc HR hm with hm | hm
    ·exact a.2 (.inl (.inr hm))
    ·exact a.2 (.inr hm)
section
variable {P:Program} {Γ:Au}
def PE:List KI -> Option (Array Oper×List KI)
 | .code (.region _ ops false)::k=>some (ops,k)
 | _=>none
def fu (B σ:Θ)(L:Nat)(r:List DV×Nat×St×St×List Prop):List DV×Nat×List DV×DH×List DV×DH×List Prop×Bool:= (r.1,r.2.1,(Proofs.YtodinaconebmdaaGreatDoor.comp B σ r.2.2.1).fr,(Proofs.YtodinaconebmdaaGreatDoor.comp B σ r.2.2.1).h,(Proofs.YtodinaconebmdaaGreatDoor.comp B σ r.2.2.2.1).fr,(Proofs.YtodinaconebmdaaGreatDoor.comp B σ r.2.2.2.1).h,r.2.2.2.2,Km σ L r.2.2.1.h.length&&Km σ L r.2.2.2.1.h.length)
variable {i:Nat}
def A1.yieldAt {L:Nat}{C:Du P}{Q:QY P Γ L}{S:St}{K k:List KI}{ops:Array Oper}(e:Dv Fence.wide P)(j:PE K=some (ops,k))(v:DF ops=true)(p:Nat)(M:BR){x:List DV}(B σ:Θ)(y:List DV)(b:DH)(z:List DV)(c:DH)(vs:List Prop) 
 (h:(T0 P Γ ops p S M).map (fu B σ L)=some (x,C.l,y,b,z,c,vs,true)) (f:Bp vs) (g:C.encs[i]? =some x) (d:JB k=true) (m:A1 P Γ Fence.wide none L (C.Y Γ L (i+1)) Q k ⟨y,b⟩) (n:A1 P Γ Fence.wide none L (C.X Γ L) Q k ⟨z,c⟩):A1 P Γ Fence.wide none L (C.Y Γ L i) Q K S:=by
 unfold PE at j;split at j
 ·rename_i id gA k';cases j;cases a:T0 P Γ ops p S M with
  | none=>rw [a] at h;cases h
  | some r=>
   obtain ⟨xs,l,ST,o,Da⟩:=r;rw [a] at h;simp only [zID,fu,zHz,zIP,zEh] at h;obtain ⟨rfl,rfl,rfl,rfl,rfl,rfl,rfl,q,D⟩:=h;exact Tr.yield e v a f g (Bi.le (A8.comp B σ ST q) d m) (Bi.le (A8.comp B σ o D) d n)
 ·cases j
variable {α β:Type}
def SQ {o:Option α}{f:α -> β}{r:β}(h:o.map f=some r): ∃ a,o=some a/\ r=f a:=by
 cases o with
 | none=>cases h
 | some a=>cases h;exact ⟨a,rfl,rfl⟩
def ke {l:List β}{f:α -> β}{x:α}{r:List α}(hd:l.drop i=(x::r).map f):l[i]? =some (f x)/\ i+1<=l.length/\ l.drop (i+1)=r.map f:=by
 grind [List.drop_eq_nil_of_le,List.drop_eq_getElem_cons]
def Wz {l:List β}{f:α -> β}(hi:i<=l.length)(r:l.drop i=([]:List α).map f):i=l.length:=by
 have:=congrArg List.length r;simp at this;omega
end
def Bw (x:Int):List DV:=[.int .i64 x]
def Qc (x:Δ):List DV:=[.int .i64 x.1,.int .i64 x.2]
end
section
def Jk:DV -> Bool
 | .ints _=>false
 | .bools _=>false
 | .sl .. =>false
 | .fp .. =>false
 | .agg m f=>(List.range m).all λj=>Jk (f j)
 | .tup m f=>(List.range m).all λj=>Jk (f j)
 | .fn _ m f=>(List.range m).all λj=>Jk (f j)
 | _=>true
def UZ:Option DO -> Bool
 | none=>true
 | some (.cells l)=>l.all Jk
 | some (.ints _)=>true
 | some (.bools _)=>true
 | some (.mo _)=>true
 | _=>false
def MOf (H:DH)(σ:Θ)(ρ:List AI)(b:Nat):Prop:=∃ (k:Nat) (o:DO) (p:AI),k∈σ/\ H[k]? =some (some o)/\ ρ[k]? =some p/\ p.foot b
def Mu (H:DH)(σ:Θ)(d C:DV):Prop:=∀ (P:Program) (Γ:Au) (N:Ψ) (ρ:List AI) (w:World) (v:Value),Aq P Γ N H ρ w -> AJ (MS N H ρ) w d ρ v -> AJ (MOf H σ ρ) w C [] v
variable {ρ ρ':List AI}{b:Nat}{σ:Θ}{w:World}{M:Ψ}
theorem oS {C:Ψ}(B: ∀ (k:Nat) (p:AI),ρ[k]? =some p -> ρ'[Db σ b k]? =some p): ∀ (d:DV) {v:Value},Jk d=true -> AJ M w d ρ v -> AJ C w (up σ b d) ρ' v:=by
 intro d
 induction d with
 | any=>intro v _ _;trivial
 | nils=>intro v _ h;exact h
 | int k n=>intro v _ h;exact h
 | bool b=>intro v _ h;exact h
 | str s=>intro v _ h;exact h
 | ints l=>intro v q h;cases q
 | bools l=>intro v q h;cases q
 | sl m n f _=>intro v q h;cases q
 | fp m f _=>intro v q h;cases q
 | agg m f U=>
  rintro v q ⟨cs,e,y,h⟩;simp only [Jk,zGL,zGQ] at q;exact ⟨cs,e,y,λj t=>let ⟨u,z,A⟩:=h j t;⟨u,z,Ir t (U j (q j t) A)⟩⟩
 | tup m f U=>
  rintro v q ⟨cs,e,y,h⟩;simp only [Jk,zGL,zGQ] at q;exact ⟨cs,e,y,λj t=>let ⟨u,z,A⟩:=h j t;⟨u,z,Ir t (U j (q j t) A)⟩⟩
 | fn g m c U=>
  rintro v q ⟨cs,e,y,h⟩;simp only [Jk,zGL,zGQ] at q;exact ⟨cs,e,y,λj t=>let ⟨u,z,A⟩:=h j t;⟨u,z,Ir t (U j (q j t) A)⟩⟩
 | ref k j=>rintro v _ ⟨p,x,r⟩;exact ⟨p,B k p x,r⟩
 | msl k m o n=>rintro v _ ⟨p,cap,x,r⟩;exact ⟨p,cap,B k p x,r⟩
 | mp k m i j=>rintro v _ ⟨p,x,r⟩;exact ⟨p,B k p x,r⟩
 | it k=>rintro v _ ⟨p,x,r⟩;exact ⟨p,B k p x,r⟩
 | cst u=>intro v _ h;exact h
 | yl l=>intro v _ h;exact h
 | mse k m o n=>rintro v _ ⟨p,a,cap,x,r⟩;exact ⟨p,a,cap,B k p x,r⟩
 | mri k i=>rintro v _ ⟨p,vs,x,r⟩;exact ⟨p,vs,B k p x,r⟩
theorem ze {P:Program}{d:Ψ}{p:AI}(hρ: ∀ (k:Nat) (p:AI),ρ[k]? =some p -> ρ'[Db σ b k]? =some p){o o':DO}(c:UZ (some o)=true)(a:Dh σ b (some o)=some o')(h:EF P M w ρ p o):EF P d w ρ' p o':=by
 cases o with
 | cells l=>
  cases a
  show AX w p (l.map (up σ b)).length _
  rw [zGX];refine AX.out h rfl λj u hj q=>?_
  grind [oS,UZ]
 | ints l=>cases a;exact AX.out h rfl λj u _ q=>q
 | bools l=>cases a;exact AX.out h rfl λj u _ q=>q
 | arr m n f=>cases c
 | iter encs=>cases c
 | ro l=>cases c
 | mo x=>cases a;exact h
section
variable {P:Program} {Γ:Au}
def ES.embedS {f:Nat}{ds:List DV}{h:DH}{d:DV}{h':DH}{ext:Bool}(E7:ES P Γ f ds h d h' ext)(σ:Θ)(H:DH)(Z:σ.Nodup)(AU: ∀ k∈σ,k<H.length)(hl:σ.length=h.length)(Fc:h.length<=h'.length) 
 (hh:(σ.map λk=>H.getD k none)=h.map (Dh σ H.length)) {S:List DV} (Am:S.length=ds.length) (zIm: ∀ i,i<ds.length -> S.getD i .any=up σ H.length (ds.getD i .any)∨Mu H σ (S.getD i .any) (ds.getD i .any)) (hsd:Jk d=true) (IX:h'.all UZ=true):ES P Γ f S H (up σ H.length d) (DX H σ h') ext:=by
 refine ⟨E7.1,λN ρ w args HR CT=>?_⟩;obtain ⟨ρ0,iR⟩: ∃ ρ0,ρ0=σ.map λk=>ρ.getD k gN:=⟨_,rfl⟩
 have gy:ρ0.length=σ.length:=by rw [iR];simp
 have Id: ∀ {i k:Nat},σ[i]? =some k -> ρ0[i]? =ρ[k]? :=λ{i k} hk=>by
  have Gb:k<ρ.length:=by rw [HR.len];exact AU k (zHw hk)
  grind
 have eA: ∀ {i:Nat},i<σ.length -> ∃ k,σ[i]? =some k/\ Db σ H.length i=k:=λ{i} hi=>by
  simp_all [Db]
 have F: ∀ {i:Nat} {o:DO},h[i]? =some (some o) -> ∃ k o',σ[i]? =some k/\ H[k]? =some (some o')/\ Dh σ H.length (some o)=some o':=λ{i o} hi=>by
  have J9:i<σ.length:=by grind
  obtain ⟨k,hk,_⟩:=eA J9;have e:=congrArg (·[i]?) hh;simp only [zIC,hk,hi,zID] at e;have E6:=AU k (zHw hk);have e:H.getD k none=Dh σ H.length (some o):=zGJ e;have r: ∃ o',Dh σ H.length (some o)=some o':=by cases o <;> exact ⟨_,rfl⟩
  grind
 have rQ: ∀ {i k:Nat} {o':DO},σ[i]? =some k -> H[k]? =some (some o') -> ∃ o,h[i]? =some (some o)/\ Dh σ H.length (some o)=some o':=λ{i k o'} hk ho=>by
  have J9:i<h.length:=by grind
  have e:=congrArg (·[i]?) hh
  grind [RF]
 obtain ⟨M,QR⟩: ∃ M:Ψ,M=λ_=>False:=⟨_,rfl⟩
 have J: ∀ b,MO h ρ0 b -> MO H ρ b:=by
  rintro b ⟨i,o,p,j,u,g⟩;obtain ⟨k,o',q,r,_⟩:=F j;exact ⟨k,o',p,r,(Id q).symm.trans u,g⟩
 have gR: ∀ b,MS M h ρ0 b -> MS N H ρ b:=by
  rintro b (hb | hb)
  ·rw [QR] at hb;exact hb.elim
  ·exact .inr (J b hb)
 have dn: ∀ (k:Nat) (p:AI),ρ[Db σ H.length k]? =some p -> ρ0[k]? =some p:=λk p l=>by
  by_cases hk:k<σ.length
  ·grind
  ·unfold Db at l;rw [zGN hk] at l;have:=(zGe.1 l).1;rw [HR.len] at this;omega
 have a: ∀ {k:Nat} {o:DO} {p:AI} {b:Nat},Dj σ k=none -> H[k]? =some (some o) -> ρ[k]? =some p -> p.foot b -> ¬ MO h ρ0 b:=by
  rintro Q K p2 b y n m D ⟨i,o,p,j,u,g⟩;obtain ⟨k,o',q,r,_⟩:=F j;have l:=(Id q).symm.trans u;refine HR.dis k Q o' K p p2 b ?_ r n l m g D;rintro rfl;rw [Rq Z q] at y;cases y
 have H0:Aq P Γ M h ρ0 w:=by
  refine ⟨by rw [gy,hl],λi o hi=>?_,λi o p b j u g=>?_,λi U o1 K R p2 b AY j u g g4 g5 g6=>?_,λb hb=>HR.lt2 (gR b (.inl hb)),HR.gi⟩
  ·obtain ⟨k,o',q,r,e3⟩:=F hi;obtain ⟨p,l,hr⟩:=HR.obj k o' r
   grind [vL]
  ·obtain ⟨k,o',q,r,e3⟩:=F j;obtain ⟨y,n,m⟩:=HR.cel k o' p b r ((Id q).symm.trans u) g
   grind
  ·obtain ⟨k,o',q,r,e3⟩:=F j;obtain ⟨Q,gG,TQ,Wx,e3'⟩:=F u;refine HR.dis k Q o' gG R p2 b ?_ r Wx ((Id q).symm.trans g) ((Id TQ).symm.trans g4) g5 g6;rintro rfl;have T:=Rq Z q;have A:=Rq Z TQ
   grind
 refine (E7.2 M ρ0 w args H0 ⟨by rw [←CT.1,Am],λi hi=>?_⟩).mono ?_
 ·have:=CT.2 i (by rw [Am];exact hi);rcases zIm i hi with e | e
  ·grind [br]
  ·refine Rp (AJ.out _ (D5 (λb hb=>?_) []) (e P Γ N ρ w _ HR this));rcases hb with hb | ⟨i,o,p,j,u,g⟩
   ·rw [QR] at hb;exact hb.elim
   ·obtain ⟨k,o',q,r,_⟩:=F j;exact ⟨k,o',p,zHw q,r,(Id q).symm.trans u,g⟩
 ·rintro e w' ⟨v,rfl,⟨⟨ρ1,j,u,g,g4⟩,g5⟩⟩;have l1:ρ1.length=h'.length:=j.len;obtain ⟨ρ',W⟩: ∃ ρ',ρ'=ρ++ρ1.drop σ.length:=⟨_,rfl⟩
  have at1: ∀ {i k:Nat},σ[i]? =some k -> ρ1[i]? =ρ[k]? :=λ{i k} hk=>by
   grind
  have K1: ∀ {k:Nat},k<H.length -> ρ'[k]? =ρ[k]? :=λ{k} hk=>by rw [W,zIu (by rw [HR.len];exact hk)]
  have dS: ∀ (k:Nat) (p:AI),ρ1[k]? =some p -> ρ'[Db σ H.length k]? =some p:=λk p l=>by
   by_cases hk:k<σ.length
   ·grind
   ·unfold Db;rw [zGN hk,W,zH1 (by rw [HR.len];omega),zMT,HR.len]
    simp_all
  have gx:(DX H σ h').length=H.length+(h'.length-σ.length):=by simp [DX]
  have L: ∀ {k:Nat} {o':DO},(DX H σ h')[k]? =some (some o') -> (k<H.length/\ Dj σ k=none/\ H[k]? =some (some o')/\ ρ'[k]? =ρ[k]?)∨∃ i o,h'[i]? =some (some o)/\ Dh σ H.length (some o)=some o'/\ ρ'[k]? =ρ1[i]? /\ k=Db σ H.length i:=by
   intro k o' hk
   by_cases E6:k<H.length
   ·unfold DX at hk;rw [zIu (by simpa using E6),zIC,List.getElem?_range E6] at hk;simp only [zID,zHz] at hk;split at hk
    ·rename_i i hi;have his:=Kr hi;obtain ⟨o0,e0⟩:=RF hk
     grind
    grind
   ·unfold DX at hk;rw [zH1 (by simp;omega),zIC,zMT] at hk;simp only [zGX,zMw] at hk;cases G:h'[σ.length+(k-H.length)]? with
    | none=>rw [G] at hk;cases hk
    | some x=>
     rw [G] at hk;have hk:Dh σ H.length x=some o':=zGJ hk;obtain ⟨o0,e0⟩:=RF hk;subst e0;refine .inr ⟨σ.length+(k-H.length),o0,G,hk,?_,?_⟩
     ·rw [W,zH1 (by rw [HR.len];omega),zMT,HR.len]
     simp_all [Db,zGN]
  have back: ∀ {k:Nat} {o:DO},Dj σ k=none -> H[k]? =some (some o) -> (DX H σ h')[k]? =some (some o):=by
   grind [DX]
  have B: ∀ {k:Nat} {o:DO} {p:AI} {b:Nat},Dj σ k=none -> H[k]? =some (some o) -> ρ[k]? =some p -> p.foot b -> ¬ MO h' ρ1 b:=λ{k o p b} y n m D hm=>by
   rcases g.grow b hm with hg | hg
   ·exact a y n m D hg
   ·exact absurd (HR.lt (.inr ⟨k,o,p,n,m,D⟩)) (Nat.not_lt.2 hg)
  have E: ∀ b,MO (DX H σ h') ρ' b -> MO H ρ b∨w.heap.size<=b:=by
   rintro b ⟨k,o',p,y,n,m⟩;rcases L y with ⟨T,A,a3,a4⟩ | ⟨i,o,T,A,a3,a4⟩
   ·exact .inl ⟨k,o',p,a3,a4.symm.trans n,m⟩
   ·exact (g.grow b ⟨i,o,p,T,a3.symm.trans n,m⟩).imp (J b) id
  have pl: ∀ (k:Nat) (p:AI),ρ[k]? =some p -> ρ'[k]? =some p:=λk p l=>by
   grind
  have O:BQ (MS N H ρ) w ρ (MS N (DX H σ h') ρ') w' ρ':=
   ⟨λb hb hm _=>g.upd.block b hb λG=>hm (.inr (J b G)),λb hb=>hb.elim (λhb=>.inl (.inl hb)) (λhb=>(E b hb).imp .inr id),pl⟩
  refine ⟨v,rfl,⟨⟨ρ',⟨?_,λk o' hk=>?_,λk o' p b y n m=>?_,λk Q o1 K R p2 b AY y n m D X Y=>?_,λb hb=>⟨zGS (HR.nlt b hb).1 g.upd.size,(HR.nlt b hb).2⟩,j.gi⟩,oS dS _ hsd u,⟨g.upd.mono λb _ hb=>J b hb,E⟩,pl⟩,g5⟩⟩
  ·rw [gx,W];simp [HR.len,l1]
  ·rcases L hk with ⟨T,A,a3,a4⟩ | ⟨i,o,T,A,a3,a4⟩
   ·obtain ⟨p,l,hr⟩:=HR.obj k o' a3;refine ⟨p,a4.trans l,hr.out O g.upd (λb hb=>.inr (J b hb)) λb _ hf hs=>?_⟩;exact a A a3 l hf hs
   ·obtain ⟨p,l,hr⟩:=j.obj i o T
    grind [ze]
  ·rcases L y with ⟨T,A,a3,a4⟩ | ⟨i,o,T,A,a3,a4⟩
   ·have l:=a4.symm.trans n;obtain ⟨C,I,c,t,z,s⟩:=HR.cel k o' p b a3 l m;refine ⟨C,I,c,t,z,(g.upd.block b (zGI.1 s).1 λG=>?_).trans s⟩;exact a A a3 l m G
   ·obtain ⟨C,I,s⟩:=j.cel i o p b T (a3.symm.trans n) m;refine ⟨C,λhb=>?_,s⟩;rcases g.grow b ⟨i,o,p,T,a3.symm.trans n,m⟩ with hg | hg
    ·obtain ⟨k2,K,p2,d1,d2,d3⟩:=J b hg;exact (HR.cel k2 K p2 b d1 d2 d3).2.1 hb
    ·exact absurd (HR.nlt b hb).1 (Nat.not_lt.2 hg)
  ·rcases L y with ⟨T,A,a3,a4⟩ | ⟨i,o,T,A,a3,a4⟩
   ·rcases L n with ⟨C,I,s,V⟩ | ⟨U,o',C,I,s,V⟩
    ·exact HR.dis k Q o1 K R p2 b AY a3 s (a4.symm.trans m) (V.symm.trans D) X Y
    ·exact B A a3 (a4.symm.trans m) X ⟨U,o',p2,C,s.symm.trans D,Y⟩
   ·rcases L n with ⟨C,I,s,V⟩ | ⟨U,o',C,I,s,V⟩
    ·exact B I s (V.symm.trans D) Y ⟨i,o,R,T,a3.symm.trans m,X⟩
    ·refine j.dis i U o o' R p2 b ?_ T C (a3.symm.trans m) (s.symm.trans D) X Y
     grind
end
variable {h:DH}
def Mu.own {σ:Θ}{j:Nat}{f:Int -> Ξ}{x:Int}{L:Ξ}{g:Bool}(hk:h[j]? =some (some (.mo (.rows f (some (x,L,g))))))(d:σ.contains j=false):Mu h σ (.mri j 1) (.ints L):=by
 rintro P Γ N ρ w v H ⟨p,vs,a,B,b⟩;obtain ⟨p',U,u,es,Ak,A⟩:=H.obj j _ hk;have:p'=p:=zGJ (U.symm.trans a);subst this;have e: #[Value.map (some p'.blk),u]=vs:=by have:=A.val.symm.trans B;cases this;rfl
 subst e;have T:v=u:=by simpa using b.symm
 subst T;rcases (A.inHand x L g rfl).1 with ⟨rfl,rfl⟩ | ⟨q,cap,rfl,c,h2,l,m,h5⟩
 ·exact ⟨none,0,rfl,zGT _,zIG _,λj d=>absurd d (zGR j)⟩
 ·refine ⟨_,cap,rfl,c,l,λi hi=>⟨q.blk,q.off,rfl,?_,?_⟩⟩
  ·rintro ⟨k,o,p2,g1,s,O,n⟩;refine H.dis k j o _ p2 p' q.blk (λe=>?_) s hk O a n m.1
   grind
  grind [AX.cell]
def aA (H:DH)(σ:Θ):List DV -> List DV -> Prop
 | [],[]=>True
 | d1::w,d::ds=>(d1=up σ H.length d∨Mu H σ d1 d)/\ aA H σ w ds
 | _,_=>False
def gj {H:DH}{σ:Θ}: ∀ {w ds:List DV},aA H σ w ds -> w.length=ds.length/\ ∀ i,i<ds.length -> w.getD i .any=up σ H.length (ds.getD i .any)∨Mu H σ (w.getD i .any) (ds.getD i .any)
 | [],[],_=>⟨rfl,λi hi=>absurd hi (zGR i)⟩
 | d1::w,d::ds,⟨h1,b⟩=>by
  obtain ⟨g1,g2⟩:=gj b
  grind
 | [],_::_,h=>h.elim
 | _::_,[],h=>h.elim
def ES.embedSB {P:Program}{Γ:Au}{f:Nat}{ds:List DV}{d:DV}{h':DH}{ext:Bool}(u:ES P Γ f ds h d h' ext)(σ:Θ)(H:DH){w:List DV}(D:aA H σ w ds)(c:OR σ H.length h.length h'.length=true)(x:(σ.map λk=>H.getD k none)=h.map (Dh σ H.length))(j:(Jk d&&h'.all UZ)=true):
 ES P Γ f w H (up σ H.length d) (DX H σ h') ext:=by
 simp only [OR,zEh,zHx,zGL] at c;rw [zEh] at j;exact u.embedS σ H c.1.1.1 (λk hk=>c.1.1.2 k hk) c.1.2 c.2 x (gj D).1 (gj D).2 j.1 j.2
end
structure HX (F:Fence)(P:Program):Prop where
 f:Dv F P
 m:P.follows .mixedOrders=true
structure HS (c:List (DV×DH×Bool))(o:List (Nat×DV))(z:List (Nat×Fz))(v:List Prop):Prop where
 all:Bp v
section
variable {P:Program} {Γ:Au} {cs:List (DV×DH×Bool)} {os:List (Nat×DV)} {zs:List (Nat×Fz)} {vs:List Prop}
def H0:HS [] [] [] []:=⟨trivial⟩
variable {p:Prop}
theorem HS.add (q:HS cs os zs vs){S:List (DV×DH×Bool)}{o':List (Nat×DV)}{a:List (Nat×Fz)}(h:p):HS S o' a (vs++[p]):=⟨DY.2 ⟨q.all,h,trivial⟩⟩
variable {d:DV}
def HS.o (q:HS cs os zs vs)(t:Nat){d':DV}(x:AN d d'):HS cs (os++[(t,d')]) zs (vs++[AN d d']):=q.add x
def HS.b (q:HS cs os zs vs)(t:Nat){a b:Bool}(x:a=b):HS cs (os++[(t,.bool b)]) zs (vs++[AN (.bool a) (.bool b)]):=q.add (AN.bool x)
def HS.w (q:HS cs os zs vs)(t:Nat){x:Int}(h:AG x):HS cs (os++[(t,.int .i64 x)]) zs (vs++[AN (.int .i64 (IntKind.i64.wrap x)) (.int .i64 x)]):=q.add (xT h)
def HS.g (q:HS cs os zs vs)(x:p):HS cs os zs (vs++[p]):=q.add x
def HS.t (q:HS cs os zs vs):HS cs os zs (vs++[True]):=q.add trivial
def HS.c (q:HS cs os zs vs){f:Nat}{ds:List DV}{h:DH}{h':DH}{e:Bool}(x:ES P Γ f ds h d h' e):HS (cs++[(d,h',e)]) os zs (vs++[ES P Γ f ds h d h' e]):=q.add x
def HS.a (q:HS cs os zs vs)(t k m:Nat){n W:Nat}{f b:Nat -> Nat -> DV}(x:n=W/\ ∀ i j,i<n -> j<m -> AN (f i j) (b i j)):HS cs os (zs++[(t,.arr k W b)]) (vs++[n=W/\ ∀ i j,i<n -> j<m -> AN (f i j) (b i j)]):=q.add x
def HS.z (q:HS cs os zs vs)(t k:Nat):HS cs os (zs++[(t,.frz k)]) vs:=⟨q.all⟩
def HS.u (q:HS cs os zs vs)(t k:Nat):HS cs os (zs++[(t,.unf k)]) vs:=⟨q.all⟩
end
def ES.emC {P:Program}{Γ:Au}{f:Nat}{ds:List DV}{h:DH}{d:DV}{h':DH}{ext:Bool}(u:ES P Γ f ds h d h' ext)(σ:Θ)(H:DH)(c:OR σ H.length h.length h'.length=true)(x:(σ.map λk=>H.getD k none)=h.map (Dh σ H.length)):ES P Γ f (ds.map (up σ H.length)) H (up σ H.length d) (DX H σ h') ext:=
 u.embedB σ H c x rfl
def IR {α:Type} [Inhabited α] (c:α -> List DV) (L:List α) (n m:Nat) (h: ∀ x,(c x).all J1=true/\ m=(c x).length): ∀ i j,i<n -> j<m -> J1 (AK c L i j)=true:=λi j _ d=>zD9 (h _).1 (h _).2 j d
def frzL:Θ -> St -> Option (St×List Prop)
 | [],S=>some (S,[])
 | k::W,S=>match Wh k S with
  | some (S',vs)=>match frzL W S' with
   | some (R,b)=>some (R,vs++b)
   | none=>none
  | none=>none
def A8.frzL {L:Nat}: ∀ (W:Θ) {S S':St} {vs:List Prop},Proofs.YtodinaconebmdaaGreatDoor.frzL W S=some (S',vs) -> Bp vs -> A8 L S S'
 | [],S,S',vs,h,_=>by cases h;exact A8.refl L S
 | k::W,S,S',vs,h,p=>by
  simp only [Proofs.YtodinaconebmdaaGreatDoor.frzL] at h;split at h
  ·rename_i e f a;split at h
   ·rename_i S2 FW h2;cases h;obtain ⟨b,I⟩:=DY.1 p;exact (A8.frzE k e f a b).trans (A8.frzL W h2 I)
   ·cases h
  ·cases h
abbrev dA:=List Prop×List Prop×List (DV×DH×Bool)×List (Nat×DV)×Bool
def Ru (σ:Θ)(L:Nat)(w:List Prop)(r:KO×St×List Prop×BR):dA:=(r.2.2.1,w,r.2.2.2.calls,r.2.2.2.co,Km σ L r.2.1.h.length)
def Nb (B σ:Θ)(L:Nat)(W:Θ)(r:KO×St×List Prop×BR):Option (KO×List DV×DH×dA):=match frzL W (comp B σ r.2.1) with
 | some (S,w)=>some (r.1,S.fr,S.h,Ru σ L w r)
 | none=>none
def sP:KO -> Option Exit
 | .ret=>some .ret
 | .at []=>some .normal
 | .at (.code (.exit i)::k)=>if (Jz i k).isNone then some (.exit i) else none
 | _=>none
def Kz (P:Program)(B σ:Θ)(L:Nat)(W:Θ)(fn:Func)(d:DV)(J:Nat)(r:KO×St×List Prop×BR):Option (Bool×List DV×DH×dA):=match frzL W (comp B σ r.2.1) with
 | some (S,w)=>match NR P S fn.results.toList with
  | some k=>some ((match r.1 with | .ret=>true | .at []=>true | _=>false)&&(decide (S.h.length<=J)||(S.h.all Ve&&GF d&&decide (L<=S.h.length))),k,(if S.h.length<=J then S.h else (GN (List.range L) S).h),Ru σ L w r)
  | none=>none
 | none=>none
def fv (σ:Θ)(L:Nat)(r:KO×St×List Prop×BR):Option Exit×DH×dA:=(sP r.1,(comp [] σ r.2.1).h,Ru σ L [] r)
section
variable {P:Program} {Γ:Au} {F:Fence} {B:Option Nat} {L:Nat} {Y N:BL P Γ L} {Q:QY P Γ L} {k k':List KI} {S:St} {fr:List DV} {h' h2:DH} {c:List (DV×DH×Bool)} {o:List (Nat×DV)} {z:List (Nat×Fz)} {v w:List Prop}
def zDy {B σ W:Θ}{r:KO×St×List Prop×BR}{l:KO}(h:Nb B σ L W r=some (l,fr,h',v,w,[],[],true))(U:Bp w):r.1=l/\ r.2.2.1=v/\ A8 L r.2.1 ⟨fr,h'⟩:=by
 unfold Nb at h;split at h
 ·rename_i S1 w1 M;simp only [Ru,zHz,zIP] at h;obtain ⟨rfl,rfl,rfl,rfl,rfl,_,_,j⟩:=h;exact ⟨rfl,rfl,(A8.comp B σ r.2.1 j).trans (A8.frzL W M U)⟩
 ·cases h
def Bi.gS (e:HX F P)(g:Be)(n:Nat)(a σ:Θ)(tg:List (List (Nat×Nat)×St))(j:HS c o z v)(W:Θ)(p:HS [] [] [] w)(k':List KI)(fr:List DV)(h':DH) 
 (h:(CN P Γ g n k S ⟨c,o,z,tg⟩).bind (Nb a σ L W)=some (.at k',fr,h',v,w,[],[],true)) (q:JB k'=true) (hk:A1 P Γ F B L Y Q k' ⟨fr,h'⟩):A1 P Γ F B L Y Q k S:=by
 cases i:CN P Γ g n k S ⟨c,o,z,tg⟩ with
 | none=>rw [i] at h;cases h
 | some r=>
  obtain ⟨l,s,K,o1⟩:=r;rw [i] at h;obtain ⟨b,d,t⟩:=zDy (r:=(l,s,K,o1)) h p.all;have b:l= .at k':=b;have d:K=v:=d;subst b d;exact GH e.f e.m n k S _ _ _ _ _ i j.all (Bi.le t q hk)
variable {d:DV}{fn:Func}
theorem Bi.el (t:HX F P)(u:Be)(n:Nat)(a σ:Θ)(tg:List (List (Nat×Nat)×St))(C:HS c o z v)(W:Θ)(D:HS [] [] [] w)(j:List DV)(A:AN (IF j) d) 
 (h:(CN P Γ u n k S ⟨c,o,z,tg⟩).bind (Kz P a σ L W fn d h2.length)=some (true,j,h2,v,w,[],[],true)):Bi P Γ F B L N (Cy P fn L d h2) k S:=by
 cases l:CN P Γ u n k S ⟨c,o,z,tg⟩ with
 | none=>rw [l] at h;cases h
 | some r=>
  obtain ⟨y,g,K,o1⟩:=r;rw [l] at h;have h:Kz P a σ L W fn d h2.length (y,g,K,o1)=some (true,j,h2,v,w,[],[],true):=h;unfold Kz at h;split at h
  ·rename_i p w1 M;split at h
   ·rename_i E G;simp only [Ru,zHz,zIP,zEh] at h;obtain ⟨⟨q,i⟩,rfl,x,rfl,rfl,_,_,H⟩:=h;have I:A8 L g p:=(A8.comp a σ g H).trans (A8.frzL W M D.all)
    have b: ∀ e,(e= .normal∨e= .ret) -> Cy P fn L d h2 e g:=λe J=>by
     refine Cy.le I ⟨J,p,A8.refl _ _,E,G,?_⟩
     by_cases s:p.h.length<=h2.length
     ·rw [zEZ s] at x;exact .inl ⟨A,x⟩
     ·rw [zGN s] at x;simp only [s,decide_false,zMO,zEh,zHx] at i;exact .inr ⟨PT i.1.1,A,Ng i.1.2,i.2,x⟩
    refine GH t.f t.m n k S _ _ _ _ _ l C.all ?_;rcases y with (_ | ⟨_,_⟩) | _
    ·exact ⟨rfl,b _ (.inl rfl)⟩
    ·cases q
    ·exact ⟨rfl,b _ (.inr rfl)⟩
   ·cases h
  ·cases h
def Bi.e (g:HX F P)(b:Be)(n:Nat)(a σ:Θ)(tg:List (List (Nat×Nat)×St))(m:HS c o z v)(W:Θ)(j:HS [] [] [] w) 
 (h:(CN P Γ b n k S ⟨c,o,z,tg⟩).bind (λr=>(Kz P a σ L W fn d h2.length r).map λq=>(q.1,IF q.2.1,q.2.2))=some (true,d,h2,v,w,[],[],true)):Bi P Γ F B L N (Cy P fn L d h2) k S:=by
 cases i:CN P Γ b n k S ⟨c,o,z,tg⟩ with
 | none=>rw [i] at h;cases h
 | some r=>
  rw [i] at h;have h:(Kz P a σ L W fn d h2.length r).map (λq=>(q.1,IF q.2.1,q.2.2))=some (true,d,h2,v,w,[],[],true):=h;cases f:Kz P a σ L W fn d h2.length r with
  | none=>rw [f] at h;cases h
  | some q=>
   obtain ⟨q1,l,q3⟩:=q;rw [f] at h;simp only [zID,zHz,zIP] at h;obtain ⟨rfl,p,rfl⟩:=h;exact Bi.el g b n a σ tg m W j l (AN.of_eq p) (by rw [i];exact f)
def Zj (P:Program)(L:Nat)(W:Θ)(fn:Func)(d:DV)(J:Nat)(S:St):Option (Bool×List DV×DH×List Prop):=match frzL W S with
 | some (S,w)=>match NR P S fn.results.toList with
  | some k=>some (decide (S.h.length<=J)||(S.h.all Ve&&GF d&&decide (L<=S.h.length)),k,(if S.h.length<=J then S.h else (GN (List.range L) S).h),w)
  | none=>none
 | none=>none
theorem Cy.el {e:Exit}(J:e= .normal∨e= .ret)(W:Θ)(v:HS [] [] [] w)(k:List DV)(A:AN (IF k) d)(h:Zj P L W fn d h2.length S=some (true,k,h2,w)):Cy P fn L d h2 e S:=by
 unfold Zj at h;split at h
 ·rename_i p w1 M;split at h
  ·rename_i l o;simp only [zHz,zIP] at h;obtain ⟨a,rfl,x,rfl⟩:=h;refine Cy.le (A8.frzL W M v.all) ⟨J,p,A8.refl _ _,l,o,?_⟩
   by_cases N:p.h.length<=h2.length
   ·rw [zEZ N] at x;exact .inl ⟨A,x⟩
   ·rw [zGN N] at x;simp only [N,decide_false,zMO,zEh,zHx] at a;exact .inr ⟨PT a.1.1,A,Ng a.1.2,a.2,x⟩
  ·cases h
 ·cases h
def Cy.e {e:Exit}(he:e= .normal∨e= .ret)(W:Θ)(hz:HS [] [] [] w)(h:(Zj P L W fn d h2.length S).map (λq=>(q.1,IF q.2.1,q.2.2))=some (true,d,h2,w)):Cy P fn L d h2 e S:=by
 cases a:Zj P L W fn d h2.length S with
 | none=>rw [a] at h;cases h
 | some q=>
  obtain ⟨q1,rs,q3⟩:=q;rw [a] at h;simp only [zID,zHz,zIP] at h;obtain ⟨rfl,hd,rfl⟩:=h
  grind [Cy.el,AN.of_eq]
def Bi.r (d:HX F P){V:List Exit}{i:Nat}{e:Exit}(g:Be)(n:Nat)(σ:Θ)(tg:List (List (Nat×Nat)×St))(l:HS c o z v)(J:(Exit.normal::V)[i]? =some e) 
 (h:(CN P Γ g n k S ⟨c,o,z,tg⟩).map (fv σ L)=some (some e,h2,v,[],[],[],true)):Bi P Γ F B L N (C1 L V i h2) k S:=by
 cases b:CN P Γ g n k S ⟨c,o,z,tg⟩ with
 | none=>rw [b] at h;cases h
 | some r=>
  obtain ⟨r1,j,v1,o1⟩:=r;rw [b] at h;simp only [zID,fv,Ru,zHz,zIP] at h;obtain ⟨hk,x,rfl,_,_,_,p⟩:=h;have a:stay N (C1 L V i h2) e j N:=⟨rfl,J,_,A8.comp [] σ j p,x⟩;refine GH d.f d.m n k S _ _ _ _ _ b l.all ?_;unfold sP at hk;split at hk
  ·cases hk;exact a
  ·cases hk;exact a
  ·rename_i i' k';split at hk
   ·rename_i q;cases hk;exact Tr.exit (TK a k' (Option.isNone_iff_eq_none.1 q))
   ·cases hk
  ·cases hk
def HF.g (e:HX F P){Q:Exit -> St -> Prop}{I a:Code}(d:Be)(n:Nat)(b σ:Θ)(i:HS c o z v)(fr:List DV)(h':DH) 
 (h:(CN P Γ d n [.code I] S ⟨c,o,z,[]⟩).map (VZ b σ L)=some (.at [],fr,h',v,[],[],true)) (hk: ∀ x:BL P Γ L,Bi P Γ F B L x Q [.code a] ⟨fr,h'⟩):HF P Γ F B L N Q I a S:=
 HF.go e.f e.m d n _ b σ fr h' v h i.all hk
end
section
variable {P:Program} {Γ:Au} {L:Nat} {k:List KI} {S:St} {c:List (DV×DH×Bool)} {o:List (Nat×DV)} {z:List (Nat×Fz)} {v:List Prop}
variable {C:Du P}
def TrI.e {Y:BL P Γ L}(a:HX Fence.wide P)(b:Be)(n:Nat)(d:HS c o z v) 
 (h:(CN P Γ b n k S ⟨c,o,z,[]⟩).map (λr=>((match r.1 with | .ret=>true | .at []=>true | _=>false),r.2.2.1))=some (true,v)) (G:Y=C.Y Γ L C.encs.length∨Y=C.X Γ L):A1 P Γ Fence.wide none L Y (C.Q Γ L) k S:=by
 cases i:CN P Γ b n k S ⟨c,o,z,[]⟩ with
 | none=>rw [i] at h;cases h
 | some r=>
  obtain ⟨l,S1,Da,o1⟩:=r;rw [i] at h;simp only [zID,zHz,zIP] at h;obtain ⟨g,rfl⟩:=h;refine GH a.f a.m n k S _ _ _ _ _ i d.all ?_;rcases l with (_ | ⟨_,_⟩) | _
  ·exact ⟨.inl rfl,G⟩
  ·cases g
  ·exact ⟨.inr rfl,G⟩
def A1.y {i:Nat}{Q:QY P Γ L}{K:List KI}{ops:Array Oper}(g:HX Fence.wide P)(p:Nat)(B σ:Θ)(m:HS c o z v){x:List DV}(a:List DV)(b:DH)(d:List DV)(e:DH) 
 (j:PE K=some (ops,Ej K)) (k:DF ops=true) (h:(T0 P Γ ops p S ⟨c,o,z,[]⟩).map (fu B σ L)=some (x,C.l,a,b,d,e,v,true)) (n:C.encs[i]? =some x) (q:JB (Ej K)=true) (r:A1 P Γ Fence.wide none L (C.Y Γ L (i+1)) Q (Ej K) ⟨a,b⟩) (s:A1 P Γ Fence.wide none L (C.X Γ L) Q (Ej K) ⟨d,e⟩):A1 P Γ Fence.wide none L (C.Y Γ L i) Q K S:=
 A1.yieldAt g.f j k p _ B σ a b d e v h m.all n q r s
end
section
variable {P:Program} {Γ:Au} {F:Fence} {B L:Nat} {Y:BL P Γ L} {Q:QY P Γ L} {fr:List DV} {h:DH} {K:List KI} {a b:Code} {α σ:Type} {l:List α} {H:σ -> DH} {FR:α -> List DV}
def Bi.rg (g:F=Fence.wide∨∃ l,F=Fence.wide.inRound l)(V:List Exit)(o:(V.all λe=>(KN e).isSome)=true)(J t:Nat)(c:Array Tmp)(enc:α -> List DV)(L':Nat){f:α -> σ -> Option (σ×Nat)}{d:σ}{rE:σ×Nat}(M:Cj f l d=some rE) 
 (S: ∀ (l B:Nat) (N:BL P Γ L') (x:α) (s:σ) (r:σ×Nat),f x s=some r -> HF P Γ (Fence.wide.inRound l) (some B) L' N (C1 L' V r.2 (H r.1)) a b ⟨FR x,H s⟩)
 (j:PC K=some (.tmp t,c,a,b,Ej K)) (i:AZ fr (.tmp t)= .it J) (hk:h[J]? =some (some (.iter (l.map enc)))) (R: ∀ x,(enc x).length=c.size) (k:Nat.ble L L'=true) (A:fr.all (C5 L')=true) (h0:h.set J none=H d) (m:(λx=>Iw fr c.toList (enc x))=FR)
 (v: ∀ e,(Exit.normal::V)[rE.2]? =some e -> BF P Γ F (some B) L Q (Ej K) e ⟨fr,H rE.1⟩ Y):A1 P Γ F (some B) L Y Q K ⟨fr,h⟩:=
 Bi.rangeAt g V o (.tmp t) c a b (Ej K) enc l H FR f M j i hk R L' k A h0 m S v
def Bi.rg0 (d:F=Fence.wide∨∃ l,F=Fence.wide.inRound l)(J t:Nat)(V:Array Tmp)(enc:α -> List DV)(L':Nat){f:α -> σ -> Option σ}{c C:σ}(M:CO f l c=some C) 
 (S: ∀ (l B:Nat) (N:BL P Γ L') (x:α) (s r:σ),f x s=some r -> HF P Γ (Fence.wide.inRound l) (some B) L' N (C1 L' [] 0 (H r)) a b ⟨FR x,H s⟩)
 (j:PC K=some (.tmp t,V,a,b,Ej K)) (e:AZ fr (.tmp t)= .it J) (hk:h[J]? =some (some (.iter (l.map enc)))) (R: ∀ x,(enc x).length=V.size) (g:Nat.ble L L'=true) (A:fr.all (C5 L')=true) (h0:h.set J none=H c) (i:(λx=>Iw fr V.toList (enc x))=FR)
 (v:A1 P Γ F (some B) L Y Q (Ej K) ⟨fr,H C⟩):A1 P Γ F (some B) L Y Q K ⟨fr,h⟩:=
 Bi.rangeAt0 d (.tmp t) V a b (Ej K) enc l H FR f M j e hk R L' g A h0 i S v
end
abbrev zI9:=@List.filter_cons
abbrev zMd:=@List.filter_sublist
section
abbrev LK:=Nat×Array MapEntry×Nat
variable {i:Nat}
def zFE :aC none i:=λ_ h=>by cases h
def zFD {j:Nat}{g:LK}(h:i≠j):aC (some (i,g)) j:=λy e=>by cases e;exact h
def I5 {R:Type} [DecidableEq R] (z:KS) (a:Option R) (f:Ξ -> Option R):Option R:=match z with
 | []=>a
 | x::r=>match f x with
  | none=>none
  | some v=>if r.all (λy=>decide (f y=some v)) then some v else none
variable {z:KS}{R:Type}
def Zu [DecidableEq R]  {a:Option R} {f:Ξ -> Option R} {r:R} (h:I5 z a f=some r):(z= [] -> a=some r)/\ ∀ y∈z,f y=some r:=by
 cases z with
 | nil=>exact ⟨λ_=>h,λy hy=>absurd hy zMe⟩
 | cons x l=>
  refine ⟨λe=>absurd e (List.cons_ne_nil x l),?_⟩;unfold I5 at h
  grind
def rP [DecidableEq R] {a:Option R} {f:Ξ -> Option R}:I5 [] a f=a:=rfl
theorem zEA [DecidableEq R]  {a:Option R} {f:Ξ -> Option R} {r:R} (u:z≠[]) (h: ∀ y∈z,f y=some r):I5 z a f=some r:=by
 cases z with
 | nil=>exact absurd rfl u
 | cons x l=>
  simp_all [I5]
def zBu {P:Program}{w:World}{r c a g Y:Nat}{seen:Array Nat}{es:Array MapEntry}(i:w.heap[r]? =some (.mapIter (some c) a seen g))(f:w.heap[c]? =some (.map es Y))(h: ∀ x∈es.toList,x.born<a)(n:a<=g)(ty:TypeId):
 ((leftOf es seen).size=0/\ (Instr.next (.pointer (some ⟨r,0,none⟩)) false ty).run P w= .ok (.tuple #[.bool false]) w)∨
 ∃ e∈(leftOf es seen).toList,∃ w1:World,(w1=w∨w1=w.drew)/\ (Instr.next (.pointer (some ⟨r,0,none⟩)) false ty).run P w= .ok (.tuple #[.bool true,e.key,e.val]) { w1 with heap:=w1.heap.setIfInBounds r (.mapIter (some c) a (seen.push e.born) Y) }:=by
 simp only [Instr.next,getObj,zGu,Sem.run,i,f,Result.andThen,next_test_false seen es a g h n,zIp,zMy];unfold leftOf;have X: ∀ x∈(Array.filter (λe=>!seen.contains e.born) es).toList,x.born<a:=λx b=>h x (by simp at b ⊢;exact b.1)
 generalize Array.filter (λe=>!seen.contains e.born) es=L at X ⊢
 have k:L.filter (λx=>decide (x.born<a))=L:=Array.filter_eq_self.2 (λx b=>by simpa using X x (by simpa using b))
 have z:L.filter (λx=>decide (x.born>=a))= #[]:=by
  simp_all
 simp only [k,z,Array.append_empty]
 by_cases h0:L.size=0
 ·simp_all [Question.forced]
 ·right;have D:L.isEmpty=false:=by simp [Array.isEmpty,h0]
  simp only [D,zIp,zMy,Array.empty_append,Array.size_map]
  have l: ∃ (j:Nat) (w1:World),j<L.size/\ (w1=w∨w1=w.drew)/\ (choose (Question.mapNext L.size)).run P w= .ok j w1:=by
   by_cases M:L.size<=1
   ·exact ⟨0,w,by omega,.inl rfl,by simp [choose,Sem.run,Question.forced,M]⟩
   ·exact ⟨_,w.drew,Nat.mod_lt _ (by omega),.inr rfl,by
     simp only [choose,Sem.run,Question.forced,zHx,M,zMy,Question.cut];rfl⟩
  obtain ⟨j,w1,hj,d,MP⟩:=l;have V5:w1.heap[r]? =some (.mapIter (some c) a seen g):=by rcases d with rfl | rfl <;> exact i
  refine ⟨L[j],by simp,w1,d,?_⟩
  simp_all [setObj,Sem.run]
section
variable {P:Program} {Γ:Au} {N:Ψ} {S:St} {ρ:List AI} {a:Act} {w:World} {F:Fence} {B:Option Nat} {L:Nat} {Y:BL P Γ L} {Q:QY P Γ L}
variable {p:AI}
def AS.setMo (R:AS P Γ N S ρ a w){k:Nat}{x x':MX}(hk:S.h[k]? =some (some (.mo x)))(g:ρ[k]? =some p)(I:Oe w p x')(l: ∀ b,p.foot b -> EG w b):
 AS P Γ N ⟨S.fr,S.h.set k (some (.mo x'))⟩ ρ a w/\ A3 S.h ρ w (S.h.set k (some (.mo x'))) ρ w:=
 ⟨⟨R.hr.write hk g (AQ.refl _ _) l I,R.fr.out (BQ.write trivial hk g (AQ.refl p.foot w))⟩,A3.write hk g (AQ.refl _ _)⟩
variable {vs:Array Value}{E:List (Option KS)}{n:Nat}
def Fu.relock (h:Fu w p n E none vs){i:Nat}(hi:(E.getD i none).isSome=true): ∃ g:LK,Fu w p n E (some (i,g)) vs:=by
 obtain ⟨Q,g1,g2,g3,es,Y,g4,_⟩:=h.has i _ (Wb hi);refine ⟨(Q,es,Y),{ h with has:=λj l m=>?_ }⟩
 by_cases e:j=i
 ·grind
 ·obtain ⟨b,k1,k2,k3,Lb,c1,k4,_⟩:=h.has j l m
  grind
def Fu.unlock {G:Option (Nat×LK)}(h:Fu w p n E G vs):Fu w p n E none vs:=
 { h with has:=λj l m=>let ⟨b,A,Z,a,O,c,d,_⟩:=h.has j l m;⟨b,A,Z,a,O,c,d,λx e=>by cases e⟩ }
variable {j:Nat}
def Tr.lock {c:Code}{i:Nat}(hk:S.h[j]? =some (some (.mo (.sets n E none))))(hi:(E.getD i none).isSome=true)(H: ∀ g:LK,Tr P Γ F B L Y c ⟨S.fr,S.h.set j (some (.mo (.sets n E (some (i,g)))))⟩ Q):Tr P Γ F B L Y c S Q:=λN ρ a w R y m b=>by
 obtain ⟨p,e,vs,d⟩:=R.hr.obj j _ hk;obtain ⟨g,l⟩:=d.relock hi;obtain ⟨R',st⟩:=R.setMo hk e (x':=.sets n E (some (i,g))) ⟨vs,l⟩ λb f=>d.lies f
 exact H g N ρ a w R' (Y.st y R.hr R'.hr st (CA.refl _ _)) m b
def sV:List KI -> Bool
 | .code _::_=>true
 | _=>false
variable {h:DH}{fr:List DV}{K:List KI}
def Bi.lock (j i n:Nat)(hk:h[j]? =some (some (.mo (.sets n E none))))(hi:(E.getD i none).isSome=true)(a:sV K=true)(h':LK -> DH)(J:h'=λg=>h.set j (some (.mo (.sets n E (some (i,g))))))(H: ∀ g:LK,A1 P Γ F B L Y Q K ⟨fr,h' g⟩):A1 P Γ F B L Y Q K ⟨fr,h⟩:=by
 subst J;unfold sV at a;split at a
 ·exact Tr.lock (S:=⟨fr,h⟩) hk hi H
 ·cases a
variable {g:LK}{m W:Nat}
def zEX (R:AS P Γ N S ρ a w){i:Nat}{z:KS}{L:Option Ξ}(M:S.h[m]? =some (some (.mo (.mit n g.1 g.2.1 g.2.2 z L))))(O:S.h[j]? =some (some (.mo (.sets W E (some (i,g))))))(hi:(E.getD i none).isSome=true){v:Value}(T:AJ (MS N S.h ρ) w (.it m) ρ v)(ty:TypeId):
 (z= []/\ (Instr.next v false ty).run P w= .ok (.tuple #[.bool false]) w)∨∃ y∈z,∃ (k u:Value) (w':World) (p:AI),(Instr.next v false ty).run P w= .ok (.tuple #[.bool true,k,u]) w'/\ ρ[m]? =some p/\ AQ p.foot w w'/\ Oe w' p (.mit n g.1 g.2.1 g.2.2 (z.erase y) (some y))/\ ∀ b,p.foot b -> EG w' b:=by
 obtain ⟨p,t,rfl⟩:=T;obtain ⟨p',U,h0,B,c,seen,d,A,V⟩:=R.hr.obj m _ M;have:p'=p:=zGJ (U.symm.trans t);subst this;obtain ⟨q,hq,vs,X⟩:=R.hr.obj j _ O;obtain ⟨b,k1,k2,k3,Z,k8,f,C⟩:=X.has i _ (Wb hi);have C:=C _ rfl rfl;obtain ⟨Q,es,Y⟩:=g
 have e3:Q=b/\ es=Z/\ Y=k8:=by
  grind
 obtain ⟨rfl,rfl,rfl⟩:=e3;simp only at d A V;rw [B];have Ny: ∀ x∈es.toList,x.born<Y:=f.born;rcases zBu (P:=P) d f.blk Ny (zGT _) ty with ⟨e1,D⟩ | ⟨e,J,w1,G,D⟩
 ·simp_all
 ·have o:e.key∈z.map Bb:=A.mem_iff.1 (zIH.2 ⟨e,J,rfl⟩);obtain ⟨y,hy,hye⟩:=zIH.1 o;have hes:e∈es.toList:=by simp [leftOf] at J ⊢;exact J.1
  have hrlt:p'.blk<w.heap.size:=(zGI.1 d).1;have hw1h:w1.heap=w.heap:=by rcases G with rfl | rfl <;> rfl
  have hU:AQ p'.foot w { w1 with heap:=w1.heap.setIfInBounds p'.blk (.mapIter (some Q) Y (seen.push e.born) Y) }:=by
   rw [c]
   have u1:AQ (λk=>k=p'.blk) w w1:=by
    rcases G with rfl | rfl
    ·exact AQ.refl _ _
    ·exact AQ.ofExt (A0.toDrew w)
   exact u1.trans (UD _)
  have F:({ w1 with heap:=w1.heap.setIfInBounds p'.blk (.mapIter (some Q) Y (seen.push e.born) Y) }:World).heap[p'.blk]? =some (.mapIter (some Q) Y (seen.push e.born) Y):=by
   grind
  refine .inr ⟨y,hy,e.key,e.val,_,p',D,t,hU,⟨λx r=>?_,B,c,seen.push e.born,F,?_,λx r=>?_⟩,λb H=>?_⟩
  ·grind
  ·have hl:leftOf es (seen.push e.born)=(leftOf es seen).filter λx=>x.born != e.born:=by
    grind [leftOf,Array.filter_filter]
   have BB:((leftOf es seen).toList.map (·.born)).Nodup:=by
    have:((leftOf es seen).toList.map (·.born)).Sublist (es.toList.map (·.born)):=by
     unfold leftOf;rw [Array.toList_filter];exact zMd.map _
    exact this.nodup f.stamps
   have s: ∀ (l:List MapEntry),(l.map (·.born)).Nodup -> e∈l -> (l.map (·.key)).Perm (e.key::((l.filter λx=>x.born != e.born).map (·.key))):=by
    intro l
    induction l with
    | nil=>intro _ h;cases h
    | cons x l ih=>
     intro I r;rw [zMN,zNf] at I
     by_cases K:x=e
     ·subst K
      have:(l.filter λy=>y.born != x.born)=l:=List.filter_eq_self.2 λy hy=>by
       grind
      simp [this]
     ·have bE:e∈l:=(zIq.1 r).resolve_left λh=>K h.symm
      have AY:(x.born != e.born)=true:=by
       grind
      rw [zI9,zEZ AY,zMN,zMN];exact ((ih I.2 bE).cons x.key).trans (List.Perm.swap e.key x.key _)
   have P1:=s _ BB J;rw [hl,Array.toList_filter];have P2:(z.map Bb).Perm (Bb y::(z.erase y).map Bb):=(List.perm_cons_erase hy).map Bb;have P3:=P1.symm.trans (A.trans P2)
   simp_all
  ·grind
  ·rw [c] at H;exact ⟨_,rfl,(),by rw [show b=p'.blk from H];exact F⟩
variable {ops:Array Oper}
def Tr.next (A:Dv F P){id:Nat}(BB:DF ops=true){o:Oper}{rest:List Oper}(V8:ops.toList=o::rest){x:Operand}(C:o.op= .next x false)(hw:Kg ops S o=some true){i:Nat}{z:KS}{Ff:Option Ξ}(hx:AZ S.fr x= .it m)(l:S.h[m]? =some (some (.mo (.mit n g.1 g.2.1 g.2.2 z Ff))))(D:S.h[j]? =some (some (.mo (.sets W E (some (i,g))))))(tS:m≠j)(hi:(E.getD i none).isSome=true) 
 (h0:z= [] -> ∃ S' vs o0 o',EN P Γ ops rest ⟨Cp S.fr o.dst (.tup 1 (L1 [.bool false])),(S.h.set j (some (.mo (.sets W E none)))).set m none⟩ o0=some (S',vs,o')/\ Bp vs/\ Q .normal S' Y)
 (h1: ∀ y∈z,∃ S' vs o0 o',EN P Γ ops rest ⟨Cp S.fr o.dst (.tup 3 (L1 [.bool true])),S.h.set m (some (.mo (.mit n g.1 g.2.1 g.2.2 (z.erase y) (some y))))⟩ o0=some (S',vs,o')/\ Bp vs/\ Q .normal S' Y):Tr P Γ F B L Y (.region id ops false) S Q:=λN ρ a w R y mk b=>by
 refine zI8 ?_;rw [V8];have hd: ∀ c,o.op≠.defer c:=λc e=>by rw [C] at e;cases e
 have Fc: ∀ o'∈rest,o'∈ops:=λo' Sj=>by
  grind
 have Cw: ∀ v,(a.put o.dst v).defers=a.defers:=λv=>by cases C:o.dst <;> simp [Act.put]
 have rx:=BW R x;rw [hx] at rx;unfold wpListIn;rw [zEZ (Im R hw)];have KC:execOp a.eval o=(do pure (.value (←Instr.next (a.eval x) false o.type))):=by unfold execOp;rw [C]
 have AU:m<S.h.length:=(zGe.1 l).1;rcases zEX R l D hi rx o.type with ⟨e1,I⟩ | ⟨r,J,k,u,w',p,I,f,M,hO,hC⟩
 ·obtain ⟨S',vs,o0,o',K,O,T⟩:=h0 e1;obtain ⟨q,hq,xu,hS⟩:=R.hr.obj j _ D;obtain ⟨H,U⟩:=R.setMo D hq (x':=.sets W E none) ⟨xu,hS.unlock⟩ λb hb=>hS.lies hb
  have R2:AS P Γ N ⟨S.fr,(S.h.set j (some (.mo (.sets W E none)))).set m none⟩ ρ a w:=⟨H.hr.kill m,H.fr.out (BQ.kill m)⟩
  have V:=HN R2 o.dst (d:=.tup 1 (L1 [.bool false])) (v:=.tuple #[.bool false]) ⟨#[.bool false],rfl,rfl,λX bA=>by
   have:X=0:=by omega
   subst this;exact ⟨_,rfl,rfl⟩⟩
  refine Lf A hd (G:=λv t=>v= .tuple #[.bool false]/\ t=w) (BP.value (s:=Instr.next (a.eval x) false o.type) KC I ⟨rfl,rfl⟩) λv t ⟨Z,ii⟩=>?_
  subst Z ii;refine LW A BB rest Fc V K O λρ' a' w3 R' st EL=>?_
  exact Tr.done R y mk b T R' ((U.trans (A3.kill m)).trans st.st) (λk p _ f=>st.pl k p f) (EL.trans (Cw _))
 ·obtain ⟨S',vs,o0,o',K,O,T⟩:=h1 r J;have U:=A3.write (h:=S.h) (o':=.mo (.mit n g.1 g.2.1 g.2.2 (z.erase r) (some r))) l f M;have H:AS P Γ N ⟨S.fr,S.h.set m (some (.mo (.mit n g.1 g.2.1 g.2.2 (z.erase r) (some r))))⟩ ρ a w':=⟨R.hr.write l f M hC hO,R.fr.out (BQ.write trivial l f M)⟩
  have V:=HN H o.dst (d:=.tup 3 (L1 [.bool true])) (v:=.tuple #[.bool true,k,u]) ⟨#[.bool true,k,u],rfl,rfl,λX bA=>by
   match X,bA with
   | 0,_=>exact ⟨_,rfl,rfl⟩
   | 1,_=>exact ⟨_,rfl,trivial⟩
   | 2,_=>exact ⟨_,rfl,trivial⟩⟩
  refine Lf A hd (G:=λv t=>v= .tuple #[.bool true,k,u]/\ t=w') (BP.value (s:=Instr.next (a.eval x) false o.type) KC I ⟨rfl,rfl⟩) λv t ⟨Z,ii⟩=>?_
  subst Z ii;refine LW A BB rest Fc V K O λρ' a' w3 R' st EL=>?_
  exact Tr.done R y mk b T R' (U.trans st.st) (λk p _ f=>st.pl k p f) (EL.trans (Cw _))
def gH (ops:Array Oper):Operand:=match ops.toList with
 | o::_=>match o.op with
  | .next x _=>x
  | _=>.tmp 0
 | []=>.tmp 0
def Zx (ops:Array Oper):Option Tmp:=match ops.toList with
 | o::_=>o.dst
 | []=>none
def PN (ops:Array Oper):List Oper:=ops.toList.tail
def gI (ops:Array Oper):Bool:=match ops.toList with
 | o::_=>match o.op with
  | .next _ false=>o.guard.isNone&&DF ops
  | _=>false
 | []=>false
def zEG (h:gI ops=true):DF ops=true/\ ∃ o,ops.toList=o::PN ops/\ o.op= .next (gH ops) false/\ o.guard=none/\ o.dst=Zx ops:=by
 unfold gI at h;unfold gH Zx PN;split at h
 ·rename_i o rest K;rw [K];split at h
  ·simp_all
  ·cases h
 ·cases h
def Zn (B σ:Θ)(L:Nat)(r:St×List Prop×BR):List DV×DH×List Prop×Bool:=((comp B σ r.1).fr,(comp B σ r.1).h,r.2.1,Km σ L r.1.h.length)
def A1.nx (s:HX F P)(c:PE K=some (ops,Ej K))(t:gI ops=true)(m j i n:Nat)(E:List (Option KS))(g:LK)(z:KS)(u:Option Ξ)(a σ:Θ)(k:List DV)(h0:DH)(σ1:Θ)(T:Ξ -> List DV)(l:Ξ -> DH) 
 (v:AZ fr (gH ops)= .it m) (w:h[m]? =some (some (.mo (.mit n g.1 g.2.1 g.2.2 z u)))) (x:h[j]? =some (some (.mo (.sets n E (some (i,g)))))) (A:m≠j) (hi:(E.getD i none).isSome=true) (C:JB (Ej K)=true)
 (G:(EN P Γ ops (PN ops) ⟨Cp fr (Zx ops) (.tup 1 (L1 [.bool false])),(h.set j (some (.mo (.sets n E none)))).set m none⟩ ⟨[],[],[],[]⟩).map (Zn a σ L)=some (k,h0,[],true))
 (H: ∀ y,(EN P Γ ops (PN ops) ⟨Cp fr (Zx ops) (.tup 3 (L1 [.bool true])),h.set m (some (.mo (.mit n g.1 g.2.1 g.2.2 (z.erase y) (some y))))⟩ ⟨[],[],[],[]⟩).map (Zn a σ1 L)=some (T y,l y,[],true))
 (I:z= [] -> A1 P Γ F B L Y Q (Ej K) ⟨k,h0⟩) (J: ∀ y∈z,A1 P Γ F B L Y Q (Ej K) ⟨T y,l y⟩):A1 P Γ F B L Y Q K ⟨fr,h⟩:=by
 have q: ∀ {S:St} {a σ:Θ} {fr':List DV} {h':DH},(EN P Γ ops (PN ops) S ⟨[],[],[],[]⟩).map (Zn a σ L)=some (fr',h',[],true) -> A1 P Γ F B L Y Q (Ej K) ⟨fr',h'⟩ -> ∃ S' vs o0 o',EN P Γ ops (PN ops) S o0=some (S',vs,o')/\ Bp vs/\ A1 P Γ F B L Y Q (Ej K) S':=by
  intro S a σ fr' h' b hk;cases d:EN P Γ ops (PN ops) S ⟨[],[],[],[]⟩ with
  | none=>rw [d] at b;cases b
  | some r=>
   obtain ⟨p,v1,o1⟩:=r;rw [d] at b;simp only [zID,Zn,zHz,zIP] at b;obtain ⟨rfl,rfl,rfl,M⟩:=b;exact ⟨p,_,_,_,d,trivial,Bi.le (A8.comp a σ p M) C hk⟩
 unfold PE at c;split at c
 ·rename_i id gA k';have e:=zGJ c;simp only [Ej,zIP,and_true] at e;subst e;obtain ⟨N,o,O,R,U,D⟩:=zEG t;exact Tr.next (S:=⟨fr,h⟩) s.f N O R (by unfold Kg;rw [U]) v w x A hi (λe=>by rw [D];exact q G (I e)) (λy hy=>by rw [D];exact q (H y) (J y hy))
 ·cases c
end
end
abbrev zEb:=@Option.bind_some
abbrev zGW:=@Nat.lt_succ_iff_lt_or_eq
abbrev zH5:=@List.mem_cons_of_mem
abbrev zIL:=@List.mem_cons_self
def At {R:Type}(f:Nat -> Option R)(Q:R -> Prop):Prop:=∃ N,∀ n,N<=n -> ∃ r,f n=some r/\ Q r
def Ev {R:Type}(f:Nat -> Option R)(r:R):Prop:=∃ N,∀ n,N<=n -> f n=some r
section
variable {R T:Type} {f g:Nat -> Option R} {Q Q':R -> Prop} {r:R}
def Ev.p (h:Ev f r)(L:Q r):At f Q:=let ⟨N,h⟩:=h;⟨N,λn u=>⟨r,h n u,L⟩⟩
def At.ev (h:At f Q)(hu: ∀ r U,Q r -> Q U -> r=U): ∃ r,Q r/\ Ev f r:=by
 obtain ⟨N,h⟩:=h;obtain ⟨r,h1,b⟩:=h N (zGT _);refine ⟨r,b,N,λn hn=>?_⟩
 grind
theorem At.mono (h:At f Q)(L: ∀ r,Q r -> Q' r):At f Q':=let ⟨N,h⟩:=h;⟨N,λn u=>let ⟨r,a,b⟩:=h n u;⟨r,a,L r b⟩⟩
def At.step (k:Nat)(h: ∀ n,f (n+k)=g n)(j:At g Q):At f Q:=by
 obtain ⟨N,j⟩:=j;refine ⟨N+k,λn hn=>?_⟩;have:=j (n-k) (by omega)
 grind
def Ev.step (k:Nat)(h: ∀ n,f (n+k)=g n)(j:Ev g r):Ev f r:=by
 obtain ⟨N,j⟩:=j;refine ⟨N+k,λn hn=>?_⟩;have:=j (n-k) (by omega)
 grind
def Ev.now (h: ∀ n,f n=some r):Ev f r:=⟨0,λn _=>h n⟩
def Ev.eq {f g:Nat -> Option R}(h:Ev g r)(e: ∀ n,f n=g n):Ev f r:=let ⟨N,h⟩:=h;⟨N,λn u=>(e n).trans (h n u)⟩
def At.eq {f g:Nat -> Option R}(h:At g Q)(e: ∀ n,f n=g n):At f Q:=let ⟨N,h⟩:=h;⟨N,λn u=>by rw [e];exact h n u⟩
variable {b:Nat -> T -> Option R}{x:T}{a:Nat -> Option T}
def Ev.bind (D:Ev a x)(c:Ev (λn=>b n x) r):Ev (λn=>(a n).bind (b n)) r:=by
 obtain ⟨N,D⟩:=D;obtain ⟨M,c⟩:=c;refine ⟨max N M,λn hn=>?_⟩
 grind
def At.bind (D:Ev a x)(c:At (λn=>b n x) Q):At (λn=>(a n).bind (b n)) Q:=by
 obtain ⟨N,D⟩:=D;obtain ⟨M,c⟩:=c;refine ⟨max N M,λn hn=>?_⟩
 show ∃ r,(a n).bind (b n)=some r/\ _
 rw [D n (by omega),zEb];exact c n (by omega)
def At.all {l:List T}{F:T -> Nat -> Option R}(h: ∀ y∈l,At (F y) Q): ∃ N,∀ n,N<=n -> ∀ y∈l,∃ r,F y n=some r/\ Q r:=by
 induction l with
 | nil=>simp_all
 | cons x l U=>
  obtain ⟨N,X⟩:=U λy hy=>h y (zH5 _ hy)
  obtain ⟨M,Y⟩:=h x zIL;refine ⟨max N M,λn hn y hy=>?_⟩;rcases zIq.1 hy with rfl | hy
  ·exact Y n (by omega)
  ·exact X n (by omega) y hy
def At.range {F:Nat -> Nat -> Option R}{A:Nat -> R -> Prop}: ∀ (k:Nat),(∀ i,i<k -> At (F i) (A i)) -> ∃ N,∀ n,N<=n -> ∀ i,i<k -> ∃ r,F i n=some r/\ A i r
 | 0,_=>⟨0,λn _ i hi=>absurd hi (zGR i)⟩
 | k+1,h=>by
  obtain ⟨N,X⟩:=At.range k λi hi=>h i (by omega)
  obtain ⟨M,Y⟩:=h k (by omega);refine ⟨max N M,λn hn i hi=>?_⟩;rcases zGW.1 hi with hi | rfl
  ·exact X n (by omega) i hi
  ·exact Y n (by omega)
def At.next [DecidableEq R] {z:KS} {a:Nat -> Option R} {F:Nat -> Ξ -> Option R} (u:z≠[]) (h: ∀ y∈z,At (λn=>F n y) Q) (hu: ∀ r U,Q r -> Q U -> r=U):At (λn=>I5 z (a n) (F n)) Q:=by
 obtain ⟨N,hN⟩:=At.all h;refine ⟨N,λn N7=>?_⟩;obtain ⟨y0,hy0⟩:=List.exists_mem_of_ne_nil z u
 grind [zEA]
end
def AV {T R:Type}(m:Nat -> T -> Option R)(a b:T):Prop:=∃ N S,∀ n,N<=n -> m (n+S) a=m n b
section
variable {T R:Type} {m:Nat -> T -> Option R} {a b c:T} {r:R} {Q:R -> Prop}
theorem AV.refl:AV m a a:=⟨0,0,λ_ _=>rfl⟩
def AV.one (h: ∀ n,m (n+1) a=m n b):AV m a b:=⟨0,1,λn _=>h n⟩
def AV.oneN (N:Nat)(h: ∀ n,N<=n -> m (n+1) a=m n b):AV m a b:=⟨N,1,h⟩
def AV.trans (h:AV m a b)(d:AV m b c):AV m a c:=by
 obtain ⟨N,S,h⟩:=h;obtain ⟨x,p,d⟩:=d;exact ⟨max N x,p+S,λn hn=>by grind⟩
def AV.ev (h:AV m a b)(c:Ev (λn=>m n b) r):Ev (λn=>m n a) r:=by
 obtain ⟨N,S,h⟩:=h;obtain ⟨M,c⟩:=c;refine ⟨max N M+S,λn hn=>?_⟩;have:=h (n-S) (by omega)
 grind
def Ev.one (h: ∀ n,m (n+1) a=some r):Ev (λn=>m n a) r:=⟨1,λn hn=>by
 obtain ⟨k,rfl⟩: ∃ k,n=k+1:=⟨n-1,by omega⟩;exact h k⟩
def Ev.oneN (N:Nat)(h: ∀ n,N<=n -> m (n+1) a=some r):Ev (λn=>m n a) r:=⟨N+1,λn hn=>by
 obtain ⟨k,rfl⟩: ∃ k,n=k+1:=⟨n-1,by omega⟩;exact h k (by omega)⟩
def LE {S:Type}(st:Nat -> S -> T)(I:Nat -> S -> Prop)(len:Nat)(h: ∀ i s,i<len -> I i s -> ∃ a,I (i+1) a/\ AV m (st i s) (st (i+1) a)): ∀ (k i:Nat) (s:S),i+k=len -> I i s -> ∃ a,I len a/\ AV m (st i s) (st len a)
 | 0,i,s,e,u=>by
  grind [AV.refl]
 | k+1,i,s,e,u=>by
  obtain ⟨a,b,c⟩:=h i s (by omega) u;obtain ⟨D,d,A⟩:=LE st I len h k (i+1) a (by omega) b;exact ⟨D,d,c.trans A⟩
end
section
class HC (F:Fence):Prop where
 x:HX F Tryz.prog
 w:F=Fence.wide∨∃ l,F=Fence.wide.inRound l
instance:HC Fence.wide:=⟨⟨Dv.wide,by kernel_rfl⟩,.inl rfl⟩
instance (l:Nat):HC (Fence.wide.inRound l):=⟨⟨Dv.round l,by kernel_rfl⟩,.inr ⟨l,rfl⟩⟩
abbrev DV.i (x:Int):DV:=.int .i64 x
def AC:Be:=λ_=>.no
def GZ:Nat -> List DV -> Θ
 | _,[]=>[]
 | i,.any::r=>GZ (i+1) r
 | i,_::r=>i::GZ (i+1) r
section
variable {F:Fence} {B:Option Nat} {L:Nat} {Y N:BL Tryz.prog GG L} {Q:QY Tryz.prog GG L} {k k':List KI} {S:St} {fr:List DV} {h' h2:DH} {c:List (DV×DH×Bool)} {o:List (Nat×DV)} {z:List (Nat×Fz)} {v w:List Prop}
def gz [e:HC F] (a:Be) (σ:Θ) (m:HS c o z v) (W:Θ) (b:HS [] [] [] w) (k':List KI) (fr:List DV) (h':DH) (hk:A1 Tryz.prog GG F B L Y Q k' ⟨fr,h'⟩) (tg:List (List (Nat×Nat)×St):=[])
 (h:(CN Tryz.prog GG a 400 k S ⟨c,o,z,tg⟩).bind (Nb (GZ 0 fr) σ L W)=some (.at k',fr,h',v,w,[],[],true):=by kernel_rfl) (l:JB k'=true:=by kernel_rfl):A1 Tryz.prog GG F B L Y Q k S:=
 Bi.gS e.x a 400 (GZ 0 fr) σ tg m W b k' fr h' h l hk
theorem gs [e:HC F] (a:Be) (σ:Θ) (m:HS c o z v) (k':List KI) (fr:List DV) (h':DH) (hk:A1 Tryz.prog GG F B L Y Q k' ⟨fr,h'⟩) (tg:List (List (Nat×Nat)×St):=[])
 (h:(CN Tryz.prog GG a 400 k S ⟨c,o,z,tg⟩).bind (Nb (GZ 0 fr) σ L [])=some (.at k',fr,h',v,[],[],[],true):=by kernel_rfl) (l:JB k'=true:=by kernel_rfl):A1 Tryz.prog GG F B L Y Q k S:=
 Bi.gS e.x a 400 (GZ 0 fr) σ tg m [] H0 k' fr h' h l hk
def gg [e:HC F] (a:Be) (σ:Θ) (m:HS c o z v) (hk:A1 Tryz.prog GG F B L Y Q k' ⟨fr,h'⟩) (tg:List (List (Nat×Nat)×St):=[])
 (h:(CN Tryz.prog GG a 400 k S ⟨c,o,z,tg⟩).bind (Nb (GZ 0 fr) σ L [])=some (.at k',fr,h',v,[],[],[],true):=by kernel_rfl) (l:JB k'=true:=by kernel_rfl):A1 Tryz.prog GG F B L Y Q k S:=
 Bi.gS e.x a 400 (GZ 0 fr) σ tg m [] H0 k' fr h' h l hk
variable {d:DV}{fn:Func}
theorem el [f:HC F]   (e:Be) (a σ:Θ) (m:HS c o z v) (W:Θ) (g:HS [] [] [] w) (b:List DV) (A:AN (IF b) d) (tg:List (List (Nat×Nat)×St):=[])
 (h:(CN Tryz.prog GG e 400 k S ⟨c,o,z,tg⟩).bind (Kz Tryz.prog a σ L W fn d h2.length)=some (true,b,h2,v,w,[],[],true):=by kernel_rfl):Bi Tryz.prog GG F B L N (Cy Tryz.prog fn L d h2) k S:=
 Bi.el f.x e 400 a σ tg m W g b A h
def ez [f:HC F]   (b:Be) (a σ:Θ) (m:HS c o z v) (W:Θ) (g:HS [] [] [] w) (tg:List (List (Nat×Nat)×St):=[])
 (h:(CN Tryz.prog GG b 400 k S ⟨c,o,z,tg⟩).bind (λr=>(Kz Tryz.prog a σ L W fn d h2.length r).map λq=>(q.1,IF q.2.1,q.2.2))=some (true,d,h2,v,w,[],[],true):=by kernel_rfl):Bi Tryz.prog GG F B L N (Cy Tryz.prog fn L d h2) k S:=
 Bi.e f.x b 400 a σ tg m W g h
def ee [f:HC F]   (b:Be) (a σ:Θ) (m:HS c o z v) (tg:List (List (Nat×Nat)×St):=[])
 (h:(CN Tryz.prog GG b 400 k S ⟨c,o,z,tg⟩).bind (λr=>(Kz Tryz.prog a σ L [] fn d h2.length r).map λq=>(q.1,IF q.2.1,q.2.2))=some (true,d,h2,v,[],[],[],true):=by kernel_rfl):Bi Tryz.prog GG F B L N (Cy Tryz.prog fn L d h2) k S:=
 Bi.e f.x b 400 a σ tg m [] H0 h
def rr [b:HC F] {V:List Exit} {i:Nat} {e:Exit} (a:Be) (σ:Θ) (J:(Exit.normal::V)[i]? =some e) (m:HS c o z v) (tg:List (List (Nat×Nat)×St):=[])
 (h:(CN Tryz.prog GG a 400 k S ⟨c,o,z,tg⟩).map (fv σ L)=some (some e,h2,v,[],[],[],true):=by kernel_rfl):Bi Tryz.prog GG F B L N (C1 L V i h2) k S:=
 Bi.r b.x a 400 σ tg m J h
def ag [e:HC F] {Q:Exit -> St -> Prop} {I a:Code} (b:Be) (σ:Θ) (m:HS c o z v) (fr:List DV) (h':DH) (hk: ∀ d:BL Tryz.prog GG L,Bi Tryz.prog GG F B L d Q [.code a] ⟨fr,h'⟩)
 (h:(CN Tryz.prog GG b 400 [.code I] S ⟨c,o,z,[]⟩).map (VZ (GZ 0 fr) σ L)=some (.at [],fr,h',v,[],[],true):=by kernel_rfl):HF Tryz.prog GG F B L N Q I a S:=
 HF.g e.x b 400 (GZ 0 fr) σ m fr h' h hk
def rd {n m:Nat}(v:n+1<=m)(h: ∀ m,n<=m -> A1 Tryz.prog GG F B L Y Q (mx m k) S)(hk:Pn k=true:=by kernel_rfl):A1 Tryz.prog GG F B L Y Q (Ah m k) S:=Bi.round v hk h
def en (m:Nat)(h:A1 Tryz.prog GG F B L Y Q (Ah m k) S)(hk:Pn k=true:=by kernel_rfl):A1 Tryz.prog GG F B L Y Q k S:=Bi.enter m hk h
end
variable {ext:Bool}{h' h:DH}{d:DV}{ds:List DV}{f:Nat}
def em (u:ES Tryz.prog GG f ds h d h' ext)(σ:Θ)(H:DH)(c:OR σ H.length h.length h'.length=true:=by kernel_rfl)(x:(σ.map λk=>H.getD k none)=h.map (Dh σ H.length):=by kernel_rfl):ES Tryz.prog GG f (ds.map (up σ H.length)) H (up σ H.length d) (DX H σ h') ext:=ES.emC u σ H c x
def es (u:ES Tryz.prog GG f ds h d h' ext)(σ:Θ)(H:DH)(w:List DV)(D:aA H σ w ds)(c:OR σ H.length h.length h'.length=true:=by kernel_rfl)(x:(σ.map λk=>H.getD k none)=h.map (Dh σ H.length):=by kernel_rfl)(j:(Jk d&&h'.all UZ)=true:=by kernel_rfl):ES Tryz.prog GG f w H (up σ H.length d) (DX H σ h') ext:=ES.embedSB u σ H D c x j
def fb (h0:ES Tryz.prog GG f ds [] d [] true)(h:DH)(C:ds.all GF=true:=by kernel_rfl):ES Tryz.prog GG f ds h d h true:=ES.frameB h0 h C
def sb (ds:List DV){k:List DV}(h0:ES Tryz.prog GG f k [] d [] true)(h:DH)(j:OX h ds k)(r:Yf d=true:=by kernel_rfl):ES Tryz.prog GG f ds h d h true:=ES.snapB h0 h j r
def ot {fn:Func}(M:Tryz.prog.funcs[f]? =some fn)(H: ∀ (B:Nat) (N:BL Tryz.prog GG h.length),Bi Tryz.prog GG Fence.wide (some B) h.length N (Cy Tryz.prog fn h.length d h') (start fn) ⟨ds++List.replicate (fn.ntmps-ds.length) .any,h⟩) 
 (c:fn.body.isSome=true:=by kernel_rfl) (j:(fn.name== "runtime.NumGoroutine")=false:=by kernel_rfl) (hni:h'.all Ve=true:=by kernel_rfl) (S:(!ext||h.isEmpty)=true:=by kernel_rfl):ES Tryz.prog GG f ds h d h' ext:=
 ES.of_trk M c j (PT hni) (λe=>by subst e;simpa using S) H
section
variable {F:Fence} {B L:Nat} {Y:BL Tryz.prog GG L} {Q:QY Tryz.prog GG L} {fr:List DV} {h:DH} {K:List KI} {a b:Code} {α σ:Type} {l:List α} {H:σ -> DH} {FR:α -> List DV}
def rx [g:HC F] (V:List Exit) (J t:Nat) (c:Array Tmp) (enc:α -> List DV) (L':Nat) {f:α -> σ -> Option (σ×Nat)} {d:σ} {rE:σ×Nat} (M:Cj f l d=some rE)
 (S: ∀ (l B:Nat) (N:BL Tryz.prog GG L') (x:α) (s:σ) (r:σ×Nat),f x s=some r -> HF Tryz.prog GG (Fence.wide.inRound l) (some B) L' N (C1 L' V r.2 (H r.1)) a b ⟨FR x,H s⟩)
 (v: ∀ e,(Exit.normal::V)[rE.2]? =some e -> BF Tryz.prog GG F (some B) L Q (Ej K) e ⟨fr,H rE.1⟩ Y) (o:(V.all λe=>(KN e).isSome)=true:=by kernel_rfl)
 (j:PC K=some (.tmp t,c,a,b,Ej K):=by kernel_rfl) (i:AZ fr (.tmp t)= .it J:=by kernel_rfl) (hk:h[J]? =some (some (.iter (l.map enc))):=by kernel_rfl) (R: ∀ x,(enc x).length=c.size:=by exact λ_=>rfl) (k:Nat.ble L L'=true:=by kernel_rfl) (A:fr.all (C5 L')=true:=by kernel_rfl) (h0:h.set J none=H d:=by kernel_rfl) (m:(λx=>Iw fr c.toList (enc x))=FR:=by kernel_rfl):A1 Tryz.prog GG F (some B) L Y Q K ⟨fr,h⟩:=
 Bi.rg g.w V o J t c enc L' M S j i hk R k A h0 m v
def r0 [e:HC F] (J t:Nat) (V:Array Tmp) (enc:α -> List DV) (L':Nat) {f:α -> σ -> Option σ} {c C:σ} (M:CO f l c=some C)
 (S: ∀ (l B:Nat) (N:BL Tryz.prog GG L') (x:α) (s r:σ),f x s=some r -> HF Tryz.prog GG (Fence.wide.inRound l) (some B) L' N (C1 L' [] 0 (H r)) a b ⟨FR x,H s⟩)
 (v:A1 Tryz.prog GG F (some B) L Y Q (Ej K) ⟨fr,H C⟩)
 (j:PC K=some (.tmp t,V,a,b,Ej K):=by kernel_rfl) (d:AZ fr (.tmp t)= .it J:=by kernel_rfl) (hk:h[J]? =some (some (.iter (l.map enc))):=by kernel_rfl) (R: ∀ x,(enc x).length=V.size:=by exact λ_=>rfl) (g:Nat.ble L L'=true:=by kernel_rfl) (A:fr.all (C5 L')=true:=by kernel_rfl) (h0:h.set J none=H c:=by kernel_rfl) (i:(λx=>Iw fr V.toList (enc x))=FR:=by kernel_rfl):A1 Tryz.prog GG F (some B) L Y Q K ⟨fr,h⟩:=
 Bi.rg0 e.w J t V enc L' M S j d hk R g A h0 i v
end
abbrev Yd (L:Nat):=BL Tryz.prog GG L
abbrev EQ:=ES Tryz.prog GG
abbrev FQ:=Cy Tryz.prog
abbrev TW (B:Nat){L:Nat}(N:Yd L)(Q:Exit -> St -> Prop)(k:List KI)(S:St):Prop:=Bi Tryz.prog GG Fence.wide (some B) L N Q k S
abbrev TA (l B:Nat){L:Nat}(N:Yd L)(Q:Exit -> St -> Prop)(fn:Func)(t:Nat)(S:St):Prop:=HF Tryz.prog GG (Fence.wide.inRound l) (some B) L N Q (rgA fn t) (PD fn t) S
abbrev Al {X R:Type}(m:Nat -> X -> Option R)(T:Nat -> R -> X -> Prop):Prop:=∀ n x r,m n x=some r -> T n r x
def ia {X R:Type}{m:Nat -> X -> Option R}{T:Nat -> R -> X -> Prop}(h0: ∀ x,m 0 x=none)(h: ∀ n,(∀ x r,m n x=some r -> T n r x) -> ∀ x r,m (n+1) x=some r -> T (n+1) r x):Al m T
 | 0,x,_,e=>by rw [h0 x] at e;cases e
 | n+1,x,r,e=>h n (ia h0 h n) x r e
/-A proof in o shape t p was read off:p holds t each way on,o hints gathered so Ia. -/
def Gt {R:Type}(T:R -> Prop)(c:List (DV×DH×Bool))(o:List (Nat×DV))(z:List (Nat×Fz))(v:List Prop)(A:Option R):Prop:=HS c o z v -> ∀ r,A=some r -> T r
section
variable {R R':Type} {T:R -> Prop} {c:List (DV×DH×Bool)} {o:List (Nat×DV)} {z:List (Nat×Fz)} {v:List Prop} {A A':Option R} {r0:R} {b b':Bool} {p q:Prop} {f:Nat} {ds:List DV} {h h':DH} {d d':DV} {e:Bool} {xi:Int}
def gO {F:Fence}{B:Option Nat}{L:Nat}{Y:Yd L}{Q:R -> QY Tryz.prog GG L}{k:List KI}{S:St}(t:Gt (λr=>A1 Tryz.prog GG F B L Y (Q r) k S) [] [] [] [] A): ∀ r,A=some r -> A1 Tryz.prog GG F B L Y (Q r) k S:=t H0
def gT (t:Gt T [] [] [] [] A): ∀ r,A=some r -> T r:=t H0
def rO (t:Gt T [] [] [] [] A):Gt T c o z v A:=λ_=>t H0
def nO:Gt T c o z v none:=λ_ _ h=>by cases h
def lF (x:HS c o z v -> T r0):Gt T c o z v (some r0):=λp _ h=>zGJ h▸x p
def bn (x:b=true -> Gt T c o z v A)(y:b=false -> Gt T c o z v A'):Gt T c o z v (bif b then A else A'):=λp r h=>(DQ h).elim (λh=>x h.1 p r h.2) (λh=>y h.1 p r h.2)
def bj (t:Nat)(x:b=true -> Gt T c (o++[(t,.bool true)]) z (v++[AN (.bool b) (.bool true)]) A)(y:b=false -> Gt T c (o++[(t,.bool false)]) z (v++[AN (.bool b) (.bool false)]) A'):Gt T c o z v (bif b then A else A'):=bn (λh p=>x h (p.b t h)) (λh p=>y h (p.b t h))
def bi (t:Nat)(x:Gt T c (o++[(t,.bool true)]) z (v++[AN (.bool b) (.bool true)]) A)(y:Gt T c (o++[(t,.bool false)]) z (v++[AN (.bool b) (.bool false)]) A'):Gt T c o z v (bif b then A else A'):=bj t (λ_=>x) (λ_=>y)
def gn {_:Decidable p}(x:p -> Gt T c o z v A):Gt T c o z v (if p then A else none):=λw r h=>x (DI h).1 w r (DI h).2
def gi {_:Decidable p}(x:Gt T c o z (v++[p]) A):Gt T c o z v (if p then A else none):=gn λg w=>x (w.g g)
def gc {_:Decidable p}{_:Decidable q}(x:Gt T c o z v (if p then (if q then A else none) else none)):Gt T c o z v (if p/\ q then A else none):=λw r h=>x w r (by obtain ⟨⟨g,L⟩,h⟩:=DI h;rw [zEZ g,zEZ L];exact h)
def gw {_:Decidable (AG xi)}(t:Nat)(x:Gt T c (o++[(t,.int .i64 xi)]) z (v++[AN (.int .i64 (IntKind.i64.wrap xi)) (.int .i64 xi)]) A):Gt T c o z v (if AG xi then A else none):=gn λg w=>x (w.w t g)
variable {F:Option R'}
def cn {A:R' -> Option R}(x: ∀ y,F=some y -> Gt T c o z v (A y)):Gt T c o z v (F.bind A):=λw r h=>let ⟨y,hy,h⟩:=Gg h;x y hy w r h
def cf {A:R' -> Option R}{d:R' -> DV}(k: ∀ {y},F=some y -> ES Tryz.prog GG f ds [] (d y) [] true)(h:DH)(x: ∀ y,Gt T (c++[(d y,h,true)]) o z (v++[ES Tryz.prog GG f ds h (d y) h true]) (A y))(C:ds.all GF=true:=by kernel_rfl):Gt T c o z v (F.bind A):=cn λy hy w=>x y (w.c (fb (k hy) h C))
def ce {A:R' -> Option R}{d:R' -> DV}{h':R' -> DH}(k: ∀ {y},F=some y -> ES Tryz.prog GG f ds h (d y) (h' y) e)(σ:Θ)(H:DH)(x: ∀ y,Gt T (c++[(up σ H.length (d y),DX H σ (h' y),e)]) o z (v++[ES Tryz.prog GG f (ds.map (up σ H.length)) H (up σ H.length (d y)) (DX H σ (h' y)) e]) (A y))(a: ∀ y,OR σ H.length h.length (h' y).length=true:=by intro;kernel_rfl)(b:(σ.map λk=>H.getD k none)=h.map (Dh σ H.length):=by kernel_rfl):Gt T c o z v (F.bind A):=cn λy hy w=>x y (w.c (em (k hy) σ H (a y) b))
def jb (t:Nat)(g:b=b')(x:Gt T c (o++[(t,.bool b')]) z (v++[AN (.bool b) (.bool b')]) A):Gt T c o z v A:=λw=>x (w.b t g)
def jw (t:Nat)(g:AG xi)(x:Gt T c (o++[(t,.int .i64 xi)]) z (v++[AN (.int .i64 (IntKind.i64.wrap xi)) (.int .i64 xi)]) A):Gt T c o z v A:=λw=>x (w.w t g)
def jg (g:p)(x:Gt T c o z (v++[p]) A):Gt T c o z v A:=λw=>x (w.g g)
def jt (x:Gt T c o z (v++[True]) A):Gt T c o z v A:=λw=>x w.t
def jo (t:Nat)(g:AN d d')(x:Gt T c (o++[(t,d')]) z (v++[AN d d']) A):Gt T c o z v A:=λw=>x (w.o t g)
def jc (g:ES Tryz.prog GG f ds h d h' e)(x:Gt T (c++[(d,h',e)]) o z (v++[ES Tryz.prog GG f ds h d h' e]) A):Gt T c o z v A:=λw=>x (w.c g)
def ja (t k m:Nat){n W:Nat}{f b:Nat -> Nat -> DV}(g:n=W/\ ∀ i j,i<n -> j<m -> AN (f i j) (b i j))(x:Gt T c o (z++[(t,.arr k W b)]) (v++[n=W/\ ∀ i j,i<n -> j<m -> AN (f i j) (b i j)]) A):Gt T c o z v A:=λw=>x (w.a t k m g)
def jz (t k:Nat)(x:Gt T c o (z++[(t,.frz k)]) v A):Gt T c o z v A:=λw=>x (w.z t k)
def ju (t k:Nat)(x:Gt T c o (z++[(t,.unf k)]) v A):Gt T c o z v A:=λw=>x (w.u t k)
end
section
variable {R:Type} {c:List (DV×DH×Bool)} {o:List (Nat×DV)} {z:List (Nat×Fz)} {v:List Prop} {A:Option R} {r0:R} {F:Fence} {B:Option Nat} {L:Nat} {Y N:BL Tryz.prog GG L} {k k':List KI} {S:St} {fr:List DV} {h':DH}
variable {Q:R -> QY Tryz.prog GG L}
def lG [hX:HC F] (a:Be) (σ:Θ)  (hk: ∀ {r},A=some r -> A1 Tryz.prog GG F B L Y (Q r) k' ⟨fr,h'⟩) (tg:List (List (Nat×Nat)×St):=[])
 (h:(CN Tryz.prog GG a 400 k S ⟨c,o,z,tg⟩).bind (Nb (GZ 0 fr) σ L [])=some (.at k',fr,h',v,[],[],[],true):=by kernel_rfl) (l:JB k'=true:=by kernel_rfl):Gt (λr=>A1 Tryz.prog GG F B L Y (Q r) k S) c o z v A:=
 λp _ e=>gg a σ p (hk e) tg h l
def lN [hX:HC F] {m:Nat} (a:Be) (σ:Θ)  (hk: ∀ {r},A=some r -> A1 Tryz.prog GG F B L Y (Q r) (Ah m k') ⟨fr,h'⟩) (tg:List (List (Nat×Nat)×St):=[])
 (h:(CN Tryz.prog GG a 400 k S ⟨c,o,z,tg⟩).bind (Nb (GZ 0 fr) σ L [])=some (.at k',fr,h',v,[],[],[],true):=by kernel_rfl) (l:JB k'=true:=by kernel_rfl) (b:Pn k'=true:=by kernel_rfl):Gt (λr=>A1 Tryz.prog GG F B L Y (Q r) k S) c o z v A:=
 lG a σ (λe=>en m (hk e) b) tg h l
def lE [hX:HC F] {fn:Func} {D:R -> DV} {E:R -> DH} (b:Be) (a σ:Θ) (tg:List (List (Nat×Nat)×St):=[])
 (h:(CN Tryz.prog GG b 400 k S ⟨c,o,z,tg⟩).bind (λr=>(Kz Tryz.prog a σ L [] fn (D r0) (E r0).length r).map λq=>(q.1,IF q.2.1,q.2.2))=some (true,D r0,E r0,v,[],[],[],true):=by kernel_rfl):Gt (λr=>Bi Tryz.prog GG F B L N (Cy Tryz.prog fn L (D r) (E r)) k S) c o z v (some r0):=
 lF λp=>ee b a σ p tg h
end
end
abbrev zGV:=@Nat.le_of_succ_le
section
set_option maxRecDepth 100000
set_option maxHeartbeats 40000000
def zAe:Ax (BA Tryz.f20 6) [] (List.range 9) []:=by unfold Ax;kernel_rfl
def Uj:Be:=λi=>match i with
 | 6=>.ord [] (List.range 9) []
 | _=>.no
inductive Yg where
 | l1 (x5:Int)
def zAL (n:Nat)(self:Yg -> Option Bool)(a S:Ξ)(Q:Int):Option Bool:= bif (decide (Q<(a.length:Int))) then if (0<=Q/\ Q<(a.length:Int))/\ (0<=Q/\ Q<(S.length:Int)) then bif ((a.getD Q.toNat 0) != (S.getD Q.toNat 0)) then some false else if AG (Q+1) then self (.l1 (Q+1)) else none else none else some true
def zAM (n:Nat)(self:Yg -> Option Bool)(a S:Ξ):Option Bool:= bif ((a.length:Int) != (S.length:Int)) then some false else self (.l1 0)
def eM (a S:Ξ):Nat -> Yg -> Option Bool
 | 0,_=>none
 | n+1,.l1 Q=>zAL n (eM a S n) a S Q
def same (n:Nat)(a S:Ξ):Option Bool:=zAM n (eM a S n) a S
def zAN (n B:Nat)(N:Yd 0)(a S:Ξ)(r:Bool):Yg -> Prop
 | .l1 Q=>∀ f:Nat,n<=f -> TW B N (FQ Tryz.f20 0 (.bool r) []) (Ah f (An (AR Tryz.f20) 0 [])) ⟨AF 26 [(0,.ints a),(1,.ints S),(5,.i Q)],[]⟩
def zAO (B:Nat)(N:Yd 0)(a S:Ξ):Al (eM a S) (zAN · B N a S):=ia (λ_=>rfl) λn C c r h=>by
 cases c
 case l1 x5=>
  intro f b;refine rd b λf b=>?_
  revert r;apply gO;exact bi 14 (jg zAe (gc (gi (gi (bi 25 (lE Uj [4] []) (gw 16 (lG Uj [] (C _ _ · f b)))))))) (lE Uj [4] [])
variable {r:Bool}{a:Ξ}{n:Nat}
def zAK {S:Ξ}(h:same n a S=some r):EQ 20 [.ints a,.ints S] [] (.bool r) [] true:=by
 refine ot Tryz.func20 λB N=>?_
 revert r;apply gO;exact bi 10 (lE Uj [4] []) (lN Uj [] ((zAO B N a S n) _ _ · n Nat.le.refl))
inductive bH where
 | l1 (x5:Int)
def j8 (n:Nat)(self:bH -> Option Bool)(O:Ξ)(N:Int)(Q:Int):Option Bool:= bif (decide (Q<(O.length:Int))) then if 0<=Q/\ Q<(O.length:Int) then bif ((O.getD Q.toNat 0)==N) then some true else if AG (Q+1) then self (.l1 (Q+1)) else none else none else some false
def t7 (n:Nat)(self:bH -> Option Bool)(l_:Ξ)(n_:Int):Option Bool:= self (.l1 0)
def S0 (O:Ξ)(N:Int):Nat -> bH -> Option Bool
 | 0,_=>none
 | n+1,.l1 Q=>j8 n (S0 O N n) O N Q
def has (n:Nat)(O:Ξ)(N:Int):Option Bool:=t7 n (S0 O N n) O N
def zIk (n B:Nat)(N:Yd 0)(O:Ξ)(a:Int)(r:Bool):bH -> Prop
 | .l1 Q=>∀ f:Nat,n<=f -> TW B N (FQ Tryz.f87 0 (.bool r) []) (Ah f (An (AR Tryz.f87) 0 [])) ⟨AF 18 [(0,.ints O),(1,.i a),(5,.i Q)],[]⟩
def zIl (B:Nat)(N:Yd 0)(O:Ξ)(b:Int):Al (S0 O b) (zIk · B N O b):=ia (λ_=>rfl) λn C c r h=>by
 cases c
 case l1 x5=>
  intro f a;refine rd a λf a=>?_
  revert r;apply gO;exact bi 9 (gi (bi 17 (lE AC [4] []) (gw 11 (lG AC [] (C _ _ · f a))))) (lE AC [4] [])
variable {O:Ξ}
def t6 {a:Int}(h:has n O a=some r):EQ 87 [.ints O,.i a] [] (.bool r) [] true:=by
 refine ot Tryz.func87 λB N=>?_
 revert r;apply gO;exact lN AC [] ((zIl B N O a n) _ _ · n Nat.le.refl)
inductive cm where
 | l1 (x7:Int)
def lO (n:Nat)(self:cm -> Option Bool)(O:Ξ)(lo hi:Int)(Z:Int):Option Bool:= bif (decide (Z<(O.length:Int))) then if 0<=Z/\ Z<(O.length:Int) then bif (decide ((O.getD Z.toNat 0)<lo)) then some false else bif (decide ((O.getD Z.toNat 0)>hi)) then some false else if AG (Z+1) then self (.l1 (Z+1)) else none else none else some true
def wI (n:Nat)(self:cm -> Option Bool)(l_:Ξ)(lo hi:Int):Option Bool:= self (.l1 0)
def Tf (O:Ξ)(lo hi:Int):Nat -> cm -> Option Bool
 | 0,_=>none
 | n+1,.l1 Z=>lO n (Tf O lo hi n) O lo hi Z
def OV (n:Nat)(O:Ξ)(lo hi:Int):Option Bool:=wI n (Tf O lo hi n) O lo hi
def zLX (n B:Nat)(N:Yd 0)(O:Ξ)(lo hi:Int)(r:Bool):cm -> Prop
 | .l1 Z=>∀ f:Nat,n<=f -> TW B N (FQ Tryz.f55 0 (.bool r) []) (Ah f (An (AR Tryz.f55) 0 [])) ⟨AF 28 [(0,.ints O),(1,.i lo),(2,.i hi),(7,.i Z)],[]⟩
def zLY (B:Nat)(N:Yd 0)(O:Ξ)(lo hi:Int):Al (Tf O lo hi) (zLX · B N O lo hi):=ia (λ_=>rfl) λn C b r h=>by
 cases b
 case l1 x7=>
  intro f a;refine rd a λf a=>?_
  revert r;apply gO;exact bi 11 (gn λq=>jg q (bi 19 (lE AC [6] []) (jg q (bi 26 (lE AC [6] []) (gw 13 (lG AC [] (C _ _ · f a))))))) (lE AC [6] [])
def XS {lo hi:Int}(h:OV n O lo hi=some r):EQ 55 [.ints O,.i lo,.i hi] [] (.bool r) [] true:=by
 refine ot Tryz.func55 λB N=>?_
 revert r;apply gO;exact lN AC [] ((zLY B N O lo hi n) _ _ · n Nat.le.refl)
def zBQ:Ax (BA Tryz.f88 7) [] (List.range 9) []:=by unfold Ax;kernel_rfl
def Ra:Be:=λi=>match i with
 | 7=>.ord [] (List.range 9) []
 | _=>.no
inductive TR where
 | l1 (x3:Int)
 | l2 (x3 x4:Int)
def kf (n:Nat)(self:TR -> Option Bool)(O:Ξ)(H:Int):Option Bool:= bif (decide (H<(O.length:Int))) then self (.l2 H 0) else some true
def bx (n:Nat)(self:TR -> Option Bool)(O:Ξ)(H K:Int):Option Bool:= bif (decide (K<H)) then if (0<=H/\ H<(O.length:Int))/\ (0<=K/\ K<(O.length:Int)) then bif ((O.getD H.toNat 0)==(O.getD K.toNat 0)) then some false else if AG (K+1) then self (.l2 H (K+1)) else none else none else if AG (H+1) then self (.l1 (H+1)) else none
def vO (n:Nat)(self:TR -> Option Bool)(l_:Ξ):Option Bool:= self (.l1 0)
def KR (O:Ξ):Nat -> TR -> Option Bool
 | 0,_=>none
 | n+1,.l1 H=>kf n (KR O n) O H
 | n+1,.l2 H K=>bx n (KR O n) O H K
def bz (n:Nat)(O:Ξ):Option Bool:=vO n (KR O n) O
def zKF (n B:Nat)(N:Yd 0)(O:Ξ)(r:Bool):TR -> Prop
 | .l1 H=>∀ f:Nat,n<=f -> TW B N (FQ Tryz.f88 0 (.bool r) []) (Ah f (An (AR Tryz.f88) 0 [])) ⟨AF 25 [(0,.ints O),(3,.i H)],[]⟩
 | .l2 H K=>∀ f V:Nat,n<=f -> n<=V -> TW B N (FQ Tryz.f88 0 (.bool r) []) (Ah V (An (AR Tryz.f88) 2 [f])) ⟨AF 25 [(0,.ints O),(3,.i H),(4,.i K)],[]⟩
def zKG (B:Nat)(N:Yd 0)(O:Ξ):Al (KR O) (zKF · B N O):=ia (λ_=>rfl) λn C b r h=>by
 cases b
 case l1 x3=>
  intro f a;refine rd a λf a=>?_
  revert r;apply gO;exact bi 8 (lN Ra [] (C _ _ · f n a Nat.le.refl)) (lE Ra [2] [])
 case l2 x3 x4=>
  intro f V a x;have a:=zGV a;refine rd x λV x=>?_
  revert r;apply gO;exact bi 13 (jg zBQ (gc (gi (gi (bi 24 (lE Ra [2] []) (gw 15 (lG Ra [] (C _ _ · f V a x)))))))) (gw 10 (lG Ra [] (C _ _ · f a)))
def zKD (h:bz n O=some r):EQ 88 [.ints O] [] (.bool r) [] true:=by
 refine ot Tryz.func88 λB N=>?_
 revert r;apply gO;exact lN Ra [] ((zKG B N O n) _ _ · n Nat.le.refl)
inductive aY where
 | l1 (x8:Int)
def iL (n:Nat)(self:aY -> Option Int)(N:Ξ)(v:Int)(x8:Int):Option Int:= bif (decide (x8<(N.length:Int))) then if 0<=x8/\ x8<(N.length:Int) then bif (v==(N.getD x8.toNat 0)) then some x8 else if AG (x8+1) then self (.l1 (x8+1)) else none else none else some (-1)
def sk (n:Nat)(self:aY -> Option Int)(s_:Ξ)(v:Int):Option Int:= self (.l1 0)
def Pq (N:Ξ)(v:Int):Nat -> aY -> Option Int
 | 0,_=>none
 | n+1,.l1 x8=>iL n (Pq N v n) N v x8
def aZ (n:Nat)(N:Ξ)(v:Int):Option Int:=sk n (Pq N v n) N v
def zF6 (n B:Nat)(N:Yd 0)(a:Ξ)(v:Int)(r:Int):aY -> Prop
 | .l1 x8=>∀ f:Nat,n<=f -> TW B N (FQ Tryz.f96 0 (.i r) []) (Ah f (An (AR Tryz.f96) 0 [])) ⟨AF 19 [(0,.ints a),(1,.i v),(7,.i (a.length:Int)),(8,.i x8)],[]⟩
def zF7 (B:Nat)(N:Yd 0)(b:Ξ)(v:Int):Al (Pq b v) (zF6 · B N b v):=ia (λ_=>rfl) λn C c r h=>by
 cases c
 case l1 x8=>
  intro f a;refine rd a λf a=>?_
  revert r;apply gO;exact bi 9 (gi (bi 16 (lE AC [4] []) (gw 18 (lG AC [] (C _ _ · f a))))) (lE AC [4] [])
variable {v:Int}
def zF5 {r:Int}(h:aZ n a v=some r):EQ 96 [.ints a,.i v] [] (.i r) [] true:=by
 refine ot Tryz.func96 λB N=>?_
 revert r;apply gO;exact lN AC [] ((zF7 B N a v n) _ _ · n Nat.le.refl)
inductive ac where
 | l1 (x8:Int)
def ab (n:Nat)(self:ac -> Option Int)(N:Ω)(v:Bool)(x8:Int):Option Int:= bif (decide (x8<(N.length:Int))) then if 0<=x8/\ x8<(N.length:Int) then bif (v==(N.getD x8.toNat false)) then some x8 else if AG (x8+1) then self (.l1 (x8+1)) else none else none else some (-1)
def zGC (n:Nat)(self:ac -> Option Int)(s_:Ω)(v:Bool):Option Int:= self (.l1 0)
def Nq (N:Ω)(v:Bool):Nat -> ac -> Option Int
 | 0,_=>none
 | n+1,.l1 x8=>ab n (Nq N v n) N v x8
def ae (n:Nat)(N:Ω)(v:Bool):Option Int:=zGC n (Nq N v n) N v
def zGD (n B:Nat)(N:Yd 0)(a:Ω)(v:Bool)(r:Int):ac -> Prop
 | .l1 x8=>∀ f:Nat,n<=f -> TW B N (FQ Tryz.f136 0 (.i r) []) (Ah f (An (AR Tryz.f136) 0 [])) ⟨AF 19 [(0,.bools a),(1,.bool v),(7,.i (a.length:Int)),(8,.i x8)],[]⟩
def zGE (B:Nat)(N:Yd 0)(b:Ω)(v:Bool):Al (Nq b v) (zGD · B N b v):=ia (λ_=>rfl) λn C c r h=>by
 cases c
 case l1 x8=>
  intro f a;refine rd a λf a=>?_
  revert r;apply gO;exact bi 9 (gi (bi 16 (lE AC [4] []) (gw 18 (lG AC [] (C _ _ · f a))))) (lE AC [4] [])
def zGB {a:Ω}{v:Bool}{r:Int}(h:ae n a v=some r):EQ 136 [.bools a,.bool v] [] (.i r) [] true:=by
 refine ot Tryz.func136 λB N=>?_
 revert r;apply gO;exact lN AC [] ((zGE B N a v n) _ _ · n Nat.le.refl)
def kq (n:Nat)(N:Ξ)(v:Int):Option Bool:= (aZ n N v).bind λk=> some (decide (k>=0))
def OS (n:Nat)(N:Ξ)(v:Int):Option Bool:=kq n N v
def vW (h:OS n a v=some r):EQ 78 [.ints a,.i v] [] (.bool r) [] true:=by
 unfold OS kq at h;refine ot Tryz.func78 λB N=>?_
 revert r;apply gO;exact cf zF5 [] λ_=>lE AC [4] []
def zBN:Ax (BA Tryz.f84 6) [] (List.range 9) []:=by unfold Ax;kernel_rfl
def Ul:Be:=λi=>match i with
 | 6=>.ord [] (List.range 9) []
 | _=>.no
inductive bp where
 | l1 (x13:Int)
def bo (n:Nat)(self:bp -> Option Bool)(M s:Ξ)(x13:Int):Option Bool:= bif (decide (x13<(M.length:Int))) then if (0<=x13/\ x13<(M.length:Int))/\ (0<=x13/\ x13<(s.length:Int)) then bif ((M.getD x13.toNat 0) != (s.getD x13.toNat 0)) then some false else if AG (x13+1) then self (.l1 (x13+1)) else none else none else some true
def u6 (n:Nat)(self:bp -> Option Bool)(M s:Ξ):Option Bool:= bif ((M.length:Int) != (s.length:Int)) then some false else self (.l1 0)
def TM (M s:Ξ):Nat -> bp -> Option Bool
 | 0,_=>none
 | n+1,.l1 x13=>bo n (TM M s n) M s x13
def Ws (n:Nat)(M s:Ξ):Option Bool:=u6 n (TM M s n) M s
def zJ0 (n B:Nat)(N:Yd 0)(M s:Ξ)(r:Bool):bp -> Prop
 | .l1 x13=>∀ f:Nat,n<=f -> TW B N (FQ Tryz.f84 0 (.bool r) []) (Ah f (An (AR Tryz.f84) 0 [])) ⟨AF 26 [(0,.ints M),(1,.ints s),(12,.i (M.length:Int)),(13,.i x13)],[]⟩
def zJ1 (B:Nat)(N:Yd 0)(M s:Ξ):Al (TM M s) (zJ0 · B N M s):=ia (λ_=>rfl) λn C b r h=>by
 cases b
 case l1 x13=>
  intro f a;refine rd a λf a=>?_
  revert r;apply gO;exact bi 14 (jg zBN (gc (gi (gi (bi 24 (lE Ul [4] []) (gw 25 (lG Ul [] (C _ _ · f a)))))))) (lE Ul [4] [])
def zJy {M s:Ξ}(h:Ws n M s=some r):EQ 84 [.ints M,.ints s] [] (.bool r) [] true:=by
 refine ot Tryz.func84 λB N=>?_
 revert r;apply gO;exact bi 10 (lE Ul [4] []) (lN Ul [] ((zJ1 B N M s n) _ _ · n Nat.le.refl))
inductive Rs where
 | l1 (x3:Int)
 | l2 (x3 x4:Int)
def fN (n:Nat)(self:Rs -> Option Int)(E:List Ξ)(H:Int):Option Int:= bif (decide (H<(E.length:Int))) then self (.l2 H 0) else some 0
def ZG (n:Nat)(self:Rs -> Option Int)(E:List Ξ)(H K:Int):Option Int:= if 0<=H/\ H<(E.length:Int) then bif (decide (K<(((E.getD H.toNat []).length:Nat):Int))) then if 0<=K/\ K<(((E.getD H.toNat []).length:Nat):Int) then bif (decide (((E.getD H.toNat []).getD K.toNat 0)<0)) then some 120 else bif (decide (((E.getD H.toNat []).getD K.toNat 0)>=(E.length:Int))) then some 120 else bif (((E.getD H.toNat []).getD K.toNat 0)==H) then some 120 else bif (decide (K>0)) then if AG (K-1)/\ (0<=(K-1)/\ (K-1)<(((E.getD H.toNat []).length:Nat):Int)) then bif (decide (((E.getD H.toNat []).getD (((K-1)).toNat) 0)>=((E.getD H.toNat []).getD K.toNat 0))) then some 120 else if (0:Int)<=((E.getD H.toNat []).getD K.toNat 0)/\ ((E.getD H.toNat []).getD K.toNat 0)<(E.length:Int) then (has n (E.getD (((E.getD H.toNat []).getD K.toNat 0).toNat) []) H).bind λk=> bif (!k) then some 120 else if AG (K+1) then self (.l2 H (K+1)) else none else none else none else if (0:Int)<=((E.getD H.toNat []).getD K.toNat 0)/\ ((E.getD H.toNat []).getD K.toNat 0)<(E.length:Int) then (has n (E.getD (((E.getD H.toNat []).getD K.toNat 0).toNat) []) H).bind λk=> bif (!k) then some 120 else if AG (K+1) then self (.l2 H (K+1)) else none else none else none else if AG (H+1) then self (.l1 (H+1)) else none else none
def qL (n:Nat)(self:Rs -> Option Int)(E:List Ξ):Option Int:= bif (decide ((E.length:Int)>256)) then some 120 else self (.l1 0)
def Js (E:List Ξ):Nat -> Rs -> Option Int
 | 0,_=>none
 | n+1,.l1 H=>fN n (Js E n) E H
 | n+1,.l2 H K=>ZG n (Js E n) E H K
def NT (n:Nat)(E:List Ξ):Option Int:=qL n (Js E n) E
def zC5 (n B:Nat)(N:Yd 0)(E:List Ξ)(r:Int):Rs -> Prop
 | .l1 H=>∀ f:Nat,n<=f -> TW B N (FQ Tryz.f56 0 (.i r) []) (Ah f (An (AR Tryz.f56) 0 [])) ⟨AF 69 [(0,.sl 1 E.length (AK AP E)),(3,.i H)],[]⟩
 | .l2 H K=>∀ f V:Nat,n<=f -> n<=V -> TW B N (FQ Tryz.f56 0 (.i r) []) (Ah V (An (AR Tryz.f56) 2 [f])) ⟨AF 69 [(0,.sl 1 E.length (AK AP E)),(3,.i H),(4,.i K)],[]⟩
def zC6 (B:Nat)(N:Yd 0)(E:List Ξ):Al (Js E) (zC5 · B N E):=ia (λ_=>rfl) λn C b r h=>by
 cases b
 case l1 x3=>
  intro f a;refine rd a λf a=>?_
  revert r;apply gO;exact bi 12 (lN AC [] (C _ _ · f n a Nat.le.refl)) (lE AC [2] [])
 case l2 x3 x4=>
  intro f V a x;have a:=zGV a;refine rd x λV x=>?_
  revert r;apply gO;exact gn λq=>jg q (bi 21 (jg q (gi (bi 32 (lE AC [2] []) (bi 37 (lE AC [2] []) (bi 42 (lE AC [2] []) (bi 46 (jg q (gc (gw 53 (gi (bi 57 (lE AC [2] []) (gi (cf t6 [] λ_=>bi 67 (lE AC [2] []) (gw 23 (lG AC [] (C _ _ · f V a x)))))))))) (gi (cf t6 [] λ_=>bi 67 (lE AC [2] []) (gw 23 (lG AC [] (C _ _ · f V a x))))))))))) (gw 14 (lG AC [] (C _ _ · f a))))
variable {E:List Ξ}
def fM {r:Int}(h:NT n E=some r):EQ 56 [.sl 1 E.length (AK AP E)] [] (.i r) [] true:=by
 refine ot Tryz.func56 λB N=>?_
 revert r;apply gO;exact bi 8 (lE AC [2] []) (lN AC [] ((zC6 B N E n) _ _ · n Nat.le.refl))
inductive TE where
 | l1 (A6:Int)
 | l2 (x3:Int) (x4:Ξ) (A6:Int) (BN:Ξ) (Lk DZ:Int)
def kK (n:Nat)(self:TE -> Option Int)(E:List Ξ)(C:Int):Option Int:= bif (decide (C<(E.length:Int))) then if 0<=C/\ C<(E.length:Int) then self (.l2 C (E.getD C.toNat []) C (E.getD C.toNat []) (((E.getD C.toNat []).length:Nat):Int) 0) else none else some 0
def bS (n:Nat)(self:TE -> Option Int)(E:List Ξ)(H:Int)(K:Ξ)(C:Int)(m:Ξ)(t a:Int):Option Int:= bif (decide (a<t)) then if 0<=a/\ a<(m.length:Int) then bif (decide ((m.getD a.toNat 0)<0)) then some 120 else bif (decide ((m.getD a.toNat 0)>=(E.length:Int))) then some 120 else bif ((m.getD a.toNat 0)==H) then some 120 else bif (decide (a>0)) then if AG (a-1)/\ (0<=(a-1)/\ (a-1)<(K.length:Int)) then bif (decide ((K.getD (((a-1)).toNat) 0)>=(m.getD a.toNat 0))) then some 120 else if 0<=(m.getD a.toNat 0)/\ (m.getD a.toNat 0)<(E.length:Int) then (OS n (E.getD ((m.getD a.toNat 0).toNat) []) H).bind λk=> bif (!k) then some 120 else if AG (a+1) then self (.l2 H K C m t (a+1)) else none else none else none else if 0<=(m.getD a.toNat 0)/\ (m.getD a.toNat 0)<(E.length:Int) then (OS n (E.getD ((m.getD a.toNat 0).toNat) []) H).bind λk=> bif (!k) then some 120 else if AG (a+1) then self (.l2 H K C m t (a+1)) else none else none else none else if AG (C+1) then self (.l1 (C+1)) else none
def uZ (n:Nat)(self:TE -> Option Int)(E:List Ξ):Option Int:= bif (decide ((E.length:Int)>256)) then some 120 else self (.l1 0)
def KJ (E:List Ξ):Nat -> TE -> Option Int
 | 0,_=>none
 | n+1,.l1 C=>kK n (KJ E n) E C
 | n+1,.l2 H K C m t a=>bS n (KJ E n) E H K C m t a
def Wc (n:Nat)(E:List Ξ):Option Int:=uZ n (KJ E n) E
def zJM (n B:Nat)(N:Yd 0)(E:List Ξ)(r:Int):TE -> Prop
 | .l1 C=>∀ f:Nat,n<=f -> TW B N (FQ Tryz.f44 0 (.i r) []) (Ah f (An (AR Tryz.f44) 0 [])) ⟨AF 61 [(0,.sl 1 E.length (AK AP E)),(10,.sl 1 E.length (AK AP E)),(11,.i (E.length:Int)),(12,.i C)],[]⟩
 | .l2 H K C m t a=>∀ f V:Nat,n<=f -> n<=V -> TW B N (FQ Tryz.f44 0 (.i r) []) (Ah V (An (AR Tryz.f44) 2 [f])) ⟨AF 61 [(0,.sl 1 E.length (AK AP E)),(3,.i H),(4,.ints K),(10,.sl 1 E.length (AK AP E)),(11,.i (E.length:Int)),(12,.i C),(17,.ints m),(18,.i t),(19,.i a)],[]⟩
def zJN (B:Nat)(N:Yd 0)(E:List Ξ):Al (KJ E) (zJM · B N E):=ia (λ_=>rfl) λn C b r h=>by
 cases b
 case l1 A6=>
  intro f a;refine rd a λf a=>?_
  revert r;apply gO;exact bi 13 (gi (lN AC [] (C _ _ · f n a Nat.le.refl))) (lE AC [2] [])
 case l2 x3 x4 A6 BN Lk DZ=>
  intro f V a x;have a:=zGV a;refine rd x λV x=>?_
  revert r;apply gO;exact bi 20 (gi (bi 25 (lE AC [2] []) (bi 30 (lE AC [2] []) (bi 35 (lE AC [2] []) (bi 39 (gc (gw 43 (gi (bi 47 (lE AC [2] []) (gi (cf vW [] λ_=>bi 57 (lE AC [2] []) (gw 59 (lG AC [] (C _ _ · f V a x))))))))) (gi (cf vW [] λ_=>bi 57 (lE AC [2] []) (gw 59 (lG AC [] (C _ _ · f V a x)))))))))) (gw 60 (lG AC [] (C _ _ · f a)))
def uY {r:Int}(h:Wc n E=some r):EQ 44 [.sl 1 E.length (AK AP E)] [] (.i r) [] true:=by
 refine ot Tryz.func44 λB N=>?_
 revert r;apply gO;exact bi 9 (lE AC [2] []) (lN AC [] ((zJN B N E n) _ _ · n Nat.le.refl))
end
section
set_option maxRecDepth 100000
set_option maxHeartbeats 40000000
def ma (n:Nat)(v lo hi:Int):Option Bool:= bif (decide (v<lo)) then some true else some (decide (v>hi))
def dO (n:Nat)(v lo hi:Int):Option Bool:=ma n v lo hi
variable {r:Bool}{lo hi:Int}{n:Nat}
def xh {v:Int}(h:dO n v lo hi=some r):EQ 77 [.i v,.fp 1 (L1 [.i lo]),.fp 1 (L1 [.i hi])] [] (.bool r) [] true:=by
 refine ot Tryz.func77 λB N=>?_
 revert r;apply gO;exact bi 7 (lE AC [4] []) (lE AC [4] [])
inductive aV where
 | l1 (x8:Int)
def iK (n:Nat)(self:aV -> Option Int)(l:Ξ)(lo hi:Int)(x8:Int):Option Int:= bif (decide (x8<(l.length:Int))) then if 0<=x8/\ x8<(l.length:Int) then (dO n (l.getD x8.toNat 0) lo hi).bind λk=> bif k then some x8 else if AG (x8+1) then self (.l1 (x8+1)) else none else none else some (-1)
def si (n:Nat)(self:aV -> Option Int)(l:Ξ)(lo hi:Int):Option Int:= self (.l1 0)
def Pp (l:Ξ)(lo hi:Int):Nat -> aV -> Option Int
 | 0,_=>none
 | n+1,.l1 x8=>iK n (Pp l lo hi n) l lo hi x8
def aX (n:Nat)(l:Ξ)(lo hi:Int):Option Int:=si n (Pp l lo hi n) l lo hi
def zFz (n B:Nat)(N:Yd 0)(l:Ξ)(lo hi:Int)(r:Int):aV -> Prop
 | .l1 x8=>∀ f:Nat,n<=f -> TW B N (FQ Tryz.f85 0 (.i r) []) (Ah f (An (AR Tryz.f85) 0 [])) ⟨AF 19 [(0,.ints l),(1,.fn 77 2 (L1 [.fp 1 (L1 [.i lo]),.fp 1 (L1 [.i hi])])),(7,.i (l.length:Int)),(8,.i x8)],[]⟩
def zF0 (B:Nat)(N:Yd 0)(l:Ξ)(lo hi:Int):Al (Pp l lo hi) (zFz · B N l lo hi):=ia (λ_=>rfl) λn C b r h=>by
 cases b
 case l1 x8=>
  intro f a;refine rd a λf a=>?_
  revert r;apply gO;exact bi 9 (gi (cf xh [] λ_=>bi 16 (lE AC [4] []) (gw 18 (lG AC [] (C _ _ · f a))))) (lE AC [4] [])
variable {l:Ξ}
def zFx {r:Int}(h:aX n l lo hi=some r):EQ 85 [.ints l,.fn 77 2 (L1 [.fp 1 (L1 [.i lo]),.fp 1 (L1 [.i hi])])] [] (.i r) [] true:=by
 refine ot Tryz.func85 λB N=>?_
 revert r;apply gO;exact lN AC [] ((zF0 B N l lo hi n) _ _ · n Nat.le.refl)
def ko (n:Nat)(l:Ξ)(lo hi:Int):Option Bool:= (aX n l lo hi).bind λk=> some (decide (k>=0))
def cJ (n:Nat)(l:Ξ)(lo hi:Int):Option Bool:=ko n l lo hi
def zKk (h:cJ n l lo hi=some r):EQ 76 [.ints l,.fn 77 2 (L1 [.fp 1 (L1 [.i lo]),.fp 1 (L1 [.i hi])])] [] (.bool r) [] true:=by
 unfold cJ ko at h;refine ot Tryz.func76 λB N=>?_
 revert r;apply gO;exact cf zFx [] λ_=>lE AC [4] []
def fW (n:Nat)(O:Ξ)(lo hi:Int):Option Bool:= (cJ n O lo hi).bind λk=> some (!k)
def NY (n:Nat)(O:Ξ)(lo hi:Int):Option Bool:=fW n O lo hi
def ZH {O:Ξ}(h:NY n O lo hi=some r):EQ 43 [.ints O,.i lo,.i hi] [] (.bool r) [] true:=by
 unfold NY fW at h;refine ot Tryz.func43 λB N=>?_
 revert r;apply gO;exact cn λy1 s=>jc (sb [.ints O,.fn 77 2 (L1 [.ref 0 0,.ref 1 0])] (zKk s) [oC [.i lo],oC [.i hi]] ⟨Az.plain (by kernel_rfl),(Az.fnL (l:=[.ref 0 0,.ref 1 0]) (l0:=[.fp 1 (L1 [.i lo]),.fp 1 (L1 [.i hi])]) ⟨(Az.refL (l:=[.i lo]) (l0:=[.i lo]) rfl ⟨Az.plain (by kernel_rfl),trivial⟩),(Az.refL (l:=[.i hi]) (l0:=[.i hi]) rfl ⟨Az.plain (by kernel_rfl),trivial⟩),trivial⟩),trivial⟩) (lE AC [6] [])
def zBL:Ax (BA Tryz.f47 24) [([0,1,2,3,5,6,7,8],4),([],9),([10,11,12,13,14],15),([],16),([17,18,19,20,21,22,23,24,25,26],27)] [28,29] []:=by unfold Ax;kernel_rfl
def EI:Be:=λi=>match i with
 | 24=>.ord [([0,1,2,3,5,6,7,8],4),([],9),([10,11,12,13,14],15),([],16),([17,18,19,20,21,22,23,24,25,26],27)] [28,29] []
 | _=>.no
def tQ (q:AA)(W:AD):DH:=[oC (AH q),oC (BY W),oI ([W.set,W.other]:Ξ),oI ([W.lo,W.hi]:Ξ)]
inductive OI where
 | l1 (Ac:Int) (o2:Ω)
 | l2
def Wl (n:Nat)(self:OI -> Option Bool)(q:AA)(W:AD)(O:Int)(F:Ω):Option Bool:= bif (decide (O<(W.cells.length:Int))) then if 0<=O/\ O<(W.cells.length:Int) then bif (decide ((W.cells.getD O.toNat 0)<0)) then some false else bif (decide ((W.cells.getD O.toNat 0)>=q.cells)) then some false else if (0<=(W.cells.getD O.toNat 0)/\ (W.cells.getD O.toNat 0)<((256:Nat):Int))/\ 0+((W.cells.getD O.toNat 0).toNat)<F.length then bif (F.getD (0+((W.cells.getD O.toNat 0).toNat)) false) then some false else bif (decide (W.kind>=8)) then bif ((W.cells.getD O.toNat 0) != O) then some false else if AG (O+1) then self (.l1 (O+1) (F.set (0+((W.cells.getD O.toNat 0).toNat)) true)) else none else if AG (O+1) then self (.l1 (O+1) (F.set (0+((W.cells.getD O.toNat 0).toNat)) true)) else none else none else none else bif (W.kind==1) then self (.l2) else bif (W.kind==2) then self (.l2) else bif (W.kind==3) then self (.l2) else bif (W.kind==4) then self (.l2) else bif (W.kind==5) then self (.l2) else bif (W.kind==6) then bif ((W.cells.length:Int) != 2) then some false else self (.l2) else bif (W.kind==7) then bif ((W.cells.length:Int) != 2) then some false else self (.l2) else bif (W.kind==8) then bif ((W.cells.length:Int) != q.cells) then some false else self (.l2) else bif (W.kind==9) then bif ((W.cells.length:Int) != q.cells) then some false else self (.l2) else some false
def kT (n:Nat)(self:OI -> Option Bool)(q:AA)(W:AD):Option Bool:= if (0<=q.symbols/\ q.symbols<=(IntKind.i64.bits:Int))/\ AG ((IntKind.i64.wrap (1*2 ^ (q.symbols).toNat))-1) then (NY n ([W.set,W.other]:Ξ) 0 ((IntKind.i64.wrap (1*2 ^ (q.symbols).toNat))-1)).bind λk=> bif k then (NY n ([W.lo,W.hi]:Ξ) 0 65536).bind λG=> bif G then bif (decide ((W.runs.length:Int)<=8)) then (NY n W.runs 1 256).bind λy3=> some y3 else some false else some false else some false else none
def uq (n:Nat)(self:OI -> Option Bool)(q:AA)(c_:AD):Option Bool:= self (.l1 0 (List.replicate 256 false))
def TJ (q:AA)(W:AD):Nat -> OI -> Option Bool
 | 0,_=>none
 | n+1,.l1 O F=>Wl n (TJ q W n) q W O F
 | n+1,.l2=>kT n (TJ q W n) q W
def bc (n:Nat)(q:AA)(W:AD):Option Bool:=uq n (TJ q W n) q W
def zJf (n B:Nat)(N:Yd 0)(q:AA)(W:AD)(r:Bool):OI -> Prop
 | .l1 O F=>∀ f:Nat,n<=f -> TW B N (FQ Tryz.f47 0 (.bool r) []) (Ah f (An (AR Tryz.f47) 0 [])) ⟨AF 95 [(2,.ref 0 0),(3,.ref 1 0),(5,.mp 2 1 0 0),(9,.ints W.cells),(10,.i (W.cells.length:Int)),(11,.i O)],[oC (AH q),oC (BY W),some (.bools F)]⟩
 | .l2=>TW B N (FQ Tryz.f47 0 (.bool r) []) (EP (AR Tryz.f47) 24 []) ⟨AF 95 [(2,.ref 0 0),(3,.ref 1 0)],[oC (AH q),oC (BY W)]⟩
def zJg (B:Nat)(N:Yd 0)(q:AA)(W:AD):Al (TJ q W) (zJf · B N q W):=ia (λ_=>rfl) λn C b r h=>by
 cases b
 case l1 Ac o2=>
  intro f a;refine rd a λf a=>?_
  revert r;apply gO;exact bi 12 (gi (bi 17 (lE (Ab 24 EI) [4] []) (bi 22 (lE (Ab 24 EI) [4] []) (gc (gn λo=>jg o (gn λs=>jg s (bi 27 (lE (Ab 24 EI) [4] []) (bi 32 (bi 36 (lE (Ab 24 EI) [4] []) (jg o (jg s (gw 41 (lG (Ab 24 EI) [0,1,2] (C _ _ · f a)))))) (jg o (jg s (gw 41 (lG (Ab 24 EI) [0,1,2] (C _ _ · f a))))))))))))) (bi 45 (lG (Ab 24 EI) [0,1] (C _ _ ·)) (bi 46 (lG (Ab 24 EI) [0,1] (C _ _ ·)) (bi 47 (lG (Ab 24 EI) [0,1] (C _ _ ·)) (bi 48 (lG (Ab 24 EI) [0,1] (C _ _ ·)) (bi 49 (lG (Ab 24 EI) [0,1] (C _ _ ·)) (bi 51 (bi 56 (lE (Ab 24 EI) [4] []) (lG (Ab 24 EI) [0,1] (C _ _ ·))) (bi 52 (bi 56 (lE (Ab 24 EI) [4] []) (lG (Ab 24 EI) [0,1] (C _ _ ·))) (bi 58 (bi 65 (lE (Ab 24 EI) [4] []) (lG (Ab 24 EI) [0,1] (C _ _ ·))) (bi 59 (bi 65 (lE (Ab 24 EI) [4] []) (lG (Ab 24 EI) [0,1] (C _ _ ·))) (lE (Ab 24 EI) [4] []))))))))))
 case l2=>
  revert r;apply gO;exact jg zBL (gc (gi (gw 74 (cn λy1 c=>jc (sb [.msl 2 1 0 2,.i 0,.i ((IntKind.i64.wrap (1*2 ^ (q.symbols).toNat))-1)] (ZH c) [oC (AH q),oC (BY W),oI ([W.set,W.other]:Ξ)] ⟨Az.ints rfl (Eq.refl 2),Az.plain (by kernel_rfl),Az.plain (by kernel_rfl),trivial⟩) (bi 75 (cn λy2 j=>jc (sb [.msl 3 1 0 2,.i 0,.i 65536] (ZH j) (tQ q W) ⟨Az.ints rfl (Eq.refl 2),Az.plain (by kernel_rfl),Az.plain (by kernel_rfl),trivial⟩) (bi 82 (bi 88 (cf ZH (tQ q W) λ_=>lE EI [4] []) (lE EI [4] [])) (lE EI [4] []))) (lE EI [4] []))))))
variable {W:AD}{q:AA}
def zJd (h:bc n q W=some r):EQ 47 [.agg 5 (L1 (AH q)),.agg 9 (L1 (BY W))] [] (.bool r) [] true:=by
 refine ot Tryz.func47 λB N=>?_
 revert r;apply gO;exact lN (Ab 24 EI) [0,1,2] ((zJg B N q W n) _ _ · n Nat.le.refl)
def dX (n:Nat)(c:AD)(q:AA):Option Bool:= (bc n q c).bind λk=> some (!k)
def Xw (n:Nat)(c:AD)(q:AA):Option Bool:=dX n c q
def yH {c:AD}(h:Xw n c q=some r):EQ 46 [.agg 9 (L1 (BY c)),.fp 5 (L1 (AH q))] [] (.bool r) [] true:=by
 unfold Xw dX at h;refine ot Tryz.func46 λB N=>?_
 revert r;apply gO;exact cf zJd [oC (BY c)] λ_=>lE AC [3] []
inductive aT where
 | l1 (x8:Int)
def aS (n:Nat)(self:aT -> Option Int)(l:List AD)(q:AA)(x8:Int):Option Int:= bif (decide (x8<(l.length:Int))) then if 0<=x8/\ x8<(l.length:Int) then (Xw n (l.getD x8.toNat default) q).bind λk=> bif k then some x8 else if AG (x8+1) then self (.l1 (x8+1)) else none else none else some (-1)
def sf (n:Nat)(self:aT -> Option Int)(l:List AD)(q:AA):Option Int:= self (.l1 0)
def Np (l:List AD)(q:AA):Nat -> aT -> Option Int
 | 0,_=>none
 | n+1,.l1 x8=>aS n (Np l q n) l q x8
def aU (n:Nat)(l:List AD)(q:AA):Option Int:=sf n (Np l q n) l q
def zFv (n B:Nat)(N:Yd 0)(l:List AD)(q:AA)(r:Int):aT -> Prop
 | .l1 x8=>∀ f:Nat,n<=f -> TW B N (FQ Tryz.f79 0 (.i r) []) (Ah f (An (AR Tryz.f79) 0 [])) ⟨AF 19 [(0,.sl 9 l.length (AK BY l)),(1,.fn 46 1 (L1 [.fp 5 (L1 (AH q))])),(7,.i (l.length:Int)),(8,.i x8)],[]⟩
def zFw (B:Nat)(N:Yd 0)(l:List AD)(q:AA):Al (Np l q) (zFv · B N l q):=ia (λ_=>rfl) λn C b r h=>by
 cases b
 case l1 x8=>
  intro f a;refine rd a λf a=>?_
  revert r;apply gO;exact bi 9 (gi (cf yH [] λ_=>bi 16 (lE AC [4] []) (gw 18 (lG AC [] (C _ _ · f a))))) (lE AC [4] [])
def zFu {l:List AD}{r:Int}(h:aU n l q=some r):EQ 79 [.sl 9 l.length (AK BY l),.fn 46 1 (L1 [.fp 5 (L1 (AH q))])] [] (.i r) [] true:=by
 refine ot Tryz.func79 λB N=>?_
 revert r;apply gO;exact lN AC [] ((zFw B N l q n) _ _ · n Nat.le.refl)
def kn (n:Nat)(l:List AD)(q:AA):Option Bool:= (aU n l q).bind λk=> some (decide (k>=0))
def cH (n:Nat)(l:List AD)(q:AA):Option Bool:=kn n l q
def zKj {l:List AD}(h:cH n l q=some r):EQ 45 [.sl 9 l.length (AK BY l),.fn 46 1 (L1 [.fp 5 (L1 (AH q))])] [] (.bool r) [] true:=by
 unfold cH kn at h;refine ot Tryz.func45 λB N=>?_
 revert r;apply gO;exact cf zFu [] λ_=>lE AC [4] []
def mh (n:Nat)(q:AA):Option Int:= bif (decide (q.cells<1)) then some 191 else bif (decide (q.cells>256)) then some 191 else bif (decide (q.symbols<1)) then some 191 else bif (decide (q.symbols>16)) then some 191 else bif ((q.values.length:Int) != q.symbols) then some 191 else (NY n q.values 0 99).bind λk=> bif (!k) then some 191 else bif ((q.nbrs.length:Int) != q.cells) then some 191 else (Wc n q.nbrs).bind λG=> bif (G != 0) then some 191 else bif (decide ((q.cons.length:Int)>4096)) then some 191 else (cH n q.cons q).bind λy3=> bif y3 then some 191 else some 0
def valid (n:Nat)(q:AA):Option Int:=mh n q
def mg {r:Int}(h:valid n q=some r):EQ 33 [.agg 5 (L1 (AH q))] [] (.i r) [] true:=by
 refine ot Tryz.func33 λB N=>?_
 revert r;apply gO;exact bi 5 (lE AC [2] []) (bi 9 (lE AC [2] []) (bi 14 (lE AC [2] []) (bi 19 (lE AC [2] []) (bi 27 (lE AC [2] []) (cf ZH [oC (AH q)] λ_=>bi 33 (lE AC [2] []) (bi 40 (lE AC [2] []) (cf uY [oC (AH q)] λ_=>bi 45 (lE AC [2] []) (bi 51 (lE AC [2] []) (cn λy3 v=>jc (sb [.sl 9 q.cons.length (AK BY q.cons),.fn 46 1 (L1 [.ref 0 0])] (zKj v) [oC (AH q)] ⟨Az.plain (by kernel_rfl),(Az.fnL (l:=[.ref 0 0]) (l0:=[.fp 5 (L1 (AH q))]) ⟨(Az.refL (l:=(AH q)) (l0:=(AH q)) rfl ⟨Az.plain (by kernel_rfl),Az.plain (by kernel_rfl),Az.plain (by kernel_rfl),Az.plain (by kernel_rfl),Az.plain (by kernel_rfl),trivial⟩),trivial⟩),trivial⟩) (bi 56 (lE AC [2] []) (lE AC [2] [])))))))))))
def gu (n:Nat)(q:AA)(i:Int):Option (Δ):= (valid n q).bind λk=> bif (k != 0) then some (0,k) else bif (decide (i<0)) then some (0,260) else bif (decide (i>=(q.cons.length:Int))) then some (0,260) else if (0<=i/\ i<(q.cons.length:Int))/\ ((0:Int)<=((q.cons.getD i.toNat default).kind)/\ ((q.cons.getD i.toNat default).kind)<((10:Nat):Int)) then some (([0,1,1,2,2,3,1,1,4,4]:Ξ).getD ((q.cons.getD i.toNat default).kind).toNat 0,0) else none
def Pf (n:Nat)(q:AA)(i:Int):Option (Δ):=gu n q i
def gq {i:Int}{r:Δ}(h:Pf n q i=some r):EQ 97 [.agg 5 (L1 (AH q)),.i i] [] (.tup 2 (L1 [.i r.1,.i r.2])) [] true:=by
 unfold Pf gu at h;refine ot Tryz.func97 λB N=>?_
 revert r;apply gO;exact cf mg [oC (AH q)] λ_=>bi 10 (lE AC [4,5] []) (bi 13 (lE AC [4,5] []) (bi 19 (lE AC [4,5] []) (gc (gi (gn λo=>jg o (jo 28 (AN.ixI [0,1,1,2,2,3,1,1,4,4] rfl o) (lE AC [4,5] [])))))))
inductive Y9 where
 | l1 (x7:Int)
def VB (n:Nat)(self:Y9 -> Option Bool)(W:AD)(cells y:Int)(Z:Int):Option Bool:= bif (decide (Z<(W.cells.length:Int))) then bif (W.kind==8) then if 0<=Z/\ Z<(W.cells.length:Int) then bif ((W.cells.getD Z.toNat 0) != Z) then some false else if AG (Z+1) then self (.l1 (Z+1)) else none else none else bif (W.kind==9) then if 0<=Z/\ Z<(W.cells.length:Int) then bif ((W.cells.getD Z.toNat 0) != Z) then some false else if AG (Z+1) then self (.l1 (Z+1)) else none else none else if AG (Z+1) then self (.l1 (Z+1)) else none else if (0<=y/\ y<=(IntKind.i64.bits:Int))/\ AG ((IntKind.i64.wrap (1*2 ^ (y).toNat))-1) then (OV n ([W.set,W.other]:Ξ) 0 ((IntKind.i64.wrap (1*2 ^ (y).toNat))-1)).bind λk=> bif k then (OV n ([W.lo,W.hi]:Ξ) 0 65536).bind λG=> bif G then bif (decide ((W.runs.length:Int)<=8)) then (OV n W.runs 1 256).bind λy3=> some y3 else some false else some false else some false else none
def qG (n:Nat)(self:Y9 -> Option Bool)(W:AD)(cells symbols:Int):Option Bool:= bif (decide (W.kind<1)) then some false else bif (decide (W.kind>9)) then some false else bif (decide ((W.cells.length:Int)>cells)) then some false else if AG (cells-1) then (OV n W.cells 0 (cells-1)).bind λk=> bif (!k) then some false else (bz n W.cells).bind λG=> bif (!G) then some false else bif (W.kind==6) then bif ((W.cells.length:Int) != 2) then some false else bif (W.kind==8) then bif ((W.cells.length:Int) != cells) then some false else self (.l1 0) else bif (W.kind==9) then bif ((W.cells.length:Int) != cells) then some false else self (.l1 0) else self (.l1 0) else bif (W.kind==7) then bif ((W.cells.length:Int) != 2) then some false else bif (W.kind==8) then bif ((W.cells.length:Int) != cells) then some false else self (.l1 0) else bif (W.kind==9) then bif ((W.cells.length:Int) != cells) then some false else self (.l1 0) else self (.l1 0) else bif (W.kind==8) then bif ((W.cells.length:Int) != cells) then some false else self (.l1 0) else bif (W.kind==9) then bif ((W.cells.length:Int) != cells) then some false else self (.l1 0) else self (.l1 0) else none
def NN (W:AD)(cells y:Int):Nat -> Y9 -> Option Bool
 | 0,_=>none
 | n+1,.l1 Z=>VB n (NN W cells y n) W cells y Z
def ZB (n:Nat)(W:AD)(cells y:Int):Option Bool:=qG n (NN W cells y n) W cells y
def zCl (n B:Nat)(N:Yd 0)(W:AD)(cells y:Int)(r:Bool):Y9 -> Prop
 | .l1 Z=>∀ f:Nat,n<=f -> TW B N (FQ Tryz.f57 0 (.bool r) []) (Ah f (An (AR Tryz.f57) 0 [])) ⟨AF 120 [(2,.i y),(3,.ref 0 0),(7,.i Z)],[oC (BY W)]⟩
def zCm (B:Nat)(N:Yd 0)(W:AD)(cells y:Int):Al (NN W cells y) (zCl · B N W cells y):=ia (λ_=>rfl) λn C b r h=>by
 cases b
 case l1 x7=>
  intro f a;refine rd a λf a=>?_
  revert r;apply gO;exact bi 71 (bi 76 (gi (bi 89 (lE AC [6] []) (gw 73 (lG AC [0] (C _ _ · f a))))) (bi 80 (gi (bi 89 (lE AC [6] []) (gw 73 (lG AC [0] (C _ _ · f a))))) (gw 73 (lG AC [0] (C _ _ · f a))))) (gc (gi (gw 93 (cn λy1 s=>jc (sb [.msl 1 1 0 2,.i 0,.i ((IntKind.i64.wrap (1*2 ^ (y).toNat))-1)] (XS s) [oC (BY W),oI ([W.set,W.other]:Ξ)] ⟨Az.ints rfl (Eq.refl 2),Az.plain (by kernel_rfl),Az.plain (by kernel_rfl),trivial⟩) (bi 100 (cn λy2 j=>jc (sb [.msl 2 1 0 2,.i 0,.i 65536] (XS j) [oC (BY W),oI ([W.set,W.other]:Ξ),oI ([W.lo,W.hi]:Ξ)] ⟨Az.ints rfl (Eq.refl 2),Az.plain (by kernel_rfl),Az.plain (by kernel_rfl),trivial⟩) (bi 107 (bi 113 (cf XS [oC (BY W),oI ([W.set,W.other]:Ξ),oI ([W.lo,W.hi]:Ξ)] λ_=>lE AC [6] []) (lE AC [6] [])) (lE AC [6] []))) (lE AC [6] []))))))
def zCh {cells y:Int}(h:ZB n W cells y=some r):EQ 57 [.agg 9 (L1 (BY W)),.i cells,.i y] [] (.bool r) [] true:=by
 have C:=λB N=>(zCm B N W cells y n)
 refine ot Tryz.func57 λB N=>?_
 revert r;apply gO;exact bi 11 (lE AC [6] []) (bi 15 (lE AC [6] []) (bi 22 (lE AC [6] []) (gw 28 (cf XS [oC (BY W)] λ_=>bi 30 (lE AC [6] []) (cf zKD [oC (BY W)] λ_=>bi 36 (lE AC [6] []) (bi 40 (bi 50 (lE AC [6] []) (bi 54 (bi 65 (lE AC [6] []) (lN AC [0] ((C B N) _ _ · n Nat.le.refl))) (bi 58 (bi 65 (lE AC [6] []) (lN AC [0] ((C B N) _ _ · n Nat.le.refl))) (lN AC [0] ((C B N) _ _ · n Nat.le.refl))))) (bi 44 (bi 50 (lE AC [6] []) (bi 54 (bi 65 (lE AC [6] []) (lN AC [0] ((C B N) _ _ · n Nat.le.refl))) (bi 58 (bi 65 (lE AC [6] []) (lN AC [0] ((C B N) _ _ · n Nat.le.refl))) (lN AC [0] ((C B N) _ _ · n Nat.le.refl))))) (bi 54 (bi 65 (lE AC [6] []) (lN AC [0] ((C B N) _ _ · n Nat.le.refl))) (bi 58 (bi 65 (lE AC [6] []) (lN AC [0] ((C B N) _ _ · n Nat.le.refl))) (lN AC [0] ((C B N) _ _ · n Nat.le.refl)))))))))))
def zAh:Ax (BA Tryz.f37 8) [([0,1,2,3,4,5,6,7,8],9)] [10] []:=by unfold Ax;kernel_rfl
def IJ:Be:=λi=>match i with
 | 8=>.ord [([0,1,2,3,4,5,6,7,8],9)] [10] []
 | _=>.no
inductive Yo where
 | l1 (x3:Int)
def Yn (n:Nat)(self:Yo -> Option Int)(q:AA)(H:Int):Option Int:= bif (decide (H<(q.cons.length:Int))) then if 0<=H/\ H<(q.cons.length:Int) then (ZB n (q.cons.getD H.toNat default) q.cells q.symbols).bind λk=> bif (!k) then some 191 else if AG (H+1) then self (.l1 (H+1)) else none else none else some 0
def pN (n:Nat)(self:Yo -> Option Int)(q:AA):Option Int:= bif (decide (q.cells<1)) then some 191 else bif (decide (q.cells>256)) then some 191 else bif (decide (q.symbols<1)) then some 191 else bif (decide (q.symbols>16)) then some 191 else bif ((q.values.length:Int) != q.symbols) then some 191 else (OV n q.values 0 99).bind λk=> bif (!k) then some 191 else bif ((q.nbrs.length:Int) != q.cells) then some 191 else (NT n q.nbrs).bind λG=> bif (G != 0) then some 191 else bif (decide ((q.cons.length:Int)>4096)) then some 191 else self (.l1 0)
def NG (q:AA):Nat -> Yo -> Option Int
 | 0,_=>none
 | n+1,.l1 H=>Yn n (NG q n) q H
def Ri (n:Nat)(q:AA):Option Int:=pN n (NG q n) q
def zBb (n B:Nat)(N:Yd 0)(q:AA)(r:Int):Yo -> Prop
 | .l1 H=>∀ f:Nat,n<=f -> TW B N (FQ Tryz.f37 0 (.i r) []) (Ah f (An (AR Tryz.f37) 0 [])) ⟨AF 72 [(1,.ref 0 0),(3,.i H)],[oC (AH q)]⟩
def zBc (B:Nat)(N:Yd 0)(q:AA):Al (NG q) (zBb · B N q):=ia (λ_=>rfl) λn C b r h=>by
 cases b
 case l1 x3=>
  intro f a;refine rd a λf a=>?_
  revert r;apply gO;exact bi 58 (jg zAh (gi (cf zCh [oC (AH q)] λ_=>bi 71 (lE IJ [2] []) (gw 60 (lG IJ [0] (C _ _ · f a)))))) (lE IJ [2] [])
def pM {r:Int}(h:Ri n q=some r):EQ 37 [.agg 5 (L1 (AH q))] [] (.i r) [] true:=by
 refine ot Tryz.func37 λB N=>?_
 revert r;apply gO;exact bi 6 (lE IJ [2] []) (bi 10 (lE IJ [2] []) (bi 15 (lE IJ [2] []) (bi 20 (lE IJ [2] []) (bi 28 (lE IJ [2] []) (cf XS [oC (AH q)] λ_=>bi 34 (lE IJ [2] []) (bi 41 (lE IJ [2] []) (cf fM [oC (AH q)] λ_=>bi 46 (lE IJ [2] []) (bi 52 (lE IJ [2] []) (lN IJ [0] ((zBc B N q n) _ _ · n Nat.le.refl))))))))))
end
abbrev zCg:=@Int.toNat_natCast
abbrev zEE:=@decide_eq_true
abbrev zFR:=@cond_true
abbrev zFd:=@decide_eq_false
abbrev zGF:=@cond_false
abbrev zH4:=@beq_eq_false_iff_ne
abbrev zIJ:=@decide_eq_false_iff_not
abbrev zIU:=@Int.natCast_nonneg
abbrev zIh:=@Bool.eq_iff_iff
abbrev zLn:=@decide_true
abbrev zMM:=@Int.eq_ofNat_of_zero_le
abbrev zMW:=@List.contains_iff_mem
abbrev zMX:=@List.pairwise_iff_getElem
abbrev zMb:=@List.exists_of_findSome?_eq_some
abbrev zMz:=@and_self
abbrev zM0:=@List.findSome?_eq_none_iff
abbrev zNA:=@List.mem_take_iff_getElem
abbrev zNZ:=@List.range'_succ
abbrev zNc:=@List.range_eq_range'
end Go.Proofs.YtodinaconebmdaaGreatDoor
namespace Go.Proofs.YtodinaconebmdaaGreatDoor
def LH (lo hi:Int)(n:Int):Bool:=decide (lo<=n)&&decide (n<=hi)
def Dy (xs:Ξ)(lo hi:Int):Bool:=xs.all (LH lo hi)
def Gw (g:List Ξ)(i:Nat)(l:Ξ)(k:Nat):Bool:=
 let n:=l.getD k 0
 decide (0<=n)&&decide (n<g.length)&&(n != i)&&(!decide (0<k)||decide (l.getD (k-1) 0<n))&&(g.getD n.toNat []).contains (i:Int)
def IK (g:List Ξ)(i:Nat)(l:Ξ):Bool:=(List.range l.length).all (Gw g i l)
def JR (g:List Ξ):Bool:=decide (g.length<=256)&&(List.range g.length).all λi=>IK g i (g.getD i [])
def Qi (n kind:Int)(cells:Ξ)(i:Nat):Bool:=
 let x:=cells.getD i 0
 decide (0<=x)&&decide (x<n)&&!(cells.take i).contains x&&(!decide (8<=kind)||x==(i:Int))
def cV (n kind:Int)(cells:Ξ):Bool:=(List.range cells.length).all (Qi n kind cells)
def Hx (n kind:Int)(len:Nat):Bool:= (decide (1<=kind)&&decide (kind<=5))||((kind==6||kind==7)&&len==2)||((kind==8||kind==9)&&(len:Int)==n)
def E8 (q:AA)(c:AD):Bool:= cV q.cells c.kind c.cells&&Hx q.cells c.kind c.cells.length&& Dy [c.set,c.other] 0 (2 ^ q.symbols.toNat-1)&&Dy [c.lo,c.hi] 0 65536&&decide (c.runs.length<=8)&&Dy c.runs 1 256
def SK (l:Ξ):Bool:=(List.range l.length).all λi=>!(l.take i).contains (l.getD i 0)
def ZA (c:AD)(n sy:Int):Bool:= (decide (1<=c.kind)&&decide (c.kind<=9))&&decide ((c.cells.length:Int)<=n)&&Dy c.cells 0 (n-1)&&SK c.cells&& (!(c.kind==6||c.kind==7)||c.cells.length==2)&&(!(c.kind==8||c.kind==9)||((c.cells.length:Int)==n))&& (!(c.kind==8||c.kind==9)||(List.range c.cells.length).all λi=>c.cells.getD i 0==(i:Int))&& Dy [c.set,c.other] 0 (2 ^ sy.toNat-1)&&Dy [c.lo,c.hi] 0 65536&&decide (c.runs.length<=8)&&Dy c.runs 1 256
def SJ: ∀ (n:Nat) (l:Ξ),l.Nodup -> (∀ x∈l,0<=x/\ x<(n:Int)) -> l.length<=n
 | 0,l,_,h=>by
  cases l with
  | nil=>simp
  | cons a l=>have:=h a (by simp);omega
 | n+1,l,r,h=>by
  have h1:(l.erase (n:Int)).length<=n:=SJ n _ (r.erase _) (λx hx=>by
   grind)
  grind
variable {l:Ξ}
def rU :SK l=true↔l.Nodup:=by
 unfold SK List.Nodup;rw [zGL,zMX];constructor
 ·intro h i j hi d WJ e;have:=h j (by simpa using d);simp only [zGH,zGU d,zNX,zGr] at this;rw [zMa,ne_eq,zMW,zNA] at this;exact this ⟨i,by omega,e⟩
 ·intro h i hi;have K:i<l.length:=by simpa using hi
  simp only [zGH,zGU K,zNX,zGr];rw [zMa,ne_eq,zMW,zNA]
  grind
def Xp {lo hi:Int}:Dy l lo hi=true↔∀ x∈l,lo<=x/\ x<=hi:=by
 unfold Dy;simp [LH]
variable {n kind:Int}
def lI {cells:Ξ}:cV n kind cells=true↔(∀ x∈cells,0<=x/\ x<n)/\ cells.Nodup/\ (8<=kind -> ∀ j,j<cells.length -> cells.getD j 0=(j:Int)):=by
 rw [←rU];unfold cV SK Qi;simp only [zGL,zGQ,zEh,zHx,zGq,zGr,zGk,zIJ];constructor
 ·intro h;refine ⟨λx e=>?_,λj d=>(h j d).1.2,λh8 j d=>?_⟩
  ·obtain ⟨j,d,rfl⟩:=zGt e
   grind
  grind
 grind
def zCk (q:AA)(c:AD)(h1:1<=q.cells):ZA c q.cells q.symbols=E8 q c:=by
 rw [zIh];unfold ZA E8;simp only [zEh,lI,rU,Xp (l:=c.cells),zGq,zGr,Bool.or_eq_false_iff,zGk,zH4,zHx,zGL,zGQ,Hx];constructor
 ·grind
 ·rintro ⟨⟨⟨⟨⟨⟨A,Z,k3⟩,k4⟩,k9⟩,k10⟩,k11⟩,k12⟩
  have Am:(c.cells.length:Int)<=q.cells:=by
   have:=SJ q.cells.toNat c.cells Z (λx e=>by have:=A x e;omega);omega
  grind
def CK (q:AA):Bool:= decide (1<=q.cells)&&decide (q.cells<=256)&&decide (1<=q.symbols)&&decide (q.symbols<=16)&&((q.values.length:Int)==q.symbols)&&Dy q.values 0 99&& ((q.nbrs.length:Int)==q.cells)&&JR q.nbrs&&decide (q.cons.length<=4096)&&q.cons.all (E8 q)
def IT (kind:Int):Int:=if kind=3∨kind=4 then 2 else if kind=5 then 3 else if kind=8∨kind=9 then 4 else 1
def MG (q:AA)(i:Int):Δ:= if CK q=false then (0,191) else if 0<=i/\ i<q.cons.length then (IT ((q.cons.getD i.toNat default).kind),0) else (0,260)
variable {q:AA}
def DM (h:CK q=true):(1<=q.cells/\ q.cells<=256)/\ (1<=q.symbols/\ q.symbols<=16)/\ ((q.values.length:Int)=q.symbols/\ Dy q.values 0 99=true)/\
 ((q.nbrs.length:Int)=q.cells/\ JR q.nbrs=true)/\ q.cons.length<=4096/\ ∀ c∈q.cons,E8 q c=true:=by
 simp_all [CK]
def sQ {c:AD}(h:E8 q c=true):Hx q.cells c.kind c.cells.length=true:=by
 simp_all [E8]
def Ph {len:Nat}(h:Hx n kind len=true):1<=kind/\ kind<=9:=by
 unfold Hx at h;simp at h;omega
theorem Pi {k:Int}(h:1<=k/\ k<=9):k=1∨k=2∨k=3∨k=4∨k=5∨k=6∨k=7∨k=8∨k=9:=by omega
end Go.Proofs.YtodinaconebmdaaGreatDoor
namespace Go.Proofs.YtodinaconebmdaaGreatDoor
open Go.RowKit
section
variable {R:Type}
def pA (m:Nat -> Int -> Option R)(len a:Nat)(B:Nat -> Option R)(h0: ∀ (n i:Nat),a<=n -> i<len -> m (n+1) (i:Int)=(B i).or (m n ((i:Int)+1))):
 ∀ (k i n:Nat),i+k=len -> a<=n -> m (n+k) (i:Int)=((List.range' i k).findSome? B).or (m n (len:Int))
 | 0,i,n,h,u=>by
  grind
 | k+1,i,n,h,u=>by
  show m (n+k+1) (i:Int)=_
  rw [h0 (n+k) i (by omega) (by omega),zNZ,List.findSome?_cons];cases B i with
  | some r=>rfl
  | none=>
   have:=pA m len a B h0 k (i+1) n (by omega) u;rw [←this];simp
variable {n:Nat}
def Ko (m:Nat -> Int -> Option R)(len a:Nat)(B:Nat -> Option R)(h0: ∀ (n i:Nat),a<=n -> i<len -> m (n+1) (i:Int)=(B i).or (m n ((i:Int)+1)))(hn:a+len<=n):
 m n 0=((List.range len).findSome? B).or (m (n-len) (len:Int)):=by
 have:=pA m len a B h0 len 0 (n-len) (by omega) (by omega)
 grind [List.range_eq_range']
def Qa {l:Θ}{p:Nat -> Bool}{r:R}:(l.findSome? λi=>if p i then none else some r)=if l.all p then none else some r:=by
 induction l with
 | nil=>rfl
 | cons a l ih=>
  grind
def VE {α:Type}{l:List α}{d:α}{p:α -> Bool}:((List.range l.length).all λi=>p (l.getD i d))=l.all p:=by
 rw [zIh,zGL,zGL];constructor
 ·intro h x e;obtain ⟨i,hi,rfl⟩:=zGt e
  simp_all
 grind
def r64 {i len:Nat}(h:i<len)(m:len<=LB):AG ((i:Int)+1):=by rw [Aj];unfold LB at m;omega
variable {lo up:Int}{l:Ξ}
def XT (a:l.length<=LB)(hn:l.length<n):OV n l lo up=some (Dy l lo up):=by
 unfold OV wI;have S:=Ko (λn i=>Tf l lo up n (.l1 i)) l.length 0 (λi=>if LH lo up (l.getD i 0) then none else some false) (λn i _ hi=>?_) (n:=n) (by omega)
 ·refine S.trans ?_;rw [Qa,VE (p:=LH lo up)];unfold Dy;cases l.all (LH lo up) with
  | false=>rfl
  | true=>
   obtain ⟨m,hm⟩: ∃ m,n-l.length=m+1:=⟨n-l.length-1,by omega⟩
   grind [Tf,lO]
 ·have b:(i:Int)<(l.length:Int):=by omega
  have c:=r64 hi a;simp only [Tf,lO,b,c,zLn,zFR,zIU,zMz,zI6,zCg,LH]
  grind
def zFy (a:l.length<=LB)(hn:l.length<n): ∃ r:Int,aX n l lo up=some r/\ (0<=r↔Dy l lo up=false):=by
 unfold aX si;have S:=Ko (λn i=>Pp l lo up n (.l1 i)) l.length 0 (λi=>if LH lo up (l.getD i 0) then none else some (i:Int)) (λn i _ hi=>?_) (n:=n) (by omega)
 ·have S:=S;rw [show Pp l lo up n (.l1 0)=_ from S];cases M:(List.range l.length).findSome? (λi=>if LH lo up (l.getD i 0) then none else some (i:Int)) with
  | some r=>
   refine ⟨r,rfl,?_⟩;obtain ⟨i,hi,hr⟩:=zMb M
   grind [Dy]
  | none=>
   obtain ⟨m,v⟩: ∃ m,n-l.length=m+1:=⟨n-l.length-1,by omega⟩;refine ⟨-1,by rw [v];simp [Pp,iK],?_⟩;rw [zM0] at M
   have:Dy l lo up=true:=by
    unfold Dy;rw [←VE (p:=LH lo up) (d:=(0:Int)),zGL]
    grind
   simp [this]
 ·have b:(i:Int)<(l.length:Int):=by omega
  have c:=r64 hi a;simp only [Pp,iK,dO,ma,b,c,zLn,zFR,zIU,zMz,zI6,zCg,LH]
  grind
def ZI (m:l.length<=LB)(u:l.length<n):NY n l lo up=some (Dy l lo up):=by
 obtain ⟨r,h1,h2⟩:=zFy (lo:=lo) (up:=up) m u
 grind [NY,fW,cJ,ko]
variable {x:Int}
def zIj (a:l.length<=LB)(hn:l.length<n):has n l x=some (l.contains x):=by
 unfold has t7;have S:=Ko (λn i=>S0 l x n (.l1 i)) l.length 0 (λi=>if (l.getD i 0 != x) then none else some true) (λn i _ hi=>?_) (n:=n) (by omega)
 ·refine S.trans ?_;rw [Qa,VE (p:=λy=>y != x)]
  have e:l.all (λy=>y != x)= !l.contains x:=by
   grind
  rw [e];cases l.contains x with
  | true=>rfl
  | false=>
   obtain ⟨m,v⟩: ∃ m,n-l.length=m+1:=⟨n-l.length-1,by omega⟩;rw [v];simp [S0,j8]
 ·have b:(i:Int)<(l.length:Int):=by omega
  have c:=r64 hi a;simp only [S0,j8,b,c,zLn,zFR,zIU,zMz,zI6,zCg]
  grind
def zKn (c:l.length<=LB)(hn:l.length<n):OS n l x=some (l.contains x):=by
 have: ∃ r:Int,aZ n l x=some r/\ (0<=r↔l.contains x=true):=by
  unfold aZ sk;have S:=Ko (λn i=>Pq l x n (.l1 i)) l.length 0 (λi=>if (x != l.getD i 0) then none else some (i:Int)) (λn i _ hi=>?_) (n:=n) (by omega)
  ·rw [show Pq l x n (.l1 0)=_ from S];cases M:(List.range l.length).findSome? (λi=>if (x != l.getD i 0) then none else some (i:Int)) with
   | some r=>
    refine ⟨r,rfl,?_⟩;obtain ⟨i,hi,hr⟩:=zMb M
    grind
   | none=>
    obtain ⟨m,v⟩: ∃ m,n-l.length=m+1:=⟨n-l.length-1,by omega⟩;refine ⟨-1,by rw [v];simp [Pq,iL],?_⟩;rw [zM0] at M
    have:l.contains x=false:=by
     rw [zMa]
     grind [List.getElem_of_mem]
    rw [this];simp
  ·have a:(i:Int)<(l.length:Int):=by omega
   have b:=r64 hi c;simp only [Pq,iL,a,b,zLn,zFR,zIU,zMz,zI6,zCg]
   grind
 obtain ⟨r,a,b⟩:=this
 simp_all [OS,kq]
end
section
def Fl (g:List Ξ):Nat:=(g.map λr=>r.length+2).sum
def T8: ∀ {g:List Ξ} {r:Ξ},r∈g -> r.length+2<=Fl g
 | [],_,h=>by cases h
 | a::g,r,h=>by
  simp only [Fl,zMN,List.sum_cons];rcases zIq.1 h with rfl | h
  ·omega
  ·have:=T8 h;unfold Fl at this;omega
variable {v:Nat}{g:List Ξ}
def mX (hv:v<g.length):Fl (g.drop v)=(g.getD v []).length+2+Fl (g.drop (v+1)):=by
 grind [List.drop_eq_getElem_cons,Fl]
def TD (hv:v<g.length):g.getD v []∈g:=by
 grind
section
variable {g:List Ξ} {v j n:Nat}
def rZ {R:Type}(next C:R)(c:Bool -> R)(hc:c true=next)(MY:c false=C)(hv:v<g.length)(hj:j<(g.getD v []).length):
 (if Gw g v (g.getD v []) j then next else C)=
  (if (g.getD v []).getD j 0<0 then C else if (g.getD v []).getD j 0>=(g.length:Int) then C else if (g.getD v []).getD j 0=(v:Int) then C else
   if 0<j then (if (g.getD v []).getD (j-1) 0>=(g.getD v []).getD j 0 then C else c ((g.getD ((g.getD v []).getD j 0).toNat []).contains (v:Int)))
   else c ((g.getD ((g.getD v []).getD j 0).toNat []).contains (v:Int))):=by
 unfold Gw
 grind
variable {len:Nat}
def qU {j:Nat}(h:j<len)(m:len<=LB):AG ((j:Int)-1):=by rw [Aj];unfold LB at m;omega
def qd {j:Nat}(h:0<j)(h2:j<len):((0:Int)<=(j:Int)-1/\ (j:Int)-1<(len:Int))/\ ((j:Int)-1).toNat=j-1/\ (j:Int)>0:=by omega
def zC7 {self:Rs -> Option Int}(p:v<g.length)(hg:g.length<=256)(c:j<(g.getD v []).length)(i: ∀ r∈g,r.length<=LB)(u: ∀ r∈g,r.length<n):
 ZG n self g (v:Int) (j:Int)=(if Gw g v (g.getD v []) j then none else some (120:Int)).or (self (.l2 (v:Int) ((j:Int)+1))):=by
 have N:=i _ (TD p);have f:(v:Int)<(g.length:Int):=by omega
 have h:(j:Int)<((g.getD v []).length:Int):=by omega
 have k:=r64 c N;have key:=rZ (g:=g) (v:=v) (j:=j) (self (.l2 (v:Int) ((j:Int)+1))) (some (120:Int)) (λb=>bif b then self (.l2 (v:Int) ((j:Int)+1)) else some 120) rfl rfl p c
 have w:((if Gw g v (g.getD v []) j then none else some (120:Int)).or (self (.l2 (v:Int) ((j:Int)+1))))=(if Gw g v (g.getD v []) j then self (.l2 (v:Int) ((j:Int)+1)) else some 120):=by
  grind
 rw [w,key];simp only [ZG,f,h,k,zLn,zFR,zIU,zMz,zI6,zCg];obtain ⟨x,l⟩: ∃ x,(g.getD v []).getD j 0=x:=⟨_,rfl⟩;simp only [l]
 by_cases a:x<0
 ·simp [a]
 by_cases b:x>=(g.length:Int)
 ·simp [a,b]
 by_cases d:x=(v:Int)
 ·simp [a,b,d]
 have d':(x==(v:Int))=false:=by simp [d]
 have Q:g.getD x.toNat []∈g:=TD (by omega);have hh:has n (g.getD x.toNat []) (v:Int)=some ((g.getD x.toNat []).contains (v:Int)):=zIj (i _ Q) (u _ Q);have J4:0<=x/\ x<(g.length:Int):=by omega
 have fin:((has n (g.getD x.toNat []) (v:Int)).bind λm=>bif (!m) then some (120:Int) else self (.l2 (v:Int) ((j:Int)+1)))=(bif (g.getD x.toNat []).contains (v:Int) then self (.l2 (v:Int) ((j:Int)+1)) else some 120):=by
  grind
 by_cases e:0<j
 ·have h4:AG ((j:Int)-1)/\ ((0:Int)<=(j:Int)-1/\ (j:Int)-1<((g.getD v []).length:Int)):=⟨qU c N,(qd e c).1⟩
  simp_all [zGN]
 grind
def zJO {self:TE -> Option Int}{row:Ξ}(f:row=g.getD v [])(p:v<g.length)(hg:g.length<=256)(c:j<(g.getD v []).length)(i: ∀ r∈g,r.length<=LB)(h: ∀ r∈g,r.length<n):
 bS n self g (v:Int) row (v:Int) row (row.length:Int) (j:Int)=(if Gw g v (g.getD v []) j then none else some (120:Int)).or (self (.l2 (v:Int) row (v:Int) row (row.length:Int) ((j:Int)+1))):=by
 subst f;have N:=i _ (TD p);have l:(v:Int)<(g.length:Int):=by omega
 have m:(j:Int)<((g.getD v []).length:Int):=by omega
 have o:=r64 c N;obtain ⟨u,k⟩: ∃ u,self (.l2 (v:Int) (g.getD v []) (v:Int) (g.getD v []) ((g.getD v []).length:Int) ((j:Int)+1))=u:=⟨_,rfl⟩;have key:=rZ (g:=g) (v:=v) (j:=j) u (some (120:Int)) (λb=>bif b then u else some 120) rfl rfl p c
 have w:((if Gw g v (g.getD v []) j then none else some (120:Int)).or u)=(if Gw g v (g.getD v []) j then u else some 120):=by
  grind
 rw [k,w,key];simp only [bS,l,m,o,zLn,zFR,zIU,zMz,zI6,zCg,k];obtain ⟨x,q⟩: ∃ x,(g.getD v []).getD j 0=x:=⟨_,rfl⟩;simp only [q]
 by_cases a:x<0
 ·simp [a]
 by_cases b:x>=(g.length:Int)
 ·simp [a,b]
 by_cases d:x=(v:Int)
 ·simp [a,b,d]
 have d':(x==(v:Int))=false:=by simp [d]
 have Q:g.getD x.toNat []∈g:=TD (by omega);have hh:OS n (g.getD x.toNat []) (v:Int)=some ((g.getD x.toNat []).contains (v:Int)):=zKn (i _ Q) (h _ Q);have J4:0<=x/\ x<(g.length:Int):=by omega
 have fin:((OS n (g.getD x.toNat []) (v:Int)).bind λs=>bif (!s) then some (120:Int) else u)=(bif (g.getD x.toNat []).contains (v:Int) then u else some 120):=by
  grind
 by_cases e:0<j
 ·have h4:AG ((j:Int)-1)/\ ((0:Int)<=(j:Int)-1/\ (j:Int)-1<((g.getD v []).length:Int)):=⟨qU c N,(qd e c).1⟩
  simp_all [zGN]
 grind
end
def pi {g:List Ξ}{v:Nat}(hv:v<g.length):((List.range' v (g.length-v)).all λi=>IK g i (g.getD i []))=(IK g v (g.getD v [])&&(List.range' (v+1) (g.length-(v+1))).all λi=>IK g i (g.getD i [])):=by
 grind
def qO {g:List Ξ}(a:g.length<=256)(b: ∀ r∈g,r.length<=LB): ∀ (k v n:Nat),v+k=g.length -> Fl (g.drop v)+Fl g+1<=n -> Js g n (.l1 (v:Int))=some (Dd ((List.range' v (g.length-v)).all λi=>IK g i (g.getD i [])) 120)
 | 0,v,n,p,u=>by
  have:v=g.length:=by omega
  subst this;obtain ⟨m,rfl⟩: ∃ m,n=m+1:=⟨n-1,by omega⟩;simp [Js,fN,Dd]
 | k+1,v,n,p,u=>by
  have w:v<g.length:=by omega
  rw [mX w] at u;have hm:=T8 (TD w);obtain ⟨m,rfl⟩: ∃ m,n=m+1:=⟨n-1,by omega⟩;have c:(v:Int)<(g.length:Int):=by omega
  have d:Js g (m+1) (.l1 (v:Int))=Js g m (.l2 (v:Int) 0):=by simp [Js,fN,c]
  rw [d];have S:=Ko (λn i=>Js g n (.l2 (v:Int) i)) (g.getD v []).length (Fl g) (λj=>if Gw g v (g.getD v []) j then none else some 120) (λW j GJ e=>zC7 (n:=W) w a e b λr f=>by have:=T8 f;omega) (n:=m) (by omega);refine S.trans ?_;rw [Qa,pi w];have h:((List.range (g.getD v []).length).all λi=>Gw g v (g.getD v []) i)=IK g v (g.getD v []):=rfl;rw [h];cases IK g v (g.getD v []) with
  | false=>rfl
  | true=>
   obtain ⟨Z,U⟩: ∃ Z,m-(g.getD v []).length=Z+1:=⟨m-(g.getD v []).length-1,by omega⟩;rw [U];have h2:AG ((v:Int)+1):=by rw [Aj];omega
   have ih:=qO a b k (v+1) Z (by omega) (by omega)
   simp_all [Js,ZG]
def uc {g:List Ξ}(a:g.length<=256)(b: ∀ r∈g,r.length<=LB): ∀ (k v n:Nat),v+k=g.length -> Fl (g.drop v)+Fl g+1<=n -> KJ g n (.l1 (v:Int))=some (Dd ((List.range' v (g.length-v)).all λi=>IK g i (g.getD i [])) 120)
 | 0,v,n,p,u=>by
  have:v=g.length:=by omega
  subst this;obtain ⟨m,rfl⟩: ∃ m,n=m+1:=⟨n-1,by omega⟩;simp [KJ,kK,Dd]
 | k+1,v,n,p,u=>by
  have w:v<g.length:=by omega
  rw [mX w] at u;have hm:=T8 (TD w);obtain ⟨m,rfl⟩: ∃ m,n=m+1:=⟨n-1,by omega⟩;have c:(v:Int)<(g.length:Int):=by omega
  have d:KJ g (m+1) (.l1 (v:Int))=KJ g m (.l2 (v:Int) (g.getD v []) (v:Int) (g.getD v []) ((g.getD v []).length:Int) 0):=by
   simp only [KJ,kK,c,zLn,zFR,zIU,zMz,zI6,zCg]
  rw [d];have S:=Ko (λn i=>KJ g n (.l2 (v:Int) (g.getD v []) (v:Int) (g.getD v []) ((g.getD v []).length:Int) i)) (g.getD v []).length (Fl g) (λj=>if Gw g v (g.getD v []) j then none else some 120) (λW j GJ e=>zJO (n:=W) rfl w a e b λr f=>by have:=T8 f;omega) (n:=m) (by omega);refine S.trans ?_;rw [Qa,pi w];have h:((List.range (g.getD v []).length).all λi=>Gw g v (g.getD v []) i)=IK g v (g.getD v []):=rfl;rw [h];cases IK g v (g.getD v []) with
  | false=>rfl
  | true=>
   obtain ⟨Z,U⟩: ∃ Z,m-(g.getD v []).length=Z+1:=⟨m-(g.getD v []).length-1,by omega⟩;rw [U];have h2:AG ((v:Int)+1):=by rw [Aj];omega
   have ih:=uc a b k (v+1) Z (by omega) (by omega)
   simp_all [KJ,bS]
variable {n:Nat}
def qN {g:List Ξ}(i: ∀ r∈g,r.length<=LB)(hn:2*Fl g+1<=n):NT n g=some (Dd (JR g) 120):=by
 unfold NT qL JR
 by_cases h:(g.length:Int)>256
 ·grind [Dd]
 ·have h':g.length<=256:=by omega
  have:=qO h' i g.length 0 n (by omega) (by simp;omega)
  grind
def ub {g:List Ξ}(i: ∀ r∈g,r.length<=LB)(hn:2*Fl g+1<=n):Wc n g=some (Dd (JR g) 120):=by
 unfold Wc uZ JR
 by_cases h:(g.length:Int)>256
 ·grind [Dd]
 ·have h':g.length<=256:=by omega
  have:=uc h' i g.length 0 n (by omega) (by simp;omega)
  grind
end
section
def ZO {s:Int}(a:1<=s)(b:s<=16):IntKind.i64.wrap (1*2 ^ s.toNat)=2 ^ s.toNat/\ AG ((2:Int) ^ s.toNat-1)/\ ((0:Int)<=s/\ s<=((IntKind.i64.bits:Nat):Int)):=by
 obtain ⟨m,rfl⟩:=zMM (show 0<=s by omega);rw [zCg];have h:m<17:=by omega
 refine ⟨?_,?_,by omega,by show (m:Int)<=64;omega⟩
 ·revert h;clear a b;revert m;decide
 ·revert h;clear a b;revert m;decide
variable {n i:Nat}{l:Ξ}
def zKI (m:l.length<=LB)(hi:i<l.length){self:TR -> Option Bool}(j:Nat)(hj:j<i):bx n self l (i:Int) (j:Int)=(if l.getD i 0 != l.getD j 0 then none else some false).or (self (.l2 (i:Int) ((j:Int)+1))):=by
 have a:(j:Int)<(i:Int):=by omega
 have b:(i:Int)<(l.length:Int):=by omega
 have h:(j:Int)<(l.length:Int):=by omega
 have A:=r64 (show j<l.length by omega) m;simp only [bx,a,b,h,A,zLn,zFR,zIU,zMz,zI6,zCg]
 grind
def yU (hi:i<=l.length){x:Int}:((List.range i).all λj=>x != l.getD j 0)= !(l.take i).contains x:=by
 rw [zIh];simp only [zGL,zGQ,zJQ,ne_eq,zGr,zMa,zMW,zNA,not_exists]
 grind
def vP (a:l.length<=LB): ∀ (k i n:Nat),i+k=l.length -> k*(l.length+2)+1<=n -> KR l n (.l1 (i:Int))=some ((List.range' i k).all λi=>!(l.take i).contains (l.getD i 0))
 | 0,i,n,hi,u=>by
  have:i=l.length:=by omega
  subst this;obtain ⟨m,rfl⟩: ∃ m,n=m+1:=⟨n-1,by omega⟩;simp [KR,kf]
 | k+1,i,n,hi,u=>by
  have K:i<l.length:=by omega
  rw [zMi] at u;obtain ⟨m,rfl⟩: ∃ m,n=m+1:=⟨n-1,by omega⟩;have b:(i:Int)<(l.length:Int):=by omega
  have w:KR l (m+1) (.l1 (i:Int))=KR l m (.l2 (i:Int) 0):=by simp [KR,kf,b]
  rw [w];have S:=Ko (λn j=>KR l n (.l2 (i:Int) j)) i 0 (λj=>if l.getD i 0 != l.getD j 0 then none else some false) (λW j _ d=>zKI (n:=W) a K j d) (n:=m) (by omega);refine S.trans ?_;rw [Qa,yU (by omega),zNZ,zMs];cases (l.take i).contains (l.getD i 0) with
  | true=>rfl
  | false=>
   obtain ⟨Z,U⟩: ∃ Z,m-i=Z+1:=⟨m-i-1,by omega⟩;rw [U];have ih:=vP a k (i+1) Z (by omega) (by omega);have h2:=r64 K a
   simp_all [KR,bx]
def zKE (m:l.length<=LB)(u:l.length*(l.length+2)+1<=n):bz n l=some (SK l):=by
 unfold bz vO SK;rw [zNc];exact vP m l.length 0 n (by omega) u
section
variable {c:AD} {n:Nat}
def NQ (sy:Int)(c:AD):Bool:=Dy [c.set,c.other] 0 (2 ^ sy.toNat-1)&&Dy [c.lo,c.hi] 0 65536&&decide (c.runs.length<=8)&&Dy c.runs 1 256
def aH {a b:Int}:([a,b]:Ξ).length<=LB:=by show 2<=LB;unfold LB;omega
variable {q:AA}{self:OI -> Option Bool}
theorem zJa (a:1<=q.symbols)(b:q.symbols<=16)(i:c.runs.length<=LB)(u:c.runs.length<n)(x:2<n):kT n self q c=some (NQ q.symbols c):=by
 obtain ⟨I,p2,G⟩:=ZO a b;unfold kT;rw [I,zEZ ⟨G,p2⟩,ZI aH (show 2<n from x),ZI aH (show 2<n from x),ZI i u]
 grind [NQ]
variable {o:Ω}
def zJc (hq:q.cells<=256)(l:c.cells.length<=LB){i:Nat}(hi:i<c.cells.length)(ho:o.length=256)(hm: ∀ x:Nat,x<256 -> o.getD x false=(c.cells.take i).contains (x:Int)):
 Wl n self q c (i:Int) o=if Qi q.cells c.kind c.cells i then self (.l1 ((i:Int)+1) (o.set (0+(c.cells.getD i 0).toNat) true)) else some false:=by
 have a:(i:Int)<(c.cells.length:Int):=by omega
 have b:=r64 hi l;unfold Qi;obtain ⟨x,e⟩: ∃ x,c.cells.getD i 0=x:=⟨_,rfl⟩;simp only [Wl,a,b,zLn,zFR,zIU,zMz,zI6,zCg,e]
 grind
def zJb :Wl n self q c (c.cells.length:Int) o=if Hx q.cells c.kind c.cells.length then self .l2 else some false:=by
 have a: ¬ ((c.cells.length:Int)<(c.cells.length:Int)):=by omega
 simp only [Wl,zFd a,zGF]
 by_cases hk:1<=c.kind/\ c.kind<=9
 ·obtain ⟨k,f⟩: ∃ k,c.kind=k:=⟨_,rfl⟩;rw [f] at hk;simp only [f];have e2:(((c.cells.length:Nat):Int) != 2)= !(c.cells.length==2):=by rw [zIh];simp;omega
  have e3:(((c.cells.length:Nat):Int) != q.cells)= !(((c.cells.length:Nat):Int)==q.cells):=rfl
  grind [Pi,Hx]
 ·have N4:Hx q.cells c.kind c.cells.length=false:=by
   rw [zMa];exact λh=>hk (Ph h)
  grind
def uo (L:q.cells<=256)(l:c.cells.length<=LB)(d:1<=q.symbols)(e:q.symbols<=16)(f:c.runs.length<=LB): ∀ (k i n:Nat) (o:Ω),i+k=c.cells.length -> k+c.runs.length+6<=n -> o.length=256 -> (∀ x:Nat,x<256 -> o.getD x false=(c.cells.take i).contains (x:Int)) ->
 TJ q c n (.l1 (i:Int) o)=some ((List.range' i k).all (Qi q.cells c.kind c.cells)&&Hx q.cells c.kind c.cells.length&&NQ q.symbols c)
 | 0,i,n,o,hi,u,a,v=>by
  have:i=c.cells.length:=by omega
  subst this;obtain ⟨m,rfl⟩: ∃ m,n=m+1:=⟨n-1,by omega⟩;refine (zJb (n:=m)).trans ?_;cases Hx q.cells c.kind c.cells.length with
  | false=>simp
  | true=>
   obtain ⟨Z,rfl⟩: ∃ Z,m=Z+1:=⟨m-1,by omega⟩
   grind [TJ,zJa]
 | k+1,i,n,o,hi,u,a,v=>by
  obtain ⟨m,rfl⟩: ∃ m,n=m+1:=⟨n-1,by omega⟩;refine (zJc (n:=m) L l (show i<c.cells.length by omega) a v).trans ?_;rw [zNZ,zMs];cases hck:Qi q.cells c.kind c.cells i with
  | false=>simp
  | true=>
   have hx:0<=c.cells.getD i 0/\ c.cells.getD i 0<q.cells:=by
    simp_all [Qi]
   have ih:=uo L l d e f k (i+1) m (o.set (0+(c.cells.getD i 0).toNat) true) (by omega) (by omega) (by simp [a]) (λx b=>?_)
   ·grind
   ·have Bt:i<c.cells.length:=by omega
    rw [zGw]
    have X:c.cells.take (i+1)=c.cells.take i++[c.cells.getD i 0]:=by
     simp_all
    rw [X,List.contains_append,←v x b];rw [zGH,zJB]
    grind
def zJe (L:q.cells<=256)(l:c.cells.length<=LB)(a:1<=q.symbols)(b:q.symbols<=16)(i:c.runs.length<=LB)(hn:c.cells.length+c.runs.length+6<=n):bc n q c=some (E8 q c):=by
 unfold bc uq;have:=uo L l a b i c.cells.length 0 n (List.replicate 256 false) (by omega) (by omega) zH0 (λx hx=>by grind);refine Eq.trans this ?_
 grind [E8,cV,NQ]
end
end
section
variable {c:AD} {n:Nat} {cells sy:Int}
def Vv (c:AD):Bool:=(List.range c.cells.length).all λi=>c.cells.getD i 0==(i:Int)
def zCi (l:c.cells.length<=LB)(d:c.runs.length<=LB)(a:1<=sy)(b:sy<=16)(hn:c.cells.length+c.runs.length+6<=n):NN c cells sy n (.l1 0)=some ((!(c.kind==8||c.kind==9)||Vv c)&&NQ sy c):=by
 have S:=Ko (λn i=>NN c cells sy n (.l1 i)) c.cells.length 0 (λi=>if (!(c.kind==8||c.kind==9)||c.cells.getD i 0==(i:Int)) then none else some false) (λn i _ hi=>?_) (n:=n) (by omega)
 ·refine S.trans ?_;rw [Qa]
  have e:((List.range c.cells.length).all λi=>(!(c.kind==8||c.kind==9)||c.cells.getD i 0==(i:Int)))=(!(c.kind==8||c.kind==9)||Vv c):=by
   grind [Vv]
  rw [e];cases (!(c.kind==8||c.kind==9)||Vv c) with
  | false=>rfl
  | true=>
   obtain ⟨m,v⟩: ∃ m,n-c.cells.length=m+1:=⟨n-c.cells.length-1,by omega⟩;rw [v];obtain ⟨I,p2,G⟩:=ZO a b;have h: ¬ ((c.cells.length:Int)<(c.cells.length:Int)):=by omega
   show VB m (NN c cells sy m) c cells sy (c.cells.length:Int)=_
   unfold VB;rw [zFd h,zGF,I,zEZ ⟨G,p2⟩,XT aH (show 2<m by omega),XT aH (show 2<m by omega),XT d (show c.runs.length<m by omega)];unfold NQ
   grind
 ·have a:(i:Int)<(c.cells.length:Int):=by omega
  have b:=r64 hi l
  show VB n (NN c cells sy n) c cells sy (i:Int)=_
  generalize NN c cells sy n=self
  simp only [VB,a,b,zLn,zFR,zIU,zMz,zI6,zCg]
  grind
def zCj (l:c.cells.length<=LB)(a:c.runs.length<=LB)(h0:1<=cells)(h00:cells<=256)(d:1<=sy)(e:sy<=16)(hn:c.cells.length*(c.cells.length+2)+c.cells.length+c.runs.length+7<=n):ZB n c cells sy=some (ZA c cells sy):=by
 have q:=zCi (cells:=cells) l a d e (n:=n) (by omega);have hR:AG (cells-1):=by rw [Aj];omega
 unfold ZB qG ZA;simp only [hR,zI6,XT l (show c.cells.length<n by omega),zKE l (show c.cells.length*(c.cells.length+2)+1<=n by omega),q,zEb];have y:((List.range c.cells.length).all λi=>c.cells.getD i 0==(i:Int))=Vv c:=rfl;have z: ∀ b:Bool,(b&&Dy [c.set,c.other] 0 (2 ^ sy.toNat-1)&&Dy [c.lo,c.hi] 0 65536&&decide (c.runs.length<=8)&&Dy c.runs 1 256)=(b&&NQ sy c):=λb=>by unfold NQ;simp only [Bool.and_assoc]
 rw [y,z];have e2:(((c.cells.length:Nat):Int) != 2)= !(c.cells.length==2):=by rw [zIh];simp;omega
 grind
end
def RO (c:AD):Nat:=c.cells.length*(c.cells.length+2)+c.cells.length+c.runs.length+7
theorem ny (c:AD):RO c=c.cells.length*(c.cells.length+2)+c.cells.length+c.runs.length+7:=rfl
def Dz (q:AA):Nat:=q.values.length+2*Fl q.nbrs+(q.cons.map RO).sum+q.cons.length+10
structure DK (q:AA):Prop where
 values:q.values.length<=LB
 nbrs: ∀ r∈q.nbrs,r.length<=LB
 cells: ∀ c∈q.cons,c.cells.length<=LB
 runs: ∀ c∈q.cons,c.runs.length<=LB
def dg: ∀ {l:List AD} {c:AD},c∈l -> RO c<=(l.map RO).sum
 | [],_,h=>by cases h
 | a::l,c,h=>by
  rw [zMN,List.sum_cons];rcases zIq.1 h with rfl | h
  ·omega
  ·have:=dg h;omega
section
variable {q:AA} {n:Nat}
def u5 {b:Bool}:(Dd b 120==0)=b:=by cases b <;> rfl
def yI (Q:DK q)(h1:1<=q.cells)(b:q.cells<=256)(h:1<=q.symbols)(A:q.symbols<=16)(h5:q.cons.length<=4096)(u:Dz q<=n): ∃ r:Int,aU n q.cons q=some r/\ (0<=r↔q.cons.all (E8 q)=false):=by
 unfold aU sf;have S:=Ko (λn i=>Np q.cons q n (.l1 i)) q.cons.length (q.cons.map RO).sum (λi=>if E8 q (q.cons.getD i default) then none else some (i:Int)) (λn i GJ hi=>?_) (n:=n) (by unfold Dz at u;omega)
 ·rw [show Np q.cons q n (.l1 0)=_ from S];cases M:(List.range q.cons.length).findSome? (λi=>if E8 q (q.cons.getD i default) then none else some (i:Int)) with
  | some r=>
   refine ⟨r,rfl,?_⟩;obtain ⟨i,hi,hr⟩:=zMb M
   grind
  | none=>
   obtain ⟨m,v⟩: ∃ m,n-q.cons.length=m+1:=⟨n-q.cons.length-1,by unfold Dz at u;omega⟩;refine ⟨-1,by rw [v];simp [Np,aS],?_⟩;rw [zM0] at M
   have:q.cons.all (E8 q)=true:=by
    rw [←VE (p:=E8 q) (d:=(default:AD)),zGL]
    grind
   simp [this]
 ·have a:(i:Int)<(q.cons.length:Int):=by omega
  have hR:AG ((i:Int)+1):=by rw [Aj];omega
  have X:q.cons.getD i default∈q.cons:=by grind
  have BK:=dg X;have g:=zJe (n:=n) b (Q.cells _ X) h A (Q.runs _ X) (by grind [ny])
  show aS n (Np q.cons q n) q.cons q (i:Int)=_
  generalize Np q.cons q n=self
  simp only [aS,Xw,dX,a,hR,zLn,zFR,zIU,zMz,zI6,zCg,g,zEb]
  grind
def mi (Q:DK q)(u:Dz q<=n):valid n q=some (Dd (CK q) 191):=by
 unfold valid mh CK;have p:=ZI (lo:=0) (up:=99) Q.values (show q.values.length<n by unfold Dz at u;omega);have a:=ub Q.nbrs (show 2*Fl q.nbrs+1<=n by unfold Dz at u;omega)
 by_cases w:q.cells<1
 ·grind [Dd]
 have h:1<=q.cells:=by omega
 by_cases t:q.cells>256
 ·grind [Dd]
 have i:q.cells<=256:=by omega
 by_cases d:q.symbols<1
 ·grind [Dd]
 have j:1<=q.symbols:=by omega
 by_cases V:q.symbols>16
 ·grind [Dd]
 have k:q.symbols<=16:=by omega
 simp only [zFd w,zFd t,zFd d,zFd V,zEE h,zEE i,zEE j,zEE k,zGF,zIy,p,a,zEb,bne,u5];cases ((q.values.length:Nat):Int)==q.symbols with
 | false=>rfl
 | true=>
 cases Dy q.values 0 99 with
 | false=>rfl
 | true=>
 cases ((q.nbrs.length:Nat):Int)==q.cells with
 | false=>rfl
 | true=>
 cases JR q.nbrs with
 | false=>rfl
 | true=>
 by_cases c:((q.cons.length:Nat):Int)>4096
 ·grind [Dd]
 have A:q.cons.length<=4096:=by omega
 obtain ⟨r,l,r2⟩:=yI Q h i j k A u;simp only [cH,kn,l,zFd c,zEE A,zEb,zGF,zIy,zIA,zJx,beq_self_eq_true]
 grind [Dd]
def zBa (Q:DK q)(a:1<=q.cells)(b:q.cells<=256)(h:1<=q.symbols)(A:q.symbols<=16)(h5:q.cons.length<=4096)(u:Dz q<=n):NG q n (.l1 0)=some (Dd (q.cons.all (E8 q)) 191):=by
 have S:=Ko (λn i=>NG q n (.l1 i)) q.cons.length (q.cons.map RO).sum (λi=>if E8 q (q.cons.getD i default) then none else some 191) (λn i GJ hi=>?_) (n:=n) (by unfold Dz at u;omega)
 ·refine S.trans ?_;rw [Qa,VE (p:=E8 q)];cases q.cons.all (E8 q) with
  | false=>rfl
  | true=>
   obtain ⟨m,hm⟩: ∃ m,n-q.cons.length=m+1:=⟨n-q.cons.length-1,by unfold Dz at u;omega⟩
   grind [NG,Yn,Dd]
 ·have c:(i:Int)<(q.cons.length:Int):=by omega
  have hR:AG ((i:Int)+1):=by rw [Aj];omega
  have X:q.cons.getD i default∈q.cons:=by grind
  have BK:=dg X;have g:=zCj (n:=n) (Q.cells _ X) (Q.runs _ X) a b h A (by grind [ny]);rw [zCk q _ a] at g
  show Yn n (NG q n) q (i:Int)=_
  generalize NG q n=self
  simp only [Yn,c,hR,zLn,zFR,zIU,zMz,zI6,zCg,g,zEb]
  grind
def pO (Q:DK q)(u:Dz q<=n):Ri n q=some (Dd (CK q) 191):=by
 unfold Ri pN CK;have p:=XT (lo:=0) (up:=99) Q.values (show q.values.length<n by unfold Dz at u;omega);have j:=qN Q.nbrs (show 2*Fl q.nbrs+1<=n by unfold Dz at u;omega)
 by_cases w:q.cells<1
 ·grind [Dd]
 have h:1<=q.cells:=by omega
 by_cases t:q.cells>256
 ·grind [Dd]
 have i:q.cells<=256:=by omega
 by_cases d:q.symbols<1
 ·grind [Dd]
 have a:1<=q.symbols:=by omega
 by_cases V:q.symbols>16
 ·grind [Dd]
 have k:q.symbols<=16:=by omega
 simp only [zFd w,zFd t,zFd d,zFd V,zEE h,zEE i,zEE a,zEE k,zGF,zIy,p,j,zEb,bne,u5];cases ((q.values.length:Nat):Int)==q.symbols with
 | false=>rfl
 | true=>
 cases Dy q.values 0 99 with
 | false=>rfl
 | true=>
 cases ((q.nbrs.length:Nat):Int)==q.cells with
 | false=>rfl
 | true=>
 cases JR q.nbrs with
 | false=>rfl
 | true=>
 by_cases c5:((q.cons.length:Nat):Int)>4096
 ·grind [Dd]
 have lL:q.cons.length<=4096:=by omega
 simp_all [zBa,zFd]
def zEw {k:Int}(h:1<=k/\ k<=9):([0,1,1,2,2,3,1,1,4,4]:Ξ).getD k.toNat 0=IT k:=by
 rcases Pi h with h | h | h | h | h | h | h | h | h <;> subst h <;> rfl
def zFe (p:CK q=true){i:Int}(h0:0<=i)(hi:i<(q.cons.length:Int)):1<=(q.cons.getD i.toNat default).kind/\ (q.cons.getD i.toNat default).kind<=9:=by
 have Bt:i.toNat<q.cons.length:=by omega
 have X:q.cons.getD i.toNat default∈q.cons:=by grind
 exact Ph (sQ ((DM p).2.2.2.2.2 _ X))
def gv (Q:DK q)(u:Dz q<=n)(i:Int):Pf n q i=some (MG q i):=by
 unfold Pf gu MG;rw [mi Q u];cases p:CK q with
 | false=>rfl
 | true=>
  by_cases h0:i<0
  ·grind [Dd]
  ·by_cases hi:i>=(q.cons.length:Int)
   ·grind [Dd]
   ·have l:0<=i/\ i<(q.cons.length:Int):=by omega
    have hk:=zFe p l.1 l.2;have j:(0<=i/\ i<(q.cons.length:Int))/\ (0<=(q.cons.getD i.toNat default).kind/\ (q.cons.getD i.toNat default).kind<((10:Nat):Int)):=⟨l,by omega,by omega⟩;simp only [Dd,zI6,zEb,bne_self_eq_false,zGF,zFd h0,zFd hi,zEZ j,zEZ l,zEw hk,Bool.true_eq_false,zMy]
end
abbrev zMU:=@List.filter_append
abbrev zNi:=@Go.Lib.hid
theorem yK (x k B:Nat)(w:World)(Hf:((x:Int)==0)=false) 
 (key:IntKind.u64.wrap (bits BinOp.and IntKind.u64 (x:Int) (IntKind.u64.wrap (-(x:Int)))*285870213051353865)/288230376151711744=(B:Int))
 (hi:B<64) (hk:k<64) (FO:w.cell? ⟨1,B,none⟩=some (.int .u8 k)):
 Calls Tryz.prog 151 #[.int .u64 x] w λe w'=>e= .returned (.int .i64 k)/\ w=w':=by
 go_enter Tryz.func151,Tryz.ntmps151
 go_wp2_with (simp only [key])
 go_ret
 exact ⟨rfl,rfl⟩
def yL (x:Nat)(a:x<18446744073709551616)(D:x≠0)(w:World)(y:Ob w):
 Calls Tryz.prog 151 #[.int .u64 x] w λe w'=>e= .returned (.int .i64 (Lib.ctz 64 x))/\ w=w':=by
 obtain ⟨jS,hk⟩:=Lib.lowest_bit 64 x D a;obtain ⟨hi,htab⟩:=Lib.deBruijn64_at _ hk;have FO:=y _ hi
 grind [yK,tz64_key]
def yJ (x:Nat)(a:x<18446744073709551616)(D:x≠0)(w:World)(y:Ob w):
 Calls Tryz.prog 134 #[.int .u64 x] w λe w'=>e= .returned (.int .i64 (Lib.ctz 64 x))/\ w=w':=by
 have b:=yL x a D w y
 go_enter Tryz.func134,Tryz.ntmps134
 go_wp2_with (go_at_call 151;refine b.mono ?_;rintro e w' ⟨rfl,rfl⟩)
 go_ret
 exact ⟨rfl,rfl⟩
def Fm (x:Nat):Θ:=(List.range 64).filter λs=>x.testBit s
theorem n0:Fm 0= []:=by simp [Fm]
def zE0 (k m s:Nat):(2 ^ k*(2*m+1)).testBit s=(decide (k<=s)&&(2*m+1).testBit (s-k)):=by
 grind
def zED (m s:Nat):(2*m+1).testBit s=(decide (s=0)||(2*m).testBit s):=by
 cases s with
 | zero=>simp [Nat.testBit_zero]
 | succ s=>simp [Nat.testBit_succ];congr 1;omega
def zC8: ∀ k,k<64 -> List.range 64=List.range k++k::List.range' (k+1) (63-k):=by decide+kernel
def n5 (x:Nat)(e:x<18446744073709551616)(D:x≠0):Fm x=Lib.ctz 64 x::Fm (x&&& (x-1)):=by
 have l:Lib.ctz 64 x=Lib.ctzFrom 64 x:=by simp [Lib.ctz,D]
 obtain ⟨m,v,hk⟩:=Lib.ctzFrom_spec 64 x (by omega) (by simpa using e);rw [l]
 generalize Lib.ctzFrom 64 x=k at*
 have c: ∀ s,x.testBit s=(decide (k<=s)&&(decide (s-k=0)||(2*m).testBit (s-k))):=λs=>by rw [v,zE0,zED]
 have hy: ∀ s,(x&&& (x-1)).testBit s=(x.testBit s&&decide (s≠k)):=by
  intro s;have hp:0<2 ^ k:=Nat.two_pow_pos k
  have B:x-1=2 ^ k*(2*m)+(2 ^ k-1):=by
   grind
  have KG:(x-1).testBit s=if s<k then (2 ^ k-1).testBit s else (2*m).testBit (s-k):=by
   rw [B,Nat.testBit_two_pow_mul_add _ (by omega)]
  grind
 unfold Fm;have i:List.range 64=List.range k++k::List.range' (k+1) (63-k):=zC8 k hk;rw [i];simp only [zMU,zI9]
 have a: ∀ y:Nat,(∀ s,s<k -> y.testBit s=false) -> (List.range k).filter (λs=>y.testBit s)= []:=λy h=>by
  simp_all
 rw [a x (λs j=>by rw [c];simp;omega),a (x&&& (x-1)) (λs j=>by rw [hy,c];simp;omega)];have b:x.testBit k=true:=by rw [c];simp
 have d:(x&&& (x-1)).testBit k=false:=by rw [hy];simp
 simp only [b,d,zIg,zI6,zIp,zMy]
 congr 1
 apply List.filter_congr
 grind
def zLy (x:Nat)(hx:x<9223372036854775808)(Hf:x≠0):bits .and .i64 (x:Int) ((x:Int)-1)=((x&&& (x-1):Nat):Int):=by
 have e:((x:Int)-1)=((x-1:Nat):Int):=by omega
 have AU:x&&& (x-1)<=x:=Nat.and_le_left;rw [e]
 have a:(BitVec.ofInt 64 (x:Int)).toNat=x:=by
  grind
 have b:(BitVec.ofInt 64 ((x-1:Nat):Int)).toNat=x-1:=by
  grind
 show IntKind.i64.wrap ((BitVec.ofInt 64 (x:Int)&&& BitVec.ofInt 64 ((x-1:Nat):Int)).toNat:Int)=_
 rw [BitVec.toNat_and,a,b];have v:((x&&& (x-1):Nat):Int) % 2 ^ 64=((x&&& (x-1):Nat):Int):=by omega
 simp only [IntKind.wrap,IntKind.signed,IntKind.bits,v]
 grind
def ow (w:World)(b o:Nat):Nat:=match w.cell? ⟨b,o,none⟩ with
 | some (.int _ x)=>x.toNat
 | _=>0
def X6 (s:Nat):List DV:=[.int .i64 s]
def hE1 (R:Ψ)(W:World)(x:Nat):YV (X6 x) R W #[.int .i64 x]:=⟨rfl,λj d=>by
 have:j=0:=Nat.lt_one_iff.1 d;subst this;rfl⟩
set_option maxRecDepth 100000 in
set_option maxHeartbeats 4000000 in
def ya (set b o:Nat)(w:World)(Q:set<9223372036854775808)(S:Ob w)(t:w.cell? ⟨b,o,none⟩=some (.int .i64 set))(T:w.frozen? ⟨b,o,none⟩=false)(u:b≠1):
 Og Tryz.prog 133 #[.pointer (some ⟨b,o,none⟩)] YV ((Fm set).map X6) Tu (λk=>k=b) (λk=>k=1) w:=by
 intro l J Jx W hJ hJx M v h0 _;have U:=zNi v;clear v;have z:W.cell? ⟨b,o,none⟩=some (.int .i64 set):=M.cell (λh=>h (.inl rfl)) t
 have g:W.frozen? ⟨b,o,none⟩=false:=by
  rw [World.frozen?_of_block (M.block b (zIb w _ t) (λh=>h (.inl rfl)))];exact T
 have A:Ob W:=λj d=>M.cell (λh=>h (.inr rfl)) (S j d)
 have c: ∀ m,W.heap.size<=m.heap.size -> EE (λk=>k=b) (λk=>k=1) m:=λm h=>⟨λk e V=>u (e.symm.trans V),λk hk=>zGS (hk.elim (λe=>e▸zIb W _ z) (λe=>e▸zIb W _ (A 0 (by decide)))) h⟩
 obtain ⟨G,B⟩: ∃ G:Ψ,(λk=>k=b)=G:=⟨_,rfl⟩;obtain ⟨R,C⟩: ∃ R:Ψ,(λk=>k=1)=R:=⟨_,rfl⟩;rw [B,C] at h0 c;have E:G b:=by rw [←B]
 have F:R 1:=by rw [←C]
 refine callsIn_of_wp Tryz.func133 rfl trivial ?_ rfl;simp only [Tryz.ntmps133,List.size_toArray,zGp,zMp,Nat.reduceAdd,Nat.reduceSub,Array.replicate_succ,Array.replicate_zero,List.push_toArray,List.append_toArray,zIg,List.cons_append]
 gi_wp2
 gi_loopw [3,4,5,6,7,8,9,10,11,12,13,14] (λ_ _ _ _ _ _ _ _ _ _ _ _ wr=>∃ (i x:Nat),W.heap.size<=wr.heap.size/\ x<9223372036854775808/\ i<=(Fm set).length/\ Hid ((Fm set).drop i=Fm x)/\ Hid (J i G R wr)/\ wr.cell? ⟨b,o,none⟩=some (.int .i64 x)/\ wr.frozen? ⟨b,o,none⟩=false/\ Hid (Ob wr))
  (λ_ _ _ _ _ _ _ _ _ _ _ _ wr=>ow wr b o)
 case atStart=>exact ⟨0,set,zGT _,Q,zIG _,zNi rfl,zNi h0,z,g,zNi A⟩
 case round=>
  obtain ⟨i,x,f,Y,CS,r,d,N,Z,X⟩:=hrel
  by_cases D:x=0
  ·subst D
   have n:i=(Fm set).length:=by
    have:=congrArg List.length r.out
    grind [n0]
   gi_wp2
   go_end0
   exact ⟨G,R,c _ f,.inl ⟨n▸d.out,_,rfl⟩⟩
  ·have N0:((x:Int)==0)=false:=by simp [D]
   have O:(Fm set).drop i=Lib.ctz 64 x::Fm (x&&& (x-1)):=by rw [r.out,n5 x (by omega) D]
   have n:i<(Fm set).length:=by
    grind
   have hie:(Fm set)[i]=Lib.ctz 64 x:=by
    grind [List.drop_eq_getElem_cons]
   obtain ⟨fn,tmps,Qr,body,hy,hR⟩:=U.out i (X6 (Lib.ctz 64 x)) #[.int .i64 (Lib.ctz 64 x)] G R wr (by grind) (hE1 R wr _) d.out (c _ f);have H:=zNi hR;clear hR;have I:=zNi (yJ x (by omega) D wr X.out);have p:=zNi O;clear O r
   gi_wp2_with (first | refine ⟨trivial,rfl,?_⟩ | (gi_at_call 134;refine (zM4.2 I.out).mono ?_;rintro e w' ⟨rfl,rfl⟩))
   refine ⟨rfl,H.out.mono ?_⟩;rintro e y ⟨a,(⟨rfl,tX⟩ | ⟨rfl,Py⟩)⟩
   ·have bG:y.cell? ⟨b,o,none⟩=some (.int .i64 x):=a.cell (λh=>h (.inl E)) N
    have K:y.frozen? ⟨b,o,none⟩=false:=by
     rw [World.frozen?_of_block (a.block b (zIb wr _ N) (λh=>h (.inl E)))];exact Z
    have P:Ob y:=λj d=>a.cell (λh=>h (.inr F)) (X.out j d)
    have q:AQ G y (y.setCell ⟨b,o,none⟩ (.int .i64 ((x&&& (x-1):Nat):Int))):=(AQ.refl G y).setCell (λ_=>E) _;have L:=zGK f (zGK a.size q.size);have WH:=zNi ((hJ _).same (c _ (zGK f a.size)) tX q)
    have s:Hid (Ob (y.setCell ⟨b,o,none⟩ (.int .i64 ((x&&& (x-1):Nat):Int)))):=zNi λj d=>
     ((AQ.refl (λk=>k=b) y).setCell (λ_=>rfl) _).cell (λe=>u e.symm) (P j d)
    have AU:x&&& (x-1)<x:=Nat.lt_of_le_of_lt Nat.and_le_right (by omega);clear q P
    gi_wp2
    rw [zLy x Y D];have MY:(y.setCell ⟨b,o,none⟩ (.int .i64 ((x&&& (x-1):Nat):Int))).cell? ⟨b,o,none⟩=some (.int .i64 ((x&&& (x-1):Nat):Int)):=World.cell?_setCell_same' y _ _ (by rw [bG];rfl);refine ⟨⟨_,_,_,_,_,_,_,_,_,_,_,_,⟨i+1,x&&& (x-1),L,by omega,n,zNi ?_,WH,MY,?_,s⟩,rfl⟩,?_⟩
    ·rw [←List.drop_drop,p.out];rfl
    ·rw [World.frozen?_setCell];exact K
    grind [ow]
   ·gi_wp2
    refine bodyPost_ret (results_none rfl _ _ _) rfl ?_;exact ⟨G,R,c _ (zGK f a.size),.inr ⟨⟨_,rfl⟩,Py⟩⟩
def Bj (x:Int):Ξ:=(Fm x.toNat).map λ(s:Nat)=>(s:Int)
def zJ8 (x:Int):(Bj x).map Bw=(Fm x.toNat).map X6:=by
 unfold Bj;rw [List.map_map];rfl
def yZ {x:Int}(hx:(0:Int)<=x/\ x<9223372036854775808)(w:World)(b o:Nat)(u:Value)(j:GG.gi w)(d:GG.ng<=b)(c: ∃ cs t,w.heap[b]? =some (.cells cs t (0,0)))(l:w.cell? ⟨b,o,none⟩=some u)(i:u= .int .i64 x):
 Og Tryz.prog 133 #[.pointer (some ⟨b,o,none⟩)] YV ((Bj x).map Bw) Tu (λk=>k=b) (λk=>k=1) w:=by
 rw [zJ8];obtain ⟨cs,t,c⟩:=c;have d:2<=b:=d;refine ya x.toNat b o w (by omega) j.1 ?_ ?_ (by omega)
 ·rw [l,i];congr 2;omega
 ·unfold World.frozen?;simp [c]
def ES.iterOf {P:Program}{Γ:Au}{f H:Nat}{ds:List DV}{c:Nat -> DV}{d:DV}{encs:List (List DV)}{Rd:Ψ}(h0:ES P Γ f ds [] (.fn H 1 c) [some (.cells [d])] true)(y:c 0= .ref 0 0)(z:ds.all GF=true) 
 (A: ∀ args W,(callFunc H args).run P W= .ok (.enter H args) W)
 (n: ∀ (w:World) (b o:Nat) (u:Value),Γ.gi w -> Γ.ng<=b -> (∃ cs t,w.heap[b]? =some (.cells cs t (0,0))) -> w.cell? ⟨b,o,none⟩=some u -> AJ (λ_=>False) w d [] u -> Og P H #[.pointer (some ⟨b,o,none⟩)] YV encs Tu (λk=>k=b) Rd w)
 (B:Ry d=true) (O: ∀ b,Rd b -> b<Γ.ng) (h:DH):ES P Γ f ds h (.it h.length) (h++[some (.iter encs)]) true:=by
 refine ⟨h0.1,λN ρ w args HR r=>?_⟩;refine (h0.2 (MS N h ρ) [] w args (Sc (λb a=>HR.lt2 a) HR.gi) ⟨r.1,λi hi=>?_⟩).mono ?_
 ·have D:=Ng (zGL.1 z (ds.getD i .any) (by simp [hi]));exact AJ.out _ (D5 (λb a=>Qz.1 a) []) (D _ _ _ _ (r.2 i hi))
 ·rintro e w' ⟨v,rfl,⟨⟨ρ',g,E,F,g4⟩,G⟩⟩;have C:=G rfl;obtain ⟨p,m,l⟩:=g.obj 0 _ rfl;have l:AX w' p 1 _:=l;have M: ∀ b,p.foot b -> w.heap.size<=b:=λb a=>(F.grow b ⟨0,_,p,rfl,m,a⟩).resolve_left λ⟨k,o',p',I,_⟩=>by simp at I
  obtain ⟨Y,J,hl,K⟩:=E;obtain ⟨u,hu,s⟩:=K 0 (by omega);rw [y] at s;obtain ⟨p',U,V0⟩:=s;have L:p'=p:=zGJ (U.symm.trans m);subst L
  have q:Y= #[.pointer (some ⟨p'.blk,p'.off,none⟩)]:=by
   grind
  subst q;obtain ⟨Q,R,S⟩:=AX.cell l (j:=0) (by omega);have x:p'.foot=λb=>b=p'.blk:=l.1
  have T:Γ.ng<=w.heap.size:=Γ.lo _ HR.gi;have V:=g.cel 0 _ p' p'.blk rfl m (by rw [x]);refine ⟨v,rfl,⟨⟨ρ++[{ p' with val:=v }],HR.snoc C (λb a=>⟨M b a,(g.cel 0 _ p' b rfl m a).2.2⟩) ?_,⟨{ p' with val:=v },by rw [←HR.len];simp,rfl⟩,A3.snoc HR C M,λ_ _ h=>Eo h⟩,G⟩⟩;obtain ⟨_,cs,t,X,_⟩:=l;refine ⟨H,_,Rd,⟨J,A⟩,?_,λb a=>?_,λb a=>?_⟩
  ·show Og P H _ YV encs Tu p'.foot Rd w'
   rw [x];refine n w' _ _ Q g.gi V.1 ⟨cs,t,X⟩ (by simpa using R) ?_;exact AJ.out _ (D5 (λb a=>a.elim) []) (fe B S)
  ·have Z:=O b a;refine ⟨λhm=>?_,zGS (zGS Z T) C.size⟩;rcases hm with hm | hm
   ·have:=(HR.nlt b hm).2;omega
   ·rcases MO.snoc HR hm with hm | hm
    ·have:=HR.low hm;omega
    ·have:=M b hm;omega
  grind
section
set_option maxRecDepth 100000
set_option maxHeartbeats 40000000
inductive cD where
 | l1 (x7:Int)
def cC (n:Nat)(self:cD -> Option Bool)(d:Ξ)(Z:Int):Option Bool:= bif (decide (Z<(d.length:Int))) then if 0<=Z/\ Z<(d.length:Int) then bif ((d.getD Z.toNat 0)==0) then some true else if AG (Z+1) then self (.l1 (Z+1)) else none else none else some false
def vS (n:Nat)(self:cD -> Option Bool)(sets:Ξ):Option Bool:= self (.l1 0)
def TT (d:Ξ):Nat -> cD -> Option Bool
 | 0,_=>none
 | n+1,.l1 Z=>cC n (TT d n) d Z
def W9 (n:Nat)(d:Ξ):Option Bool:=vS n (TT d n) d
def zKT (n B:Nat)(N:Yd 0)(d:Ξ)(r:Bool):cD -> Prop
 | .l1 Z=>∀ f:Nat,n<=f -> TW B N (FQ Tryz.f80 0 (.bool r) []) (Ah f (An (AR Tryz.f80) 0 [])) ⟨AF 14 [(5,.ints d),(6,.i (d.length:Int)),(7,.i Z)],[]⟩
def zKU (B:Nat)(N:Yd 0)(d:Ξ):Al (TT d) (zKT · B N d):=ia (λ_=>rfl) λn C b r h=>by
 cases b
 case l1 x7=>
  intro f a;refine rd a λf a=>?_
  revert r;apply gO;exact bi 8 (gi (bi 12 (lE AC [2] []) (gw 13 (lG AC [] (C _ _ · f a))))) (lE AC [2] [])
variable {n:Nat}
def vR {d:Ξ}{r:Bool}(h:W9 n d=some r):EQ 80 [.ints d] [] (.bool r) [] true:=by
 refine ot Tryz.func80 λB N=>?_
 revert r;apply gO;exact lN AC [] ((zKU B N d n) _ _ · n Nat.le.refl)
def iF (n:Nat)(pos:Ξ):Option Bool:= (W9 n pos).bind λk=> some k
def Gz (n:Nat)(pos:Ξ):Option Bool:=iF n pos
variable {pos:Ξ}
def Po {r:Bool}(h:Gz n pos=some r):EQ 53 [.ints pos] [] (.bool r) [] true:=by
 unfold Gz iF at h;refine ot Tryz.func53 λB N=>?_
 revert r;apply gO;exact cf vR [] λ_=>lE AC [2] []
def gK (n:Nat)(pos:Ξ):Option (Ξ):= (W9 n pos).bind λk=> bif k then if ((pos.length:Int):Int)=(pos.length:Int)/\ 0<=(pos.length:Int)/\ ((pos.length:Int):Int)<=1000000000000 then if pos.length=(List.replicate pos.length (0:Int)).length then some (List.replicate pos.length (0:Int)) else none else none else some pos
def SI (n:Nat)(pos:Ξ):Option (Ξ):=gK n pos
def zEL {r:Ξ}(h:SI n pos=some r):EQ 48 [.ints pos] [] (.ints r) [] true:=by
 unfold SI gK at h;refine ot Tryz.func48 λB N=>?_
 revert r;apply gO;exact cf vR [] λ_=>bi 4 (gi (gn λo=>lF λp=>ez AC [2] [0] p [0] (H0.g o))) (lE AC [2] [])
inductive ZU where
 | l1 (x20:Int)
def ZT (n:Nat)(self:ZU -> Option Int)(q:AA)(pos:Ξ)(x20:Int):Option Int:= bif (decide (x20<(pos.length:Int))) then if 0<=x20/\ x20<(pos.length:Int) then bif (decide ((pos.getD x20.toNat 0)<0)) then some 250 else if 0<=q.symbols/\ q.symbols<=(IntKind.i64.bits:Int) then bif (decide ((pos.getD x20.toNat 0)>=(IntKind.i64.wrap (1*2 ^ (q.symbols).toNat)))) then some 250 else if AG (x20+1) then self (.l1 (x20+1)) else none else none else none else some 0
def ql (n:Nat)(self:ZU -> Option Int)(q:AA)(pos:Ξ):Option Int:= (valid n q).bind λk=> bif (k != 0) then some k else bif ((pos.length:Int) != q.cells) then some 250 else self (.l1 0)
def PK (q:AA)(pos:Ξ):Nat -> ZU -> Option Int
 | 0,_=>none
 | n+1,.l1 x20=>ZT n (PK q pos n) q pos x20
def GB (n:Nat)(q:AA)(pos:Ξ):Option Int:=ql n (PK q pos n) q pos
def zDc (n B:Nat)(N:Yd 0)(q:AA)(pos:Ξ)(r:Int):ZU -> Prop
 | .l1 x20=>∀ f:Nat,n<=f -> TW B N (FQ Tryz.f21 0 (.i r) []) (Ah f (An (AR Tryz.f21) 0 [])) ⟨AF 34 [(2,.ref 0 0),(18,.ints pos),(19,.i (pos.length:Int)),(20,.i x20)],[oC (AH q)]⟩
def zDd (B:Nat)(N:Yd 0)(q:AA)(pos:Ξ):Al (PK q pos) (zDc · B N q pos):=ia (λ_=>rfl) λn C b r h=>by
 cases b
 case l1 x20=>
  intro f a;refine rd a λf a=>?_
  revert r;apply gO;exact bi 21 (gi (bi 25 (lE AC [4] []) (gi (bi 31 (lE AC [4] []) (gw 33 (lG AC [0] (C _ _ · f a))))))) (lE AC [4] [])
variable {r:Int}{q:AA}
def L5 (h:GB n q pos=some r):EQ 21 [.agg 5 (L1 (AH q)),.ints pos] [] (.i r) [] true:=by
 refine ot Tryz.func21 λB N=>?_
 revert r;apply gO;exact cf mg [oC (AH q)] λ_=>bi 11 (lE AC [4] []) (bi 17 (lE AC [4] []) (lN AC [0] ((zDd B N q pos n) _ _ · n Nat.le.refl)))
def vg (n:Nat)(N:Ξ):Option (Ξ):= if 0<N.length/\ ((True)/\ (0=0/\ 0=([]:Ξ).length)/\ ([]:Ξ).length+N.length<=Ay) then if ([]:Ξ).length+N.length=(([]:Ξ)++N).length then some (([]:Ξ)++N) else none else none
def cS (n:Nat)(N:Ξ):Option (Ξ):=vg n N
def zK3 {a:Ξ}{r:Ξ}(h:cS n a=some r):EQ 115 [.ints a] [] (.msl 0 1 0 r.length) [oI r] true:=by
 refine ot Tryz.func115 λB N=>?_
 revert r;apply gO;exact gc (gi (gi (gn λs=>lF λp=>el AC [2] [1] p [] H0 [.msl 0 1 0 (([]:Ξ).length+a.length)] (AN.mslN s))))
def k7 (n:Nat)(N:Ω):Option (Ω):= if 0<N.length/\ ((True)/\ (0=0/\ 0=([]:Ω).length)/\ ([]:Ω).length+N.length<=Ay) then if ([]:Ω).length+N.length=(([]:Ω)++N).length then some (([]:Ω)++N) else none else none
def Qg (n:Nat)(N:Ω):Option (Ω):=k7 n N
def vh {a:Ω}{r:Ω}(h:Qg n a=some r):EQ 137 [.bools a] [] (.msl 0 1 0 r.length) [some (.bools r)] true:=by
 refine ot Tryz.func137 λB N=>?_
 revert r;apply gO;exact gc (gi (gi (gn λs=>lF λp=>el AC [2] [1] p [] H0 [.msl 0 1 0 (([]:Ω).length+a.length)] (AN.mslN s))))
def lC (n:Nat)(q:AA)(i:Int)(pos:Ξ):Option Int:= (Pf n q i).bind λk=> bif (k.2 != 0) then some k.2 else (GB n q pos).bind λG=> some G
def Ta (n:Nat)(q:AA)(i:Int)(pos:Ξ):Option Int:=lC n q i pos
def zK9 {i:Int}(h:Ta n q i pos=some r):EQ 98 [.agg 5 (L1 (AH q)),.i i,.ints pos] [] (.i r) [] true:=by
 unfold Ta lC at h;refine ot Tryz.func98 λB N=>?_
 revert r;apply gO;exact cf gq [oC (AH q)] λ_=>bi 16 (lE AC [6] []) (cf L5 [oC (AH q)] λ_=>lE AC [6] [])
inductive bQ where
 | l1 (A9:Int)
def bP (n:Nat)(self:bQ -> Option Int)(E:List Ξ)(d:List Ω)(z:Int):Option Int:= bif (decide (z<(d.length:Int))) then if 0<=z/\ z<(d.length:Int) then bif ((((d.getD z.toNat []).length:Nat):Int) != (E.length:Int)) then some 1 else if AG (z+1) then self (.l1 (z+1)) else none else none else some 0
def uP (n:Nat)(self:bQ -> Option Int)(E:List Ξ)(sets:List Ω):Option Int:= (Wc n E).bind λk=> bif (k != 0) then some k else self (.l1 0)
def S8 (E:List Ξ)(d:List Ω):Nat -> bQ -> Option Int
 | 0,_=>none
 | n+1,.l1 z=>bP n (S8 E d n) E d z
def OG (n:Nat)(E:List Ξ)(d:List Ω):Option Int:=uP n (S8 E d n) E d
def zJC (n B:Nat)(N:Yd 0)(E:List Ξ)(d:List Ω)(r:Int):bQ -> Prop
 | .l1 z=>∀ f:Nat,n<=f -> TW B N (FQ Tryz.f139 0 (.i r) []) (Ah f (An (AR Tryz.f139) 0 [])) ⟨AF 25 [(0,.sl 1 E.length (AK AP E)),(13,.sl 1 d.length (AK cc d)),(14,.i (d.length:Int)),(15,.i z)],[]⟩
def zJD (B:Nat)(N:Yd 0)(E:List Ξ)(d:List Ω):Al (S8 E d) (zJC · B N E d):=ia (λ_=>rfl) λn C b r h=>by
 cases b
 case l1 A9=>
  intro f a;refine rd a λf a=>?_
  revert r;apply gO;exact bi 16 (gi (bi 23 (lE AC [4] []) (gw 24 (lG AC [] (C _ _ · f a))))) (lE AC [4] [])
def uN {E:List Ξ}{d:List Ω}(h:OG n E d=some r):EQ 139 [.sl 1 E.length (AK AP E),.sl 1 d.length (AK cc d)] [] (.i r) [] true:=by
 refine ot Tryz.func139 λB N=>?_
 revert r;apply gO;exact cf uY [] λ_=>bi 11 (lE AC [4] []) (lN AC [] ((zJD B N E d n) _ _ · n Nat.le.refl))
end
section
set_option maxRecDepth 100000
set_option maxHeartbeats 40000000
def zBH:Ax (BA Tryz.f120 0) [] (List.range 18) [18]:=by unfold Ax;kernel_rfl
def zAE:Be:=λi=>match i with
 | 0=>.ord [] (List.range 18) [18]
 | _=>.no
def gh (n:Nat)(cell ss:Int)(c:AD)(q:AA)(pos:Ξ)(ln:Nat)(lost:Ξ):Option (Ξ):= if (0<=cell/\ cell<(ln:Int))/\ 0+cell.toNat<lost.length/\ (0<=cell/\ cell<(pos.length:Int)) then some (lost.set (0+cell.toNat) (bits .or .i64 (lost.getD (0+cell.toNat) 0) (bits .and .i64 (pos.getD cell.toNat 0) ss))) else none
def D8 (n:Nat)(cell ss:Int)(c:AD)(q:AA)(pos:Ξ)(ln:Nat)(lost:Ξ):Option (Ξ):=gh n cell ss c q pos ln lost
variable {r lost pos:Ξ}{ln n:Nat}{q:AA}{c:AD}{cell:Int}
def Gy {ss:Int}(h:D8 n cell ss c q pos ln lost=some r):EQ 120 [.ref 0 0,.i cell,.i ss] [oW c q pos 1 ln,oI lost] (.tup 0 (λj=>([]:List DV).getD j .any)) [oW c q pos 1 ln,oI r] false:=by
 refine ot Tryz.func120 λB N=>?_
 revert r;apply gO;exact jg zBH (gc (gn λa=>jg a (gc (gn λo=>jg o (gi (jg a (jg o (lE zAE [] [0,1]))))))))
def zA6:Ax (BA Tryz.f121 0) [] (List.range 22) [22]:=by unfold Ax;kernel_rfl
def zAD:Be:=λi=>match i with
 | 0=>.ord [] (List.range 22) [22]
 | _=>.no
def gD (n:Nat)(cell:Int)(c:AD)(q:AA)(pos:Ξ)(ln:Nat)(lost:Ξ):Option (Ξ):= if (0<=cell/\ cell<(ln:Int))/\ 0+cell.toNat<lost.length/\ (0<=cell/\ cell<(pos.length:Int)) then some (lost.set (0+cell.toNat) (bits .or .i64 (lost.getD (0+cell.toNat) 0) (bits .andNot .i64 (pos.getD cell.toNat 0) c.set))) else none
def Hc (n:Nat)(cell:Int)(c:AD)(q:AA)(pos:Ξ)(ln:Nat)(lost:Ξ):Option (Ξ):=gD n cell c q pos ln lost
def Nc (h:Hc n cell c q pos ln lost=some r):EQ 121 [.ref 0 0,.i cell] [oW c q pos 1 ln,oI lost] (.tup 0 (λj=>([]:List DV).getD j .any)) [oW c q pos 1 ln,oI r] false:=by
 refine ot Tryz.func121 λB N=>?_
 revert r;apply gO;exact jg zA6 (gc (gn λa=>jg a (gc (gn λo=>jg o (gi (jg a (jg o (lE zAD [] [0,1]))))))))
inductive W0 where
 | l1 (x3 x4 BN:Int)
 | l2 (x3 x4 CP:Int) (o1:Ξ)
def b7 (n:Nat)(self:W0 -> Option (Bool×Ξ))(c:AD)(q:AA)(pos:Ξ)(ln:Nat)(lost:Ξ)(H K m:Int):Option (Bool×Ξ):= bif (decide (m<(c.cells.length:Int))) then if (0<=m/\ m<(c.cells.length:Int))/\ (0<=(c.cells.getD m.toNat 0)/\ (c.cells.getD m.toNat 0)<(pos.length:Int))/\ AG ((pos.getD ((c.cells.getD m.toNat 0).toNat) 0)-1) then bif ((bits .and .i64 (pos.getD ((c.cells.getD m.toNat 0).toNat) 0) ((pos.getD ((c.cells.getD m.toNat 0).toNat) 0)-1))==0) then if AG (m+1) then self (.l1 (bits .or .i64 H (pos.getD ((c.cells.getD m.toNat 0).toNat) 0)) (bits .or .i64 K (bits .and .i64 H (pos.getD ((c.cells.getD m.toNat 0).toNat) 0))) (m+1)) else none else if AG (m+1) then self (.l1 H K (m+1)) else none else none else self (.l2 H K 0 lost)
def b6 (n:Nat)(self:W0 -> Option (Bool×Ξ))(c:AD)(q:AA)(pos:Ξ)(ln:Nat)(lost:Ξ)(H K O:Int)(o1:Ξ):Option (Bool×Ξ):= bif (decide (O<(c.cells.length:Int))) then if (0<=O/\ O<(c.cells.length:Int))/\ (0<=(c.cells.getD O.toNat 0)/\ (c.cells.getD O.toNat 0)<(pos.length:Int))/\ AG ((pos.getD ((c.cells.getD O.toNat 0).toNat) 0)-1) then bif ((bits .and .i64 (pos.getD ((c.cells.getD O.toNat 0).toNat) 0) ((pos.getD ((c.cells.getD O.toNat 0).toNat) 0)-1))==0) then (D8 n (c.cells.getD O.toNat 0) (bits .or .i64 (bits .andNot .i64 H (pos.getD ((c.cells.getD O.toNat 0).toNat) 0)) K) c q pos ln o1).bind λk=> if AG (O+1) then self (.l2 H K (O+1) k) else none else (D8 n (c.cells.getD O.toNat 0) H c q pos ln o1).bind λk=> if AG (O+1) then self (.l2 H K (O+1) k) else none else none else some (true,o1)
def vQ (n:Nat)(self:W0 -> Option (Bool×Ξ))(c:AD)(q:AA)(pos:Ξ)(ln:Nat)(lost:Ξ):Option (Bool×Ξ):= self (.l1 0 0 0)
def Me (c:AD)(q:AA)(pos:Ξ)(ln:Nat)(lost:Ξ):Nat -> W0 -> Option (Bool×Ξ)
 | 0,_=>none
 | n+1,.l1 H K m=>b7 n (Me c q pos ln lost n) c q pos ln lost H K m
 | n+1,.l2 H K O o1=>b6 n (Me c q pos ln lost n) c q pos ln lost H K O o1
def TS (n:Nat)(c:AD)(q:AA)(pos:Ξ)(ln:Nat)(lost:Ξ):Option (Bool×Ξ):=vQ n (Me c q pos ln lost n) c q pos ln lost
def zKL (n B:Nat)(N:Yd 2)(c:AD)(q:AA)(pos:Ξ)(ln:Nat)(lost:Ξ)(r:Bool×Ξ):W0 -> Prop
 | .l1 H K m=>∀ f:Nat,n<=f -> TW B N (FQ Tryz.f106 2 (.bool r.1) [oW c q pos 1 ln,oI r.2]) (Ah f (An (AR Tryz.f106) 0 [])) ⟨AF 77 [(0,.ref 0 0),(3,.i H),(4,.i K),(15,.ints c.cells),(16,.i (c.cells.length:Int)),(17,.i m)],[oW c q pos 1 ln,oI lost]⟩
 | .l2 H K O o1=>∀ f:Nat,n<=f -> TW B N (FQ Tryz.f106 2 (.bool r.1) [oW c q pos 1 ln,oI r.2]) (Ah f (An (AR Tryz.f106) 2 [])) ⟨AF 77 [(0,.ref 0 0),(3,.i H),(4,.i K),(46,.ints c.cells),(47,.i (c.cells.length:Int)),(48,.i O)],[oW c q pos 1 ln,oI o1]⟩
def zKM (B:Nat)(N:Yd 2)(c:AD)(q:AA)(pos:Ξ)(ln:Nat)(lost:Ξ):Al (Me c q pos ln lost) (zKL · B N c q pos ln lost):=ia (λ_=>rfl) λn C b r h=>by
 cases b
 case l1 x3 x4 BN=>
  intro f a;refine rd a λf a=>?_
  revert r;apply gO;exact bi 18 (gc (gi (gc (gi (gw 30 (bi 32 (gw 41 (lG AC [0,1] (C _ _ · f a))) (gw 41 (lG AC [0,1] (C _ _ · f a))))))))) (lN AC [0,1] (C _ _ · n Nat.le.refl))
 case l2 x3 x4 CP o1=>
  intro f a;refine rd a λf a=>?_
  revert r;apply gO;exact bi 49 (gc (gi (gc (gi (gw 61 (bi 63 (ce Gy [0,1] [oW c q pos 1 ln,oI o1] λ_=>gw 76 (lG AC [0,1] (C _ _ · f a))) (ce Gy [0,1] [oW c q pos 1 ln,oI o1] λ_=>gw 76 (lG AC [0,1] (C _ _ · f a))))))))) (lE AC [2] [0,1])
def zKK {r:Bool×Ξ}(h:TS n c q pos ln lost=some r):EQ 106 [.ref 0 0] [oW c q pos 1 ln,oI lost] (.bool r.1) [oW c q pos 1 ln,oI r.2] false:=by
 refine ot Tryz.func106 λB N=>?_
 revert r;apply gO;exact lN AC [0,1] ((zKM B N c q pos ln lost n) _ _ · n Nat.le.refl)
def zBT:Ax (BA Tryz.f107 5) [] (List.range 15) []:=by unfold Ax;kernel_rfl
def zBS:Ax (BA Tryz.f107 8) [] (List.range 15) []:=by unfold Ax;kernel_rfl
def zBU:Ax (BA Tryz.f107 16) [] (List.range 23) []:=by unfold Ax;kernel_rfl
def eU:Ax (BA Tryz.f107 18) [] (List.range 23) []:=by unfold Ax;kernel_rfl
def GS:Be:=λi=>match i with
 | 5=>.ord [] (List.range 15) []
 | 8=>.ord [] (List.range 15) []
 | 16=>.ord [] (List.range 23) []
 | 18=>.ord [] (List.range 23) []
 | _=>.no
inductive XE where
 | l1 (x3 x4 A9:Int)
 | l2 (x3 x4 CU:Int) (o1:Ξ)
def XD (n:Nat)(self:XE -> Option (Bool×Ξ))(c:AD)(q:AA)(pos:Ξ)(ln:Nat)(lost:Ξ)(H K z:Int):Option (Bool×Ξ):= bif (decide (z<(c.cells.length:Int))) then if (0<=z/\ z<(c.cells.length:Int))/\ (0<=(c.cells.getD z.toNat 0)/\ (c.cells.getD z.toNat 0)<(pos.length:Int)) then bif ((bits .andNot .i64 (pos.getD ((c.cells.getD z.toNat 0).toNat) 0) c.set)==0) then if AG (H+1)/\ AG (K+1)/\ AG (z+1) then self (.l1 (H+1) (K+1) (z+1)) else none else bif ((bits .and .i64 (pos.getD ((c.cells.getD z.toNat 0).toNat) 0) c.set) != 0) then if AG (K+1)/\ AG (z+1) then self (.l1 H (K+1) (z+1)) else none else if AG (z+1) then self (.l1 H K (z+1)) else none else none else bif (decide (H>c.hi)) then some (false,lost) else bif (decide (K<c.lo)) then some (false,lost) else self (.l2 H K 0 lost)
def cE (n:Nat)(self:XE -> Option (Bool×Ξ))(c:AD)(q:AA)(pos:Ξ)(ln:Nat)(lost:Ξ)(H K P:Int)(o1:Ξ):Option (Bool×Ξ):= bif (decide (P<(c.cells.length:Int))) then if 0<=P/\ P<(c.cells.length:Int) then bif (H==c.hi) then if 0<=(c.cells.getD P.toNat 0)/\ (c.cells.getD P.toNat 0)<(pos.length:Int) then bif ((bits .andNot .i64 (pos.getD ((c.cells.getD P.toNat 0).toNat) 0) c.set) != 0) then (D8 n (c.cells.getD P.toNat 0) c.set c q pos ln o1).bind λk=> bif (K==c.lo) then bif ((bits .and .i64 (pos.getD ((c.cells.getD P.toNat 0).toNat) 0) c.set) != 0) then (Hc n (c.cells.getD P.toNat 0) c q pos ln k).bind λG=> if AG (P+1) then self (.l2 H K (P+1) G) else none else if AG (P+1) then self (.l2 H K (P+1) k) else none else if AG (P+1) then self (.l2 H K (P+1) k) else none else bif (K==c.lo) then bif ((bits .and .i64 (pos.getD ((c.cells.getD P.toNat 0).toNat) 0) c.set) != 0) then (Hc n (c.cells.getD P.toNat 0) c q pos ln o1).bind λk=> if AG (P+1) then self (.l2 H K (P+1) k) else none else if AG (P+1) then self (.l2 H K (P+1) o1) else none else if AG (P+1) then self (.l2 H K (P+1) o1) else none else none else bif (K==c.lo) then if 0<=(c.cells.getD P.toNat 0)/\ (c.cells.getD P.toNat 0)<(pos.length:Int) then bif ((bits .and .i64 (pos.getD ((c.cells.getD P.toNat 0).toNat) 0) c.set) != 0) then (Hc n (c.cells.getD P.toNat 0) c q pos ln o1).bind λk=> if AG (P+1) then self (.l2 H K (P+1) k) else none else if AG (P+1) then self (.l2 H K (P+1) o1) else none else none else if AG (P+1) then self (.l2 H K (P+1) o1) else none else none else some (true,o1)
def zKa (n:Nat)(self:XE -> Option (Bool×Ξ))(c:AD)(q:AA)(pos:Ξ)(ln:Nat)(lost:Ξ):Option (Bool×Ξ):= self (.l1 0 0 0)
def KU (c:AD)(q:AA)(pos:Ξ)(ln:Nat)(lost:Ξ):Nat -> XE -> Option (Bool×Ξ)
 | 0,_=>none
 | n+1,.l1 H K z=>XD n (KU c q pos ln lost n) c q pos ln lost H K z
 | n+1,.l2 H K P o1=>cE n (KU c q pos ln lost n) c q pos ln lost H K P o1
def TU (n:Nat)(c:AD)(q:AA)(pos:Ξ)(ln:Nat)(lost:Ξ):Option (Bool×Ξ):=zKa n (KU c q pos ln lost n) c q pos ln lost
def zKb (n B:Nat)(N:Yd 2)(c:AD)(q:AA)(pos:Ξ)(ln:Nat)(lost:Ξ)(r:Bool×Ξ):XE -> Prop
 | .l1 H K z=>∀ f:Nat,n<=f -> TW B N (FQ Tryz.f107 2 (.bool r.1) [oW c q pos 1 ln,oI r.2]) (Ah f (An (AR Tryz.f107) 0 [])) ⟨AF 140 [(0,.ref 0 0),(3,.i H),(4,.i K),(13,.ints c.cells),(14,.i (c.cells.length:Int)),(15,.i z)],[oW c q pos 1 ln,oI lost]⟩
 | .l2 H K P o1=>∀ f:Nat,n<=f -> TW B N (FQ Tryz.f107 2 (.bool r.1) [oW c q pos 1 ln,oI r.2]) (Ah f (An (AR Tryz.f107) 3 [])) ⟨AF 140 [(0,.ref 0 0),(3,.i H),(4,.i K),(76,.ints c.cells),(77,.i (c.cells.length:Int)),(78,.i P)],[oW c q pos 1 ln,oI o1]⟩
def zKc (B:Nat)(N:Yd 2)(c:AD)(q:AA)(pos:Ξ)(ln:Nat)(lost:Ξ):Al (KU c q pos ln lost) (zKb · B N c q pos ln lost):=ia (λ_=>rfl) λn C b r h=>by
 cases b
 case l1 x3 x4 A9=>
  intro f a;refine rd a λf a=>?_
  revert r;apply gO;exact bi 16 (gc (gi (jg zBT (gn λo=>jg o (bi 33 (gc (gw 35 (gc (gw 37 (gw 55 (lG GS [0,1] (C _ _ · f a))))))) (jg zBS (jg o (bi 52 (gc (gw 54 (gw 55 (lG GS [0,1] (C _ _ · f a))))) (gw 55 (lG GS [0,1] (C _ _ · f a))))))))))) (bi 62 (lE GS [2] [0,1]) (bi 70 (lE GS [2] [0,1]) (lN GS [0,1] (C _ _ · n Nat.le.refl))))
 case l2 x3 x4 CU o1=>
  intro f a;refine rd a λf a=>?_
  revert r;apply gO;exact bi 79 (gi (jg zBU (bi 88 (gn λo=>jg o (bi 103 (ce Gy [0,1] [oW c q pos 1 ln,oI o1] λk=>jg eU (bi 119 (jg o (bi 134 (ce Nc [0,1] [oW c q pos 1 ln,oI k] λ_=>gw 139 (lG GS [0,1] (C _ _ · f a))) (gw 139 (lG GS [0,1] (C _ _ · f a))))) (gw 139 (lG GS [0,1] (C _ _ · f a))))) (jg eU (bi 119 (jg o (bi 134 (ce Nc [0,1] [oW c q pos 1 ln,oI o1] λ_=>gw 139 (lG GS [0,1] (C _ _ · f a))) (gw 139 (lG GS [0,1] (C _ _ · f a))))) (gw 139 (lG GS [0,1] (C _ _ · f a))))))) (jg eU (bi 119 (gi (bi 134 (ce Nc [0,1] [oW c q pos 1 ln,oI o1] λ_=>gw 139 (lG GS [0,1] (C _ _ · f a))) (gw 139 (lG GS [0,1] (C _ _ · f a))))) (gw 139 (lG GS [0,1] (C _ _ · f a)))))))) (lE GS [2] [0,1])
def zKZ {r:Bool×Ξ}(h:TU n c q pos ln lost=some r):EQ 107 [.ref 0 0] [oW c q pos 1 ln,oI lost] (.bool r.1) [oW c q pos 1 ln,oI r.2] false:=by
 refine ot Tryz.func107 λB N=>?_
 revert r;apply gO;exact lN GS [0,1] ((zKc B N c q pos ln lost n) _ _ · n Nat.le.refl)
end
end Go.Proofs.YtodinaconebmdaaGreatDoor
