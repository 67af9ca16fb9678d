/- Part 3 of 7 of what the proofs of these laws stand on. -/
import Derived.Test.YtkjbblkieglmlaaGreatDoorPuB
import Derived.LoopIn
set_option linter.all false
namespace Go.Proofs.YtkjbblkieglmlaaGreatDoor
abbrev zCJ:=@List.drop_eq_getElem_cons
abbrev zFY:=@of_decide_eq_true
abbrev zHm:=@List.drop_length
open Go.RowKit
section
variable {P:Program} {Γ:At}
theorem A1.foreign {N1 N2 G:Nat -> Prop}{h:DH}{ρ:List AH}{A B:World}(H:A1 P Γ N1 h ρ A)(hu:AO G A B)(hG: ∀ b,G b -> N1 b/\ Γ.ng<=b)(hN: ∀ b,N2 b -> N1 b∨A.heap.size<=b)(hb: ∀ b,N2 b -> b<B.heap.size/\ Γ.ng<=b):A1 P Γ N2 h ρ B:=by
 have O:BS (MS N1 h ρ) A ρ (MS N2 h ρ) B ρ:=⟨fun b AM hm _=>hu.block b AM fun hx=>hm (.inl (hG b hx).1),fun b hb=>hb.elim (fun h=>(hN b h).imp .inl id) (fun h=>.inl (.inr h)),fun _ _ h=>h⟩;refine ⟨H.len,fun k o hk=>?_,fun k o p b h1 h2 h3=>?_,H.dis,hb,Γ.st _ _ H.gi (hu.mono fun i _ hx=>(hG i hx).2)⟩
 ·obtain ⟨p,hp,hr⟩:=H.obj k o hk;exact ⟨p,hp,hr.out O hu (fun b hb=>.inl (hG b hb).1) fun b _ hf hs=>(H.cel k o p b hk hp hf).2.1 (hG b hs).1⟩
 ·obtain ⟨c1,c2,c,t,z,c3⟩:=H.cel k o p b h1 h2 h3;have AM:=(zAZ.1 c3).1;exact ⟨c1,fun hn=>(hN b hn).elim c2 (by omega),c,t,z,(hu.block b AM fun hx=>c2 (hG b hx).1).trans c3⟩
theorem BS.foreign {N1 N2 G:Nat -> Prop}{h:DH}{ρ:List AH}{A B:World}(hu:AO G A B)(hG: ∀ b,G b -> N1 b/\ Γ.ng<=b)(hN: ∀ b,N2 b -> N1 b∨A.heap.size<=b):BS (MS N1 h ρ) A ρ (MS N2 h ρ) B ρ:=
 ⟨fun b AM hm _=>hu.block b AM fun hx=>hm (.inl (hG b hx).1),fun b hb=>hb.elim (fun h=>(hN b h).imp .inl id) (fun h=>.inl (.inr h)),fun _ _ h=>h⟩
def Io (fr:List DV)(ps:List Tmp)(x:List DV):List DV:=(ps.zip x).foldl (fun t q=>t.set q.1 q.2) fr
theorem i9 {M:Nat -> Prop}{w:World}{ρ:List AH}: ∀ (ps:List Tmp) (x:List DV) (v:List Value) {fr:List DV} {t:Array Value},x.length=v.length -> (∀ j,j<x.length -> AK M w (x.getD j .any) ρ (v.getD j undef)) -> A9 M w ρ fr t ->
 A9 M w ρ (Io fr ps x) ((ps.zip v).foldl (fun t (q:Tmp×Value)=>t.setIfInBounds q.1 q.2) t)
 | [],_,_,_,_,_,_,h=>h
 | _::_,[],[],_,_,_,_,h=>h
 | p::ps,d::x,u::v,_,_,hl,hx,h=>i9 ps x v (Nat.succ.inj hl) (fun j hj=>hx (j+1) (Nat.succ_lt_succ hj)) (h.set p (hx 0 (Nat.succ_pos _)))
theorem YV.rep {ds:List DV}{R:Nat -> Prop}{W:World}{args:Array Value}(h:YV ds R W args){M:Nat -> Prop}(hM: ∀ b,M b -> b<W.heap.size/\ ¬ R b)(ρ:List AH): ∀ j,j<ds.length -> AK M W (ds.getD j .any) ρ (args.toList.getD j undef):=fun j hj=>by
 have e:args.toList.getD j undef=args.getD j undef:=by simp [zAq,u8]
 rw [e];exact (h.2 j hj).out _ ⟨fun _ _ _ _=>rfl,fun b hb=>.inl (hM b hb),fun k p hk=>by simp at hk⟩
def DI (K:Nat):DV -> Bool
 | .ref k _=>decide (k<K)
 | .msl k _ _ _=>decide (k<K)
 | .mse k _ _ _=>decide (k<K)
 | .mri k _=>decide (k<K)
 | .mp k _ _ _=>decide (k<K)
 | .it k=>decide (k<K)
 | .agg m f=>(List.range m).all fun j=>DI K (f j)
 | .tup m f=>(List.range m).all fun j=>DI K (f j)
 | .fn _ m f=>(List.range m).all fun j=>DI K (f j)
 | _=>true
theorem Qr {α:Type}{l:List α}{K k:Nat}{x:α}(hk:k<K)(h:l[k]? =some x):(l.take K)[k]? =some x:=by rw [zC4,zAM hk];exact h
theorem AK.take {M:Nat -> Prop}{w:World}{K:Nat}: ∀ (d:DV) {ρ:List AH} {v:Value},DI K d=true -> AK M w d ρ v -> AK M w d (ρ.take K) v:=by
 intro d
 induction d with
 | ref k j=>rintro ρ v hb ⟨p,h,e⟩;exact ⟨p,Qr (zFY hb) h,e⟩
 | msl k m off n=>rintro ρ v hb ⟨p,cap,h,e⟩;exact ⟨p,cap,Qr (zFY hb) h,e⟩
 | mp k m i j=>rintro ρ v hb ⟨p,h,e⟩;exact ⟨p,Qr (zFY hb) h,e⟩
 | it k=>rintro ρ v hb ⟨p,h,e⟩;exact ⟨p,Qr (zFY hb) h,e⟩
 | agg m f ih=>
  rintro ρ v hb ⟨cs,e,hs,h⟩;exact ⟨cs,e,hs,fun j hj=>let ⟨u,h1,h2⟩:=h j hj;⟨u,h1,ih j (zAg.1 hb j (zAn.2 hj)) h2⟩⟩
 | tup m f ih=>
  rintro ρ v hb ⟨cs,e,hs,h⟩;exact ⟨cs,e,hs,fun j hj=>let ⟨u,h1,h2⟩:=h j hj;⟨u,h1,ih j (zAg.1 hb j (zAn.2 hj)) h2⟩⟩
 | fn g m f ih=>
  rintro ρ v hb ⟨cs,e,hs,h⟩;exact ⟨cs,e,hs,fun j hj=>let ⟨u,h1,h2⟩:=h j hj;⟨u,h1,ih j (zAg.1 hb j (zAn.2 hj)) h2⟩⟩
 | yl l=>rintro ρ v _ h;exact h
 | cst u=>rintro ρ v _ h;exact h
 | mse k m off n=>rintro ρ v hb ⟨p,a,cap,h,e⟩;exact ⟨p,a,cap,Qr (zFY hb) h,e⟩
 | mri k i=>rintro ρ v hb ⟨p,vs,h,e⟩;exact ⟨p,vs,Qr (zFY hb) h,e⟩
 | any=>rintro ρ v _ h;trivial
 | nils=>rintro ρ v _ h;exact h
 | int k n=>rintro ρ v _ h;exact h
 | bool b=>rintro ρ v _ h;exact h
 | str s=>rintro ρ v _ h;exact h
 | ints l=>rintro ρ v _ h;exact h
 | bools l=>rintro ρ v _ h;exact h
 | sl m n f=>rintro ρ v _ h;exact h
 | fp m f=>rintro ρ v _ h;exact h
theorem A9.take {M:Nat -> Prop}{w:World}{K:Nat}{ρ:List AH}{fr:List DV}{t:Array Value}(h:A9 M w ρ fr t)(hb:fr.all (DI K)=true):A9 M w (ρ.take K) fr t:=by
 refine ⟨h.1,fun i hi=>AK.take _ ?_ (h.2 i hi)⟩;have:fr.getD i .any∈fr:=by simp [u8,hi]
 exact zAg.1 hb _ this
theorem BS.weak {M M0:Nat -> Prop}{w:World}{ρ:List AH}{M':Nat -> Prop}{w':World}{ρ':List AH}(h:BS M0 w ρ M' w' ρ')(hM: ∀ b,M0 b -> M b):BS M w ρ M' w' ρ':=
 ⟨fun b hl hn=>h.blk b hl fun hx=>hn (hM b hx),fun b hb=>(h.m b hb).imp (hM b) id,h.pl⟩
structure RI (K:Nat)(P:Program)(Γ:At)(N:Nat -> Prop)(h0:DH)(ρ0:List AH)(w0:World)(G R:Nat -> Prop)(W:World)(h:DH)(ρ:List AH):Prop where
 hr:A1 P Γ (fun b=>N b∨G b) h ρ W
 upd:AO (MO h0 ρ0) w0 W
 grow: ∀ b,MO h ρ b -> MO h0 ρ0 b∨w0.heap.size<=b
 g: ∀ b,G b -> Γ.ng<=b/\ (MO h0 ρ0 b∨w0.heap.size<=b)
 r: ∀ b,R b -> ¬ N b/\ ¬ MO h ρ b
 kept:CI K ρ0 ρ
theorem RI.off {K:Nat}{N:Nat -> Prop}{h0:DH}{ρ0:List AH}{w0:World}{G R:Nat -> Prop}{W:World}{h:DH}{ρ:List AH}(hR:RI K P Γ N h0 ρ0 w0 G R W h ρ): ∀ b,MO h ρ b -> b<W.heap.size/\ ¬ N b/\ ¬ (G b∨R b):=fun b hm=>by
 obtain ⟨k,o,p,q1,q2,q3⟩:=id hm;obtain ⟨_,c2,c,_,_,c3⟩:=hR.hr.cel k o p b q1 q2 q3;exact ⟨(zAZ.1 c3).1,fun h=>c2 (.inl h),fun h=>h.elim (fun h=>c2 (.inr h)) fun h=>(hR.r b h).2 hm⟩
theorem RI.stable {K:Nat}{N:Nat -> Prop}{h0:DH}{ρ0:List AH}{w0:World}(C6:Γ.ng<=w0.heap.size)(hN: ∀ b,N b -> b<w0.heap.size/\ ¬ MO h0 ρ0 b){h:DH}{ρ:List AH}:Ea fun G R W=>RI K P Γ N h0 ρ0 w0 G R W h ρ:=fun G R G' R' A B hR hu hg hr _ _ hb=>by
 have hs:w0.heap.size<=A.heap.size:=hR.upd.size;refine ⟨hR.hr.foreign hu (fun b hx=>⟨.inr hx,(hR.g b hx).1⟩) (fun b hx=>?_) (fun b hx=>?_),hR.upd.comp hu fun i hi hx=>(hR.g i hx).2.resolve_right (by omega),hR.grow,fun b hx=>?_,fun b hx=>?_,hR.kept⟩
 ·rcases hx with hx | hx
  ·exact .inl (.inl hx)
  ·exact (hg b hx).imp .inr id
 ·rcases hx with hx | hx
  ·exact ⟨zAj (hR.hr.nlt b (.inl hx)).1 hu.size,(hR.hr.nlt b (.inl hx)).2⟩
  ·exact ⟨hb b (.inl hx),(hg b hx).elim (fun h=>(hR.g b h).1) (fun h=>by omega)⟩
 ·rcases hg b hx with hx | hx
  ·exact hR.g b hx
  ·exact ⟨by omega,.inr (by omega)⟩
 ·rcases hr b hx with hx | hx | hx
  ·exact hR.r b hx
  ·exact ⟨fun hn=>(hR.g b hx).2.elim (hN b hn).2 (by have:=(hN b hn).1;omega),fun hm=>(hR.off b hm).2.2 (.inl hx)⟩
  ·exact ⟨fun hn=>by have:=(hN b hn).1;omega,fun hm=>by have:=(hR.off b hm).1;omega⟩
theorem RI.outl {K:Nat}{N:Nat -> Prop}{h0:DH}{ρ0:List AH}{w0:World}{G R0:Nat -> Prop}{W:World}{h:DH}{ρ:List AH}(R:RI K P Γ N h0 ρ0 w0 G R0 W h ρ):BS (MS N h0 ρ0) w0 (ρ0.take K) (MS (fun b=>N b∨G b) h ρ) W ρ:=
 ⟨fun b AM hm _=>R.upd.block b AM fun hx=>hm (.inr hx),fun b hb=>by
  rcases hb with (hb | hb) | hb
  ·exact .inl (.inl hb)
  ·exact (R.g b hb).2.imp .inr id
  ·exact (R.grow b hb).imp .inr id,fun k p hk=>by
  rw [zC4] at hk
  by_cases e:k<K
  ·rw [zAM e] at hk;exact R.kept k p e hk
  ·rw [zAh e] at hk;cases hk⟩
def LZ:Exit -> Option Code
 | .ret=>some .ret
 | .exit id=>some (.exit id)
 | _=>none
def VA (L:Nat)(J:DH -> Prop)(Jx:Exit -> DH -> Prop)(e:Exit)(S:St):Prop:=∃ S3,A0 L S S3/\ ((e= .normal/\ J S3.h)∨((LZ e).isSome=true/\ Jx e S3.h))
def Y1 (P:Program)(Γ:At)(fr:List DV)(ps:List Tmp)(assign body:Code)(L:Nat)(J:Nat -> DH -> Prop)(Jx:Exit -> DH -> Prop)(encs:List (List DV)):Prop:= ∀ (l B:Nat) (Y:BQ P Γ L) (i:Nat) (x:List DV) (h:DH),encs[i]? =some x -> J i h -> Tr P Γ (Fence.wide.inRound l) (some B) L Y assign ⟨Io fr ps x,h⟩ (Rl (fun S' Y'=>Y'=Y/\ ∀ Y2:BQ P Γ L,Tr P Γ (Fence.wide.inRound l) (some B) L Y2 body S' (stay Y2 (VA L (J (i+1)) Jx))) (fun _ _ _=>False))
abbrev RJ (P:Program)(Γ:At)(N:Nat -> Prop)(h0:DH)(ρ:List AH)(w:World)(KK:Nat)(J:Nat -> DH -> Prop)(i:Nat)(G R:Nat -> Prop)(W:World):Prop:=∃ h ρ',J i h/\ RI KK P Γ N h0 ρ w G R W h ρ'
abbrev RX (P:Program)(Γ:At)(N:Nat -> Prop)(h0:DH)(ρ:List AH)(w:World)(KK:Nat)(Jx:Exit -> DH -> Prop)(c:Code)(G R:Nat -> Prop)(W:World):Prop:=∃ e,LZ e=some c/\ ∃ h ρ',Jx e h/\ RI KK P Γ N h0 ρ w G R W h ρ'
theorem aI {N:Nat -> Prop}{S:St}{ρ:List AH}{a:Act}{w:World}(Q:AR P Γ N S ρ a w){h0:DH}(hN: ∀ b,N b -> b<w.heap.size/\ ¬ MO h0 ρ b)(hh: ∀ b,MO h0 ρ b -> MO S.h ρ b){ps:Array Tmp}{assign body:Code}{encs:List (List DV)}{J:Nat -> DH -> Prop}{Jx:Exit -> DH -> Prop}{KK:Nat}(Cu:S.fr.all (DI KK)=true) 
 (DK:Y1 P Γ S.fr ps.toList assign body KK J Jx encs) (l:Nat):Y0 P YV encs ps assign body a l (RJ P Γ N h0 ρ w KK J) (RX P Γ N h0 ρ w KK Jx):=by
 rintro G R i x args W hx hE ⟨h,ρ1,hJ,hR⟩ hS hl Fi;have C6:Γ.ng<=w.heap.size:=Γ.lo _ Q.hr.gi
 have hM: ∀ {h:DH} {ρ1:List AH} {W:World},RI KK P Γ N h0 ρ w G R W h ρ1 -> ∀ b,MS (fun b=>N b∨G b) h ρ1 b -> b<W.heap.size/\ ¬ R b:=fun hR b hb=>by
  rcases hb with (hb | hb) | hb
  ·exact ⟨(hR.hr.nlt b (.inl hb)).1,fun h=>(hR.r b h).1 hb⟩
  ·exact ⟨(hR.hr.nlt b (.inr hb)).1,hS.dis b hb⟩
  ·exact ⟨(hR.off b hb).1,fun h=>(hR.off b hb).2.2 (.inr h)⟩
 have Oj:BS (MS N S.h ρ) w (ρ.take KK) (MS (fun b=>N b∨G b) h ρ1) W ρ1:=hR.outl.weak (fun b hb=>hb.imp id (hh b))
 have X4:A9 (MS (fun b=>N b∨G b) h ρ1) W ρ1 (Io S.fr ps.toList x) ((ps.zip args).foldl (fun t (p,v)=>t.setIfInBounds p v) a.tmps):=by
  have:=i9 ps.toList x args.toList (by simpa using hE.1) (hE.rep (hM hR) ρ1) ((Q.fr.take Cu).out Oj);rw [←Array.foldl_toList,Array.toList_zip];exact this
 have step: ∀ {G R:Nat -> Prop} {W W':World} {h h':DH} {ρ1 ρ2:List AH},RI KK P Γ N h0 ρ w G R W h ρ1 -> (∀ b,R b -> b<W.heap.size) -> A1 P Γ (fun b=>N b∨G b) h' ρ2 W' -> A5 h ρ1 W h' ρ2 W' -> CI KK ρ1 ρ2 -> RI KK P Γ N h0 ρ w G R W' h' ρ2:=by
  intro G R W W' h h' ρ1 ρ2 hR AM Cr st hk;have hs:=hR.upd.size;exact ⟨Cr,hR.upd.comp st.upd fun b hb hm=>(hR.grow b hm).resolve_right (by omega),fun b hb=>(st.grow b hb).elim (hR.grow b) fun h=>.inr (by omega),hR.g,fun b hb=>⟨(hR.r b hb).1,fun hm=>(st.grow b hm).elim (hR.r b hb).2 (by have:=AM b hb;omega)⟩,hR.kept.trans hk⟩
 have nr: ∀ b,R b -> b<W.heap.size:=fun b h=>hS.lt b (.inr h)
 have bd:Bd (Fence.wide.inRound l) (some W.heap.size) W:=⟨fun b e=>by cases e;exact zA5 _,fun l' e=>by cases e;exact hl⟩;refine zGR (DK l W.heap.size (Pm P Γ KK (fun b=>N b∨G b) h ρ1 W) i x h hx hJ _ ρ1 _ W ⟨hR.hr,X4⟩ ⟨rfl,A5.refl _ _ _,CI.refl _ _⟩ trivial bd) ?_;rintro e a1 W1 ⟨S',ρ2,N2,Y2,h1,h2,h3,h4,_⟩;cases e with
 | normal=>
  obtain ⟨rfl,h1⟩:=h1;obtain ⟨rfl,h3,h5⟩:=h3;refine ⟨fun G' R' W'=>RI KK P Γ N h0 ρ w G' R' W' S'.h ρ2/\ A9 (MS (fun b=>N b∨G' b) S'.h ρ2) W' ρ2 S'.fr a1.tmps/\ En W.heap.size a1.defers W'/\ W1.heap.size<=W'.heap.size/\ (∀ b,G' b -> b<W.heap.size∨W1.heap.size<=b)/\ (∀ d∈a1.defers,∀ D,d.target= .collected D -> D<W1.heap.size)/\ (∀ b,R' b -> b<W'.heap.size),?_,h3.upd.mono fun b _ hm=>(hR.off b hm).2.2,⟨step hR nr h2.hr h3 h5,h2.fr,h4,zA5 _,fun b hg=>.inl (hR.hr.nlt b (.inr hg)).1,fun d hd D ht=>En.lt h4 hd ht,fun b hb=>zAj (nr b hb) h3.upd.size⟩,?_⟩
  ·rintro G1 R1 G2 R2 A C ⟨q1,q2,q3,q4,q5,q6,q7⟩ hu hg hr EV hd hb;have hR2:=RI.stable C6 hN _ _ _ _ _ _ q1 hu hg hr EV hd hb;refine ⟨hR2,q2.out (BS.foreign (Γ:=Γ) hu (fun b hx=>⟨.inr hx,(q1.g b hx).1⟩) fun b hx=>?_),?_,zA0 q4 hu.size,fun b hx=>(hg b hx).elim (q5 b) (fun h=>.inr (by omega)),q6,fun b h=>hb b (.inr h)⟩
   ·rcases hx with hx | hx
    ·exact .inl (.inl hx)
    ·exact (hg b hx).imp .inr id
   ·have go: ∀ {ds:List Deferred},En W.heap.size ds A -> (∀ d∈ds,∀ D,d.target= .collected D -> D<W1.heap.size) -> En W.heap.size ds C:=by
     intro ds
     induction ds with
     | nil=>intros;trivial
     | cons d ds ih=>
      rintro ⟨D,r1,r2,r3,r4,r5⟩ AM;have hD:D<W1.heap.size:=AM d (by simp) D (by rw [r1]);refine ⟨D,r1,r2,(hu.block D (zAZ.1 r3).1 fun hx=>?_).trans r3,r4,ih r5 fun d' KE=>AM d' (by simp [KE])⟩;rcases q5 D hx with h | h <;> omega
    exact go q3 q6
  ·rintro W2 ⟨q1,q2,q3,q4,q5,q6,q7⟩ Cs;have bd2:Bd (Fence.wide.inRound l) (some W.heap.size) W2:=⟨fun b e=>by cases e;exact zA0 h3.upd.size q4,fun l' e=>by cases e;exact Cs⟩;refine zGR (h1 (Pm P Γ KK (fun b=>N b∨G b) S'.h ρ2 W2) _ ρ2 a1 W2 ⟨q1.hr,q2⟩ ⟨rfl,A5.refl _ _ _,CI.refl _ _⟩ q3 bd2) ?_;rintro e a3 W3 ⟨S3,ρ3,N3,Y3,r1,r2,r3,r4,_⟩
   have out: ∀ e,(Pm P Γ KK (fun b=>N b∨G b) S'.h ρ2 W2).I N3 S3.h ρ3 W3 -> VA KK (J (i+1)) Jx e S3 -> AO (fun k=>¬ (G k∨R k)) W2 W3/\ ((e= .normal/\ RJ P Γ N h0 ρ w KK J (i+1) G R W3)∨((LZ e).isSome=true/\ ∃ h ρ',Jx e h/\ RI KK P Γ N h0 ρ w G R W3 h ρ')):=by
    rintro e r0 ⟨S4,CH,hJ4⟩;obtain ⟨rfl,r3,r5⟩:=r0;obtain ⟨ρ4,R4,s4,k4⟩:=CH P Γ _ ρ3 a3 W3 r2;have ml:=step q1 q7 R4.hr (r3.trans s4) (r5.trans k4);exact ⟨r3.upd.mono fun b _ hm=>(q1.off b hm).2.2,hJ4.imp (fun ⟨x,y⟩=>⟨x,S4.h,ρ4,y,ml⟩) (fun ⟨x,y⟩=>⟨x,S4.h,ρ4,y,ml⟩)⟩
   have FC: ∀ {e c},LZ e=some c -> (Pm P Γ KK (fun b=>N b∨G b) S'.h ρ2 W2).I N3 S3.h ρ3 W3 -> VA KK (J (i+1)) Jx e S3 -> AO (fun k=>¬ (G k∨R k)) W2 W3/\ RX P Γ N h0 ρ w KK Jx c G R W3:=fun he r3 r1=>by
    obtain ⟨o1,o2⟩:=out _ r3 r1;rcases o2 with ⟨rfl,_⟩ | ⟨_,o2⟩
    ·cases he
    ·exact ⟨o1,_,he,o2⟩
   cases e with
   | normal=>
    obtain ⟨rfl,r1⟩:=r1;obtain ⟨o1,o2⟩:=out _ r3 r1;rcases o2 with ⟨_,o2⟩ | ⟨o2,_⟩
    ·exact ⟨o1,o2⟩
    ·cases o2
   | ret=>obtain ⟨rfl,r1⟩:=r1;exact FC rfl r3 r1
   | exit id=>obtain ⟨rfl,r1⟩:=r1;exact FC rfl r3 r1
   | goto t=>
    obtain ⟨rfl,r1⟩:=r1;obtain ⟨o1,o2⟩:=out _ r3 r1;rcases o2 with ⟨o2,_⟩ | ⟨o2,_⟩ <;> cases o2
   | panic c=>
    obtain ⟨rfl,r1⟩:=r1;obtain ⟨o1,o2⟩:=out _ r3 r1;rcases o2 with ⟨o2,_⟩ | ⟨o2,_⟩ <;> cases o2
   | outgrown=>exact r1.elim
 | ret=>exact h1.elim
 | exit id=>exact h1.elim
 | goto t=>exact h1.elim
 | panic c=>exact h1.elim
 | outgrown=>exact h1.elim
section
variable {N:Nat -> Prop} {S:St} {ρ:List AH} {a:Act} {w:World} {G R:Nat -> Prop} {W:World} {h h0:DH} {ρ':List AH} {KK:Nat}
theorem RI.hrel (hR:RI KK P Γ N h0 ρ w G R W h ρ'):A1 P Γ N h ρ' W:=
 hR.hr.foreign (G:=fun _=>False) (AO.refl _ _) (fun _ h=>h.elim) (fun b hb=>.inl (.inl hb)) fun b hb=>hR.hr.nlt b (.inl hb)
theorem RI.frame (hR:RI KK P Γ N h0 ρ w G R W h ρ')(Q:AR P Γ N S ρ a w)(hh: ∀ b,MO h0 ρ b -> MO S.h ρ b)(Cu:S.fr.all (DI KK)=true):A9 (MS N h ρ') W ρ' S.fr a.tmps:=
 ((Q.fr.take Cu).out (hR.outl.weak fun b hb=>hb.imp id (hh b))).out (DJ (fun b hb=>hb.imp .inl id) ρ')
end
theorem Tr.range {F:Fence}(JA:F=Fence.wide∨∃ l,F=Fence.wide.inRound l){B L:Nat}{Y:BQ P Γ L}{S:St}{g:Operand}{ps:Array Tmp}{assign body:Code}{Q:QY P Γ L}{k:Nat}{encs:List (List DV)}(J:Nat -> DH -> Prop)(Jx:Exit -> DH -> Prop) 
 (hg:AW S.fr g= .it k) (hk:S.h[k]? =some (some (.iter encs))) (EJ: ∀ x∈encs,x.length=ps.size) {KK:Nat} (hL:L<=KK) (Cu:S.fr.all (DI KK)=true) (h0:J 0 (S.h.set k none))
 (DK:Y1 P Γ S.fr ps.toList assign body KK J Jx encs) (Dt: ∀ h,J encs.length h -> Q .normal ⟨S.fr,h⟩ Y) (QW: ∀ e h,(LZ e).isSome=true -> Jx e h -> Q e ⟨S.fr,h⟩ Y):Tr P Γ F (some B) L Y (.rangeFunc g ps assign body) S Q:=fun N ρ a w R y m b=>by
 have hx:=Bj R g;rw [hg] at hx;obtain ⟨p,hp,hv⟩:=hx;obtain ⟨p',BC,gf,lb,Rd,⟨e1,e2⟩,q2,q3,q4⟩:=R.hr.obj k _ hk;have ep:p'=p:=zAe (BC.symm.trans hp);subst ep;have nR:a.eval g= .func (.func gf) #[] lb:=hv.trans e1;have C6:Γ.ng<=w.heap.size:=Γ.lo _ R.hr.gi;have dG: ∀ b,p'.foot b -> MO S.h ρ b:=fun b hb=>⟨k,_,p',hk,hp,hb⟩
 have hN: ∀ b,N b -> b<w.heap.size/\ ¬ MO S.h ρ b:=fun b hb=>⟨(R.hr.nlt b hb).1,fun ⟨k,o,p,q1,q2,q3⟩=>(R.hr.cel k o p b q1 q2 q3).2.1 hb⟩
 have XV:Ek p'.foot Rd w:=⟨fun b hb hr=>(q3 b hr).1 (.inr (dG b hb)),fun b hb=>hb.elim (q4 b) fun h=>(q3 b h).2⟩
 have Xt:RJ P Γ N S.h ρ w KK J 0 p'.foot Rd w:=by
  refine ⟨S.h.set k none,ρ,h0,?_,AO.refl _ _,fun b hb=>.inl (MO.kill hb),fun b hb=>⟨(R.hr.cel k _ p' b hk hp hb).1,.inl (dG b hb)⟩,fun b hb=>⟨fun hn=>(q3 b hb).1 (.inl hn),fun hm=>(q3 b hb).1 (.inr (MO.kill hm))⟩,CI.refl _ _⟩;have H1:A1 P Γ N (S.h.set k none) ρ w:=R.hr.kill k
  have J3: ∀ b,MS (fun b=>N b∨p'.foot b) (S.h.set k none) ρ b -> MS N S.h ρ b:=fun b hb=>by
   rcases hb with (hb | hb) | hb
   ·exact .inl hb
   ·exact .inr (dG b hb)
   ·exact .inr (MO.kill hb)
  refine ⟨H1.len,fun i o hi=>?_,fun i o p2 b g1 g2 g3=>?_,H1.dis,fun b hb=>hb.elim (R.hr.nlt b) fun h=>⟨q4 b h,(R.hr.cel k _ p' b hk hp h).1⟩,R.hr.gi⟩
  ·obtain ⟨Ad,BT⟩:=GX hi;obtain ⟨p2,Oi,hr⟩:=R.hr.obj i o BT;exact ⟨p2,Oi,hr.out (DJ J3 ρ) (S:=fun _=>False) (AO.refl _ _) (fun _ h=>h.elim) fun _ _ _ h=>h⟩
  ·obtain ⟨Ad,BT⟩:=GX g1;obtain ⟨c1,c2,c3⟩:=R.hr.cel i o p2 b BT g2 g3;exact ⟨c1,fun hb=>hb.elim c2 fun hb=>R.hr.dis i k o _ p2 p' b Ad BT hk g2 hp g3 hb,c3⟩
 have Ds: ∀ i,Ea (RJ P Γ N S.h ρ w KK J i):=fun i G R' G' R2 A C ⟨h,ρ',h1,h2⟩ q1 q2 q3 q4 q5 q6=>⟨h,ρ',h1,RI.stable C6 hN _ _ _ _ _ _ h2 q1 q2 q3 q4 q5 q6⟩
 have XU: ∀ c,Ea (RX P Γ N S.h ρ w KK Jx c):=fun c G R' G' R2 A C ⟨e,he,h,ρ',h1,h2⟩ q1 q2 q3 q4 q5 q6=>⟨e,he,h,ρ',h1,RI.stable C6 hN _ _ _ _ _ _ h2 q1 q2 q3 q4 q5 q6⟩
 have GH: ∀ {G R':Nat -> Prop} {W:World} {h:DH} {ρ':List AH},RI KK P Γ N S.h ρ w G R' W h ρ' -> A5 S.h ρ w h ρ' W:=fun hR=>⟨hR.upd,hR.grow⟩
 have kp: ∀ {G R':Nat -> Prop} {W:World} {h:DH} {ρ':List AH},RI KK P Γ N S.h ρ w G R' W h ρ' -> CI L ρ ρ':=fun hR k p hk hp=>hR.kept k p (zAj hk hL) hp
 have my: ∀ x∈encs,∀ R W args,YV x R W args -> args.size=ps.size:=fun x hx R W args h=>h.1.symm.trans (EJ x hx)
 have Px: ∀ {G R':Nat -> Prop} {W:World} {h:DH} {ρ':List AH} {a':Act},RI KK P Γ N S.h ρ w G R' W h ρ' -> a'.tmps=a.tmps -> AR P Γ N ⟨S.fr,h⟩ ρ' a' W:=fun hR e=>⟨hR.hrel,by rw [e];exact hR.frame (S:=S) R (fun _ h=>h) Cu⟩
 rcases JA with rfl | ⟨l0,rfl⟩
 ·have mk: ∀ {D:Nat} {G R':Nat -> Prop} {W:World} {h:DH} {ρ':List AH},RI KK P Γ N S.h ρ w G R' W h ρ' -> W.heap[D]? =some (.deferred (some [])) -> w.heap.size<=D -> En B ({ target:=.collected D,args:=#[] }::a.defers) W:=fun {D G R' W h ρ'} hR hD I3=>
   ⟨D,rfl,zA0 (b.le _ rfl) I3,hD,fun d' KE ht=>by have:=En.lt m KE ht;omega,TS R.hr (GH hR) m⟩
  refine fe nR e2 q2 XV my _ _ Ds XU (fun h=>h.elim) Xt (aI R hN (fun _ h=>h) Cu DK) ?_ ?_
  ·rintro D e G R' own W W' ⟨v,rfl⟩ ⟨h,ρ',h1,hR⟩ _ _ _ hD I3;exact ⟨⟨S.fr,h⟩,ρ',N,Y,Dt h h1,Px hR rfl,Y.st y R.hr hR.hrel (GH hR) (kp hR),mk hR hD I3,b.step R.hr (GH hR)⟩
  ·rintro D c G R' W ⟨e,he,h,ρ',h1,hR⟩ hD I3;have hq:=QW e h (by rw [he];rfl) h1;cases e with
   | ret=>cases he;exact wpIn_ret ⟨⟨S.fr,h⟩,ρ',N,Y,hq,Px hR rfl,Y.st y R.hr hR.hrel (GH hR) (kp hR),mk hR hD I3,b.step R.hr (GH hR)⟩
   | exit id=>cases he;exact wpIn_exit ⟨⟨S.fr,h⟩,ρ',N,Y,hq,Px hR rfl,Y.st y R.hr hR.hrel (GH hR) (kp hR),mk hR hD I3,b.step R.hr (GH hR)⟩
   | normal=>cases he
   | goto t=>cases he
   | panic c=>cases he
   | outgrown=>cases he
 ·refine qt nR e2 (b.rd l0 rfl) q2 XV my _ _ Ds XU (fun h=>h.elim) Xt (aI R hN (fun _ h=>h) Cu DK) ?_ ?_
  ·rintro e G R' own W W' ⟨v,rfl⟩ ⟨h,ρ',h1,hR⟩ _ _ _;exact ⟨⟨S.fr,h⟩,ρ',N,Y,Dt h h1,Px hR rfl,Y.st y R.hr hR.hrel (GH hR) (kp hR),TS R.hr (GH hR) m,b.step R.hr (GH hR)⟩
  ·rintro c G R' W ⟨e,he,h,ρ',h1,hR⟩;have hq:=QW e h (by rw [he];rfl) h1;cases e with
   | ret=>cases he;exact wpIn_ret ⟨⟨S.fr,h⟩,ρ',N,Y,hq,Px hR rfl,Y.st y R.hr hR.hrel (GH hR) (kp hR),TS R.hr (GH hR) m,b.step R.hr (GH hR)⟩
   | exit id=>cases he;exact wpIn_exit ⟨⟨S.fr,h⟩,ρ',N,Y,hq,Px hR rfl,Y.st y R.hr hR.hrel (GH hR) (kp hR),TS R.hr (GH hR) m,b.step R.hr (GH hR)⟩
   | normal=>cases he
   | goto t=>cases he
   | panic c=>cases he
   | outgrown=>cases he
def DP {α σ:Type}(f:α -> σ -> Option (σ×Nat)):List α -> σ -> Option (σ×Nat)
 | [],s=>some (s,0)
 | x::l,s=>(f x s).bind fun r=>bif r.2==0 then DP f l r.1 else some r
def Bq {α σ:Type}(f:α -> σ -> Option σ):List α -> σ -> Option σ
 | [],s=>some s
 | x::l,s=>(f x s).bind (Bq f l)
theorem oQ {α σ:Type}(f:α -> σ -> Option σ): ∀ (l:List α) (s:σ),DP (fun x s=>(f x s).map fun s'=>(s',0)) l s=(Bq f l s).map fun s'=>(s',0)
 | [],s=>rfl
 | x::l,s=>by
  simp only [DP,Bq];cases f x s with
  | none=>rfl
  | some s'=>exact oQ f l s'
def Cp (L:Nat)(ex:List Exit)(c:Nat)(h':DH)(e:Exit)(S:St):Prop:=(Exit.normal::ex)[c]? =some e/\ ∃ S3,A0 L S S3/\ S3.h=h'
def GY (P:Program)(Γ:At)(F:Fence)(B:Option Nat)(L:Nat)(N:BQ P Γ L)(Q:Exit -> St -> Prop)(assign body:Code)(S:St):Prop:= Tr P Γ F B L N assign S (Rl (fun S' Y'=>Y'=N/\ ∀ N2:BQ P Γ L,Bg P Γ F B L N2 Q [.code body] S') (fun _ _ _=>False))
theorem GY.go {F:Fence}{B:Option Nat}{L:Nat}{N:BQ P Γ L}{Q:Exit -> St -> Prop}(hF:C9 F P)(hm:P.follows .mixedOrders=true){assign body:Code}{S:St}(A6:Bh)(n:Nat)(o:BE)(live σ:List Nat)(fr:List DV)(h':DH)(vs:List Prop) 
 (h:(CG P Γ A6 n [.code assign] S o).map (TE live σ L)=some (.at [],fr,h',vs,[],[],true)) (hv:BZ vs) (hk: ∀ N2:BQ P Γ L,Bg P Γ F B L N2 Q [.code body] ⟨fr,h'⟩):GY P Γ F B L N Q assign body S:=by
 obtain ⟨S',_,h1,hs⟩:=xR h;have T:=Ff (F:=F) (B:=B) (L:=L) (Y:=N) (Q:=fun e S2 Y2=>e= .normal/\ Y2=N/\ ∀ N2:BQ P Γ L,Bg P Γ F B L N2 Q [.code body] S2) hF hm n [.code assign] S o _ _ _ _ h1 hv ⟨rfl,rfl,fun N2=>Bg.le hs rfl (hk N2)⟩;refine Tr.mono (show Tr P Γ F B L N assign S _ from T) fun e S2 Y2 hq=>?_
 cases e with
 | normal=>exact hq.2
 | ret=>exact absurd hq.1 (by simp)
 | exit id=>exact absurd hq.1 (by simp)
 | goto t=>exact absurd hq.1 (by simp)
 | panic c=>exact absurd hq.1 (by simp)
 | outgrown=>exact absurd hq.1 (by simp)
theorem Bg.rangeFold {F:Fence}(JA:F=Fence.wide∨∃ l,F=Fence.wide.inRound l){B L:Nat}{Y:BQ P Γ L}{Q:QY P Γ L}{S:St}{g:Operand}{ps:Array Tmp}{assign body:Code}{k:List KI}{kk:Nat}{α σ:Type}(ex:List Exit)(KD:(ex.all fun e=>(LZ e).isSome)=true)(enc:α -> List DV)(l:List α)(H:σ -> DH)(f:α -> σ -> Option (σ×Nat)){s0:σ}{rE:σ×Nat}(hf:DP f l s0=some rE) 
 (hg:AW S.fr g= .it kk) (hk:S.h[kk]? =some (some (.iter (l.map enc)))) (EJ: ∀ x,(enc x).length=ps.size) {K:Nat} (hL:L<=K) (Cu:S.fr.all (DI K)=true) (h0:S.h.set kk none=H s0)
 (DK: ∀ (l B:Nat) (N:BQ P Γ K) (x:α) (s:σ) (r:σ×Nat),f x s=some r -> GY P Γ (Fence.wide.inRound l) (some B) K N (Cp K ex r.2 (H r.1)) assign body ⟨Io S.fr ps.toList (enc x),H s⟩)
 (Dt: ∀ e,(Exit.normal::ex)[rE.2]? =some e -> Dl P Γ F (some B) L Q k e ⟨S.fr,H rE.1⟩ Y):Ap P Γ F (some B) L Y Q (.code (.rangeFunc g ps assign body)::k) S:=by
 refine Tr.range (Q:=Dl P Γ F (some B) L Q k) (KK:=K) JA (fun i h=>∃ s,DP f (l.drop i) s=some rE/\ h=H s) (fun e h=>(Exit.normal::ex)[rE.2]? =some e/\ h=H rE.1) hg hk (fun x hx=>?_) hL Cu ⟨s0,hf,h0⟩ ?_ ?_ ?_
 ·obtain ⟨y,_,rfl⟩:=zDA.1 hx;exact EJ y
 ·rintro l' B' N' i x h hx ⟨s,hs,rfl⟩;rw [zCG] at hx;cases hy:l[i]? with
  | none=>rw [hy] at hx;cases hx
  | some y=>
   rw [hy] at hx;cases hx;have AM:=(zAf.1 hy).1
   have hd:l.drop i=y::l.drop (i+1):=by
    rw [zCJ AM]
    congr 1
    exact (zAf.1 hy).2
   rw [hd] at hs;obtain ⟨r,h1,h2⟩:=Fm hs;have T:=DK l' B' N' y s r h1
   have fin: ∀ {e:Exit} {S2:St},Cp K ex r.2 (H r.1) e S2 -> VA K (fun h=>∃ s,DP f (l.drop (i+1)) s=some rE/\ h=H s) (fun e h=>(Exit.normal::ex)[rE.2]? =some e/\ h=H rE.1) e S2:=by
    rintro e S2 ⟨r1,S3,r2,r3⟩;refine ⟨S3,r2,?_⟩;cases hc:r.2 with
    | zero=>
     rw [hc] at r1 h2;cases r1;exact .inl ⟨rfl,r.1,h2,r3⟩
    | succ c=>
     rw [hc] at r1 h2;cases h2;have:e∈ex:=zCi (i:=c) r1;exact .inr ⟨zAg.1 KD e this,by rw [hc];exact r1,r3⟩
   refine Tr.mono T fun e S2 Y2 hq=>?_
   cases e with
   | normal=>exact ⟨hq.1,fun N2=>Tr.mono (show Tr P Γ (Fence.wide.inRound l') (some B') K N2 body S2 (stay N2 (Cp K ex r.2 (H r.1))) from hq.2 N2) fun e S3 Y3 h3=>⟨h3.1,fin h3.2⟩⟩
   | ret=>exact hq.elim
   | exit id=>exact hq.elim
   | goto t=>exact hq.elim
   | panic c=>exact hq.elim
   | outgrown=>exact hq.elim
 ·rintro h ⟨s,hs,rfl⟩;rw [zBC,zHm] at hs;cases hs;exact Dt .normal rfl
 ·rintro e h he ⟨h1,rfl⟩;exact Dt e h1
theorem Q0 {F:Fence}{B:Option Nat}{L:Nat}{Y:BQ P Γ L}{Q:QY P Γ L}{S:St}{id:Nat}(h:Q (.exit id) S Y): ∀ (k:List KI),Iv id k=none -> Dl P Γ F B L Q k (.exit id) S Y
 | [],_=>h
 | .blk i::k,hp=>by
  unfold Iv at hp;split at hp
  ·cases hp
  ·rename_i e
   show (if id=i then _ else _)
   rw [zAh e];exact Q0 h k hp
 | .code c::k,hp=>Q0 (k:=k) h hp
 | .lend J::k,hp=>Q0 (k:=k) h hp
 | .scp::k,hp=>Q0 (k:=k) h hp
 | .loopN m b::k,hp=>Q0 (k:=k) h hp
end
def Kt (t:Nat):Code -> Option (Array Tmp×Code×Code)
 | .rangeFunc (.tmp t') ps a b=>if t'=t then some (ps,a,b) else Kt t b
 | .seq a b=>match Kt t a with
  | some r=>some r
  | none=>Kt t b
 | .cond _ a b=>match Kt t a with
  | some r=>some r
  | none=>Kt t b
 | .block _ c=>Kt t c
 | .loop c=>Kt t c
 | .scope c=>Kt t c
 | _=>none
def j7 (f:Func)(t:Nat):Array Tmp×Code×Code:=match f.body with
 | some c=>(Kt t c).getD (#[],.skip,.skip)
 | none=>(#[],.skip,.skip)
def WB (f:Func)(t:Nat):Code:=(j7 f t).2.2
def v6 (f:Func)(t:Nat):Code:=(j7 f t).2.1
def AX (f:Func):Code:=f.body.getD .skip
def kO (id:Nat)(k:List KI):List KI:=(Iv id k).getD []
theorem Dl.exitTo {P:Program}{Γ:At}{F:Fence}{B:Option Nat}{L:Nat}{Y:BQ P Γ L}{Q:QY P Γ L}{id:Nat}{k:List KI}{S:St}(h:(Iv id k).isSome=true)(hk:Ap P Γ F B L Y Q (kO id k) S):Dl P Γ F B L Q k (.exit id) S Y:=by
 unfold kO at hk;cases hp:Iv id k with
 | none=>rw [hp] at h;cases h
 | some k'=>rw [hp] at hk;exact N4 hp hk
def Nx:List KI -> Option (Operand×Array Tmp×Code×Code×List KI)
 | .code (.rangeFunc g ps a b)::k=>some (g,ps,a,b,k)
 | _=>none
theorem Bg.rangeAt {P:Program}{Γ:At}{F:Fence}(JA:F=Fence.wide∨∃ l,F=Fence.wide.inRound l){B L:Nat}{Y:BQ P Γ L}{Q:QY P Γ L}{fr:List DV}{h:DH}{K:List KI}(ex:List Exit)(KD:(ex.all fun e=>(LZ e).isSome)=true)(g:Operand)(ps:Array Tmp)(a b:Code)(k2:List KI){kk:Nat}{α σ:Type}(enc:α -> List DV)(l:List α)(H:σ -> DH)(FR:α -> List DV)(f:α -> σ -> Option (σ×Nat)){s0:σ}{rE:σ×Nat}(hf:DP f l s0=some rE) 
 (hK:Nx K=some (g,ps,a,b,k2)) (hg:AW fr g= .it kk) (hk:h[kk]? =some (some (.iter (l.map enc)))) (EJ: ∀ x,(enc x).length=ps.size) (L':Nat) (hL:Nat.ble L L'=true) (Gq:fr.all (DI L')=true) (h0:h.set kk none=H s0) (Cu:(fun x=>Io fr ps.toList (enc x))=FR)
 (DK: ∀ (l B:Nat) (N:BQ P Γ L') (x:α) (s:σ) (r:σ×Nat),f x s=some r -> GY P Γ (Fence.wide.inRound l) (some B) L' N (Cp L' ex r.2 (H r.1)) a b ⟨FR x,H s⟩)
 (Dt: ∀ e,(Exit.normal::ex)[rE.2]? =some e -> Dl P Γ F (some B) L Q k2 e ⟨fr,H rE.1⟩ Y):Ap P Γ F (some B) L Y Q K ⟨fr,h⟩:=by
 unfold Nx at hK;split at hK
 ·cases hK;subst Cu;exact Bg.rangeFold JA ex KD enc l H f hf hg hk EJ (zCT hL) Gq h0 DK Dt
 ·cases hK
theorem Bg.rangeAt0 {P:Program}{Γ:At}{F:Fence}(JA:F=Fence.wide∨∃ l,F=Fence.wide.inRound l){B L:Nat}{Y:BQ P Γ L}{Q:QY P Γ L}{fr:List DV}{h:DH}{K:List KI}(g:Operand)(ps:Array Tmp)(a b:Code)(k2:List KI){kk:Nat}{α σ:Type}(enc:α -> List DV)(l:List α)(H:σ -> DH)(FR:α -> List DV)(f:α -> σ -> Option σ){s0 sE:σ}(hf:Bq f l s0=some sE) 
 (hK:Nx K=some (g,ps,a,b,k2)) (hg:AW fr g= .it kk) (hk:h[kk]? =some (some (.iter (l.map enc)))) (EJ: ∀ x,(enc x).length=ps.size) (L':Nat) (hL:Nat.ble L L'=true) (Gq:fr.all (DI L')=true) (h0:h.set kk none=H s0) (Cu:(fun x=>Io fr ps.toList (enc x))=FR)
 (DK: ∀ (l B:Nat) (N:BQ P Γ L') (x:α) (s r:σ),f x s=some r -> GY P Γ (Fence.wide.inRound l) (some B) L' N (Cp L' [] 0 (H r)) a b ⟨FR x,H s⟩)
 (Dt:Ap P Γ F (some B) L Y Q k2 ⟨fr,H sE⟩):Ap P Γ F (some B) L Y Q K ⟨fr,h⟩:=by
 refine Bg.rangeAt JA [] rfl g ps a b k2 enc l H FR (fun x s=>(f x s).map fun s'=>(s',0)) (rE:=(sE,0)) (by rw [oQ,hf];rfl) hK hg hk EJ L' hL Gq h0 Cu (fun l' B' N' x s r hr=>?_) (fun e he=>?_)
 ·cases hx:f x s with
  | none=>rw [hx] at hr;cases hr
  | some s'=>
   rw [hx] at hr;cases hr;exact DK l' B' N' x s s' hx
 ·cases he;exact Dt
def M1 (t:Nat):List Nat -> Code -> List KI -> Option (List KI)
 | ms,.seq a b,k=>match M1 t ms a (.code b::k) with
  | some r=>some r
  | none=>M1 t ms b k
 | ms,.cond _ a b,k=>match M1 t ms a k with
  | some r=>some r
  | none=>M1 t ms b k
 | ms,.block i c,k=>M1 t ms c (.blk i::k)
 | ms,.scope c,k=>M1 t ms c (.scp::k)
 | m::ms,.loop b,k=>M1 t ms b (.loopN m b::k)
 | _,.rangeFunc (.tmp t') ps a b,k=>if t'=t then some (.code (.rangeFunc (.tmp t') ps a b)::k) else none
 | _,_,_=>none
def GD (c:Code)(t:Nat)(ms:List Nat):List KI:=(M1 t ms c []).getD []
def BB (c:Code)(id:Nat)(ms:List Nat):List KI:=(M2 id ms c []).getD []
def Co (c:Code)(id:Nat)(ms:List Nat):List KI:=(M3 id ms c []).getD []
abbrev L1 (l:List DV):Nat -> DV:=fun j=>l.getD j .any
abbrev AP {α:Type} [Inhabited α] (c:α -> List DV) (l:List α):Nat -> Nat -> DV:=fun i j=>(c (l.getD i default)).getD j .any
abbrev pE {α:Type}(c:α -> List DV):α -> Nat -> DV:=fun x j=>(c x).getD j .any
def Bp (c:AB):List DV:=[.int .i64 c.kind,.ints c.cells,.int .i64 c.set,.int .i64 c.other,.int .i64 c.lo,.int .i64 c.hi,.ints c.runs,.int .i64 c.rule,.int .i64 c.spot]
def BX (x:List Int):List DV:=[.ints x]
def RG (x:List Bool):List DV:=[.bools x]
def BM (x:Int×Int):List DV:=[.int .i64 x.1,.int .i64 x.2]
def AN (q:AA):List DV:=[.int .i64 q.cells,.int .i64 q.symbols,.ints q.values,.sl 1 q.nbrs.length (AP BX q.nbrs),.sl 9 q.cons.length (AP Bp q.cons)]
abbrev oC (l:List DV):Option DO:=some (.cells l)
abbrev oI (l:List Int):Option DO:=some (.ints l)
abbrev oW (c:AB)(q:AA)(pos:List Int)(k ln:Nat):Option DO:=some (.cells (Bp c++AN q++[.ints pos,.msl k 1 0 ln]))
abbrev zDG:=@List.drop_eq_nil_of_le
abbrev zHD:=@List.cons_append
abbrev zHh:=@List.take_append_drop
structure Ba (P:Program) where
 l:Nat
 encs:List (List DV)
 J:Nat -> (Nat -> Prop) -> (Nat -> Prop) -> World -> Prop
 Jx:(Nat -> Prop) -> (Nat -> Prop) -> World -> Prop
 hJ: ∀ i,Ea (J i)
 hJx:Ea Jx
 hy: ∀ i x args G R W1,encs[i]? =some x -> YV x R W1 args -> J i G R W1 -> Ek G R W1 -> YieldAt Fence.wide 0 P l args W1 fun e W'=>
  AO (fun k=>¬ (G k∨R k)) W1 W'/\ ((e= .returned (.bool true)/\ J (i+1) G R W')∨(e= .returned (.bool false)/\ Jx G R W'))
structure IY (Γ:At)(N G R:Nat -> Prop)(h:DH)(ρ:List AH)(w:World):Prop where
 sh:Ek G R w
 lo: ∀ b,b<Γ.ng -> R b
 own: ∀ b,MO h ρ b -> G b
 n: ∀ b,N b↔(b<w.heap.size/\ ¬ G b/\ ¬ R b)
theorem IY.ng {Γ:At}{N G R:Nat -> Prop}{h:DH}{ρ:List AH}{w:World}(y:IY Γ N G R h ρ w){b:Nat}(hb:N b):Γ.ng<=b:=zGd fun hl=>((y.n b).1 hb).2.2 (y.lo b hl)
def mL (P:Program)(Γ:At)(L:Nat)(J:(Nat -> Prop) -> (Nat -> Prop) -> World -> Prop)(hJ:Ea J):BQ P Γ L where
 I:=fun N h ρ w=>∃ G R,J G R w/\ IY Γ N G R h ρ w
 st:=by
  rintro N h ρ w h' ρ' w' ⟨G,R,h1,y⟩ H H' st _;have hs:=st.upd.size;have Qk: ∀ b,(G b∨(w.heap.size<=b/\ b<w'.heap.size)) -> ¬ R b:=fun b hb hr=>hb.elim (fun h=>y.sh.dis b h hr) fun h=>by have:=y.sh.lt b (.inr hr);omega
  have AM: ∀ b,(G b∨(w.heap.size<=b/\ b<w'.heap.size))∨R b -> b<w'.heap.size:=fun b hb=>by
   rcases hb with (hb | hb) | hb
   ·exact zAj (y.sh.lt b (.inl hb)) hs
   ·exact hb.2
   ·exact zAj (y.sh.lt b (.inr hb)) hs
  refine ⟨fun b=>G b∨(w.heap.size<=b/\ b<w'.heap.size),R,hJ G R _ R w w' h1 (st.upd.mono fun b _ hb=>y.own b hb) (fun k hk=>hk.imp id fun h=>h.1) (fun k hk=>.inl hk) (fun k hk=>hk.imp .inl id) Qk AM,⟨Qk,AM⟩,y.lo,fun b hb=>?_,fun b=>?_⟩
  ·rcases st.grow b hb with h | h
   ·exact .inl (y.own b h)
   ·obtain ⟨k,o,p,q1,q2,q3⟩:=hb;obtain ⟨_,_,c,t,z,e⟩:=H'.cel k o p b q1 q2 q3;exact .inr ⟨h,(zAZ.1 e).1⟩
  ·rw [y.n];constructor
   ·rintro ⟨a1,a3,a4⟩;exact ⟨zAj a1 hs,fun hx=>hx.elim a3 fun hx=>by omega,a4⟩
   ·rintro ⟨a1,a3,a4⟩;have: ¬ (w.heap.size<=b):=fun hx=>a3 (.inr ⟨hx,a1⟩)
    exact ⟨by omega,fun hx=>a3 (.inl hx),a4⟩
section
variable {P:Program} {Γ:At}
def Ba.Y (C:Ba P)(Γ:At)(L i:Nat):BQ P Γ L:=mL P Γ L (C.J i) (C.hJ i)
def Ba.X (C:Ba P)(Γ:At)(L:Nat):BQ P Γ L:=mL P Γ L C.Jx C.hJx
def Ba.Q (C:Ba P)(Γ:At)(L:Nat):QY P Γ L:=fun e _ Y=>(e= .normal∨e= .ret)/\ (Y=C.Y Γ L C.encs.length∨Y=C.X Γ L)
def NS (P:Program)(Γ:At)(ops:Array Oper)(p:Nat)(S:St)(AZ:BE):Option (List DV×Nat×St×St×List Prop):=match Di P Γ ops (ops.toList.take p) S AZ with
 | none=>none
 | some (S1,vs,Es)=>match ops[p]? with
  | none=>none
  | some o=>match JV ops S1 o with
   | some true=>match o.op with
    | .call c=>match c.callee with
     | .value f=>match AW S1.fr f with
      | .yl l=>match (c.args.toList.map (AW S1.fr)).all E8 with
       | false=>none
       | true=>match Di P Γ ops (ops.toList.drop (p+1)) ⟨Ck S1.fr o.dst (.bool true),S1.h⟩ Es with
        | none=>none
        | some (ST,vT,GP)=>match Di P Γ ops (ops.toList.drop (p+1)) ⟨Ck S1.fr o.dst (.bool false),S1.h⟩ GP with
         | none=>none
         | some (SF,vF,_)=>some (c.args.toList.map (AW S1.fr),l,ST,SF,vs++(vT++vF))
      | _=>none
     | _=>none
    | _=>none
   | _=>none
end
section
variable {P:Program} {Γ:At} {N:Nat -> Prop} {S:St} {ρ:List AH} {a:Act} {w:World} {F:Fence}
theorem UL (hF:C9 F P){ops:Array Oper}(Ar:Cc ops=true){Q:Exit -> Act -> World -> Prop}{E9:List Oper}: ∀ (l:List Oper) (_: ∀ o∈l,o∈ops) {S:St} {ρ:List AH} {a:Act} {w:World} {AZ:BE} {S':St} {vs:List Prop} {B9:BE},
 AR P Γ N S ρ a w -> Di P Γ ops l S AZ=some (S',vs,B9) -> BZ vs ->
 (∀ ρ' a' w',AR P Γ N S' ρ' a' w' -> Cv S.h ρ w S'.h ρ' w' -> a'.defers=a.defers -> wpListIn F 0 P ops Q E9 a' w') -> wpListIn F 0 P ops Q (l++E9) a w
 | [],_,S,ρ,a,w,AZ,S',vs,B9,R,h,_,hQ=>by
  cases h;exact hQ ρ a w R (Cv.refl _ _ _) rfl
 | o::rest,hl,S,ρ,a,w,AZ,S',vs,B9,R,h,hv,hQ=>by
  have hd: ∀ c,o.op≠.defer c:=by
   obtain ⟨j,hj,e⟩:=Array.getElem_of_mem (hl o (by simp));exact HE Ar (j:=j) (by rw [zCF hj,e])
  have Eg: ∀ o∈rest,o∈ops:=fun o ho=>hl o (by simp [ho])
  have CS: ∀ v,(a.put o.dst v).defers=a.defers:=fun v=>by cases ho:o.dst <;> simp [Act.put]
  simp only [Di] at h;rw [zHD];unfold wpListIn;split at h
  ·split at h
   ·cases h
   ·rename_i S1 CQ ext1 Es h1;split at h
    ·cases h
    ·rename_i S2 D4 GP h2;cases h;obtain ⟨Bx,CE⟩:=C8.1 hv;exact eV hF R hd h1 Bx fun ρ' a' w' R' st Cm _=>UL hF Ar rest Eg R' h2 CE fun ρ'' Gw CV El DG I6=>hQ ρ'' Gw CV El (st.trans DG) (I6.trans Cm)
  ·split at h
   ·cases h
   ·rename_i S1 CQ KX h1;split at h
    ·cases h
    ·rename_i S2 D4 GP h2;cases h;obtain ⟨Bx,CE⟩:=C8.1 hv;obtain ⟨e1,hs⟩:=Sw R h1 Bx
     have go: ∀ v,AR P Γ N S1 ρ (a.put o.dst v) w -> wpListIn F 0 P ops Q (rest++E9) (a.put o.dst v) w:=fun v R'=>
      UL hF Ar rest Eg R' h2 CE fun ρ'' Gw CV El DG I6=>hQ ρ'' Gw CV El (by rw [←e1];exact DG) (I6.trans (CS v))
     rcases hs with ⟨hw,v,g1,g2⟩ | ⟨hw,g2⟩
     ·rw [zAM hw];refine ⟨fun f _=>hF.fn f,?_⟩;rw [zGM _ _ _ hd,g1 w (Keep.ofExt (Aq.refl w))];exact go v g2
     ·rw [zAh (by rw [hw];exact zGg)];exact ⟨fun f _=>hF.fn f,go undef g2⟩
theorem jW {l:Nat}{ρ':Operand -> Value}{o:Oper}{c:Call}{f:Operand}{vs:List Value}(ho:o.op= .call c)(hc:c.callee= .value f)(hf:ρ' f= .func (.yield l) #[] #[])(hv:c.args.toList.map ρ'=vs):(execOp ρ' o).run P w=(Instr.yield l vs.toArray).run P w:=by
 unfold execOp;rw [ho]
 show ((resolve ρ' c o.type)>>=fun d=>invoke d.target d.args).run P w=_
 unfold resolve;rw [hc];simp only [Deferred.ofValue,hf]
 have e: #[]++Array.map ρ' c.args=vs.toArray:=by
  rw [←hv];apply Array.ext';simp
 have he:((pure { target:=.fn (.yield l) #[],args:=#[]++Array.map ρ' c.args }:Sem Deferred)>>=fun d=>invoke d.target d.args).run P w=(Instr.yield l (#[]++Array.map ρ' c.args)).run P w:=rfl;rw [he,e]
theorem YV.of {M:Nat -> Prop}{ρ:List AH}{g:Operand -> DV}{f:Operand -> Value}{R:Nat -> Prop}(hr: ∀ x,AK M w (g x) ρ (f x))(hM: ∀ b,b<w.heap.size/\ ¬ R b -> M b): ∀ {l:List Operand},(l.map g).all E8=true -> YV (l.map g) R w (l.map f).toArray:=fun {l} h=>by
 refine ⟨by simp,fun j hj=>?_⟩;have BJ:j<l.length:=by simpa using hj
 have e1:(l.map g).getD j .any=g l[j]:=by simp [u8,BJ]
 have e2:(l.map f).toArray.getD j undef=f l[j]:=by simp [zAq,BJ]
 rw [e1,e2];have hn:=K2 (zAg.1 h (g l[j]) (zDA.2 ⟨_,zBD BJ,rfl⟩));exact (hn _ _ _ _ (hr l[j])).out _ (DJ hM [])
theorem IY.part {N G R:Nat -> Prop}{h:DH}{I:(Nat -> Prop) -> (Nat -> Prop) -> World -> Prop}(hI:Ea I)(hi:I G R w)(y:IY Γ N G R h ρ w): ∃ R',I (MO h ρ) R' w/\ IY Γ N (MO h ρ) R' h ρ w/\ (∀ b,b<w.heap.size/\ ¬ R' b -> MS N h ρ b)/\ (∀ b,R b -> R' b):=by
 have hd: ∀ b,MO h ρ b -> ¬ (R b∨(G b/\ ¬ MO h ρ b)):=fun b hm hx=>hx.elim (y.sh.dis b (y.own b hm)) fun hx=>hx.2 hm
 have hl: ∀ b,MO h ρ b∨(R b∨(G b/\ ¬ MO h ρ b)) -> b<w.heap.size:=fun b hx=>by
  rcases hx with hx | hx | hx
  ·exact y.sh.lt b (.inl (y.own b hx))
  ·exact y.sh.lt b (.inr hx)
  ·exact y.sh.lt b (.inl hx.1)
 have hu: ∀ b,G b -> MO h ρ b∨(R b∨(G b/\ ¬ MO h ρ b)):=fun b hg=>(Classical.em (MO h ρ b)).imp id fun hm=>.inr ⟨hg,hm⟩
 refine ⟨fun b=>R b∨(G b/\ ¬ MO h ρ b),hI G R _ _ w w hi (AO.refl _ _) (fun k hk=>.inl (y.own k hk)) (fun k hk=>hk.imp id fun h=>.inl h.1) (fun k hk=>hk.elim (hu k) fun h=>.inr (.inl h)) hd hl,⟨⟨hd,hl⟩,fun b h=>.inl (y.lo b h),fun _ h=>h,fun b=>(y.n b).trans ⟨fun ⟨q1,q2,q3⟩=>⟨q1,fun hm=>q2 (y.own b hm),fun hx=>hx.elim q3 fun hx=>q2 hx.1⟩,fun ⟨q1,q2,q3⟩=>⟨q1,fun hg=>(hu b hg).elim q2 q3,fun hr=>q3 (.inl hr)⟩⟩⟩,fun b ⟨q1,q2⟩=>?_,fun b h=>.inl h⟩
 by_cases hg:G b
 ·exact .inr ((hu b hg).resolve_right q2)
 ·exact .inl ((y.n b).2 ⟨q1,hg,fun hr=>q2 (.inl hr)⟩)
theorem IY.later {N R':Nat -> Prop}{h:DH}{W':World}(z:IY Γ N (MO h ρ) R' h ρ w)(H:A1 P Γ N h ρ w)(hu:AO (fun k=>¬ (MO h ρ k∨R' k)) w W'):A1 P Γ (fun bb=>bb<W'.heap.size/\ ¬ MO h ρ bb/\ ¬ R' bb) h ρ W'/\ BS (MS N h ρ) w ρ (MS (fun bb=>bb<W'.heap.size/\ ¬ MO h ρ bb/\ ¬ R' bb) h ρ) W' ρ:=by
 have Bo:AO N w W':=hu.mono fun bb AM hn=>(z.n bb).2 ⟨AM,fun hx=>hn (.inl hx),fun hx=>hn (.inr hx)⟩
 have n6: ∀ bb,N bb -> N bb/\ Γ.ng<=bb:=fun bb hb=>⟨hb,z.ng hb⟩
 have UI: ∀ bb,(bb<W'.heap.size/\ ¬ MO h ρ bb/\ ¬ R' bb) -> N bb∨w.heap.size<=bb:=fun bb ⟨q1,q2,q3⟩=>by
  rcases zCV bb w.heap.size with h | h
  ·exact .inl ((z.n bb).2 ⟨h,q2,q3⟩)
  ·exact .inr h
 exact ⟨H.foreign Bo n6 UI fun bb ⟨q1,_,q3⟩=>⟨q1,zGd fun hl=>q3 (z.lo bb hl)⟩,BS.foreign (Γ:=Γ) Bo n6 UI⟩
theorem Tr.yield {L:Nat}{C:Ba P}{i:Nat}{Q:QY P Γ L}(hF:C9 Fence.wide P){id:Nat}{ops:Array Oper}{p:Nat}{AZ:BE}{x:List DV}{ST SF:St}{vs:List Prop}(Ar:Cc ops=true) 
 (h:NS P Γ ops p S AZ=some (x,C.l,ST,SF,vs)) (hv:BZ vs) (hx:C.encs[i]? =some x) (hT:Q .normal ST (C.Y Γ L (i+1))) (hE:Q .normal SF (C.X Γ L)):Tr P Γ Fence.wide none L (C.Y Γ L i) (.region id ops false) S Q:=fun N ρ a w R y m b=>by
 unfold NS at h;split at h
 ·cases h
 rename_i S1 CQ Es h1;split at h
 ·cases h
 rename_i o ho;split at h
 ·rename_i hw;split at h
  ·rename_i c Mj;split at h
   ·rename_i f hc;split at h
    ·rename_i l hl;split at h
     ·cases h
     rename_i Tq;split at h
     ·cases h
     rename_i ST' vT GP h2;split at h
     ·cases h
     rename_i SF' vF K1 h3;cases h;obtain ⟨Bx,Dr⟩:=C8.1 hv;obtain ⟨hvT,hvF⟩:=C8.1 Dr;have hp:p<ops.toList.length:=by simpa using (zAZ.1 ho).1
     have zAt:ops.toList=ops.toList.take p++o::ops.toList.drop (p+1):=by
      have e:ops.toList[p]=o:=by
       have:=(zAZ.1 ho).2;simpa using this
      rw [←e,←zCJ hp,zHh]
     have D8: ∀ o'∈ops.toList,o'∈ops:=fun o' h=>by simpa using h
     have hd: ∀ c,o.op≠.defer c:=HE Ar ho;refine zGs ?_;rw [zAt];refine UL hF Ar _ (fun o' J5=>D8 o' (List.mem_of_mem_take J5)) R h1 Bx fun ρ1 a1 w1 R1 DX Ox=>?_
     obtain ⟨G0,R0,y1,y2⟩:=(C.Y Γ L i).st y R.hr R1.hr DX.st (fun k p _ hp=>DX.pl k p hp);obtain ⟨R',z1,z2,z3,_⟩:=IY.part (C.hJ i) y1 y2;obtain ⟨fn,tmps,U1,body,hy,hR⟩:=C.hy i _ _ _ R' w1 hx (YV.of (g:=AW S1.fr) (f:=a1.eval) (fun x=>Bj R1 x) z3 Tq) z1 z2.sh;unfold wpListIn;rw [zAM (H8 R1 hw)]
     have ck:a1.eval f= .func (.yield C.l) #[] #[]:=by
      have hr:=Bj R1 f;rw [hl] at hr;exact hr
     refine ⟨fun f _=>hF.fn f,?_⟩;rw [zGM _ _ _ hd,jW Mj hc ck rfl,hy];refine ⟨fun hx=>(by cases hx),hR.mono ?_⟩;have Ax:a1.defers= []:=Ox.trans m;rintro e W' ⟨hu,hj⟩;obtain ⟨H',fo⟩:=z2.later R1.hr hu;have DQ:AR P Γ (fun bb=>bb<W'.heap.size/\ ¬ MO S1.h ρ1 bb/\ ¬ R' bb) S1 ρ1 a1 W':=⟨H',R1.fr.out fo⟩;have CS: ∀ v,(a1.put o.dst v).defers=a1.defers:=fun v=>by cases ho:o.dst <;> simp [Act.put]
     have yy:IY Γ (fun bb=>bb<W'.heap.size/\ ¬ MO S1.h ρ1 bb/\ ¬ R' bb) (MO S1.h ρ1) R' S1.h ρ1 W':=⟨z2.sh.upd hu,z2.lo,fun _ h=>h,fun _=>Iff.rfl⟩;rcases hj with ⟨rfl,hj⟩ | ⟨rfl,hj⟩
     ·have R':=G6 DQ o.dst (d:=.bool true) (v:=.bool true) rfl;refine KL hF Ar _ (fun o' J5=>D8 o' (List.mem_of_mem_drop J5)) R' h2 hvT fun ρ2 a2 w2 R2 Ja cv=>?_
      refine ⟨ST,ρ2,_,C.Y Γ L (i+1),hT,R2,(C.Y Γ L (i+1)).st ⟨_,_,hj,yy⟩ R'.hr R2.hr Ja.st (fun k p _ hp=>Ja.pl k p hp),?_,Bd.none⟩
      show a2.defers= []
      rw [cv,CS];exact Ax
     ·have R':=G6 DQ o.dst (d:=.bool false) (v:=.bool false) rfl;refine KL hF Ar _ (fun o' J5=>D8 o' (List.mem_of_mem_drop J5)) R' h3 hvF fun ρ2 a2 w2 R2 Ja cv=>?_
      refine ⟨SF,ρ2,_,C.X Γ L,hE,R2,(C.X Γ L).st ⟨_,_,hj,yy⟩ R'.hr R2.hr Ja.st (fun k p _ hp=>Ja.pl k p hp),?_,Bd.none⟩
      show a2.defers= []
      rw [cv,CS];exact Ax
    ·cases h
   ·cases h
  ·cases h
 ·cases h
end
theorem M5 {P:Program}{f:Nat}{fn:Func}(hf:P.funcs[f]? =some fn)(hb:fn.body.isSome=true)(hn:(fn.name== "runtime.NumGoroutine")=false)(args:Array Value)(W:World):(callFunc f args).run P W= .ok (.enter f args) W:=by
 have Qd: ¬ fn.name= "runtime.NumGoroutine" :=by simpa using hn
 have DN: ¬ fn.body=none:=by intro e;rw [e] at hb;cases hb
 simp [callFunc,go_sem,hf,Qd,DN]
theorem pk {P:Program}{Γ:At}{f:Nat}{fn:Func}(hf:P.funcs[f]? =some fn)(hb:fn.body.isSome=true){L:Nat}{Y:BQ P Γ L}{Q:QY P Γ L}{ds:List DV}{h:DH}(T:Ap P Γ Fence.wide none L Y Q [.code (AX fn)] ⟨ds++List.replicate (fn.ntmps-ds.length) .any,h⟩) 
 {N:Nat -> Prop} {ρ:List AH} {W:World} {args:Array Value} (H:A1 P Γ N h ρ W) (fr:A9 (MS N h ρ) W ρ ds args) (y:Y.I N h ρ W) {R:Ending -> World -> Prop}
 (hQ: ∀ e S' ρ' N' Y' a' W',Q e S' Y' -> AR P Γ N' S' ρ' a' W' -> Y'.I N' S'.h ρ' W' -> match e with
  | .normal | .ret=>∃ v,(results fn a'.tmps).run P W'= .ok v W'/\ R (.returned v) W'
  | .panic c=>R (.panicked c) W'
  | _=>False):CallsIn Fence.wide 0 P f args W R:=by
 cases hc:fn.body with
 | none=>rw [hc] at hb;cases hb
 | some code=>
 have eb:AX fn=code:=by unfold AX;rw [hc];rfl
 rw [eb] at T;refine callsIn_of_wp hf hc trivial (zGR ((show Tr P Γ Fence.wide none L Y code _ (Dl P Γ Fence.wide none L Q []) from T) N ρ _ W ⟨H,?_⟩ y rfl Bd.none) ?_) rfl
 ·rw [←fr.1];exact A9.append fr (A9.anys _ _ _ _)
 ·rintro e a' W' ⟨S',ρ',N',Y',q1,q2,q3,q4,_⟩;cases e with
  | outgrown=>exact q1.elim
  | normal=>obtain ⟨v,h1,h2⟩:=hQ _ S' ρ' N' Y' a' W' q1 q2 q3;exact ⟨q4,v,h1,h2⟩
  | ret=>obtain ⟨v,h1,h2⟩:=hQ _ S' ρ' N' Y' a' W' q1 q2 q3;exact ⟨q4,v,h1,h2⟩
  | exit id=>exact (hQ _ S' ρ' N' Y' a' W' q1 q2 q3).elim
  | goto t=>exact (hQ _ S' ρ' N' Y' a' W' q1 q2 q3).elim
  | panic c=>exact ⟨q4,hQ _ S' ρ' N' Y' a' W' q1 q2 q3⟩
theorem ES.iterN {P:Program}{Γ:At}{f gf m:Nat}{fn:Func}{ds:List DV}{c:Nat -> DV}{h0:DH}{encs:List (List DV)}(FG:ES P Γ f ds [] (.fn gf m c) h0 true)(EL:ds.all E8=true) 
 (hf:P.funcs[gf]? =some fn) (hb:fn.body.isSome=true) (hn:(fn.name== "runtime.NumGoroutine")=false) (XY:fn.results= #[])
 (body: ∀ C:Ba P,C.encs=encs -> Ap P Γ Fence.wide none h0.length (C.Y Γ h0.length 0) (C.Q Γ h0.length) [.code (AX fn)] ⟨.yl C.l::(List.range m).map c++List.replicate (fn.ntmps-(m+1)) .any,h0⟩) (h:DH):ES P Γ f ds h (.it h.length) (h++[some (.iter encs)]) true:=by
 refine ⟨FG.1,fun N ρ w args HR Cn=>?_⟩;refine (FG.2 (MS N h ρ) [] w args (Qa (fun b hb=>HR.lt2 hb) HR.gi) ⟨Cn.1,fun i hi=>?_⟩).mono ?_
 ·have hx:=K2 (zAg.1 EL (ds.getD i .any) (by simp [hi]));exact AK.out _ (DJ (fun b hb=>PU.1 hb) []) (hx _ _ _ _ (Cn.2 i hi))
 ·rintro e w' ⟨v,rfl,⟨⟨ρ',g1,g2,g3,g4⟩,g5⟩⟩;have hE:=g5 rfl;obtain ⟨lb,hv,hl,Mm⟩:=g2;have IW: ∀ b,MO h0 ρ' b -> w.heap.size<=b:=fun b hb=>(g3.grow b hb).resolve_left fun ⟨k,o',p',q1,_⟩=>by simp at q1
  have DM: ∀ b,MO h0 ρ' b -> Γ.ng<=b/\ ¬ MS N h ρ b/\ Dm w' b:=fun b ⟨k,o,q,q1,q2,q3⟩=>g1.cel k o q b q1 q2 q3
  have C6:Γ.ng<=w.heap.size:=Γ.lo _ HR.gi;have Ay:=hE.size
  have AM: ∀ b,MO h0 ρ' b -> b<w'.heap.size:=fun b hb=>by
   obtain ⟨_,_,c,t,z,h⟩:=DM b hb;exact (zAZ.1 h).1
  have lo: ∀ b,b<Γ.ng -> b<w'.heap.size/\ ¬ MS (MS N h ρ) h0 ρ' b:=fun b hb=>⟨zAj hb (zA0 C6 Ay),fun hx=>by
   rcases hx with hx | hx
   ·have:=(HR.lt2 hx).2;omega
   ·have:=(DM b hx).1;omega⟩
  let p:AH:=⟨0,0,0,v,fun b=>MO h0 ρ' b⟩
  have hp: ∀ b,p.foot b -> w.heap.size<=b/\ Dm w' b:=fun b hb=>⟨IW b hb,(DM b hb).2.2⟩
  refine ⟨v,rfl,⟨⟨ρ++[p],HR.snoc hE hp ?_,⟨p,by rw [←HR.len];simp,rfl⟩,A5.snoc HR hE fun b hb=>(hp b hb).1,fun _ _ h=>Eh h⟩,g5⟩⟩;refine ⟨gf,lb,fun b=>b<w'.heap.size/\ ¬ MS (MS N h ρ) h0 ρ' b,⟨hv,fun args W=>M5 hf hb hn args W⟩,?_,fun b hb=>⟨fun hm=>?_,hb.1⟩,AM⟩
  ·intro l J Jx W hJ hJx hU hY dN _
   let C:Ba P:=⟨l,encs,J,Jx,hJ,hJx,hY⟩
   have UH: ∀ b,(b<W.heap.size/\ ¬ MO h0 ρ' b/\ ¬ (b<w'.heap.size/\ ¬ MS (MS N h ρ) h0 ρ' b)) -> MS N h ρ b∨w'.heap.size<=b:=fun b ⟨_,q3,q4⟩=>by
    rcases zCV b w'.heap.size with hx | hx
    ·by_cases hm:MS (MS N h ρ) h0 ρ' b
     ·rcases hm with hm | hm
      ·exact .inl hm
      ·exact absurd hm q3
     ·exact absurd ⟨hx,hm⟩ q4
    ·exact .inr hx
   have hu:AO (fun b=>MS N h ρ b) w' W:=hU.mono fun b AM hx=>by
    by_cases hm:MS (MS N h ρ) h0 ρ' b
    ·rcases hm with hm | hm
     ·exact hm
     ·exact absurd (.inl hm) hx
    ·exact absurd (.inr ⟨AM,hm⟩) hx
   have ny: ∀ b,MS N h ρ b -> MS N h ρ b/\ Γ.ng<=b:=fun b hb=>⟨hb,(HR.lt2 hb).2⟩
   have HW:A1 P Γ (fun b=>b<W.heap.size/\ ¬ MO h0 ρ' b/\ ¬ (b<w'.heap.size/\ ¬ MS (MS N h ρ) h0 ρ' b)) h0 ρ' W:=g1.foreign hu ny UH fun b hb=>⟨hb.1,zGd fun hl=>hb.2.2 (lo b hl)⟩
   have dY:A9 (MS (MS N h ρ) h0 ρ') w' ρ' ((List.range m).map c) lb:=⟨by simp [hl],fun j hj=>by
    have BJ:j<m:=by simpa using hj
    obtain ⟨u,q1,q2⟩:=Mm j BJ;have e1:((List.range m).map c).getD j .any=c j:=by simp [BJ]
    have e2:lb.getD j undef=u:=by rw [zAq,q1];rfl
    rw [e1,e2];exact q2⟩
   have dZ:=dY.out (BS.foreign (Γ:=Γ) hu ny UH);have T:=body C rfl;have e3:fn.ntmps-(m+1)=fn.ntmps-(.yl C.l::(List.range m).map c).length:=by simp
   rw [e3] at T
   refine pk hf hb T HW (A9.append (l:=[.yl C.l]) (t:=#[.func (.yield l) #[] #[]]) ⟨rfl,fun j hj=>by
    have:j=0:=Nat.lt_one_iff.1 hj;subst this;rfl⟩ dZ) ⟨_,_,dN,⟨⟨fun b hb hr=>hr.2 (.inr hb),fun b hb=>zAj (hb.elim (AM b) fun h=>h.1) hU.size⟩,lo,fun _ h=>h,fun _=>Iff.rfl⟩⟩ ?_
   rintro e S' ρ2 N' Y' a' W' q1 q2 q3
   have fin: ∃ v,(results fn a'.tmps).run P W'= .ok v W'/\ ∃ G R,Ek G R W'/\ ((C.J encs.length G R W'/\ RS (.returned v) G R W')∨((∃ u,Ending.returned v= .returned u)/\ C.Jx G R W')):=by
    obtain ⟨_,(rfl | rfl)⟩:=q1 <;> obtain ⟨G',R',k1,k2⟩:=q3
    ·exact ⟨_,results_none XY _ _ _,G',R',k2.sh,.inl ⟨k1,_,rfl⟩⟩
    ·exact ⟨_,results_none XY _ _ _,G',R',k2.sh,.inr ⟨⟨_,rfl⟩,k1⟩⟩
   cases e with
   | normal=>exact fin
   | ret=>exact fin
   | exit id=>exact absurd q1.1 (by simp)
   | goto t=>exact absurd q1.1 (by simp)
   | panic ch=>exact absurd q1.1 (by simp)
   | outgrown=>exact absurd q1.1 (by simp)
  ·rcases hm with hm | hm
   ·exact hb.2 (.inl (.inl hm))
   ·rcases MO.snoc HR hm with hm | hm
    ·exact hb.2 (.inl (.inr hm))
    ·exact hb.2 (.inr hm)
section
variable {P:Program} {Γ:At}
def Kv:List KI -> Option (Array Oper×List KI)
 | .code (.region _ ops false)::k=>some (ops,k)
 | _=>none
def af (live σ:List Nat)(L:Nat)(r:List DV×Nat×St×St×List Prop):List DV×Nat×List DV×DH×List DV×DH×List Prop×Bool:= (r.1,r.2.1,(Proofs.YtkjbblkieglmlaaGreatDoor.comp live σ r.2.2.1).fr,(Proofs.YtkjbblkieglmlaaGreatDoor.comp live σ r.2.2.1).h,(Proofs.YtkjbblkieglmlaaGreatDoor.comp live σ r.2.2.2.1).fr,(Proofs.YtkjbblkieglmlaaGreatDoor.comp live σ r.2.2.2.1).h,r.2.2.2.2,Jb σ L r.2.2.1.h.length&&Jb σ L r.2.2.2.1.h.length)
theorem Ap.yieldAt {L:Nat}{C:Ba P}{i:Nat}{Q:QY P Γ L}{S:St}{K k:List KI}{ops:Array Oper}(hF:C9 Fence.wide P)(hK:Kv K=some (ops,k))(Ar:Cc ops=true)(p:Nat)(AZ:BE){x:List DV}(live σ:List Nat)(Qv:List DV)(hT:DH)(Qw:List DV)(hE:DH)(vs:List Prop) 
 (h:(NS P Γ ops p S AZ).map (af live σ L)=some (x,C.l,Qv,hT,Qw,hE,vs,true)) (hv:BZ vs) (hx:C.encs[i]? =some x) (hc:IM k=true) (cd:Ap P Γ Fence.wide none L (C.Y Γ L (i+1)) Q k ⟨Qv,hT⟩) (cg:Ap P Γ Fence.wide none L (C.X Γ L) Q k ⟨Qw,hE⟩):Ap P Γ Fence.wide none L (C.Y Γ L i) Q K S:=by
 unfold Kv at hK;split at hK
 ·rename_i id OD k';cases hK;cases hr:NS P Γ ops p S AZ with
  | none=>rw [hr] at h;cases h
  | some r=>
   obtain ⟨xs,l,ST,SF,CQ⟩:=r;rw [hr] at h;simp only [zCO,af,zCR,zCp,zAW] at h;obtain ⟨rfl,rfl,rfl,rfl,rfl,rfl,rfl,s1,s2⟩:=h;exact Tr.yield hF Ar hr hv hx (Bg.le (A0.comp live σ ST s1) hc cd) (Bg.le (A0.comp live σ SF s2) hc cg)
 ·cases hK
theorem K5 {α β:Type}{o:Option α}{f:α -> β}{r:β}(h:o.map f=some r): ∃ a,o=some a/\ r=f a:=by
 cases o with
 | none=>cases h
 | some a=>cases h;exact ⟨a,rfl,rfl⟩
theorem Uc {α β:Type}{l:List β}{i:Nat}{f:α -> β}{x:α}{r:List α}(hd:l.drop i=(x::r).map f):l[i]? =some (f x)/\ i+1<=l.length/\ l.drop (i+1)=r.map f:=by
 have AM:i<l.length:=by
  rcases zCV i l.length with h | h
  ·exact h
  ·rw [zDG h] at hd;cases hd
 rw [zCJ AM] at hd;injection hd with h1 h2
 exact ⟨by rw [zAa AM,h1],AM,h2⟩
theorem O9 {α β:Type}{l:List β}{i:Nat}{f:α -> β}(hi:i<=l.length)(hd:l.drop i=([]:List α).map f):i=l.length:=by
 have:=congrArg List.length hd;simp at this;omega
end
def BP (x:Int):List DV:=[.int .i64 x]
def O7 (x:Int×Int):List DV:=[.int .i64 x.1,.int .i64 x.2]
section
variable {P:Program} {Γ:At}
end
structure HX (F:Fence)(P:Program):Prop where
 f:C9 F P
 m:P.follows .mixedOrders=true
structure HS (c:List (DV×DH×Bool))(o:List (Nat×DV))(z:List (Nat×Fz))(v:List Prop):Prop where
 all:BZ v
section
variable {P:Program} {Γ:At} {cs:List (DV×DH×Bool)} {os:List (Nat×DV)} {zs:List (Nat×Fz)} {vs:List Prop}
theorem H0:HS [] [] [] []:=⟨trivial⟩
theorem HS.add (q:HS cs os zs vs){c':List (DV×DH×Bool)}{o':List (Nat×DV)}{z':List (Nat×Fz)}{p:Prop}(h:p):HS c' o' z' (vs++[p]):=⟨C8.2 ⟨q.all,h,trivial⟩⟩
theorem HS.o (q:HS cs os zs vs)(t:Nat){d d':DV}(x:AS d d'):HS cs (os++[(t,d')]) zs (vs++[AS d d']):=q.add x
theorem HS.b (q:HS cs os zs vs)(t:Nat){a b:Bool}(x:a=b):HS cs (os++[(t,.bool b)]) zs (vs++[AS (.bool a) (.bool b)]):=q.add (AS.bool x)
theorem HS.w (q:HS cs os zs vs)(t:Nat){x:Int}(h:AJ x):HS cs (os++[(t,.int .i64 x)]) zs (vs++[AS (.int .i64 (IntKind.i64.wrap x)) (.int .i64 x)]):=q.add (qo h)
theorem HS.g (q:HS cs os zs vs){p:Prop}(x:p):HS cs os zs (vs++[p]):=q.add x
theorem HS.t (q:HS cs os zs vs):HS cs os zs (vs++[True]):=q.add trivial
theorem HS.c (q:HS cs os zs vs){f:Nat}{ds:List DV}{h:DH}{d:DV}{h':DH}{e:Bool}(x:ES P Γ f ds h d h' e):HS (cs++[(d,h',e)]) os zs (vs++[ES P Γ f ds h d h' e]):=q.add x
theorem HS.q (q:HS cs os zs vs){f:Nat}{ds:List DV}{h:DH}{d:DV}{h':DH}{k:Nat}(x:PX P Γ f ds h d h' k):HS (cs++[(d,h',false)]) os zs (vs++[PX P Γ f ds h d h' k]):=q.add x
theorem HS.a (q:HS cs os zs vs)(t k m:Nat){n n':Nat}{f f':Nat -> Nat -> DV}(x:n=n'/\ ∀ i j,i<n -> j<m -> AS (f i j) (f' i j)):HS cs os (zs++[(t,.arr k n' f')]) (vs++[n=n'/\ ∀ i j,i<n -> j<m -> AS (f i j) (f' i j)]):=q.add x
theorem HS.z (q:HS cs os zs vs)(t k:Nat):HS cs os (zs++[(t,.frz k)]) vs:=⟨q.all⟩
theorem HS.k (q:HS cs os zs vs)(t:Nat):HS cs os (zs++[(t,.rws)]) vs:=⟨q.all⟩
end
theorem ES.emC {P:Program}{Γ:At}{f:Nat}{ds:List DV}{h:DH}{d:DV}{h':DH}{ext:Bool}(FG:ES P Γ f ds h d h' ext)(σ:List Nat)(H:DH)(hb:M7 σ H.length h.length h'.length=true)(hh:(σ.map fun k=>H.getD k none)=h.map (Ep σ H.length)):ES P Γ f (ds.map (up σ H.length)) H (up σ H.length d) (FJ H σ h') ext:=
 FG.embedB σ H hb hh rfl
theorem Wh {α:Type} [Inhabited α] (c:α -> List DV) (L:List α) (n m:Nat) (h: ∀ x,(c x).all Iz=true/\ m=(c x).length): ∀ i j,i<n -> j<m -> Iz (AP c L i j)=true:=fun i j _ hj=>xU (h _).1 (h _).2 j hj
def frzL:List Nat -> St -> Option (St×List Prop)
 | [],S=>some (S,[])
 | k::ks,S=>match US k S with
  | some (S',vs)=>match frzL ks S' with
   | some (CU,Bn)=>some (CU,vs++Bn)
   | none=>none
  | none=>none
theorem A0.frzL {L:Nat}: ∀ (ks:List Nat) {S S':St} {vs:List Prop},Proofs.YtkjbblkieglmlaaGreatDoor.frzL ks S=some (S',vs) -> BZ vs -> A0 L S S'
 | [],S,S',vs,h,_=>by cases h;exact A0.refl L S
 | k::ks,S,S',vs,h,hv=>by
  simp only [Proofs.YtkjbblkieglmlaaGreatDoor.frzL] at h;split at h
  ·rename_i S1 CQ h1;split at h
   ·rename_i S2 D4 h2;cases h;obtain ⟨Bx,CE⟩:=C8.1 hv;exact (A0.frzE k S1 CQ h1 Bx).trans (A0.frzL ks h2 CE)
   ·cases h
  ·cases h
abbrev Y4:=List Prop×List Prop×List (DV×DH×Bool)×List (Nat×DV)×Bool
def Pz (σ:List Nat)(L:Nat)(w:List Prop)(r:KO×St×List Prop×BE):Y4:=(r.2.2.1,w,r.2.2.2.calls,r.2.2.2.co,Jb σ L r.2.1.h.length)
def MN (live σ:List Nat)(L:Nat)(ks:List Nat)(r:KO×St×List Prop×BE):Option (KO×List DV×DH×Y4):=match frzL ks (comp live σ r.2.1) with
 | some (S,w)=>some (r.1,S.fr,S.h,Pz σ L w r)
 | none=>none
def mC:KO -> Option Exit
 | .ret=>some .ret
 | .at []=>some .normal
 | .at (.code (.exit i)::k)=>if (Iv i k).isNone then some (.exit i) else none
 | _=>none
def Jn (P:Program)(live σ:List Nat)(L:Nat)(ks:List Nat)(fn:Func)(d:DV)(l2:Nat)(r:KO×St×List Prop×BE):Option (Bool×List DV×DH×Y4):=match frzL ks (comp live σ r.2.1) with
 | some (S,w)=>match MH P S fn.results.toList with
  | some rs=>some ((match r.1 with | .ret=>true | .at []=>true | _=>false)&&(decide (S.h.length<=l2)||(S.h.all Wp&&E8 d&&decide (L<=S.h.length))),rs,(if S.h.length<=l2 then S.h else (FL (List.range L) S).h),Pz σ L w r)
  | none=>none
 | none=>none
def ah (σ:List Nat)(L:Nat)(r:KO×St×List Prop×BE):Option Exit×DH×Y4:=(mC r.1,(comp [] σ r.2.1).h,Pz σ L [] r)
section
variable {P:Program} {Γ:At} {F:Fence} {B:Option Nat} {L:Nat} {Y N:BQ P Γ L} {Q:QY P Γ L} {k k':List KI} {S:St} {fr:List DV} {h' h2:DH} {c:List (DV×DH×Bool)} {o:List (Nat×DV)} {z:List (Nat×Fz)} {v w:List Prop}
theorem xQ {live σ ks:List Nat}{r:KO×St×List Prop×BE}{r1:KO}(h:MN live σ L ks r=some (r1,fr,h',v,w,[],[],true))(hw:BZ w):r.1=r1/\ r.2.2.1=v/\ A0 L r.2.1 ⟨fr,h'⟩:=by
 unfold MN at h;split at h
 ·rename_i S1 w1 hf;simp only [Pz,zCR,zCp] at h;obtain ⟨rfl,rfl,rfl,rfl,rfl,_,_,hs⟩:=h;exact ⟨rfl,rfl,(A0.comp live σ r.2.1 hs).trans (A0.frzL ks hf hw)⟩
 ·cases h
theorem Bg.gS (hX:HX F P)(A6:Bh)(n:Nat)(live σ:List Nat)(tg:List (List (Nat×Nat)×St))(hl:HS c o z v)(ks:List Nat)(hz:HS [] [] [] w)(k':List KI)(fr:List DV)(h':DH) 
 (h:(CG P Γ A6 n k S ⟨c,o,z,tg⟩).bind (MN live σ L ks)=some (.at k',fr,h',v,w,[],[],true)) (hc:IM k'=true) (hk:Ap P Γ F B L Y Q k' ⟨fr,h'⟩):Ap P Γ F B L Y Q k S:=by
 cases hr:CG P Γ A6 n k S ⟨c,o,z,tg⟩ with
 | none=>rw [hr] at h;cases h
 | some r=>
  obtain ⟨r1,S1,v1,o1⟩:=r;rw [hr] at h;obtain ⟨e1,e2,hs⟩:=xQ (r:=(r1,S1,v1,o1)) h hz.all;have e1:r1= .at k':=e1;have e2:v1=v:=e2;subst e1 e2;exact Ff hX.f hX.m n k S _ _ _ _ _ hr hl.all (Bg.le hs hc hk)
theorem Bg.el (hX:HX F P){fn:Func}{d:DV}(A6:Bh)(n:Nat)(live σ:List Nat)(tg:List (List (Nat×Nat)×St))(hl:HS c o z v)(ks:List Nat)(hz:HS [] [] [] w)(rs:List DV)(le:AS (Hg rs) d) 
 (h:(CG P Γ A6 n k S ⟨c,o,z,tg⟩).bind (Jn P live σ L ks fn d h2.length)=some (true,rs,h2,v,w,[],[],true)):Bg P Γ F B L N (DS P fn L d h2) k S:=by
 cases hr:CG P Γ A6 n k S ⟨c,o,z,tg⟩ with
 | none=>rw [hr] at h;cases h
 | some r=>
  obtain ⟨r1,S1,v1,o1⟩:=r;rw [hr] at h;have h:Jn P live σ L ks fn d h2.length (r1,S1,v1,o1)=some (true,rs,h2,v,w,[],[],true):=h;unfold Jn at h;split at h
  ·rename_i S2 w1 hf;split at h
   ·rename_i Z5 Mg;simp only [Pz,zCR,zCp,zAW] at h;obtain ⟨⟨zA3,hq⟩,rfl,hh,rfl,rfl,_,_,hs⟩:=h;have hS:A0 L S1 S2:=(A0.comp live σ S1 hs).trans (A0.frzL ks hf hz.all)
    have fin: ∀ e,(e= .normal∨e= .ret) -> DS P fn L d h2 e S1:=fun e he=>by
     refine DS.le hS ⟨he,S2,A0.refl _ _,Z5,Mg,?_⟩
     by_cases Ak:S2.h.length<=h2.length
     ·rw [zAM Ak] at hh;exact .inl ⟨le,hh⟩
     ·rw [zAh Ak] at hh;simp only [Ak,decide_false,zGD,zAW,zCQ] at hq;exact .inr ⟨OI hq.1.1,le,K2 hq.1.2,hq.2,hh⟩
    refine Ff hX.f hX.m n k S _ _ _ _ _ hr hl.all ?_;rcases r1 with (_ | ⟨_,_⟩) | _
    ·exact ⟨rfl,fin _ (.inl rfl)⟩
    ·cases zA3
    ·exact ⟨rfl,fin _ (.inr rfl)⟩
   ·cases h
  ·cases h
theorem Bg.e (hX:HX F P){fn:Func}{d:DV}(A6:Bh)(n:Nat)(live σ:List Nat)(tg:List (List (Nat×Nat)×St))(hl:HS c o z v)(ks:List Nat)(hz:HS [] [] [] w) 
 (h:(CG P Γ A6 n k S ⟨c,o,z,tg⟩).bind (fun r=>(Jn P live σ L ks fn d h2.length r).map fun q=>(q.1,Hg q.2.1,q.2.2))=some (true,d,h2,v,w,[],[],true)):Bg P Γ F B L N (DS P fn L d h2) k S:=by
 cases hr:CG P Γ A6 n k S ⟨c,o,z,tg⟩ with
 | none=>rw [hr] at h;cases h
 | some r=>
  rw [hr] at h;have h:(Jn P live σ L ks fn d h2.length r).map (fun q=>(q.1,Hg q.2.1,q.2.2))=some (true,d,h2,v,w,[],[],true):=h;cases hq:Jn P live σ L ks fn d h2.length r with
  | none=>rw [hq] at h;cases h
  | some q=>
   obtain ⟨q1,rs,q3⟩:=q;rw [hq] at h;simp only [zCO,zCR,zCp] at h;obtain ⟨rfl,hd,rfl⟩:=h;exact Bg.el hX A6 n live σ tg hl ks hz rs (AS.of_eq hd) (by rw [hr];exact hq)
def Wc (P:Program)(L:Nat)(ks:List Nat)(fn:Func)(d:DV)(l2:Nat)(S:St):Option (Bool×List DV×DH×List Prop):=match frzL ks S with
 | some (S,w)=>match MH P S fn.results.toList with
  | some rs=>some (decide (S.h.length<=l2)||(S.h.all Wp&&E8 d&&decide (L<=S.h.length)),rs,(if S.h.length<=l2 then S.h else (FL (List.range L) S).h),w)
  | none=>none
 | none=>none
theorem DS.el {fn:Func}{d:DV}{e:Exit}(he:e= .normal∨e= .ret)(ks:List Nat)(hz:HS [] [] [] w)(rs:List DV)(le:AS (Hg rs) d)(h:Wc P L ks fn d h2.length S=some (true,rs,h2,w)):DS P fn L d h2 e S:=by
 unfold Wc at h;split at h
 ·rename_i S2 w1 hf;split at h
  ·rename_i Z5 Mg;simp only [zCR,zCp] at h;obtain ⟨hq,rfl,hh,rfl⟩:=h;refine DS.le (A0.frzL ks hf hz.all) ⟨he,S2,A0.refl _ _,Z5,Mg,?_⟩
   by_cases Ak:S2.h.length<=h2.length
   ·rw [zAM Ak] at hh;exact .inl ⟨le,hh⟩
   ·rw [zAh Ak] at hh;simp only [Ak,decide_false,zGD,zAW,zCQ] at hq;exact .inr ⟨OI hq.1.1,le,K2 hq.1.2,hq.2,hh⟩
  ·cases h
 ·cases h
theorem DS.e {fn:Func}{d:DV}{e:Exit}(he:e= .normal∨e= .ret)(ks:List Nat)(hz:HS [] [] [] w)(h:(Wc P L ks fn d h2.length S).map (fun q=>(q.1,Hg q.2.1,q.2.2))=some (true,d,h2,w)):DS P fn L d h2 e S:=by
 cases hq:Wc P L ks fn d h2.length S with
 | none=>rw [hq] at h;cases h
 | some q=>
  obtain ⟨q1,rs,q3⟩:=q;rw [hq] at h;simp only [zCO,zCR,zCp] at h;obtain ⟨rfl,hd,rfl⟩:=h;exact DS.el he ks hz rs (AS.of_eq hd) hq
theorem Bg.r (hX:HX F P){ex:List Exit}{i:Nat}{e:Exit}(A6:Bh)(n:Nat)(σ:List Nat)(tg:List (List (Nat×Nat)×St))(hl:HS c o z v)(he:(Exit.normal::ex)[i]? =some e) 
 (h:(CG P Γ A6 n k S ⟨c,o,z,tg⟩).map (ah σ L)=some (some e,h2,v,[],[],[],true)):Bg P Γ F B L N (Cp L ex i h2) k S:=by
 cases hr:CG P Γ A6 n k S ⟨c,o,z,tg⟩ with
 | none=>rw [hr] at h;cases h
 | some r=>
  obtain ⟨r1,S1,v1,o1⟩:=r;rw [hr] at h;simp only [zCO,ah,Pz,zCR,zCp] at h;obtain ⟨hk,hh,rfl,_,_,_,hs⟩:=h;have fin:stay N (Cp L ex i h2) e S1 N:=⟨rfl,he,_,A0.comp [] σ S1 hs,hh⟩;refine Ff hX.f hX.m n k S _ _ _ _ _ hr hl.all ?_;unfold mC at hk;split at hk
  ·cases hk;exact fin
  ·cases hk;exact fin
  ·rename_i i' k';split at hk
   ·rename_i hp;cases hk;exact Tr.exit (Q0 fin k' (Option.isNone_iff_eq_none.1 hp))
   ·cases hk
  ·cases hk
theorem GY.g (hX:HX F P){Q:Exit -> St -> Prop}{assign body:Code}(A6:Bh)(n:Nat)(live σ:List Nat)(hl:HS c o z v)(fr:List DV)(h':DH) 
 (h:(CG P Γ A6 n [.code assign] S ⟨c,o,z,[]⟩).map (TE live σ L)=some (.at [],fr,h',v,[],[],true)) (hk: ∀ N2:BQ P Γ L,Bg P Γ F B L N2 Q [.code body] ⟨fr,h'⟩):GY P Γ F B L N Q assign body S:=
 GY.go hX.f hX.m A6 n _ live σ fr h' v h hl.all hk
end
section
variable {P:Program} {Γ:At} {L:Nat} {k:List KI} {S:St} {c:List (DV×DH×Bool)} {o:List (Nat×DV)} {z:List (Nat×Fz)} {v:List Prop}
theorem TrI.e {C:Ba P}{Y:BQ P Γ L}(hX:HX Fence.wide P)(A6:Bh)(n:Nat)(hl:HS c o z v) 
 (h:(CG P Γ A6 n k S ⟨c,o,z,[]⟩).map (fun r=>((match r.1 with | .ret=>true | .at []=>true | _=>false),r.2.2.1))=some (true,v)) (hY:Y=C.Y Γ L C.encs.length∨Y=C.X Γ L):Ap P Γ Fence.wide none L Y (C.Q Γ L) k S:=by
 cases hr:CG P Γ A6 n k S ⟨c,o,z,[]⟩ with
 | none=>rw [hr] at h;cases h
 | some r=>
  obtain ⟨r1,S1,CQ,o1⟩:=r;rw [hr] at h;simp only [zCO,zCR,zCp] at h;obtain ⟨h1,rfl⟩:=h;refine Ff hX.f hX.m n k S _ _ _ _ _ hr hl.all ?_;rcases r1 with (_ | ⟨_,_⟩) | _
  ·exact ⟨.inl rfl,hY⟩
  ·cases h1
  ·exact ⟨.inr rfl,hY⟩
theorem Ap.y {C:Ba P}{i:Nat}{Q:QY P Γ L}{K:List KI}{ops:Array Oper}(hX:HX Fence.wide P)(p:Nat)(live σ:List Nat)(hl:HS c o z v){x:List DV}(Qv:List DV)(hT:DH)(Qw:List DV)(hE:DH) 
 (hK:Kv K=some (ops,DW K)) (Ar:Cc ops=true) (h:(NS P Γ ops p S ⟨c,o,z,[]⟩).map (af live σ L)=some (x,C.l,Qv,hT,Qw,hE,v,true)) (hx:C.encs[i]? =some x) (hc:IM (DW K)=true) (cd:Ap P Γ Fence.wide none L (C.Y Γ L (i+1)) Q (DW K) ⟨Qv,hT⟩) (cg:Ap P Γ Fence.wide none L (C.X Γ L) Q (DW K) ⟨Qw,hE⟩):Ap P Γ Fence.wide none L (C.Y Γ L i) Q K S:=
 Ap.yieldAt hX.f hK Ar p _ live σ Qv hT Qw hE v h hl.all hx hc cd cg
theorem Ap.yE {C:Ba P}{i:Nat}{K:List KI}{ops:Array Oper}(hX:HX Fence.wide P)(p:Nat)(hl:HS c o z v){x:List DV}(hK:Kv K=some (ops,[]))(Ar:Cc ops=true) 
 (h:(NS P Γ ops p S ⟨c,o,z,[]⟩).map (fun r=>(r.1,r.2.1,r.2.2.2.2))=some (x,C.l,v)) (hx:C.encs[i]? =some x) (hd:i+1=C.encs.length):Ap P Γ Fence.wide none L (C.Y Γ L i) (C.Q Γ L) K S:=by
 unfold Kv at hK;split at hK
 ·cases hK;cases hr:NS P Γ ops p S ⟨c,o,z,[]⟩ with
  | none=>rw [hr] at h;cases h
  | some r=>
   obtain ⟨xs,l,ST,SF,CQ⟩:=r;rw [hr] at h;simp only [zCO,zCR,zCp] at h;obtain ⟨rfl,rfl,rfl⟩:=h;exact Tr.yield hX.f Ar hr hl.all hx ⟨.inl rfl,.inl (by rw [hd])⟩ ⟨.inl rfl,.inr rfl⟩
 ·cases hK
end
section
variable {P:Program} {Γ:At} {F:Fence} {B L:Nat} {Y:BQ P Γ L} {Q:QY P Γ L} {fr:List DV} {h:DH} {K:List KI} {a b:Code} {α σ:Type} {l:List α} {H:σ -> DH} {FR:α -> List DV}
theorem Bg.rg (JA:F=Fence.wide∨∃ l,F=Fence.wide.inRound l)(ex:List Exit)(KD:(ex.all fun e=>(LZ e).isSome)=true)(kk t:Nat)(ps:Array Tmp)(enc:α -> List DV)(L':Nat){f:α -> σ -> Option (σ×Nat)}{s0:σ}{rE:σ×Nat}(hf:DP f l s0=some rE) 
 (DK: ∀ (l B:Nat) (N:BQ P Γ L') (x:α) (s:σ) (r:σ×Nat),f x s=some r -> GY P Γ (Fence.wide.inRound l) (some B) L' N (Cp L' ex r.2 (H r.1)) a b ⟨FR x,H s⟩)
 (hK:Nx K=some (.tmp t,ps,a,b,DW K)) (hg:AW fr (.tmp t)= .it kk) (hk:h[kk]? =some (some (.iter (l.map enc)))) (EJ: ∀ x,(enc x).length=ps.size) (hL:Nat.ble L L'=true) (Gq:fr.all (DI L')=true) (h0:h.set kk none=H s0) (Cu:(fun x=>Io fr ps.toList (enc x))=FR)
 (Dt: ∀ e,(Exit.normal::ex)[rE.2]? =some e -> Dl P Γ F (some B) L Q (DW K) e ⟨fr,H rE.1⟩ Y):Ap P Γ F (some B) L Y Q K ⟨fr,h⟩:=
 Bg.rangeAt JA ex KD (.tmp t) ps a b (DW K) enc l H FR f hf hK hg hk EJ L' hL Gq h0 Cu DK Dt
theorem Bg.rg0 (JA:F=Fence.wide∨∃ l,F=Fence.wide.inRound l)(kk t:Nat)(ps:Array Tmp)(enc:α -> List DV)(L':Nat){f:α -> σ -> Option σ}{s0 sE:σ}(hf:Bq f l s0=some sE) 
 (DK: ∀ (l B:Nat) (N:BQ P Γ L') (x:α) (s r:σ),f x s=some r -> GY P Γ (Fence.wide.inRound l) (some B) L' N (Cp L' [] 0 (H r)) a b ⟨FR x,H s⟩)
 (hK:Nx K=some (.tmp t,ps,a,b,DW K)) (hg:AW fr (.tmp t)= .it kk) (hk:h[kk]? =some (some (.iter (l.map enc)))) (EJ: ∀ x,(enc x).length=ps.size) (hL:Nat.ble L L'=true) (Gq:fr.all (DI L')=true) (h0:h.set kk none=H s0) (Cu:(fun x=>Io fr ps.toList (enc x))=FR)
 (Dt:Ap P Γ F (some B) L Y Q (DW K) ⟨fr,H sE⟩):Ap P Γ F (some B) L Y Q K ⟨fr,h⟩:=
 Bg.rangeAt0 JA (.tmp t) ps a b (DW K) enc l H FR f hf hK hg hk EJ L' hL Gq h0 Cu DK Dt
end
abbrev zAU:=@decide_eq_true
abbrev zCB:=@List.mem_cons_of_mem
abbrev zHi:=@List.mem_of_mem_erase
abbrev LK:=Nat×Array MapEntry×Nat
theorem yj {i:Nat}:Ww none i:=fun _ h=>by cases h
theorem yi {i j:Nat}{g:LK}(h:i≠j):Ww (some (i,g)) j:=fun y e=>by cases e;exact h
def IG {R:Type} [DecidableEq R] (rem:KS) (a:Option R) (f:List Int -> Option R):Option R:=match rem with
 | []=>a
 | x::r=>match f x with
  | none=>none
  | some v=>if r.all (fun y=>decide (f y=some v)) then some v else none
theorem Wj {R:Type} [DecidableEq R] {rem:KS} {a:Option R} {f:List Int -> Option R} {r:R} (h:IG rem a f=some r):(rem= [] -> a=some r)/\ ∀ y∈rem,f y=some r:=by
 cases rem with
 | nil=>exact ⟨fun _=>h,fun y hy=>absurd hy zDu⟩
 | cons x l=>
  refine ⟨fun e=>absurd e (List.cons_ne_nil x l),?_⟩;unfold IG at h;simp only at h;cases hx:f x with
  | none=>rw [hx] at h;cases h
  | some v=>
   rw [hx] at h;simp only at h;split at h
   ·rename_i hc;cases h;intro y hy;rcases zCD.1 hy with rfl | hy
    ·exact hx
    ·exact zFY (zAg.1 hc y hy)
   ·cases h
theorem k7 {R:Type} [DecidableEq R] {a:Option R} {f:List Int -> Option R}:IG [] a f=a:=rfl
theorem xV {R:Type} [DecidableEq R] {rem:KS} {a:Option R} {f:List Int -> Option R} {r:R} (hn:rem≠[]) (h: ∀ y∈rem,f y=some r):IG rem a f=some r:=by
 cases rem with
 | nil=>exact absurd rfl hn
 | cons x l=>
  unfold IG;simp only [h x (by simp)];rw [zAM];exact zAg.2 fun y hy=>zAU (h y (by simp [hy]))
theorem vK {P:Program}{w:World}{r bm In c0 Ac:Nat}{seen:Array Nat}{es:Array MapEntry}(hr:w.heap[r]? =some (.mapIter (some bm) In seen c0))(hb:w.heap[bm]? =some (.map es Ac))(Mk: ∀ x∈es.toList,x.born<In)(hsc:In<=c0)(ty:TypeId):
 ((leftOf es seen).size=0/\ (Instr.next (.pointer (some ⟨r,0,none⟩)) false ty).run P w= .ok (.tuple #[.bool false]) w)∨
 ∃ e∈(leftOf es seen).toList,∃ w1:World,(w1=w∨w1=w.drew)/\ (Instr.next (.pointer (some ⟨r,0,none⟩)) false ty).run P w= .ok (.tuple #[.bool true,e.key,e.val]) { w1 with heap:=w1.heap.setIfInBounds r (.mapIter (some bm) In (seen.push e.born) Ac) }:=by
 simp only [Instr.next,getObj,zA6,Sem.run,hr,hb,Result.andThen,next_test_false seen es In c0 Mk hsc,zCe,zGQ];unfold leftOf;have D8: ∀ x∈(Array.filter (fun e=>!seen.contains e.born) es).toList,x.born<In:=fun x hx=>Mk x (by simp at hx ⊢;exact hx.1)
 generalize Array.filter (fun e=>!seen.contains e.born) es=L at D8 ⊢
 have e1:L.filter (fun x=>decide (x.born<In))=L:=Array.filter_eq_self.2 (fun x hx=>by simpa using D8 x (by simpa using hx))
 have e2:L.filter (fun x=>decide (x.born>=In))= #[]:=by
  rw [Array.filter_eq_empty_iff];intro x hx;have:=D8 x (by simpa using hx);simp;omega
 simp only [e1,e2,Array.append_empty]
 by_cases h0:L.size=0
 ·left;have:L= #[]:=zGr h0;subst this;refine ⟨rfl,?_⟩;simp [choose,Sem.run,Question.forced]
 ·right;have Ad:L.isEmpty=false:=by simp [Array.isEmpty,h0]
  simp only [Ad,zCe,zGQ,Array.empty_append,Array.size_map]
  have Xo: ∃ (j:Nat) (w1:World),j<L.size/\ (w1=w∨w1=w.drew)/\ (choose (Question.mapNext L.size)).run P w= .ok j w1:=by
   by_cases hf:L.size<=1
   ·exact ⟨0,w,by omega,.inl rfl,by simp [choose,Sem.run,Question.forced,hf]⟩
   ·exact ⟨_,w.drew,zHx _ (by omega),.inr rfl,by
     simp only [choose,Sem.run,Question.forced,zCQ,hf,zGQ,Question.cut];rfl⟩
  obtain ⟨j,w1,hj,O0,J4⟩:=Xo;have I4:w1.heap[r]? =some (.mapIter (some bm) In seen c0):=by rcases O0 with rfl | rfl <;> exact hr
  refine ⟨L[j],by simp,w1,O0,?_⟩;simp only [J4,Array.getElem?_map,zCF hj,zCO,zA6,setObj,Sem.run,I4,Result.andThen];rfl
section
variable {P:Program} {Γ:At} {N:Nat -> Prop} {S:St} {ρ:List AH} {a:Act} {w:World} {F:Fence} {B:Option Nat} {L:Nat} {Y:BQ P Γ L} {Q:QY P Γ L}
theorem AR.setMo (R:AR P Γ N S ρ a w){k:Nat}{x x':MX}{p:AH}(hk:S.h[k]? =some (some (.mo x)))(hp:ρ[k]? =some p)(hO:NM w p x')(hc: ∀ b,p.foot b -> Dm w b):
 AR P Γ N ⟨S.fr,S.h.set k (some (.mo x'))⟩ ρ a w/\ A5 S.h ρ w (S.h.set k (some (.mo x'))) ρ w:=
 ⟨⟨R.hr.write hk hp (AO.refl _ _) hc hO,R.fr.out (BS.write trivial hk hp (AO.refl p.foot w))⟩,A5.write hk hp (AO.refl _ _)⟩
theorem FM.relock {p:AH}{n:Nat}{ls:List (Option KS)}{vs:Array Value}(hS:FM w p n ls none vs){i:Nat}(hi:(ls.getD i none).isSome=true): ∃ g:LK,FM w p n ls (some (i,g)) vs:=by
 obtain ⟨mb,g1,g2,g3,es,Ac,g4,_⟩:=hS.has i _ (Qs hi);refine ⟨(mb,es,Ac),{ hS with has:=fun j l hl=>?_ }⟩
 by_cases e:j=i
 ·subst e;have:l=(ls.getD j none).getD []:=by have:=Qs hi;rw [hl] at this;exact zAe (zAe this)
  subst this;exact ⟨mb,g1,g2,g3,es,Ac,g4,fun x hx _=>by cases hx;rfl⟩
 ·obtain ⟨b,k1,k2,k3,Ia,c1,k4,_⟩:=hS.has j l hl;exact ⟨b,k1,k2,k3,Ia,c1,k4,fun x hx hj=>by cases hx;exact absurd hj.symm e⟩
theorem FM.unlock {p:AH}{n:Nat}{ls:List (Option KS)}{lk:Option (Nat×LK)}{vs:Array Value}(hS:FM w p n ls lk vs):FM w p n ls none vs:=
 { hS with has:=fun j l hl=>let ⟨b,k1,k2,k3,Ia,c1,k4,_⟩:=hS.has j l hl;⟨b,k1,k2,k3,Ia,c1,k4,fun x hx=>by cases hx⟩ }
theorem Tr.lock {c:Code}{j i n:Nat}{ls:List (Option KS)}(hk:S.h[j]? =some (some (.mo (.sets n ls none))))(hi:(ls.getD i none).isSome=true)(H: ∀ g:LK,Tr P Γ F B L Y c ⟨S.fr,S.h.set j (some (.mo (.sets n ls (some (i,g)))))⟩ Q):Tr P Γ F B L Y c S Q:=fun N ρ a w R y m b=>by
 obtain ⟨p,hp,vs,hS⟩:=R.hr.obj j _ hk;obtain ⟨g,Mt⟩:=hS.relock hi;obtain ⟨R',st⟩:=R.setMo hk hp (x':=.sets n ls (some (i,g))) ⟨vs,Mt⟩ fun b hb=>hS.lies hb
 exact H g N ρ a w R' (Y.st y R.hr R'.hr st (CI.refl _ _)) m b
def mM:List KI -> Bool
 | .code _::_=>true
 | _=>false
theorem Bg.lock {K:List KI}{fr:List DV}{h:DH}(j i n:Nat){ls:List (Option KS)}(hk:h[j]? =some (some (.mo (.sets n ls none))))(hi:(ls.getD i none).isSome=true)(hK:mM K=true)(h':LK -> DH)(he:h'=fun g=>h.set j (some (.mo (.sets n ls (some (i,g))))))(H: ∀ g:LK,Ap P Γ F B L Y Q K ⟨fr,h' g⟩):Ap P Γ F B L Y Q K ⟨fr,h⟩:=by
 subst he;unfold mM at hK;split at hK
 ·exact Tr.lock (S:=⟨fr,h⟩) hk hi H
 ·cases hK
theorem xw (R:AR P Γ N S ρ a w){m j n n' i:Nat}{ls:List (Option KS)}{g:LK}{rem:KS}{Ex:Option (List Int)}(hm:S.h[m]? =some (some (.mo (.mit n g.1 g.2.1 g.2.2 rem Ex))))(hj:S.h[j]? =some (some (.mo (.sets n' ls (some (i,g))))))(hi:(ls.getD i none).isSome=true){v:Value}(hv:AK (MS N S.h ρ) w (.it m) ρ v)(ty:TypeId):
 (rem= []/\ (Instr.next v false ty).run P w= .ok (.tuple #[.bool false]) w)∨∃ y∈rem,∃ (k u:Value) (w':World) (p:AH),(Instr.next v false ty).run P w= .ok (.tuple #[.bool true,k,u]) w'/\ ρ[m]? =some p/\ AO p.foot w w'/\ NM w' p (.mit n g.1 g.2.1 g.2.2 (rem.erase y) (some y))/\ ∀ b,p.foot b -> Dm w' b:=by
 obtain ⟨p,hp,rfl⟩:=hv;obtain ⟨p',BC,h0,h1,h2,seen,h3,h4,h5⟩:=R.hr.obj m _ hm;have:p'=p:=zAe (BC.symm.trans hp);subst this;obtain ⟨q,hq,vs,hS⟩:=R.hr.obj j _ hj;obtain ⟨b,k1,k2,k3,Ia,Ym,k4,k5⟩:=hS.has i _ (Qs hi);have k5:=k5 _ rfl rfl;obtain ⟨mb,es,Ac⟩:=g
 have e3:mb=b/\ es=Ia/\ Ac=Ym:=by
  have:(mb,es,Ac)=(b,Ia,Ym):=k5;simpa using this
 obtain ⟨rfl,rfl,rfl⟩:=e3;simp only at h3 h4 h5;rw [h1];have Mk: ∀ x∈es.toList,x.born<Ac:=k4.born;rcases vK (P:=P) h3 k4.blk Mk (zA5 _) ty with ⟨e1,e2⟩ | ⟨e,he,w1,Tt,e2⟩
 ·refine .inl ⟨?_,e2⟩;have:(leftOf es seen)= #[]:=zGr e1;rw [this] at h4;have:=h4.length_eq;simp at this;exact zDI this.symm
 ·have hek:e.key∈rem.map BR:=h4.mem_iff.1 (zDA.2 ⟨e,he,rfl⟩);obtain ⟨y,hy,mc⟩:=zDA.1 hek;have hes:e∈es.toList:=by simp [leftOf] at he ⊢;exact he.1
  have zA2:p'.blk<w.heap.size:=(zAZ.1 h3).1;have zAc:w1.heap=w.heap:=by rcases Tt with rfl | rfl <;> rfl
  have hU:AO p'.foot w { w1 with heap:=w1.heap.setIfInBounds p'.blk (.mapIter (some mb) Ac (seen.push e.born) Ac) }:=by
   rw [h2]
   have u1:AO (fun k=>k=p'.blk) w w1:=by
    rcases Tt with rfl | rfl
    ·exact AO.refl _ _
    ·exact AO.ofExt (Aq.toDrew w)
   exact u1.trans (Rj _)
  have IW:({ w1 with heap:=w1.heap.setIfInBounds p'.blk (.mapIter (some mb) Ac (seen.push e.born) Ac) }:World).heap[p'.blk]? =some (.mapIter (some mb) Ac (seen.push e.born) Ac):=by
   show (w1.heap.setIfInBounds _ _)[_]? =_
   simp [zAc,zA2]
  refine .inr ⟨y,hy,e.key,e.val,_,p',e2,hp,hU,⟨fun x hx=>?_,h1,h2,seen.push e.born,IW,?_,fun x hx=>?_⟩,fun b hb=>?_⟩
  ·rcases hx with hx | hx
   ·exact h0 x (.inl (zHi hx))
   ·have ex:y=x:=zAe hx;subst ex;exact h0 y (.inl hy)
  ·have hl:leftOf es (seen.push e.born)=(leftOf es seen).filter fun x=>x.born != e.born:=by
    unfold leftOf;rw [Array.filter_filter]
    congr 1
    funext x
    simp only [Array.contains_push,Bool.not_or];rw [Bool.and_comm];simp [bne,Bool.beq_comm]
   have Ar:((leftOf es seen).toList.map (·.born)).Nodup:=by
    have:((leftOf es seen).toList.map (·.born)).Sublist (es.toList.map (·.born)):=by
     unfold leftOf;rw [Array.toList_filter];exact List.filter_sublist.map _
    exact this.nodup k4.stamps
   have zCc: ∀ (l:List MapEntry),(l.map (·.born)).Nodup -> e∈l -> (l.map (·.key)).Perm (e.key::((l.filter fun x=>x.born != e.born).map (·.key))):=by
    intro l
    induction l with
    | nil=>intro _ h;cases h
    | cons x l ih=>
     intro hn hx;rw [zDT,zHO] at hn
     by_cases md:x=e
     ·subst md
      have:(l.filter fun y=>y.born != x.born)=l:=List.filter_eq_self.2 fun y hy=>by
       simp only [zC8,ne_eq];exact fun hc=>hn.1 (by rw [←hc];exact zDA.2 ⟨y,hy,rfl⟩)
      simp [this]
     ·have UB:e∈l:=(zCD.1 hx).resolve_left fun h=>md h.symm
      have Ad:(x.born != e.born)=true:=by
       simp only [zC8,ne_eq];exact fun hc=>hn.1 (by rw [hc];exact zDA.2 ⟨e,UB,rfl⟩)
      rw [List.filter_cons,zAM Ad,zDT,zDT];exact ((ih hn.2 UB).cons x.key).trans (List.Perm.swap e.key x.key _)
   have P1:=zCc _ Ar he;rw [hl,Array.toList_filter];have P2:(rem.map BR).Perm (BR y::(rem.erase y).map BR):=(List.perm_cons_erase hy).map BR;have P3:=P1.symm.trans (h4.trans P2);rw [←mc] at P3;exact List.Perm.cons_inv P3
  ·have ex:y=x:=zAe hx;subst ex;exact ⟨e,hes,mc.symm,by simp⟩
  ·rw [h2] at hb;exact ⟨_,rfl,(),by rw [show b=p'.blk from hb];exact IW⟩
theorem Tr.next (hF:C9 F P){id:Nat}{ops:Array Oper}(Ar:Cc ops=true){o:Oper}{rest:List Oper}(Xb:ops.toList=o::rest){x:Operand}(ho:o.op= .next x false)(hw:JV ops S o=some true){m j n n' i:Nat}{ls:List (Option KS)}{g:LK}{rem:KS}{Ex:Option (List Int)}(hx:AW S.fr x= .it m)(hm:S.h[m]? =some (some (.mo (.mit n g.1 g.2.1 g.2.2 rem Ex))))(hj:S.h[j]? =some (some (.mo (.sets n' ls (some (i,g))))))(nE:m≠j)(hi:(ls.getD i none).isSome=true) 
 (h0:rem= [] -> ∃ S' vs o0 o',Di P Γ ops rest ⟨Ck S.fr o.dst (.tup 1 (L1 [.bool false])),(S.h.set j (some (.mo (.sets n' ls none)))).set m none⟩ o0=some (S',vs,o')/\ BZ vs/\ Q .normal S' Y)
 (h1: ∀ y∈rem,∃ S' vs o0 o',Di P Γ ops rest ⟨Ck S.fr o.dst (.tup 3 (L1 [.bool true])),S.h.set m (some (.mo (.mit n g.1 g.2.1 g.2.2 (rem.erase y) (some y))))⟩ o0=some (S',vs,o')/\ BZ vs/\ Q .normal S' Y):Tr P Γ F B L Y (.region id ops false) S Q:=fun N ρ a w R y mk b=>by
 refine zGs ?_;rw [Xb];have hd: ∀ c,o.op≠.defer c:=fun c e=>by rw [ho] at e;cases e
 have Eg: ∀ o'∈rest,o'∈ops:=fun o' J5=>by
  have:o'∈ops.toList:=by rw [Xb];exact zCB _ J5
  simpa using this
 have CS: ∀ v,(a.put o.dst v).defers=a.defers:=fun v=>by cases ho:o.dst <;> simp [Act.put]
 have rx:=Bj R x;rw [hx] at rx;unfold wpListIn;rw [zAM (H8 R hw)];have KD:execOp a.eval o=(do pure (.value (←Instr.next (a.eval x) false o.type))):=by unfold execOp;rw [ho]
 have AM:m<S.h.length:=(zAf.1 hm).1;rcases xw R hm hj hi rx o.type with ⟨e1,e2⟩ | ⟨ky,hky,k,u,w',p,e2,hp,hU,hO,hC⟩
 ·obtain ⟨S',vs,o0,o',g1,g2,g3⟩:=h0 e1;obtain ⟨q,hq,rB,hS⟩:=R.hr.obj j _ hj;obtain ⟨R1,DX⟩:=R.setMo hj hq (x':=.sets n' ls none) ⟨rB,hS.unlock⟩ fun b hb=>hS.lies hb
  have R2:AR P Γ N ⟨S.fr,(S.h.set j (some (.mo (.sets n' ls none)))).set m none⟩ ρ a w:=⟨R1.hr.kill m,R1.fr.out (BS.kill m)⟩
  have R3:=G6 R2 o.dst (d:=.tup 1 (L1 [.bool false])) (v:=.tuple #[.bool false]) ⟨#[.bool false],rfl,rfl,fun jj Mo=>by
   have:jj=0:=by omega
   subst this;exact ⟨_,rfl,rfl⟩⟩
  refine KU hF hd (G:=fun v w2=>v= .tuple #[.bool false]/\ w2=w) (BL.value (s:=Instr.next (a.eval x) false o.type) KD e2 ⟨rfl,rfl⟩) fun v w2 ⟨hv,Ts⟩=>?_
  subst hv Ts;refine KL hF Ar rest Eg R3 g1 g2 fun ρ' a' w3 R' st Cm=>?_
  exact Tr.done R y mk b g3 R' ((DX.trans (A5.kill m)).trans st.st) (fun k p _ hp=>st.pl k p hp) (Cm.trans (CS _))
 ·obtain ⟨S',vs,o0,o',g1,g2,g3⟩:=h1 ky hky;have DX:=A5.write (h:=S.h) (o':=.mo (.mit n g.1 g.2.1 g.2.2 (rem.erase ky) (some ky))) hm hp hU;have R1:AR P Γ N ⟨S.fr,S.h.set m (some (.mo (.mit n g.1 g.2.1 g.2.2 (rem.erase ky) (some ky))))⟩ ρ a w':=⟨R.hr.write hm hp hU hC hO,R.fr.out (BS.write trivial hm hp hU)⟩
  have R3:=G6 R1 o.dst (d:=.tup 3 (L1 [.bool true])) (v:=.tuple #[.bool true,k,u]) ⟨#[.bool true,k,u],rfl,rfl,fun jj Mo=>by
   match jj,Mo with
   | 0,_=>exact ⟨_,rfl,rfl⟩
   | 1,_=>exact ⟨_,rfl,trivial⟩
   | 2,_=>exact ⟨_,rfl,trivial⟩⟩
  refine KU hF hd (G:=fun v w2=>v= .tuple #[.bool true,k,u]/\ w2=w') (BL.value (s:=Instr.next (a.eval x) false o.type) KD e2 ⟨rfl,rfl⟩) fun v w2 ⟨hv,Ts⟩=>?_
  subst hv Ts;refine KL hF Ar rest Eg R3 g1 g2 fun ρ' a' w3 R' st Cm=>?_
  exact Tr.done R y mk b g3 R' (DX.trans st.st) (fun k p _ hp=>st.pl k p hp) (Cm.trans (CS _))
def aq (ops:Array Oper):Operand:=match ops.toList with
 | o::_=>match o.op with
  | .next x _=>x
  | _=>.tmp 0
 | []=>.tmp 0
def Wl (ops:Array Oper):Option Tmp:=match ops.toList with
 | o::_=>o.dst
 | []=>none
def OF (ops:Array Oper):List Oper:=ops.toList.tail
def ar (ops:Array Oper):Bool:=match ops.toList with
 | o::_=>match o.op with
  | .next _ false=>o.guard.isNone&&Cc ops
  | _=>false
 | []=>false
theorem xc {ops:Array Oper}(h:ar ops=true):Cc ops=true/\ ∃ o,ops.toList=o::OF ops/\ o.op= .next (aq ops) false/\ o.guard=none/\ o.dst=Wl ops:=by
 unfold ar at h;unfold aq Wl OF;split at h
 ·rename_i o rest Xb;rw [Xb];split at h
  ·rename_i x ho;simp only [zAW,Option.isNone_iff_eq_none] at h;refine ⟨h.2,o,rfl,?_,h.1,rfl⟩;simp only [ho]
  ·cases h
 ·cases h
def Wf (live σ:List Nat)(L:Nat)(r:St×List Prop×BE):List DV×DH×List Prop×Bool:=((comp live σ r.1).fr,(comp live σ r.1).h,r.2.1,Jb σ L r.1.h.length)
theorem Ap.nx (hX:HX F P){K:List KI}{ops:Array Oper}{fr:List DV}{h:DH}(hK:Kv K=some (ops,DW K))(Bu:ar ops=true)(m j i n:Nat)(ls:List (Option KS))(g:LK)(rem:KS)(Ex:Option (List Int))(live σ:List Nat)(oO:List DV)(h0:DH)(σ1:List Nat)(X4:List Int -> List DV)(h1:List Int -> DH) 
 (hx:AW fr (aq ops)= .it m) (hm:h[m]? =some (some (.mo (.mit n g.1 g.2.1 g.2.2 rem Ex)))) (hj:h[j]? =some (some (.mo (.sets n ls (some (i,g)))))) (nE:m≠j) (hi:(ls.getD i none).isSome=true) (hc:IM (DW K)=true)
 (c0:(Di P Γ ops (OF ops) ⟨Ck fr (Wl ops) (.tup 1 (L1 [.bool false])),(h.set j (some (.mo (.sets n ls none)))).set m none⟩ ⟨[],[],[],[]⟩).map (Wf live σ L)=some (oO,h0,[],true))
 (c1: ∀ y,(Di P Γ ops (OF ops) ⟨Ck fr (Wl ops) (.tup 3 (L1 [.bool true])),h.set m (some (.mo (.mit n g.1 g.2.1 g.2.2 (rem.erase y) (some y))))⟩ ⟨[],[],[],[]⟩).map (Wf live σ1 L)=some (X4 y,h1 y,[],true))
 (k0:rem= [] -> Ap P Γ F B L Y Q (DW K) ⟨oO,h0⟩) (k1: ∀ y∈rem,Ap P Γ F B L Y Q (DW K) ⟨X4 y,h1 y⟩):Ap P Γ F B L Y Q K ⟨fr,h⟩:=by
 have go: ∀ {S:St} {live σ:List Nat} {HP:List DV} {h':DH},(Di P Γ ops (OF ops) S ⟨[],[],[],[]⟩).map (Wf live σ L)=some (HP,h',[],true) -> Ap P Γ F B L Y Q (DW K) ⟨HP,h'⟩ -> ∃ S' vs o0 o',Di P Γ ops (OF ops) S o0=some (S',vs,o')/\ BZ vs/\ Ap P Γ F B L Y Q (DW K) S':=by
  intro S live σ HP h' Oy hk;cases hr:Di P Γ ops (OF ops) S ⟨[],[],[],[]⟩ with
  | none=>rw [hr] at Oy;cases Oy
  | some r=>
   obtain ⟨S1,v1,o1⟩:=r;rw [hr] at Oy;simp only [zCO,Wf,zCR,zCp] at Oy;obtain ⟨rfl,rfl,rfl,hs⟩:=Oy;exact ⟨S1,_,_,_,hr,trivial,Bg.le (A0.comp live σ S1 hs) hc hk⟩
 unfold Kv at hK;split at hK
 ·rename_i id OD k';have e:=zAe hK;simp only [DW,zCp,and_true] at e;subst e;obtain ⟨Ar,o,q1,q2,q3,q4⟩:=xc Bu;exact Tr.next (S:=⟨fr,h⟩) hX.f Ar q1 q2 (by unfold JV;rw [q3]) hx hm hj nE hi (fun e=>by rw [q4];exact go c0 (k0 e)) (fun y hy=>by rw [q4];exact go (c1 y) (k1 y hy))
 ·cases hK
end
abbrev zAl:=@Nat.lt_succ_iff_lt_or_eq
abbrev zCX:=@List.mem_cons_self
def Af {R:Type}(f:Nat -> Option R)(Q:R -> Prop):Prop:=∃ N,∀ n,N<=n -> ∃ r,f n=some r/\ Q r
def Ev {R:Type}(f:Nat -> Option R)(r:R):Prop:=∃ N,∀ n,N<=n -> f n=some r
section
variable {R T:Type} {f g:Nat -> Option R} {Q Q':R -> Prop} {r:R}
theorem Ev.p (h:Ev f r)(hq:Q r):Af f Q:=let ⟨N,h⟩:=h;⟨N,fun n hn=>⟨r,h n hn,hq⟩⟩
theorem Af.ev (h:Af f Q)(hu: ∀ r r',Q r -> Q r' -> r=r'): ∃ r,Q r/\ Ev f r:=by
 obtain ⟨N,h⟩:=h;obtain ⟨r,h1,h2⟩:=h N (zA5 _);refine ⟨r,h2,N,fun n hn=>?_⟩;obtain ⟨r',h3,h4⟩:=h n hn;rw [h3,hu _ _ h4 h2]
theorem Af.mono (h:Af f Q)(hq: ∀ r,Q r -> Q' r):Af f Q':=let ⟨N,h⟩:=h;⟨N,fun n hn=>let ⟨r,h1,h2⟩:=h n hn;⟨r,h1,hq r h2⟩⟩
theorem Af.step (k:Nat)(h: ∀ n,f (n+k)=g n)(hg:Af g Q):Af f Q:=by
 obtain ⟨N,hg⟩:=hg;refine ⟨N+k,fun n hn=>?_⟩;have:=hg (n-k) (by omega);rw [←h,show n-k+k=n by omega] at this;exact this
theorem Ev.step (k:Nat)(h: ∀ n,f (n+k)=g n)(hg:Ev g r):Ev f r:=by
 obtain ⟨N,hg⟩:=hg;refine ⟨N+k,fun n hn=>?_⟩;have:=hg (n-k) (by omega)
 rwa [←h,show n-k+k=n by omega] at this
theorem Ev.now (h: ∀ n,f n=some r):Ev f r:=⟨0,fun n _=>h n⟩
theorem Ev.from (N:Nat)(h: ∀ n,N<=n -> f n=some r):Ev f r:=⟨N,h⟩
theorem Ev.eq {f g:Nat -> Option R}(h:Ev g r)(e: ∀ n,f n=g n):Ev f r:=let ⟨N,h⟩:=h;⟨N,fun n hn=>(e n).trans (h n hn)⟩
theorem Af.eq {f g:Nat -> Option R}(h:Af g Q)(e: ∀ n,f n=g n):Af f Q:=let ⟨N,h⟩:=h;⟨N,fun n hn=>by rw [e];exact h n hn⟩
theorem Ev.bind {a:Nat -> Option T}{x:T}{b:Nat -> T -> Option R}(ha:Ev a x)(hb:Ev (fun n=>b n x) r):Ev (fun n=>(a n).bind (b n)) r:=by
 obtain ⟨N,ha⟩:=ha;obtain ⟨M,hb⟩:=hb;refine ⟨max N M,fun n hn=>?_⟩
 show (a n).bind (b n)=_
 rw [ha n (by omega),zAS];exact hb n (by omega)
theorem Af.bind {a:Nat -> Option T}{x:T}{b:Nat -> T -> Option R}(ha:Ev a x)(hb:Af (fun n=>b n x) Q):Af (fun n=>(a n).bind (b n)) Q:=by
 obtain ⟨N,ha⟩:=ha;obtain ⟨M,hb⟩:=hb;refine ⟨max N M,fun n hn=>?_⟩
 show ∃ r,(a n).bind (b n)=some r/\ _
 rw [ha n (by omega),zAS];exact hb n (by omega)
theorem Af.all {l:List T}{F:T -> Nat -> Option R}(h: ∀ y∈l,Af (F y) Q): ∃ N,∀ n,N<=n -> ∀ y∈l,∃ r,F y n=some r/\ Q r:=by
 induction l with
 | nil=>exact ⟨0,fun n _ y hy=>absurd hy zDu⟩
 | cons x l ih=>
  obtain ⟨N,hN⟩:=ih fun y hy=>h y (zCB _ hy)
  obtain ⟨M,hM⟩:=h x zCX;refine ⟨max N M,fun n hn y hy=>?_⟩;rcases zCD.1 hy with rfl | hy
  ·exact hM n (by omega)
  ·exact hN n (by omega) y hy
theorem Af.range {F:Nat -> Nat -> Option R}{A:Nat -> R -> Prop}: ∀ (k:Nat),(∀ i,i<k -> Af (F i) (A i)) -> ∃ N,∀ n,N<=n -> ∀ i,i<k -> ∃ r,F i n=some r/\ A i r
 | 0,_=>⟨0,fun n _ i hi=>absurd hi (zAv i)⟩
 | k+1,h=>by
  obtain ⟨N,hN⟩:=Af.range k fun i hi=>h i (by omega)
  obtain ⟨M,hM⟩:=h k (by omega);refine ⟨max N M,fun n hn i hi=>?_⟩;rcases zAl.1 hi with hi | rfl
  ·exact hN n (by omega) i hi
  ·exact hM n (by omega)
theorem Af.next [DecidableEq R] {rem:KS} {a:Nat -> Option R} {F:Nat -> List Int -> Option R} (hn:rem≠[]) (h: ∀ y∈rem,Af (fun n=>F n y) Q) (hu: ∀ r r',Q r -> Q r' -> r=r'):Af (fun n=>IG rem (a n) (F n)) Q:=by
 obtain ⟨N,hN⟩:=Af.all h;refine ⟨N,fun n Qd=>?_⟩;obtain ⟨y0,hy0⟩:=List.exists_mem_of_ne_nil rem hn;obtain ⟨r,h1,h2⟩:=hN n Qd y0 hy0;refine ⟨r,xV hn fun y hy=>?_,h2⟩;obtain ⟨r',h3,h4⟩:=hN n Qd y hy;rw [hu _ _ h2 h4];exact h3
end
def BK {T R:Type}(m:Nat -> T -> Option R)(a b:T):Prop:=∃ N S,∀ n,N<=n -> m (n+S) a=m n b
section
variable {T R:Type} {m:Nat -> T -> Option R} {a b c:T} {r:R} {Q:R -> Prop}
theorem BK.refl:BK m a a:=⟨0,0,fun _ _=>rfl⟩
theorem BK.one (h: ∀ n,m (n+1) a=m n b):BK m a b:=⟨0,1,fun n _=>h n⟩
theorem BK.oneN (N:Nat)(h: ∀ n,N<=n -> m (n+1) a=m n b):BK m a b:=⟨N,1,h⟩
theorem BK.trans (h:BK m a b)(h2:BK m b c):BK m a c:=by
 obtain ⟨N,S,h⟩:=h;obtain ⟨N2,S2,h2⟩:=h2;exact ⟨max N N2,S2+S,fun n hn=>by rw [←zCg,h _ (by omega),h2 _ (by omega)]⟩
theorem BK.ev (h:BK m a b)(h2:Ev (fun n=>m n b) r):Ev (fun n=>m n a) r:=by
 obtain ⟨N,S,h⟩:=h;obtain ⟨M,h2⟩:=h2;refine ⟨max N M+S,fun n hn=>?_⟩;have:=h (n-S) (by omega);rw [show n-S+S=n by omega] at this;exact this.trans (h2 (n-S) (by omega))
theorem BK.pev (h:BK m a b)(h2:Af (fun n=>m n b) Q):Af (fun n=>m n a) Q:=by
 obtain ⟨N,S,h⟩:=h;obtain ⟨M,h2⟩:=h2;refine ⟨max N M+S,fun n hn=>?_⟩;have:=h (n-S) (by omega);rw [show n-S+S=n by omega] at this;obtain ⟨r,h3,h4⟩:=h2 (n-S) (by omega);exact ⟨r,this.trans h3,h4⟩
theorem Ev.one (h: ∀ n,m (n+1) a=some r):Ev (fun n=>m n a) r:=⟨1,fun n hn=>by
 obtain ⟨k,rfl⟩: ∃ k,n=k+1:=⟨n-1,by omega⟩;exact h k⟩
theorem Ev.oneN (N:Nat)(h: ∀ n,N<=n -> m (n+1) a=some r):Ev (fun n=>m n a) r:=⟨N+1,fun n hn=>by
 obtain ⟨k,rfl⟩: ∃ k,n=k+1:=⟨n-1,by omega⟩;exact h k (by omega)⟩
end
class HC (F:Fence):Prop where
 x:HX F Tryz.prog
 w:F=Fence.wide∨∃ l,F=Fence.wide.inRound l
instance:HC Fence.wide:=⟨⟨C9.wide,by kernel_rfl⟩,.inl rfl⟩
instance (l:Nat):HC (Fence.wide.inRound l):=⟨⟨C9.round l,by kernel_rfl⟩,.inr ⟨l,rfl⟩⟩
abbrev DV.i (x:Int):DV:=.int .i64 x
def AC:Bh:=fun _=>.no
def FB:Nat -> List DV -> List Nat
 | _,[]=>[]
 | i,.any::r=>FB (i+1) r
 | i,_::r=>i::FB (i+1) r
section
variable {F:Fence} {B:Option Nat} {L:Nat} {Y N:BQ Tryz.prog GG L} {Q:QY Tryz.prog GG L} {k k':List KI} {S:St} {fr:List DV} {h' h2:DH} {c:List (DV×DH×Bool)} {o:List (Nat×DV)} {z:List (Nat×Fz)} {v w:List Prop}
theorem gz [hX:HC F] (A6:Bh) (σ:List Nat) (hl:HS c o z v) (ks:List Nat) (hz:HS [] [] [] w) (k':List KI) (fr:List DV) (h':DH) (hk:Ap Tryz.prog GG F B L Y Q k' ⟨fr,h'⟩) (tg:List (List (Nat×Nat)×St):=[])
 (h:(CG Tryz.prog GG A6 400 k S ⟨c,o,z,tg⟩).bind (MN (FB 0 fr) σ L ks)=some (.at k',fr,h',v,w,[],[],true):=by kernel_rfl) (hc:IM k'=true:=by kernel_rfl):Ap Tryz.prog GG F B L Y Q k S:=
 Bg.gS hX.x A6 400 (FB 0 fr) σ tg hl ks hz k' fr h' h hc hk
theorem gs [hX:HC F] (A6:Bh) (σ:List Nat) (hl:HS c o z v) (k':List KI) (fr:List DV) (h':DH) (hk:Ap Tryz.prog GG F B L Y Q k' ⟨fr,h'⟩) (tg:List (List (Nat×Nat)×St):=[])
 (h:(CG Tryz.prog GG A6 400 k S ⟨c,o,z,tg⟩).bind (MN (FB 0 fr) σ L [])=some (.at k',fr,h',v,[],[],[],true):=by kernel_rfl) (hc:IM k'=true:=by kernel_rfl):Ap Tryz.prog GG F B L Y Q k S:=
 Bg.gS hX.x A6 400 (FB 0 fr) σ tg hl [] H0 k' fr h' h hc hk
theorem gg [hX:HC F] (A6:Bh) (σ:List Nat) (hl:HS c o z v) (hk:Ap Tryz.prog GG F B L Y Q k' ⟨fr,h'⟩) (tg:List (List (Nat×Nat)×St):=[])
 (h:(CG Tryz.prog GG A6 400 k S ⟨c,o,z,tg⟩).bind (MN (FB 0 fr) σ L [])=some (.at k',fr,h',v,[],[],[],true):=by kernel_rfl) (hc:IM k'=true:=by kernel_rfl):Ap Tryz.prog GG F B L Y Q k S:=
 Bg.gS hX.x A6 400 (FB 0 fr) σ tg hl [] H0 k' fr h' h hc hk
theorem el [hX:HC F] {fn:Func} {d:DV} (A6:Bh) (live σ:List Nat) (hl:HS c o z v) (ks:List Nat) (hz:HS [] [] [] w) (rs:List DV) (le:AS (Hg rs) d) (tg:List (List (Nat×Nat)×St):=[])
 (h:(CG Tryz.prog GG A6 400 k S ⟨c,o,z,tg⟩).bind (Jn Tryz.prog live σ L ks fn d h2.length)=some (true,rs,h2,v,w,[],[],true):=by kernel_rfl):Bg Tryz.prog GG F B L N (DS Tryz.prog fn L d h2) k S:=
 Bg.el hX.x A6 400 live σ tg hl ks hz rs le h
theorem ez [hX:HC F] {fn:Func} {d:DV} (A6:Bh) (live σ:List Nat) (hl:HS c o z v) (ks:List Nat) (hz:HS [] [] [] w) (tg:List (List (Nat×Nat)×St):=[])
 (h:(CG Tryz.prog GG A6 400 k S ⟨c,o,z,tg⟩).bind (fun r=>(Jn Tryz.prog live σ L ks fn d h2.length r).map fun q=>(q.1,Hg q.2.1,q.2.2))=some (true,d,h2,v,w,[],[],true):=by kernel_rfl):Bg Tryz.prog GG F B L N (DS Tryz.prog fn L d h2) k S:=
 Bg.e hX.x A6 400 live σ tg hl ks hz h
theorem ee [hX:HC F] {fn:Func} {d:DV} (A6:Bh) (live σ:List Nat) (hl:HS c o z v) (tg:List (List (Nat×Nat)×St):=[])
 (h:(CG Tryz.prog GG A6 400 k S ⟨c,o,z,tg⟩).bind (fun r=>(Jn Tryz.prog live σ L [] fn d h2.length r).map fun q=>(q.1,Hg q.2.1,q.2.2))=some (true,d,h2,v,[],[],[],true):=by kernel_rfl):Bg Tryz.prog GG F B L N (DS Tryz.prog fn L d h2) k S:=
 Bg.e hX.x A6 400 live σ tg hl [] H0 h
theorem rr [hX:HC F] {ex:List Exit} {i:Nat} {e:Exit} (A6:Bh) (σ:List Nat) (he:(Exit.normal::ex)[i]? =some e) (hl:HS c o z v) (tg:List (List (Nat×Nat)×St):=[])
 (h:(CG Tryz.prog GG A6 400 k S ⟨c,o,z,tg⟩).map (ah σ L)=some (some e,h2,v,[],[],[],true):=by kernel_rfl):Bg Tryz.prog GG F B L N (Cp L ex i h2) k S:=
 Bg.r hX.x A6 400 σ tg hl he h
theorem ag [hX:HC F] {Q:Exit -> St -> Prop} {assign body:Code} (A6:Bh) (σ:List Nat) (hl:HS c o z v) (fr:List DV) (h':DH) (hk: ∀ N2:BQ Tryz.prog GG L,Bg Tryz.prog GG F B L N2 Q [.code body] ⟨fr,h'⟩)
 (h:(CG Tryz.prog GG A6 400 [.code assign] S ⟨c,o,z,[]⟩).map (TE (FB 0 fr) σ L)=some (.at [],fr,h',v,[],[],true):=by kernel_rfl):GY Tryz.prog GG F B L N Q assign body S:=
 GY.g hX.x A6 400 (FB 0 fr) σ hl fr h' h hk
theorem rd {n m:Nat}(hm:n+1<=m)(h: ∀ m,n<=m -> Ap Tryz.prog GG F B L Y Q (f9 m k) S)(hk:OV k=true:=by kernel_rfl):Ap Tryz.prog GG F B L Y Q (A4 m k) S:=Bg.round hm hk h
theorem en (m:Nat)(h:Ap Tryz.prog GG F B L Y Q (A4 m k) S)(hk:OV k=true:=by kernel_rfl):Ap Tryz.prog GG F B L Y Q k S:=Bg.enter m hk h
end
theorem eu {f:Nat}{ds:List DV}{h:DH}{d:DV}{h':DH}{ext:Bool}(FG:ES Tryz.prog GG f ds h d h' ext)(σ:List Nat)(H:DH)(k:Nat)(hb:M7 σ H.length h.length h'.length=true:=by kernel_rfl)(hk:σ.all (fun j=>Nat.ble k j)=true:=by kernel_rfl)(hh:(σ.map fun k=>H.getD k none)=h.map (Ep σ H.length):=by kernel_rfl):PX Tryz.prog GG f (ds.map (up σ H.length)) H (up σ H.length d) (FJ H σ h') k:=FG.embedU σ H k hb hk hh
theorem em {f:Nat}{ds:List DV}{h:DH}{d:DV}{h':DH}{ext:Bool}(FG:ES Tryz.prog GG f ds h d h' ext)(σ:List Nat)(H:DH)(hb:M7 σ H.length h.length h'.length=true:=by kernel_rfl)(hh:(σ.map fun k=>H.getD k none)=h.map (Ep σ H.length):=by kernel_rfl):ES Tryz.prog GG f (ds.map (up σ H.length)) H (up σ H.length d) (FJ H σ h') ext:=ES.emC FG σ H hb hh
theorem fb {f:Nat}{ds:List DV}{d:DV}(h0:ES Tryz.prog GG f ds [] d [] true)(h:DH)(EL:ds.all E8=true:=by kernel_rfl):ES Tryz.prog GG f ds h d h true:=ES.frameB h0 h EL
theorem sb {f:Nat}(ds:List DV){D9:List DV}{d:DV}(h0:ES Tryz.prog GG f D9 [] d [] true)(h:DH)(hs:NG h ds D9)(hd:Vu d=true:=by kernel_rfl):ES Tryz.prog GG f ds h d h true:=ES.snapB h0 h hs hd
theorem ot {f:Nat}{fn:Func}{ds:List DV}{h:DH}{d:DV}{h':DH}{ext:Bool}(hf:Tryz.prog.funcs[f]? =some fn)(H: ∀ (B:Nat) (N:BQ Tryz.prog GG h.length),Bg Tryz.prog GG Fence.wide (some B) h.length N (DS Tryz.prog fn h.length d h') (start fn) ⟨ds++List.replicate (fn.ntmps-ds.length) .any,h⟩) 
 (hb:fn.body.isSome=true:=by kernel_rfl) (Ol:(fn.name== "runtime.NumGoroutine")=false:=by kernel_rfl) (Ty:h'.all Wp=true:=by kernel_rfl) (KC:(!ext||h.isEmpty)=true:=by kernel_rfl):ES Tryz.prog GG f ds h d h' ext:=
 ES.of_trk hf hb Ol (OI Ty) (fun e=>by subst e;simpa using KC) H
section
variable {F:Fence} {B L:Nat} {Y:BQ Tryz.prog GG L} {Q:QY Tryz.prog GG L} {fr:List DV} {h:DH} {K:List KI} {a b:Code} {α σ:Type} {l:List α} {H:σ -> DH} {FR:α -> List DV}
theorem rx [hX:HC F] (ex:List Exit) (kk t:Nat) (ps:Array Tmp) (enc:α -> List DV) (L':Nat) {f:α -> σ -> Option (σ×Nat)} {s0:σ} {rE:σ×Nat} (hf:DP f l s0=some rE)
 (DK: ∀ (l B:Nat) (N:BQ Tryz.prog GG L') (x:α) (s:σ) (r:σ×Nat),f x s=some r -> GY Tryz.prog GG (Fence.wide.inRound l) (some B) L' N (Cp L' ex r.2 (H r.1)) a b ⟨FR x,H s⟩)
 (Dt: ∀ e,(Exit.normal::ex)[rE.2]? =some e -> Dl Tryz.prog GG F (some B) L Q (DW K) e ⟨fr,H rE.1⟩ Y) (KD:(ex.all fun e=>(LZ e).isSome)=true:=by kernel_rfl)
 (hK:Nx K=some (.tmp t,ps,a,b,DW K):=by kernel_rfl) (hg:AW fr (.tmp t)= .it kk:=by kernel_rfl) (hk:h[kk]? =some (some (.iter (l.map enc))):=by kernel_rfl) (EJ: ∀ x,(enc x).length=ps.size:=by exact fun _=>rfl) (hL:Nat.ble L L'=true:=by kernel_rfl) (Gq:fr.all (DI L')=true:=by kernel_rfl) (h0:h.set kk none=H s0:=by kernel_rfl) (Cu:(fun x=>Io fr ps.toList (enc x))=FR:=by kernel_rfl):Ap Tryz.prog GG F (some B) L Y Q K ⟨fr,h⟩:=
 Bg.rg hX.w ex KD kk t ps enc L' hf DK hK hg hk EJ hL Gq h0 Cu Dt
theorem r0 [hX:HC F] (kk t:Nat) (ps:Array Tmp) (enc:α -> List DV) (L':Nat) {f:α -> σ -> Option σ} {s0 sE:σ} (hf:Bq f l s0=some sE)
 (DK: ∀ (l B:Nat) (N:BQ Tryz.prog GG L') (x:α) (s r:σ),f x s=some r -> GY Tryz.prog GG (Fence.wide.inRound l) (some B) L' N (Cp L' [] 0 (H r)) a b ⟨FR x,H s⟩)
 (Dt:Ap Tryz.prog GG F (some B) L Y Q (DW K) ⟨fr,H sE⟩)
 (hK:Nx K=some (.tmp t,ps,a,b,DW K):=by kernel_rfl) (hg:AW fr (.tmp t)= .it kk:=by kernel_rfl) (hk:h[kk]? =some (some (.iter (l.map enc))):=by kernel_rfl) (EJ: ∀ x,(enc x).length=ps.size:=by exact fun _=>rfl) (hL:Nat.ble L L'=true:=by kernel_rfl) (Gq:fr.all (DI L')=true:=by kernel_rfl) (h0:h.set kk none=H s0:=by kernel_rfl) (Cu:(fun x=>Io fr ps.toList (enc x))=FR:=by kernel_rfl):Ap Tryz.prog GG F (some B) L Y Q K ⟨fr,h⟩:=
 Bg.rg0 hX.w kk t ps enc L' hf DK hK hg hk EJ hL Gq h0 Cu Dt
end
abbrev Yd (L:Nat):=BQ Tryz.prog GG L
abbrev EQ:=ES Tryz.prog GG
abbrev FQ:=DS Tryz.prog
abbrev TW (B:Nat){L:Nat}(N:Yd L)(Q:Exit -> St -> Prop)(k:List KI)(S:St):Prop:=Bg Tryz.prog GG Fence.wide (some B) L N Q k S
abbrev TA (l B:Nat){L:Nat}(N:Yd L)(Q:Exit -> St -> Prop)(fn:Func)(t:Nat)(S:St):Prop:=GY Tryz.prog GG (Fence.wide.inRound l) (some B) L N Q (v6 fn t) (WB fn t) S
abbrev Al {X R:Type}(m:Nat -> X -> Option R)(T:Nat -> R -> X -> Prop):Prop:=∀ n x r,m n x=some r -> T n r x
theorem ia {X R:Type}{m:Nat -> X -> Option R}{T:Nat -> R -> X -> Prop}(h0: ∀ x,m 0 x=none)(h: ∀ n,(∀ x r,m n x=some r -> T n r x) -> ∀ x r,m (n+1) x=some r -> T (n+1) r x):Al m T
 | 0,x,_,e=>by rw [h0 x] at e;cases e
 | n+1,x,r,e=>h n (ia h0 h n) x r e
/-A proof in gE shape of q9 was read off:q9 holds of each way on,gE hints gathered so GA. -/
def Gt {R:Type}(T:R -> Prop)(c:List (DV×DH×Bool))(o:List (Nat×DV))(z:List (Nat×Fz))(v:List Prop)(A:Option R):Prop:=HS c o z v -> ∀ r,A=some r -> T r
section
variable {R R':Type} {T:R -> Prop} {c:List (DV×DH×Bool)} {o:List (Nat×DV)} {z:List (Nat×Fz)} {v:List Prop} {A A':Option R} {r0:R} {b b':Bool} {p q:Prop} {f:Nat} {ds:List DV} {h h':DH} {d d':DV} {e:Bool} {xi:Int}
theorem gO {F:Fence}{B:Option Nat}{L:Nat}{Y:Yd L}{Q:R -> QY Tryz.prog GG L}{k:List KI}{S:St}(t:Gt (fun r=>Ap Tryz.prog GG F B L Y (Q r) k S) [] [] [] [] A): ∀ r,A=some r -> Ap Tryz.prog GG F B L Y (Q r) k S:=t H0
theorem gT (t:Gt T [] [] [] [] A): ∀ r,A=some r -> T r:=t H0
theorem rO (t:Gt T [] [] [] [] A):Gt T c o z v A:=fun _=>t H0
theorem nO:Gt T c o z v none:=fun _ _ h=>by cases h
theorem lF (x:HS c o z v -> T r0):Gt T c o z v (some r0):=fun p _ h=>zAe h▸x p
theorem bn (x:b=true -> Gt T c o z v A)(y:b=false -> Gt T c o z v A'):Gt T c o z v (bif b then A else A'):=fun p r h=>(By h).elim (fun h=>x h.1 p r h.2) (fun h=>y h.1 p r h.2)
theorem bj (t:Nat)(x:b=true -> Gt T c (o++[(t,.bool true)]) z (v++[AS (.bool b) (.bool true)]) A)(y:b=false -> Gt T c (o++[(t,.bool false)]) z (v++[AS (.bool b) (.bool false)]) A'):Gt T c o z v (bif b then A else A'):=bn (fun h p=>x h (p.b t h)) (fun h p=>y h (p.b t h))
theorem bi (t:Nat)(x:Gt T c (o++[(t,.bool true)]) z (v++[AS (.bool b) (.bool true)]) A)(y:Gt T c (o++[(t,.bool false)]) z (v++[AS (.bool b) (.bool false)]) A'):Gt T c o z v (bif b then A else A'):=bj t (fun _=>x) (fun _=>y)
theorem gn {_:Decidable p}(x:p -> Gt T c o z v A):Gt T c o z v (if p then A else none):=fun w r h=>x (B0 h).1 w r (B0 h).2
theorem gi {_:Decidable p}(x:Gt T c o z (v++[p]) A):Gt T c o z v (if p then A else none):=gn fun g w=>x (w.g g)
theorem gc {_:Decidable p}{_:Decidable q}(x:Gt T c o z v (if p then (if q then A else none) else none)):Gt T c o z v (if p/\ q then A else none):=fun w r h=>x w r (by obtain ⟨⟨hp,hq⟩,h⟩:=B0 h;rw [zAM hp,zAM hq];exact h)
theorem gw {_:Decidable (AJ xi)}(t:Nat)(x:Gt T c (o++[(t,.int .i64 xi)]) z (v++[AS (.int .i64 (IntKind.i64.wrap xi)) (.int .i64 xi)]) A):Gt T c o z v (if AJ xi then A else none):=gn fun g w=>x (w.w t g)
theorem cn {F:Option R'}{A:R' -> Option R}(x: ∀ y,F=some y -> Gt T c o z v (A y)):Gt T c o z v (F.bind A):=fun w r h=>let ⟨y,hy,h⟩:=Fm h;x y hy w r h
theorem cf {F:Option R'}{A:R' -> Option R}{d:R' -> DV}(k: ∀ {y},F=some y -> ES Tryz.prog GG f ds [] (d y) [] true)(h:DH)(x: ∀ y,Gt T (c++[(d y,h,true)]) o z (v++[ES Tryz.prog GG f ds h (d y) h true]) (A y))(EL:ds.all E8=true:=by kernel_rfl):Gt T c o z v (F.bind A):=cn fun y hy w=>x y (w.c (fb (k hy) h EL))
theorem ce {F:Option R'}{A:R' -> Option R}{d:R' -> DV}{h':R' -> DH}(k: ∀ {y},F=some y -> ES Tryz.prog GG f ds h (d y) (h' y) e)(σ:List Nat)(H:DH)(x: ∀ y,Gt T (c++[(up σ H.length (d y),FJ H σ (h' y),e)]) o z (v++[ES Tryz.prog GG f (ds.map (up σ H.length)) H (up σ H.length (d y)) (FJ H σ (h' y)) e]) (A y))(hb: ∀ y,M7 σ H.length h.length (h' y).length=true:=by intro;kernel_rfl)(hh:(σ.map fun k=>H.getD k none)=h.map (Ep σ H.length):=by kernel_rfl):Gt T c o z v (F.bind A):=cn fun y hy w=>x y (w.c (em (k hy) σ H (hb y) hh))
theorem jb (t:Nat)(g:b=b')(x:Gt T c (o++[(t,.bool b')]) z (v++[AS (.bool b) (.bool b')]) A):Gt T c o z v A:=fun w=>x (w.b t g)
theorem jw (t:Nat)(g:AJ xi)(x:Gt T c (o++[(t,.int .i64 xi)]) z (v++[AS (.int .i64 (IntKind.i64.wrap xi)) (.int .i64 xi)]) A):Gt T c o z v A:=fun w=>x (w.w t g)
theorem jg (g:p)(x:Gt T c o z (v++[p]) A):Gt T c o z v A:=fun w=>x (w.g g)
theorem jt (x:Gt T c o z (v++[True]) A):Gt T c o z v A:=fun w=>x w.t
theorem jo (t:Nat)(g:AS d d')(x:Gt T c (o++[(t,d')]) z (v++[AS d d']) A):Gt T c o z v A:=fun w=>x (w.o t g)
theorem jc (g:ES Tryz.prog GG f ds h d h' e)(x:Gt T (c++[(d,h',e)]) o z (v++[ES Tryz.prog GG f ds h d h' e]) A):Gt T c o z v A:=fun w=>x (w.c g)
theorem jq {k:Nat}(g:PX Tryz.prog GG f ds h d h' k)(x:Gt T (c++[(d,h',false)]) o z (v++[PX Tryz.prog GG f ds h d h' k]) A):Gt T c o z v A:=fun w=>x (w.q g)
theorem ja (t k m:Nat){n n':Nat}{f f':Nat -> Nat -> DV}(g:n=n'/\ ∀ i j,i<n -> j<m -> AS (f i j) (f' i j))(x:Gt T c o (z++[(t,.arr k n' f')]) (v++[n=n'/\ ∀ i j,i<n -> j<m -> AS (f i j) (f' i j)]) A):Gt T c o z v A:=fun w=>x (w.a t k m g)
theorem jz (t k:Nat)(x:Gt T c o (z++[(t,.frz k)]) v A):Gt T c o z v A:=fun w=>x (w.z t k)
theorem jk (t:Nat)(x:Gt T c o (z++[(t,.rws)]) v A):Gt T c o z v A:=fun w=>x (w.k t)
end
section
variable {R:Type} {c:List (DV×DH×Bool)} {o:List (Nat×DV)} {z:List (Nat×Fz)} {v:List Prop} {A:Option R} {r0:R} {F:Fence} {B:Option Nat} {L:Nat} {Y N:BQ Tryz.prog GG L} {k k':List KI} {S:St} {fr:List DV} {h':DH}
theorem lG [hX:HC F] (A6:Bh) (σ:List Nat) {Q:R -> QY Tryz.prog GG L} (hk: ∀ {r},A=some r -> Ap Tryz.prog GG F B L Y (Q r) k' ⟨fr,h'⟩) (tg:List (List (Nat×Nat)×St):=[])
 (h:(CG Tryz.prog GG A6 400 k S ⟨c,o,z,tg⟩).bind (MN (FB 0 fr) σ L [])=some (.at k',fr,h',v,[],[],[],true):=by kernel_rfl) (hc:IM k'=true:=by kernel_rfl):Gt (fun r=>Ap Tryz.prog GG F B L Y (Q r) k S) c o z v A:=
 fun p _ e=>gg A6 σ p (hk e) tg h hc
theorem lN [hX:HC F] {m:Nat} (A6:Bh) (σ:List Nat) {Q:R -> QY Tryz.prog GG L} (hk: ∀ {r},A=some r -> Ap Tryz.prog GG F B L Y (Q r) (A4 m k') ⟨fr,h'⟩) (tg:List (List (Nat×Nat)×St):=[])
 (h:(CG Tryz.prog GG A6 400 k S ⟨c,o,z,tg⟩).bind (MN (FB 0 fr) σ L [])=some (.at k',fr,h',v,[],[],[],true):=by kernel_rfl) (hc:IM k'=true:=by kernel_rfl) (hm:OV k'=true:=by kernel_rfl):Gt (fun r=>Ap Tryz.prog GG F B L Y (Q r) k S) c o z v A:=
 lG A6 σ (fun e=>en m (hk e) hm) tg h hc
theorem lE [hX:HC F] {fn:Func} {D:R -> DV} {E:R -> DH} (A6:Bh) (live σ:List Nat) (tg:List (List (Nat×Nat)×St):=[])
 (h:(CG Tryz.prog GG A6 400 k S ⟨c,o,z,tg⟩).bind (fun r=>(Jn Tryz.prog live σ L [] fn (D r0) (E r0).length r).map fun q=>(q.1,Hg q.2.1,q.2.2))=some (true,D r0,E r0,v,[],[],[],true):=by kernel_rfl):Gt (fun r=>Bg Tryz.prog GG F B L N (DS Tryz.prog fn L (D r) (E r)) k S) c o z v (some r0):=
 lF fun p=>ee A6 live σ p tg h
end
abbrev zC3:=@Nat.le_of_succ_le
set_option maxRecDepth 100000
set_option maxHeartbeats 40000000
inductive XL where
 | l1 (x8:Int)
def bo (n:Nat)(self:XL -> Option Int)(s_:List Int)(v:Int)(x8:Int):Option Int:= bif (decide (x8<(s_.length:Int))) then if 0<=x8/\ x8<(s_.length:Int) then bif (v==(s_.getD ((x8).toNat) 0)) then some x8 else if AJ (x8+1) then self (.l1 (x8+1)) else none else none else some (-1)
def mW (n:Nat)(self:XL -> Option Int)(s_:List Int)(v:Int):Option Int:= self (.l1 0)
def OY (s_:List Int)(v:Int):Nat -> XL -> Option Int
 | 0,_=>none
 | n+1,.l1 x8=>bo n (OY s_ v n) s_ v x8
def XM (n:Nat)(s_:List Int)(v:Int):Option Int:=mW n (OY s_ v n) s_ v
def zAG (n B:Nat)(N:Yd 0)(s_:List Int)(v:Int)(r:Int):XL -> Prop
 | .l1 x8=>∀ m0:Nat,n<=m0 -> TW B N (FQ Tryz.f129 0 (.i r) []) (A4 m0 (BB (AX Tryz.f129) 0 [])) ⟨AG 19 [(0,.ints s_),(1,.i v),(7,.i (s_.length:Int)),(8,.i x8)],[]⟩
theorem zAH (B:Nat)(N:Yd 0)(s_:List Int)(v:Int):Al (OY s_ v) (zAG · B N s_ v):=ia (fun _=>rfl) fun n AI pt r h=>by
 cases pt
 case l1 x8=>
  intro m0 AD;refine rd AD fun m0 AD=>?_
  revert r;apply gO;exact bi 9 (gi (bi 16 (lE AC [4] []) (gw 18 (lG AC [] (AI _ _ · m0 AD))))) (lE AC [4] [])
theorem zAF {n:Nat}{s_:List Int}{v:Int}{r:Int}(h:XM n s_ v=some r):EQ 129 [.ints s_,.i v] [] (.i r) [] true:=by
 refine ot Tryz.func129 fun B N=>?_
 revert r;apply gO;exact lN AC [] ((zAH B N s_ v n) _ _ · n Nat.le.refl)
inductive XN where
 | l1 (x8:Int)
def Tm (n:Nat)(self:XN -> Option Int)(s_:List Bool)(v:Bool)(x8:Int):Option Int:= bif (decide (x8<(s_.length:Int))) then if 0<=x8/\ x8<(s_.length:Int) then bif (v==(s_.getD ((x8).toNat) false)) then some x8 else if AJ (x8+1) then self (.l1 (x8+1)) else none else none else some (-1)
def zAJ (n:Nat)(self:XN -> Option Int)(s_:List Bool)(v:Bool):Option Int:= self (.l1 0)
def LA (s_:List Bool)(v:Bool):Nat -> XN -> Option Int
 | 0,_=>none
 | n+1,.l1 x8=>Tm n (LA s_ v n) s_ v x8
def XO (n:Nat)(s_:List Bool)(v:Bool):Option Int:=zAJ n (LA s_ v n) s_ v
def zAK (n B:Nat)(N:Yd 0)(s_:List Bool)(v:Bool)(r:Int):XN -> Prop
 | .l1 x8=>∀ m0:Nat,n<=m0 -> TW B N (FQ Tryz.f177 0 (.i r) []) (A4 m0 (BB (AX Tryz.f177) 0 [])) ⟨AG 19 [(0,.bools s_),(1,.bool v),(7,.i (s_.length:Int)),(8,.i x8)],[]⟩
theorem zAL (B:Nat)(N:Yd 0)(s_:List Bool)(v:Bool):Al (LA s_ v) (zAK · B N s_ v):=ia (fun _=>rfl) fun n AI pt r h=>by
 cases pt
 case l1 x8=>
  intro m0 AD;refine rd AD fun m0 AD=>?_
  revert r;apply gO;exact bi 9 (gi (bi 16 (lE AC [4] []) (gw 18 (lG AC [] (AI _ _ · m0 AD))))) (lE AC [4] [])
theorem zAI {n:Nat}{s_:List Bool}{v:Bool}{r:Int}(h:XO n s_ v=some r):EQ 177 [.bools s_,.bool v] [] (.i r) [] true:=by
 refine ot Tryz.func177 fun B N=>?_
 revert r;apply gO;exact lN AC [] ((zAL B N s_ v n) _ _ · n Nat.le.refl)
def d8 (n:Nat)(s_:List Int)(v:Int):Option Bool:= (XM n s_ v).bind fun y1=> some (decide (y1>=0))
def NB (n:Nat)(s_:List Int)(v:Int):Option Bool:=d8 n s_ v
theorem pX {n:Nat}{s_:List Int}{v:Int}{r:Bool}(h:NB n s_ v=some r):EQ 100 [.ints s_,.i v] [] (.bool r) [] true:=by
 unfold NB d8 at h;refine ot Tryz.func100 fun B N=>?_
 revert r;apply gO;exact cf zAF [] fun _=>lE AC [4] []
theorem ul:As (Aj Tryz.f27 6) [] (List.range 9) []:=by unfold As;kernel_rfl
def SR:Bh:=fun i=>match i with
 | 6=>.ord [] (List.range 9) []
 | _=>.no
inductive YL where
 | l1 (x13:Int)
def UX (n:Nat)(self:YL -> Option Bool)(Ec E5:List Int)(x13:Int):Option Bool:= bif (decide (x13<(Ec.length:Int))) then if (0<=x13/\ x13<(Ec.length:Int))/\ (0<=x13/\ x13<(E5.length:Int)) then bif ((Ec.getD ((x13).toNat) 0) != (E5.getD ((x13).toNat) 0)) then some false else if AJ (x13+1) then self (.l1 (x13+1)) else none else none else some true
def oq (n:Nat)(self:YL -> Option Bool)(Ec E5:List Int):Option Bool:= bif ((Ec.length:Int) != (E5.length:Int)) then some false else self (.l1 0)
def Q2 (Ec E5:List Int):Nat -> YL -> Option Bool
 | 0,_=>none
 | n+1,.l1 x13=>UX n (Q2 Ec E5 n) Ec E5 x13
def Q3 (n:Nat)(Ec E5:List Int):Option Bool:=oq n (Q2 Ec E5 n) Ec E5
def zDz (n B:Nat)(N:Yd 0)(Ec E5:List Int)(r:Bool):YL -> Prop
 | .l1 x13=>∀ m0:Nat,n<=m0 -> TW B N (FQ Tryz.f27 0 (.bool r) []) (A4 m0 (BB (AX Tryz.f27) 0 [])) ⟨AG 26 [(0,.ints Ec),(1,.ints E5),(12,.i (Ec.length:Int)),(13,.i x13)],[]⟩
theorem zD0 (B:Nat)(N:Yd 0)(Ec E5:List Int):Al (Q2 Ec E5) (zDz · B N Ec E5):=ia (fun _=>rfl) fun n AI pt r h=>by
 cases pt
 case l1 x13=>
  intro m0 AD;refine rd AD fun m0 AD=>?_
  revert r;apply gO;exact bi 14 (jg ul (gc (gi (gi (bi 24 (lE SR [4] []) (gw 25 (lG SR [] (AI _ _ · m0 AD)))))))) (lE SR [4] [])
theorem om {n:Nat}{Ec E5:List Int}{r:Bool}(h:Q3 n Ec E5=some r):EQ 27 [.ints Ec,.ints E5] [] (.bool r) [] true:=by
 refine ot Tryz.func27 fun B N=>?_
 revert r;apply gO;exact bi 10 (lE SR [4] []) (lN SR [] ((zD0 B N Ec E5 n) _ _ · n Nat.le.refl))
inductive Qt where
 | l1 (Bi:Int)
 | l2 (x3:Int) (x4:List Int) (Bi:Int) (BG:List Int) (Kf DF:Int)
def dV (n:Nat)(self:Qt -> Option Int)(g_:List (List Int))(Bi:Int):Option Int:= bif (decide (Bi<(g_.length:Int))) then if 0<=Bi/\ Bi<(g_.length:Int) then self (.l2 Bi (g_.getD ((Bi).toNat) []) Bi (g_.getD ((Bi).toNat) []) (((g_.getD ((Bi).toNat) []).length:Nat):Int) 0) else none else some 0
def X1 (n:Nat)(self:Qt -> Option Int)(g_:List (List Int))(x3:Int)(x4:List Int)(Bi:Int)(BG:List Int)(Kf DF:Int):Option Int:= bif (decide (DF<Kf)) then if 0<=DF/\ DF<(BG.length:Int) then bif (decide ((BG.getD ((DF).toNat) 0)<0)) then some 120 else bif (decide ((BG.getD ((DF).toNat) 0)>=(g_.length:Int))) then some 120 else bif ((BG.getD ((DF).toNat) 0)==x3) then some 120 else bif (decide (DF>0)) then if AJ (DF-1)/\ (0<=(DF-1)/\ (DF-1)<(x4.length:Int)) then bif (decide ((x4.getD (((DF-1)).toNat) 0)>=(BG.getD ((DF).toNat) 0))) then some 120 else if 0<=(BG.getD ((DF).toNat) 0)/\ (BG.getD ((DF).toNat) 0)<(g_.length:Int) then (NB n (g_.getD ((BG.getD ((DF).toNat) 0).toNat) []) x3).bind fun y1=> bif (!y1) then some 120 else if AJ (DF+1) then self (.l2 x3 x4 Bi BG Kf (DF+1)) else none else none else none else if 0<=(BG.getD ((DF).toNat) 0)/\ (BG.getD ((DF).toNat) 0)<(g_.length:Int) then (NB n (g_.getD ((BG.getD ((DF).toNat) 0).toNat) []) x3).bind fun y1=> bif (!y1) then some 120 else if AJ (DF+1) then self (.l2 x3 x4 Bi BG Kf (DF+1)) else none else none else none else if AJ (Bi+1) then self (.l1 (Bi+1)) else none
def oG (n:Nat)(self:Qt -> Option Int)(g_:List (List Int)):Option Int:= bif (decide ((g_.length:Int)>256)) then some 120 else self (.l1 0)
def JC (g_:List (List Int)):Nat -> Qt -> Option Int
 | 0,_=>none
 | n+1,.l1 Bi=>dV n (JC g_ n) g_ Bi
 | n+1,.l2 x3 x4 Bi BG Kf DF=>X1 n (JC g_ n) g_ x3 x4 Bi BG Kf DF
def UO (n:Nat)(g_:List (List Int)):Option Int:=oG n (JC g_ n) g_
def zDP (n B:Nat)(N:Yd 0)(g_:List (List Int))(r:Int):Qt -> Prop
 | .l1 Bi=>∀ m0:Nat,n<=m0 -> TW B N (FQ Tryz.f71 0 (.i r) []) (A4 m0 (BB (AX Tryz.f71) 0 [])) ⟨AG 61 [(0,.sl 1 g_.length (AP BX g_)),(10,.sl 1 g_.length (AP BX g_)),(11,.i (g_.length:Int)),(12,.i Bi)],[]⟩
 | .l2 x3 x4 Bi BG Kf DF=>∀ m0 m1:Nat,n<=m0 -> n<=m1 -> TW B N (FQ Tryz.f71 0 (.i r) []) (A4 m1 (BB (AX Tryz.f71) 2 [m0])) ⟨AG 61 [(0,.sl 1 g_.length (AP BX g_)),(3,.i x3),(4,.ints x4),(10,.sl 1 g_.length (AP BX g_)),(11,.i (g_.length:Int)),(12,.i Bi),(17,.ints BG),(18,.i Kf),(19,.i DF)],[]⟩
theorem zDQ (B:Nat)(N:Yd 0)(g_:List (List Int)):Al (JC g_) (zDP · B N g_):=ia (fun _=>rfl) fun n AI pt r h=>by
 cases pt
 case l1 Bi=>
  intro m0 AD;refine rd AD fun m0 AD=>?_
  revert r;apply gO;exact bi 13 (gi (lN AC [] (AI _ _ · m0 n AD Nat.le.refl))) (lE AC [2] [])
 case l2 x3 x4 Bi BG Kf DF=>
  intro m0 m1 AD Ax;have AD:=zC3 AD;refine rd Ax fun m1 Ax=>?_
  revert r;apply gO;exact bi 20 (gi (bi 25 (lE AC [2] []) (bi 30 (lE AC [2] []) (bi 35 (lE AC [2] []) (bi 39 (gc (gw 43 (gi (bi 47 (lE AC [2] []) (gi (cf pX [] fun _=>bi 57 (lE AC [2] []) (gw 59 (lG AC [] (AI _ _ · m0 m1 AD Ax))))))))) (gi (cf pX [] fun _=>bi 57 (lE AC [2] []) (gw 59 (lG AC [] (AI _ _ · m0 m1 AD Ax)))))))))) (gw 60 (lG AC [] (AI _ _ · m0 AD)))
theorem oF {n:Nat}{g_:List (List Int)}{r:Int}(h:UO n g_=some r):EQ 71 [.sl 1 g_.length (AP BX g_)] [] (.i r) [] true:=by
 refine ot Tryz.func71 fun B N=>?_
 revert r;apply gO;exact bi 9 (lE AC [2] []) (lN AC [] ((zDQ B N g_ n) _ _ · n Nat.le.refl))
inductive YI where
 | l1 (x3:Int)
def YH (n:Nat)(self:YI -> Option Bool)(q:AA)(x3:Int):Option Bool:= bif (decide (x3<(q.cons.length:Int))) then if 0<=x3/\ x3<(q.cons.length:Int) then bif (decide (((((q.cons.getD ((x3).toNat) default).cells).length:Nat):Int)>20)) then some false else bif (decide (((((q.cons.getD ((x3).toNat) default).runs).length:Nat):Int)>10)) then some false else if AJ (x3+1) then self (.l1 (x3+1)) else none else none else some true
def oZ (n:Nat)(self:YI -> Option Bool)(q:AA):Option Bool:= bif (decide (q.cells>16)) then some false else bif (decide (q.symbols>6)) then some false else bif (decide ((q.values.length:Int)>8)) then some false else bif (decide ((q.nbrs.length:Int)>20)) then some false else bif (decide ((q.cons.length:Int)>120)) then some false else self (.l1 0)
def LX (q:AA):Nat -> YI -> Option Bool
 | 0,_=>none
 | n+1,.l1 x3=>YH n (LX q n) q x3
def YJ (n:Nat)(q:AA):Option Bool:=oZ n (LX q n) q
def zDs (n B:Nat)(N:Yd 0)(q:AA)(r:Bool):YI -> Prop
 | .l1 x3=>∀ m0:Nat,n<=m0 -> TW B N (FQ Tryz.f25 0 (.bool r) []) (A4 m0 (BB (AX Tryz.f25) 0 [])) ⟨AG 55 [(1,.ref 0 0),(3,.i x3)],[oC (AN q)]⟩
theorem zDt (B:Nat)(N:Yd 0)(q:AA):Al (LX q) (zDs · B N q):=ia (fun _=>rfl) fun n AI pt r h=>by
 cases pt
 case l1 x3=>
  intro m0 AD;refine rd AD fun m0 AD=>?_
  revert r;apply gO;exact bi 34 (gn fun g0=>jg g0 (bi 44 (lE AC [2] []) (jg g0 (bi 53 (lE AC [2] []) (gw 36 (lG AC [0] (AI _ _ · m0 AD))))))) (lE AC [2] [])
theorem zDr {n:Nat}{q:AA}{r:Bool}(h:YJ n q=some r):EQ 25 [.agg 5 (L1 (AN q))] [] (.bool r) [] true:=by
 refine ot Tryz.func25 fun B N=>?_
 revert r;apply gO;exact bi 6 (lE AC [2] []) (bi 10 (lE AC [2] []) (bi 16 (lE AC [2] []) (bi 22 (lE AC [2] []) (bi 28 (lE AC [2] []) (lN AC [0] ((zDt B N q n) _ _ · n Nat.le.refl))))))
end Go.Proofs.YtkjbblkieglmlaaGreatDoor
namespace Go.Proofs.YtkjbblkieglmlaaGreatDoor
open Go.RowKit
set_option maxRecDepth 100000
set_option maxHeartbeats 40000000
def fm (n:Nat)(v lo hi:Int):Option Bool:= bif (decide (v<lo)) then some true else some (decide (v>hi))
def ZH (n:Nat)(v lo hi:Int):Option Bool:=fm n v lo hi
theorem q8 {n:Nat}{v lo hi:Int}{r:Bool}(h:ZH n v lo hi=some r):EQ 99 [.i v,.fp 1 (L1 [.i lo]),.fp 1 (L1 [.i hi])] [] (.bool r) [] true:=by
 refine ot Tryz.func99 fun B N=>?_
 revert r;apply gO;exact bi 7 (lE AC [4] []) (lE AC [4] [])
inductive XJ where
 | l1 (x8:Int)
def bk (n:Nat)(self:XJ -> Option Int)(l:List Int)(lo hi:Int)(x8:Int):Option Int:= bif (decide (x8<(l.length:Int))) then if 0<=x8/\ x8<(l.length:Int) then (ZH n (l.getD ((x8).toNat) 0) lo hi).bind fun y1=> bif y1 then some x8 else if AJ (x8+1) then self (.l1 (x8+1)) else none else none else some (-1)
def mV (n:Nat)(self:XJ -> Option Int)(l:List Int)(lo hi:Int):Option Int:= self (.l1 0)
def OX (l:List Int)(lo hi:Int):Nat -> XJ -> Option Int
 | 0,_=>none
 | n+1,.l1 x8=>bk n (OX l lo hi n) l lo hi x8
def XK (n:Nat)(l:List Int)(lo hi:Int):Option Int:=mV n (OX l lo hi n) l lo hi
def zAD (n B:Nat)(N:Yd 0)(l:List Int)(lo hi:Int)(r:Int):XJ -> Prop
 | .l1 x8=>∀ m0:Nat,n<=m0 -> TW B N (FQ Tryz.f101 0 (.i r) []) (A4 m0 (BB (AX Tryz.f101) 0 [])) ⟨AG 19 [(0,.ints l),(1,.fn 99 2 (L1 [.fp 1 (L1 [.i lo]),.fp 1 (L1 [.i hi])])),(7,.i (l.length:Int)),(8,.i x8)],[]⟩
theorem zAE (B:Nat)(N:Yd 0)(l:List Int)(lo hi:Int):Al (OX l lo hi) (zAD · B N l lo hi):=ia (fun _=>rfl) fun n AI pt r h=>by
 cases pt
 case l1 x8=>
  intro m0 AD;refine rd AD fun m0 AD=>?_
  revert r;apply gO;exact bi 9 (gi (cf q8 [] fun _=>bi 16 (lE AC [4] []) (gw 18 (lG AC [] (AI _ _ · m0 AD))))) (lE AC [4] [])
theorem zAB {n:Nat}{l:List Int}{lo hi:Int}{r:Int}(h:XK n l lo hi=some r):EQ 101 [.ints l,.fn 99 2 (L1 [.fp 1 (L1 [.i lo]),.fp 1 (L1 [.i hi])])] [] (.i r) [] true:=by
 refine ot Tryz.func101 fun B N=>?_
 revert r;apply gO;exact lN AC [] ((zAE B N l lo hi n) _ _ · n Nat.le.refl)
def d7 (n:Nat)(l:List Int)(lo hi:Int):Option Bool:= (XK n l lo hi).bind fun y1=> some (decide (y1>=0))
def Yb (n:Nat)(l:List Int)(lo hi:Int):Option Bool:=d7 n l lo hi
theorem zEp {n:Nat}{l:List Int}{lo hi:Int}{r:Bool}(h:Yb n l lo hi=some r):EQ 74 [.ints l,.fn 99 2 (L1 [.fp 1 (L1 [.i lo]),.fp 1 (L1 [.i hi])])] [] (.bool r) [] true:=by
 unfold Yb d7 at h;refine ot Tryz.func74 fun B N=>?_
 revert r;apply gO;exact cf zAB [] fun _=>lE AC [4] []
def aK (n:Nat)(l_:List Int)(lo hi:Int):Option Bool:= (Yb n l_ lo hi).bind fun y1=> some (!y1)
def MI (n:Nat)(l_:List Int)(lo hi:Int):Option Bool:=aK n l_ lo hi
theorem WK {n:Nat}{l_:List Int}{lo hi:Int}{r:Bool}(h:MI n l_ lo hi=some r):EQ 70 [.ints l_,.i lo,.i hi] [] (.bool r) [] true:=by
 unfold MI aK at h;refine ot Tryz.func70 fun B N=>?_
 revert r;apply gO;exact cn fun y1 A7=>jc (sb [.ints l_,.fn 99 2 (L1 [.ref 0 0,.ref 1 0])] (zEp A7) [oC [.i lo],oC [.i hi]] ⟨Ae.plain (by kernel_rfl),(Ae.fnL (l:=[.ref 0 0,.ref 1 0]) (l0:=[.fp 1 (L1 [.i lo]),.fp 1 (L1 [.i hi])]) ⟨(Ae.refL (l:=[.i lo]) (l0:=[.i lo]) rfl ⟨Ae.plain (by kernel_rfl),trivial⟩),(Ae.refL (l:=[.i hi]) (l0:=[.i hi]) rfl ⟨Ae.plain (by kernel_rfl),trivial⟩),trivial⟩),trivial⟩) (lE AC [6] [])
theorem uk:As (Aj Tryz.f73 24) [([0,1,2,3,5,6,7,8],4),([],9),([10,11,12,13,14],15),([],16),([17,18,19,20,21,22,23,24,25,26],27)] [28,29] []:=by unfold As;kernel_rfl
def Do:Bh:=fun i=>match i with
 | 24=>.ord [([0,1,2,3,5,6,7,8],4),([],9),([10,11,12,13,14],15),([],16),([17,18,19,20,21,22,23,24,25,26],27)] [28,29] []
 | _=>.no
def nD (q:AA)(c_:AB):DH:=[oC (AN q),oC (Bp c_),oI ([c_.set,c_.other]:List Int),oI ([c_.lo,c_.hi]:List Int)]
inductive Mz where
 | l1 (Bb:Int) (o2:List Bool)
 | l2
def UW (n:Nat)(self:Mz -> Option Bool)(q:AA)(c_:AB)(Bb:Int)(o2:List Bool):Option Bool:= bif (decide (Bb<(c_.cells.length:Int))) then if 0<=Bb/\ Bb<(c_.cells.length:Int) then bif (decide ((c_.cells.getD ((Bb).toNat) 0)<0)) then some false else bif (decide ((c_.cells.getD ((Bb).toNat) 0)>=q.cells)) then some false else if (0<=(c_.cells.getD ((Bb).toNat) 0)/\ (c_.cells.getD ((Bb).toNat) 0)<((256:Nat):Int))/\ 0+((c_.cells.getD ((Bb).toNat) 0).toNat)<o2.length then bif (o2.getD (0+((c_.cells.getD ((Bb).toNat) 0).toNat)) false) then some false else bif (decide (c_.kind>=8)) then bif ((c_.cells.getD ((Bb).toNat) 0) != Bb) then some false else if AJ (Bb+1) then self (.l1 (Bb+1) (o2.set (0+((c_.cells.getD ((Bb).toNat) 0).toNat)) true)) else none else if AJ (Bb+1) then self (.l1 (Bb+1) (o2.set (0+((c_.cells.getD ((Bb).toNat) 0).toNat)) true)) else none else none else none else bif (c_.kind==1) then self (.l2) else bif (c_.kind==2) then self (.l2) else bif (c_.kind==3) then self (.l2) else bif (c_.kind==4) then self (.l2) else bif (c_.kind==5) then self (.l2) else bif (c_.kind==6) then bif ((c_.cells.length:Int) != 2) then some false else self (.l2) else bif (c_.kind==7) then bif ((c_.cells.length:Int) != 2) then some false else self (.l2) else bif (c_.kind==8) then bif ((c_.cells.length:Int) != q.cells) then some false else self (.l2) else bif (c_.kind==9) then bif ((c_.cells.length:Int) != q.cells) then some false else self (.l2) else some false
def X9 (n:Nat)(self:Mz -> Option Bool)(q:AA)(c_:AB):Option Bool:= if (0<=q.symbols/\ q.symbols<=(IntKind.i64.bits:Int))/\ AJ ((IntKind.i64.wrap (1*2 ^ (q.symbols).toNat))-1) then (MI n ([c_.set,c_.other]:List Int) 0 ((IntKind.i64.wrap (1*2 ^ (q.symbols).toNat))-1)).bind fun y1=> bif y1 then (MI n ([c_.lo,c_.hi]:List Int) 0 65536).bind fun y2=> bif y2 then bif (decide ((c_.runs.length:Int)<=8)) then (MI n c_.runs 1 256).bind fun y3=> some y3 else some false else some false else some false else none
def oT (n:Nat)(self:Mz -> Option Bool)(q:AA)(c_:AB):Option Bool:= self (.l1 0 (List.replicate 256 false))
def Qz (q:AA)(c_:AB):Nat -> Mz -> Option Bool
 | 0,_=>none
 | n+1,.l1 Bb o2=>UW n (Qz q c_ n) q c_ Bb o2
 | n+1,.l2=>X9 n (Qz q c_ n) q c_
def YA (n:Nat)(q:AA)(c_:AB):Option Bool:=oT n (Qz q c_ n) q c_
def zDl (n B:Nat)(N:Yd 0)(q:AA)(c_:AB)(r:Bool):Mz -> Prop
 | .l1 Bb o2=>∀ m0:Nat,n<=m0 -> TW B N (FQ Tryz.f73 0 (.bool r) []) (A4 m0 (BB (AX Tryz.f73) 0 [])) ⟨AG 95 [(2,.ref 0 0),(3,.ref 1 0),(5,.mp 2 1 0 0),(9,.ints c_.cells),(10,.i (c_.cells.length:Int)),(11,.i Bb)],[oC (AN q),oC (Bp c_),some (.bools o2)]⟩
 | .l2=>TW B N (FQ Tryz.f73 0 (.bool r) []) (Co (AX Tryz.f73) 24 []) ⟨AG 95 [(2,.ref 0 0),(3,.ref 1 0)],[oC (AN q),oC (Bp c_)]⟩
theorem zDm (B:Nat)(N:Yd 0)(q:AA)(c_:AB):Al (Qz q c_) (zDl · B N q c_):=ia (fun _=>rfl) fun n AI pt r h=>by
 cases pt
 case l1 Bb o2=>
  intro m0 AD;refine rd AD fun m0 AD=>?_
  revert r;apply gO;exact bi 12 (gi (bi 17 (lE (AV 24 Do) [4] []) (bi 22 (lE (AV 24 Do) [4] []) (gc (gn fun g1=>jg g1 (gn fun g2=>jg g2 (bi 27 (lE (AV 24 Do) [4] []) (bi 32 (bi 36 (lE (AV 24 Do) [4] []) (jg g1 (jg g2 (gw 41 (lG (AV 24 Do) [0,1,2] (AI _ _ · m0 AD)))))) (jg g1 (jg g2 (gw 41 (lG (AV 24 Do) [0,1,2] (AI _ _ · m0 AD))))))))))))) (bi 45 (lG (AV 24 Do) [0,1] (AI _ _ ·)) (bi 46 (lG (AV 24 Do) [0,1] (AI _ _ ·)) (bi 47 (lG (AV 24 Do) [0,1] (AI _ _ ·)) (bi 48 (lG (AV 24 Do) [0,1] (AI _ _ ·)) (bi 49 (lG (AV 24 Do) [0,1] (AI _ _ ·)) (bi 51 (bi 56 (lE (AV 24 Do) [4] []) (lG (AV 24 Do) [0,1] (AI _ _ ·))) (bi 52 (bi 56 (lE (AV 24 Do) [4] []) (lG (AV 24 Do) [0,1] (AI _ _ ·))) (bi 58 (bi 65 (lE (AV 24 Do) [4] []) (lG (AV 24 Do) [0,1] (AI _ _ ·))) (bi 59 (bi 65 (lE (AV 24 Do) [4] []) (lG (AV 24 Do) [0,1] (AI _ _ ·))) (lE (AV 24 Do) [4] []))))))))))
 case l2=>
  revert r;apply gO;exact jg uk (gc (gi (gw 74 (cn fun y1 A7=>jc (sb [.msl 2 1 0 2,.i 0,.i ((IntKind.i64.wrap (1*2 ^ (q.symbols).toNat))-1)] (WK A7) [oC (AN q),oC (Bp c_),oI ([c_.set,c_.other]:List Int)] ⟨Ae.ints rfl (Eq.refl 2),Ae.plain (by kernel_rfl),Ae.plain (by kernel_rfl),trivial⟩) (bi 75 (cn fun y2 B6=>jc (sb [.msl 3 1 0 2,.i 0,.i 65536] (WK B6) (nD q c_) ⟨Ae.ints rfl (Eq.refl 2),Ae.plain (by kernel_rfl),Ae.plain (by kernel_rfl),trivial⟩) (bi 82 (bi 88 (cf WK (nD q c_) fun _=>lE Do [4] []) (lE Do [4] [])) (lE Do [4] []))) (lE Do [4] []))))))
theorem zDj {n:Nat}{q:AA}{c_:AB}{r:Bool}(h:YA n q c_=some r):EQ 73 [.agg 5 (L1 (AN q)),.agg 9 (L1 (Bp c_))] [] (.bool r) [] true:=by
 refine ot Tryz.func73 fun B N=>?_
 revert r;apply gO;exact lN (AV 24 Do) [0,1,2] ((zDm B N q c_ n) _ _ · n Nat.le.refl)
def ZN (n:Nat)(c:AB)(q:AA):Option Bool:= (YA n q c).bind fun y1=> some (!y1)
def VR (n:Nat)(c:AB)(q:AA):Option Bool:=ZN n c q
theorem rH {n:Nat}{c:AB}{q:AA}{r:Bool}(h:VR n c q=some r):EQ 72 [.agg 9 (L1 (Bp c)),.fp 5 (L1 (AN q))] [] (.bool r) [] true:=by
 unfold VR ZN at h;refine ot Tryz.func72 fun B N=>?_
 revert r;apply gO;exact cf zDj [oC (Bp c)] fun _=>lE AC [3] []
inductive XG where
 | l1 (x8:Int)
def XF (n:Nat)(self:XG -> Option Int)(l:List AB)(q:AA)(x8:Int):Option Int:= bif (decide (x8<(l.length:Int))) then if 0<=x8/\ x8<(l.length:Int) then (VR n (l.getD ((x8).toNat) default) q).bind fun y1=> bif y1 then some x8 else if AJ (x8+1) then self (.l1 (x8+1)) else none else none else some (-1)
def mT (n:Nat)(self:XG -> Option Int)(l:List AB)(q:AA):Option Int:= self (.l1 0)
def Mb (l:List AB)(q:AA):Nat -> XG -> Option Int
 | 0,_=>none
 | n+1,.l1 x8=>XF n (Mb l q n) l q x8
def XH (n:Nat)(l:List AB)(q:AA):Option Int:=mT n (Mb l q n) l q
def zy (n B:Nat)(N:Yd 0)(l:List AB)(q:AA)(r:Int):XG -> Prop
 | .l1 x8=>∀ m0:Nat,n<=m0 -> TW B N (FQ Tryz.f44 0 (.i r) []) (A4 m0 (BB (AX Tryz.f44) 0 [])) ⟨AG 19 [(0,.sl 9 l.length (AP Bp l)),(1,.fn 72 1 (L1 [.fp 5 (L1 (AN q))])),(7,.i (l.length:Int)),(8,.i x8)],[]⟩
theorem zz (B:Nat)(N:Yd 0)(l:List AB)(q:AA):Al (Mb l q) (zy · B N l q):=ia (fun _=>rfl) fun n AI pt r h=>by
 cases pt
 case l1 x8=>
  intro m0 AD;refine rd AD fun m0 AD=>?_
  revert r;apply gO;exact bi 9 (gi (cf rH [] fun _=>bi 16 (lE AC [4] []) (gw 18 (lG AC [] (AI _ _ · m0 AD))))) (lE AC [4] [])
theorem zx {n:Nat}{l:List AB}{q:AA}{r:Int}(h:XH n l q=some r):EQ 44 [.sl 9 l.length (AP Bp l),.fn 72 1 (L1 [.fp 5 (L1 (AN q))])] [] (.i r) [] true:=by
 refine ot Tryz.func44 fun B N=>?_
 revert r;apply gO;exact lN AC [] ((zz B N l q n) _ _ · n Nat.le.refl)
def d5 (n:Nat)(l:List AB)(q:AA):Option Bool:= (XH n l q).bind fun y1=> some (decide (y1>=0))
def Ya (n:Nat)(l:List AB)(q:AA):Option Bool:=d5 n l q
theorem zEn {n:Nat}{l:List AB}{q:AA}{r:Bool}(h:Ya n l q=some r):EQ 31 [.sl 9 l.length (AP Bp l),.fn 72 1 (L1 [.fp 5 (L1 (AN q))])] [] (.bool r) [] true:=by
 unfold Ya d5 at h;refine ot Tryz.func31 fun B N=>?_
 revert r;apply gO;exact cf zx [] fun _=>lE AC [4] []
def fv (n:Nat)(q:AA):Option Int:= bif (decide (q.cells<1)) then some 191 else bif (decide (q.cells>256)) then some 191 else bif (decide (q.symbols<1)) then some 191 else bif (decide (q.symbols>16)) then some 191 else bif ((q.values.length:Int) != q.symbols) then some 191 else (MI n q.values 0 99).bind fun y1=> bif (!y1) then some 191 else bif ((q.nbrs.length:Int) != q.cells) then some 191 else (UO n q.nbrs).bind fun y2=> bif (y2 != 0) then some 191 else bif (decide ((q.cons.length:Int)>4096)) then some 191 else (Ya n q.cons q).bind fun y3=> bif y3 then some 191 else some 0
def valid (n:Nat)(q:AA):Option Int:=fv n q
theorem VN {n:Nat}{q:AA}{r:Int}(h:valid n q=some r):EQ 42 [.agg 5 (L1 (AN q))] [] (.i r) [] true:=by
 refine ot Tryz.func42 fun B N=>?_
 revert r;apply gO;exact bi 5 (lE AC [2] []) (bi 9 (lE AC [2] []) (bi 14 (lE AC [2] []) (bi 19 (lE AC [2] []) (bi 27 (lE AC [2] []) (cf WK [oC (AN q)] fun _=>bi 33 (lE AC [2] []) (bi 40 (lE AC [2] []) (cf oF [oC (AN q)] fun _=>bi 45 (lE AC [2] []) (bi 51 (lE AC [2] []) (cn fun y3 bz=>jc (sb [.sl 9 q.cons.length (AP Bp q.cons),.fn 72 1 (L1 [.ref 0 0])] (zEn bz) [oC (AN q)] ⟨Ae.plain (by kernel_rfl),(Ae.fnL (l:=[.ref 0 0]) (l0:=[.fp 5 (L1 (AN q))]) ⟨(Ae.refL (l:=(AN q)) (l0:=(AN q)) rfl ⟨Ae.plain (by kernel_rfl),Ae.plain (by kernel_rfl),Ae.plain (by kernel_rfl),Ae.plain (by kernel_rfl),Ae.plain (by kernel_rfl),trivial⟩),trivial⟩),trivial⟩) (bi 56 (lE AC [2] []) (lE AC [2] [])))))))))))
def bP (n:Nat)(q:AA)(i:Int):Option (Int×Int):= (valid n q).bind fun y1=> bif (y1 != 0) then some (0,y1) else bif (decide (i<0)) then some (0,260) else bif (decide (i>=(q.cons.length:Int))) then some (0,260) else if (0<=i/\ i<(q.cons.length:Int))/\ ((0:Int)<=((q.cons.getD ((i).toNat) default).kind)/\ ((q.cons.getD ((i).toNat) default).kind)<((10:Nat):Int)) then some (([0,1,1,2,2,3,1,1,4,4]:List Int).getD ((q.cons.getD ((i).toNat) default).kind).toNat 0,0) else none
def TZ (n:Nat)(q:AA)(i:Int):Option (Int×Int):=bP n q i
theorem ym {n:Nat}{q:AA}{i:Int}{r:Int×Int}(h:TZ n q i=some r):EQ 131 [.agg 5 (L1 (AN q)),.i i] [] (.tup 2 (L1 [.i r.1,.i r.2])) [] true:=by
 unfold TZ bP at h;refine ot Tryz.func131 fun B N=>?_
 revert r;apply gO;exact cf VN [oC (AN q)] fun _=>bi 10 (lE AC [4,5] []) (bi 13 (lE AC [4,5] []) (bi 19 (lE AC [4,5] []) (gc (gi (gn fun g1=>jg g1 (jo 28 (AS.ixI [0,1,1,2,2,3,1,1,4,4] rfl g1) (lE AC [4,5] [])))))))
end Go.Proofs.YtkjbblkieglmlaaGreatDoor
namespace Go.Proofs.YtkjbblkieglmlaaGreatDoor
abbrev zAP:=@decide_eq_false
abbrev zAR:=@cond_false
abbrev zAT:=@Int.toNat_natCast
abbrev zAV:=@cond_true
abbrev zCK:=@beq_eq_false_iff_ne
abbrev zC0:=@Bool.not_false
abbrev zC7:=@decide_eq_false_iff_not
abbrev zGE:=@Bool.or_false
abbrev zGU:=@Int.natCast_nonneg
abbrev zGZ:=@decide_true
abbrev zGa:=@Int.eq_ofNat_of_zero_le
abbrev zGn:=@List.exists_of_findSome?_eq_some
abbrev zGy:=@List.contains_iff_mem
abbrev zG2:=@List.range_eq_range'
abbrev zG3:=@List.findSome?_eq_none_iff
abbrev zHE:=@List.range'_succ
abbrev zHH:=@List.pairwise_iff_getElem
abbrev zHN:=@List.length_erase_of_mem
abbrev zHZ:=@and_self
def OZ (lo hi:Int)(n:Int):Bool:=decide (lo<=n)&&decide (n<=hi)
def E2 (xs:List Int)(lo hi:Int):Bool:=xs.all (OZ lo hi)
def Hq (g:List (List Int))(i:Nat)(l:List Int)(k:Nat):Bool:=
 let n:=l.getD k 0
 decide (0<=n)&&decide (n<g.length)&&(n != i)&&(!decide (0<k)||decide (l.getD (k-1) 0<n))&&(g.getD n.toNat []).contains (i:Int)
def Jf (g:List (List Int))(i:Nat)(l:List Int):Bool:=(List.range l.length).all (Hq g i l)
def LW (g:List (List Int)):Bool:=decide (g.length<=256)&&(List.range g.length).all fun i=>Jf g i (g.getD i [])
def PH (n kind:Int)(cells:List Int)(i:Nat):Bool:=
 let x:=cells.getD i 0
 decide (0<=x)&&decide (x<n)&&!(cells.take i).contains x&&(!decide (8<=kind)||x==(i:Int))
def Yp (n kind:Int)(cells:List Int):Bool:=(List.range cells.length).all (PH n kind cells)
def GT (n kind:Int)(len:Nat):Bool:= (decide (1<=kind)&&decide (kind<=5))||((kind==6||kind==7)&&len==2)||((kind==8||kind==9)&&(len:Int)==n)
def FH (q:AA)(c:AB):Bool:= Yp q.cells c.kind c.cells&&GT q.cells c.kind c.cells.length&& E2 [c.set,c.other] 0 (2 ^ q.symbols.toNat-1)&&E2 [c.lo,c.hi] 0 65536&&decide (c.runs.length<=8)&&E2 c.runs 1 256
def ay (l:List Int):Bool:=(List.range l.length).all fun i=>!(l.take i).contains (l.getD i 0)
theorem ax: ∀ (n:Nat) (l:List Int),l.Nodup -> (∀ x∈l,0<=x/\ x<(n:Int)) -> l.length<=n
 | 0,l,_,h=>by
  cases l with
  | nil=>simp
  | cons a l=>have:=h a (by simp);omega
 | n+1,l,hd,h=>by
  have h1:(l.erase (n:Int)).length<=n:=ax n _ (hd.erase _) (fun x hx=>by
   have:=hd.mem_erase_iff.1 hx;have h2:=h x this.2;have h3:=this.1;omega)
  by_cases hm:(n:Int)∈l
  ·have:=zHN hm;omega
  ·rw [List.erase_of_not_mem hm] at h1;omega
theorem xj {l:List Int}:ay l=true↔l.Nodup:=by
 unfold ay List.Nodup;rw [zAg,zHH];constructor
 ·intro h i j hi hj Qg e;have:=h j (by simpa using hj);simp only [u8,zAa hj,zGK,zCw] at this;rw [zD8,ne_eq,zGy,List.mem_take_iff_getElem] at this;exact this ⟨i,by omega,e⟩
 ·intro h i hi;have BT:i<l.length:=by simpa using hi
  simp only [u8,zAa BT,zGK,zCw];rw [zD8,ne_eq,zGy,List.mem_take_iff_getElem];rintro ⟨j,hj,e⟩;exact h j i (by omega) BT (by omega) e
theorem VJ {l:List Int}{lo hi:Int}:E2 l lo hi=true↔∀ x∈l,lo<=x/\ x<=hi:=by
 unfold E2;simp [OZ]
theorem zFG {n kind:Int}{cells:List Int}:Yp n kind cells=true↔(∀ x∈cells,0<=x/\ x<n)/\ cells.Nodup/\ (8<=kind -> ∀ j,j<cells.length -> cells.getD j 0=(j:Int)):=by
 rw [←xj];unfold Yp ay PH;simp only [zAg,zAn,zAW,zCQ,zA9,zCw,zBA,zC7];constructor
 ·intro h;refine ⟨fun x hx=>?_,fun j hj=>(h j hj).1.2,fun h8 j hj=>?_⟩
  ·obtain ⟨j,hj,rfl⟩:=zDD hx;have:=(h j hj).1.1;simpa [hj] using this
  ·rcases (h j hj).2 with h' | h'
   ·exact absurd h8 h'
   ·exact h'
 ·rintro ⟨h1,h2,h3⟩ j hj;have hx:=h1 _ (zBD hj);refine ⟨⟨by simpa [hj] using hx,h2 j hj⟩,?_⟩
  by_cases h8:8<=kind
  ·exact .inr (h3 h8 j hj)
  ·exact .inl h8
def B8 (q:AA):Bool:= decide (1<=q.cells)&&decide (q.cells<=256)&&decide (1<=q.symbols)&&decide (q.symbols<=16)&&((q.values.length:Int)==q.symbols)&&E2 q.values 0 99&& ((q.nbrs.length:Int)==q.cells)&&LW q.nbrs&&decide (q.cons.length<=4096)&&q.cons.all (FH q)
def bK (kind:Int):Int:=if kind=3∨kind=4 then 2 else if kind=5 then 3 else if kind=8∨kind=9 then 4 else 1
def Jv (q:AA)(i:Int):Int×Int:= if B8 q=false then (0,191) else if 0<=i/\ i<q.cons.length then (bK ((q.cons.getD i.toNat default).kind),0) else (0,260)
theorem ED {q:AA}(h:B8 q=true):(1<=q.cells/\ q.cells<=256)/\ (1<=q.symbols/\ q.symbols<=16)/\ ((q.values.length:Int)=q.symbols/\ E2 q.values 0 99=true)/\
 ((q.nbrs.length:Int)=q.cells/\ LW q.nbrs=true)/\ q.cons.length<=4096/\ ∀ c∈q.cons,FH q c=true:=by
 unfold B8 at h;simp only [zAW,zCQ,zBA,zAg] at h;obtain ⟨⟨⟨⟨⟨⟨⟨⟨⟨h1,h2⟩,h3⟩,h4⟩,h5⟩,h6⟩,h7⟩,h8⟩,h9⟩,O3⟩:=h;exact ⟨⟨h1,h2⟩,⟨h3,h4⟩,⟨h5,h6⟩,⟨h7,h8⟩,h9,O3⟩
theorem mD {q:AA}{c:AB}(h:FH q c=true):GT q.cells c.kind c.cells.length=true:=by
 unfold FH at h;simp only [zAW] at h;exact h.1.1.1.1.2
theorem OR {n kind:Int}{len:Nat}(h:GT n kind len=true):1<=kind/\ kind<=9:=by
 unfold GT at h;simp at h;omega
theorem OS {k:Int}(h:1<=k/\ k<=9):k=1∨k=2∨k=3∨k=4∨k=5∨k=6∨k=7∨k=8∨k=9:=by omega
open Go.RowKit
theorem jF {R:Type}(m:Nat -> Int -> Option R)(len N0:Nat)(B:Nat -> Option R)(h0: ∀ (n i:Nat),N0<=n -> i<len -> m (n+1) (i:Int)=(B i).or (m n ((i:Int)+1))):
 ∀ (k i n:Nat),i+k=len -> N0<=n -> m (n+k) (i:Int)=((List.range' i k).findSome? B).or (m n (len:Int))
 | 0,i,n,h,hn=>by
  have:i=len:=by omega
  subst this;rfl
 | k+1,i,n,h,hn=>by
  show m (n+k+1) (i:Int)=_
  rw [h0 (n+k) i (by omega) (by omega),zHE,List.findSome?_cons];cases B i with
  | some r=>rfl
  | none=>
   have:=jF m len N0 B h0 k (i+1) n (by omega) hn;rw [←this];simp
theorem SS {R:Type}(m:Nat -> Int -> Option R)(len N0:Nat)(B:Nat -> Option R)(h0: ∀ (n i:Nat),N0<=n -> i<len -> m (n+1) (i:Int)=(B i).or (m n ((i:Int)+1))){n:Nat}(hn:N0+len<=n):
 m n 0=((List.range len).findSome? B).or (m (n-len) (len:Int)):=by
 have:=jF m len N0 B h0 len 0 (n-len) (by omega) (by omega);rw [Nat.sub_add_cancel (by omega)] at this;rw [zG2];exact this
theorem oU {R:Type}{l:List Nat}{p:Nat -> Bool}{r:R}:(l.findSome? fun i=>if p i then none else some r)=if l.all p then none else some r:=by
 induction l with
 | nil=>rfl
 | cons a l ih=>
  rw [List.findSome?_cons,zGp];cases hp:p a
  ·simp
  ·simp [ih]
theorem kB {α:Type}{l:List α}{d:α}{p:α -> Bool}:((List.range l.length).all fun i=>p (l.getD i d))=l.all p:=by
 rw [zDF,zAg,zAg];constructor
 ·intro h x hx;obtain ⟨i,hi,rfl⟩:=zDD hx;have:=h i (by simpa using hi);simpa [hi] using this
 ·intro h i hi;have BT:i<l.length:=by simpa using hi
  simp [BT,h _ (zBD BT)]
theorem r64 {i len:Nat}(h:i<len)(hl:len<=LB):AJ ((i:Int)+1):=by rw [Av];unfold LB at hl;omega
theorem zAC {l:List Int}{lo up:Int}{n:Nat}(hl:l.length<=LB)(hn:l.length<n): ∃ r:Int,XK n l lo up=some r/\ (0<=r↔E2 l lo up=false):=by
 unfold XK mV;have S:=SS (fun n i=>OX l lo up n (.l1 i)) l.length 0 (fun i=>if OZ lo up (l.getD i 0) then none else some (i:Int)) (fun n i _ hi=>?_) (n:=n) (by omega)
 ·have S:=S;rw [show OX l lo up n (.l1 0)=_ from S];cases hf:(List.range l.length).findSome? (fun i=>if OZ lo up (l.getD i 0) then none else some (i:Int)) with
  | some r=>
   refine ⟨r,rfl,?_⟩;obtain ⟨i,hi,hr⟩:=zGn hf;have BT:i<l.length:=by simpa using hi
   split at hr
   ·cases hr
   ·rename_i hx;cases hr;refine ⟨fun _=>?_,fun _=>by omega⟩;unfold E2;rw [List.all_eq_false];exact ⟨l[i],zBD BT,by simpa [BT] using hx⟩
  | none=>
   obtain ⟨m,hm⟩: ∃ m,n-l.length=m+1:=⟨n-l.length-1,by omega⟩;refine ⟨-1,by rw [hm];simp [OX,bk],?_⟩;rw [zG3] at hf
   have:E2 l lo up=true:=by
    unfold E2;rw [←kB (p:=OZ lo up) (d:=(0:Int)),zAg];intro i hi;have:=hf i hi;cases hc:OZ lo up (l.getD i 0) with
    | true=>rfl
    | false=>rw [hc] at this;simp at this
   simp [this]
 ·have h1:(i:Int)<(l.length:Int):=by omega
  have h2:=r64 hi hl;simp only [OX,bk,ZH,fm,h1,h2,zGZ,zAV,zGU,zHZ,zC9,zAT,OZ];obtain ⟨x,hg⟩: ∃ y,l.getD i 0=y:=⟨_,rfl⟩;simp only [hg]
  by_cases a:x<lo
  ·have: ¬ lo<=x:=by omega
   simp [a,this]
  ·have a':lo<=x:=by omega
   by_cases b:up<x
   ·have: ¬ x<=up:=by omega
    simp [a,b,a',this]
   ·have b':x<=up:=by omega
    simp [a,b,a',b']
theorem WL {l:List Int}{lo up:Int}{n:Nat}(hl:l.length<=LB)(hn:l.length<n):MI n l lo up=some (E2 l lo up):=by
 obtain ⟨r,h1,h2⟩:=zAC (lo:=lo) (up:=up) hl hn;unfold MI aK Yb d7;rw [h1];cases hw:E2 l lo up with
 | true=>
  have: ¬ 0<=r:=fun h=>by rw [h2.1 h] at hw;cases hw
  simp [this]
 | false=>
  have:0<=r:=h2.2 hw;simp [this]
theorem zEq {l:List Int}{x:Int}{n:Nat}(hl:l.length<=LB)(hn:l.length<n):NB n l x=some (l.contains x):=by
 have: ∃ r:Int,XM n l x=some r/\ (0<=r↔l.contains x=true):=by
  unfold XM mW;have S:=SS (fun n i=>OY l x n (.l1 i)) l.length 0 (fun i=>if (x != l.getD i 0) then none else some (i:Int)) (fun n i _ hi=>?_) (n:=n) (by omega)
  ·rw [show OY l x n (.l1 0)=_ from S];cases hf:(List.range l.length).findSome? (fun i=>if (x != l.getD i 0) then none else some (i:Int)) with
   | some r=>
    refine ⟨r,rfl,?_⟩;obtain ⟨i,hi,hr⟩:=zGn hf;have BT:i<l.length:=by simpa using hi
    split at hr
    ·cases hr
    ·rename_i hx;cases hr;refine ⟨fun _=>?_,fun _=>by omega⟩;have:x=l[i]:=by simpa [BT] using hx
     rw [this];simp
   | none=>
    obtain ⟨m,hm⟩: ∃ m,n-l.length=m+1:=⟨n-l.length-1,by omega⟩;refine ⟨-1,by rw [hm];simp [OY,bo],?_⟩;rw [zG3] at hf
    have:l.contains x=false:=by
     rw [zD8];intro h;obtain ⟨i,hi,e⟩:=zDD (by simpa using h:x∈l);have:=hf i (by simpa using hi);simp [hi,e] at this
    rw [this];simp
  ·have h1:(i:Int)<(l.length:Int):=by omega
   have h2:=r64 hi hl;simp only [OY,bo,h1,h2,zGZ,zAV,zGU,zHZ,zC9,zAT];obtain ⟨y,hg⟩: ∃ y,l.getD i 0=y:=⟨_,rfl⟩;simp only [hg]
   by_cases a:x=y
   ·simp [a]
   ·have:(x==y)=false:=by simp [a]
    simp [this,a]
 obtain ⟨r,h1,h2⟩:=this;unfold NB d8;rw [h1]
 by_cases h:0<=r
 ·have:=h2.1 h;simp only [zAS];rw [this];simp [h]
 ·have:l.contains x=false:=by rw [zD8];exact fun hc=>h (h2.2 hc)
  simp only [zAS];rw [this];simp;omega
def Hf (g:List (List Int)):Nat:=(g.map fun r=>r.length+2).sum
theorem ZG: ∀ {g:List (List Int)} {r:List Int},r∈g -> r.length+2<=Hf g
 | [],_,h=>by cases h
 | a::g,r,h=>by
  simp only [Hf,zDT,List.sum_cons];rcases zCD.1 h with rfl | h
  ·omega
  ·have:=ZG h;unfold Hf at this;omega
theorem qx {g:List (List Int)}{v:Nat}(hv:v<g.length):Hf (g.drop v)=(g.getD v []).length+2+Hf (g.drop (v+1)):=by
 rw [zCJ hv];simp only [Hf,zDT,List.sum_cons,u8,zAa hv,zGK]
theorem dU {g:List (List Int)}{v:Nat}(hv:v<g.length):g.getD v []∈g:=by
 rw [u8,zAa hv];exact zBD hv
section
variable {g:List (List Int)} {v j n:Nat}
theorem xo {R:Type}(next KZ:R)(c:Bool -> R)(hc:c true=next)(I8:c false=KZ)(hv:v<g.length)(hj:j<(g.getD v []).length):
 (if Hq g v (g.getD v []) j then next else KZ)=
  (if (g.getD v []).getD j 0<0 then KZ else if (g.getD v []).getD j 0>=(g.length:Int) then KZ else if (g.getD v []).getD j 0=(v:Int) then KZ else
   if 0<j then (if (g.getD v []).getD (j-1) 0>=(g.getD v []).getD j 0 then KZ else c ((g.getD ((g.getD v []).getD j 0).toNat []).contains (v:Int)))
   else c ((g.getD ((g.getD v []).getD j 0).toNat []).contains (v:Int))):=by
 unfold Hq;obtain ⟨x,hx⟩: ∃ x,(g.getD v []).getD j 0=x:=⟨_,rfl⟩;obtain ⟨y,hy⟩: ∃ y,(g.getD v []).getD (j-1) 0=y:=⟨_,rfl⟩;simp only [hx,hy]
 by_cases a:x<0
 ·have: ¬ 0<=x:=by omega
  simp [a,this]
 ·have a':0<=x:=by omega
  by_cases b:x>=(g.length:Int)
  ·have: ¬ x<(g.length:Int):=by omega
   simp [a,b,this]
  ·have b':x<(g.length:Int):=by omega
   by_cases d:x=(v:Int)
   ·simp [a,b,d]
   ·have d':(x != (v:Int))=true:=by simp [d]
    cases hcc:(g.getD x.toNat []).contains (v:Int) with
    | true=>
     by_cases e:0<j
     ·by_cases f:y>=x
      ·have: ¬ y<x:=by omega
       simp [a,b,d,d',e,f,this,a',b']
      ·have f':y<x:=by omega
       simp [a,b,d,d',e,f,f',a',b',hc]
     ·simp [a,b,d,d',e,a',b',hc]
    | false=>
     by_cases e:0<j
     ·by_cases f:y>=x
      ·have: ¬ y<x:=by omega
       simp [a,b,d,d',e,f,this,a',b']
      ·have f':y<x:=by omega
       simp [a,b,d,d',e,f,f',a',b',I8]
     ·simp [a,b,d,d',e,a',b',I8]
theorem wX {j len:Nat}(h:j<len)(hl:len<=LB):AJ ((j:Int)-1):=by rw [Av];unfold LB at hl;omega
theorem aT {j len:Nat}(h:0<j)(h2:j<len):((0:Int)<=(j:Int)-1/\ (j:Int)-1<(len:Int))/\ ((j:Int)-1).toNat=j-1/\ (j:Int)>0:=by omega
theorem zDR {self:Qt -> Option Int}{row:List Int}(LH:row=g.getD v [])(hv:v<g.length)(hg:g.length<=256)(hj:j<(g.getD v []).length)(hr: ∀ r∈g,r.length<=LB)(hn: ∀ r∈g,r.length<n):
 X1 n self g (v:Int) row (v:Int) row (row.length:Int) (j:Int)=(if Hq g v (g.getD v []) j then none else some (120:Int)).or (self (.l2 (v:Int) row (v:Int) row (row.length:Int) ((j:Int)+1))):=by
 subst LH;have Ak:=hr _ (dU hv);have h1:(v:Int)<(g.length:Int):=by omega
 have h2:(j:Int)<((g.getD v []).length:Int):=by omega
 have h3:=r64 hj Ak;obtain ⟨NX,nu⟩: ∃ NX,self (.l2 (v:Int) (g.getD v []) (v:Int) (g.getD v []) ((g.getD v []).length:Int) ((j:Int)+1))=NX:=⟨_,rfl⟩;have key:=xo (g:=g) (v:=v) (j:=j) NX (some (120:Int)) (fun b=>bif b then NX else some 120) rfl rfl hv hj
 have e1:((if Hq g v (g.getD v []) j then none else some (120:Int)).or NX)=(if Hq g v (g.getD v []) j then NX else some 120):=by
  cases Hq g v (g.getD v []) j <;> rfl
 rw [nu,e1,key];simp only [X1,h1,h2,h3,zGZ,zAV,zGU,zHZ,zC9,zAT,nu];obtain ⟨x,hx⟩: ∃ x,(g.getD v []).getD j 0=x:=⟨_,rfl⟩;simp only [hx]
 by_cases a:x<0
 ·simp [a]
 by_cases b:x>=(g.length:Int)
 ·simp [a,b]
 by_cases d:x=(v:Int)
 ·simp [a,b,d]
 have d':(x==(v:Int))=false:=by simp [d]
 have XR:g.getD x.toNat []∈g:=dU (by omega);have hh:NB n (g.getD x.toNat []) (v:Int)=some ((g.getD x.toNat []).contains (v:Int)):=zEq (hr _ XR) (hn _ XR);have IQ:0<=x/\ x<(g.length:Int):=by omega
 have fin:((NB n (g.getD x.toNat []) (v:Int)).bind fun y1=>bif (!y1) then some (120:Int) else NX)=(bif (g.getD x.toNat []).contains (v:Int) then NX else some 120):=by
  rw [hh];cases (g.getD x.toNat []).contains (v:Int) <;> rfl
 by_cases e:0<j
 ·have h4:AJ ((j:Int)-1)/\ ((0:Int)<=(j:Int)-1/\ (j:Int)-1<((g.getD v []).length:Int)):=⟨wX hj Ak,(aT e hj).1⟩;have h5:=(aT e hj).2.1;have e':=(aT e hj).2.2;simp only [e',h4,h5,e,IQ,d',zGZ,zAV,zAR,zC9,zAP a,zAP b,zHZ,zAh a,zAh b,zAh d,fin]
  by_cases f:(g.getD v []).getD (j-1) 0>=x
  ·simp only [f,zGZ,zAV,zC9]
  ·simp only [zAP f,zAR,zAh f]
 ·have e': ¬ (j:Int)>0:=by omega
  simp only [IQ,d',zAR,zC9,zAP a,zAP b,zAP e',zHZ,zAh a,zAh b,zAh d,zAh e,fin]
end
theorem vU {g:List (List Int)}{v:Nat}(hv:v<g.length):((List.range' v (g.length-v)).all fun i=>Jf g i (g.getD i []))=(Jf g v (g.getD v [])&&(List.range' (v+1) (g.length-(v+1))).all fun i=>Jf g i (g.getD i [])):=by
 have:g.length-v=g.length-(v+1)+1:=by omega
 rw [this,zHE,zGp]
theorem oJ {g:List (List Int)}(hg:g.length<=256)(hr: ∀ r∈g,r.length<=LB): ∀ (k v n:Nat),v+k=g.length -> Hf (g.drop v)+Hf g+1<=n -> JC g n (.l1 (v:Int))=some (Fj ((List.range' v (g.length-v)).all fun i=>Jf g i (g.getD i [])) 120)
 | 0,v,n,hv,hn=>by
  have:v=g.length:=by omega
  subst this;obtain ⟨m,rfl⟩: ∃ m,n=m+1:=⟨n-1,by omega⟩;simp [JC,dV,Fj]
 | k+1,v,n,hv,hn=>by
  have Dr:v<g.length:=by omega
  rw [qx Dr] at hn;have hm:=ZG (dU Dr);obtain ⟨m,rfl⟩: ∃ m,n=m+1:=⟨n-1,by omega⟩;have h1:(v:Int)<(g.length:Int):=by omega
  have e1:JC g (m+1) (.l1 (v:Int))=JC g m (.l2 (v:Int) (g.getD v []) (v:Int) (g.getD v []) ((g.getD v []).length:Int) 0):=by
   simp only [JC,dV,h1,zGZ,zAV,zGU,zHZ,zC9,zAT]
  rw [e1];have S:=SS (fun n i=>JC g n (.l2 (v:Int) (g.getD v []) (v:Int) (g.getD v []) ((g.getD v []).length:Int) i)) (g.getD v []).length (Hf g) (fun j=>if Hq g v (g.getD v []) j then none else some 120) (fun n' j HM hj=>zDR (n:=n') rfl Dr hg hj hr fun r Cr=>by have:=ZG Cr;omega) (n:=m) (by omega);refine S.trans ?_;rw [oU,vU Dr];have eR:((List.range (g.getD v []).length).all fun i=>Hq g v (g.getD v []) i)=Jf g v (g.getD v []):=rfl;rw [eR];cases Jf g v (g.getD v []) with
  | false=>rfl
  | true=>
   obtain ⟨m',Cd⟩: ∃ m',m-(g.getD v []).length=m'+1:=⟨m-(g.getD v []).length-1,by omega⟩;rw [Cd];have h2:AJ ((v:Int)+1):=by rw [Av];omega
   have ih:=oJ hg hr k (v+1) m' (by omega) (by omega);have h3: ¬ (((g.getD v []).length:Int)<((g.getD v []).length:Int)):=by omega
   simp only [zC9,JC,X1,h2,zAP h3,zAR,zCZ];exact ih
theorem oH {g:List (List Int)}{n:Nat}(hr: ∀ r∈g,r.length<=LB)(hn:2*Hf g+1<=n):UO n g=some (Fj (LW g) 120):=by
 unfold UO oG LW
 by_cases h:(g.length:Int)>256
 ·have: ¬ g.length<=256:=by omega
  simp [h,this,Fj]
 ·have h':g.length<=256:=by omega
  have:=oJ h' hr g.length 0 n (by omega) (by simp;omega);simp only [zAP h,zAR,zAU h',zCZ];rw [zG2];simpa using this
theorem kL {s:Int}(h1:1<=s)(h2:s<=16):IntKind.i64.wrap (1*2 ^ s.toNat)=2 ^ s.toNat/\ AJ ((2:Int) ^ s.toNat-1)/\ ((0:Int)<=s/\ s<=((IntKind.i64.bits:Nat):Int)):=by
 obtain ⟨m,rfl⟩:=zGa (show 0<=s by omega);rw [zAT];have h:m<17:=by omega
 refine ⟨?_,?_,by omega,by show (m:Int)<=64;omega⟩
 ·revert h;clear h1 h2;revert m;decide
 ·revert h;clear h1 h2;revert m;decide
section
variable {c:AB} {n:Nat}
def WD (sy:Int)(c:AB):Bool:=E2 [c.set,c.other] 0 (2 ^ sy.toNat-1)&&E2 [c.lo,c.hi] 0 65536&&decide (c.runs.length<=8)&&E2 c.runs 1 256
theorem lr {a b:Int}:([a,b]:List Int).length<=LB:=by show 2<=LB;unfold LB;omega
theorem yq {l:List Int}:(decide (((l.length:Nat):Int)<=8))=decide (l.length<=8):=by rw [zDF];simp;omega
theorem zDg {self:Mz -> Option Bool}{q:AA}(h1:1<=q.symbols)(h2:q.symbols<=16)(hr:c.runs.length<=LB)(hn:c.runs.length<n)(F1:2<n):X9 n self q c=some (WD q.symbols c):=by
 obtain ⟨p1,p2,p3⟩:=kL h1 h2;unfold X9;rw [p1,zAM ⟨p3,p2⟩,WL lr (show 2<n from F1),WL lr (show 2<n from F1),WL hr hn];unfold WD;rw [yq];cases E2 [c.set,c.other] 0 (2 ^ q.symbols.toNat-1) <;> cases E2 [c.lo,c.hi] 0 65536 <;> cases decide (c.runs.length<=8) <;> rfl
theorem zDi {self:Mz -> Option Bool}{q:AA}(hq:q.cells<=256)(hc:c.cells.length<=LB){i:Nat}(hi:i<c.cells.length){o:List Bool}(ho:o.length=256)(hm: ∀ x:Nat,x<256 -> o.getD x false=(c.cells.take i).contains (x:Int)):
 UW n self q c (i:Int) o=if PH q.cells c.kind c.cells i then self (.l1 ((i:Int)+1) (o.set (0+(c.cells.getD i 0).toNat) true)) else some false:=by
 have h1:(i:Int)<(c.cells.length:Int):=by omega
 have h2:=r64 hi hc;unfold PH;obtain ⟨x,hx⟩: ∃ x,c.cells.getD i 0=x:=⟨_,rfl⟩;simp only [UW,h1,h2,zGZ,zAV,zGU,zHZ,zC9,zAT,hx]
 by_cases a:x<0
 ·have: ¬ 0<=x:=by omega
  simp [a,this]
 have a':0<=x:=by omega
 by_cases b:x>=q.cells
 ·have: ¬ x<q.cells:=by omega
  simp [a,b,this]
 have b':x<q.cells:=by omega
 have hg:((0:Int)<=x/\ x<((256:Nat):Int))/\ 0+x.toNat<o.length:=⟨⟨a',by omega⟩,by omega⟩
 have hmm:o.getD (0+x.toNat) false=(c.cells.take i).contains x:=by
  rw [zA8,hm x.toNat (by omega)]
  congr 1;omega
 simp only [hg,hmm,zAP a,zAP b,zAR,zC9,zAU a',zAU b',zCZ,zHZ];cases (c.cells.take i).contains x with
 | true=>rfl
 | false=>
  by_cases e:c.kind>=8
  ·have e':8<=c.kind:=e
   by_cases f:x=(i:Int)
   ·have f1:(x != (i:Int))=false:=by simp [f]
    have f2:(x==(i:Int))=true:=by simp [f]
    simp only [e,e',f1,f2,zGZ,zAV,zAR,zC0,zCs,zGD,zCZ,zC9]
   ·have f1:(x != (i:Int))=true:=by simp [f]
    have f2:(x==(i:Int))=false:=by simp [f]
    simp only [e,e',f1,f2,zGZ,zAV,zAR,zC0,zCs,zGD,zCZ,zCe,zGQ]
  ·have e': ¬ 8<=c.kind:=e;simp only [zAP e,zAP e',zGZ,zAR,zC0,Bool.true_or,Bool.and_self,zC9]
theorem zDh {self:Mz -> Option Bool}{q:AA}{o:List Bool}:UW n self q c (c.cells.length:Int) o=if GT q.cells c.kind c.cells.length then self .l2 else some false:=by
 have h1: ¬ ((c.cells.length:Int)<(c.cells.length:Int)):=by omega
 simp only [UW,zAP h1,zAR]
 by_cases hk:1<=c.kind/\ c.kind<=9
 ·obtain ⟨k,nJ⟩: ∃ k,c.kind=k:=⟨_,rfl⟩;rw [nJ] at hk;simp only [nJ];have e2:(((c.cells.length:Nat):Int) != 2)= !(c.cells.length==2):=by rw [zDF];simp;omega
  have e3:(((c.cells.length:Nat):Int) != q.cells)= !(((c.cells.length:Nat):Int)==q.cells):=rfl;rcases OS hk with h | h | h | h | h | h | h | h | h <;> subst h
  ·rfl
  ·rfl
  ·rfl
  ·rfl
  ·rfl
  ·show (bif (((c.cells.length:Nat):Int) != 2) then some false else self .l2)=_
   rw [e2];unfold GT;cases c.cells.length==2 <;> rfl
  ·show (bif (((c.cells.length:Nat):Int) != 2) then some false else self .l2)=_
   rw [e2];unfold GT;cases c.cells.length==2 <;> rfl
  ·show (bif (((c.cells.length:Nat):Int) != q.cells) then some false else self .l2)=_
   rw [e3];unfold GT;cases ((c.cells.length:Nat):Int)==q.cells <;> rfl
  ·show (bif (((c.cells.length:Nat):Int) != q.cells) then some false else self .l2)=_
   rw [e3];unfold GT;cases ((c.cells.length:Nat):Int)==q.cells <;> rfl
 ·have Gn:GT q.cells c.kind c.cells.length=false:=by
   rw [zD8];exact fun h=>hk (OR h)
  rw [Gn];have z: ∀ m:Int,1<=m -> m<=9 -> (c.kind==m)=false:=fun m h1 h2=>by simp only [zCK];omega
  simp [z 1,z 2,z 3,z 4,z 5,z 6,z 7,z 8,z 9]
theorem oS {q:AA}(hq:q.cells<=256)(hc:c.cells.length<=LB)(h1:1<=q.symbols)(h2:q.symbols<=16)(hr:c.runs.length<=LB): ∀ (k i n:Nat) (o:List Bool),i+k=c.cells.length -> k+c.runs.length+6<=n -> o.length=256 -> (∀ x:Nat,x<256 -> o.getD x false=(c.cells.take i).contains (x:Int)) ->
 Qz q c n (.l1 (i:Int) o)=some ((List.range' i k).all (PH q.cells c.kind c.cells)&&GT q.cells c.kind c.cells.length&&WD q.symbols c)
 | 0,i,n,o,hi,hn,ho,hm=>by
  have:i=c.cells.length:=by omega
  subst this;obtain ⟨m,rfl⟩: ∃ m,n=m+1:=⟨n-1,by omega⟩;refine (zDh (n:=m)).trans ?_;cases GT q.cells c.kind c.cells.length with
  | false=>simp
  | true=>
   obtain ⟨m',rfl⟩: ∃ m',m=m'+1:=⟨m-1,by omega⟩
   show X9 m' (Qz q c m') q c=_
   rw [zDg h1 h2 hr (by omega) (by omega)];simp
 | k+1,i,n,o,hi,hn,ho,hm=>by
  obtain ⟨m,rfl⟩: ∃ m,n=m+1:=⟨n-1,by omega⟩;refine (zDi (n:=m) hq hc (show i<c.cells.length by omega) ho hm).trans ?_;rw [zHE,zGp];cases I7:PH q.cells c.kind c.cells i with
  | false=>simp
  | true=>
   have hx:0<=c.cells.getD i 0/\ c.cells.getD i 0<q.cells:=by
    unfold PH at I7;simp only [zAW,zCQ] at I7;exact ⟨I7.1.1.1,I7.1.1.2⟩
   have ih:=oS hq hc h1 h2 hr k (i+1) m (o.set (0+(c.cells.getD i 0).toNat) true) (by omega) (by omega) (by simp [ho]) (fun x zAb=>?_)
   ·simp only [zC9,zCZ];exact ih
   ·have BT:i<c.cells.length:=by omega
    rw [zA8]
    have ht:c.cells.take (i+1)=c.cells.take i++[c.cells.getD i 0]:=by
     rw [List.take_add_one];simp [BT]
    rw [ht,List.contains_append,←hm x zAb];rw [u8,zCE]
    by_cases e:(c.cells.getD i 0).toNat=x
    ·have e2:((x:Nat):Int)=c.cells.getD i 0:=by omega
     rw [zAM e,zAM (by omega)];simp [e2]
    ·have e2: ¬ ((x:Nat):Int)=c.cells.getD i 0:=by omega
     rw [zAh e]
     have e3:([c.cells.getD i 0].contains ((x:Nat):Int))=false:=by
      simp only [List.contains_cons,List.contains_nil,zGE,zCK];exact e2
     rw [e3,zGE,u8]
theorem zDk {q:AA}(hq:q.cells<=256)(hc:c.cells.length<=LB)(h1:1<=q.symbols)(h2:q.symbols<=16)(hr:c.runs.length<=LB)(hn:c.cells.length+c.runs.length+6<=n):YA n q c=some (FH q c):=by
 unfold YA oT;have:=oS hq hc h1 h2 hr c.cells.length 0 n (List.replicate 256 false) (by omega) (by omega) zAw (fun x hx=>by rw [u8,zCx,zAM hx];rfl);refine Eq.trans this ?_;rw [←zG2];unfold FH Yp WD;simp only [Bool.and_assoc]
end
section
variable {c:AB} {n:Nat} {cells sy:Int}
end
def Rm (c:AB):Nat:=c.cells.length*(c.cells.length+2)+c.cells.length+c.runs.length+7
theorem rZ (c:AB):Rm c=c.cells.length*(c.cells.length+2)+c.cells.length+c.runs.length+7:=rfl
def FV (q:AA):Nat:=q.values.length+2*Hf q.nbrs+(q.cons.map Rm).sum+q.cons.length+10
structure EN (q:AA):Prop where
 values:q.values.length<=LB
 nbrs: ∀ r∈q.nbrs,r.length<=LB
 cells: ∀ c∈q.cons,c.cells.length<=LB
 runs: ∀ c∈q.cons,c.runs.length<=LB
theorem iL: ∀ {l:List AB} {c:AB},c∈l -> Rm c<=(l.map Rm).sum
 | [],_,h=>by cases h
 | a::l,c,h=>by
  rw [zDT,List.sum_cons];rcases zCD.1 h with rfl | h
  ·omega
  ·have:=iL h;omega
section
variable {q:AA} {n:Nat}
theorem zDy {b:Bool}:(Fj b 120==0)=b:=by cases b <;> rfl
theorem rI (hF:EN q)(h1:1<=q.cells)(h2:q.cells<=256)(h3:1<=q.symbols)(h4:q.symbols<=16)(h5:q.cons.length<=4096)(hn:FV q<=n): ∃ r:Int,XH n q.cons q=some r/\ (0<=r↔q.cons.all (FH q)=false):=by
 unfold XH mT;have S:=SS (fun n i=>Mb q.cons q n (.l1 i)) q.cons.length (q.cons.map Rm).sum (fun i=>if FH q (q.cons.getD i default) then none else some (i:Int)) (fun n i HM hi=>?_) (n:=n) (by unfold FV at hn;omega)
 ·rw [show Mb q.cons q n (.l1 0)=_ from S];cases hf:(List.range q.cons.length).findSome? (fun i=>if FH q (q.cons.getD i default) then none else some (i:Int)) with
  | some r=>
   refine ⟨r,rfl,?_⟩;obtain ⟨i,hi,hr⟩:=zGn hf;have BT:i<q.cons.length:=by simpa using hi
   split at hr
   ·cases hr
   ·rename_i hx;cases hr;refine ⟨fun _=>?_,fun _=>by omega⟩;rw [List.all_eq_false];exact ⟨q.cons[i],zBD BT,by simpa [BT] using hx⟩
  | none=>
   obtain ⟨m,hm⟩: ∃ m,n-q.cons.length=m+1:=⟨n-q.cons.length-1,by unfold FV at hn;omega⟩;refine ⟨-1,by rw [hm];simp [Mb,XF],?_⟩;rw [zG3] at hf
   have:q.cons.all (FH q)=true:=by
    rw [←kB (p:=FH q) (d:=(default:AB)),zAg];intro i hi;have:=hf i hi;cases hc:FH q (q.cons.getD i default) with
    | true=>rfl
    | false=>rw [hc] at this;simp at this
   simp [this]
 ·have AM:(i:Int)<(q.cons.length:Int):=by omega
  have hR:AJ ((i:Int)+1):=by rw [Av];omega
  have D8:q.cons.getD i default∈q.cons:=by rw [u8,zAa hi];exact zBD hi
  have Ay:=iL D8;have zCb:=zDk (n:=n) h2 (hF.cells _ D8) h3 h4 (hF.runs _ D8) (by rw [rZ (q.cons.getD i default)] at Ay;omega)
  show XF n (Mb q.cons q n) q.cons q (i:Int)=_
  generalize Mb q.cons q n=self
  simp only [XF,VR,ZN,AM,hR,zGZ,zAV,zGU,zHZ,zC9,zAT,zCb,zAS];cases FH q (q.cons.getD i default) <;> rfl
theorem VO (hF:EN q)(hn:FV q<=n):valid n q=some (Fj (B8 q) 191):=by
 unfold valid fv B8;have hv:=WL (lo:=0) (up:=99) hF.values (show q.values.length<n by unfold FV at hn;omega);have hg:=oH hF.nbrs (show 2*Hf q.nbrs+1<=n by unfold FV at hn;omega)
 by_cases c1:q.cells<1
 ·have: ¬ 1<=q.cells:=by omega
  simp [c1,this,Fj]
 have p6:1<=q.cells:=by omega
 by_cases c2:q.cells>256
 ·have: ¬ q.cells<=256:=by omega
  simp [c1,c2,this,Fj]
 have pr:q.cells<=256:=by omega
 by_cases c3:q.symbols<1
 ·have: ¬ 1<=q.symbols:=by omega
  simp [c1,c2,c3,this,Fj]
 have pq:1<=q.symbols:=by omega
 by_cases c4:q.symbols>16
 ·have: ¬ q.symbols<=16:=by omega
  simp [c1,c2,c3,c4,this,Fj]
 have pp:q.symbols<=16:=by omega
 simp only [zAP c1,zAP c2,zAP c3,zAP c4,zAU p6,zAU pr,zAU pq,zAU pp,zAR,zCZ,hv,hg,zAS,bne,zDy];cases ((q.values.length:Nat):Int)==q.symbols with
 | false=>rfl
 | true=>
 cases E2 q.values 0 99 with
 | false=>rfl
 | true=>
 cases ((q.nbrs.length:Nat):Int)==q.cells with
 | false=>rfl
 | true=>
 cases LW q.nbrs with
 | false=>rfl
 | true=>
 by_cases c5:((q.cons.length:Nat):Int)>4096
 ·have: ¬ q.cons.length<=4096:=by omega
  simp [c5,this,Fj]
 have po:q.cons.length<=4096:=by omega
 obtain ⟨r,r1,r2⟩:=rI hF p6 pr pq pp po hn;simp only [Ya,d5,r1,zAP c5,zAU po,zAS,zAR,zCZ,zCs,zDx,zD7];cases ha:q.cons.all (FH q) with
 | false=>
  have:r>=0:=r2.2 ha;simp [this,Fj]
 | true=>
  have: ¬ r>=0:=fun h=>by rw [r2.1 h] at ha;cases ha
  simp [this,Fj]
theorem yU {k:Int}(h:1<=k/\ k<=9):([0,1,1,2,2,3,1,1,4,4]:List Int).getD k.toNat 0=bK k:=by
 rcases OS h with h | h | h | h | h | h | h | h | h <;> subst h <;> rfl
theorem zc (hv:B8 q=true){i:Int}(h0:0<=i)(hi:i<(q.cons.length:Int)):1<=(q.cons.getD i.toNat default).kind/\ (q.cons.getD i.toNat default).kind<=9:=by
 have BT:i.toNat<q.cons.length:=by omega
 have D8:q.cons.getD i.toNat default∈q.cons:=by rw [u8,zAa BT];exact zBD BT
 exact OR (mD ((ED hv).2.2.2.2.2 _ D8))
theorem yn (hF:EN q)(hn:FV q<=n)(i:Int):TZ n q i=some (Jv q i):=by
 unfold TZ bP Jv;rw [VO hF hn];cases hv:B8 q with
 | false=>rfl
 | true=>
  by_cases h0:i<0
  ·have: ¬ (0<=i/\ i<(q.cons.length:Int)):=by omega
   simp [Fj,h0,this]
  ·by_cases hi:i>=(q.cons.length:Int)
   ·have: ¬ (0<=i/\ i<(q.cons.length:Int)):=by omega
    simp [Fj,h0,hi,this]
   ·have hc:0<=i/\ i<(q.cons.length:Int):=by omega
    have hk:=zc hv hc.1 hc.2;have hg:(0<=i/\ i<(q.cons.length:Int))/\ (0<=(q.cons.getD i.toNat default).kind/\ (q.cons.getD i.toNat default).kind<((10:Nat):Int)):=⟨hc,by omega,by omega⟩;simp only [Fj,zC9,zAS,zGm,zAR,zAP h0,zAP hi,zAM hg,zAM hc,yU hk,Bool.true_eq_false,zGQ]
theorem oY (hn:q.cons.length<n): ∃ b,YJ n q=some b:=by
 unfold YJ oZ
 have loop:q.cons.length<=120 -> ∃ b,LX q n (.l1 0)=some b:=fun hl=>by
  have S:=SS (fun n i=>LX q n (.l1 i)) q.cons.length 0 (fun i=>if (!(decide (((q.cons.getD i default).cells.length:Int)>20))&&!(decide (((q.cons.getD i default).runs.length:Int)>10))) then none else some false) (fun n i _ hi=>?_) (n:=n) (by omega)
  ·rw [show LX q n (.l1 0)=_ from S];rw [oU];split
   ·obtain ⟨m,hm⟩: ∃ m,n-q.cons.length=m+1:=⟨n-q.cons.length-1,by omega⟩;exact ⟨true,by rw [hm];simp [LX,YH]⟩
   ·exact ⟨false,rfl⟩
  ·have AM:(i:Int)<(q.cons.length:Int):=by omega
   have hR:AJ ((i:Int)+1):=by rw [Av];omega
   show YH n (LX q n) q (i:Int)=_
   generalize LX q n=self
   simp only [YH,AM,hR,zGZ,zAV,zGU,zHZ,zC9,zAT];cases decide (((q.cons.getD i default).cells.length:Int)>20) <;> cases decide (((q.cons.getD i default).runs.length:Int)>10) <;> rfl
 cases decide (q.cells>16) with
 | true=>exact ⟨_,rfl⟩
 | false=>
 cases decide (q.symbols>6) with
 | true=>exact ⟨_,rfl⟩
 | false=>
 cases decide (((q.values.length:Nat):Int)>8) with
 | true=>exact ⟨_,rfl⟩
 | false=>
 cases decide (((q.nbrs.length:Nat):Int)>20) with
 | true=>exact ⟨_,rfl⟩
 | false=>
 by_cases h:((q.cons.length:Nat):Int)>120
 ·rw [zAU h];exact ⟨_,rfl⟩
 ·rw [zAP h];exact loop (by omega)
end
abbrev zG4:=@BitVec.ofInt_natCast
abbrev zHa:=@List.filter_eq_nil_iff
abbrev zHb:=@List.mem_range'_1
abbrev zHq:=@Array.replicate_succ
abbrev zHr:=@Array.replicate_zero
abbrev zHt:=@List.append_toArray
abbrev zHw:=@Go.Lib.hid
theorem rM (x k bs:Nat)(w:World)(GU:((x:Int)==0)=false) 
 (key:IntKind.u64.wrap (bits BinOp.and IntKind.u64 (x:Int) (IntKind.u64.wrap (-(x:Int)))*285870213051353865)/288230376151711744=(bs:Int))
 (hi:bs<64) (hk:k<64) (DM:w.cell? ⟨1,bs,none⟩=some (.int .u8 k)):
 Calls Tryz.prog 182 #[.int .u64 x] w fun e w'=>e= .returned (.int .i64 k)/\ w=w':=by
 go_enter Tryz.func182,Tryz.ntmps182
 go_wp2_with (simp only [key])
 go_ret
 exact ⟨rfl,rfl⟩
theorem rN (x:Nat)(hx:x<18446744073709551616)(GU:x≠0)(w:World)(hT:NJ w):
 Calls Tryz.prog 182 #[.int .u64 x] w fun e w'=>e= .returned (.int .i64 (Lib.ctz 64 x))/\ w=w':=by
 obtain ⟨Xf,hk⟩:=Lib.lowest_bit 64 x GU hx;obtain ⟨hi,zAo⟩:=Lib.deBruijn64_at _ hk;have DM:=hT _ hi;rw [zAo] at DM;exact rM x _ _ w (by simp;omega) (tz64_key x _ hx GU Xf) hi hk DM
theorem rL (x:Nat)(hx:x<18446744073709551616)(GU:x≠0)(w:World)(hT:NJ w):
 Calls Tryz.prog 175 #[.int .u64 x] w fun e w'=>e= .returned (.int .i64 (Lib.ctz 64 x))/\ w=w':=by
 have h1:=rN x hx GU w hT
 go_enter Tryz.func175,Tryz.ntmps175
 go_wp2_with (go_at_call 182;refine h1.mono ?_;rintro e w' ⟨rfl,rfl⟩)
 go_ret
 exact ⟨rfl,rfl⟩
def Er (x:Nat):List Nat:=(List.range 64).filter fun s=>x.testBit s
theorem iM:Er 0= []:=by simp [Er]
theorem yV (k m s:Nat):(2 ^ k*(2*m+1)).testBit s=(decide (k<=s)&&(2*m+1).testBit (s-k)):=by
 rw [zGW,Nat.testBit_mul_two_pow]
theorem xW (m s:Nat):(2*m+1).testBit s=(decide (s=0)||(2*m).testBit s):=by
 cases s with
 | zero=>simp [Nat.testBit_zero]
 | succ s=>simp [Nat.testBit_succ];congr 1;omega
theorem wU: ∀ k,k<64 -> List.range 64=List.range k++k::List.range' (k+1) (63-k):=by decide+kernel
theorem iN (x:Nat)(hx:x<18446744073709551616)(GU:x≠0):Er x=Lib.ctz 64 x::Er (x&&& (x-1)):=by
 have hc:Lib.ctz 64 x=Lib.ctzFrom 64 x:=by simp [Lib.ctz,GU]
 obtain ⟨m,hm,hk⟩:=Lib.ctzFrom_spec 64 x (by omega) (by simpa using hx);rw [hc]
 generalize Lib.ctzFrom 64 x=k at*
 have hb: ∀ s,x.testBit s=(decide (k<=s)&&(decide (s-k=0)||(2*m).testBit (s-k))):=fun s=>by rw [hm,yV,xW]
 have hy: ∀ s,(x&&& (x-1)).testBit s=(x.testBit s&&decide (s≠k)):=by
  intro s;have hp:0<2 ^ k:=Nat.two_pow_pos k
  have LE:x-1=2 ^ k*(2*m)+(2 ^ k-1):=by
   rw [hm,Nat.mul_add,zCz];omega
  have nn:(x-1).testBit s=if s<k then (2 ^ k-1).testBit s else (2*m).testBit (s-k):=by
   rw [LE,Nat.testBit_two_pow_mul_add _ (by omega)]
  rw [Nat.testBit_and,nn,hb]
  by_cases h1:s<k
  ·rw [zAP (by omega: ¬ k<=s)];simp
  ·rw [zAh h1]
   by_cases h2:s=k
   ·subst h2;simp
   ·rw [zAU (by omega:k<=s),zAP (by omega: ¬ s-k=0)];simp [h2]
 unfold Er;have hr:List.range 64=List.range k++k::List.range' (k+1) (63-k):=wU k hk;rw [hr];simp only [List.filter_append,List.filter_cons]
 have h1: ∀ y:Nat,(∀ s,s<k -> y.testBit s=false) -> (List.range k).filter (fun s=>y.testBit s)= []:=fun y h=>by
  rw [zHa];intro s hs;simp [h s (zAn.1 hs)]
 rw [h1 x (fun s hs=>by rw [hb];simp;omega),h1 (x&&& (x-1)) (fun s hs=>by rw [hy,hb];simp;omega)];have h2:x.testBit k=true:=by rw [hb];simp
 have h3:(x&&& (x-1)).testBit k=false:=by rw [hy];simp
 simp only [h2,h3,zDE,zC9,zCe,zGQ]
 congr 1
 apply List.filter_congr;intro s hs;rw [hy];have:=zHb.1 hs;simp;omega
theorem zFz (x:Nat)(hx:x<9223372036854775808)(GU:x≠0):bits .and .i64 (x:Int) ((x:Int)-1)=((x&&& (x-1):Nat):Int):=by
 have e:((x:Int)-1)=((x-1:Nat):Int):=by omega
 have AM:x&&& (x-1)<=x:=Nat.and_le_left;rw [e]
 have h1:(BitVec.ofInt 64 (x:Int)).toNat=x:=by
  rw [zG4,BitVec.toNat_ofNat];exact zHA (by omega)
 have h2:(BitVec.ofInt 64 ((x-1:Nat):Int)).toNat=x-1:=by
  rw [zG4,BitVec.toNat_ofNat];exact zHA (by omega)
 show IntKind.i64.wrap ((BitVec.ofInt 64 (x:Int)&&& BitVec.ofInt 64 ((x-1:Nat):Int)).toNat:Int)=_
 rw [BitVec.toNat_and,h1,h2];have hm:((x&&& (x-1):Nat):Int) % 2 ^ 64=((x&&& (x-1):Nat):Int):=by omega
 simp only [IntKind.wrap,IntKind.signed,IntKind.bits,hm];rw [zAh (by rw [zCZ,zCQ];omega)]
def jC (w:World)(b o:Nat):Nat:=match w.cell? ⟨b,o,none⟩ with
 | some (.int _ x)=>x.toNat
 | _=>0
def Va (s:Nat):List DV:=[.int .i64 s]
theorem hE1 (R:Nat -> Prop)(W:World)(x:Nat):YV (Va x) R W #[.int .i64 x]:=⟨rfl,fun j hj=>by
 have:j=0:=Nat.lt_one_iff.1 hj;subst this;rfl⟩
set_option maxRecDepth 100000 in
set_option maxHeartbeats 4000000 in
theorem rb (set b o:Nat)(w:World)(LG:set<9223372036854775808)(hT:NJ w)(hb:w.cell? ⟨b,o,none⟩=some (.int .i64 set))(GV:w.frozen? ⟨b,o,none⟩=false)(nk:b≠1):
 NO Tryz.prog 174 #[.pointer (some ⟨b,o,none⟩)] YV ((Er set).map Va) RS (fun k=>k=b) (fun k=>k=1) w:=by
 intro l J Jx W hJ hJx hU hY h0 _;have HY:=zHw hY;clear hY;have nm:W.cell? ⟨b,o,none⟩=some (.int .i64 set):=hU.cell (fun h=>h (.inl rfl)) hb
 have hfW:W.frozen? ⟨b,o,none⟩=false:=by
  rw [World.frozen?_of_block (hU.block b (zC6 w _ hb) (fun h=>h (.inl rfl)))];exact GV
 have np:NJ W:=fun j hj=>hU.cell (fun h=>h (.inr rfl)) (hT j hj)
 have hS: ∀ W',W.heap.size<=W'.heap.size -> Ek (fun k=>k=b) (fun k=>k=1) W':=fun W' h=>⟨fun k e e2=>nk (e.symm.trans e2),fun k hk=>zAj (hk.elim (fun e=>e▸zC6 W _ nm) (fun e=>e▸zC6 W _ (np 0 (by decide)))) h⟩
 obtain ⟨G,hG⟩: ∃ G:Nat -> Prop,(fun k=>k=b)=G:=⟨_,rfl⟩;obtain ⟨R,nt⟩: ∃ R:Nat -> Prop,(fun k=>k=1)=R:=⟨_,rfl⟩;rw [hG,nt] at h0 hS;have dI:G b:=by rw [←hG]
 have hRt:R 1:=by rw [←nt]
 refine callsIn_of_wp Tryz.func174 rfl trivial ?_ rfl;simp only [Tryz.ntmps174,zGl,zCU,zC5,Nat.reduceAdd,Nat.reduceSub,zHq,zHr,List.push_toArray,zHt,zDE,zHD]
 gi_wp2
 gi_loopw [3,4,5,6,7,8,9,10,11,12,13,14] (fun _ _ _ _ _ _ _ _ _ _ _ _ wr=>∃ (i x:Nat),W.heap.size<=wr.heap.size/\ x<9223372036854775808/\ i<=(Er set).length/\ Hid ((Er set).drop i=Er x)/\ Hid (J i G R wr)/\ wr.cell? ⟨b,o,none⟩=some (.int .i64 x)/\ wr.frozen? ⟨b,o,none⟩=false/\ Hid (NJ wr))
  (fun _ _ _ _ _ _ _ _ _ _ _ _ wr=>jC wr b o)
 case atStart=>exact ⟨0,set,zA5 _,LG,zDJ _,zHw rfl,zHw h0,nm,hfW,zHw np⟩
 case round=>
  obtain ⟨i,x,Ay,hx,Ce,hd,hj,hc,hf,ht⟩:=hrel
  by_cases GU:x=0
  ·subst GU
   have Ew:i=(Er set).length:=by
    have:=congrArg List.length hd.out;rw [zHk,iM,zC5] at this;omega
   gi_wp2
   go_end0
   exact ⟨G,R,hS _ Ay,.inl ⟨Ew▸hj.out,_,rfl⟩⟩
  ·have N0:((x:Int)==0)=false:=by simp [GU]
   have Ow:(Er set).drop i=Lib.ctz 64 x::Er (x&&& (x-1)):=by rw [hd.out,iN x (by omega) GU]
   have Ew:i<(Er set).length:=by
    rcases zCV i (Er set).length with h | h
    ·exact h
    ·rw [zDG h] at Ow;cases Ow
   have hie:(Er set)[i]=Lib.ctz 64 x:=by
    have:=zCJ Ew;rw [Ow] at this;injection this with h1 h2;exact h1.symm
   obtain ⟨fn,tmps,U1,body,hy,hR⟩:=HY.out i (Va (Lib.ctz 64 x)) #[.int .i64 (Lib.ctz 64 x)] G R wr (by rw [zCG,zAa Ew,hie];rfl) (hE1 R wr _) hj.out (hS _ Ay);have hR':=zHw hR;clear hR;have htz:=zHw (rL x (by omega) GU wr ht.out);have zCl:=zHw Ow;clear Ow hd
   gi_wp2_with (first | refine ⟨trivial,rfl,?_⟩ | (gi_at_call 175;refine (zHv.2 htz.out).mono ?_;rintro e w' ⟨rfl,rfl⟩))
   refine ⟨rfl,hR'.out.mono ?_⟩;rintro e W1 ⟨HJ,(⟨rfl,hj1⟩ | ⟨rfl,LE⟩)⟩
   ·have hc1:W1.cell? ⟨b,o,none⟩=some (.int .i64 x):=HJ.cell (fun h=>h (.inl dI)) hc
    have hf1:W1.frozen? ⟨b,o,none⟩=false:=by
     rw [World.frozen?_of_block (HJ.block b (zC6 wr _ hc) (fun h=>h (.inl dI)))];exact hf
    have mh:NJ W1:=fun j hj=>HJ.cell (fun h=>h (.inr hRt)) (ht.out j hj)
    have C3:AO G W1 (W1.setCell ⟨b,o,none⟩ (.int .i64 ((x&&& (x-1):Nat):Int))):=(AO.refl G W1).setCell (fun _=>dI) _;have zAr:=zA0 Ay (zA0 HJ.size C3.size);have HN:=zHw ((hJ _).same (hS _ (zA0 Ay HJ.size)) hj1 C3)
    have ht2:Hid (NJ (W1.setCell ⟨b,o,none⟩ (.int .i64 ((x&&& (x-1):Nat):Int)))):=zHw fun j hj=>
     ((AO.refl (fun k=>k=b) W1).setCell (fun _=>rfl) _).cell (fun e=>nk e.symm) (mh j hj)
    have AM:x&&& (x-1)<x:=Nat.lt_of_le_of_lt Nat.and_le_right (by omega);clear C3 mh
    gi_wp2
    rw [zFz x hx GU];have I8:(W1.setCell ⟨b,o,none⟩ (.int .i64 ((x&&& (x-1):Nat):Int))).cell? ⟨b,o,none⟩=some (.int .i64 ((x&&& (x-1):Nat):Int)):=World.cell?_setCell_same' W1 _ _ (by rw [hc1];rfl);refine ⟨⟨_,_,_,_,_,_,_,_,_,_,_,_,⟨i+1,x&&& (x-1),zAr,by omega,Ew,zHw ?_,HN,I8,?_,ht2⟩,rfl⟩,?_⟩
    ·rw [←List.drop_drop,zCl.out];rfl
    ·rw [World.frozen?_setCell];exact hf1
    ·unfold jC;rw [I8,hc]
     show ((x&&& (x-1):Nat):Int).toNat<(x:Int).toNat
     omega
   ·gi_wp2
    refine bodyPost_ret (results_none rfl _ _ _) rfl ?_;exact ⟨G,R,hS _ (zA0 Ay HJ.size),.inr ⟨⟨_,rfl⟩,LE⟩⟩
def Bc (x:Int):List Int:=(Er x.toNat).map fun (s:Nat)=>(s:Int)
theorem zD6 (x:Int):(Bc x).map BP=(Er x.toNat).map Va:=by
 unfold Bc;rw [List.map_map];rfl
theorem ra {x:Int}(hx:(0:Int)<=x/\ x<9223372036854775808)(w:World)(b o:Nat)(u:Value)(hg:GG.gi w)(C6:GG.ng<=b)(hb: ∃ cs t,w.heap[b]? =some (.cells cs t (0,0)))(hc:w.cell? ⟨b,o,none⟩=some u)(hr:u= .int .i64 x):
 NO Tryz.prog 174 #[.pointer (some ⟨b,o,none⟩)] YV ((Bc x).map BP) RS (fun k=>k=b) (fun k=>k=1) w:=by
 rw [zD6];obtain ⟨cs,t,hb⟩:=hb;have C6:2<=b:=C6;refine rb x.toNat b o w (by omega) hg.1 ?_ ?_ (by omega)
 ·rw [hc,hr];congr 2;omega
 ·unfold World.frozen?;simp [hb]
theorem ES.iterOf {P:Program}{Γ:At}{f gf:Nat}{ds:List DV}{c:Nat -> DV}{d:DV}{encs:List (List DV)}{Rd:Nat -> Prop}(h0:ES P Γ f ds [] (.fn gf 1 c) [some (.cells [d])] true)(hc:c 0= .ref 0 0)(EL:ds.all E8=true) 
 (eg: ∀ args W,(callFunc gf args).run P W= .ok (.enter gf args) W)
 (zP: ∀ (w:World) (b o:Nat) (u:Value),Γ.gi w -> Γ.ng<=b -> (∃ cs t,w.heap[b]? =some (.cells cs t (0,0))) -> w.cell? ⟨b,o,none⟩=some u -> AK (fun _=>False) w d [] u -> NO P gf #[.pointer (some ⟨b,o,none⟩)] YV encs RS (fun k=>k=b) Rd w)
 (hd:P7 d=true) (hRd: ∀ b,Rd b -> b<Γ.ng) (h:DH):ES P Γ f ds h (.it h.length) (h++[some (.iter encs)]) true:=by
 refine ⟨h0.1,fun N ρ w args HR Cn=>?_⟩;refine (h0.2 (MS N h ρ) [] w args (Qa (fun b hb=>HR.lt2 hb) HR.gi) ⟨Cn.1,fun i hi=>?_⟩).mono ?_
 ·have hx:=K2 (zAg.1 EL (ds.getD i .any) (by simp [hi]));exact AK.out _ (DJ (fun b hb=>PU.1 hb) []) (hx _ _ _ _ (Cn.2 i hi))
 ·rintro e w' ⟨v,rfl,⟨⟨ρ',g1,g2,g3,g4⟩,g5⟩⟩;have hE:=g5 rfl;obtain ⟨p,hp,DL⟩:=g1.obj 0 _ rfl;have DL:AY w' p 1 _:=DL;have hf: ∀ b,p.foot b -> w.heap.size<=b:=fun b hb=>(g3.grow b ⟨0,_,p,rfl,hp,hb⟩).resolve_left fun ⟨k,o',p',q1,_⟩=>by simp at q1
  obtain ⟨lb,hv,hl,Mm⟩:=g2;obtain ⟨u,hu,hr⟩:=Mm 0 (by omega);rw [hc] at hr;obtain ⟨p',BC,XS⟩:=hr;have ep:p'=p:=zAe (BC.symm.trans hp);subst ep
  have zCP:lb= #[.pointer (some ⟨p'.blk,p'.off,none⟩)]:=by
   apply Array.ext
   ·simp [hl]
   ·intro i h1 h2;have:i=0:=by omega
    subst this;have:=zAZ.1 hu;obtain ⟨_,e⟩:=this;rw [e,XS];rfl
  subst zCP;obtain ⟨u2,c1,c2⟩:=AY.cell DL (j:=0) (by omega);have FF:p'.foot=fun b=>b=p'.blk:=DL.1
  have C6:Γ.ng<=w.heap.size:=Γ.lo _ HR.gi;have DM:=g1.cel 0 _ p' p'.blk rfl hp (by rw [FF]);refine ⟨v,rfl,⟨⟨ρ++[{ p' with val:=v }],HR.snoc hE (fun b hb=>⟨hf b hb,(g1.cel 0 _ p' b rfl hp hb).2.2⟩) ?_,⟨{ p' with val:=v },by rw [←HR.len];simp,rfl⟩,A5.snoc HR hE hf,fun _ _ h=>Eh h⟩,g5⟩⟩;obtain ⟨_,cs,t,Dh,_⟩:=DL;refine ⟨gf,_,Rd,⟨hv,eg⟩,?_,fun b hb=>?_,fun b hb=>?_⟩
  ·show NO P gf _ YV encs RS p'.foot Rd w'
   rw [FF];refine zP w' _ _ u2 g1.gi DM.1 ⟨cs,t,Dh⟩ (by simpa using c1) ?_;exact AK.out _ (DJ (fun b hb=>hb.elim) []) (aU hd c2)
  ·have DN:=hRd b hb;refine ⟨fun hm=>?_,zAj (zAj DN C6) hE.size⟩;rcases hm with hm | hm
   ·have:=(HR.nlt b hm).2;omega
   ·rcases MO.snoc HR hm with hm | hm
    ·have:=HR.low hm;omega
    ·have:=hf b hm;omega
  ·obtain ⟨_,_,c,t,z,h4⟩:=g1.cel 0 _ p' b rfl hp hb;exact (zAZ.1 h4).1
set_option maxRecDepth 100000
set_option maxHeartbeats 40000000
inductive YX where
 | l1 (x7:Int)
def Uh (n:Nat)(self:YX -> Option Bool)(sets:List Int)(x7:Int):Option Bool:= bif (decide (x7<(sets.length:Int))) then if 0<=x7/\ x7<(sets.length:Int) then bif ((sets.getD ((x7).toNat) 0)==0) then some true else if AJ (x7+1) then self (.l1 (x7+1)) else none else none else some false
def pT (n:Nat)(self:YX -> Option Bool)(sets:List Int):Option Bool:= self (.l1 0)
def Q9 (sets:List Int):Nat -> YX -> Option Bool
 | 0,_=>none
 | n+1,.l1 x7=>Uh n (Q9 sets n) sets x7
def Ui (n:Nat)(sets:List Int):Option Bool:=pT n (Q9 sets n) sets
def zEW (n B:Nat)(N:Yd 0)(sets:List Int)(r:Bool):YX -> Prop
 | .l1 x7=>∀ m0:Nat,n<=m0 -> TW B N (FQ Tryz.f106 0 (.bool r) []) (A4 m0 (BB (AX Tryz.f106) 0 [])) ⟨AG 14 [(5,.ints sets),(6,.i (sets.length:Int)),(7,.i x7)],[]⟩
theorem zEX (B:Nat)(N:Yd 0)(sets:List Int):Al (Q9 sets) (zEW · B N sets):=ia (fun _=>rfl) fun n AI pt r h=>by
 cases pt
 case l1 x7=>
  intro m0 AD;refine rd AD fun m0 AD=>?_
  revert r;apply gO;exact bi 8 (gi (bi 12 (lE AC [2] []) (gw 13 (lG AC [] (AI _ _ · m0 AD))))) (lE AC [2] [])
theorem pS {n:Nat}{sets:List Int}{r:Bool}(h:Ui n sets=some r):EQ 106 [.ints sets] [] (.bool r) [] true:=by
 refine ot Tryz.func106 fun B N=>?_
 revert r;apply gO;exact lN AC [] ((zEX B N sets n) _ _ · n Nat.le.refl)
def bY (n:Nat)(pos:List Int):Option Bool:= (Ui n pos).bind fun y1=> some y1
def Jz (n:Nat)(pos:List Int):Option Bool:=bY n pos
theorem OW {n:Nat}{pos:List Int}{r:Bool}(h:Jz n pos=some r):EQ 84 [.ints pos] [] (.bool r) [] true:=by
 unfold Jz bY at h;refine ot Tryz.func84 fun B N=>?_
 revert r;apply gO;exact cf pS [] fun _=>lE AC [2] []
def aw (n:Nat)(pos:List Int):Option ((List Int)):= (Ui n pos).bind fun y1=> bif y1 then if ((pos.length:Int):Int)=(pos.length:Int)/\ 0<=(pos.length:Int)/\ ((pos.length:Int):Int)<=1000000000000 then if pos.length=(List.replicate pos.length (0:Int)).length then some (List.replicate pos.length (0:Int)) else none else none else some pos
def QC (n:Nat)(pos:List Int):Option ((List Int)):=aw n pos
theorem xh {n:Nat}{pos:List Int}{r:(List Int)}(h:QC n pos=some r):EQ 143 [.ints pos] [] (.ints r) [] true:=by
 unfold QC aw at h;refine ot Tryz.func143 fun B N=>?_
 revert r;apply gO;exact cf pS [] fun _=>bi 4 (gi (gn fun g1=>lF fun p=>ez AC [2] [0] p [0] (H0.g g1))) (lE AC [2] [])
inductive WP where
 | l1 (x20:Int)
def S8 (n:Nat)(self:WP -> Option Int)(q:AA)(pos:List Int)(x20:Int):Option Int:= bif (decide (x20<(pos.length:Int))) then if 0<=x20/\ x20<(pos.length:Int) then bif (decide ((pos.getD ((x20).toNat) 0)<0)) then some 250 else if 0<=q.symbols/\ q.symbols<=(IntKind.i64.bits:Int) then bif (decide ((pos.getD ((x20).toNat) 0)>=(IntKind.i64.wrap (1*2 ^ (q.symbols).toNat)))) then some 250 else if AJ (x20+1) then self (.l1 (x20+1)) else none else none else none else some 0
def kP (n:Nat)(self:WP -> Option Int)(q:AA)(pos:List Int):Option Int:= (valid n q).bind fun y1=> bif (y1 != 0) then some y1 else bif ((pos.length:Int) != q.cells) then some 250 else self (.l1 0)
def N6 (q:AA)(pos:List Int):Nat -> WP -> Option Int
 | 0,_=>none
 | n+1,.l1 x20=>S8 n (N6 q pos n) q pos x20
def N8 (n:Nat)(q:AA)(pos:List Int):Option Int:=kP n (N6 q pos n) q pos
def wz (n B:Nat)(N:Yd 0)(q:AA)(pos:List Int)(r:Int):WP -> Prop
 | .l1 x20=>∀ m0:Nat,n<=m0 -> TW B N (FQ Tryz.f55 0 (.i r) []) (A4 m0 (BB (AX Tryz.f55) 0 [])) ⟨AG 34 [(2,.ref 0 0),(18,.ints pos),(19,.i (pos.length:Int)),(20,.i x20)],[oC (AN q)]⟩
theorem w4 (B:Nat)(N:Yd 0)(q:AA)(pos:List Int):Al (N6 q pos) (wz · B N q pos):=ia (fun _=>rfl) fun n AI pt r h=>by
 cases pt
 case l1 x20=>
  intro m0 AD;refine rd AD fun m0 AD=>?_
  revert r;apply gO;exact bi 21 (gi (bi 25 (lE AC [4] []) (gi (bi 31 (lE AC [4] []) (gw 33 (lG AC [0] (AI _ _ · m0 AD))))))) (lE AC [4] [])
theorem aW {n:Nat}{q:AA}{pos:List Int}{r:Int}(h:N8 n q pos=some r):EQ 55 [.agg 5 (L1 (AN q)),.ints pos] [] (.i r) [] true:=by
 refine ot Tryz.func55 fun B N=>?_
 revert r;apply gO;exact cf VN [oC (AN q)] fun _=>bi 11 (lE AC [4] []) (bi 17 (lE AC [4] []) (lN AC [0] ((w4 B N q pos n) _ _ · n Nat.le.refl)))
def pc (n:Nat)(s_:List Int):Option ((List Int)):= if 0<s_.length/\ ((True)/\ (0=0/\ 0=([]:List Int).length)/\ ([]:List Int).length+s_.length<=BA) then if ([]:List Int).length+s_.length=(([]:List Int)++s_).length then some (([]:List Int)++s_) else none else none
def Yk (n:Nat)(s_:List Int):Option ((List Int)):=pc n s_
theorem zE7 {n:Nat}{s_:List Int}{r:(List Int)}(h:Yk n s_=some r):EQ 141 [.ints s_] [] (.msl 0 1 0 r.length) [oI r] true:=by
 refine ot Tryz.func141 fun B N=>?_
 revert r;apply gO;exact gc (gi (gi (gn fun g2=>lF fun p=>el AC [2] [1] p [] H0 [.msl 0 1 0 (([]:List Int).length+s_.length)] (AS.mslN g2))))
def eH (n:Nat)(s_:List Bool):Option ((List Bool)):= if 0<s_.length/\ ((True)/\ (0=0/\ 0=([]:List Bool).length)/\ ([]:List Bool).length+s_.length<=BA) then if ([]:List Bool).length+s_.length=(([]:List Bool)++s_).length then some (([]:List Bool)++s_) else none else none
def PF (n:Nat)(s_:List Bool):Option ((List Bool)):=eH n s_
theorem pd {n:Nat}{s_:List Bool}{r:(List Bool)}(h:PF n s_=some r):EQ 178 [.bools s_] [] (.msl 0 1 0 r.length) [some (.bools r)] true:=by
 refine ot Tryz.func178 fun B N=>?_
 revert r;apply gO;exact gc (gi (gi (gn fun g2=>lF fun p=>el AC [2] [1] p [] H0 [.msl 0 1 0 (([]:List Bool).length+s_.length)] (AS.mslN g2))))
def eJ (n:Nat)(q:AA)(i:Int)(pos:List Int):Option Int:= (TZ n q i).bind fun y1=> bif (y1.2 != 0) then some y1.2 else (N8 n q pos).bind fun y2=> some y2
def RE (n:Nat)(q:AA)(i:Int)(pos:List Int):Option Int:=eJ n q i pos
theorem zFB {n:Nat}{q:AA}{i:Int}{pos:List Int}{r:Int}(h:RE n q i pos=some r):EQ 104 [.agg 5 (L1 (AN q)),.i i,.ints pos] [] (.i r) [] true:=by
 unfold RE eJ at h;refine ot Tryz.func104 fun B N=>?_
 revert r;apply gO;exact cf ym [oC (AN q)] fun _=>bi 16 (lE AC [6] []) (cf aW [oC (AN q)] fun _=>lE AC [6] [])
inductive Xy where
 | l1 (Br:Int)
def UK (n:Nat)(self:Xy -> Option Int)(g_:List (List Int))(sets:List (List Bool))(Br:Int):Option Int:= bif (decide (Br<(sets.length:Int))) then if 0<=Br/\ Br<(sets.length:Int) then bif ((((sets.getD ((Br).toNat) []).length:Nat):Int) != (g_.length:Int)) then some 1 else if AJ (Br+1) then self (.l1 (Br+1)) else none else none else some 0
def oA (n:Nat)(self:Xy -> Option Int)(g_:List (List Int))(sets:List (List Bool)):Option Int:= (UO n g_).bind fun y1=> bif (y1 != 0) then some y1 else self (.l1 0)
def Qp (g_:List (List Int))(sets:List (List Bool)):Nat -> Xy -> Option Int
 | 0,_=>none
 | n+1,.l1 Br=>UK n (Qp g_ sets n) g_ sets Br
def KJ (n:Nat)(g_:List (List Int))(sets:List (List Bool)):Option Int:=oA n (Qp g_ sets n) g_ sets
def zDL (n B:Nat)(N:Yd 0)(g_:List (List Int))(sets:List (List Bool))(r:Int):Xy -> Prop
 | .l1 Br=>∀ m0:Nat,n<=m0 -> TW B N (FQ Tryz.f102 0 (.i r) []) (A4 m0 (BB (AX Tryz.f102) 0 [])) ⟨AG 25 [(0,.sl 1 g_.length (AP BX g_)),(13,.sl 1 sets.length (AP RG sets)),(14,.i (sets.length:Int)),(15,.i Br)],[]⟩
theorem zDM (B:Nat)(N:Yd 0)(g_:List (List Int))(sets:List (List Bool)):Al (Qp g_ sets) (zDL · B N g_ sets):=ia (fun _=>rfl) fun n AI pt r h=>by
 cases pt
 case l1 Br=>
  intro m0 AD;refine rd AD fun m0 AD=>?_
  revert r;apply gO;exact bi 16 (gi (bi 23 (lE AC [4] []) (gw 24 (lG AC [] (AI _ _ · m0 AD))))) (lE AC [4] [])
theorem Xw {n:Nat}{g_:List (List Int)}{sets:List (List Bool)}{r:Int}(h:KJ n g_ sets=some r):EQ 102 [.sl 1 g_.length (AP BX g_),.sl 1 sets.length (AP RG sets)] [] (.i r) [] true:=by
 refine ot Tryz.func102 fun B N=>?_
 revert r;apply gO;exact cf oF [] fun _=>bi 11 (lE AC [4] []) (lN AC [] ((zDM B N g_ sets n) _ _ · n Nat.le.refl))
end Go.Proofs.YtkjbblkieglmlaaGreatDoor
namespace Go.Proofs.YtkjbblkieglmlaaGreatDoor
open Go.RowKit
set_option maxRecDepth 100000
set_option maxHeartbeats 40000000
theorem ud:As (Aj Tryz.f158 0) [] (List.range 18) [18]:=by unfold As;kernel_rfl
def tN:Bh:=fun i=>match i with
 | 0=>.ord [] (List.range 18) [18]
 | _=>.no
def bL (n:Nat)(cell ss:Int)(c:AB)(q:AA)(pos:List Int)(ln:Nat)(lost:List Int):Option ((List Int)):= if (0<=cell/\ cell<(ln:Int))/\ 0+((cell).toNat)<lost.length/\ (0<=cell/\ cell<(pos.length:Int)) then some (lost.set (0+((cell).toNat)) (bits .or .i64 (lost.getD (0+((cell).toNat)) 0) (bits .and .i64 (pos.getD ((cell).toNat) 0) ss))) else none
def Dg (n:Nat)(cell ss:Int)(c:AB)(q:AA)(pos:List Int)(ln:Nat)(lost:List Int):Option ((List Int)):=bL n cell ss c q pos ln lost
theorem GS {n:Nat}{cell ss:Int}{c:AB}{q:AA}{pos:List Int}{ln:Nat}{lost:List Int}{r:(List Int)}(h:Dg n cell ss c q pos ln lost=some r):EQ 158 [.ref 0 0,.i cell,.i ss] [oW c q pos 1 ln,oI lost] (.tup 0 (fun j=>([]:List DV).getD j .any)) [oW c q pos 1 ln,oI r] false:=by
 refine ot Tryz.func158 fun B N=>?_
 revert r;apply gO;exact jg ud (gc (gn fun g0=>jg g0 (gc (gn fun g1=>jg g1 (gi (jg g0 (jg g1 (lE tN [] [0,1]))))))))
theorem uQ:As (Aj Tryz.f159 0) [] (List.range 22) [22]:=by unfold As;kernel_rfl
def tL:Bh:=fun i=>match i with
 | 0=>.ord [] (List.range 22) [22]
 | _=>.no
def am (n:Nat)(cell:Int)(c:AB)(q:AA)(pos:List Int)(ln:Nat)(lost:List Int):Option ((List Int)):= if (0<=cell/\ cell<(ln:Int))/\ 0+((cell).toNat)<lost.length/\ (0<=cell/\ cell<(pos.length:Int)) then some (lost.set (0+((cell).toNat)) (bits .or .i64 (lost.getD (0+((cell).toNat)) 0) (bits .andNot .i64 (pos.getD ((cell).toNat) 0) c.set))) else none
def Gj (n:Nat)(cell:Int)(c:AB)(q:AA)(pos:List Int)(ln:Nat)(lost:List Int):Option ((List Int)):=am n cell c q pos ln lost
theorem MP {n:Nat}{cell:Int}{c:AB}{q:AA}{pos:List Int}{ln:Nat}{lost:List Int}{r:(List Int)}(h:Gj n cell c q pos ln lost=some r):EQ 159 [.ref 0 0,.i cell] [oW c q pos 1 ln,oI lost] (.tup 0 (fun j=>([]:List DV).getD j .any)) [oW c q pos 1 ln,oI r] false:=by
 refine ot Tryz.func159 fun B N=>?_
 revert r;apply gO;exact jg uQ (gc (gn fun g0=>jg g0 (gc (gn fun g1=>jg g1 (gi (jg g0 (jg g1 (lE tL [] [0,1]))))))))
inductive Ug where
 | l1 (x3 x4 BG:Int)
 | l2 (x3 x4 CJ:Int) (o1:List Int)
def Uf (n:Nat)(self:Ug -> Option (Bool×(List Int)))(c:AB)(q:AA)(pos:List Int)(ln:Nat)(lost:List Int)(x3 x4 BG:Int):Option (Bool×(List Int)):= bif (decide (BG<(c.cells.length:Int))) then if (0<=BG/\ BG<(c.cells.length:Int))/\ (0<=(c.cells.getD ((BG).toNat) 0)/\ (c.cells.getD ((BG).toNat) 0)<(pos.length:Int))/\ AJ ((pos.getD ((c.cells.getD ((BG).toNat) 0).toNat) 0)-1) then bif ((bits .and .i64 (pos.getD ((c.cells.getD ((BG).toNat) 0).toNat) 0) ((pos.getD ((c.cells.getD ((BG).toNat) 0).toNat) 0)-1))==0) then if AJ (BG+1) then self (.l1 (bits .or .i64 x3 (pos.getD ((c.cells.getD ((BG).toNat) 0).toNat) 0)) (bits .or .i64 x4 (bits .and .i64 x3 (pos.getD ((c.cells.getD ((BG).toNat) 0).toNat) 0))) (BG+1)) else none else if AJ (BG+1) then self (.l1 x3 x4 (BG+1)) else none else none else self (.l2 x3 x4 0 lost)
def Ue (n:Nat)(self:Ug -> Option (Bool×(List Int)))(c:AB)(q:AA)(pos:List Int)(ln:Nat)(lost:List Int)(x3 x4 CJ:Int)(o1:List Int):Option (Bool×(List Int)):= bif (decide (CJ<(c.cells.length:Int))) then if (0<=CJ/\ CJ<(c.cells.length:Int))/\ (0<=(c.cells.getD ((CJ).toNat) 0)/\ (c.cells.getD ((CJ).toNat) 0)<(pos.length:Int))/\ AJ ((pos.getD ((c.cells.getD ((CJ).toNat) 0).toNat) 0)-1) then bif ((bits .and .i64 (pos.getD ((c.cells.getD ((CJ).toNat) 0).toNat) 0) ((pos.getD ((c.cells.getD ((CJ).toNat) 0).toNat) 0)-1))==0) then (Dg n (c.cells.getD ((CJ).toNat) 0) (bits .or .i64 (bits .andNot .i64 x3 (pos.getD ((c.cells.getD ((CJ).toNat) 0).toNat) 0)) x4) c q pos ln o1).bind fun y1=> if AJ (CJ+1) then self (.l2 x3 x4 (CJ+1) y1) else none else (Dg n (c.cells.getD ((CJ).toNat) 0) x3 c q pos ln o1).bind fun y1=> if AJ (CJ+1) then self (.l2 x3 x4 (CJ+1) y1) else none else none else some (true,o1)
def pN (n:Nat)(self:Ug -> Option (Bool×(List Int)))(c:AB)(q:AA)(pos:List Int)(ln:Nat)(lost:List Int):Option (Bool×(List Int)):= self (.l1 0 0 0)
def KV (c:AB)(q:AA)(pos:List Int)(ln:Nat)(lost:List Int):Nat -> Ug -> Option (Bool×(List Int))
 | 0,_=>none
 | n+1,.l1 x3 x4 BG=>Uf n (KV c q pos ln lost n) c q pos ln lost x3 x4 BG
 | n+1,.l2 x3 x4 CJ o1=>Ue n (KV c q pos ln lost n) c q pos ln lost x3 x4 CJ o1
def Q6 (n:Nat)(c:AB)(q:AA)(pos:List Int)(ln:Nat)(lost:List Int):Option (Bool×(List Int)):=pN n (KV c q pos ln lost n) c q pos ln lost
def zEL (n B:Nat)(N:Yd 2)(c:AB)(q:AA)(pos:List Int)(ln:Nat)(lost:List Int)(r:Bool×(List Int)):Ug -> Prop
 | .l1 x3 x4 BG=>∀ m0:Nat,n<=m0 -> TW B N (FQ Tryz.f132 2 (.bool r.1) [oW c q pos 1 ln,oI r.2]) (A4 m0 (BB (AX Tryz.f132) 0 [])) ⟨AG 77 [(0,.ref 0 0),(3,.i x3),(4,.i x4),(15,.ints c.cells),(16,.i (c.cells.length:Int)),(17,.i BG)],[oW c q pos 1 ln,oI lost]⟩
 | .l2 x3 x4 CJ o1=>∀ m0:Nat,n<=m0 -> TW B N (FQ Tryz.f132 2 (.bool r.1) [oW c q pos 1 ln,oI r.2]) (A4 m0 (BB (AX Tryz.f132) 2 [])) ⟨AG 77 [(0,.ref 0 0),(3,.i x3),(4,.i x4),(46,.ints c.cells),(47,.i (c.cells.length:Int)),(48,.i CJ)],[oW c q pos 1 ln,oI o1]⟩
theorem zEM (B:Nat)(N:Yd 2)(c:AB)(q:AA)(pos:List Int)(ln:Nat)(lost:List Int):Al (KV c q pos ln lost) (zEL · B N c q pos ln lost):=ia (fun _=>rfl) fun n AI pt r h=>by
 cases pt
 case l1 x3 x4 BG=>
  intro m0 AD;refine rd AD fun m0 AD=>?_
  revert r;apply gO;exact bi 18 (gc (gi (gc (gi (gw 30 (bi 32 (gw 41 (lG AC [0,1] (AI _ _ · m0 AD))) (gw 41 (lG AC [0,1] (AI _ _ · m0 AD))))))))) (lN AC [0,1] (AI _ _ · n Nat.le.refl))
 case l2 x3 x4 CJ o1=>
  intro m0 AD;refine rd AD fun m0 AD=>?_
  revert r;apply gO;exact bi 49 (gc (gi (gc (gi (gw 61 (bi 63 (ce GS [0,1] [oW c q pos 1 ln,oI o1] fun _=>gw 76 (lG AC [0,1] (AI _ _ · m0 AD))) (ce GS [0,1] [oW c q pos 1 ln,oI o1] fun _=>gw 76 (lG AC [0,1] (AI _ _ · m0 AD))))))))) (lE AC [2] [0,1])
theorem zEK {n:Nat}{c:AB}{q:AA}{pos:List Int}{ln:Nat}{lost:List Int}{r:Bool×(List Int)}(h:Q6 n c q pos ln lost=some r):EQ 132 [.ref 0 0] [oW c q pos 1 ln,oI lost] (.bool r.1) [oW c q pos 1 ln,oI r.2] false:=by
 refine ot Tryz.func132 fun B N=>?_
 revert r;apply gO;exact lN AC [0,1] ((zEM B N c q pos ln lost n) _ _ · n Nat.le.refl)
theorem ur:As (Aj Tryz.f133 5) [] (List.range 15) []:=by unfold As;kernel_rfl
theorem uq:As (Aj Tryz.f133 8) [] (List.range 15) []:=by unfold As;kernel_rfl
theorem us:As (Aj Tryz.f133 16) [] (List.range 23) []:=by unfold As;kernel_rfl
theorem Zv:As (Aj Tryz.f133 18) [] (List.range 23) []:=by unfold As;kernel_rfl
def Fs:Bh:=fun i=>match i with
 | 5=>.ord [] (List.range 15) []
 | 8=>.ord [] (List.range 15) []
 | 16=>.ord [] (List.range 23) []
 | 18=>.ord [] (List.range 23) []
 | _=>.no
inductive Un where
 | l1 (x3 x4 Br:Int)
 | l2 (x3 x4 CM:Int) (o1:List Int)
def Um (n:Nat)(self:Un -> Option (Bool×(List Int)))(c:AB)(q:AA)(pos:List Int)(ln:Nat)(lost:List Int)(x3 x4 Br:Int):Option (Bool×(List Int)):= bif (decide (Br<(c.cells.length:Int))) then if (0<=Br/\ Br<(c.cells.length:Int))/\ (0<=(c.cells.getD ((Br).toNat) 0)/\ (c.cells.getD ((Br).toNat) 0)<(pos.length:Int)) then bif ((bits .andNot .i64 (pos.getD ((c.cells.getD ((Br).toNat) 0).toNat) 0) c.set)==0) then if AJ (x3+1)/\ AJ (x4+1)/\ AJ (Br+1) then self (.l1 (x3+1) (x4+1) (Br+1)) else none else bif ((bits .and .i64 (pos.getD ((c.cells.getD ((Br).toNat) 0).toNat) 0) c.set) != 0) then if AJ (x4+1)/\ AJ (Br+1) then self (.l1 x3 (x4+1) (Br+1)) else none else if AJ (Br+1) then self (.l1 x3 x4 (Br+1)) else none else none else bif (decide (x3>c.hi)) then some (false,lost) else bif (decide (x4<c.lo)) then some (false,lost) else self (.l2 x3 x4 0 lost)
def Ul (n:Nat)(self:Un -> Option (Bool×(List Int)))(c:AB)(q:AA)(pos:List Int)(ln:Nat)(lost:List Int)(x3 x4 CM:Int)(o1:List Int):Option (Bool×(List Int)):= bif (decide (CM<(c.cells.length:Int))) then if 0<=CM/\ CM<(c.cells.length:Int) then bif (x3==c.hi) then if 0<=(c.cells.getD ((CM).toNat) 0)/\ (c.cells.getD ((CM).toNat) 0)<(pos.length:Int) then bif ((bits .andNot .i64 (pos.getD ((c.cells.getD ((CM).toNat) 0).toNat) 0) c.set) != 0) then (Dg n (c.cells.getD ((CM).toNat) 0) c.set c q pos ln o1).bind fun y1=> bif (x4==c.lo) then bif ((bits .and .i64 (pos.getD ((c.cells.getD ((CM).toNat) 0).toNat) 0) c.set) != 0) then (Gj n (c.cells.getD ((CM).toNat) 0) c q pos ln y1).bind fun y2=> if AJ (CM+1) then self (.l2 x3 x4 (CM+1) y2) else none else if AJ (CM+1) then self (.l2 x3 x4 (CM+1) y1) else none else if AJ (CM+1) then self (.l2 x3 x4 (CM+1) y1) else none else bif (x4==c.lo) then bif ((bits .and .i64 (pos.getD ((c.cells.getD ((CM).toNat) 0).toNat) 0) c.set) != 0) then (Gj n (c.cells.getD ((CM).toNat) 0) c q pos ln o1).bind fun y1=> if AJ (CM+1) then self (.l2 x3 x4 (CM+1) y1) else none else if AJ (CM+1) then self (.l2 x3 x4 (CM+1) o1) else none else if AJ (CM+1) then self (.l2 x3 x4 (CM+1) o1) else none else none else bif (x4==c.lo) then if 0<=(c.cells.getD ((CM).toNat) 0)/\ (c.cells.getD ((CM).toNat) 0)<(pos.length:Int) then bif ((bits .and .i64 (pos.getD ((c.cells.getD ((CM).toNat) 0).toNat) 0) c.set) != 0) then (Gj n (c.cells.getD ((CM).toNat) 0) c q pos ln o1).bind fun y1=> if AJ (CM+1) then self (.l2 x3 x4 (CM+1) y1) else none else if AJ (CM+1) then self (.l2 x3 x4 (CM+1) o1) else none else none else if AJ (CM+1) then self (.l2 x3 x4 (CM+1) o1) else none else none else some (true,o1)
def zEf (n:Nat)(self:Un -> Option (Bool×(List Int)))(c:AB)(q:AA)(pos:List Int)(ln:Nat)(lost:List Int):Option (Bool×(List Int)):= self (.l1 0 0 0)
def JJ (c:AB)(q:AA)(pos:List Int)(ln:Nat)(lost:List Int):Nat -> Un -> Option (Bool×(List Int))
 | 0,_=>none
 | n+1,.l1 x3 x4 Br=>Um n (JJ c q pos ln lost n) c q pos ln lost x3 x4 Br
 | n+1,.l2 x3 x4 CM o1=>Ul n (JJ c q pos ln lost n) c q pos ln lost x3 x4 CM o1
def RA (n:Nat)(c:AB)(q:AA)(pos:List Int)(ln:Nat)(lost:List Int):Option (Bool×(List Int)):=zEf n (JJ c q pos ln lost n) c q pos ln lost
def zEg (n B:Nat)(N:Yd 2)(c:AB)(q:AA)(pos:List Int)(ln:Nat)(lost:List Int)(r:Bool×(List Int)):Un -> Prop
 | .l1 x3 x4 Br=>∀ m0:Nat,n<=m0 -> TW B N (FQ Tryz.f133 2 (.bool r.1) [oW c q pos 1 ln,oI r.2]) (A4 m0 (BB (AX Tryz.f133) 0 [])) ⟨AG 140 [(0,.ref 0 0),(3,.i x3),(4,.i x4),(13,.ints c.cells),(14,.i (c.cells.length:Int)),(15,.i Br)],[oW c q pos 1 ln,oI lost]⟩
 | .l2 x3 x4 CM o1=>∀ m0:Nat,n<=m0 -> TW B N (FQ Tryz.f133 2 (.bool r.1) [oW c q pos 1 ln,oI r.2]) (A4 m0 (BB (AX Tryz.f133) 3 [])) ⟨AG 140 [(0,.ref 0 0),(3,.i x3),(4,.i x4),(76,.ints c.cells),(77,.i (c.cells.length:Int)),(78,.i CM)],[oW c q pos 1 ln,oI o1]⟩
theorem zEh (B:Nat)(N:Yd 2)(c:AB)(q:AA)(pos:List Int)(ln:Nat)(lost:List Int):Al (JJ c q pos ln lost) (zEg · B N c q pos ln lost):=ia (fun _=>rfl) fun n AI pt r h=>by
 cases pt
 case l1 x3 x4 Br=>
  intro m0 AD;refine rd AD fun m0 AD=>?_
  revert r;apply gO;exact bi 16 (gc (gi (jg ur (gn fun g1=>jg g1 (bi 33 (gc (gw 35 (gc (gw 37 (gw 55 (lG Fs [0,1] (AI _ _ · m0 AD))))))) (jg uq (jg g1 (bi 52 (gc (gw 54 (gw 55 (lG Fs [0,1] (AI _ _ · m0 AD))))) (gw 55 (lG Fs [0,1] (AI _ _ · m0 AD))))))))))) (bi 62 (lE Fs [2] [0,1]) (bi 70 (lE Fs [2] [0,1]) (lN Fs [0,1] (AI _ _ · n Nat.le.refl))))
 case l2 x3 x4 CM o1=>
  intro m0 AD;refine rd AD fun m0 AD=>?_
  revert r;apply gO;exact bi 79 (gi (jg us (bi 88 (gn fun g1=>jg g1 (bi 103 (ce GS [0,1] [oW c q pos 1 ln,oI o1] fun y1=>jg Zv (bi 119 (jg g1 (bi 134 (ce MP [0,1] [oW c q pos 1 ln,oI y1] fun _=>gw 139 (lG Fs [0,1] (AI _ _ · m0 AD))) (gw 139 (lG Fs [0,1] (AI _ _ · m0 AD))))) (gw 139 (lG Fs [0,1] (AI _ _ · m0 AD))))) (jg Zv (bi 119 (jg g1 (bi 134 (ce MP [0,1] [oW c q pos 1 ln,oI o1] fun _=>gw 139 (lG Fs [0,1] (AI _ _ · m0 AD))) (gw 139 (lG Fs [0,1] (AI _ _ · m0 AD))))) (gw 139 (lG Fs [0,1] (AI _ _ · m0 AD))))))) (jg Zv (bi 119 (gi (bi 134 (ce MP [0,1] [oW c q pos 1 ln,oI o1] fun _=>gw 139 (lG Fs [0,1] (AI _ _ · m0 AD))) (gw 139 (lG Fs [0,1] (AI _ _ · m0 AD))))) (gw 139 (lG Fs [0,1] (AI _ _ · m0 AD)))))))) (lE Fs [2] [0,1])
theorem zEe {n:Nat}{c:AB}{q:AA}{pos:List Int}{ln:Nat}{lost:List Int}{r:Bool×(List Int)}(h:RA n c q pos ln lost=some r):EQ 133 [.ref 0 0] [oW c q pos 1 ln,oI lost] (.bool r.1) [oW c q pos 1 ln,oI r.2] false:=by
 refine ot Tryz.func133 fun B N=>?_
 revert r;apply gO;exact lN Fs [0,1] ((zEh B N c q pos ln lost n) _ _ · n Nat.le.refl)
end Go.Proofs.YtkjbblkieglmlaaGreatDoor
namespace Go.Proofs.YtkjbblkieglmlaaGreatDoor
open Go.RowKit
set_option maxRecDepth 100000
set_option maxHeartbeats 40000000
def rf (n:Nat)(Ag:Int):Option Unit:= some ()
def rh (n:Nat)(Ag:Int):Option Unit:=rf n Ag
theorem re {n:Nat}(Ag:Int){r:Unit}(h:rh n Ag=some r):EQ 161 [.i Ag] [] (.fn 174 1 (L1 [.ref 0 0])) [oC [.i Ag]] true:=by
 refine ot Tryz.func161 fun B N=>?_
 revert r;apply gO;exact lE AC [2] [0]
theorem Kk {x:Int}(hx:0<=x/\ x<9223372036854775808)(h:DH):EQ 161 [.i x] h (.it h.length) (h++[some (.iter ((Bc x).map BP))]) true:=by
 refine ES.iterOf (re (n:=0) x (r:=()) rfl) rfl (by kernel_rfl) (fun args W=>?_) (fun w b o u hg C6 hb hc hr=>ra hx w b o u hg C6 hb hc hr) rfl (fun b hb=>?_) h
 ·exact M5 Tryz.func174 (by kernel_rfl) (by kernel_rfl) args W
 ·rw [hb];decide
def iI:ST:=.rd 0 (.rd 1 (.rd 2 (.rd 3 (.rd 4 (.rd 5 (.rd 6 (.rd 7 (.rd 8 (.rd 9 (.rd 10 (.rd 11 (.rd 12 (.rd 13 (.rd 14 (.rd 15 (.rd 16 (.rd 17 (.rd 18 (.rd 19 (.ef 20 (.ef 21 (.fin [] [4,5]) (.no)) (.no)))))))))))))))))))))
theorem uo:Bv (Aj Tryz.f160 4) [20] iI:=by unfold Bv;kernel_rfl
def iH:ST:=.rd 0 (.rd 1 (.ef 2 (.ef 3 (.fin [] [4,5]) (.no)) (.no)))
theorem um:Bv (Aj Tryz.f160 5) [2] iH:=by unfold Bv;kernel_rfl
def Vt:Bh:=fun i=>match i with
 | 4=>.tre [20] iI
 | 5=>.tre [2] iH
 | _=>.no
def zB9 (c:AB)(q:AA)(pos:List Int)(ln:Nat)(lost:List Int):DH:=[oW c q pos 1 ln,oI lost,oC [.ref 0 0],oC [.i 100],oC [.i (-1)]]
def zB8 (c:AB)(q:AA)(pos:List Int)(ln:Nat)(lost:List Int)(ss:Int):DH:=[oW c q pos 1 ln,oI lost,oC [.ref 0 0],oC [.i 100],oC [.i (-1)],some (.iter ((Bc ss).map BP))]
def gZ (c:AB)(q:AA)(pos:List Int)(ln:Nat)(lost:List Int)(Dz Dy:Int):St:=⟨(AG 32 [(4,.ref 3 0),(5,.ref 4 0)]),([oW c q pos 1 ln,oI lost,oC [.ref 0 0],oC [.i Dz],oC [.i Dy],none]:DH)⟩
def zB7 (c:AB)(q:AA)(pos:List Int)(ln:Nat)(lost:List Int)(GM GL:Int):DH:=[oW c q pos 1 ln,oI lost,oC [.ref 0 0],oC [.i GM],oC [.i GL],none]
def gY (c:AB)(q:AA)(pos:List Int)(ln:Nat)(lost:List Int)(e8 GM GL:Int):St:=⟨(AG 32 [(4,.ref 3 0),(5,.ref 4 0)]),([oW c q pos 1 ln,oI lost,oC [.ref 0 0],oC [.i (if (q.values.getD ((e8).toNat) 0)<GM then (q.values.getD ((e8).toNat) 0) else GM)],oC [.i (if (q.values.getD ((e8).toNat) 0)>GL then (q.values.getD ((e8).toNat) 0) else GL)],none]:DH)⟩
inductive M6 where
 | s0 (GM GL:Int)
def pD (c:AB)(q:AA)(pos:List Int)(ln:Nat)(lost:List Int):M6 -> DH
 | .s0 GM GL=>[oW c q pos 1 ln,oI lost,oC [.ref 0 0],oC [.i GM],oC [.i GL],none]
def pC (n:Nat)(c:AB)(q:AA)(pos:List Int)(ln:Nat)(lost:List Int)(e8:Int)(GM GL:Int):Option M6:= if 0<=e8/\ e8<(q.values.length:Int) then some (.s0 (if (q.values.getD ((e8).toNat) 0)<GM then (q.values.getD ((e8).toNat) 0) else GM) (if (q.values.getD ((e8).toNat) 0)>GL then (q.values.getD ((e8).toNat) 0) else GL)) else none
def pA (n:Nat)(c:AB)(q:AA)(pos:List Int)(ln:Nat)(lost:List Int)(e8:Int):M6 -> Option M6
 | .s0 GM GL=>pC n c q pos ln lost e8 GM GL
def UZ (n:Nat)(c:AB)(q:AA)(pos:List Int)(ln:Nat)(lost:List Int)(e8:Int)(s:M6):Option M6:=pA n c q pos ln lost e8 s
theorem zD5 (n:Nat)(c:AB)(q:AA)(pos:List Int)(ln:Nat)(lost:List Int)(l B:Nat)(N:Yd 6)(e8:Int)(s:M6)(r:M6)(h:UZ n c q pos ln lost e8 s=some r):TA l B N (Cp 6 [] 0 (pD c q pos ln lost r)) Tryz.f160 8 ⟨AG 32 [(2,.ref 2 0),(4,.ref 3 0),(5,.ref 4 0),(8,.it 5),(9,.i e8)],pD c q pos ln lost s⟩:=by
 cases s with
 | s0 GM GL=>
  refine ag Vt [0,1,2,3,4,5] H0 (AG 32 [(2,.ref 2 0),(4,.ref 3 0),(5,.ref 4 0),(6,.i e8)]) (zB7 c q pos ln lost GM GL) fun N=>?_
  revert r;apply gO;exact jg uo (gn fun qG=>jg qG (jg qG (jt (jt (jg (Eq.refl (gY c q pos ln lost e8 GM GL)) (lF fun p=>rr (tg:=[([(20,3)],(gY c q pos ln lost e8 GM GL))]) Vt [0,1,2,3,4,5] rfl p))))))
def o9 (n:Nat)(ss:Int)(c:AB)(q:AA)(pos:List Int)(ln:Nat)(lost:List Int):Option (Int×Int×(List Int)):=
 if 0<=ss/\ ss<9223372036854775808 then
  (Bq (UZ n c q pos ln lost) (Bc ss) (.s0 100 (-1))).bind fun y1=>
   match y1 with
   | .s0 Dz Dy=>
    some (Dz,Dy,lost)
 else none
def Ua (n:Nat)(ss:Int)(c:AB)(q:AA)(pos:List Int)(ln:Nat)(lost:List Int):Option (Int×Int×(List Int)):=o9 n ss c q pos ln lost
theorem Q5 {n:Nat}{ss:Int}{c:AB}{q:AA}{pos:List Int}{ln:Nat}{lost:List Int}{r:Int×Int×(List Int)}(h:Ua n ss c q pos ln lost=some r):EQ 160 [.ref 0 0,.i ss] [oW c q pos 1 ln,oI lost] (.tup 2 (L1 [.i r.1,.i r.2.1])) [oW c q pos 1 ln,oI r.2.2] false:=by
 refine ot Tryz.func160 fun B N=>?_
 revert r;apply gO
 exact jt (jt (gn fun g0=>jc (Kk g0 (zB9 c q pos ln lost)) (cn fun y1 A7=>fun p r h=>by
  refine gs Vt [0,1,2,3,4,5] p (GD (AX Tryz.f160) 8 []) (AG 32 [(2,.ref 2 0),(4,.ref 3 0),(5,.ref 4 0),(8,.it 5)]) (zB8 c q pos ln lost ss) ?_;refine r0 5 8 #[9] BP 6 A7 (zD5 n c q pos ln lost) ?_;cases y1 with
  | s0 Dz Dy=>
   dsimp only at h
   revert r;apply gO;exact jg um (jt (jt (jg (Eq.refl (gZ c q pos ln lost Dz Dy)) (lE (tg:=[([(2,3)],(gZ c q pos ln lost Dz Dy))]) Vt [4,5] [0,1,3,4])))))))
def gm:ST:=.rd 0 (.rd 1 (.rd 2 (.rd 3 (.rd 4 (.rd 5 (.rd 6 (.rd 7 (.ef 8 (.rd 9 (.rd 10 (.rd 11 (.rd 12 (.rd 13 (.fin [] [1,3,4,7,8,19,20,21,90])))))) (.no)))))))))
theorem tj:Bv (Aj Tryz.f134 5) [] gm:=by unfold Bv;kernel_rfl
def gj:ST:=.rd 0 (.rd 1 (.rd 2 (.rd 3 (.rd 4 (.rd 5 (.ef 6 (.ef 7 (.fin [] [1,3,4,19,20,21,90]) (.no)) (.no)))))))
theorem tf:Bv (Aj Tryz.f134 6) [6] gj:=by unfold Bv;kernel_rfl
theorem te:As (Aj Tryz.f134 8) [] (List.range 16) []:=by unfold As;kernel_rfl
def gq:ST:=.rd 0 (.rd 1 (.rd 2 (.rd 3 (.rd 4 (.rd 5 (.rd 6 (.rd 7 (.ef 8 (.rd 9 (.rd 10 (.rd 11 (.ef 12 (.ef 13 (.ef 14 (.ef 15 (.fin [0,1] [1,3,4,10,11,12,64,65,66,90]) (.no)) (.no)) (.no)) (.ef 13 (.ef 12 (.ef 14 (.ef 15 (.fin [1,0] [1,3,4,10,11,12,64,65,66,90]) (.no)) (.no)) (.no)) (.no)))))) (.ef 12 (.ef 8 (.rd 9 (.rd 10 (.rd 11 (.ef 13 (.ef 14 (.ef 15 (.fin [0,1] [1,3,4,10,11,12,64,65,66,90]) (.no)) (.no)) (.no))))) (.ef 13 (.ef 8 (.rd 9 (.rd 10 (.rd 11 (.ef 14 (.ef 15 (.fin [0,1] [1,3,4,10,11,12,64,65,66,90]) (.no)) (.no))))) (.no)) (.no))) (.ef 13 (.ef 8 (.rd 9 (.rd 10 (.rd 11 (.ef 12 (.ef 14 (.ef 15 (.fin [1,0] [1,3,4,10,11,12,64,65,66,90]) (.no)) (.no)) (.no))))) (.ef 12 (.ef 8 (.rd 9 (.rd 10 (.rd 11 (.ef 14 (.ef 15 (.fin [1,0] [1,3,4,10,11,12,64,65,66,90]) (.no)) (.no))))) (.no)) (.no))) (.no)))))))))))
theorem tq:Bv (Aj Tryz.f134 13) [12,13,14] gq:=by unfold Bv;kernel_rfl
theorem tn:As (Aj Tryz.f134 14) [([0,1,2,3,4,5,6],7)] [] []:=by unfold As;kernel_rfl
theorem tm:As (Aj Tryz.f134 17) [] (List.range 24) []:=by unfold As;kernel_rfl
def gp:ST:=.rd 0 (.rd 1 (.rd 2 (.rd 3 (.ef 4 (.fin [] [2]) (.no)))))
theorem jK:Bv (Aj Tryz.f134 18) [] gp:=by unfold Bv;kernel_rfl
def IB:Bh:=fun i=>match i with
 | 5=>.tre [] gm
 | 6=>.tre [6] gj
 | 8=>.ord [] (List.range 16) []
 | 13=>.tre [12,13,14] gq
 | 14=>.ord [([0,1,2,3,4,5,6],7)] [] []
 | 17=>.ord [] (List.range 24) []
 | 18=>.tre [] gp
 | _=>.no
def zBH (c:AB)(q:AA)(pos:List Int)(ln:Nat)(o1:List Int)(A2 Ao:Int):DH:=[oW c q pos 1 ln,oI o1,oC [.ref 0 0],oC [.i A2],oC [.i Ao]]
def gG (y1:Int×Int×(List Int))(c:AB)(x21:Int)(q:AA)(pos:List Int)(ln:Nat)(A2 Ao:Int):St:=⟨(AG 129 [(1,.ref 2 0),(3,.ref 3 0),(4,.ref 4 0),(7,.i y1.1),(8,.i y1.2.1),(19,.ints c.cells),(20,.i (c.cells.length:Int)),(21,.i x21)]),([oW c q pos 1 ln,oI y1.2.2,oC [.ref 0 0],oC [.i A2],oC [.i Ao]]:DH)⟩
def gF (c:AB)(x21:Int)(q:AA)(pos:List Int)(ln:Nat)(y1:Int×Int×(List Int))(A2 Ao:Int):St:=⟨(AG 129 [(1,.ref 2 0),(3,.ref 3 0),(4,.ref 4 0),(19,.ints c.cells),(20,.i (c.cells.length:Int)),(21,.i x21)]),([oW c q pos 1 ln,oI y1.2.2,oC [.ref 0 0],oC [.i (A2+y1.1)],oC [.i (Ao+y1.2.1)]]:DH)⟩
def zBG (c:AB)(q:AA)(pos:List Int)(ln:Nat)(o1:List Int)(A2 Ao Am:Int):DH:=[oW c q pos 1 ln,oI o1,oC [.ref 0 0],oC [.i A2],oC [.i Ao],oC [.i (c.cells.getD ((Am).toNat) 0)]]
def NZ (c:AB)(Am:Int)(q:AA)(pos:List Int)(ln:Nat)(y1:Int×Int×(List Int))(A2 Ao:Int):St:=⟨(AG 129 [(1,.ref 2 0),(3,.ref 3 0),(4,.ref 4 0),(10,.ref 5 0),(11,.ref 6 0),(12,.ref 7 0),(64,.ints c.cells),(65,.i (c.cells.length:Int)),(66,.i Am)]),([oW c q pos 1 ln,oI y1.2.2,oC [.ref 0 0],oC [.i A2],oC [.i Ao],oC [.i (c.cells.getD ((Am).toNat) 0)],oC [.i y1.1],oC [.i y1.2.1]]:DH)⟩
def m4 (c:AB)(q:AA)(pos:List Int)(ln:Nat)(o1:List Int)(A2 Ao Am:Int):DH:=[oW c q pos 1 ln,oI o1,oC [.ref 0 0],oC [.i A2],oC [.i Ao],oC [.i (c.cells.getD ((Am).toNat) 0)],oC [.i 0]]
def mz (c:AB)(q:AA)(pos:List Int)(ln:Nat)(o1:List Int)(A2 Ao Am:Int):DH:=[oW c q pos 1 ln,oI o1,oC [.ref 0 0],oC [.i A2],oC [.i Ao],oC [.i (c.cells.getD ((Am).toNat) 0)],oC [.i 0],oC [.i 0]]
def zBF (c:AB)(q:AA)(pos:List Int)(ln:Nat)(y1:Int×Int×(List Int))(A2 Ao Am:Int):DH:=[oW c q pos 1 ln,oI y1.2.2,oC [.ref 0 0],oC [.i A2],oC [.i Ao],oC [.i (c.cells.getD ((Am).toNat) 0)],oC [.i y1.1],oC [.i y1.2.1]]
def zBE (c:AB)(q:AA)(pos:List Int)(ln:Nat)(y1:Int×Int×(List Int))(A2 Ao Am:Int):DH:=[oW c q pos 1 ln,oI y1.2.2,oC [.ref 0 0],oC [.i A2],oC [.i Ao],oC [.i (c.cells.getD ((Am).toNat) 0)],oC [.i y1.1],oC [.i y1.2.1],some (.iter ((Bc (pos.getD ((c.cells.getD ((Am).toNat) 0).toNat) 0)).map BP))]
def cM (c:AB)(q:AA)(pos:List Int)(ln:Nat)(Gg:List Int)(A2 Ao Am:Int)(y1:Int×Int×(List Int)):DH:=[oW c q pos 1 ln,oI Gg,oC [.ref 0 0],oC [.i A2],oC [.i Ao],oC [.i (c.cells.getD ((Am).toNat) 0)],oC [.i y1.1],oC [.i y1.2.1],none]
def VV (c:AB)(q:AA)(pos:List Int)(ln:Nat)(JM:(List Int))(A2 Ao Am:Int)(y1:Int×Int×(List Int)):St:=⟨(AG 129 []),([oW c q pos 1 ln,oI JM,oC [.ref 0 0],oC [.i A2],oC [.i Ao],oC [.i (c.cells.getD ((Am).toNat) 0)],oC [.i y1.1],oC [.i y1.2.1],none]:DH)⟩
inductive Kl where
 | s0 (Gg:List Int)
def iP (c:AB)(Am:Int)(q:AA)(pos:List Int)(ln:Nat)(A2 Ao:Int)(y1:Int×Int×(List Int)):Kl -> DH
 | .s0 Gg=>[oW c q pos 1 ln,oI Gg,oC [.ref 0 0],oC [.i A2],oC [.i Ao],oC [.i (c.cells.getD ((Am).toNat) 0)],oC [.i y1.1],oC [.i y1.2.1],none]
def Vb (n:Nat)(c:AB)(Am:Int)(q:AA)(pos:List Int)(ln:Nat)(A2 Ao:Int)(y1:Int×Int×(List Int))(Ei:Int)(Gg:List Int):Option Kl:= if (0<=Ei/\ Ei<(q.values.length:Int))/\ AJ (A2-y1.1)/\ AJ ((A2-y1.1)+(q.values.getD ((Ei).toNat) 0)) then bif (decide (((A2-y1.1)+(q.values.getD ((Ei).toNat) 0))>c.hi)) then if 0<=Ei/\ Ei<=(IntKind.i64.bits:Int) then (Dg n (c.cells.getD ((Am).toNat) 0) (IntKind.i64.wrap (1*2 ^ (Ei).toNat)) c q pos ln Gg).bind fun JM=> some (.s0 JM) else none else if AJ (Ao-y1.2.1)/\ AJ ((Ao-y1.2.1)+(q.values.getD ((Ei).toNat) 0)) then bif (decide (((Ao-y1.2.1)+(q.values.getD ((Ei).toNat) 0))<c.lo)) then if 0<=Ei/\ Ei<=(IntKind.i64.bits:Int) then (Dg n (c.cells.getD ((Am).toNat) 0) (IntKind.i64.wrap (1*2 ^ (Ei).toNat)) c q pos ln Gg).bind fun JM=> some (.s0 JM) else none else some (.s0 Gg) else none else none
def iO (n:Nat)(c:AB)(Am:Int)(q:AA)(pos:List Int)(ln:Nat)(A2 Ao:Int)(y1:Int×Int×(List Int))(Ei:Int):Kl -> Option Kl
 | .s0 Gg=>Vb n c Am q pos ln A2 Ao y1 Ei Gg
def Vc (n:Nat)(c:AB)(Am:Int)(q:AA)(pos:List Int)(ln:Nat)(A2 Ao:Int)(y1:Int×Int×(List Int))(Ei:Int)(s:Kl):Option Kl:=iO n c Am q pos ln A2 Ao y1 Ei s
theorem rz (n:Nat)(c:AB)(Am:Int)(q:AA)(pos:List Int)(ln:Nat)(A2 Ao:Int)(y1:Int×Int×(List Int))(l B:Nat)(N:Yd 9)(Ei:Int)(s:Kl)(r:Kl)(h:Vc n c Am q pos ln A2 Ao y1 Ei s=some r):TA l B N (Cp 9 [] 0 (iP c Am q pos ln A2 Ao y1 r)) Tryz.f134 89 ⟨AG 129 [(1,.ref 2 0),(3,.ref 3 0),(4,.ref 4 0),(10,.ref 5 0),(11,.ref 6 0),(12,.ref 7 0),(64,.ints c.cells),(65,.i (c.cells.length:Int)),(66,.i Am),(89,.it 8),(90,.i Ei)],iP c Am q pos ln A2 Ao y1 s⟩:=by
 cases s with
 | s0 Gg=>
  replace h:Vb n c Am q pos ln A2 Ao y1 Ei Gg=some r:=h;unfold Vb at h;refine ag IB [0,1,2,3,4,5,6,7,8] H0 (AG 129 [(1,.ref 2 0),(3,.ref 3 0),(4,.ref 4 0),(10,.ref 5 0),(11,.ref 6 0),(12,.ref 7 0),(13,.i Ei)]) (cM c q pos ln Gg A2 Ao Am y1) fun N=>?_
  revert r;apply gO;exact gc (gi (jg tm (gc (gw 101 (gw 103 (bi 109 (jg jK (gi (ce GS [0,1] (cM c q pos ln Gg A2 Ao Am y1) fun JM=>jg (Eq.refl (VV c q pos ln JM A2 Ao Am y1)) (lF fun p=>rr (tg:=[([],(VV c q pos ln JM A2 Ao Am y1))]) IB [0,1,2,3,4,5,6,7,8] rfl p)))) (gc (gw 113 (gw 115 (bi 121 (jg jK (gi (ce GS [0,1] (cM c q pos ln Gg A2 Ao Am y1) fun JM=>jg (Eq.refl (VV c q pos ln JM A2 Ao Am y1)) (lF fun p=>rr (tg:=[([],(VV c q pos ln JM A2 Ao Am y1))]) IB [0,1,2,3,4,5,6,7,8] rfl p)))) (lF fun p=>rr IB [0,1,2,3,4,5,6,7,8] rfl p)))))))))))
inductive Rp where
 | l1 (x21:Int) (o1:List Int) (A2 Ao:Int)
 | l2 (Am:Int) (o1:List Int) (A2 Ao:Int)
def Ro (n:Nat)(self:Rp -> Option (Bool×(List Int)))(c:AB)(q:AA)(pos:List Int)(ln:Nat)(lost:List Int)(x21:Int)(o1:List Int)(A2 Ao:Int):Option (Bool×(List Int)):= bif (decide (x21<(c.cells.length:Int))) then if (0<=x21/\ x21<(c.cells.length:Int))/\ (0<=(c.cells.getD ((x21).toNat) 0)/\ (c.cells.getD ((x21).toNat) 0)<(pos.length:Int)) then (Ua n (pos.getD ((c.cells.getD ((x21).toNat) 0).toNat) 0) c q pos ln o1).bind fun y1=> if AJ (A2+y1.1)/\ AJ (Ao+y1.2.1)/\ AJ (x21+1) then self (.l1 (x21+1) y1.2.2 (A2+y1.1) (Ao+y1.2.1)) else none else none else bif (decide (A2>c.hi)) then some (false,o1) else bif (decide (Ao<c.lo)) then some (false,o1) else self (.l2 0 o1 A2 Ao)
def Rn (n:Nat)(self:Rp -> Option (Bool×(List Int)))(c:AB)(q:AA)(pos:List Int)(ln:Nat)(lost:List Int)(Am:Int)(o1:List Int)(A2 Ao:Int):Option (Bool×(List Int)):=
 bif (decide (Am<(c.cells.length:Int))) then
  if (0<=Am/\ Am<(c.cells.length:Int))/\ (0<=(c.cells.getD ((Am).toNat) 0)/\ (c.cells.getD ((Am).toNat) 0)<(pos.length:Int)) then
   (Ua n (pos.getD ((c.cells.getD ((Am).toNat) 0).toNat) 0) c q pos ln o1).bind fun y1=>
    if 0<=(pos.getD ((c.cells.getD ((Am).toNat) 0).toNat) 0)/\ (pos.getD ((c.cells.getD ((Am).toNat) 0).toNat) 0)<9223372036854775808 then
     (Bq (Vc n c Am q pos ln A2 Ao y1) (Bc (pos.getD ((c.cells.getD ((Am).toNat) 0).toNat) 0)) (.s0 y1.2.2)).bind fun y2=>
      match y2 with
      | .s0 EO=>
       if AJ (Am+1) then
        self (.l2 (Am+1) EO A2 Ao)
       else none
    else none
  else none
 else
  some (true,o1)
def ru (n:Nat)(self:Rp -> Option (Bool×(List Int)))(c:AB)(q:AA)(pos:List Int)(ln:Nat)(lost:List Int):Option (Bool×(List Int)):= self (.l1 0 lost 0 0)
def Im (c:AB)(q:AA)(pos:List Int)(ln:Nat)(lost:List Int):Nat -> Rp -> Option (Bool×(List Int))
 | 0,_=>none
 | n+1,.l1 x21 o1 A2 Ao=>Ro n (Im c q pos ln lost n) c q pos ln lost x21 o1 A2 Ao
 | n+1,.l2 Am o1 A2 Ao=>Rn n (Im c q pos ln lost n) c q pos ln lost Am o1 A2 Ao
def Pj (n:Nat)(c:AB)(q:AA)(pos:List Int)(ln:Nat)(lost:List Int):Option (Bool×(List Int)):=ru n (Im c q pos ln lost n) c q pos ln lost
def r7 (n B:Nat)(N:Yd 2)(c:AB)(q:AA)(pos:List Int)(ln:Nat)(lost:List Int)(r:Bool×(List Int)):Rp -> Prop
 | .l1 x21 o1 A2 Ao=>∀ m0:Nat,n<=m0 -> TW B N (FQ Tryz.f134 2 (.bool r.1) [oW c q pos 1 ln,oI r.2]) (A4 m0 (BB (AX Tryz.f134) 0 [])) ⟨AG 129 [(1,.ref 2 0),(3,.ref 3 0),(4,.ref 4 0),(19,.ints c.cells),(20,.i (c.cells.length:Int)),(21,.i x21)],[oW c q pos 1 ln,oI o1,oC [.ref 0 0],oC [.i A2],oC [.i Ao]]⟩
 | .l2 Am o1 A2 Ao=>∀ m0:Nat,n<=m0 -> TW B N (FQ Tryz.f134 2 (.bool r.1) [oW c q pos 1 ln,oI r.2]) (A4 m0 (BB (AX Tryz.f134) 2 [])) ⟨AG 129 [(1,.ref 2 0),(3,.ref 3 0),(4,.ref 4 0),(64,.ints c.cells),(65,.i (c.cells.length:Int)),(66,.i Am)],[oW c q pos 1 ln,oI o1,oC [.ref 0 0],oC [.i A2],oC [.i Ao]]⟩
theorem r9 (B:Nat)(N:Yd 2)(c:AB)(q:AA)(pos:List Int)(ln:Nat)(lost:List Int):Al (Im c q pos ln lost) (r7 · B N c q pos ln lost):=ia (fun _=>rfl) fun n AI pt r h=>by
 cases pt
 case l1 x21 o1 A2 Ao=>
  intro m0 AD;refine rd AD fun m0 AD=>?_
  revert r;apply gO;exact bi 22 (gc (gi (jg tj (gi (ce Q5 [0,1] (zBH c q pos ln o1 A2 Ao) fun y1=>jg (Eq.refl (gG y1 c x21 q pos ln A2 Ao)) (jg tf (gc (gw 39 (gc (gw 42 (jt (jt (jg (Eq.refl (gF c x21 q pos ln y1 A2 Ao)) (gw 43 (lG (tg:=[([],(gG y1 c x21 q pos ln A2 Ao)),([(6,3)],(gF c x21 q pos ln y1 A2 Ao))]) IB [0,1,2,3,4] (AI _ _ · m0 AD)))))))))))))))) (jg te (bi 50 (lE IB [2] [0,1]) (bi 58 (lE IB [2] [0,1]) (lN IB [0,1,2,3,4] (AI _ _ · n Nat.le.refl)))))
 case l2 Am o1 A2 Ao=>
  intro m0 AD;refine rd AD fun m0 AD=>?_
  revert r;apply gO
  exact bi 67 (gc (gi (jt (jg tq (gn fun g1=>jg g1 (cn fun y1 A7=>jc (em (Q5 A7) [0,1] (zBG c q pos ln o1 A2 Ao Am)) (jt (jt (jg (Eq.refl (NZ c Am q pos ln y1 A2 Ao)) (jt (jt (jg (Eq.refl (NZ c Am q pos ln y1 A2 Ao)) (jc (em (Q5 A7) [0,1] (m4 c q pos ln o1 A2 Ao Am)) (jt (jt (jg (Eq.refl (NZ c Am q pos ln y1 A2 Ao)) (jc (em (Q5 A7) [0,1] (mz c q pos ln o1 A2 Ao Am)) (jt (jt (jg (Eq.refl (NZ c Am q pos ln y1 A2 Ao)) (jc (em (Q5 A7) [0,1] (m4 c q pos ln o1 A2 Ao Am)) (jt (jt (jg (Eq.refl (NZ c Am q pos ln y1 A2 Ao)) (jc (em (Q5 A7) [0,1] (mz c q pos ln o1 A2 Ao Am)) (jt (jt (jg (Eq.refl (NZ c Am q pos ln y1 A2 Ao)) (jg tn (jg g1 (gn fun g2=>jc (Kk g2 (zBF c q pos ln y1 A2 Ao Am)) (cn fun y2 B6=>fun p r h=>by
   refine gs (tg:=[([],(NZ c Am q pos ln y1 A2 Ao))]) IB [0,1,2,3,4,5,6,7,8] p (GD (AX Tryz.f134) 89 [m0]) (AG 129 [(1,.ref 2 0),(3,.ref 3 0),(4,.ref 4 0),(10,.ref 5 0),(11,.ref 6 0),(12,.ref 7 0),(64,.ints c.cells),(65,.i (c.cells.length:Int)),(66,.i Am),(89,.it 8)]) (zBE c q pos ln y1 A2 Ao Am) ?_;refine r0 8 89 #[90] BP 9 B6 (rz n c Am q pos ln A2 Ao y1) ?_;cases y2 with
   | s0 EO=>
    dsimp only at h
    revert r;apply gO;exact gw 128 (lG IB [0,1,2,3,4] (AI _ _ · m0 AD)))))))))))))))))))))))))))))))))) (lE IB [2] [0,1])
theorem rt {n:Nat}{c:AB}{q:AA}{pos:List Int}{ln:Nat}{lost:List Int}{r:Bool×(List Int)}(h:Pj n c q pos ln lost=some r):EQ 134 [.ref 0 0] [oW c q pos 1 ln,oI lost] (.bool r.1) [oW c q pos 1 ln,oI r.2] false:=by
 refine ot Tryz.func134 fun B N=>?_
 revert r;apply gO;exact jt (jt (lN IB [0,1,2,3,4] ((r9 B N c q pos ln lost n) _ _ · n Nat.le.refl)))
end Go.Proofs.YtkjbblkieglmlaaGreatDoor
namespace Go.Proofs.YtkjbblkieglmlaaGreatDoor
open Go.RowKit
set_option maxRecDepth 100000
set_option maxHeartbeats 40000000
theorem uw:As (Aj Tryz.f166 1) [] (List.range 18) []:=by unfold As;kernel_rfl
def tP:Bh:=fun i=>match i with
 | 1=>.ord [] (List.range 18) []
 | _=>.no
def qW (n:Nat)(s_ t_:Int)(c:AB)(q:AA)(pos:List Int)(ln:Nat)(lost:List Int):Option (Bool×(List Int)):= if (0<=s_/\ s_<(q.values.length:Int))/\ (0<=t_/\ t_<(q.values.length:Int))/\ AJ ((q.values.getD ((s_).toNat) 0)-(q.values.getD ((t_).toNat) 0))/\ AJ (0-((q.values.getD ((s_).toNat) 0)-(q.values.getD ((t_).toNat) 0))) then some ((decide ((if (0-((q.values.getD ((s_).toNat) 0)-(q.values.getD ((t_).toNat) 0)))>((q.values.getD ((s_).toNat) 0)-(q.values.getD ((t_).toNat) 0)) then (0-((q.values.getD ((s_).toNat) 0)-(q.values.getD ((t_).toNat) 0))) else ((q.values.getD ((s_).toNat) 0)-(q.values.getD ((t_).toNat) 0)))>=c.lo)),lost) else none
def Yz (n:Nat)(s_ t_:Int)(c:AB)(q:AA)(pos:List Int)(ln:Nat)(lost:List Int):Option (Bool×(List Int)):=qW n s_ t_ c q pos ln lost
theorem zFx {n:Nat}{s_ t_:Int}{c:AB}{q:AA}{pos:List Int}{ln:Nat}{lost:List Int}{r:Bool×(List Int)}(h:Yz n s_ t_ c q pos ln lost=some r):EQ 166 [.i s_,.i t_,.ref 0 0] [oC [.ref 1 0],oW c q pos 2 ln,oI lost] (.bool r.1) [oC [.ref 1 0],oW c q pos 2 ln,oI r.2] false:=by
 refine ot Tryz.func166 fun B N=>?_
 revert r;apply gO;exact jg uw (gc (gi (gc (gi (gc (gw 23 (gw 26 (lE tP [5] [0,1,2]))))))))
theorem uR:As (Aj Tryz.f167 1) [] (List.range 6) []:=by unfold As;kernel_rfl
def SQ:Bh:=fun i=>match i with
 | 1=>.ord [] (List.range 6) []
 | _=>.no
def k9 (n:Nat)(s_ t_:Int)(c:AB)(q:AA)(pos:List Int)(ln:Nat)(lost:List Int):Option (Bool×(List Int)):= if (0<=s_/\ s_<=(IntKind.i64.bits:Int))/\ (0<=t_/\ t_<=(IntKind.i64.bits:Int)) then bif ((bits .and .i64 (IntKind.i64.wrap (1*2 ^ (s_).toNat)) c.set)==0) then bif ((bits .and .i64 (IntKind.i64.wrap (1*2 ^ (t_).toNat)) c.set)==0) then some (true,lost) else some (((bits .and .i64 (IntKind.i64.wrap (1*2 ^ (s_).toNat)) c.other)==0),lost) else bif ((bits .and .i64 (IntKind.i64.wrap (1*2 ^ (t_).toNat)) c.other)==0) then bif ((bits .and .i64 (IntKind.i64.wrap (1*2 ^ (t_).toNat)) c.set)==0) then some (true,lost) else some (((bits .and .i64 (IntKind.i64.wrap (1*2 ^ (s_).toNat)) c.other)==0),lost) else some (false,lost) else none
def Wm (n:Nat)(s_ t_:Int)(c:AB)(q:AA)(pos:List Int)(ln:Nat)(lost:List Int):Option (Bool×(List Int)):=k9 n s_ t_ c q pos ln lost
theorem xg {n:Nat}{s_ t_:Int}{c:AB}{q:AA}{pos:List Int}{ln:Nat}{lost:List Int}{r:Bool×(List Int)}(h:Wm n s_ t_ c q pos ln lost=some r):EQ 167 [.i s_,.i t_,.ref 0 0] [oC [.ref 1 0],oW c q pos 2 ln,oI lost] (.bool r.1) [oC [.ref 1 0],oW c q pos 2 ln,oI r.2] false:=by
 refine ot Tryz.func167 fun B N=>?_
 revert r;apply gO;exact jg uR (gc (gi (gi (bi 19 (bi 38 (lE SQ [5] [0,1,2]) (lE SQ [5] [0,1,2])) (bi 28 (bi 38 (lE SQ [5] [0,1,2]) (lE SQ [5] [0,1,2])) (lE SQ [5] [0,1,2]))))))
theorem uP:As (Aj Tryz.f165 1) [] (List.range 16) []:=by unfold As;kernel_rfl
theorem uN:As (Aj Tryz.f165 2) [([0,1,2,3,4,5,6,7,8,9,10,11,12,13],14)] [15] [16]:=by unfold As;kernel_rfl
theorem uM:As (Aj Tryz.f165 9) [] [0,1,2,3] [4]:=by unfold As;kernel_rfl
theorem uO:As (Aj Tryz.f165 10) [] [0,1,2,3] [4]:=by unfold As;kernel_rfl
def L6:Bh:=fun i=>match i with
 | 1=>.ord [] (List.range 16) []
 | 2=>.ord [([0,1,2,3,4,5,6,7,8,9,10,11,12,13],14)] [15] [16]
 | 9=>.ord [] [0,1,2,3] [4]
 | 10=>.ord [] [0,1,2,3] [4]
 | _=>.no
def zB3 (c:AB)(q:AA)(pos:List Int)(ln:Nat)(lost:List Int):DH:=[oC [.ref 1 0],oW c q pos 2 ln,oI lost,oC [.fn 166 1 (L1 [.ref 0 0])],oC [.i (pos.getD ((c.cells.getD 1 0).toNat) 0)],oC [.i 0],oC [.i 0]]
def zB2 (c:AB)(q:AA)(pos:List Int)(ln:Nat)(lost:List Int):DH:=[oC [.ref 1 0],oW c q pos 2 ln,oI lost,oC [.fn 166 1 (L1 [.ref 0 0])],oC [.i (pos.getD ((c.cells.getD 1 0).toNat) 0)],oC [.i 0],oC [.i 0],some (.iter ((Bc (pos.getD ((c.cells.getD 0 0).toNat) 0)).map BP))]
def zB1 (c:AB)(q:AA)(pos:List Int)(ln:Nat)(Dz:List Int)(Dy Fp:Int):DH:=[oC [.ref 1 0],oW c q pos 2 ln,oI Dz,oC [.fn 166 1 (L1 [.ref 0 0])],oC [.i (pos.getD ((c.cells.getD 1 0).toNat) 0)],oC [.i Dy],oC [.i Fp],none]
def zB0 (c:AB)(q:AA)(pos:List Int)(ln:Nat)(y2:(List Int))(Dy Fp:Int):DH:=[oC [.ref 1 0],oW c q pos 2 ln,oI y2,oC [.fn 166 1 (L1 [.ref 0 0])],oC [.i (pos.getD ((c.cells.getD 1 0).toNat) 0)],oC [.i Dy],oC [.i Fp],none]
def nA (c:AB)(q:AA)(pos:List Int)(ln:Nat)(C1:List Int)(C0 Cz A8:Int):DH:=[oC [.ref 1 0],oW c q pos 2 ln,oI C1,oC [.fn 166 1 (L1 [.ref 0 0])],oC [.i (pos.getD ((c.cells.getD 1 0).toNat) 0)],oC [.i C0],oC [.i Cz],none,oC [.i A8]]
def zBz (c:AB)(q:AA)(pos:List Int)(ln:Nat)(C1:List Int)(C0 Cz A8:Int):DH:=[oC [.ref 1 0],oW c q pos 2 ln,oI C1,oC [.fn 166 1 (L1 [.ref 0 0])],oC [.i (pos.getD ((c.cells.getD 1 0).toNat) 0)],oC [.i C0],oC [.i Cz],none,oC [.i A8],some (.iter ((Bc (pos.getD ((c.cells.getD 1 0).toNat) 0)).map BP))]
def m9 (c:AB)(q:AA)(pos:List Int)(ln:Nat)(Dq:List Int)(Da DZ A8:Int):DH:=[oC [.ref 1 0],oW c q pos 2 ln,oI Dq,oC [.fn 166 1 (L1 [.ref 0 0])],oC [.i (pos.getD ((c.cells.getD 1 0).toNat) 0)],oC [.i Da],oC [.i DZ],none,oC [.i A8],none]
inductive Kz where
 | s0 (Dq:List Int) (Da DZ:Int)
def kj (c:AB)(q:AA)(pos:List Int)(ln:Nat)(A8:Int):Kz -> DH
 | .s0 Dq Da DZ=>[oC [.ref 1 0],oW c q pos 2 ln,oI Dq,oC [.fn 166 1 (L1 [.ref 0 0])],oC [.i (pos.getD ((c.cells.getD 1 0).toNat) 0)],oC [.i Da],oC [.i DZ],none,oC [.i A8],none]
def WY (n:Nat)(c:AB)(q:AA)(pos:List Int)(ln:Nat)(A8 Db:Int)(Dq:List Int)(Da DZ:Int):Option Kz:= (Yz n A8 Db c q pos ln Dq).bind fun PM=> bif PM.1 then if (0<=A8/\ A8<=(IntKind.i64.bits:Int))/\ (0<=Db/\ Db<=(IntKind.i64.bits:Int)) then some (.s0 PM.2 (bits .or .i64 Da (IntKind.i64.wrap (1*2 ^ (A8).toNat))) (bits .or .i64 DZ (IntKind.i64.wrap (1*2 ^ (Db).toNat)))) else none else some (.s0 PM.2 Da DZ)
def ki (n:Nat)(c:AB)(q:AA)(pos:List Int)(ln:Nat)(A8 Db:Int):Kz -> Option Kz
 | .s0 Dq Da DZ=>WY n c q pos ln A8 Db Dq Da DZ
def WZ (n:Nat)(c:AB)(q:AA)(pos:List Int)(ln:Nat)(A8 Db:Int)(s:Kz):Option Kz:=ki n c q pos ln A8 Db s
theorem xJ (n:Nat)(c:AB)(q:AA)(pos:List Int)(ln:Nat)(A8:Int)(l B:Nat)(N:Yd 10)(Db:Int)(s:Kz)(r:Kz)(h:WZ n c q pos ln A8 Db s=some r):TA l B N (Cp 10 [] 0 (kj c q pos ln A8 r)) Tryz.f165 45 ⟨AG 69 [(3,.ref 3 0),(9,.ref 5 0),(10,.ref 6 0),(11,.ref 8 0),(45,.it 9),(46,.i Db)],kj c q pos ln A8 s⟩:=by
 cases s with
 | s0 Dq Da DZ=>
  replace h:WY n c q pos ln A8 Db Dq Da DZ=some r:=h;unfold WY at h;refine ag L6 [0,1,2,3,4,5,6,7,8,9] H0 (AG 69 [(3,.ref 3 0),(9,.ref 5 0),(10,.ref 6 0),(11,.ref 8 0),(12,.i Db)]) (m9 c q pos ln Dq Da DZ A8) fun N=>?_
  revert r;apply gO;exact ce zFx [0,1,2] (m9 c q pos ln Dq Da DZ A8) fun _=>bi 50 (jg uM (gc (gi (jt (jg uO (gi (jt (lF fun p=>rr L6 [0,1,2,3,4,5,6,7,8,9] rfl p)))))))) (lF fun p=>rr L6 [0,1,2,3,4,5,6,7,8,9] rfl p)
inductive K0 where
 | s0 (C1:List Int) (C0 Cz:Int)
def km (c:AB)(q:AA)(pos:List Int)(ln:Nat):K0 -> DH
 | .s0 C1 C0 Cz=>[oC [.ref 1 0],oW c q pos 2 ln,oI C1,oC [.fn 166 1 (L1 [.ref 0 0])],oC [.i (pos.getD ((c.cells.getD 1 0).toNat) 0)],oC [.i C0],oC [.i Cz],none]
def WX (n:Nat)(c:AB)(q:AA)(pos:List Int)(ln:Nat)(A8:Int)(C1:List Int)(C0 Cz:Int):Option K0:=
 if 0<=(pos.getD ((c.cells.getD 1 0).toNat) 0)/\ (pos.getD ((c.cells.getD 1 0).toNat) 0)<9223372036854775808 then
  (Bq (WZ n c q pos ln A8) (Bc (pos.getD ((c.cells.getD 1 0).toNat) 0)) (.s0 C1 C0 Cz)).bind fun PN=>
   match PN with
   | .s0 U0 Uz Uy=>
    some (.s0 U0 Uz Uy)
 else none
def kg (n:Nat)(c:AB)(q:AA)(pos:List Int)(ln:Nat)(A8:Int):K0 -> Option K0
 | .s0 C1 C0 Cz=>WX n c q pos ln A8 C1 C0 Cz
def Wa (n:Nat)(c:AB)(q:AA)(pos:List Int)(ln:Nat)(A8:Int)(s:K0):Option K0:=kg n c q pos ln A8 s
theorem xI (n:Nat)(c:AB)(q:AA)(pos:List Int)(ln:Nat)(l B:Nat)(N:Yd 8)(A8:Int)(s:K0)(r:K0)(h:Wa n c q pos ln A8 s=some r):TA l B N (Cp 8 [] 0 (km c q pos ln r)) Tryz.f165 42 ⟨AG 69 [(0,.ref 1 0),(3,.ref 3 0),(5,.i (c.cells.getD 0 0)),(6,.i (c.cells.getD 1 0)),(8,.ref 4 0),(9,.ref 5 0),(10,.ref 6 0),(42,.it 7),(43,.i A8)],km c q pos ln s⟩:=by
 cases s with
 | s0 C1 C0 Cz=>
  replace h:WX n c q pos ln A8 C1 C0 Cz=some r:=h;unfold WX at h;refine ag L6 [0,1,2,3,4,5,6,7,8] (H0.t) (AG 69 [(3,.ref 3 0),(8,.ref 4 0),(9,.ref 5 0),(10,.ref 6 0),(11,.ref 8 0)]) (nA c q pos ln C1 C0 Cz A8) fun N=>?_
  revert r;apply gO
  exact gn fun eU=>jc (Kk eU (nA c q pos ln C1 C0 Cz A8)) (cn fun PN dA=>fun p r h=>by
   refine gs L6 [0,1,2,3,4,5,6,7,8,9] p (GD (WB Tryz.f165 42) 45 []) (AG 69 [(3,.ref 3 0),(9,.ref 5 0),(10,.ref 6 0),(11,.ref 8 0),(45,.it 9)]) (zBz c q pos ln C1 C0 Cz A8) ?_;refine r0 9 45 #[46] BP 10 dA (xJ n c q pos ln A8) ?_;cases PN with
   | s0 U0 Uz Uy=>
    dsimp only at h
    revert r;apply gO;exact lF fun p=>rr L6 [0,1,2,3,4,5,6,7] rfl p)
def kf (n:Nat)(c:AB)(q:AA)(pos:List Int)(ln:Nat)(lost:List Int):Option (Bool×(List Int)):=
 if ((0:Int)<=0/\ 0<(c.cells.length:Int))/\ ((0:Int)<=1/\ 1<(c.cells.length:Int))/\ (0<=(c.cells.getD 0 0)/\ (c.cells.getD 0 0)<(pos.length:Int))/\ (0<=(c.cells.getD 1 0)/\ (c.cells.getD 1 0)<(pos.length:Int))/\ (0<=(pos.getD ((c.cells.getD 0 0).toNat) 0)/\ (pos.getD ((c.cells.getD 0 0).toNat) 0)<9223372036854775808) then
  (Bq (Wa n c q pos ln) (Bc (pos.getD ((c.cells.getD 0 0).toNat) 0)) (.s0 lost 0 0)).bind fun y1=>
   match y1 with
   | .s0 Dz Dy Fp=>
    (Dg n (c.cells.getD 0 0) (bits .xor .i64 (-1) Dy) c q pos ln Dz).bind fun y2=>
     (Dg n (c.cells.getD 1 0) (bits .xor .i64 (-1) Fp) c q pos ln y2).bind fun y3=>
      some (true,y3)
 else none
def ab (n:Nat)(c:AB)(q:AA)(pos:List Int)(ln:Nat)(lost:List Int):Option (Bool×(List Int)):=kf n c q pos ln lost
theorem xH {n:Nat}{c:AB}{q:AA}{pos:List Int}{ln:Nat}{lost:List Int}{r:Bool×(List Int)}(h:ab n c q pos ln lost=some r):EQ 165 [.ref 1 0,.fn 166 1 (L1 [.ref 0 0])] [oC [.ref 1 0],oW c q pos 2 ln,oI lost] (.bool r.1) [oC [.ref 1 0],oW c q pos 2 ln,oI r.2] false:=by
 refine ot Tryz.func165 fun B N=>?_
 revert r;apply gO
 exact jg uP (gc (gi (gc (gi (jg uN (gc (gi (gc (gi (jt (gn fun g4=>jc (Kk g4 (zB3 c q pos ln lost)) (cn fun y1 A7=>fun p r h=>by
  refine gs L6 [0,1,2,3,4,5,6,7] p (GD (AX Tryz.f165) 42 []) (AG 69 [(0,.ref 1 0),(3,.ref 3 0),(5,.i (c.cells.getD 0 0)),(6,.i (c.cells.getD 1 0)),(8,.ref 4 0),(9,.ref 5 0),(10,.ref 6 0),(42,.it 7)]) (zB2 c q pos ln lost) ?_;refine r0 7 42 #[43] BP 8 A7 (xI n c q pos ln) ?_;cases y1 with
  | s0 Dz Dy Fp=>
   dsimp only at h
   revert r;apply gO;exact ce GS [1,2] (zB1 c q pos ln Dz Dy Fp) fun y2=>ce GS [1,2] (zB0 c q pos ln y2 Dy Fp) fun _=>lE L6 [4] [0,1,2]))))))))))))
theorem uL:As (Aj Tryz.f165 1) [] (List.range 16) []:=by unfold As;kernel_rfl
theorem uJ:As (Aj Tryz.f165 2) [([0,1,2,3,4,5,6,7,8,9,10,11,12,13],14)] [15] [16]:=by unfold As;kernel_rfl
theorem uI:As (Aj Tryz.f165 9) [] [0,1,2,3] [4]:=by unfold As;kernel_rfl
theorem uK:As (Aj Tryz.f165 10) [] [0,1,2,3] [4]:=by unfold As;kernel_rfl
def L5:Bh:=fun i=>match i with
 | 1=>.ord [] (List.range 16) []
 | 2=>.ord [([0,1,2,3,4,5,6,7,8,9,10,11,12,13],14)] [15] [16]
 | 9=>.ord [] [0,1,2,3] [4]
 | 10=>.ord [] [0,1,2,3] [4]
 | _=>.no
def zBy (c:AB)(q:AA)(pos:List Int)(ln:Nat)(lost:List Int):DH:=[oC [.ref 1 0],oW c q pos 2 ln,oI lost,oC [.fn 167 1 (L1 [.ref 0 0])],oC [.i (pos.getD ((c.cells.getD 1 0).toNat) 0)],oC [.i 0],oC [.i 0]]
def zBx (c:AB)(q:AA)(pos:List Int)(ln:Nat)(lost:List Int):DH:=[oC [.ref 1 0],oW c q pos 2 ln,oI lost,oC [.fn 167 1 (L1 [.ref 0 0])],oC [.i (pos.getD ((c.cells.getD 1 0).toNat) 0)],oC [.i 0],oC [.i 0],some (.iter ((Bc (pos.getD ((c.cells.getD 0 0).toNat) 0)).map BP))]
def zBw (c:AB)(q:AA)(pos:List Int)(ln:Nat)(Dz:List Int)(Dy Fp:Int):DH:=[oC [.ref 1 0],oW c q pos 2 ln,oI Dz,oC [.fn 167 1 (L1 [.ref 0 0])],oC [.i (pos.getD ((c.cells.getD 1 0).toNat) 0)],oC [.i Dy],oC [.i Fp],none]
def zBv (c:AB)(q:AA)(pos:List Int)(ln:Nat)(y2:(List Int))(Dy Fp:Int):DH:=[oC [.ref 1 0],oW c q pos 2 ln,oI y2,oC [.fn 167 1 (L1 [.ref 0 0])],oC [.i (pos.getD ((c.cells.getD 1 0).toNat) 0)],oC [.i Dy],oC [.i Fp],none]
def m8 (c:AB)(q:AA)(pos:List Int)(ln:Nat)(C1:List Int)(C0 Cz A8:Int):DH:=[oC [.ref 1 0],oW c q pos 2 ln,oI C1,oC [.fn 167 1 (L1 [.ref 0 0])],oC [.i (pos.getD ((c.cells.getD 1 0).toNat) 0)],oC [.i C0],oC [.i Cz],none,oC [.i A8]]
def zBu (c:AB)(q:AA)(pos:List Int)(ln:Nat)(C1:List Int)(C0 Cz A8:Int):DH:=[oC [.ref 1 0],oW c q pos 2 ln,oI C1,oC [.fn 167 1 (L1 [.ref 0 0])],oC [.i (pos.getD ((c.cells.getD 1 0).toNat) 0)],oC [.i C0],oC [.i Cz],none,oC [.i A8],some (.iter ((Bc (pos.getD ((c.cells.getD 1 0).toNat) 0)).map BP))]
def m7 (c:AB)(q:AA)(pos:List Int)(ln:Nat)(Dq:List Int)(Da DZ A8:Int):DH:=[oC [.ref 1 0],oW c q pos 2 ln,oI Dq,oC [.fn 167 1 (L1 [.ref 0 0])],oC [.i (pos.getD ((c.cells.getD 1 0).toNat) 0)],oC [.i Da],oC [.i DZ],none,oC [.i A8],none]
inductive Kx where
 | s0 (Dq:List Int) (Da DZ:Int)
def kb (c:AB)(q:AA)(pos:List Int)(ln:Nat)(A8:Int):Kx -> DH
 | .s0 Dq Da DZ=>[oC [.ref 1 0],oW c q pos 2 ln,oI Dq,oC [.fn 167 1 (L1 [.ref 0 0])],oC [.i (pos.getD ((c.cells.getD 1 0).toNat) 0)],oC [.i Da],oC [.i DZ],none,oC [.i A8],none]
def WU (n:Nat)(c:AB)(q:AA)(pos:List Int)(ln:Nat)(A8 Db:Int)(Dq:List Int)(Da DZ:Int):Option Kx:= (Wm n A8 Db c q pos ln Dq).bind fun PM=> bif PM.1 then if (0<=A8/\ A8<=(IntKind.i64.bits:Int))/\ (0<=Db/\ Db<=(IntKind.i64.bits:Int)) then some (.s0 PM.2 (bits .or .i64 Da (IntKind.i64.wrap (1*2 ^ (A8).toNat))) (bits .or .i64 DZ (IntKind.i64.wrap (1*2 ^ (Db).toNat)))) else none else some (.s0 PM.2 Da DZ)
def ka (n:Nat)(c:AB)(q:AA)(pos:List Int)(ln:Nat)(A8 Db:Int):Kx -> Option Kx
 | .s0 Dq Da DZ=>WU n c q pos ln A8 Db Dq Da DZ
def WV (n:Nat)(c:AB)(q:AA)(pos:List Int)(ln:Nat)(A8 Db:Int)(s:Kx):Option Kx:=ka n c q pos ln A8 Db s
theorem xG (n:Nat)(c:AB)(q:AA)(pos:List Int)(ln:Nat)(A8:Int)(l B:Nat)(N:Yd 10)(Db:Int)(s:Kx)(r:Kx)(h:WV n c q pos ln A8 Db s=some r):TA l B N (Cp 10 [] 0 (kb c q pos ln A8 r)) Tryz.f165 45 ⟨AG 69 [(3,.ref 3 0),(9,.ref 5 0),(10,.ref 6 0),(11,.ref 8 0),(45,.it 9),(46,.i Db)],kb c q pos ln A8 s⟩:=by
 cases s with
 | s0 Dq Da DZ=>
  replace h:WU n c q pos ln A8 Db Dq Da DZ=some r:=h;unfold WU at h;refine ag L5 [0,1,2,3,4,5,6,7,8,9] H0 (AG 69 [(3,.ref 3 0),(9,.ref 5 0),(10,.ref 6 0),(11,.ref 8 0),(12,.i Db)]) (m7 c q pos ln Dq Da DZ A8) fun N=>?_
  revert r;apply gO;exact ce xg [0,1,2] (m7 c q pos ln Dq Da DZ A8) fun _=>bi 50 (jg uI (gc (gi (jt (jg uK (gi (jt (lF fun p=>rr L5 [0,1,2,3,4,5,6,7,8,9] rfl p)))))))) (lF fun p=>rr L5 [0,1,2,3,4,5,6,7,8,9] rfl p)
inductive Ky where
 | s0 (C1:List Int) (C0 Cz:Int)
def ke (c:AB)(q:AA)(pos:List Int)(ln:Nat):Ky -> DH
 | .s0 C1 C0 Cz=>[oC [.ref 1 0],oW c q pos 2 ln,oI C1,oC [.fn 167 1 (L1 [.ref 0 0])],oC [.i (pos.getD ((c.cells.getD 1 0).toNat) 0)],oC [.i C0],oC [.i Cz],none]
def WT (n:Nat)(c:AB)(q:AA)(pos:List Int)(ln:Nat)(A8:Int)(C1:List Int)(C0 Cz:Int):Option Ky:=
 if 0<=(pos.getD ((c.cells.getD 1 0).toNat) 0)/\ (pos.getD ((c.cells.getD 1 0).toNat) 0)<9223372036854775808 then
  (Bq (WV n c q pos ln A8) (Bc (pos.getD ((c.cells.getD 1 0).toNat) 0)) (.s0 C1 C0 Cz)).bind fun PN=>
   match PN with
   | .s0 U0 Uz Uy=>
    some (.s0 U0 Uz Uy)
 else none
def kZ (n:Nat)(c:AB)(q:AA)(pos:List Int)(ln:Nat)(A8:Int):Ky -> Option Ky
 | .s0 C1 C0 Cz=>WT n c q pos ln A8 C1 C0 Cz
def WW (n:Nat)(c:AB)(q:AA)(pos:List Int)(ln:Nat)(A8:Int)(s:Ky):Option Ky:=kZ n c q pos ln A8 s
theorem xF (n:Nat)(c:AB)(q:AA)(pos:List Int)(ln:Nat)(l B:Nat)(N:Yd 8)(A8:Int)(s:Ky)(r:Ky)(h:WW n c q pos ln A8 s=some r):TA l B N (Cp 8 [] 0 (ke c q pos ln r)) Tryz.f165 42 ⟨AG 69 [(0,.ref 1 0),(3,.ref 3 0),(5,.i (c.cells.getD 0 0)),(6,.i (c.cells.getD 1 0)),(8,.ref 4 0),(9,.ref 5 0),(10,.ref 6 0),(42,.it 7),(43,.i A8)],ke c q pos ln s⟩:=by
 cases s with
 | s0 C1 C0 Cz=>
  replace h:WT n c q pos ln A8 C1 C0 Cz=some r:=h;unfold WT at h;refine ag L5 [0,1,2,3,4,5,6,7,8] (H0.t) (AG 69 [(3,.ref 3 0),(8,.ref 4 0),(9,.ref 5 0),(10,.ref 6 0),(11,.ref 8 0)]) (m8 c q pos ln C1 C0 Cz A8) fun N=>?_
  revert r;apply gO
  exact gn fun eU=>jc (Kk eU (m8 c q pos ln C1 C0 Cz A8)) (cn fun PN dA=>fun p r h=>by
   refine gs L5 [0,1,2,3,4,5,6,7,8,9] p (GD (WB Tryz.f165 42) 45 []) (AG 69 [(3,.ref 3 0),(9,.ref 5 0),(10,.ref 6 0),(11,.ref 8 0),(45,.it 9)]) (zBu c q pos ln C1 C0 Cz A8) ?_;refine r0 9 45 #[46] BP 10 dA (xG n c q pos ln A8) ?_;cases PN with
   | s0 U0 Uz Uy=>
    dsimp only at h
    revert r;apply gO;exact lF fun p=>rr L5 [0,1,2,3,4,5,6,7] rfl p)
def kY (n:Nat)(c:AB)(q:AA)(pos:List Int)(ln:Nat)(lost:List Int):Option (Bool×(List Int)):=
 if ((0:Int)<=0/\ 0<(c.cells.length:Int))/\ ((0:Int)<=1/\ 1<(c.cells.length:Int))/\ (0<=(c.cells.getD 0 0)/\ (c.cells.getD 0 0)<(pos.length:Int))/\ (0<=(c.cells.getD 1 0)/\ (c.cells.getD 1 0)<(pos.length:Int))/\ (0<=(pos.getD ((c.cells.getD 0 0).toNat) 0)/\ (pos.getD ((c.cells.getD 0 0).toNat) 0)<9223372036854775808) then
  (Bq (WW n c q pos ln) (Bc (pos.getD ((c.cells.getD 0 0).toNat) 0)) (.s0 lost 0 0)).bind fun y1=>
   match y1 with
   | .s0 Dz Dy Fp=>
    (Dg n (c.cells.getD 0 0) (bits .xor .i64 (-1) Dy) c q pos ln Dz).bind fun y2=>
     (Dg n (c.cells.getD 1 0) (bits .xor .i64 (-1) Fp) c q pos ln y2).bind fun y3=>
      some (true,y3)
 else none
def aa (n:Nat)(c:AB)(q:AA)(pos:List Int)(ln:Nat)(lost:List Int):Option (Bool×(List Int)):=kY n c q pos ln lost
theorem xE {n:Nat}{c:AB}{q:AA}{pos:List Int}{ln:Nat}{lost:List Int}{r:Bool×(List Int)}(h:aa n c q pos ln lost=some r):EQ 165 [.ref 1 0,.fn 167 1 (L1 [.ref 0 0])] [oC [.ref 1 0],oW c q pos 2 ln,oI lost] (.bool r.1) [oC [.ref 1 0],oW c q pos 2 ln,oI r.2] false:=by
 refine ot Tryz.func165 fun B N=>?_
 revert r;apply gO
 exact jg uL (gc (gi (gc (gi (jg uJ (gc (gi (gc (gi (jt (gn fun g4=>jc (Kk g4 (zBy c q pos ln lost)) (cn fun y1 A7=>fun p r h=>by
  refine gs L5 [0,1,2,3,4,5,6,7] p (GD (AX Tryz.f165) 42 []) (AG 69 [(0,.ref 1 0),(3,.ref 3 0),(5,.i (c.cells.getD 0 0)),(6,.i (c.cells.getD 1 0)),(8,.ref 4 0),(9,.ref 5 0),(10,.ref 6 0),(42,.it 7)]) (zBx c q pos ln lost) ?_;refine r0 7 42 #[43] BP 8 A7 (xF n c q pos ln) ?_;cases y1 with
  | s0 Dz Dy Fp=>
   dsimp only at h
   revert r;apply gO;exact ce GS [1,2] (zBw c q pos ln Dz Dy Fp) fun y2=>ce GS [1,2] (zBv c q pos ln y2 Dy Fp) fun _=>lE L5 [4] [0,1,2]))))))))))))
def fB (n:Nat)(c:AB)(q:AA)(pos:List Int)(ln:Nat)(lost:List Int):Option (Bool×(List Int)):= (ab n c q pos ln lost).bind fun y1=> some (y1.1,y1.2)
def PQ (n:Nat)(c:AB)(q:AA)(pos:List Int)(ln:Nat)(lost:List Int):Option (Bool×(List Int)):=fB n c q pos ln lost
theorem zFv {n:Nat}{c:AB}{q:AA}{pos:List Int}{ln:Nat}{lost:List Int}{r:Bool×(List Int)}(h:PQ n c q pos ln lost=some r):EQ 137 [.ref 0 0] [oW c q pos 1 ln,oI lost] (.bool r.1) [oW c q pos 1 ln,oI r.2] false:=by
 unfold PQ fB at h;refine ot Tryz.func137 fun B N=>?_
 revert r;apply gO;exact ce xH [2,0,1] [oW c q pos 1 ln,oI lost,oC [.ref 0 0]] fun _=>lE AC [2] [0,1]
def av (n:Nat)(c:AB)(q:AA)(pos:List Int)(ln:Nat)(lost:List Int):Option (Bool×(List Int)):= (aa n c q pos ln lost).bind fun y1=> some (y1.1,y1.2)
def OG (n:Nat)(c:AB)(q:AA)(pos:List Int)(ln:Nat)(lost:List Int):Option (Bool×(List Int)):=av n c q pos ln lost
theorem xf {n:Nat}{c:AB}{q:AA}{pos:List Int}{ln:Nat}{lost:List Int}{r:Bool×(List Int)}(h:OG n c q pos ln lost=some r):EQ 138 [.ref 0 0] [oW c q pos 1 ln,oI lost] (.bool r.1) [oW c q pos 1 ln,oI r.2] false:=by
 unfold OG av at h;refine ot Tryz.func138 fun B N=>?_
 revert r;apply gO;exact ce xE [2,0,1] [oW c q pos 1 ln,oI lost,oC [.ref 0 0]] fun _=>lE AC [2] [0,1]
end Go.Proofs.YtkjbblkieglmlaaGreatDoor
