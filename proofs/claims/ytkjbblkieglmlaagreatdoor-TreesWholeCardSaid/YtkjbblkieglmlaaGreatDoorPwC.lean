/- Part 3 of 7 of what the proofs of these laws stand on. -/
import Derived.Test.YtkjbblkieglmlaaGreatDoorPwB
import Derived.LoopIn
set_option linter.all false
namespace Go.Proofs.YtkjbblkieglmlaaGreatDoor
abbrev zDx:=@List.drop_eq_getElem_cons
abbrev zEb:=@of_decide_eq_true
abbrev zFx:=@List.drop_length
end Go.Proofs.YtkjbblkieglmlaaGreatDoor
namespace Go.Proofs.YtkjbblkieglmlaaGreatDoor
open Go.RowKit
section
variable {P:Program} {Γ:Aq}
theorem A1.foreign {N1 N2 G:Nat -> Prop} {h:DH} {ρ:List AI} {A B:World} (H:A1 P Γ N1 h ρ A) (hu:AP G A B) (hG: ∀ b,G b -> N1 b/\ Γ.ng<=b) (hN: ∀ b,N2 b -> N1 b∨A.heap.size<=b) (hb: ∀ b,N2 b -> b<B.heap.size/\ Γ.ng<=b):A1 P Γ N2 h ρ B:=by
 have O:BU (MS N1 h ρ) A ρ (MS N2 h ρ) B ρ:=⟨fun b AN hm _=>hu.block b AN fun hx=>hm (.inl (hG b hx).1),fun b hb=>hb.elim (fun h=>(hN b h).imp .inl id) (fun h=>.inl (.inr h)),fun _ _ h=>h⟩;refine ⟨H.len,fun k o hk=>?_,fun k o p b h1 h2 h3=>?_,H.dis,hb,Γ.st _ _ H.gi (hu.mono fun i _ hx=>(hG i hx).2)⟩
 ·obtain ⟨p,hp,hr⟩:=H.obj k o hk;exact ⟨p,hp,hr.out O hu (fun b hb=>.inl (hG b hb).1) fun b _ hf hs=>(H.cel k o p b hk hp hf).2.1 (hG b hs).1⟩
 ·obtain ⟨c1,c2,c,t,z,c3⟩:=H.cel k o p b h1 h2 h3;have AN:=(zAJ.1 c3).1;exact ⟨c1,fun hn=>(hN b hn).elim c2 (by omega),c,t,z,(hu.block b AN fun hx=>c2 (hG b hx).1).trans c3⟩
theorem BU.foreign {N1 N2 G:Nat -> Prop} {h:DH} {ρ:List AI} {A B:World} (hu:AP G A B) (hG: ∀ b,G b -> N1 b/\ Γ.ng<=b) (hN: ∀ b,N2 b -> N1 b∨A.heap.size<=b):BU (MS N1 h ρ) A ρ (MS N2 h ρ) B ρ:=
 ⟨fun b AN hm _=>hu.block b AN fun hx=>hm (.inl (hG b hx).1),fun b hb=>hb.elim (fun h=>(hN b h).imp .inl id) (fun h=>.inl (.inr h)),fun _ _ h=>h⟩
def IC (fr:List DV) (ps:List Tmp) (x:List DV):List DV:=(ps.zip x).foldl (fun t q=>t.set q.1 q.2) fr
theorem fq {M:Nat -> Prop} {w:World} {ρ:List AI}: ∀ (ps:List Tmp) (x:List DV) (v:List Value) {fr:List DV} {t:Array Value},x.length=v.length -> (∀ j,j<x.length -> AM M w (x.getD j .any) ρ (v.getD j undef)) -> BC M w ρ fr t ->
 BC M w ρ (IC fr ps x) ((ps.zip v).foldl (fun t (q:Tmp×Value)=>t.setIfInBounds q.1 q.2) t)
 | [],_,_,_,_,_,_,h=>h
 | _::_,[],[],_,_,_,_,h=>h
 | p::ps,d::x,u::v,_,_,hl,hx,h=>fq ps x v (Nat.succ.inj hl) (fun j hj=>hx (j+1) (Nat.succ_lt_succ hj)) (h.set p (hx 0 (Nat.succ_pos _)))
theorem YV.rep {ds:List DV} {R:Nat -> Prop} {W:World} {args:Array Value} (h:YV ds R W args) {M:Nat -> Prop} (hM: ∀ b,M b -> b<W.heap.size/\ ¬ R b) (ρ:List AI): ∀ j,j<ds.length -> AM M W (ds.getD j .any) ρ (args.toList.getD j undef):=fun j hj=>by
 have e:args.toList.getD j undef=args.getD j undef:=by simp [zAc,u8]
 rw [e];exact (h.2 j hj).out _ ⟨fun _ _ _ _=>rfl,fun b hb=>.inl (hM b hb),fun k p hk=>by simp at hk⟩
def C5 (K:Nat):DV -> Bool
 | .ref k _=>decide (k<K)
 | .msl k _ _ _=>decide (k<K)
 | .mse k _ _ _=>decide (k<K)
 | .mri k _=>decide (k<K)
 | .mp k _ _ _=>decide (k<K)
 | .it k=>decide (k<K)
 | .agg m f=>(List.range m).all fun j=>C5 K (f j)
 | .tup m f=>(List.range m).all fun j=>C5 K (f j)
 | .fn _ m f=>(List.range m).all fun j=>C5 K (f j)
 | _=>true
theorem Ps {α:Type} {l:List α} {K k:Nat} {x:α} (hk:k<K) (h:l[k]? =some x):(l.take K)[k]? =some x:=by rw [zD6,zAB hk];exact h
theorem AM.take {M:Nat -> Prop} {w:World} {K:Nat}: ∀ (d:DV) {ρ:List AI} {v:Value},C5 K d=true -> AM M w d ρ v -> AM M w d (ρ.take K) v:=by
 intro d
 induction d with
 | ref k j=>rintro ρ v hb ⟨p,h,e⟩;exact ⟨p,Ps (zEb hb) h,e⟩
 | msl k m off n=>rintro ρ v hb ⟨p,cap,h,e⟩;exact ⟨p,cap,Ps (zEb hb) h,e⟩
 | mp k m i j=>rintro ρ v hb ⟨p,h,e⟩;exact ⟨p,Ps (zEb hb) h,e⟩
 | it k=>rintro ρ v hb ⟨p,h,e⟩;exact ⟨p,Ps (zEb hb) h,e⟩
 | agg m f ih=>
  rintro ρ v hb ⟨cs,e,hs,h⟩;exact ⟨cs,e,hs,fun j hj=>let ⟨u,h1,h2⟩:=h j hj;⟨u,h1,ih j (zAW.1 hb j (zAd.2 hj)) h2⟩⟩
 | tup m f ih=>
  rintro ρ v hb ⟨cs,e,hs,h⟩;exact ⟨cs,e,hs,fun j hj=>let ⟨u,h1,h2⟩:=h j hj;⟨u,h1,ih j (zAW.1 hb j (zAd.2 hj)) h2⟩⟩
 | fn g m f ih=>
  rintro ρ v hb ⟨cs,e,hs,h⟩;exact ⟨cs,e,hs,fun j hj=>let ⟨u,h1,h2⟩:=h j hj;⟨u,h1,ih j (zAW.1 hb j (zAd.2 hj)) h2⟩⟩
 | yl l=>rintro ρ v _ h;exact h
 | cst u=>rintro ρ v _ h;exact h
 | mse k m off n=>rintro ρ v hb ⟨p,a,cap,h,e⟩;exact ⟨p,a,cap,Ps (zEb hb) h,e⟩
 | mri k i=>rintro ρ v hb ⟨p,vs,h,e⟩;exact ⟨p,vs,Ps (zEb hb) h,e⟩
 | any=>rintro ρ v _ h;trivial
 | nils=>rintro ρ v _ h;exact h
 | int k n=>rintro ρ v _ h;exact h
 | bool b=>rintro ρ v _ h;exact h
 | str s=>rintro ρ v _ h;exact h
 | ints l=>rintro ρ v _ h;exact h
 | bools l=>rintro ρ v _ h;exact h
 | sl m n f=>rintro ρ v _ h;exact h
 | fp m f=>rintro ρ v _ h;exact h
theorem BC.take {M:Nat -> Prop} {w:World} {K:Nat} {ρ:List AI} {fr:List DV} {t:Array Value} (h:BC M w ρ fr t) (hb:fr.all (C5 K)=true):BC M w (ρ.take K) fr t:=by
 refine ⟨h.1,fun i hi=>AM.take _ ?_ (h.2 i hi)⟩;have:fr.getD i .any∈fr:=by simp [u8,hi]
 exact zAW.1 hb _ this
theorem BU.weak {M M0:Nat -> Prop} {w:World} {ρ:List AI} {M':Nat -> Prop} {w':World} {ρ':List AI} (h:BU M0 w ρ M' w' ρ') (hM: ∀ b,M0 b -> M b):BU M w ρ M' w' ρ':=
 ⟨fun b hl hn=>h.blk b hl fun hx=>hn (hM b hx),fun b hb=>(h.m b hb).imp (hM b) id,h.pl⟩
structure RI (K:Nat) (P:Program) (Γ:Aq) (N:Nat -> Prop) (h0:DH) (ρ0:List AI) (w0:World) (G R:Nat -> Prop) (W:World) (h:DH) (ρ:List AI):Prop where
 hr:A1 P Γ (fun b=>N b∨G b) h ρ W
 upd:AP (MO h0 ρ0) w0 W
 grow: ∀ b,MO h ρ b -> MO h0 ρ0 b∨w0.heap.size<=b
 g: ∀ b,G b -> Γ.ng<=b/\ (MO h0 ρ0 b∨w0.heap.size<=b)
 r: ∀ b,R b -> ¬ N b/\ ¬ MO h ρ b
 kept:CA K ρ0 ρ
theorem RI.off {K:Nat} {N:Nat -> Prop} {h0:DH} {ρ0:List AI} {w0:World} {G R:Nat -> Prop} {W:World} {h:DH} {ρ:List AI} (hR:RI K P Γ N h0 ρ0 w0 G R W h ρ): ∀ b,MO h ρ b -> b<W.heap.size/\ ¬ N b/\ ¬ (G b∨R b):=fun b hm=>by
 obtain ⟨k,o,p,q1,q2,q3⟩:=id hm;obtain ⟨_,c2,c,_,_,c3⟩:=hR.hr.cel k o p b q1 q2 q3;exact ⟨(zAJ.1 c3).1,fun h=>c2 (.inl h),fun h=>h.elim (fun h=>c2 (.inr h)) fun h=>(hR.r b h).2 hm⟩
theorem RI.stable {K:Nat} {N:Nat -> Prop} {h0:DH} {ρ0:List AI} {w0:World} (Ct:Γ.ng<=w0.heap.size) (hN: ∀ b,N b -> b<w0.heap.size/\ ¬ MO h0 ρ0 b) {h:DH} {ρ:List AI}:EL fun G R W=>RI K P Γ N h0 ρ0 w0 G R W h ρ:=fun G R G' R' A B hR hu hg hr _ _ hb=>by
 have hs:w0.heap.size<=A.heap.size:=hR.upd.size;refine ⟨hR.hr.foreign hu (fun b hx=>⟨.inr hx,(hR.g b hx).1⟩) (fun b hx=>?_) (fun b hx=>?_),hR.upd.comp hu fun i hi hx=>(hR.g i hx).2.resolve_right (by omega),hR.grow,fun b hx=>?_,fun b hx=>?_,hR.kept⟩
 ·rcases hx with hx | hx
  ·exact .inl (.inl hx)
  ·exact (hg b hx).imp .inr id
 ·rcases hx with hx | hx
  ·exact ⟨zAY (hR.hr.nlt b (.inl hx)).1 hu.size,(hR.hr.nlt b (.inl hx)).2⟩
  ·exact ⟨hb b (.inl hx),(hg b hx).elim (fun h=>(hR.g b h).1) (fun h=>by omega)⟩
 ·rcases hg b hx with hx | hx
  ·exact hR.g b hx
  ·exact ⟨by omega,.inr (by omega)⟩
 ·rcases hr b hx with hx | hx | hx
  ·exact hR.r b hx
  ·exact ⟨fun hn=>(hR.g b hx).2.elim (hN b hn).2 (by have:=(hN b hn).1;omega),fun hm=>(hR.off b hm).2.2 (.inl hx)⟩
  ·exact ⟨fun hn=>by have:=(hN b hn).1;omega,fun hm=>by have:=(hR.off b hm).1;omega⟩
theorem RI.outl {K:Nat} {N:Nat -> Prop} {h0:DH} {ρ0:List AI} {w0:World} {G R0:Nat -> Prop} {W:World} {h:DH} {ρ:List AI} (R:RI K P Γ N h0 ρ0 w0 G R0 W h ρ):BU (MS N h0 ρ0) w0 (ρ0.take K) (MS (fun b=>N b∨G b) h ρ) W ρ:=
 ⟨fun b AN hm _=>R.upd.block b AN fun hx=>hm (.inr hx),fun b hb=>by
  rcases hb with (hb | hb) | hb
  ·exact .inl (.inl hb)
  ·exact (R.g b hb).2.imp .inr id
  ·exact (R.grow b hb).imp .inr id,fun k p hk=>by
  rw [zD6] at hk
  by_cases e:k<K
  ·rw [zAB e] at hk;exact R.kept k p e hk
  ·rw [zAZ e] at hk;cases hk⟩
def Km:Exit -> Option Code
 | .ret=>some .ret
 | .exit id=>some (.exit id)
 | _=>none
def UB (L:Nat) (J:DH -> Prop) (Jx:Exit -> DH -> Prop) (e:Exit) (S:St):Prop:=∃ S3,Ay L S S3/\ ((e= .normal/\ J S3.h)∨((Km e).isSome=true/\ Jx e S3.h))
def Xr (P:Program) (Γ:Aq) (fr:List DV) (ps:List Tmp) (assign body:Code) (L:Nat) (J:Nat -> DH -> Prop) (Jx:Exit -> DH -> Prop) (encs:List (List DV)):Prop:=
 ∀ (l B:Nat) (Y:BR P Γ L) (i:Nat) (x:List DV) (h:DH),encs[i]? =some x -> J i h ->
  Tr P Γ (Fence.wide.inRound l) (some B) L Y assign ⟨IC fr ps x,h⟩ (Qg (fun S' Y'=>Y'=Y/\ ∀ Y2:BR P Γ L,Tr P Γ (Fence.wide.inRound l) (some B) L Y2 body S' (stay Y2 (UB L (J (i+1)) Jx))) (fun _ _ _=>False))
abbrev RJ (P:Program) (Γ:Aq) (N:Nat -> Prop) (h0:DH) (ρ:List AI) (w:World) (KK:Nat) (J:Nat -> DH -> Prop) (i:Nat) (G R:Nat -> Prop) (W:World):Prop:=∃ h ρ',J i h/\ RI KK P Γ N h0 ρ w G R W h ρ'
abbrev RX (P:Program) (Γ:Aq) (N:Nat -> Prop) (h0:DH) (ρ:List AI) (w:World) (KK:Nat) (Jx:Exit -> DH -> Prop) (c:Code) (G R:Nat -> Prop) (W:World):Prop:=∃ e,Km e=some c/\ ∃ h ρ',Jx e h/\ RI KK P Γ N h0 ρ w G R W h ρ'
theorem Y8 {N:Nat -> Prop} {S:St} {ρ:List AI} {a:Act} {w:World} (Q:AT P Γ N S ρ a w) {h0:DH} (hN: ∀ b,N b -> b<w.heap.size/\ ¬ MO h0 ρ b) (hh: ∀ b,MO h0 ρ b -> MO S.h ρ b) {ps:Array Tmp} {assign body:Code} {encs:List (List DV)} {J:Nat -> DH -> Prop} {Jx:Exit -> DH -> Prop} {KK:Nat} (Cg:S.fr.all (C5 KK)=true)
 (C7:Xr P Γ S.fr ps.toList assign body KK J Jx encs) (l:Nat):Xq P YV encs ps assign body a l (RJ P Γ N h0 ρ w KK J) (RX P Γ N h0 ρ w KK Jx):=by
 rintro G R i x args W hx hE ⟨h,ρ1,hJ,hR⟩ hS hl Gh;have Ct:Γ.ng<=w.heap.size:=Γ.lo _ Q.hr.gi
 have hM: ∀ {h:DH} {ρ1:List AI} {W:World},RI KK P Γ N h0 ρ w G R W h ρ1 -> ∀ b,MS (fun b=>N b∨G b) h ρ1 b -> b<W.heap.size/\ ¬ R b:=fun hR b hb=>by
  rcases hb with (hb | hb) | hb
  ·exact ⟨(hR.hr.nlt b (.inl hb)).1,fun h=>(hR.r b h).1 hb⟩
  ·exact ⟨(hR.hr.nlt b (.inr hb)).1,hS.dis b hb⟩
  ·exact ⟨(hR.off b hb).1,fun h=>(hR.off b hb).2.2 (.inr h)⟩
 have Nq:BU (MS N S.h ρ) w (ρ.take KK) (MS (fun b=>N b∨G b) h ρ1) W ρ1:=hR.outl.weak (fun b hb=>hb.imp id (hh b))
 have Wy:BC (MS (fun b=>N b∨G b) h ρ1) W ρ1 (IC S.fr ps.toList x) ((ps.zip args).foldl (fun t (p,v)=>t.setIfInBounds p v) a.tmps):=by
  have:=fq ps.toList x args.toList (by simpa using hE.1) (hE.rep (hM hR) ρ1) ((Q.fr.take Cg).out Nq);rw [←Array.foldl_toList,Array.toList_zip];exact this
 have step: ∀ {G R:Nat -> Prop} {W W':World} {h h':DH} {ρ1 ρ2:List AI},RI KK P Γ N h0 ρ w G R W h ρ1 -> (∀ b,R b -> b<W.heap.size) -> A1 P Γ (fun b=>N b∨G b) h' ρ2 W' -> A6 h ρ1 W h' ρ2 W' -> CA KK ρ1 ρ2 -> RI KK P Γ N h0 ρ w G R W' h' ρ2:=by
  intro G R W W' h h' ρ1 ρ2 hR AN Cs st hk;have hs:=hR.upd.size;exact ⟨Cs,hR.upd.comp st.upd fun b hb hm=>(hR.grow b hm).resolve_right (by omega),fun b hb=>(st.grow b hb).elim (hR.grow b) fun h=>.inr (by omega),hR.g,fun b hb=>⟨(hR.r b hb).1,fun hm=>(st.grow b hm).elim (hR.r b hb).2 (by have:=AN b hb;omega)⟩,hR.kept.trans hk⟩
 have lK: ∀ b,R b -> b<W.heap.size:=fun b h=>hS.lt b (.inr h)
 have bd:Bd (Fence.wide.inRound l) (some W.heap.size) W:=⟨fun b e=>by cases e;exact zAm _,fun l' e=>by cases e;exact hl⟩;refine zEh (C7 l W.heap.size (Ou P Γ KK (fun b=>N b∨G b) h ρ1 W) i x h hx hJ _ ρ1 _ W ⟨hR.hr,Wy⟩ ⟨rfl,A6.refl _ _ _,CA.refl _ _⟩ trivial bd) ?_;rintro e a1 W1 ⟨S',ρ2,N2,Y2,h1,h2,h3,h4,_⟩;cases e with
 | normal=>
  obtain ⟨rfl,h1⟩:=h1;obtain ⟨rfl,h3,h5⟩:=h3;refine ⟨fun G' R' W'=>RI KK P Γ N h0 ρ w G' R' W' S'.h ρ2/\ BC (MS (fun b=>N b∨G' b) S'.h ρ2) W' ρ2 S'.fr a1.tmps/\ Eb W.heap.size a1.defers W'/\ W1.heap.size<=W'.heap.size/\ (∀ b,G' b -> b<W.heap.size∨W1.heap.size<=b)/\ (∀ d∈a1.defers,∀ D,d.target= .collected D -> D<W1.heap.size)/\ (∀ b,R' b -> b<W'.heap.size),?_,h3.upd.mono fun b _ hm=>(hR.off b hm).2.2,⟨step hR lK h2.hr h3 h5,h2.fr,h4,zAm _,fun b hg=>.inl (hR.hr.nlt b (.inr hg)).1,fun d hd D ht=>Eb.lt h4 hd ht,fun b hb=>zAY (lK b hb) h3.upd.size⟩,?_⟩
  ·rintro G1 R1 G2 R2 A C ⟨q1,q2,q3,q4,q5,q6,q7⟩ hu hg hr EF hd hb;have hR2:=RI.stable Ct hN _ _ _ _ _ _ q1 hu hg hr EF hd hb;refine ⟨hR2,q2.out (BU.foreign (Γ:=Γ) hu (fun b hx=>⟨.inr hx,(q1.g b hx).1⟩) fun b hx=>?_),?_,zAk q4 hu.size,fun b hx=>(hg b hx).elim (q5 b) (fun h=>.inr (by omega)),q6,fun b h=>hb b (.inr h)⟩
   ·rcases hx with hx | hx
    ·exact .inl (.inl hx)
    ·exact (hg b hx).imp .inr id
   ·have go: ∀ {ds:List Deferred},Eb W.heap.size ds A -> (∀ d∈ds,∀ D,d.target= .collected D -> D<W1.heap.size) -> Eb W.heap.size ds C:=by
     intro ds
     induction ds with
     | nil=>intros;trivial
     | cons d ds ih=>
      rintro ⟨D,r1,r2,r3,r4,r5⟩ AN;have hD:D<W1.heap.size:=AN d (by simp) D (by rw [r1]);refine ⟨D,r1,r2,(hu.block D (zAJ.1 r3).1 fun hx=>?_).trans r3,r4,ih r5 fun d' Nz=>AN d' (by simp [Nz])⟩;rcases q5 D hx with h | h <;> omega
    exact go q3 q6
  ·rintro W2 ⟨q1,q2,q3,q4,q5,q6,q7⟩ Cf;have bd2:Bd (Fence.wide.inRound l) (some W.heap.size) W2:=⟨fun b e=>by cases e;exact zAk h3.upd.size q4,fun l' e=>by cases e;exact Cf⟩;refine zEh (h1 (Ou P Γ KK (fun b=>N b∨G b) S'.h ρ2 W2) _ ρ2 a1 W2 ⟨q1.hr,q2⟩ ⟨rfl,A6.refl _ _ _,CA.refl _ _⟩ q3 bd2) ?_;rintro e a3 W3 ⟨S3,ρ3,N3,Y3,r1,r2,r3,r4,_⟩
   have out: ∀ e,(Ou P Γ KK (fun b=>N b∨G b) S'.h ρ2 W2).I N3 S3.h ρ3 W3 -> UB KK (J (i+1)) Jx e S3 -> AP (fun k=>¬ (G k∨R k)) W2 W3/\ ((e= .normal/\ RJ P Γ N h0 ρ w KK J (i+1) G R W3)∨((Km e).isSome=true/\ ∃ h ρ',Jx e h/\ RI KK P Γ N h0 ρ w G R W3 h ρ')):=by
    rintro e r0 ⟨S4,DL,hJ4⟩;obtain ⟨rfl,r3,r5⟩:=r0;obtain ⟨ρ4,R4,s4,k4⟩:=DL P Γ _ ρ3 a3 W3 r2;have kH:=step q1 q7 R4.hr (r3.trans s4) (r5.trans k4);exact ⟨r3.upd.mono fun b _ hm=>(q1.off b hm).2.2,hJ4.imp (fun ⟨x,y⟩=>⟨x,S4.h,ρ4,y,kH⟩) (fun ⟨x,y⟩=>⟨x,S4.h,ρ4,y,kH⟩)⟩
   have Es: ∀ {e c},Km e=some c -> (Ou P Γ KK (fun b=>N b∨G b) S'.h ρ2 W2).I N3 S3.h ρ3 W3 -> UB KK (J (i+1)) Jx e S3 -> AP (fun k=>¬ (G k∨R k)) W2 W3/\ RX P Γ N h0 ρ w KK Jx c G R W3:=fun he r3 r1=>by
    obtain ⟨o1,o2⟩:=out _ r3 r1;rcases o2 with ⟨rfl,_⟩ | ⟨_,o2⟩
    ·cases he
    ·exact ⟨o1,_,he,o2⟩
   cases e with
   | normal=>
    obtain ⟨rfl,r1⟩:=r1;obtain ⟨o1,o2⟩:=out _ r3 r1;rcases o2 with ⟨_,o2⟩ | ⟨o2,_⟩
    ·exact ⟨o1,o2⟩
    ·cases o2
   | ret=>obtain ⟨rfl,r1⟩:=r1;exact Es rfl r3 r1
   | exit id=>obtain ⟨rfl,r1⟩:=r1;exact Es rfl r3 r1
   | goto t=>
    obtain ⟨rfl,r1⟩:=r1;obtain ⟨o1,o2⟩:=out _ r3 r1;rcases o2 with ⟨o2,_⟩ | ⟨o2,_⟩ <;> cases o2
   | panic c=>
    obtain ⟨rfl,r1⟩:=r1;obtain ⟨o1,o2⟩:=out _ r3 r1;rcases o2 with ⟨o2,_⟩ | ⟨o2,_⟩ <;> cases o2
   | outgrown=>exact r1.elim
 | ret=>exact h1.elim
 | exit id=>exact h1.elim
 | goto t=>exact h1.elim
 | panic c=>exact h1.elim
 | outgrown=>exact h1.elim
section
variable {N:Nat -> Prop} {S:St} {ρ:List AI} {a:Act} {w:World} {G R:Nat -> Prop} {W:World} {h h0:DH} {ρ':List AI} {KK:Nat}
theorem RI.hrel (hR:RI KK P Γ N h0 ρ w G R W h ρ'):A1 P Γ N h ρ' W:=
 hR.hr.foreign (G:=fun _=>False) (AP.refl _ _) (fun _ h=>h.elim) (fun b hb=>.inl (.inl hb)) fun b hb=>hR.hr.nlt b (.inl hb)
theorem RI.frame (hR:RI KK P Γ N h0 ρ w G R W h ρ') (Q:AT P Γ N S ρ a w) (hh: ∀ b,MO h0 ρ b -> MO S.h ρ b) (Cg:S.fr.all (C5 KK)=true):BC (MS N h ρ') W ρ' S.fr a.tmps:=
 ((Q.fr.take Cg).out (hR.outl.weak fun b hb=>hb.imp id (hh b))).out (C6 (fun b hb=>hb.imp .inl id) ρ')
end
theorem Tr.range {F:Fence} (IX:F=Fence.wide∨∃ l,F=Fence.wide.inRound l) {B L:Nat} {Y:BR P Γ L} {S:St} {g:Operand} {ps:Array Tmp} {assign body:Code} {Q:QY P Γ L} {k:Nat} {encs:List (List DV)} (J:Nat -> DH -> Prop) (Jx:Exit -> DH -> Prop)
 (hg:AX S.fr g= .it k) (hk:S.h[k]? =some (some (.iter encs))) (D5: ∀ x∈encs,x.length=ps.size) {KK:Nat} (hL:L<=KK) (Cg:S.fr.all (C5 KK)=true) (h0:J 0 (S.h.set k none))
 (C7:Xr P Γ S.fr ps.toList assign body KK J Jx encs) (Dg: ∀ h,J encs.length h -> Q .normal ⟨S.fr,h⟩ Y) (Pa: ∀ e h,(Km e).isSome=true -> Jx e h -> Q e ⟨S.fr,h⟩ Y):Tr P Γ F (some B) L Y (.rangeFunc g ps assign body) S Q:=fun N ρ a w R y m b=>by
 have hx:=Bh R g;rw [hg] at hx;obtain ⟨p,hp,hv⟩:=hx;obtain ⟨p',BD,gf,lb,Rd,⟨e1,e2⟩,q2,q3,q4⟩:=R.hr.obj k _ hk;have ep:p'=p:=zAU (BD.symm.trans hp);subst ep;have kn:a.eval g= .func (.func gf) #[] lb:=hv.trans e1;have Ct:Γ.ng<=w.heap.size:=Γ.lo _ R.hr.gi;have bR: ∀ b,p'.foot b -> MO S.h ρ b:=fun b hb=>⟨k,_,p',hk,hp,hb⟩
 have hN: ∀ b,N b -> b<w.heap.size/\ ¬ MO S.h ρ b:=fun b hb=>⟨(R.hr.nlt b hb).1,fun ⟨k,o,p,q1,q2,q3⟩=>(R.hr.cel k o p b q1 q2 q3).2.1 hb⟩
 have WP:EY p'.foot Rd w:=⟨fun b hb hr=>(q3 b hr).1 (.inr (bR b hb)),fun b hb=>hb.elim (q4 b) fun h=>(q3 b h).2⟩
 have Wn:RJ P Γ N S.h ρ w KK J 0 p'.foot Rd w:=by
  refine ⟨S.h.set k none,ρ,h0,?_,AP.refl _ _,fun b hb=>.inl (MO.kill hb),fun b hb=>⟨(R.hr.cel k _ p' b hk hp hb).1,.inl (bR b hb)⟩,fun b hb=>⟨fun hn=>(q3 b hb).1 (.inl hn),fun hm=>(q3 b hb).1 (.inr (MO.kill hm))⟩,CA.refl _ _⟩;have H1:A1 P Γ N (S.h.set k none) ρ w:=R.hr.kill k
  have aU: ∀ b,MS (fun b=>N b∨p'.foot b) (S.h.set k none) ρ b -> MS N S.h ρ b:=fun b hb=>by
   rcases hb with (hb | hb) | hb
   ·exact .inl hb
   ·exact .inr (bR b hb)
   ·exact .inr (MO.kill hb)
  refine ⟨H1.len,fun i o hi=>?_,fun i o p2 b g1 g2 g3=>?_,H1.dis,fun b hb=>hb.elim (R.hr.nlt b) fun h=>⟨q4 b h,(R.hr.cel k _ p' b hk hp h).1⟩,R.hr.gi⟩
  ·obtain ⟨Ak,BP⟩:=Fs hi;obtain ⟨p2,Np,hr⟩:=R.hr.obj i o BP;exact ⟨p2,Np,hr.out (C6 aU ρ) (S:=fun _=>False) (AP.refl _ _) (fun _ h=>h.elim) fun _ _ _ h=>h⟩
  ·obtain ⟨Ak,BP⟩:=Fs g1;obtain ⟨c1,c2,c3⟩:=R.hr.cel i o p2 b BP g2 g3;exact ⟨c1,fun hb=>hb.elim c2 fun hb=>R.hr.dis i k o _ p2 p' b Ak BP hk g2 hp g3 hb,c3⟩
 have Df: ∀ i,EL (RJ P Γ N S.h ρ w KK J i):=fun i G R' G' R2 A C ⟨h,ρ',h1,h2⟩ q1 q2 q3 q4 q5 q6=>⟨h,ρ',h1,RI.stable Ct hN _ _ _ _ _ _ h2 q1 q2 q3 q4 q5 q6⟩
 have WO: ∀ c,EL (RX P Γ N S.h ρ w KK Jx c):=fun c G R' G' R2 A C ⟨e,he,h,ρ',h1,h2⟩ q1 q2 q3 q4 q5 q6=>⟨e,he,h,ρ',h1,RI.stable Ct hN _ _ _ _ _ _ h2 q1 q2 q3 q4 q5 q6⟩
 have Fh: ∀ {G R':Nat -> Prop} {W:World} {h:DH} {ρ':List AI},RI KK P Γ N S.h ρ w G R' W h ρ' -> A6 S.h ρ w h ρ' W:=fun hR=>⟨hR.upd,hR.grow⟩
 have kp: ∀ {G R':Nat -> Prop} {W:World} {h:DH} {ρ':List AI},RI KK P Γ N S.h ρ w G R' W h ρ' -> CA L ρ ρ':=fun hR k p hk hp=>hR.kept k p (zAY hk hL) hp
 have kL: ∀ x∈encs,∀ R W args,YV x R W args -> args.size=ps.size:=fun x hx R W args h=>h.1.symm.trans (D5 x hx)
 have O3: ∀ {G R':Nat -> Prop} {W:World} {h:DH} {ρ':List AI} {a':Act},RI KK P Γ N S.h ρ w G R' W h ρ' -> a'.tmps=a.tmps -> AT P Γ N ⟨S.fr,h⟩ ρ' a' W:=fun hR e=>⟨hR.hrel,by rw [e];exact hR.frame (S:=S) R (fun _ h=>h) Cg⟩
 rcases IX with rfl | ⟨l0,rfl⟩
 ·have mk: ∀ {D:Nat} {G R':Nat -> Prop} {W:World} {h:DH} {ρ':List AI},RI KK P Γ N S.h ρ w G R' W h ρ' -> W.heap[D]? =some (.deferred (some [])) -> w.heap.size<=D -> Eb B ({ target:=.collected D,args:=#[] }::a.defers) W:=fun {D G R' W h ρ'} hR hD IT=>
   ⟨D,rfl,zAk (b.le _ rfl) IT,hD,fun d' Nz ht=>by have:=Eb.lt m Nz ht;omega,SJ R.hr (Fh hR) m⟩
  refine dW kn e2 q2 WP kL _ _ Df WO (fun h=>h.elim) Wn (Y8 R hN (fun _ h=>h) Cg C7) ?_ ?_
  ·rintro D e G R' own W W' ⟨v,rfl⟩ ⟨h,ρ',h1,hR⟩ _ _ _ hD IT;exact ⟨⟨S.fr,h⟩,ρ',N,Y,Dg h h1,O3 hR rfl,Y.st y R.hr hR.hrel (Fh hR) (kp hR),mk hR hD IT,b.step R.hr (Fh hR)⟩
  ·rintro D c G R' W ⟨e,he,h,ρ',h1,hR⟩ hD IT;have hq:=Pa e h (by rw [he];rfl) h1;cases e with
   | ret=>cases he;exact wpIn_ret ⟨⟨S.fr,h⟩,ρ',N,Y,hq,O3 hR rfl,Y.st y R.hr hR.hrel (Fh hR) (kp hR),mk hR hD IT,b.step R.hr (Fh hR)⟩
   | exit id=>cases he;exact wpIn_exit ⟨⟨S.fr,h⟩,ρ',N,Y,hq,O3 hR rfl,Y.st y R.hr hR.hrel (Fh hR) (kp hR),mk hR hD IT,b.step R.hr (Fh hR)⟩
   | normal=>cases he
   | goto t=>cases he
   | panic c=>cases he
   | outgrown=>cases he
 ·refine n7 kn e2 (b.rd l0 rfl) q2 WP kL _ _ Df WO (fun h=>h.elim) Wn (Y8 R hN (fun _ h=>h) Cg C7) ?_ ?_
  ·rintro e G R' own W W' ⟨v,rfl⟩ ⟨h,ρ',h1,hR⟩ _ _ _;exact ⟨⟨S.fr,h⟩,ρ',N,Y,Dg h h1,O3 hR rfl,Y.st y R.hr hR.hrel (Fh hR) (kp hR),SJ R.hr (Fh hR) m,b.step R.hr (Fh hR)⟩
  ·rintro c G R' W ⟨e,he,h,ρ',h1,hR⟩;have hq:=Pa e h (by rw [he];rfl) h1;cases e with
   | ret=>cases he;exact wpIn_ret ⟨⟨S.fr,h⟩,ρ',N,Y,hq,O3 hR rfl,Y.st y R.hr hR.hrel (Fh hR) (kp hR),SJ R.hr (Fh hR) m,b.step R.hr (Fh hR)⟩
   | exit id=>cases he;exact wpIn_exit ⟨⟨S.fr,h⟩,ρ',N,Y,hq,O3 hR rfl,Y.st y R.hr hR.hrel (Fh hR) (kp hR),SJ R.hr (Fh hR) m,b.step R.hr (Fh hR)⟩
   | normal=>cases he
   | goto t=>cases he
   | panic c=>cases he
   | outgrown=>cases he
def DB {α σ:Type} (f:α -> σ -> Option (σ×Nat)):List α -> σ -> Option (σ×Nat)
 | [],s=>some (s,0)
 | x::l,s=>(f x s).bind fun r=>bif r.2==0 then DB f l r.1 else some r
def Bn {α σ:Type} (f:α -> σ -> Option σ):List α -> σ -> Option σ
 | [],s=>some s
 | x::l,s=>(f x s).bind (Bn f l)
theorem lv {α σ:Type} (f:α -> σ -> Option σ): ∀ (l:List α) (s:σ),DB (fun x s=>(f x s).map fun s'=>(s',0)) l s=(Bn f l s).map fun s'=>(s',0)
 | [],s=>rfl
 | x::l,s=>by
  simp only [DB,Bn];cases f x s with
  | none=>rfl
  | some s'=>exact lv f l s'
def Cb (L:Nat) (ex:List Exit) (c:Nat) (h':DH) (e:Exit) (S:St):Prop:=(Exit.normal::ex)[c]? =some e/\ ∃ S3,Ay L S S3/\ S3.h=h'
def Ft (P:Program) (Γ:Aq) (F:Fence) (B:Option Nat) (L:Nat) (N:BR P Γ L) (Q:Exit -> St -> Prop) (assign body:Code) (S:St):Prop:=
 Tr P Γ F B L N assign S (Qg (fun S' Y'=>Y'=N/\ ∀ N2:BR P Γ L,Bg P Γ F B L N2 Q [.code body] S') (fun _ _ _=>False))
theorem Ft.go {F:Fence} {B:Option Nat} {L:Nat} {N:BR P Γ L} {Q:Exit -> St -> Prop} (hF:Cv F P) (hm:P.follows .mixedOrders=true) {assign body:Code} {S:St} (A9:Bi) (n:Nat) (o:BF) (live σ:List Nat) (fr:List DV) (h':DH) (vs:List Prop)
 (h:(B9 P Γ A9 n [.code assign] S o).map (Rq live σ L)=some (.at [],fr,h',vs,[],[],true)) (hv:Ba vs) (hk: ∀ N2:BR P Γ L,Bg P Γ F B L N2 Q [.code body] ⟨fr,h'⟩):Ft P Γ F B L N Q assign body S:=by
 obtain ⟨S',_,h1,hs⟩:=uQ h;have T:=FG (F:=F) (B:=B) (L:=L) (Y:=N) (Q:=fun e S2 Y2=>e= .normal/\ Y2=N/\ ∀ N2:BR P Γ L,Bg P Γ F B L N2 Q [.code body] S2) hF hm n [.code assign] S o _ _ _ _ h1 hv ⟨rfl,rfl,fun N2=>Bg.le hs rfl (hk N2)⟩;refine Tr.mono (show Tr P Γ F B L N assign S _ from T) fun e S2 Y2 hq=>?_
 cases e with
 | normal=>exact hq.2
 | ret=>exact absurd hq.1 (by simp)
 | exit id=>exact absurd hq.1 (by simp)
 | goto t=>exact absurd hq.1 (by simp)
 | panic c=>exact absurd hq.1 (by simp)
 | outgrown=>exact absurd hq.1 (by simp)
theorem Bg.rangeFold {F:Fence} (IX:F=Fence.wide∨∃ l,F=Fence.wide.inRound l) {B L:Nat} {Y:BR P Γ L} {Q:QY P Γ L} {S:St} {g:Operand} {ps:Array Tmp} {assign body:Code} {k:List KI} {kk:Nat} {α σ:Type} (ex:List Exit) (JP:(ex.all fun e=>(Km e).isSome)=true) (enc:α -> List DV) (l:List α) (H:σ -> DH) (f:α -> σ -> Option (σ×Nat)) {s0:σ} {rE:σ×Nat} (hf:DB f l s0=some rE)
 (hg:AX S.fr g= .it kk) (hk:S.h[kk]? =some (some (.iter (l.map enc)))) (D5: ∀ x,(enc x).length=ps.size) {K:Nat} (hL:L<=K) (Cg:S.fr.all (C5 K)=true) (h0:S.h.set kk none=H s0)
 (C7: ∀ (l B:Nat) (N:BR P Γ K) (x:α) (s:σ) (r:σ×Nat),f x s=some r -> Ft P Γ (Fence.wide.inRound l) (some B) K N (Cb K ex r.2 (H r.1)) assign body ⟨IC S.fr ps.toList (enc x),H s⟩)
 (Dg: ∀ e,(Exit.normal::ex)[rE.2]? =some e -> DZ P Γ F (some B) L Q k e ⟨S.fr,H rE.1⟩ Y):An P Γ F (some B) L Y Q (.code (.rangeFunc g ps assign body)::k) S:=by
 refine Tr.range (Q:=DZ P Γ F (some B) L Q k) (KK:=K) IX (fun i h=>∃ s,DB f (l.drop i) s=some rE/\ h=H s) (fun e h=>(Exit.normal::ex)[rE.2]? =some e/\ h=H rE.1) hg hk (fun x hx=>?_) hL Cg ⟨s0,hf,h0⟩ ?_ ?_ ?_
 ·obtain ⟨y,_,rfl⟩:=zEK.1 hx;exact D5 y
 ·rintro l' B' N' i x h hx ⟨s,hs,rfl⟩;rw [zA1] at hx;cases hy:l[i]? with
  | none=>rw [hy] at hx;cases hx
  | some y=>
   rw [hy] at hx;cases hx;have AN:=(zAV.1 hy).1
   have hd:l.drop i=y::l.drop (i+1):=by
    rw [zDx AN]
    congr 1
    exact (zAV.1 hy).2
   rw [hd] at hs;obtain ⟨r,h1,h2⟩:=FM hs;have T:=C7 l' B' N' y s r h1
   have fin: ∀ {e:Exit} {S2:St},Cb K ex r.2 (H r.1) e S2 -> UB K (fun h=>∃ s,DB f (l.drop (i+1)) s=some rE/\ h=H s) (fun e h=>(Exit.normal::ex)[rE.2]? =some e/\ h=H rE.1) e S2:=by
    rintro e S2 ⟨r1,S3,r2,r3⟩;refine ⟨S3,r2,?_⟩;cases hc:r.2 with
    | zero=>
     rw [hc] at r1 h2;cases r1;exact .inl ⟨rfl,r.1,h2,r3⟩
    | succ c=>
     rw [hc] at r1 h2;cases h2;have:e∈ex:=zDz (i:=c) r1;exact .inr ⟨zAW.1 JP e this,by rw [hc];exact r1,r3⟩
   refine Tr.mono T fun e S2 Y2 hq=>?_
   cases e with
   | normal=>exact ⟨hq.1,fun N2=>Tr.mono (show Tr P Γ (Fence.wide.inRound l') (some B') K N2 body S2 (stay N2 (Cb K ex r.2 (H r.1))) from hq.2 N2) fun e S3 Y3 h3=>⟨h3.1,fin h3.2⟩⟩
   | ret=>exact hq.elim
   | exit id=>exact hq.elim
   | goto t=>exact hq.elim
   | panic c=>exact hq.elim
   | outgrown=>exact hq.elim
 ·rintro h ⟨s,hs,rfl⟩;rw [zAn,zFx] at hs;cases hs;exact Dg .normal rfl
 ·rintro e h he ⟨h1,rfl⟩;exact Dg e h1
theorem P5 {F:Fence} {B:Option Nat} {L:Nat} {Y:BR P Γ L} {Q:QY P Γ L} {S:St} {id:Nat} (h:Q (.exit id) S Y): ∀ (k:List KI),IJ id k=none -> DZ P Γ F B L Q k (.exit id) S Y
 | [],_=>h
 | .blk i::k,hp=>by
  unfold IJ at hp;split at hp
  ·cases hp
  ·rename_i e
   show (if id=i then _ else _)
   rw [zAZ e];exact P5 h k hp
 | .code c::k,hp=>P5 (k:=k) h hp
 | .lend J::k,hp=>P5 (k:=k) h hp
 | .scp::k,hp=>P5 (k:=k) h hp
 | .loopN m b::k,hp=>P5 (k:=k) h hp
end
def J4 (t:Nat):Code -> Option (Array Tmp×Code×Code)
 | .rangeFunc (.tmp t') ps a b=>if t'=t then some (ps,a,b) else J4 t b
 | .seq a b=>match J4 t a with
  | some r=>some r
  | none=>J4 t b
 | .cond _ a b=>match J4 t a with
  | some r=>some r
  | none=>J4 t b
 | .block _ c=>J4 t c
 | .loop c=>J4 t c
 | .scope c=>J4 t c
 | _=>none
def gq (f:Func) (t:Nat):Array Tmp×Code×Code:=match f.body with
 | some c=>(J4 t c).getD (#[],.skip,.skip)
 | none=>(#[],.skip,.skip)
def VB (f:Func) (t:Nat):Code:=(gq f t).2.2
def sq (f:Func) (t:Nat):Code:=(gq f t).2.1
def AY (f:Func):Code:=f.body.getD .skip
def iL (id:Nat) (k:List KI):List KI:=(IJ id k).getD []
theorem DZ.exitTo {P:Program} {Γ:Aq} {F:Fence} {B:Option Nat} {L:Nat} {Y:BR P Γ L} {Q:QY P Γ L} {id:Nat} {k:List KI} {S:St} (h:(IJ id k).isSome=true) (hk:An P Γ F B L Y Q (iL id k) S):DZ P Γ F B L Q k (.exit id) S Y:=by
 unfold iL at hk;cases hp:IJ id k with
 | none=>rw [hp] at h;cases h
 | some k'=>rw [hp] at hk;exact NE hp hk
def NA:List KI -> Option (Operand×Array Tmp×Code×Code×List KI)
 | .code (.rangeFunc g ps a b)::k=>some (g,ps,a,b,k)
 | _=>none
theorem Bg.rangeAt {P:Program} {Γ:Aq} {F:Fence} (IX:F=Fence.wide∨∃ l,F=Fence.wide.inRound l) {B L:Nat} {Y:BR P Γ L} {Q:QY P Γ L} {fr:List DV} {h:DH} {K:List KI} (ex:List Exit) (JP:(ex.all fun e=>(Km e).isSome)=true) (g:Operand) (ps:Array Tmp) (a b:Code) (k2:List KI) {kk:Nat} {α σ:Type} (enc:α -> List DV) (l:List α) (H:σ -> DH) (FR:α -> List DV) (f:α -> σ -> Option (σ×Nat)) {s0:σ} {rE:σ×Nat} (hf:DB f l s0=some rE)
 (hK:NA K=some (g,ps,a,b,k2)) (hg:AX fr g= .it kk) (hk:h[kk]? =some (some (.iter (l.map enc)))) (D5: ∀ x,(enc x).length=ps.size) (L':Nat) (hL:Nat.ble L L'=true) (GP:fr.all (C5 L')=true) (h0:h.set kk none=H s0) (Cg:(fun x=>IC fr ps.toList (enc x))=FR)
 (C7: ∀ (l B:Nat) (N:BR P Γ L') (x:α) (s:σ) (r:σ×Nat),f x s=some r -> Ft P Γ (Fence.wide.inRound l) (some B) L' N (Cb L' ex r.2 (H r.1)) a b ⟨FR x,H s⟩)
 (Dg: ∀ e,(Exit.normal::ex)[rE.2]? =some e -> DZ P Γ F (some B) L Q k2 e ⟨fr,H rE.1⟩ Y):An P Γ F (some B) L Y Q K ⟨fr,h⟩:=by
 unfold NA at hK;split at hK
 ·cases hK;subst Cg;exact Bg.rangeFold IX ex JP enc l H f hf hg hk D5 (zD8 hL) GP h0 C7 Dg
 ·cases hK
theorem Bg.rangeAt0 {P:Program} {Γ:Aq} {F:Fence} (IX:F=Fence.wide∨∃ l,F=Fence.wide.inRound l) {B L:Nat} {Y:BR P Γ L} {Q:QY P Γ L} {fr:List DV} {h:DH} {K:List KI} (g:Operand) (ps:Array Tmp) (a b:Code) (k2:List KI) {kk:Nat} {α σ:Type} (enc:α -> List DV) (l:List α) (H:σ -> DH) (FR:α -> List DV) (f:α -> σ -> Option σ) {s0 sE:σ} (hf:Bn f l s0=some sE)
 (hK:NA K=some (g,ps,a,b,k2)) (hg:AX fr g= .it kk) (hk:h[kk]? =some (some (.iter (l.map enc)))) (D5: ∀ x,(enc x).length=ps.size) (L':Nat) (hL:Nat.ble L L'=true) (GP:fr.all (C5 L')=true) (h0:h.set kk none=H s0) (Cg:(fun x=>IC fr ps.toList (enc x))=FR)
 (C7: ∀ (l B:Nat) (N:BR P Γ L') (x:α) (s r:σ),f x s=some r -> Ft P Γ (Fence.wide.inRound l) (some B) L' N (Cb L' [] 0 (H r)) a b ⟨FR x,H s⟩)
 (Dg:An P Γ F (some B) L Y Q k2 ⟨fr,H sE⟩):An P Γ F (some B) L Y Q K ⟨fr,h⟩:=by
 refine Bg.rangeAt IX [] rfl g ps a b k2 enc l H FR (fun x s=>(f x s).map fun s'=>(s',0)) (rE:=(sE,0)) (by rw [lv,hf];rfl) hK hg hk D5 L' hL GP h0 Cg (fun l' B' N' x s r hr=>?_) (fun e he=>?_)
 ·cases hx:f x s with
  | none=>rw [hx] at hr;cases hr
  | some s'=>
   rw [hx] at hr;cases hr;exact C7 l' B' N' x s s' hx
 ·cases he;exact Dg
def L9 (t:Nat):List Nat -> Code -> List KI -> Option (List KI)
 | ms,.seq a b,k=>match L9 t ms a (.code b::k) with
  | some r=>some r
  | none=>L9 t ms b k
 | ms,.cond _ a b,k=>match L9 t ms a k with
  | some r=>some r
  | none=>L9 t ms b k
 | ms,.block i c,k=>L9 t ms c (.blk i::k)
 | ms,.scope c,k=>L9 t ms c (.scp::k)
 | m::ms,.loop b,k=>L9 t ms b (.loopN m b::k)
 | _,.rangeFunc (.tmp t') ps a b,k=>if t'=t then some (.code (.rangeFunc (.tmp t') ps a b)::k) else none
 | _,_,_=>none
def Fe (c:Code) (t:Nat) (ms:List Nat):List KI:=(L9 t ms c []).getD []
def BL (c:Code) (id:Nat) (ms:List Nat):List KI:=(MA id ms c []).getD []
def CO (c:Code) (id:Nat) (ms:List Nat):List KI:=(MB id ms c []).getD []
end Go.Proofs.YtkjbblkieglmlaaGreatDoor
namespace Go.Proofs.YtkjbblkieglmlaaGreatDoor
open Go.RowKit
abbrev L1 (l:List DV):Nat -> DV:=fun j=>l.getD j .any
abbrev AQ {α:Type} [Inhabited α] (c:α -> List DV) (l:List α):Nat -> Nat -> DV:=fun i j=>(c (l.getD i default)).getD j .any
abbrev MG {α:Type} (c:α -> List DV):α -> Nat -> DV:=fun x j=>(c x).getD j .any
def AJ (c:AB):List DV:=[.int .i64 c.kind,.ints c.cells,.int .i64 c.set,.int .i64 c.other,.int .i64 c.lo,.int .i64 c.hi,.ints c.runs,.int .i64 c.rule,.int .i64 c.spot]
def Be (x:List Int):List DV:=[.ints x]
def QN (x:List Bool):List DV:=[.bools x]
def Aw (x:Int×Int):List DV:=[.int .i64 x.1,.int .i64 x.2]
def AC (q:AA):List DV:=[.int .i64 q.cells,.int .i64 q.symbols,.ints q.values,.sl 1 q.nbrs.length (AQ Be q.nbrs),.sl 9 q.cons.length (AQ AJ q.cons)]
end Go.Proofs.YtkjbblkieglmlaaGreatDoor
namespace Go.Proofs.YtkjbblkieglmlaaGreatDoor
abbrev zEU:=@List.drop_eq_nil_of_le
abbrev zFS:=@List.cons_append
abbrev zFs:=@List.take_append_drop
end Go.Proofs.YtkjbblkieglmlaaGreatDoor
namespace Go.Proofs.YtkjbblkieglmlaaGreatDoor
open Go.RowKit
structure Bb (P:Program) where
 l:Nat
 encs:List (List DV)
 J:Nat -> (Nat -> Prop) -> (Nat -> Prop) -> World -> Prop
 Jx:(Nat -> Prop) -> (Nat -> Prop) -> World -> Prop
 hJ: ∀ i,EL (J i)
 hJx:EL Jx
 hy: ∀ i x args G R W1,encs[i]? =some x -> YV x R W1 args -> J i G R W1 -> EY G R W1 -> YieldAt Fence.wide 0 P l args W1 fun e W'=>
  AP (fun k=>¬ (G k∨R k)) W1 W'/\ ((e= .returned (.bool true)/\ J (i+1) G R W')∨(e= .returned (.bool false)/\ Jx G R W'))
structure IY (Γ:Aq) (N G R:Nat -> Prop) (h:DH) (ρ:List AI) (w:World):Prop where
 sh:EY G R w
 lo: ∀ b,b<Γ.ng -> R b
 own: ∀ b,MO h ρ b -> G b
 n: ∀ b,N b↔(b<w.heap.size/\ ¬ G b/\ ¬ R b)
theorem IY.ng {Γ:Aq} {N G R:Nat -> Prop} {h:DH} {ρ:List AI} {w:World} (y:IY Γ N G R h ρ w) {b:Nat} (hb:N b):Γ.ng<=b:=zEq fun hl=>((y.n b).1 hb).2.2 (y.lo b hl)
def jn (P:Program) (Γ:Aq) (L:Nat) (J:(Nat -> Prop) -> (Nat -> Prop) -> World -> Prop) (hJ:EL J):BR P Γ L where
 I:=fun N h ρ w=>∃ G R,J G R w/\ IY Γ N G R h ρ w
 st:=by
  rintro N h ρ w h' ρ' w' ⟨G,R,h1,y⟩ H H' st _;have hs:=st.upd.size;have Pk: ∀ b,(G b∨(w.heap.size<=b/\ b<w'.heap.size)) -> ¬ R b:=fun b hb hr=>hb.elim (fun h=>y.sh.dis b h hr) fun h=>by have:=y.sh.lt b (.inr hr);omega
  have AN: ∀ b,(G b∨(w.heap.size<=b/\ b<w'.heap.size))∨R b -> b<w'.heap.size:=fun b hb=>by
   rcases hb with (hb | hb) | hb
   ·exact zAY (y.sh.lt b (.inl hb)) hs
   ·exact hb.2
   ·exact zAY (y.sh.lt b (.inr hb)) hs
  refine ⟨fun b=>G b∨(w.heap.size<=b/\ b<w'.heap.size),R,hJ G R _ R w w' h1 (st.upd.mono fun b _ hb=>y.own b hb) (fun k hk=>hk.imp id fun h=>h.1) (fun k hk=>.inl hk) (fun k hk=>hk.imp .inl id) Pk AN,⟨Pk,AN⟩,y.lo,fun b hb=>?_,fun b=>?_⟩
  ·rcases st.grow b hb with h | h
   ·exact .inl (y.own b h)
   ·obtain ⟨k,o,p,q1,q2,q3⟩:=hb;obtain ⟨_,_,c,t,z,e⟩:=H'.cel k o p b q1 q2 q3;exact .inr ⟨h,(zAJ.1 e).1⟩
  ·rw [y.n];constructor
   ·rintro ⟨a1,a3,a4⟩;exact ⟨zAY a1 hs,fun hx=>hx.elim a3 fun hx=>by omega,a4⟩
   ·rintro ⟨a1,a3,a4⟩;have: ¬ (w.heap.size<=b):=fun hx=>a3 (.inr ⟨hx,a1⟩)
    exact ⟨by omega,fun hx=>a3 (.inl hx),a4⟩
section
variable {P:Program} {Γ:Aq}
def Bb.Y (C:Bb P) (Γ:Aq) (L i:Nat):BR P Γ L:=jn P Γ L (C.J i) (C.hJ i)
def Bb.X (C:Bb P) (Γ:Aq) (L:Nat):BR P Γ L:=jn P Γ L C.Jx C.hJx
def Bb.Q (C:Bb P) (Γ:Aq) (L:Nat):QY P Γ L:=fun e _ Y=>(e= .normal∨e= .ret)/\ (Y=C.Y Γ L C.encs.length∨Y=C.X Γ L)
def Mf (P:Program) (Γ:Aq) (ops:Array Oper) (p:Nat) (S:St) (Aa:BF):Option (List DV×Nat×St×St×List Prop):=match DW P Γ ops (ops.toList.take p) S Aa with
 | none=>none
 | some (S1,vs,Ee)=>match ops[p]? with
  | none=>none
  | some o=>match Ip ops S1 o with
   | some true=>match o.op with
    | .call c=>match c.callee with
     | .value f=>match AX S1.fr f with
      | .yl l=>match (c.args.toList.map (AX S1.fr)).all Ep with
       | false=>none
       | true=>match DW P Γ ops (ops.toList.drop (p+1)) ⟨CY S1.fr o.dst (.bool true),S1.h⟩ Ee with
        | none=>none
        | some (ST,vT,Fm)=>match DW P Γ ops (ops.toList.drop (p+1)) ⟨CY S1.fr o.dst (.bool false),S1.h⟩ Fm with
         | none=>none
         | some (SF,vF,_)=>some (c.args.toList.map (AX S1.fr),l,ST,SF,vs++(vT++vF))
      | _=>none
     | _=>none
    | _=>none
   | _=>none
end
section
variable {P:Program} {Γ:Aq} {N:Nat -> Prop} {S:St} {ρ:List AI} {a:Act} {w:World} {F:Fence}
theorem TG (hF:Cv F P) {ops:Array Oper} (Av:CR ops=true) {Q:Exit -> Act -> World -> Prop} {AW:List Oper}: ∀ (l:List Oper) (_: ∀ o∈l,o∈ops) {S:St} {ρ:List AI} {a:Act} {w:World} {Aa:BF} {S':St} {vs:List Prop} {B2:BF},
 AT P Γ N S ρ a w -> DW P Γ ops l S Aa=some (S',vs,B2) -> Ba vs ->
 (∀ ρ' a' w',AT P Γ N S' ρ' a' w' -> Ci S.h ρ w S'.h ρ' w' -> a'.defers=a.defers -> wpListIn F 0 P ops Q AW a' w') -> wpListIn F 0 P ops Q (l++AW) a w
 | [],_,S,ρ,a,w,Aa,S',vs,B2,R,h,_,hQ=>by
  cases h;exact hQ ρ a w R (Ci.refl _ _ _) rfl
 | o::rest,hl,S,ρ,a,w,Aa,S',vs,B2,R,h,hv,hQ=>by
  have hd: ∀ c,o.op≠.defer c:=by
   obtain ⟨j,hj,e⟩:=Array.getElem_of_mem (hl o (by simp));exact Ga Av (j:=j) (by rw [zAq hj,e])
  have Ew: ∀ o∈rest,o∈ops:=fun o ho=>hl o (by simp [ho])
  have CI: ∀ v,(a.put o.dst v).defers=a.defers:=fun v=>by cases ho:o.dst <;> simp [Act.put]
  simp only [DW] at h;rw [zFS];unfold wpListIn;split at h
  ·split at h
   ·cases h
   ·rename_i S1 CL ext1 Ee h1;split at h
    ·cases h
    ·rename_i S2 Dy Fm h2;cases h;obtain ⟨B0,B5⟩:=Cu.1 hv;exact ci hF R hd h1 B0 fun ρ' a' w' R' st Ca _=>TG hF Av rest Ew R' h2 B5 fun ρ'' GS CK EZ C4 IU=>hQ ρ'' GS CK EZ (st.trans C4) (IU.trans Ca)
  ·split at h
   ·cases h
   ·rename_i S1 CL Jf h1;split at h
    ·cases h
    ·rename_i S2 Dy Fm h2;cases h;obtain ⟨B0,B5⟩:=Cu.1 hv;obtain ⟨e1,hs⟩:=Re R h1 B0
     have go: ∀ v,AT P Γ N S1 ρ (a.put o.dst v) w -> wpListIn F 0 P ops Q (rest++AW) (a.put o.dst v) w:=fun v R'=>
      TG hF Av rest Ew R' h2 B5 fun ρ'' GS CK EZ C4 IU=>hQ ρ'' GS CK EZ (by rw [←e1];exact C4) (IU.trans (CI v))
     rcases hs with ⟨hw,v,g1,g2⟩ | ⟨hw,g2⟩
     ·rw [zAB hw];refine ⟨fun f _=>hF.fn f,?_⟩;rw [zEa _ _ _ hd,g1 w (Keep.ofExt (Ao.refl w))];exact go v g2
     ·rw [zAZ (by rw [hw];exact zEu)];exact ⟨fun f _=>hF.fn f,go undef g2⟩
theorem gK {l:Nat} {ρ':Operand -> Value} {o:Oper} {c:Call} {f:Operand} {vs:List Value} (ho:o.op= .call c) (hc:c.callee= .value f) (hf:ρ' f= .func (.yield l) #[] #[]) (hv:c.args.toList.map ρ'=vs):(execOp ρ' o).run P w=(Instr.yield l vs.toArray).run P w:=by
 unfold execOp;rw [ho]
 show ((resolve ρ' c o.type)>>=fun d=>invoke d.target d.args).run P w=_
 unfold resolve;rw [hc];simp only [Deferred.ofValue,hf]
 have e: #[]++Array.map ρ' c.args=vs.toArray:=by
  rw [←hv];apply Array.ext';simp
 have he:((pure { target:=.fn (.yield l) #[],args:=#[]++Array.map ρ' c.args }:Sem Deferred)>>=fun d=>invoke d.target d.args).run P w=(Instr.yield l (#[]++Array.map ρ' c.args)).run P w:=rfl;rw [he,e]
theorem YV.of {M:Nat -> Prop} {ρ:List AI} {g:Operand -> DV} {f:Operand -> Value} {R:Nat -> Prop} (hr: ∀ x,AM M w (g x) ρ (f x)) (hM: ∀ b,b<w.heap.size/\ ¬ R b -> M b): ∀ {l:List Operand},(l.map g).all Ep=true -> YV (l.map g) R w (l.map f).toArray:=fun {l} h=>by
 refine ⟨by simp,fun j hj=>?_⟩;have BT:j<l.length:=by simpa using hj
 have e1:(l.map g).getD j .any=g l[j]:=by simp [u8,BT]
 have e2:(l.map f).toArray.getD j undef=f l[j]:=by simp [zAc,BT]
 rw [e1,e2];have hn:=KD (zAW.1 h (g l[j]) (zEK.2 ⟨_,zDi BT,rfl⟩));exact (hn _ _ _ _ (hr l[j])).out _ (C6 hM [])
theorem IY.part {N G R:Nat -> Prop} {h:DH} {I:(Nat -> Prop) -> (Nat -> Prop) -> World -> Prop} (hI:EL I) (hi:I G R w) (y:IY Γ N G R h ρ w): ∃ R',I (MO h ρ) R' w/\ IY Γ N (MO h ρ) R' h ρ w/\ (∀ b,b<w.heap.size/\ ¬ R' b -> MS N h ρ b)/\ (∀ b,R b -> R' b):=by
 have hd: ∀ b,MO h ρ b -> ¬ (R b∨(G b/\ ¬ MO h ρ b)):=fun b hm hx=>hx.elim (y.sh.dis b (y.own b hm)) fun hx=>hx.2 hm
 have hl: ∀ b,MO h ρ b∨(R b∨(G b/\ ¬ MO h ρ b)) -> b<w.heap.size:=fun b hx=>by
  rcases hx with hx | hx | hx
  ·exact y.sh.lt b (.inl (y.own b hx))
  ·exact y.sh.lt b (.inr hx)
  ·exact y.sh.lt b (.inl hx.1)
 have hu: ∀ b,G b -> MO h ρ b∨(R b∨(G b/\ ¬ MO h ρ b)):=fun b hg=>(Classical.em (MO h ρ b)).imp id fun hm=>.inr ⟨hg,hm⟩
 refine ⟨fun b=>R b∨(G b/\ ¬ MO h ρ b),hI G R _ _ w w hi (AP.refl _ _) (fun k hk=>.inl (y.own k hk)) (fun k hk=>hk.imp id fun h=>.inl h.1) (fun k hk=>hk.elim (hu k) fun h=>.inr (.inl h)) hd hl,⟨⟨hd,hl⟩,fun b h=>.inl (y.lo b h),fun _ h=>h,fun b=>(y.n b).trans ⟨fun ⟨q1,q2,q3⟩=>⟨q1,fun hm=>q2 (y.own b hm),fun hx=>hx.elim q3 fun hx=>q2 hx.1⟩,fun ⟨q1,q2,q3⟩=>⟨q1,fun hg=>(hu b hg).elim q2 q3,fun hr=>q3 (.inl hr)⟩⟩⟩,fun b ⟨q1,q2⟩=>?_,fun b h=>.inl h⟩
 by_cases hg:G b
 ·exact .inr ((hu b hg).resolve_right q2)
 ·exact .inl ((y.n b).2 ⟨q1,hg,fun hr=>q2 (.inl hr)⟩)
theorem IY.later {N R':Nat -> Prop} {h:DH} {W':World} (z:IY Γ N (MO h ρ) R' h ρ w) (H:A1 P Γ N h ρ w) (hu:AP (fun k=>¬ (MO h ρ k∨R' k)) w W'):A1 P Γ (fun bb=>bb<W'.heap.size/\ ¬ MO h ρ bb/\ ¬ R' bb) h ρ W'/\ BU (MS N h ρ) w ρ (MS (fun bb=>bb<W'.heap.size/\ ¬ MO h ρ bb/\ ¬ R' bb) h ρ) W' ρ:=by
 have Br:AP N w W':=hu.mono fun bb AN hn=>(z.n bb).2 ⟨AN,fun hx=>hn (.inl hx),fun hx=>hn (.inr hx)⟩
 have lS: ∀ bb,N bb -> N bb/\ Γ.ng<=bb:=fun bb hb=>⟨hb,z.ng hb⟩
 have TD: ∀ bb,(bb<W'.heap.size/\ ¬ MO h ρ bb/\ ¬ R' bb) -> N bb∨w.heap.size<=bb:=fun bb ⟨q1,q2,q3⟩=>by
  rcases zDj bb w.heap.size with h | h
  ·exact .inl ((z.n bb).2 ⟨h,q2,q3⟩)
  ·exact .inr h
 exact ⟨H.foreign Br lS TD fun bb ⟨q1,_,q3⟩=>⟨q1,zEq fun hl=>q3 (z.lo bb hl)⟩,BU.foreign (Γ:=Γ) Br lS TD⟩
theorem Tr.yield {L:Nat} {C:Bb P} {i:Nat} {Q:QY P Γ L} (hF:Cv Fence.wide P) {id:Nat} {ops:Array Oper} {p:Nat} {Aa:BF} {x:List DV} {ST SF:St} {vs:List Prop} (Av:CR ops=true)
 (h:Mf P Γ ops p S Aa=some (x,C.l,ST,SF,vs)) (hv:Ba vs) (hx:C.encs[i]? =some x) (hT:Q .normal ST (C.Y Γ L (i+1))) (hE:Q .normal SF (C.X Γ L)):Tr P Γ Fence.wide none L (C.Y Γ L i) (.region id ops false) S Q:=fun N ρ a w R y m b=>by
 unfold Mf at h;split at h
 ·cases h
 rename_i S1 CL Ee h1;split at h
 ·cases h
 rename_i o ho;split at h
 ·rename_i hw;split at h
  ·rename_i c Lq;split at h
   ·rename_i f hc;split at h
    ·rename_i l hl;split at h
     ·cases h
     rename_i Se;split at h
     ·cases h
     rename_i ST' vT Fm h2;split at h
     ·cases h
     rename_i SF' vF KC h3;cases h;obtain ⟨B0,EE⟩:=Cu.1 hv;obtain ⟨xO,xQ⟩:=Cu.1 EE;have hp:p<ops.toList.length:=by simpa using (zAJ.1 ho).1
     have xb:ops.toList=ops.toList.take p++o::ops.toList.drop (p+1):=by
      have e:ops.toList[p]=o:=by
       have:=(zAJ.1 ho).2;simpa using this
      rw [←e,←zDx hp,zFs]
     have Dt: ∀ o'∈ops.toList,o'∈ops:=fun o' h=>by simpa using h
     have hd: ∀ c,o.op≠.defer c:=Ga Av ho;refine zE6 ?_;rw [xb];refine TG hF Av _ (fun o' JJ=>Dt o' (List.mem_of_mem_take JJ)) R h1 B0 fun ρ1 a1 w1 R1 DF Ny=>?_
     obtain ⟨G0,R0,y1,y2⟩:=(C.Y Γ L i).st y R.hr R1.hr DF.st (fun k p _ hp=>DF.pl k p hp);obtain ⟨R',z1,z2,z3,_⟩:=IY.part (C.hJ i) y1 y2;obtain ⟨fn,tmps,T3,body,hy,hR⟩:=C.hy i _ _ _ R' w1 hx (YV.of (g:=AX S1.fr) (f:=a1.eval) (fun x=>Bh R1 x) z3 Se) z1 z2.sh;unfold wpListIn;rw [zAB (HZ R1 hw)]
     have bB:a1.eval f= .func (.yield C.l) #[] #[]:=by
      have hr:=Bh R1 f;rw [hl] at hr;exact hr
     refine ⟨fun f _=>hF.fn f,?_⟩;rw [zEa _ _ _ hd,gK Lq hc bB rfl,hy];refine ⟨fun hx=>(by cases hx),hR.mono ?_⟩;have Az:a1.defers= []:=Ny.trans m;rintro e W' ⟨hu,hj⟩;obtain ⟨H',fo⟩:=z2.later R1.hr hu;have Dv:AT P Γ (fun bb=>bb<W'.heap.size/\ ¬ MO S1.h ρ1 bb/\ ¬ R' bb) S1 ρ1 a1 W':=⟨H',R1.fr.out fo⟩;have CI: ∀ v,(a1.put o.dst v).defers=a1.defers:=fun v=>by cases ho:o.dst <;> simp [Act.put]
     have yy:IY Γ (fun bb=>bb<W'.heap.size/\ ¬ MO S1.h ρ1 bb/\ ¬ R' bb) (MO S1.h ρ1) R' S1.h ρ1 W':=⟨z2.sh.upd hu,z2.lo,fun _ h=>h,fun _=>Iff.rfl⟩;rcases hj with ⟨rfl,hj⟩ | ⟨rfl,hj⟩
     ·have R':=GU Dv o.dst (d:=.bool true) (v:=.bool true) rfl;refine JV hF Av _ (fun o' JJ=>Dt o' (List.mem_of_mem_drop JJ)) R' h2 xO fun ρ2 a2 w2 R2 Ir bH=>?_
      refine ⟨ST,ρ2,_,C.Y Γ L (i+1),hT,R2,(C.Y Γ L (i+1)).st ⟨_,_,hj,yy⟩ R'.hr R2.hr Ir.st (fun k p _ hp=>Ir.pl k p hp),?_,Bd.none⟩
      show a2.defers= []
      rw [bH,CI];exact Az
     ·have R':=GU Dv o.dst (d:=.bool false) (v:=.bool false) rfl;refine JV hF Av _ (fun o' JJ=>Dt o' (List.mem_of_mem_drop JJ)) R' h3 xQ fun ρ2 a2 w2 R2 Ir bH=>?_
      refine ⟨SF,ρ2,_,C.X Γ L,hE,R2,(C.X Γ L).st ⟨_,_,hj,yy⟩ R'.hr R2.hr Ir.st (fun k p _ hp=>Ir.pl k p hp),?_,Bd.none⟩
      show a2.defers= []
      rw [bH,CI];exact Az
    ·cases h
   ·cases h
  ·cases h
 ·cases h
end
theorem ME {P:Program} {f:Nat} {fn:Func} (hf:P.funcs[f]? =some fn) (hb:fn.body.isSome=true) (hn:(fn.name== "runtime.NumGoroutine")=false) (args:Array Value) (W:World):(callFunc f args).run P W= .ok (.enter f args) W:=by
 have Pf: ¬ fn.name= "runtime.NumGoroutine" :=by simpa using hn
 have DA: ¬ fn.body=none:=by intro e;rw [e] at hb;cases hb
 simp [callFunc,go_sem,hf,Pf,DA]
theorem mx {P:Program} {Γ:Aq} {f:Nat} {fn:Func} (hf:P.funcs[f]? =some fn) (hb:fn.body.isSome=true) {L:Nat} {Y:BR P Γ L} {Q:QY P Γ L} {ds:List DV} {h:DH} (T:An P Γ Fence.wide none L Y Q [.code (AY fn)] ⟨ds++List.replicate (fn.ntmps-ds.length) .any,h⟩)
 {N:Nat -> Prop} {ρ:List AI} {W:World} {args:Array Value} (H:A1 P Γ N h ρ W) (fr:BC (MS N h ρ) W ρ ds args) (y:Y.I N h ρ W) {R:Ending -> World -> Prop}
 (hQ: ∀ e S' ρ' N' Y' a' W',Q e S' Y' -> AT P Γ N' S' ρ' a' W' -> Y'.I N' S'.h ρ' W' -> match e with
  | .normal | .ret=>∃ v,(results fn a'.tmps).run P W'= .ok v W'/\ R (.returned v) W'
  | .panic c=>R (.panicked c) W'
  | _=>False):CallsIn Fence.wide 0 P f args W R:=by
 cases hc:fn.body with
 | none=>rw [hc] at hb;cases hb
 | some code=>
 have eb:AY fn=code:=by unfold AY;rw [hc];rfl
 rw [eb] at T;refine callsIn_of_wp hf hc trivial (zEh ((show Tr P Γ Fence.wide none L Y code _ (DZ P Γ Fence.wide none L Q []) from T) N ρ _ W ⟨H,?_⟩ y rfl Bd.none) ?_) rfl
 ·rw [←fr.1];exact BC.append fr (BC.anys _ _ _ _)
 ·rintro e a' W' ⟨S',ρ',N',Y',q1,q2,q3,q4,_⟩;cases e with
  | outgrown=>exact q1.elim
  | normal=>obtain ⟨v,h1,h2⟩:=hQ _ S' ρ' N' Y' a' W' q1 q2 q3;exact ⟨q4,v,h1,h2⟩
  | ret=>obtain ⟨v,h1,h2⟩:=hQ _ S' ρ' N' Y' a' W' q1 q2 q3;exact ⟨q4,v,h1,h2⟩
  | exit id=>exact (hQ _ S' ρ' N' Y' a' W' q1 q2 q3).elim
  | goto t=>exact (hQ _ S' ρ' N' Y' a' W' q1 q2 q3).elim
  | panic c=>exact ⟨q4,hQ _ S' ρ' N' Y' a' W' q1 q2 q3⟩
theorem ES.iterN {P:Program} {Γ:Aq} {f gf m:Nat} {fn:Func} {ds:List DV} {c:Nat -> DV} {h0:DH} {encs:List (List DV)} (Ey:ES P Γ f ds [] (.fn gf m c) h0 true) (D7:ds.all Ep=true)
 (hf:P.funcs[gf]? =some fn) (hb:fn.body.isSome=true) (hn:(fn.name== "runtime.NumGoroutine")=false) (WS:fn.results= #[])
 (body: ∀ C:Bb P,C.encs=encs -> An P Γ Fence.wide none h0.length (C.Y Γ h0.length 0) (C.Q Γ h0.length) [.code (AY fn)] ⟨.yl C.l::(List.range m).map c++List.replicate (fn.ntmps-(m+1)) .any,h0⟩) (h:DH):ES P Γ f ds h (.it h.length) (h++[some (.iter encs)]) true:=by
 refine ⟨Ey.1,fun N ρ w args HR Ch=>?_⟩;refine (Ey.2 (MS N h ρ) [] w args (Pc (fun b hb=>HR.lt2 hb) HR.gi) ⟨Ch.1,fun i hi=>?_⟩).mono ?_
 ·have hx:=KD (zAW.1 D7 (ds.getD i .any) (by simp [hi]));exact AM.out _ (C6 (fun b hb=>OZ.1 hb) []) (hx _ _ _ _ (Ch.2 i hi))
 ·rintro e w' ⟨v,rfl,⟨⟨ρ',g1,g2,g3,g4⟩,g5⟩⟩;have hE:=g5 rfl;obtain ⟨lb,hv,hl,Lt⟩:=g2;have Hy: ∀ b,MO h0 ρ' b -> w.heap.size<=b:=fun b hb=>(g3.grow b hb).resolve_left fun ⟨k,o',p',q1,_⟩=>by simp at q1
  have C9: ∀ b,MO h0 ρ' b -> Γ.ng<=b/\ ¬ MS N h ρ b/\ Da w' b:=fun b ⟨k,o,q,q1,q2,q3⟩=>g1.cel k o q b q1 q2 q3
  have Ct:Γ.ng<=w.heap.size:=Γ.lo _ HR.gi;have A3:=hE.size
  have AN: ∀ b,MO h0 ρ' b -> b<w'.heap.size:=fun b hb=>by
   obtain ⟨_,_,c,t,z,h⟩:=C9 b hb;exact (zAJ.1 h).1
  have lo: ∀ b,b<Γ.ng -> b<w'.heap.size/\ ¬ MS (MS N h ρ) h0 ρ' b:=fun b hb=>⟨zAY hb (zAk Ct A3),fun hx=>by
   rcases hx with hx | hx
   ·have:=(HR.lt2 hx).2;omega
   ·have:=(C9 b hx).1;omega⟩
  let p:AI:=⟨0,0,0,v,fun b=>MO h0 ρ' b⟩
  have hp: ∀ b,p.foot b -> w.heap.size<=b/\ Da w' b:=fun b hb=>⟨Hy b hb,(C9 b hb).2.2⟩
  refine ⟨v,rfl,⟨⟨ρ++[p],HR.snoc hE hp ?_,⟨p,by rw [←HR.len];simp,rfl⟩,A6.snoc HR hE fun b hb=>(hp b hb).1,fun _ _ h=>EV h⟩,g5⟩⟩;refine ⟨gf,lb,fun b=>b<w'.heap.size/\ ¬ MS (MS N h ρ) h0 ρ' b,⟨hv,fun args W=>ME hf hb hn args W⟩,?_,fun b hb=>⟨fun hm=>?_,hb.1⟩,AN⟩
  ·intro l J Jx W hJ hJx hU hY bW _
   let C:Bb P:=⟨l,encs,J,Jx,hJ,hJx,hY⟩
   have TC: ∀ b,(b<W.heap.size/\ ¬ MO h0 ρ' b/\ ¬ (b<w'.heap.size/\ ¬ MS (MS N h ρ) h0 ρ' b)) -> MS N h ρ b∨w'.heap.size<=b:=fun b ⟨_,q3,q4⟩=>by
    rcases zDj b w'.heap.size with hx | hx
    ·by_cases hm:MS (MS N h ρ) h0 ρ' b
     ·rcases hm with hm | hm
      ·exact .inl hm
      ·exact absurd hm q3
     ·exact absurd ⟨hx,hm⟩ q4
    ·exact .inr hx
   have hu:AP (fun b=>MS N h ρ b) w' W:=hU.mono fun b AN hx=>by
    by_cases hm:MS (MS N h ρ) h0 ρ' b
    ·rcases hm with hm | hm
     ·exact hm
     ·exact absurd (.inl hm) hx
    ·exact absurd (.inr ⟨AN,hm⟩) hx
   have lP: ∀ b,MS N h ρ b -> MS N h ρ b/\ Γ.ng<=b:=fun b hb=>⟨hb,(HR.lt2 hb).2⟩
   have HW:A1 P Γ (fun b=>b<W.heap.size/\ ¬ MO h0 ρ' b/\ ¬ (b<w'.heap.size/\ ¬ MS (MS N h ρ) h0 ρ' b)) h0 ρ' W:=g1.foreign hu lP TC fun b hb=>⟨hb.1,zEq fun hl=>hb.2.2 (lo b hl)⟩
   have bf:BC (MS (MS N h ρ) h0 ρ') w' ρ' ((List.range m).map c) lb:=⟨by simp [hl],fun j hj=>by
    have BT:j<m:=by simpa using hj
    obtain ⟨u,q1,q2⟩:=Lt j BT;have e1:((List.range m).map c).getD j .any=c j:=by simp [BT]
    have e2:lb.getD j undef=u:=by rw [zAc,q1];rfl
    rw [e1,e2];exact q2⟩
   have bg:=bf.out (BU.foreign (Γ:=Γ) hu lP TC);have T:=body C rfl;have e3:fn.ntmps-(m+1)=fn.ntmps-(.yl C.l::(List.range m).map c).length:=by simp
   rw [e3] at T
   refine mx hf hb T HW (BC.append (l:=[.yl C.l]) (t:=#[.func (.yield l) #[] #[]]) ⟨rfl,fun j hj=>by
    have:j=0:=Nat.lt_one_iff.1 hj;subst this;rfl⟩ bg) ⟨_,_,bW,⟨⟨fun b hb hr=>hr.2 (.inr hb),fun b hb=>zAY (hb.elim (AN b) fun h=>h.1) hU.size⟩,lo,fun _ h=>h,fun _=>Iff.rfl⟩⟩ ?_
   rintro e S' ρ2 N' Y' a' W' q1 q2 q3
   have fin: ∃ v,(results fn a'.tmps).run P W'= .ok v W'/\ ∃ G R,EY G R W'/\ ((C.J encs.length G R W'/\ QV (.returned v) G R W')∨((∃ u,Ending.returned v= .returned u)/\ C.Jx G R W')):=by
    obtain ⟨_,(rfl | rfl)⟩:=q1 <;> obtain ⟨G',R',k1,k2⟩:=q3
    ·exact ⟨_,results_none WS _ _ _,G',R',k2.sh,.inl ⟨k1,_,rfl⟩⟩
    ·exact ⟨_,results_none WS _ _ _,G',R',k2.sh,.inr ⟨⟨_,rfl⟩,k1⟩⟩
   cases e with
   | normal=>exact fin
   | ret=>exact fin
   | exit id=>exact absurd q1.1 (by simp)
   | goto t=>exact absurd q1.1 (by simp)
   | panic ch=>exact absurd q1.1 (by simp)
   | outgrown=>exact absurd q1.1 (by simp)
  ·rcases hm with hm | hm
   ·exact hb.2 (.inl (.inl hm))
   ·rcases MO.snoc HR hm with hm | hm
    ·exact hb.2 (.inl (.inr hm))
    ·exact hb.2 (.inr hm)
section
variable {P:Program} {Γ:Aq}
def J6:List KI -> Option (Array Oper×List KI)
 | .code (.region _ ops false)::k=>some (ops,k)
 | _=>none
def ZU (live σ:List Nat) (L:Nat) (r:List DV×Nat×St×St×List Prop):List DV×Nat×List DV×DH×List DV×DH×List Prop×Bool:=
 (r.1,r.2.1,(Proofs.YtkjbblkieglmlaaGreatDoor.comp live σ r.2.2.1).fr,(Proofs.YtkjbblkieglmlaaGreatDoor.comp live σ r.2.2.1).h,(Proofs.YtkjbblkieglmlaaGreatDoor.comp live σ r.2.2.2.1).fr,(Proofs.YtkjbblkieglmlaaGreatDoor.comp live σ r.2.2.2.1).h,r.2.2.2.2,Is σ L r.2.2.1.h.length&&Is σ L r.2.2.2.1.h.length)
theorem An.yieldAt {L:Nat} {C:Bb P} {i:Nat} {Q:QY P Γ L} {S:St} {K k:List KI} {ops:Array Oper} (hF:Cv Fence.wide P) (hK:J6 K=some (ops,k)) (Av:CR ops=true) (p:Nat) (Aa:BF) {x:List DV} (live σ:List Nat) (Px:List DV) (hT:DH) (Py:List DV) (hE:DH) (vs:List Prop)
 (h:(Mf P Γ ops p S Aa).map (ZU live σ L)=some (x,C.l,Px,hT,Py,hE,vs,true)) (hv:Ba vs) (hx:C.encs[i]? =some x) (hc:Hn k=true) (a7:An P Γ Fence.wide none L (C.Y Γ L (i+1)) Q k ⟨Px,hT⟩) (a8:An P Γ Fence.wide none L (C.X Γ L) Q k ⟨Py,hE⟩):An P Γ Fence.wide none L (C.Y Γ L i) Q K S:=by
 unfold J6 at hK;split at hK
 ·rename_i id NL k';cases hK;cases hr:Mf P Γ ops p S Aa with
  | none=>rw [hr] at h;cases h
  | some r=>
   obtain ⟨xs,l,ST,SF,CL⟩:=r;rw [hr] at h;simp only [zBV,ZU,zC5,zD1,zAL] at h;obtain ⟨rfl,rfl,rfl,rfl,rfl,rfl,rfl,s1,s2⟩:=h;exact Tr.yield hF Av hr hv hx (Bg.le (Ay.comp live σ ST s1) hc a7) (Bg.le (Ay.comp live σ SF s2) hc a8)
 ·cases hK
theorem KH {α β:Type} {o:Option α} {f:α -> β} {r:β} (h:o.map f=some r): ∃ a,o=some a/\ r=f a:=by
 cases o with
 | none=>cases h
 | some a=>cases h;exact ⟨a,rfl,rfl⟩
theorem Ta {α β:Type} {l:List β} {i:Nat} {f:α -> β} {x:α} {r:List α} (hd:l.drop i=(x::r).map f):l[i]? =some (f x)/\ i+1<=l.length/\ l.drop (i+1)=r.map f:=by
 have AN:i<l.length:=by
  rcases zDj i l.length with h | h
  ·exact h
  ·rw [zEU h] at hd;cases hd
 rw [zDx AN] at hd;injection hd with h1 h2
 exact ⟨by rw [zAQ AN,h1],AN,h2⟩
theorem OF {α β:Type} {l:List β} {i:Nat} {f:α -> β} (hi:i<=l.length) (hd:l.drop i=([]:List α).map f):i=l.length:=by
 have:=congrArg List.length hd;simp at this;omega
end
def BQ (x:Int):List DV:=[.int .i64 x]
def OD (x:Int×Int):List DV:=[.int .i64 x.1,.int .i64 x.2]
end Go.Proofs.YtkjbblkieglmlaaGreatDoor
namespace Go.Proofs.YtkjbblkieglmlaaGreatDoor
open Go.RowKit
section
variable {P:Program} {Γ:Aq}
end
end Go.Proofs.YtkjbblkieglmlaaGreatDoor
namespace Go.Proofs.YtkjbblkieglmlaaGreatDoor
open Go.RowKit
structure HX (F:Fence) (P:Program):Prop where
 f:Cv F P
 m:P.follows .mixedOrders=true
structure HS (c:List (DV×DH×Bool)) (o:List (Nat×DV)) (z:List (Nat×Fz)) (v:List Prop):Prop where
 all:Ba v
section
variable {P:Program} {Γ:Aq} {cs:List (DV×DH×Bool)} {os:List (Nat×DV)} {zs:List (Nat×Fz)} {vs:List Prop}
theorem H0:HS [] [] [] []:=⟨trivial⟩
theorem HS.add (q:HS cs os zs vs) {c':List (DV×DH×Bool)} {o':List (Nat×DV)} {z':List (Nat×Fz)} {p:Prop} (h:p):HS c' o' z' (vs++[p]):=⟨Cu.2 ⟨q.all,h,trivial⟩⟩
theorem HS.o (q:HS cs os zs vs) (t:Nat) {d d':DV} (x:AS d d'):HS cs (os++[(t,d')]) zs (vs++[AS d d']):=q.add x
theorem HS.b (q:HS cs os zs vs) (t:Nat) {a b:Bool} (x:a=b):HS cs (os++[(t,.bool b)]) zs (vs++[AS (.bool a) (.bool b)]):=q.add (AS.bool x)
theorem HS.w (q:HS cs os zs vs) (t:Nat) {x:Int} (h:AL x):HS cs (os++[(t,.int .i64 x)]) zs (vs++[AS (.int .i64 (IntKind.i64.wrap x)) (.int .i64 x)]):=q.add (nu h)
theorem HS.g (q:HS cs os zs vs) {p:Prop} (x:p):HS cs os zs (vs++[p]):=q.add x
theorem HS.t (q:HS cs os zs vs):HS cs os zs (vs++[True]):=q.add trivial
theorem HS.c (q:HS cs os zs vs) {f:Nat} {ds:List DV} {h:DH} {d:DV} {h':DH} {e:Bool} (x:ES P Γ f ds h d h' e):HS (cs++[(d,h',e)]) os zs (vs++[ES P Γ f ds h d h' e]):=q.add x
theorem HS.q (q:HS cs os zs vs) {f:Nat} {ds:List DV} {h:DH} {d:DV} {h':DH} {k:Nat} (x:Oc P Γ f ds h d h' k):HS (cs++[(d,h',false)]) os zs (vs++[Oc P Γ f ds h d h' k]):=q.add x
theorem HS.a (q:HS cs os zs vs) (t k m:Nat) {n n':Nat} {f f':Nat -> Nat -> DV} (x:n=n'/\ ∀ i j,i<n -> j<m -> AS (f i j) (f' i j)):HS cs os (zs++[(t,.arr k n' f')]) (vs++[n=n'/\ ∀ i j,i<n -> j<m -> AS (f i j) (f' i j)]):=q.add x
theorem HS.z (q:HS cs os zs vs) (t k:Nat):HS cs os (zs++[(t,.frz k)]) vs:=⟨q.all⟩
theorem HS.k (q:HS cs os zs vs) (t:Nat):HS cs os (zs++[(t,.rws)]) vs:=⟨q.all⟩
end
theorem ES.emC {P:Program} {Γ:Aq} {f:Nat} {ds:List DV} {h:DH} {d:DV} {h':DH} {ext:Bool} (Ey:ES P Γ f ds h d h' ext) (σ:List Nat) (H:DH) (hb:MH σ H.length h.length h'.length=true) (hh:(σ.map fun k=>H.getD k none)=h.map (Ed σ H.length)):ES P Γ f (ds.map (up σ H.length)) H (up σ H.length d) (Ez H σ h') ext:=
 Ey.embedB σ H hb hh rfl
theorem I6 {α:Type} [Inhabited α] (c:α -> List DV) (L:List α) (n m:Nat) (h: ∀ x,(c x).all IN=true/\ m=(c x).length): ∀ i j,i<n -> j<m -> IN (AQ c L i j)=true:=fun i j _ hj=>uT (h _).1 (h _).2 j hj
def frzL:List Nat -> St -> Option (St×List Prop)
 | [],S=>some (S,[])
 | k::ks,S=>match TN k S with
  | some (S',vs)=>match frzL ks S' with
   | some (CJ,Bm)=>some (CJ,vs++Bm)
   | none=>none
  | none=>none
theorem Ay.frzL {L:Nat}: ∀ (ks:List Nat) {S S':St} {vs:List Prop},Proofs.YtkjbblkieglmlaaGreatDoor.frzL ks S=some (S',vs) -> Ba vs -> Ay L S S'
 | [],S,S',vs,h,_=>by cases h;exact Ay.refl L S
 | k::ks,S,S',vs,h,hv=>by
  simp only [Proofs.YtkjbblkieglmlaaGreatDoor.frzL] at h;split at h
  ·rename_i S1 CL h1;split at h
   ·rename_i S2 Dy h2;cases h;obtain ⟨B0,B5⟩:=Cu.1 hv;exact (Ay.frzE k S1 CL h1 B0).trans (Ay.frzL ks h2 B5)
   ·cases h
  ·cases h
abbrev Xs:=List Prop×List Prop×List (DV×DH×Bool)×List (Nat×DV)×Bool
def O5 (σ:List Nat) (L:Nat) (w:List Prop) (r:KO×St×List Prop×BF):Xs:=(r.2.2.1,w,r.2.2.2.calls,r.2.2.2.co,Is σ L r.2.1.h.length)
def LY (live σ:List Nat) (L:Nat) (ks:List Nat) (r:KO×St×List Prop×BF):Option (KO×List DV×DH×Xs):=match frzL ks (comp live σ r.2.1) with
 | some (S,w)=>some (r.1,S.fr,S.h,O5 σ L w r)
 | none=>none
def jY:KO -> Option Exit
 | .ret=>some .ret
 | .at []=>some .normal
 | .at (.code (.exit i)::k)=>if (IJ i k).isNone then some (.exit i) else none
 | _=>none
def I4 (P:Program) (live σ:List Nat) (L:Nat) (ks:List Nat) (fn:Func) (d:DV) (l2:Nat) (r:KO×St×List Prop×BF):Option (Bool×List DV×DH×Xs):=match frzL ks (comp live σ r.2.1) with
 | some (S,w)=>match LU P S fn.results.toList with
  | some rs=>some ((match r.1 with | .ret=>true | .at []=>true | _=>false)&&(decide (S.h.length<=l2)||(S.h.all Vp&&Ep d&&decide (L<=S.h.length))),rs,(if S.h.length<=l2 then S.h else (E1 (List.range L) S).h),O5 σ L w r)
  | none=>none
 | none=>none
def ZV (σ:List Nat) (L:Nat) (r:KO×St×List Prop×BF):Option Exit×DH×Xs:=(jY r.1,(comp [] σ r.2.1).h,O5 σ L [] r)
section
variable {P:Program} {Γ:Aq} {F:Fence} {B:Option Nat} {L:Nat} {Y N:BR P Γ L} {Q:QY P Γ L} {k k':List KI} {S:St} {fr:List DV} {h' h2:DH} {c:List (DV×DH×Bool)} {o:List (Nat×DV)} {z:List (Nat×Fz)} {v w:List Prop}
theorem uP {live σ ks:List Nat} {r:KO×St×List Prop×BF} {r1:KO} (h:LY live σ L ks r=some (r1,fr,h',v,w,[],[],true)) (hw:Ba w):r.1=r1/\ r.2.2.1=v/\ Ay L r.2.1 ⟨fr,h'⟩:=by
 unfold LY at h;split at h
 ·rename_i S1 w1 hf;simp only [O5,zC5,zD1] at h;obtain ⟨rfl,rfl,rfl,rfl,rfl,_,_,hs⟩:=h;exact ⟨rfl,rfl,(Ay.comp live σ r.2.1 hs).trans (Ay.frzL ks hf hw)⟩
 ·cases h
theorem Bg.gS (hX:HX F P) (A9:Bi) (n:Nat) (live σ:List Nat) (tg:List (List (Nat×Nat)×St)) (hl:HS c o z v) (ks:List Nat) (hz:HS [] [] [] w) (k':List KI) (fr:List DV) (h':DH)
 (h:(B9 P Γ A9 n k S ⟨c,o,z,tg⟩).bind (LY live σ L ks)=some (.at k',fr,h',v,w,[],[],true)) (hc:Hn k'=true) (hk:An P Γ F B L Y Q k' ⟨fr,h'⟩):An P Γ F B L Y Q k S:=by
 cases hr:B9 P Γ A9 n k S ⟨c,o,z,tg⟩ with
 | none=>rw [hr] at h;cases h
 | some r=>
  obtain ⟨r1,S1,v1,o1⟩:=r;rw [hr] at h;obtain ⟨e1,e2,hs⟩:=uP (r:=(r1,S1,v1,o1)) h hz.all;have e1:r1= .at k':=e1;have e2:v1=v:=e2;subst e1 e2;exact FG hX.f hX.m n k S _ _ _ _ _ hr hl.all (Bg.le hs hc hk)
theorem Bg.el (hX:HX F P) {fn:Func} {d:DV} (A9:Bi) (n:Nat) (live σ:List Nat) (tg:List (List (Nat×Nat)×St)) (hl:HS c o z v) (ks:List Nat) (hz:HS [] [] [] w) (rs:List DV) (le:AS (Gz rs) d)
 (h:(B9 P Γ A9 n k S ⟨c,o,z,tg⟩).bind (I4 P live σ L ks fn d h2.length)=some (true,rs,h2,v,w,[],[],true)):Bg P Γ F B L N (DC P fn L d h2) k S:=by
 cases hr:B9 P Γ A9 n k S ⟨c,o,z,tg⟩ with
 | none=>rw [hr] at h;cases h
 | some r=>
  obtain ⟨r1,S1,v1,o1⟩:=r;rw [hr] at h;have h:I4 P live σ L ks fn d h2.length (r1,S1,v1,o1)=some (true,rs,h2,v,w,[],[],true):=h;unfold I4 at h;split at h
  ·rename_i S2 w1 hf;split at h
   ·rename_i Yv Ln;simp only [O5,zC5,zD1,zAL] at h;obtain ⟨⟨xm,hq⟩,rfl,hh,rfl,rfl,_,_,hs⟩:=h;have hS:Ay L S1 S2:=(Ay.comp live σ S1 hs).trans (Ay.frzL ks hf hz.all)
    have fin: ∀ e,(e= .normal∨e= .ret) -> DC P fn L d h2 e S1:=fun e he=>by
     refine DC.le hS ⟨he,S2,Ay.refl _ _,Yv,Ln,?_⟩
     by_cases Ap:S2.h.length<=h2.length
     ·rw [zAB Ap] at hh;exact .inl ⟨le,hh⟩
     ·rw [zAZ Ap] at hh;simp only [Ap,decide_false,zEV,zAL,zBg] at hq;exact .inr ⟨NR hq.1.1,le,KD hq.1.2,hq.2,hh⟩
    refine FG hX.f hX.m n k S _ _ _ _ _ hr hl.all ?_;rcases r1 with (_ | ⟨_,_⟩) | _
    ·exact ⟨rfl,fin _ (.inl rfl)⟩
    ·cases xm
    ·exact ⟨rfl,fin _ (.inr rfl)⟩
   ·cases h
  ·cases h
theorem Bg.e (hX:HX F P) {fn:Func} {d:DV} (A9:Bi) (n:Nat) (live σ:List Nat) (tg:List (List (Nat×Nat)×St)) (hl:HS c o z v) (ks:List Nat) (hz:HS [] [] [] w)
 (h:(B9 P Γ A9 n k S ⟨c,o,z,tg⟩).bind (fun r=>(I4 P live σ L ks fn d h2.length r).map fun q=>(q.1,Gz q.2.1,q.2.2))=some (true,d,h2,v,w,[],[],true)):Bg P Γ F B L N (DC P fn L d h2) k S:=by
 cases hr:B9 P Γ A9 n k S ⟨c,o,z,tg⟩ with
 | none=>rw [hr] at h;cases h
 | some r=>
  rw [hr] at h;have h:(I4 P live σ L ks fn d h2.length r).map (fun q=>(q.1,Gz q.2.1,q.2.2))=some (true,d,h2,v,w,[],[],true):=h;cases hq:I4 P live σ L ks fn d h2.length r with
  | none=>rw [hq] at h;cases h
  | some q=>
   obtain ⟨q1,rs,q3⟩:=q;rw [hq] at h;simp only [zBV,zC5,zD1] at h;obtain ⟨rfl,hd,rfl⟩:=h;exact Bg.el hX A9 n live σ tg hl ks hz rs (AS.of_eq hd) (by rw [hr];exact hq)
def Vc (P:Program) (L:Nat) (ks:List Nat) (fn:Func) (d:DV) (l2:Nat) (S:St):Option (Bool×List DV×DH×List Prop):=match frzL ks S with
 | some (S,w)=>match LU P S fn.results.toList with
  | some rs=>some (decide (S.h.length<=l2)||(S.h.all Vp&&Ep d&&decide (L<=S.h.length)),rs,(if S.h.length<=l2 then S.h else (E1 (List.range L) S).h),w)
  | none=>none
 | none=>none
theorem DC.el {fn:Func} {d:DV} {e:Exit} (he:e= .normal∨e= .ret) (ks:List Nat) (hz:HS [] [] [] w) (rs:List DV) (le:AS (Gz rs) d) (h:Vc P L ks fn d h2.length S=some (true,rs,h2,w)):DC P fn L d h2 e S:=by
 unfold Vc at h;split at h
 ·rename_i S2 w1 hf;split at h
  ·rename_i Yv Ln;simp only [zC5,zD1] at h;obtain ⟨hq,rfl,hh,rfl⟩:=h;refine DC.le (Ay.frzL ks hf hz.all) ⟨he,S2,Ay.refl _ _,Yv,Ln,?_⟩
   by_cases Ap:S2.h.length<=h2.length
   ·rw [zAB Ap] at hh;exact .inl ⟨le,hh⟩
   ·rw [zAZ Ap] at hh;simp only [Ap,decide_false,zEV,zAL,zBg] at hq;exact .inr ⟨NR hq.1.1,le,KD hq.1.2,hq.2,hh⟩
  ·cases h
 ·cases h
theorem DC.e {fn:Func} {d:DV} {e:Exit} (he:e= .normal∨e= .ret) (ks:List Nat) (hz:HS [] [] [] w) (h:(Vc P L ks fn d h2.length S).map (fun q=>(q.1,Gz q.2.1,q.2.2))=some (true,d,h2,w)):DC P fn L d h2 e S:=by
 cases hq:Vc P L ks fn d h2.length S with
 | none=>rw [hq] at h;cases h
 | some q=>
  obtain ⟨q1,rs,q3⟩:=q;rw [hq] at h;simp only [zBV,zC5,zD1] at h;obtain ⟨rfl,hd,rfl⟩:=h;exact DC.el he ks hz rs (AS.of_eq hd) hq
theorem Bg.r (hX:HX F P) {ex:List Exit} {i:Nat} {e:Exit} (A9:Bi) (n:Nat) (σ:List Nat) (tg:List (List (Nat×Nat)×St)) (hl:HS c o z v) (he:(Exit.normal::ex)[i]? =some e)
 (h:(B9 P Γ A9 n k S ⟨c,o,z,tg⟩).map (ZV σ L)=some (some e,h2,v,[],[],[],true)):Bg P Γ F B L N (Cb L ex i h2) k S:=by
 cases hr:B9 P Γ A9 n k S ⟨c,o,z,tg⟩ with
 | none=>rw [hr] at h;cases h
 | some r=>
  obtain ⟨r1,S1,v1,o1⟩:=r;rw [hr] at h;simp only [zBV,ZV,O5,zC5,zD1] at h;obtain ⟨hk,hh,rfl,_,_,_,hs⟩:=h;have fin:stay N (Cb L ex i h2) e S1 N:=⟨rfl,he,_,Ay.comp [] σ S1 hs,hh⟩;refine FG hX.f hX.m n k S _ _ _ _ _ hr hl.all ?_;unfold jY at hk;split at hk
  ·cases hk;exact fin
  ·cases hk;exact fin
  ·rename_i i' k';split at hk
   ·rename_i hp;cases hk;exact Tr.exit (P5 fin k' (Option.isNone_iff_eq_none.1 hp))
   ·cases hk
  ·cases hk
theorem Ft.g (hX:HX F P) {Q:Exit -> St -> Prop} {assign body:Code} (A9:Bi) (n:Nat) (live σ:List Nat) (hl:HS c o z v) (fr:List DV) (h':DH)
 (h:(B9 P Γ A9 n [.code assign] S ⟨c,o,z,[]⟩).map (Rq live σ L)=some (.at [],fr,h',v,[],[],true)) (hk: ∀ N2:BR P Γ L,Bg P Γ F B L N2 Q [.code body] ⟨fr,h'⟩):Ft P Γ F B L N Q assign body S:=
 Ft.go hX.f hX.m A9 n _ live σ fr h' v h hl.all hk
end
section
variable {P:Program} {Γ:Aq} {L:Nat} {k:List KI} {S:St} {c:List (DV×DH×Bool)} {o:List (Nat×DV)} {z:List (Nat×Fz)} {v:List Prop}
theorem TrI.e {C:Bb P} {Y:BR P Γ L} (hX:HX Fence.wide P) (A9:Bi) (n:Nat) (hl:HS c o z v)
 (h:(B9 P Γ A9 n k S ⟨c,o,z,[]⟩).map (fun r=>((match r.1 with | .ret=>true | .at []=>true | _=>false),r.2.2.1))=some (true,v)) (hY:Y=C.Y Γ L C.encs.length∨Y=C.X Γ L):An P Γ Fence.wide none L Y (C.Q Γ L) k S:=by
 cases hr:B9 P Γ A9 n k S ⟨c,o,z,[]⟩ with
 | none=>rw [hr] at h;cases h
 | some r=>
  obtain ⟨r1,S1,CL,o1⟩:=r;rw [hr] at h;simp only [zBV,zC5,zD1] at h;obtain ⟨h1,rfl⟩:=h;refine FG hX.f hX.m n k S _ _ _ _ _ hr hl.all ?_;rcases r1 with (_ | ⟨_,_⟩) | _
  ·exact ⟨.inl rfl,hY⟩
  ·cases h1
  ·exact ⟨.inr rfl,hY⟩
theorem An.y {C:Bb P} {i:Nat} {Q:QY P Γ L} {K:List KI} {ops:Array Oper} (hX:HX Fence.wide P) (p:Nat) (live σ:List Nat) (hl:HS c o z v) {x:List DV} (Px:List DV) (hT:DH) (Py:List DV) (hE:DH)
 (hK:J6 K=some (ops,DE K)) (Av:CR ops=true) (h:(Mf P Γ ops p S ⟨c,o,z,[]⟩).map (ZU live σ L)=some (x,C.l,Px,hT,Py,hE,v,true)) (hx:C.encs[i]? =some x) (hc:Hn (DE K)=true) (a7:An P Γ Fence.wide none L (C.Y Γ L (i+1)) Q (DE K) ⟨Px,hT⟩) (a8:An P Γ Fence.wide none L (C.X Γ L) Q (DE K) ⟨Py,hE⟩):An P Γ Fence.wide none L (C.Y Γ L i) Q K S:=
 An.yieldAt hX.f hK Av p _ live σ Px hT Py hE v h hl.all hx hc a7 a8
theorem An.yE {C:Bb P} {i:Nat} {K:List KI} {ops:Array Oper} (hX:HX Fence.wide P) (p:Nat) (hl:HS c o z v) {x:List DV} (hK:J6 K=some (ops,[])) (Av:CR ops=true)
 (h:(Mf P Γ ops p S ⟨c,o,z,[]⟩).map (fun r=>(r.1,r.2.1,r.2.2.2.2))=some (x,C.l,v)) (hx:C.encs[i]? =some x) (hd:i+1=C.encs.length):An P Γ Fence.wide none L (C.Y Γ L i) (C.Q Γ L) K S:=by
 unfold J6 at hK;split at hK
 ·cases hK;cases hr:Mf P Γ ops p S ⟨c,o,z,[]⟩ with
  | none=>rw [hr] at h;cases h
  | some r=>
   obtain ⟨xs,l,ST,SF,CL⟩:=r;rw [hr] at h;simp only [zBV,zC5,zD1] at h;obtain ⟨rfl,rfl,rfl⟩:=h;exact Tr.yield hX.f Av hr hl.all hx ⟨.inl rfl,.inl (by rw [hd])⟩ ⟨.inl rfl,.inr rfl⟩
 ·cases hK
end
section
variable {P:Program} {Γ:Aq} {F:Fence} {B L:Nat} {Y:BR P Γ L} {Q:QY P Γ L} {fr:List DV} {h:DH} {K:List KI} {a b:Code} {α σ:Type} {l:List α} {H:σ -> DH} {FR:α -> List DV}
theorem Bg.rg (IX:F=Fence.wide∨∃ l,F=Fence.wide.inRound l) (ex:List Exit) (JP:(ex.all fun e=>(Km e).isSome)=true) (kk t:Nat) (ps:Array Tmp) (enc:α -> List DV) (L':Nat) {f:α -> σ -> Option (σ×Nat)} {s0:σ} {rE:σ×Nat} (hf:DB f l s0=some rE)
 (C7: ∀ (l B:Nat) (N:BR P Γ L') (x:α) (s:σ) (r:σ×Nat),f x s=some r -> Ft P Γ (Fence.wide.inRound l) (some B) L' N (Cb L' ex r.2 (H r.1)) a b ⟨FR x,H s⟩)
 (hK:NA K=some (.tmp t,ps,a,b,DE K)) (hg:AX fr (.tmp t)= .it kk) (hk:h[kk]? =some (some (.iter (l.map enc)))) (D5: ∀ x,(enc x).length=ps.size) (hL:Nat.ble L L'=true) (GP:fr.all (C5 L')=true) (h0:h.set kk none=H s0) (Cg:(fun x=>IC fr ps.toList (enc x))=FR)
 (Dg: ∀ e,(Exit.normal::ex)[rE.2]? =some e -> DZ P Γ F (some B) L Q (DE K) e ⟨fr,H rE.1⟩ Y):An P Γ F (some B) L Y Q K ⟨fr,h⟩:=
 Bg.rangeAt IX ex JP (.tmp t) ps a b (DE K) enc l H FR f hf hK hg hk D5 L' hL GP h0 Cg C7 Dg
theorem Bg.rg0 (IX:F=Fence.wide∨∃ l,F=Fence.wide.inRound l) (kk t:Nat) (ps:Array Tmp) (enc:α -> List DV) (L':Nat) {f:α -> σ -> Option σ} {s0 sE:σ} (hf:Bn f l s0=some sE)
 (C7: ∀ (l B:Nat) (N:BR P Γ L') (x:α) (s r:σ),f x s=some r -> Ft P Γ (Fence.wide.inRound l) (some B) L' N (Cb L' [] 0 (H r)) a b ⟨FR x,H s⟩)
 (hK:NA K=some (.tmp t,ps,a,b,DE K)) (hg:AX fr (.tmp t)= .it kk) (hk:h[kk]? =some (some (.iter (l.map enc)))) (D5: ∀ x,(enc x).length=ps.size) (hL:Nat.ble L L'=true) (GP:fr.all (C5 L')=true) (h0:h.set kk none=H s0) (Cg:(fun x=>IC fr ps.toList (enc x))=FR)
 (Dg:An P Γ F (some B) L Y Q (DE K) ⟨fr,H sE⟩):An P Γ F (some B) L Y Q K ⟨fr,h⟩:=
 Bg.rangeAt0 IX (.tmp t) ps a b (DE K) enc l H FR f hf hK hg hk D5 L' hL GP h0 Cg C7 Dg
end
end Go.Proofs.YtkjbblkieglmlaaGreatDoor
namespace Go.Proofs.YtkjbblkieglmlaaGreatDoor
abbrev zAT:=@decide_eq_true
abbrev zDt:=@List.mem_cons_of_mem
abbrev zFt:=@List.mem_of_mem_erase
end Go.Proofs.YtkjbblkieglmlaaGreatDoor
namespace Go.Proofs.YtkjbblkieglmlaaGreatDoor
open Go.RowKit
abbrev LK:=Nat×Array MapEntry×Nat
theorem vQ {i:Nat}:Vv none i:=fun _ h=>by cases h
theorem vP {i j:Nat} {g:LK} (h:i≠j):Vv (some (i,g)) j:=fun y e=>by cases e;exact h
def Hh {R:Type} [DecidableEq R] (rem:KS) (a:Option R) (f:List Int -> Option R):Option R:=match rem with
 | []=>a
 | x::r=>match f x with
  | none=>none
  | some v=>if r.all (fun y=>decide (f y=some v)) then some v else none
theorem Vi {R:Type} [DecidableEq R] {rem:KS} {a:Option R} {f:List Int -> Option R} {r:R} (h:Hh rem a f=some r):(rem= [] -> a=some r)/\ ∀ y∈rem,f y=some r:=by
 cases rem with
 | nil=>exact ⟨fun _=>h,fun y hy=>absurd hy zEr⟩
 | cons x l=>
  refine ⟨fun e=>absurd e (List.cons_ne_nil x l),?_⟩;unfold Hh at h;simp only at h;cases hx:f x with
  | none=>rw [hx] at h;cases h
  | some v=>
   rw [hx] at h;simp only at h;split at h
   ·rename_i hc;cases h;intro y hy;rcases zDu.1 hy with rfl | hy
    ·exact hx
    ·exact zEb (zAW.1 hc y hy)
   ·cases h
theorem iu {R:Type} [DecidableEq R] {a:Option R} {f:List Int -> Option R}:Hh [] a f=a:=rfl
theorem uU {R:Type} [DecidableEq R] {rem:KS} {a:Option R} {f:List Int -> Option R} {r:R} (hn:rem≠[]) (h: ∀ y∈rem,f y=some r):Hh rem a f=some r:=by
 cases rem with
 | nil=>exact absurd rfl hn
 | cons x l=>
  unfold Hh;simp only [h x (by simp)];rw [zAB];exact zAW.2 fun y hy=>zAT (h y (by simp [hy]))
theorem r9 {P:Program} {w:World} {r bm IB c0 Ac:Nat} {seen:Array Nat} {es:Array MapEntry} (hr:w.heap[r]? =some (.mapIter (some bm) IB seen c0)) (hb:w.heap[bm]? =some (.map es Ac)) (Lr: ∀ x∈es.toList,x.born<IB) (xj:IB<=c0) (ty:TypeId):
 ((leftOf es seen).size=0/\ (Instr.next (.pointer (some ⟨r,0,none⟩)) false ty).run P w= .ok (.tuple #[.bool false]) w)∨
 ∃ e∈(leftOf es seen).toList,∃ w1:World,(w1=w∨w1=w.drew)/\ (Instr.next (.pointer (some ⟨r,0,none⟩)) false ty).run P w= .ok (.tuple #[.bool true,e.key,e.val]) { w1 with heap:=w1.heap.setIfInBounds r (.mapIter (some bm) IB (seen.push e.born) Ac) }:=by
 simp only [Instr.next,getObj,zAg,Sem.run,hr,hb,Result.andThen,next_test_false seen es IB c0 Lr xj,zDs,zEg];unfold leftOf;have Dt: ∀ x∈(Array.filter (fun e=>!seen.contains e.born) es).toList,x.born<IB:=fun x hx=>Lr x (by simp at hx ⊢;exact hx.1)
 generalize Array.filter (fun e=>!seen.contains e.born) es=L at Dt ⊢
 have e1:L.filter (fun x=>decide (x.born<IB))=L:=Array.filter_eq_self.2 (fun x hx=>by simpa using Dt x (by simpa using hx))
 have e2:L.filter (fun x=>decide (x.born>=IB))= #[]:=by
  rw [Array.filter_eq_empty_iff];intro x hx;have:=Dt x (by simpa using hx);simp;omega
 simp only [e1,e2,Array.append_empty]
 by_cases h0:L.size=0
 ·left;have:L= #[]:=zE5 h0;subst this;refine ⟨rfl,?_⟩;simp [choose,Sem.run,Question.forced]
 ·right;have Ak:L.isEmpty=false:=by simp [Array.isEmpty,h0]
  simp only [Ak,zDs,zEg,Array.empty_append,Array.size_map]
  have Wi: ∃ (j:Nat) (w1:World),j<L.size/\ (w1=w∨w1=w.drew)/\ (choose (Question.mapNext L.size)).run P w= .ok j w1:=by
   by_cases hf:L.size<=1
   ·exact ⟨0,w,by omega,.inl rfl,by simp [choose,Sem.run,Question.forced,hf]⟩
   ·exact ⟨_,w.drew,zGA _ (by omega),.inr rfl,by
     simp only [choose,Sem.run,Question.forced,zBg,hf,zEg,Question.cut];rfl⟩
  obtain ⟨j,w1,hj,N7,JH⟩:=Wi;have JI:w1.heap[r]? =some (.mapIter (some bm) IB seen c0):=by rcases N7 with rfl | rfl <;> exact hr
  refine ⟨L[j],by simp,w1,N7,?_⟩;simp only [JH,Array.getElem?_map,zAq hj,zBV,zAg,setObj,Sem.run,JI,Result.andThen];rfl
section
variable {P:Program} {Γ:Aq} {N:Nat -> Prop} {S:St} {ρ:List AI} {a:Act} {w:World} {F:Fence} {B:Option Nat} {L:Nat} {Y:BR P Γ L} {Q:QY P Γ L}
theorem AT.setMo (R:AT P Γ N S ρ a w) {k:Nat} {x x':MX} {p:AI} (hk:S.h[k]? =some (some (.mo x))) (hp:ρ[k]? =some p) (hO:Mb w p x') (hc: ∀ b,p.foot b -> Da w b):
 AT P Γ N ⟨S.fr,S.h.set k (some (.mo x'))⟩ ρ a w/\ A6 S.h ρ w (S.h.set k (some (.mo x'))) ρ w:=
 ⟨⟨R.hr.write hk hp (AP.refl _ _) hc hO,R.fr.out (BU.write trivial hk hp (AP.refl p.foot w))⟩,A6.write hk hp (AP.refl _ _)⟩
theorem E2.relock {p:AI} {n:Nat} {ls:List (Option KS)} {vs:Array Value} (hS:E2 w p n ls none vs) {i:Nat} (hi:(ls.getD i none).isSome=true): ∃ g:LK,E2 w p n ls (some (i,g)) vs:=by
 obtain ⟨mb,g1,g2,g3,es,Ac,g4,_⟩:=hS.has i _ (Pu hi);refine ⟨(mb,es,Ac),{ hS with has:=fun j l hl=>?_ }⟩
 by_cases e:j=i
 ·subst e;have:l=(ls.getD j none).getD []:=by have:=Pu hi;rw [hl] at this;exact zAU (zAU this)
  subst this;exact ⟨mb,g1,g2,g3,es,Ac,g4,fun x hx _=>by cases hx;rfl⟩
 ·obtain ⟨b,k1,k2,k3,H4,c1,k4,_⟩:=hS.has j l hl;exact ⟨b,k1,k2,k3,H4,c1,k4,fun x hx hj=>by cases hx;exact absurd hj.symm e⟩
theorem E2.unlock {p:AI} {n:Nat} {ls:List (Option KS)} {lk:Option (Nat×LK)} {vs:Array Value} (hS:E2 w p n ls lk vs):E2 w p n ls none vs:=
 { hS with has:=fun j l hl=>let ⟨b,k1,k2,k3,H4,c1,k4,_⟩:=hS.has j l hl;⟨b,k1,k2,k3,H4,c1,k4,fun x hx=>by cases hx⟩ }
theorem Tr.lock {c:Code} {j i n:Nat} {ls:List (Option KS)} (hk:S.h[j]? =some (some (.mo (.sets n ls none)))) (hi:(ls.getD i none).isSome=true) (H: ∀ g:LK,Tr P Γ F B L Y c ⟨S.fr,S.h.set j (some (.mo (.sets n ls (some (i,g)))))⟩ Q):Tr P Γ F B L Y c S Q:=fun N ρ a w R y m b=>by
 obtain ⟨p,hp,vs,hS⟩:=R.hr.obj j _ hk;obtain ⟨g,L3⟩:=hS.relock hi;obtain ⟨R',st⟩:=R.setMo hk hp (x':=.sets n ls (some (i,g))) ⟨vs,L3⟩ fun b hb=>hS.lies hb
 exact H g N ρ a w R' (Y.st y R.hr R'.hr st (CA.refl _ _)) m b
def jp:List KI -> Bool
 | .code _::_=>true
 | _=>false
theorem Bg.lock {K:List KI} {fr:List DV} {h:DH} (j i n:Nat) {ls:List (Option KS)} (hk:h[j]? =some (some (.mo (.sets n ls none)))) (hi:(ls.getD i none).isSome=true) (hK:jp K=true) (h':LK -> DH) (he:h'=fun g=>h.set j (some (.mo (.sets n ls (some (i,g)))))) (H: ∀ g:LK,An P Γ F B L Y Q K ⟨fr,h' g⟩):An P Γ F B L Y Q K ⟨fr,h⟩:=by
 subst he;unfold jp at hK;split at hK
 ·exact Tr.lock (S:=⟨fr,h⟩) hk hi H
 ·cases hK
theorem us (R:AT P Γ N S ρ a w) {m j n n' i:Nat} {ls:List (Option KS)} {g:LK} {rem:KS} {Ei:Option (List Int)} (hm:S.h[m]? =some (some (.mo (.mit n g.1 g.2.1 g.2.2 rem Ei)))) (hj:S.h[j]? =some (some (.mo (.sets n' ls (some (i,g)))))) (hi:(ls.getD i none).isSome=true) {v:Value} (hv:AM (MS N S.h ρ) w (.it m) ρ v) (ty:TypeId):
 (rem= []/\ (Instr.next v false ty).run P w= .ok (.tuple #[.bool false]) w)∨∃ y∈rem,∃ (k u:Value) (w':World) (p:AI),(Instr.next v false ty).run P w= .ok (.tuple #[.bool true,k,u]) w'/\ ρ[m]? =some p/\ AP p.foot w w'/\ Mb w' p (.mit n g.1 g.2.1 g.2.2 (rem.erase y) (some y))/\ ∀ b,p.foot b -> Da w' b:=by
 obtain ⟨p,hp,rfl⟩:=hv;obtain ⟨p',BD,h0,h1,h2,seen,h3,h4,h5⟩:=R.hr.obj m _ hm;have:p'=p:=zAU (BD.symm.trans hp);subst this;obtain ⟨q,hq,vs,hS⟩:=R.hr.obj j _ hj;obtain ⟨b,k1,k2,k3,H4,Xc,k4,k5⟩:=hS.has i _ (Pu hi);have k5:=k5 _ rfl rfl;obtain ⟨mb,es,Ac⟩:=g
 have e3:mb=b/\ es=H4/\ Ac=Xc:=by
  have:(mb,es,Ac)=(b,H4,Xc):=k5;simpa using this
 obtain ⟨rfl,rfl,rfl⟩:=e3;simp only at h3 h4 h5;rw [h1];have Lr: ∀ x∈es.toList,x.born<Ac:=k4.born;rcases r9 (P:=P) h3 k4.blk Lr (zAm _) ty with ⟨e1,e2⟩ | ⟨e,he,w1,Sh,e2⟩
 ·refine .inl ⟨?_,e2⟩;have:(leftOf es seen)= #[]:=zE5 e1;rw [this] at h4;have:=h4.length_eq;simp at this;exact zEO this.symm
 ·have hek:e.key∈rem.map BS:=h4.mem_iff.1 (zEK.2 ⟨e,he,rfl⟩);obtain ⟨y,hy,kC⟩:=zEK.1 hek;have hes:e∈es.toList:=by simp [leftOf] at he ⊢;exact he.1
  have xl:p'.blk<w.heap.size:=(zAJ.1 h3).1;have xL:w1.heap=w.heap:=by rcases Sh with rfl | rfl <;> rfl
  have hU:AP p'.foot w { w1 with heap:=w1.heap.setIfInBounds p'.blk (.mapIter (some mb) Ac (seen.push e.born) Ac) }:=by
   rw [h2]
   have u1:AP (fun k=>k=p'.blk) w w1:=by
    rcases Sh with rfl | rfl
    ·exact AP.refl _ _
    ·exact AP.ofExt (Ao.toDrew w)
   exact u1.trans (Qe _)
  have Hy:({ w1 with heap:=w1.heap.setIfInBounds p'.blk (.mapIter (some mb) Ac (seen.push e.born) Ac) }:World).heap[p'.blk]? =some (.mapIter (some mb) Ac (seen.push e.born) Ac):=by
   show (w1.heap.setIfInBounds _ _)[_]? =_
   simp [xL,xl]
  refine .inr ⟨y,hy,e.key,e.val,_,p',e2,hp,hU,⟨fun x hx=>?_,h1,h2,seen.push e.born,Hy,?_,fun x hx=>?_⟩,fun b hb=>?_⟩
  ·rcases hx with hx | hx
   ·exact h0 x (.inl (zFt hx))
   ·have ex:y=x:=zAU hx;subst ex;exact h0 y (.inl hy)
  ·have hl:leftOf es (seen.push e.born)=(leftOf es seen).filter fun x=>x.born != e.born:=by
    unfold leftOf;rw [Array.filter_filter]
    congr 1
    funext x
    simp only [Array.contains_push,Bool.not_or];rw [Bool.and_comm];simp [bne,Bool.beq_comm]
   have Av:((leftOf es seen).toList.map (·.born)).Nodup:=by
    have:((leftOf es seen).toList.map (·.born)).Sublist (es.toList.map (·.born)):=by
     unfold leftOf;rw [Array.toList_filter];exact List.filter_sublist.map _
    exact this.nodup k4.stamps
   have z7: ∀ (l:List MapEntry),(l.map (·.born)).Nodup -> e∈l -> (l.map (·.key)).Perm (e.key::((l.filter fun x=>x.born != e.born).map (·.key))):=by
    intro l
    induction l with
    | nil=>intro _ h;cases h
    | cons x l ih=>
     intro hn hx;rw [zEQ,zF5] at hn
     by_cases kD:x=e
     ·subst kD
      have:(l.filter fun y=>y.born != x.born)=l:=List.filter_eq_self.2 fun y hy=>by
       simp only [zE3,ne_eq];exact fun hc=>hn.1 (by rw [←hc];exact zEK.2 ⟨y,hy,rfl⟩)
      simp [this]
     ·have S5:e∈l:=(zDu.1 hx).resolve_left fun h=>kD h.symm
      have Ak:(x.born != e.born)=true:=by
       simp only [zE3,ne_eq];exact fun hc=>hn.1 (by rw [hc];exact zEK.2 ⟨e,S5,rfl⟩)
      rw [List.filter_cons,zAB Ak,zEQ,zEQ];exact ((ih hn.2 S5).cons x.key).trans (List.Perm.swap e.key x.key _)
   have P1:=z7 _ Av he;rw [hl,Array.toList_filter];have P2:(rem.map BS).Perm (BS y::(rem.erase y).map BS):=(List.perm_cons_erase hy).map BS;have P3:=P1.symm.trans (h4.trans P2);rw [←kC] at P3;exact List.Perm.cons_inv P3
  ·have ex:y=x:=zAU hx;subst ex;exact ⟨e,hes,kC.symm,by simp⟩
  ·rw [h2] at hb;exact ⟨_,rfl,(),by rw [show b=p'.blk from hb];exact Hy⟩
theorem Tr.next (hF:Cv F P) {id:Nat} {ops:Array Oper} (Av:CR ops=true) {o:Oper} {rest:List Oper} (WV:ops.toList=o::rest) {x:Operand} (ho:o.op= .next x false) (hw:Ip ops S o=some true) {m j n n' i:Nat} {ls:List (Option KS)} {g:LK} {rem:KS} {Ei:Option (List Int)} (hx:AX S.fr x= .it m) (hm:S.h[m]? =some (some (.mo (.mit n g.1 g.2.1 g.2.2 rem Ei)))) (hj:S.h[j]? =some (some (.mo (.sets n' ls (some (i,g)))))) (kX:m≠j) (hi:(ls.getD i none).isSome=true)
 (h0:rem= [] -> ∃ S' vs o0 o',DW P Γ ops rest ⟨CY S.fr o.dst (.tup 1 (L1 [.bool false])),(S.h.set j (some (.mo (.sets n' ls none)))).set m none⟩ o0=some (S',vs,o')/\ Ba vs/\ Q .normal S' Y)
 (h1: ∀ y∈rem,∃ S' vs o0 o',DW P Γ ops rest ⟨CY S.fr o.dst (.tup 3 (L1 [.bool true])),S.h.set m (some (.mo (.mit n g.1 g.2.1 g.2.2 (rem.erase y) (some y))))⟩ o0=some (S',vs,o')/\ Ba vs/\ Q .normal S' Y):Tr P Γ F B L Y (.region id ops false) S Q:=fun N ρ a w R y mk b=>by
 refine zE6 ?_;rw [WV];have hd: ∀ c,o.op≠.defer c:=fun c e=>by rw [ho] at e;cases e
 have Ew: ∀ o'∈rest,o'∈ops:=fun o' JJ=>by
  have:o'∈ops.toList:=by rw [WV];exact zDt _ JJ
  simpa using this
 have CI: ∀ v,(a.put o.dst v).defers=a.defers:=fun v=>by cases ho:o.dst <;> simp [Act.put]
 have rx:=Bh R x;rw [hx] at rx;unfold wpListIn;rw [zAB (HZ R hw)];have JP:execOp a.eval o=(do pure (.value (←Instr.next (a.eval x) false o.type))):=by unfold execOp;rw [ho]
 have AN:m<S.h.length:=(zAV.1 hm).1;rcases us R hm hj hi rx o.type with ⟨e1,e2⟩ | ⟨ky,zo,k,u,w',p,e2,hp,hU,hO,hC⟩
 ·obtain ⟨S',vs,o0,o',g1,g2,g3⟩:=h0 e1;obtain ⟨q,hq,oD,hS⟩:=R.hr.obj j _ hj;obtain ⟨R1,DF⟩:=R.setMo hj hq (x':=.sets n' ls none) ⟨oD,hS.unlock⟩ fun b hb=>hS.lies hb
  have R2:AT P Γ N ⟨S.fr,(S.h.set j (some (.mo (.sets n' ls none)))).set m none⟩ ρ a w:=⟨R1.hr.kill m,R1.fr.out (BU.kill m)⟩
  have R3:=GU R2 o.dst (d:=.tup 1 (L1 [.bool false])) (v:=.tuple #[.bool false]) ⟨#[.bool false],rfl,rfl,fun jj Lv=>by
   have:jj=0:=by omega
   subst this;exact ⟨_,rfl,rfl⟩⟩
  refine Jc hF hd (G:=fun v w2=>v= .tuple #[.bool false]/\ w2=w) (BK.value (s:=Instr.next (a.eval x) false o.type) JP e2 ⟨rfl,rfl⟩) fun v w2 ⟨hv,Sf⟩=>?_
  subst hv Sf;refine JV hF Av rest Ew R3 g1 g2 fun ρ' a' w3 R' st Ca=>?_
  exact Tr.done R y mk b g3 R' ((DF.trans (A6.kill m)).trans st.st) (fun k p _ hp=>st.pl k p hp) (Ca.trans (CI _))
 ·obtain ⟨S',vs,o0,o',g1,g2,g3⟩:=h1 ky zo;have DF:=A6.write (h:=S.h) (o':=.mo (.mit n g.1 g.2.1 g.2.2 (rem.erase ky) (some ky))) hm hp hU;have R1:AT P Γ N ⟨S.fr,S.h.set m (some (.mo (.mit n g.1 g.2.1 g.2.2 (rem.erase ky) (some ky))))⟩ ρ a w':=⟨R.hr.write hm hp hU hC hO,R.fr.out (BU.write trivial hm hp hU)⟩
  have R3:=GU R1 o.dst (d:=.tup 3 (L1 [.bool true])) (v:=.tuple #[.bool true,k,u]) ⟨#[.bool true,k,u],rfl,rfl,fun jj Lv=>by
   match jj,Lv with
   | 0,_=>exact ⟨_,rfl,rfl⟩
   | 1,_=>exact ⟨_,rfl,trivial⟩
   | 2,_=>exact ⟨_,rfl,trivial⟩⟩
  refine Jc hF hd (G:=fun v w2=>v= .tuple #[.bool true,k,u]/\ w2=w') (BK.value (s:=Instr.next (a.eval x) false o.type) JP e2 ⟨rfl,rfl⟩) fun v w2 ⟨hv,Sf⟩=>?_
  subst hv Sf;refine JV hF Av rest Ew R3 g1 g2 fun ρ' a' w3 R' st Ca=>?_
  exact Tr.done R y mk b g3 R' (DF.trans st.st) (fun k p _ hp=>st.pl k p hp) (Ca.trans (CI _))
def Zc (ops:Array Oper):Operand:=match ops.toList with
 | o::_=>match o.op with
  | .next x _=>x
  | _=>.tmp 0
 | []=>.tmp 0
def Vl (ops:Array Oper):Option Tmp:=match ops.toList with
 | o::_=>o.dst
 | []=>none
def NN (ops:Array Oper):List Oper:=ops.toList.tail
def Zd (ops:Array Oper):Bool:=match ops.toList with
 | o::_=>match o.op with
  | .next _ false=>o.guard.isNone&&CR ops
  | _=>false
 | []=>false
theorem ub {ops:Array Oper} (h:Zd ops=true):CR ops=true/\ ∃ o,ops.toList=o::NN ops/\ o.op= .next (Zc ops) false/\ o.guard=none/\ o.dst=Vl ops:=by
 unfold Zd at h;unfold Zc Vl NN;split at h
 ·rename_i o rest WV;rw [WV];split at h
  ·rename_i x ho;simp only [zAL,Option.isNone_iff_eq_none] at h;refine ⟨h.2,o,rfl,?_,h.1,rfl⟩;simp only [ho]
  ·cases h
 ·cases h
def Vf (live σ:List Nat) (L:Nat) (r:St×List Prop×BF):List DV×DH×List Prop×Bool:=((comp live σ r.1).fr,(comp live σ r.1).h,r.2.1,Is σ L r.1.h.length)
theorem An.nx (hX:HX F P) {K:List KI} {ops:Array Oper} {fr:List DV} {h:DH} (hK:J6 K=some (ops,DE K)) (Ds:Zd ops=true) (m j i n:Nat) (ls:List (Option KS)) (g:LK) (rem:KS) (Ei:Option (List Int)) (live σ:List Nat) (lr:List DV) (h0:DH) (σ1:List Nat) (Wy:List Int -> List DV) (h1:List Int -> DH)
 (hx:AX fr (Zc ops)= .it m) (hm:h[m]? =some (some (.mo (.mit n g.1 g.2.1 g.2.2 rem Ei)))) (hj:h[j]? =some (some (.mo (.sets n ls (some (i,g)))))) (kX:m≠j) (hi:(ls.getD i none).isSome=true) (hc:Hn (DE K)=true)
 (c0:(DW P Γ ops (NN ops) ⟨CY fr (Vl ops) (.tup 1 (L1 [.bool false])),(h.set j (some (.mo (.sets n ls none)))).set m none⟩ ⟨[],[],[],[]⟩).map (Vf live σ L)=some (lr,h0,[],true))
 (c1: ∀ y,(DW P Γ ops (NN ops) ⟨CY fr (Vl ops) (.tup 3 (L1 [.bool true])),h.set m (some (.mo (.mit n g.1 g.2.1 g.2.2 (rem.erase y) (some y))))⟩ ⟨[],[],[],[]⟩).map (Vf live σ1 L)=some (Wy y,h1 y,[],true))
 (k0:rem= [] -> An P Γ F B L Y Q (DE K) ⟨lr,h0⟩) (k1: ∀ y∈rem,An P Γ F B L Y Q (DE K) ⟨Wy y,h1 y⟩):An P Γ F B L Y Q K ⟨fr,h⟩:=by
 have go: ∀ {S:St} {live σ:List Nat} {Gi:List DV} {h':DH},(DW P Γ ops (NN ops) S ⟨[],[],[],[]⟩).map (Vf live σ L)=some (Gi,h',[],true) -> An P Γ F B L Y Q (DE K) ⟨Gi,h'⟩ -> ∃ S' vs o0 o',DW P Γ ops (NN ops) S o0=some (S',vs,o')/\ Ba vs/\ An P Γ F B L Y Q (DE K) S':=by
  intro S live σ Gi h' N5 hk;cases hr:DW P Γ ops (NN ops) S ⟨[],[],[],[]⟩ with
  | none=>rw [hr] at N5;cases N5
  | some r=>
   obtain ⟨S1,v1,o1⟩:=r;rw [hr] at N5;simp only [zBV,Vf,zC5,zD1] at N5;obtain ⟨rfl,rfl,rfl,hs⟩:=N5;exact ⟨S1,_,_,_,hr,trivial,Bg.le (Ay.comp live σ S1 hs) hc hk⟩
 unfold J6 at hK;split at hK
 ·rename_i id NL k';have e:=zAU hK;simp only [DE,zD1,and_true] at e;subst e;obtain ⟨Av,o,q1,q2,q3,q4⟩:=ub Ds;exact Tr.next (S:=⟨fr,h⟩) hX.f Av q1 q2 (by unfold Ip;rw [q3]) hx hm hj kX hi (fun e=>by rw [q4];exact go c0 (k0 e)) (fun y hy=>by rw [q4];exact go (c1 y) (k1 y hy))
 ·cases hK
end
end Go.Proofs.YtkjbblkieglmlaaGreatDoor
namespace Go.Proofs.YtkjbblkieglmlaaGreatDoor
abbrev zAa:=@Nat.lt_succ_iff_lt_or_eq
abbrev zEF:=@List.mem_cons_self
end Go.Proofs.YtkjbblkieglmlaaGreatDoor
namespace Go.Proofs.YtkjbblkieglmlaaGreatDoor
open Go.RowKit
def Ae {R:Type} (f:Nat -> Option R) (Q:R -> Prop):Prop:=∃ N,∀ n,N<=n -> ∃ r,f n=some r/\ Q r
def Ev {R:Type} (f:Nat -> Option R) (r:R):Prop:=∃ N,∀ n,N<=n -> f n=some r
section
variable {R T:Type} {f g:Nat -> Option R} {Q Q':R -> Prop} {r:R}
theorem Ev.p (h:Ev f r) (hq:Q r):Ae f Q:=let ⟨N,h⟩:=h;⟨N,fun n hn=>⟨r,h n hn,hq⟩⟩
theorem Ae.ev (h:Ae f Q) (hu: ∀ r r',Q r -> Q r' -> r=r'): ∃ r,Q r/\ Ev f r:=by
 obtain ⟨N,h⟩:=h;obtain ⟨r,h1,h2⟩:=h N (zAm _);refine ⟨r,h2,N,fun n hn=>?_⟩;obtain ⟨r',h3,h4⟩:=h n hn;rw [h3,hu _ _ h4 h2]
theorem Ae.mono (h:Ae f Q) (hq: ∀ r,Q r -> Q' r):Ae f Q':=let ⟨N,h⟩:=h;⟨N,fun n hn=>let ⟨r,h1,h2⟩:=h n hn;⟨r,h1,hq r h2⟩⟩
theorem Ae.step (k:Nat) (h: ∀ n,f (n+k)=g n) (hg:Ae g Q):Ae f Q:=by
 obtain ⟨N,hg⟩:=hg;refine ⟨N+k,fun n hn=>?_⟩;have:=hg (n-k) (by omega);rw [←h,show n-k+k=n by omega] at this;exact this
theorem Ev.step (k:Nat) (h: ∀ n,f (n+k)=g n) (hg:Ev g r):Ev f r:=by
 obtain ⟨N,hg⟩:=hg;refine ⟨N+k,fun n hn=>?_⟩;have:=hg (n-k) (by omega)
 rwa [←h,show n-k+k=n by omega] at this
theorem Ev.now (h: ∀ n,f n=some r):Ev f r:=⟨0,fun n _=>h n⟩
theorem Ev.from (N:Nat) (h: ∀ n,N<=n -> f n=some r):Ev f r:=⟨N,h⟩
theorem Ev.eq {f g:Nat -> Option R} (h:Ev g r) (e: ∀ n,f n=g n):Ev f r:=let ⟨N,h⟩:=h;⟨N,fun n hn=>(e n).trans (h n hn)⟩
theorem Ae.eq {f g:Nat -> Option R} (h:Ae g Q) (e: ∀ n,f n=g n):Ae f Q:=let ⟨N,h⟩:=h;⟨N,fun n hn=>by rw [e];exact h n hn⟩
theorem Ev.bind {a:Nat -> Option T} {x:T} {b:Nat -> T -> Option R} (ha:Ev a x) (hb:Ev (fun n=>b n x) r):Ev (fun n=>(a n).bind (b n)) r:=by
 obtain ⟨N,ha⟩:=ha;obtain ⟨M,hb⟩:=hb;refine ⟨max N M,fun n hn=>?_⟩
 show (a n).bind (b n)=_
 rw [ha n (by omega),zAA];exact hb n (by omega)
theorem Ae.bind {a:Nat -> Option T} {x:T} {b:Nat -> T -> Option R} (ha:Ev a x) (hb:Ae (fun n=>b n x) Q):Ae (fun n=>(a n).bind (b n)) Q:=by
 obtain ⟨N,ha⟩:=ha;obtain ⟨M,hb⟩:=hb;refine ⟨max N M,fun n hn=>?_⟩
 show ∃ r,(a n).bind (b n)=some r/\ _
 rw [ha n (by omega),zAA];exact hb n (by omega)
theorem Ae.all {l:List T} {F:T -> Nat -> Option R} (h: ∀ y∈l,Ae (F y) Q): ∃ N,∀ n,N<=n -> ∀ y∈l,∃ r,F y n=some r/\ Q r:=by
 induction l with
 | nil=>exact ⟨0,fun n _ y hy=>absurd hy zEr⟩
 | cons x l ih=>
  obtain ⟨N,hN⟩:=ih fun y hy=>h y (zDt _ hy)
  obtain ⟨M,hM⟩:=h x zEF;refine ⟨max N M,fun n hn y hy=>?_⟩;rcases zDu.1 hy with rfl | hy
  ·exact hM n (by omega)
  ·exact hN n (by omega) y hy
theorem Ae.range {F:Nat -> Nat -> Option R} {A:Nat -> R -> Prop}: ∀ (k:Nat),(∀ i,i<k -> Ae (F i) (A i)) -> ∃ N,∀ n,N<=n -> ∀ i,i<k -> ∃ r,F i n=some r/\ A i r
 | 0,_=>⟨0,fun n _ i hi=>absurd hi (zAf i)⟩
 | k+1,h=>by
  obtain ⟨N,hN⟩:=Ae.range k fun i hi=>h i (by omega)
  obtain ⟨M,hM⟩:=h k (by omega);refine ⟨max N M,fun n hn i hi=>?_⟩;rcases zAa.1 hi with hi | rfl
  ·exact hN n (by omega) i hi
  ·exact hM n (by omega)
theorem Ae.next [DecidableEq R] {rem:KS} {a:Nat -> Option R} {F:Nat -> List Int -> Option R} (hn:rem≠[]) (h: ∀ y∈rem,Ae (fun n=>F n y) Q) (hu: ∀ r r',Q r -> Q r' -> r=r'):Ae (fun n=>Hh rem (a n) (F n)) Q:=by
 obtain ⟨N,hN⟩:=Ae.all h;refine ⟨N,fun n Pf=>?_⟩;obtain ⟨y0,xI⟩:=List.exists_mem_of_ne_nil rem hn;obtain ⟨r,h1,h2⟩:=hN n Pf y0 xI;refine ⟨r,uU hn fun y hy=>?_,h2⟩;obtain ⟨r',h3,h4⟩:=hN n Pf y hy;rw [hu _ _ h2 h4];exact h3
end
end Go.Proofs.YtkjbblkieglmlaaGreatDoor
namespace Go.Proofs.YtkjbblkieglmlaaGreatDoor
open Go.RowKit
def Bj {T R:Type} (m:Nat -> T -> Option R) (a b:T):Prop:=∃ N S,∀ n,N<=n -> m (n+S) a=m n b
section
variable {T R:Type} {m:Nat -> T -> Option R} {a b c:T} {r:R} {Q:R -> Prop}
theorem Bj.refl:Bj m a a:=⟨0,0,fun _ _=>rfl⟩
theorem Bj.one (h: ∀ n,m (n+1) a=m n b):Bj m a b:=⟨0,1,fun n _=>h n⟩
theorem Bj.oneN (N:Nat) (h: ∀ n,N<=n -> m (n+1) a=m n b):Bj m a b:=⟨N,1,h⟩
theorem Bj.trans (h:Bj m a b) (h2:Bj m b c):Bj m a c:=by
 obtain ⟨N,S,h⟩:=h;obtain ⟨N2,S2,h2⟩:=h2;exact ⟨max N N2,S2+S,fun n hn=>by rw [←zDy,h _ (by omega),h2 _ (by omega)]⟩
theorem Bj.ev (h:Bj m a b) (h2:Ev (fun n=>m n b) r):Ev (fun n=>m n a) r:=by
 obtain ⟨N,S,h⟩:=h;obtain ⟨M,h2⟩:=h2;refine ⟨max N M+S,fun n hn=>?_⟩;have:=h (n-S) (by omega);rw [show n-S+S=n by omega] at this;exact this.trans (h2 (n-S) (by omega))
theorem Bj.pev (h:Bj m a b) (h2:Ae (fun n=>m n b) Q):Ae (fun n=>m n a) Q:=by
 obtain ⟨N,S,h⟩:=h;obtain ⟨M,h2⟩:=h2;refine ⟨max N M+S,fun n hn=>?_⟩;have:=h (n-S) (by omega);rw [show n-S+S=n by omega] at this;obtain ⟨r,h3,h4⟩:=h2 (n-S) (by omega);exact ⟨r,this.trans h3,h4⟩
theorem Ev.one (h: ∀ n,m (n+1) a=some r):Ev (fun n=>m n a) r:=⟨1,fun n hn=>by
 obtain ⟨k,rfl⟩: ∃ k,n=k+1:=⟨n-1,by omega⟩;exact h k⟩
theorem Ev.oneN (N:Nat) (h: ∀ n,N<=n -> m (n+1) a=some r):Ev (fun n=>m n a) r:=⟨N+1,fun n hn=>by
 obtain ⟨k,rfl⟩: ∃ k,n=k+1:=⟨n-1,by omega⟩;exact h k (by omega)⟩
end
end Go.Proofs.YtkjbblkieglmlaaGreatDoor
namespace Go.Proofs.YtkjbblkieglmlaaGreatDoor
open Go.RowKit
class HC (F:Fence):Prop where
 x:HX F Tryz.prog
 w:F=Fence.wide∨∃ l,F=Fence.wide.inRound l
instance:HC Fence.wide:=⟨⟨Cv.wide,by kernel_rfl⟩,.inl rfl⟩
instance (l:Nat):HC (Fence.wide.inRound l):=⟨⟨Cv.round l,by kernel_rfl⟩,.inr ⟨l,rfl⟩⟩
abbrev DV.i (x:Int):DV:=.int .i64 x
def AE:Bi:=fun _=>.no
def Er:Nat -> List DV -> List Nat
 | _,[]=>[]
 | i,.any::r=>Er (i+1) r
 | i,_::r=>i::Er (i+1) r
section
variable {F:Fence} {B:Option Nat} {L:Nat} {Y N:BR Tryz.prog GG L} {Q:QY Tryz.prog GG L} {k k':List KI} {S:St} {fr:List DV} {h' h2:DH} {c:List (DV×DH×Bool)} {o:List (Nat×DV)} {z:List (Nat×Fz)} {v w:List Prop}
theorem gz [hX:HC F] (A9:Bi) (σ:List Nat) (hl:HS c o z v) (ks:List Nat) (hz:HS [] [] [] w) (k':List KI) (fr:List DV) (h':DH) (hk:An Tryz.prog GG F B L Y Q k' ⟨fr,h'⟩) (tg:List (List (Nat×Nat)×St):=[])
 (h:(B9 Tryz.prog GG A9 400 k S ⟨c,o,z,tg⟩).bind (LY (Er 0 fr) σ L ks)=some (.at k',fr,h',v,w,[],[],true):=by kernel_rfl) (hc:Hn k'=true:=by kernel_rfl):An Tryz.prog GG F B L Y Q k S:=
 Bg.gS hX.x A9 400 (Er 0 fr) σ tg hl ks hz k' fr h' h hc hk
theorem gs [hX:HC F] (A9:Bi) (σ:List Nat) (hl:HS c o z v) (k':List KI) (fr:List DV) (h':DH) (hk:An Tryz.prog GG F B L Y Q k' ⟨fr,h'⟩) (tg:List (List (Nat×Nat)×St):=[])
 (h:(B9 Tryz.prog GG A9 400 k S ⟨c,o,z,tg⟩).bind (LY (Er 0 fr) σ L [])=some (.at k',fr,h',v,[],[],[],true):=by kernel_rfl) (hc:Hn k'=true:=by kernel_rfl):An Tryz.prog GG F B L Y Q k S:=
 Bg.gS hX.x A9 400 (Er 0 fr) σ tg hl [] H0 k' fr h' h hc hk
theorem gg [hX:HC F] (A9:Bi) (σ:List Nat) (hl:HS c o z v) (hk:An Tryz.prog GG F B L Y Q k' ⟨fr,h'⟩) (tg:List (List (Nat×Nat)×St):=[])
 (h:(B9 Tryz.prog GG A9 400 k S ⟨c,o,z,tg⟩).bind (LY (Er 0 fr) σ L [])=some (.at k',fr,h',v,[],[],[],true):=by kernel_rfl) (hc:Hn k'=true:=by kernel_rfl):An Tryz.prog GG F B L Y Q k S:=
 Bg.gS hX.x A9 400 (Er 0 fr) σ tg hl [] H0 k' fr h' h hc hk
theorem el [hX:HC F] {fn:Func} {d:DV} (A9:Bi) (live σ:List Nat) (hl:HS c o z v) (ks:List Nat) (hz:HS [] [] [] w) (rs:List DV) (le:AS (Gz rs) d) (tg:List (List (Nat×Nat)×St):=[])
 (h:(B9 Tryz.prog GG A9 400 k S ⟨c,o,z,tg⟩).bind (I4 Tryz.prog live σ L ks fn d h2.length)=some (true,rs,h2,v,w,[],[],true):=by kernel_rfl):Bg Tryz.prog GG F B L N (DC Tryz.prog fn L d h2) k S:=
 Bg.el hX.x A9 400 live σ tg hl ks hz rs le h
theorem ez [hX:HC F] {fn:Func} {d:DV} (A9:Bi) (live σ:List Nat) (hl:HS c o z v) (ks:List Nat) (hz:HS [] [] [] w) (tg:List (List (Nat×Nat)×St):=[])
 (h:(B9 Tryz.prog GG A9 400 k S ⟨c,o,z,tg⟩).bind (fun r=>(I4 Tryz.prog live σ L ks fn d h2.length r).map fun q=>(q.1,Gz q.2.1,q.2.2))=some (true,d,h2,v,w,[],[],true):=by kernel_rfl):Bg Tryz.prog GG F B L N (DC Tryz.prog fn L d h2) k S:=
 Bg.e hX.x A9 400 live σ tg hl ks hz h
theorem ee [hX:HC F] {fn:Func} {d:DV} (A9:Bi) (live σ:List Nat) (hl:HS c o z v) (tg:List (List (Nat×Nat)×St):=[])
 (h:(B9 Tryz.prog GG A9 400 k S ⟨c,o,z,tg⟩).bind (fun r=>(I4 Tryz.prog live σ L [] fn d h2.length r).map fun q=>(q.1,Gz q.2.1,q.2.2))=some (true,d,h2,v,[],[],[],true):=by kernel_rfl):Bg Tryz.prog GG F B L N (DC Tryz.prog fn L d h2) k S:=
 Bg.e hX.x A9 400 live σ tg hl [] H0 h
theorem rr [hX:HC F] {ex:List Exit} {i:Nat} {e:Exit} (A9:Bi) (σ:List Nat) (he:(Exit.normal::ex)[i]? =some e) (hl:HS c o z v) (tg:List (List (Nat×Nat)×St):=[])
 (h:(B9 Tryz.prog GG A9 400 k S ⟨c,o,z,tg⟩).map (ZV σ L)=some (some e,h2,v,[],[],[],true):=by kernel_rfl):Bg Tryz.prog GG F B L N (Cb L ex i h2) k S:=
 Bg.r hX.x A9 400 σ tg hl he h
theorem ag [hX:HC F] {Q:Exit -> St -> Prop} {assign body:Code} (A9:Bi) (σ:List Nat) (hl:HS c o z v) (fr:List DV) (h':DH) (hk: ∀ N2:BR Tryz.prog GG L,Bg Tryz.prog GG F B L N2 Q [.code body] ⟨fr,h'⟩)
 (h:(B9 Tryz.prog GG A9 400 [.code assign] S ⟨c,o,z,[]⟩).map (Rq (Er 0 fr) σ L)=some (.at [],fr,h',v,[],[],true):=by kernel_rfl):Ft Tryz.prog GG F B L N Q assign body S:=
 Ft.g hX.x A9 400 (Er 0 fr) σ hl fr h' h hk
theorem rd {n m:Nat} (hm:n+1<=m) (h: ∀ m,n<=m -> An Tryz.prog GG F B L Y Q (dk m k) S) (hk:Na k=true:=by kernel_rfl):An Tryz.prog GG F B L Y Q (A8 m k) S:=Bg.round hm hk h
theorem en (m:Nat) (h:An Tryz.prog GG F B L Y Q (A8 m k) S) (hk:Na k=true:=by kernel_rfl):An Tryz.prog GG F B L Y Q k S:=Bg.enter m hk h
end
theorem eu {f:Nat} {ds:List DV} {h:DH} {d:DV} {h':DH} {ext:Bool} (Ey:ES Tryz.prog GG f ds h d h' ext) (σ:List Nat) (H:DH) (k:Nat) (hb:MH σ H.length h.length h'.length=true:=by kernel_rfl) (hk:σ.all (fun j=>Nat.ble k j)=true:=by kernel_rfl) (hh:(σ.map fun k=>H.getD k none)=h.map (Ed σ H.length):=by kernel_rfl):Oc Tryz.prog GG f (ds.map (up σ H.length)) H (up σ H.length d) (Ez H σ h') k:=Ey.embedU σ H k hb hk hh
theorem em {f:Nat} {ds:List DV} {h:DH} {d:DV} {h':DH} {ext:Bool} (Ey:ES Tryz.prog GG f ds h d h' ext) (σ:List Nat) (H:DH) (hb:MH σ H.length h.length h'.length=true:=by kernel_rfl) (hh:(σ.map fun k=>H.getD k none)=h.map (Ed σ H.length):=by kernel_rfl):ES Tryz.prog GG f (ds.map (up σ H.length)) H (up σ H.length d) (Ez H σ h') ext:=ES.emC Ey σ H hb hh
theorem fb {f:Nat} {ds:List DV} {d:DV} (h0:ES Tryz.prog GG f ds [] d [] true) (h:DH) (D7:ds.all Ep=true:=by kernel_rfl):ES Tryz.prog GG f ds h d h true:=ES.frameB h0 h D7
theorem sb {f:Nat} (ds:List DV) {D9:List DV} {d:DV} (h0:ES Tryz.prog GG f D9 [] d [] true) (h:DH) (hs:MU h ds D9) (hd:Uw d=true:=by kernel_rfl):ES Tryz.prog GG f ds h d h true:=ES.snapB h0 h hs hd
theorem ot {f:Nat} {fn:Func} {ds:List DV} {h:DH} {d:DV} {h':DH} {ext:Bool} (hf:Tryz.prog.funcs[f]? =some fn) (H: ∀ (B:Nat) (N:BR Tryz.prog GG h.length),Bg Tryz.prog GG Fence.wide (some B) h.length N (DC Tryz.prog fn h.length d h') (start fn) ⟨ds++List.replicate (fn.ntmps-ds.length) .any,h⟩)
 (hb:fn.body.isSome=true:=by kernel_rfl) (Ns:(fn.name== "runtime.NumGoroutine")=false:=by kernel_rfl) (So:h'.all Vp=true:=by kernel_rfl) (JO:(!ext||h.isEmpty)=true:=by kernel_rfl):ES Tryz.prog GG f ds h d h' ext:=
 ES.of_trk hf hb Ns (NR So) (fun e=>by subst e;simpa using JO) H
section
variable {F:Fence} {B L:Nat} {Y:BR Tryz.prog GG L} {Q:QY Tryz.prog GG L} {fr:List DV} {h:DH} {K:List KI} {a b:Code} {α σ:Type} {l:List α} {H:σ -> DH} {FR:α -> List DV}
theorem rx [hX:HC F] (ex:List Exit) (kk t:Nat) (ps:Array Tmp) (enc:α -> List DV) (L':Nat) {f:α -> σ -> Option (σ×Nat)} {s0:σ} {rE:σ×Nat} (hf:DB f l s0=some rE)
 (C7: ∀ (l B:Nat) (N:BR Tryz.prog GG L') (x:α) (s:σ) (r:σ×Nat),f x s=some r -> Ft Tryz.prog GG (Fence.wide.inRound l) (some B) L' N (Cb L' ex r.2 (H r.1)) a b ⟨FR x,H s⟩)
 (Dg: ∀ e,(Exit.normal::ex)[rE.2]? =some e -> DZ Tryz.prog GG F (some B) L Q (DE K) e ⟨fr,H rE.1⟩ Y) (JP:(ex.all fun e=>(Km e).isSome)=true:=by kernel_rfl)
 (hK:NA K=some (.tmp t,ps,a,b,DE K):=by kernel_rfl) (hg:AX fr (.tmp t)= .it kk:=by kernel_rfl) (hk:h[kk]? =some (some (.iter (l.map enc))):=by kernel_rfl) (D5: ∀ x,(enc x).length=ps.size:=by exact fun _=>rfl) (hL:Nat.ble L L'=true:=by kernel_rfl) (GP:fr.all (C5 L')=true:=by kernel_rfl) (h0:h.set kk none=H s0:=by kernel_rfl) (Cg:(fun x=>IC fr ps.toList (enc x))=FR:=by kernel_rfl):An Tryz.prog GG F (some B) L Y Q K ⟨fr,h⟩:=
 Bg.rg hX.w ex JP kk t ps enc L' hf C7 hK hg hk D5 hL GP h0 Cg Dg
theorem r0 [hX:HC F] (kk t:Nat) (ps:Array Tmp) (enc:α -> List DV) (L':Nat) {f:α -> σ -> Option σ} {s0 sE:σ} (hf:Bn f l s0=some sE)
 (C7: ∀ (l B:Nat) (N:BR Tryz.prog GG L') (x:α) (s r:σ),f x s=some r -> Ft Tryz.prog GG (Fence.wide.inRound l) (some B) L' N (Cb L' [] 0 (H r)) a b ⟨FR x,H s⟩)
 (Dg:An Tryz.prog GG F (some B) L Y Q (DE K) ⟨fr,H sE⟩)
 (hK:NA K=some (.tmp t,ps,a,b,DE K):=by kernel_rfl) (hg:AX fr (.tmp t)= .it kk:=by kernel_rfl) (hk:h[kk]? =some (some (.iter (l.map enc))):=by kernel_rfl) (D5: ∀ x,(enc x).length=ps.size:=by exact fun _=>rfl) (hL:Nat.ble L L'=true:=by kernel_rfl) (GP:fr.all (C5 L')=true:=by kernel_rfl) (h0:h.set kk none=H s0:=by kernel_rfl) (Cg:(fun x=>IC fr ps.toList (enc x))=FR:=by kernel_rfl):An Tryz.prog GG F (some B) L Y Q K ⟨fr,h⟩:=
 Bg.rg0 hX.w kk t ps enc L' hf C7 hK hg hk D5 hL GP h0 Cg Dg
end
abbrev Yd (L:Nat):=BR Tryz.prog GG L
abbrev EQ:=ES Tryz.prog GG
abbrev FQ:=DC Tryz.prog
abbrev TW (B:Nat) {L:Nat} (N:Yd L) (Q:Exit -> St -> Prop) (k:List KI) (S:St):Prop:=Bg Tryz.prog GG Fence.wide (some B) L N Q k S
abbrev TA (l B:Nat) {L:Nat} (N:Yd L) (Q:Exit -> St -> Prop) (fn:Func) (t:Nat) (S:St):Prop:=Ft Tryz.prog GG (Fence.wide.inRound l) (some B) L N Q (sq fn t) (VB fn t) S
abbrev Al {X R:Type} (m:Nat -> X -> Option R) (T:Nat -> R -> X -> Prop):Prop:=∀ n x r,m n x=some r -> T n r x
theorem ia {X R:Type} {m:Nat -> X -> Option R} {T:Nat -> R -> X -> Prop} (h0: ∀ x,m 0 x=none) (h: ∀ n,(∀ x r,m n x=some r -> T n r x) -> ∀ x r,m (n+1) x=some r -> T (n+1) r x):Al m T
 | 0,x,_,e=>by rw [h0 x] at e;cases e
 | n+1,x,r,e=>h n (ia h0 h n) x r e
/-A proof in du shape of oB was read off:oB holds of each way on,du hints gathered so Fc. -/
def Gt {R:Type} (T:R -> Prop) (c:List (DV×DH×Bool)) (o:List (Nat×DV)) (z:List (Nat×Fz)) (v:List Prop) (A:Option R):Prop:=HS c o z v -> ∀ r,A=some r -> T r
section
variable {R R':Type} {T:R -> Prop} {c:List (DV×DH×Bool)} {o:List (Nat×DV)} {z:List (Nat×Fz)} {v:List Prop} {A A':Option R} {r0:R} {b b':Bool} {p q:Prop} {f:Nat} {ds:List DV} {h h':DH} {d d':DV} {e:Bool} {xi:Int}
theorem gO {F:Fence} {B:Option Nat} {L:Nat} {Y:Yd L} {Q:R -> QY Tryz.prog GG L} {k:List KI} {S:St} (t:Gt (fun r=>An Tryz.prog GG F B L Y (Q r) k S) [] [] [] [] A): ∀ r,A=some r -> An Tryz.prog GG F B L Y (Q r) k S:=t H0
theorem gT (t:Gt T [] [] [] [] A): ∀ r,A=some r -> T r:=t H0
theorem rO (t:Gt T [] [] [] [] A):Gt T c o z v A:=fun _=>t H0
theorem nO:Gt T c o z v none:=fun _ _ h=>by cases h
theorem lF (x:HS c o z v -> T r0):Gt T c o z v (some r0):=fun p _ h=>zAU h▸x p
theorem bn (x:b=true -> Gt T c o z v A) (y:b=false -> Gt T c o z v A'):Gt T c o z v (bif b then A else A'):=fun p r h=>(Bt h).elim (fun h=>x h.1 p r h.2) (fun h=>y h.1 p r h.2)
theorem bj (t:Nat) (x:b=true -> Gt T c (o++[(t,.bool true)]) z (v++[AS (.bool b) (.bool true)]) A) (y:b=false -> Gt T c (o++[(t,.bool false)]) z (v++[AS (.bool b) (.bool false)]) A'):Gt T c o z v (bif b then A else A'):=bn (fun h p=>x h (p.b t h)) (fun h p=>y h (p.b t h))
theorem bi (t:Nat) (x:Gt T c (o++[(t,.bool true)]) z (v++[AS (.bool b) (.bool true)]) A) (y:Gt T c (o++[(t,.bool false)]) z (v++[AS (.bool b) (.bool false)]) A'):Gt T c o z v (bif b then A else A'):=bj t (fun _=>x) (fun _=>y)
theorem gn {_:Decidable p} (x:p -> Gt T c o z v A):Gt T c o z v (if p then A else none):=fun w r h=>x (Bu h).1 w r (Bu h).2
theorem gi {_:Decidable p} (x:Gt T c o z (v++[p]) A):Gt T c o z v (if p then A else none):=gn fun g w=>x (w.g g)
theorem gc {_:Decidable p} {_:Decidable q} (x:Gt T c o z v (if p then (if q then A else none) else none)):Gt T c o z v (if p/\ q then A else none):=fun w r h=>x w r (by obtain ⟨⟨hp,hq⟩,h⟩:=Bu h;rw [zAB hp,zAB hq];exact h)
theorem gw {_:Decidable (AL xi)} (t:Nat) (x:Gt T c (o++[(t,.int .i64 xi)]) z (v++[AS (.int .i64 (IntKind.i64.wrap xi)) (.int .i64 xi)]) A):Gt T c o z v (if AL xi then A else none):=gn fun g w=>x (w.w t g)
theorem cn {F:Option R'} {A:R' -> Option R} (x: ∀ y,F=some y -> Gt T c o z v (A y)):Gt T c o z v (F.bind A):=fun w r h=>let ⟨y,hy,h⟩:=FM h;x y hy w r h
theorem cf {F:Option R'} {A:R' -> Option R} {d:R' -> DV} (k: ∀ {y},F=some y -> ES Tryz.prog GG f ds [] (d y) [] true) (h:DH) (x: ∀ y,Gt T (c++[(d y,h,true)]) o z (v++[ES Tryz.prog GG f ds h (d y) h true]) (A y)) (D7:ds.all Ep=true:=by kernel_rfl):Gt T c o z v (F.bind A):=cn fun y hy w=>x y (w.c (fb (k hy) h D7))
theorem ce {F:Option R'} {A:R' -> Option R} {d:R' -> DV} {h':R' -> DH} (k: ∀ {y},F=some y -> ES Tryz.prog GG f ds h (d y) (h' y) e) (σ:List Nat) (H:DH) (x: ∀ y,Gt T (c++[(up σ H.length (d y),Ez H σ (h' y),e)]) o z (v++[ES Tryz.prog GG f (ds.map (up σ H.length)) H (up σ H.length (d y)) (Ez H σ (h' y)) e]) (A y)) (hb: ∀ y,MH σ H.length h.length (h' y).length=true:=by intro;kernel_rfl) (hh:(σ.map fun k=>H.getD k none)=h.map (Ed σ H.length):=by kernel_rfl):Gt T c o z v (F.bind A):=cn fun y hy w=>x y (w.c (em (k hy) σ H (hb y) hh))
theorem jb (t:Nat) (g:b=b') (x:Gt T c (o++[(t,.bool b')]) z (v++[AS (.bool b) (.bool b')]) A):Gt T c o z v A:=fun w=>x (w.b t g)
theorem jw (t:Nat) (g:AL xi) (x:Gt T c (o++[(t,.int .i64 xi)]) z (v++[AS (.int .i64 (IntKind.i64.wrap xi)) (.int .i64 xi)]) A):Gt T c o z v A:=fun w=>x (w.w t g)
theorem jg (g:p) (x:Gt T c o z (v++[p]) A):Gt T c o z v A:=fun w=>x (w.g g)
theorem jt (x:Gt T c o z (v++[True]) A):Gt T c o z v A:=fun w=>x w.t
theorem jo (t:Nat) (g:AS d d') (x:Gt T c (o++[(t,d')]) z (v++[AS d d']) A):Gt T c o z v A:=fun w=>x (w.o t g)
theorem jc (g:ES Tryz.prog GG f ds h d h' e) (x:Gt T (c++[(d,h',e)]) o z (v++[ES Tryz.prog GG f ds h d h' e]) A):Gt T c o z v A:=fun w=>x (w.c g)
theorem jq {k:Nat} (g:Oc Tryz.prog GG f ds h d h' k) (x:Gt T (c++[(d,h',false)]) o z (v++[Oc Tryz.prog GG f ds h d h' k]) A):Gt T c o z v A:=fun w=>x (w.q g)
theorem ja (t k m:Nat) {n n':Nat} {f f':Nat -> Nat -> DV} (g:n=n'/\ ∀ i j,i<n -> j<m -> AS (f i j) (f' i j)) (x:Gt T c o (z++[(t,.arr k n' f')]) (v++[n=n'/\ ∀ i j,i<n -> j<m -> AS (f i j) (f' i j)]) A):Gt T c o z v A:=fun w=>x (w.a t k m g)
theorem jz (t k:Nat) (x:Gt T c o (z++[(t,.frz k)]) v A):Gt T c o z v A:=fun w=>x (w.z t k)
theorem jk (t:Nat) (x:Gt T c o (z++[(t,.rws)]) v A):Gt T c o z v A:=fun w=>x (w.k t)
end
section
variable {R:Type} {c:List (DV×DH×Bool)} {o:List (Nat×DV)} {z:List (Nat×Fz)} {v:List Prop} {A:Option R} {r0:R} {F:Fence} {B:Option Nat} {L:Nat} {Y N:BR Tryz.prog GG L} {k k':List KI} {S:St} {fr:List DV} {h':DH}
theorem lG [hX:HC F] (A9:Bi) (σ:List Nat) {Q:R -> QY Tryz.prog GG L} (hk: ∀ {r},A=some r -> An Tryz.prog GG F B L Y (Q r) k' ⟨fr,h'⟩) (tg:List (List (Nat×Nat)×St):=[])
 (h:(B9 Tryz.prog GG A9 400 k S ⟨c,o,z,tg⟩).bind (LY (Er 0 fr) σ L [])=some (.at k',fr,h',v,[],[],[],true):=by kernel_rfl) (hc:Hn k'=true:=by kernel_rfl):Gt (fun r=>An Tryz.prog GG F B L Y (Q r) k S) c o z v A:=
 fun p _ e=>gg A9 σ p (hk e) tg h hc
theorem lN [hX:HC F] {m:Nat} (A9:Bi) (σ:List Nat) {Q:R -> QY Tryz.prog GG L} (hk: ∀ {r},A=some r -> An Tryz.prog GG F B L Y (Q r) (A8 m k') ⟨fr,h'⟩) (tg:List (List (Nat×Nat)×St):=[])
 (h:(B9 Tryz.prog GG A9 400 k S ⟨c,o,z,tg⟩).bind (LY (Er 0 fr) σ L [])=some (.at k',fr,h',v,[],[],[],true):=by kernel_rfl) (hc:Hn k'=true:=by kernel_rfl) (hm:Na k'=true:=by kernel_rfl):Gt (fun r=>An Tryz.prog GG F B L Y (Q r) k S) c o z v A:=
 lG A9 σ (fun e=>en m (hk e) hm) tg h hc
theorem lE [hX:HC F] {fn:Func} {D:R -> DV} {E:R -> DH} (A9:Bi) (live σ:List Nat) (tg:List (List (Nat×Nat)×St):=[])
 (h:(B9 Tryz.prog GG A9 400 k S ⟨c,o,z,tg⟩).bind (fun r=>(I4 Tryz.prog live σ L [] fn (D r0) (E r0).length r).map fun q=>(q.1,Gz q.2.1,q.2.2))=some (true,D r0,E r0,v,[],[],[],true):=by kernel_rfl):Gt (fun r=>Bg Tryz.prog GG F B L N (DC Tryz.prog fn L (D r) (E r)) k S) c o z v (some r0):=
 lF fun p=>ee A9 live σ p tg h
end
end Go.Proofs.YtkjbblkieglmlaaGreatDoor
namespace Go.Proofs.YtkjbblkieglmlaaGreatDoor
abbrev zEE:=@Nat.le_of_succ_le
end Go.Proofs.YtkjbblkieglmlaaGreatDoor
namespace Go.Proofs.YtkjbblkieglmlaaGreatDoor
open Go.RowKit
set_option maxRecDepth 100000
set_option maxHeartbeats 40000000
inductive WH where
 | l1 (x8:Int)
def aH (n:Nat) (self:WH -> Option Int) (s_:List Int) (v:Int) (x8:Int):Option Int:=
 bif (decide (x8<(s_.length:Int))) then
  if 0<=x8/\ x8<(s_.length:Int) then
   bif (v==(s_.getD ((x8).toNat) 0)) then
    some x8
   else
    if AL (x8+1) then
     self (.l1 (x8+1))
    else none
  else none
 else
  some (-1)
def j8 (n:Nat) (self:WH -> Option Int) (s_:List Int) (v:Int):Option Int:=
 self (.l1 0)
def Nd (s_:List Int) (v:Int):Nat -> WH -> Option Int
 | 0,_=>none
 | n+1,.l1 x8=>aH n (Nd s_ v n) s_ v x8
def WI (n:Nat) (s_:List Int) (v:Int):Option Int:=j8 n (Nd s_ v n) s_ v
def wu (n B:Nat) (N:Yd 0) (s_:List Int) (v:Int) (r:Int):WH -> Prop
 | .l1 x8=>∀ m0:Nat,n<=m0 -> TW B N (FQ Tryz.f129 0 (.i r) []) (A8 m0 (BL (AY Tryz.f129) 0 [])) ⟨AG 19 [(0,.ints s_),(1,.i v),(7,.i (s_.length:Int)),(8,.i x8)],[]⟩
theorem wv (B:Nat) (N:Yd 0) (s_:List Int) (v:Int):Al (Nd s_ v) (wu · B N s_ v):=ia (fun _=>rfl) fun n AK pt r h=>by
 cases pt
 case l1 x8=>
  intro m0 AD;refine rd AD fun m0 AD=>?_
  revert r;apply gO;exact bi 9 (gi (bi 16 (lE AE [4] []) (gw 18 (lG AE [] (AK _ _ · m0 AD))))) (lE AE [4] [])
theorem wq {n:Nat} {s_:List Int} {v:Int} {r:Int} (h:WI n s_ v=some r):EQ 129 [.ints s_,.i v] [] (.i r) [] true:=by
 refine ot Tryz.func129 fun B N=>?_
 revert r;apply gO;exact lN AE [] ((wv B N s_ v n) _ _ · n Nat.le.refl)
inductive WJ where
 | l1 (x8:Int)
def Sc (n:Nat) (self:WJ -> Option Int) (s_:List Bool) (v:Bool) (x8:Int):Option Int:=
 bif (decide (x8<(s_.length:Int))) then
  if 0<=x8/\ x8<(s_.length:Int) then
   bif (v==(s_.getD ((x8).toNat) false)) then
    some x8
   else
    if AL (x8+1) then
     self (.l1 (x8+1))
    else none
  else none
 else
  some (-1)
def wx (n:Nat) (self:WJ -> Option Int) (s_:List Bool) (v:Bool):Option Int:=
 self (.l1 0)
def KQ (s_:List Bool) (v:Bool):Nat -> WJ -> Option Int
 | 0,_=>none
 | n+1,.l1 x8=>Sc n (KQ s_ v n) s_ v x8
def WK (n:Nat) (s_:List Bool) (v:Bool):Option Int:=wx n (KQ s_ v n) s_ v
def wy (n B:Nat) (N:Yd 0) (s_:List Bool) (v:Bool) (r:Int):WJ -> Prop
 | .l1 x8=>∀ m0:Nat,n<=m0 -> TW B N (FQ Tryz.f177 0 (.i r) []) (A8 m0 (BL (AY Tryz.f177) 0 [])) ⟨AG 19 [(0,.bools s_),(1,.bool v),(7,.i (s_.length:Int)),(8,.i x8)],[]⟩
theorem wz (B:Nat) (N:Yd 0) (s_:List Bool) (v:Bool):Al (KQ s_ v) (wy · B N s_ v):=ia (fun _=>rfl) fun n AK pt r h=>by
 cases pt
 case l1 x8=>
  intro m0 AD;refine rd AD fun m0 AD=>?_
  revert r;apply gO;exact bi 9 (gi (bi 16 (lE AE [4] []) (gw 18 (lG AE [] (AK _ _ · m0 AD))))) (lE AE [4] [])
theorem ww {n:Nat} {s_:List Bool} {v:Bool} {r:Int} (h:WK n s_ v=some r):EQ 177 [.bools s_,.bool v] [] (.i r) [] true:=by
 refine ot Tryz.func177 fun B N=>?_
 revert r;apply gO;exact lN AE [] ((wz B N s_ v n) _ _ · n Nat.le.refl)
def cL (n:Nat) (s_:List Int) (v:Int):Option Bool:=
 (WI n s_ v).bind fun y1=>
  some (decide (y1>=0))
def MM (n:Nat) (s_:List Int) (v:Int):Option Bool:=cL n s_ v
theorem mi {n:Nat} {s_:List Int} {v:Int} {r:Bool} (h:MM n s_ v=some r):EQ 100 [.ints s_,.i v] [] (.bool r) [] true:=by
 unfold MM cL at h;refine ot Tryz.func100 fun B N=>?_
 revert r;apply gO;exact cf wq [] fun _=>lE AE [4] []
theorem rK:Ar (Ag Tryz.f27 6) [] (List.range 9) []:=by unfold Ar;kernel_rfl
def Q8:Bi:=fun i=>match i with
 | 6=>.ord [] (List.range 9) []
 | _=>.no
inductive XG where
 | l1 (x13:Int)
def TT (n:Nat) (self:XG -> Option Bool) (EP En:List Int) (x13:Int):Option Bool:=
 bif (decide (x13<(EP.length:Int))) then
  if (0<=x13/\ x13<(EP.length:Int))/\ (0<=x13/\ x13<(En.length:Int)) then
   bif ((EP.getD ((x13).toNat) 0) != (En.getD ((x13).toNat) 0)) then
    some false
   else
    if AL (x13+1) then
     self (.l1 (x13+1))
    else none
  else none
 else
  some true
def mI (n:Nat) (self:XG -> Option Bool) (EP En:List Int):Option Bool:=
 bif ((EP.length:Int) != (En.length:Int)) then
  some false
 else
  self (.l1 0)
def P7 (EP En:List Int):Nat -> XG -> Option Bool
 | 0,_=>none
 | n+1,.l1 x13=>TT n (P7 EP En n) EP En x13
def P8 (n:Nat) (EP En:List Int):Option Bool:=mI n (P7 EP En n) EP En
def zBb (n B:Nat) (N:Yd 0) (EP En:List Int) (r:Bool):XG -> Prop
 | .l1 x13=>∀ m0:Nat,n<=m0 -> TW B N (FQ Tryz.f27 0 (.bool r) []) (A8 m0 (BL (AY Tryz.f27) 0 [])) ⟨AG 26 [(0,.ints EP),(1,.ints En),(12,.i (EP.length:Int)),(13,.i x13)],[]⟩
theorem zBc (B:Nat) (N:Yd 0) (EP En:List Int):Al (P7 EP En) (zBb · B N EP En):=ia (fun _=>rfl) fun n AK pt r h=>by
 cases pt
 case l1 x13=>
  intro m0 AD;refine rd AD fun m0 AD=>?_
  revert r;apply gO;exact bi 14 (jg rK (gc (gi (gi (bi 24 (lE Q8 [4] []) (gw 25 (lG Q8 [] (AK _ _ · m0 AD)))))))) (lE Q8 [4] [])
theorem mH {n:Nat} {EP En:List Int} {r:Bool} (h:P8 n EP En=some r):EQ 27 [.ints EP,.ints En] [] (.bool r) [] true:=by
 refine ot Tryz.func27 fun B N=>?_
 revert r;apply gO;exact bi 10 (lE Q8 [4] []) (lN Q8 [] ((zBc B N EP En n) _ _ · n Nat.le.refl))
inductive Pv where
 | l1 (A7:Int)
 | l2 (x3:Int) (x4:List Int) (A7:Int) (BH:List Int) (Jp C3:Int)
def bc (n:Nat) (self:Pv -> Option Int) (g_:List (List Int)) (A7:Int):Option Int:=
 bif (decide (A7<(g_.length:Int))) then
  if 0<=A7/\ A7<(g_.length:Int) then
   self (.l2 A7 (g_.getD ((A7).toNat) []) A7 (g_.getD ((A7).toNat) []) (((g_.getD ((A7).toNat) []).length:Nat):Int) 0)
  else none
 else
  some 0
def Wv (n:Nat) (self:Pv -> Option Int) (g_:List (List Int)) (x3:Int) (x4:List Int) (A7:Int) (BH:List Int) (Jp C3:Int):Option Int:=
 bif (decide (C3<Jp)) then
  if 0<=C3/\ C3<(BH.length:Int) then
   bif (decide ((BH.getD ((C3).toNat) 0)<0)) then
    some 120
   else
    bif (decide ((BH.getD ((C3).toNat) 0)>=(g_.length:Int))) then
     some 120
    else
     bif ((BH.getD ((C3).toNat) 0)==x3) then
      some 120
     else
      bif (decide (C3>0)) then
       if AL (C3-1)/\ (0<=(C3-1)/\ (C3-1)<(x4.length:Int)) then
        bif (decide ((x4.getD (((C3-1)).toNat) 0)>=(BH.getD ((C3).toNat) 0))) then
         some 120
        else
         if 0<=(BH.getD ((C3).toNat) 0)/\ (BH.getD ((C3).toNat) 0)<(g_.length:Int) then
          (MM n (g_.getD ((BH.getD ((C3).toNat) 0).toNat) []) x3).bind fun y1=>
           bif (!y1) then
            some 120
           else
            if AL (C3+1) then
             self (.l2 x3 x4 A7 BH Jp (C3+1))
            else none
         else none
       else none
      else
       if 0<=(BH.getD ((C3).toNat) 0)/\ (BH.getD ((C3).toNat) 0)<(g_.length:Int) then
        (MM n (g_.getD ((BH.getD ((C3).toNat) 0).toNat) []) x3).bind fun y1=>
         bif (!y1) then
          some 120
         else
          if AL (C3+1) then
           self (.l2 x3 x4 A7 BH Jp (C3+1))
          else none
       else none
  else none
 else
  if AL (A7+1) then
   self (.l1 (A7+1))
  else none
def lh (n:Nat) (self:Pv -> Option Int) (g_:List (List Int)):Option Int:=
 bif (decide ((g_.length:Int)>256)) then
  some 120
 else
  self (.l1 0)
def Ia (g_:List (List Int)):Nat -> Pv -> Option Int
 | 0,_=>none
 | n+1,.l1 A7=>bc n (Ia g_ n) g_ A7
 | n+1,.l2 x3 x4 A7 BH Jp C3=>Wv n (Ia g_ n) g_ x3 x4 A7 BH Jp C3
def TJ (n:Nat) (g_:List (List Int)):Option Int:=lh n (Ia g_ n) g_
def zAx (n B:Nat) (N:Yd 0) (g_:List (List Int)) (r:Int):Pv -> Prop
 | .l1 A7=>∀ m0:Nat,n<=m0 -> TW B N (FQ Tryz.f71 0 (.i r) []) (A8 m0 (BL (AY Tryz.f71) 0 [])) ⟨AG 61 [(0,.sl 1 g_.length (AQ Be g_)),(10,.sl 1 g_.length (AQ Be g_)),(11,.i (g_.length:Int)),(12,.i A7)],[]⟩
 | .l2 x3 x4 A7 BH Jp C3=>∀ m0 m1:Nat,n<=m0 -> n<=m1 -> TW B N (FQ Tryz.f71 0 (.i r) []) (A8 m1 (BL (AY Tryz.f71) 2 [m0])) ⟨AG 61 [(0,.sl 1 g_.length (AQ Be g_)),(3,.i x3),(4,.ints x4),(10,.sl 1 g_.length (AQ Be g_)),(11,.i (g_.length:Int)),(12,.i A7),(17,.ints BH),(18,.i Jp),(19,.i C3)],[]⟩
theorem zAy (B:Nat) (N:Yd 0) (g_:List (List Int)):Al (Ia g_) (zAx · B N g_):=ia (fun _=>rfl) fun n AK pt r h=>by
 cases pt
 case l1 A7=>
  intro m0 AD;refine rd AD fun m0 AD=>?_
  revert r;apply gO;exact bi 13 (gi (lN AE [] (AK _ _ · m0 n AD Nat.le.refl))) (lE AE [2] [])
 case l2 x3 x4 A7 BH Jp C3=>
  intro m0 m1 AD Az;have AD:=zEE AD;refine rd Az fun m1 Az=>?_
  revert r;apply gO;exact bi 20 (gi (bi 25 (lE AE [2] []) (bi 30 (lE AE [2] []) (bi 35 (lE AE [2] []) (bi 39 (gc (gw 43 (gi (bi 47 (lE AE [2] []) (gi (cf mi [] fun _=>bi 57 (lE AE [2] []) (gw 59 (lG AE [] (AK _ _ · m0 m1 AD Az))))))))) (gi (cf mi [] fun _=>bi 57 (lE AE [2] []) (gw 59 (lG AE [] (AK _ _ · m0 m1 AD Az)))))))))) (gw 60 (lG AE [] (AK _ _ · m0 AD)))
theorem lf {n:Nat} {g_:List (List Int)} {r:Int} (h:TJ n g_=some r):EQ 71 [.sl 1 g_.length (AQ Be g_)] [] (.i r) [] true:=by
 refine ot Tryz.func71 fun B N=>?_
 revert r;apply gO;exact bi 9 (lE AE [2] []) (lN AE [] ((zAy B N g_ n) _ _ · n Nat.le.refl))
inductive XD where
 | l1 (x3:Int)
def XC (n:Nat) (self:XD -> Option Bool) (q:AA) (x3:Int):Option Bool:=
 bif (decide (x3<(q.cons.length:Int))) then
  if 0<=x3/\ x3<(q.cons.length:Int) then
   bif (decide (((((q.cons.getD ((x3).toNat) default).cells).length:Nat):Int)>20)) then
    some false
   else
    bif (decide (((((q.cons.getD ((x3).toNat) default).runs).length:Nat):Int)>10)) then
     some false
    else
     if AL (x3+1) then
      self (.l1 (x3+1))
     else none
  else none
 else
  some true
def mD (n:Nat) (self:XD -> Option Bool) (q:AA):Option Bool:=
 bif (decide (q.cells>16)) then
  some false
 else
  bif (decide (q.symbols>6)) then
   some false
  else
   bif (decide ((q.values.length:Int)>8)) then
    some false
   else
    bif (decide ((q.nbrs.length:Int)>20)) then
     some false
    else
     bif (decide ((q.cons.length:Int)>120)) then
      some false
     else
      self (.l1 0)
def Kl (q:AA):Nat -> XD -> Option Bool
 | 0,_=>none
 | n+1,.l1 x3=>XC n (Kl q n) q x3
def XE (n:Nat) (q:AA):Option Bool:=mD n (Kl q n) q
def zBS (n B:Nat) (N:Yd 0) (q:AA) (r:Bool):XD -> Prop
 | .l1 x3=>∀ m0:Nat,n<=m0 -> TW B N (FQ Tryz.f25 0 (.bool r) []) (A8 m0 (BL (AY Tryz.f25) 0 [])) ⟨AG 55 [(1,.ref 0 0),(3,.i x3)],[some (.cells (AC q))]⟩
theorem zBT (B:Nat) (N:Yd 0) (q:AA):Al (Kl q) (zBS · B N q):=ia (fun _=>rfl) fun n AK pt r h=>by
 cases pt
 case l1 x3=>
  intro m0 AD;refine rd AD fun m0 AD=>?_
  revert r;apply gO;exact bi 34 (gn fun g0=>jg g0 (bi 44 (lE AE [2] []) (jg g0 (bi 53 (lE AE [2] []) (gw 36 (lG AE [0] (AK _ _ · m0 AD))))))) (lE AE [2] [])
theorem zBR {n:Nat} {q:AA} {r:Bool} (h:XE n q=some r):EQ 25 [.agg 5 (L1 (AC q))] [] (.bool r) [] true:=by
 refine ot Tryz.func25 fun B N=>?_
 revert r;apply gO;exact bi 6 (lE AE [2] []) (bi 10 (lE AE [2] []) (bi 16 (lE AE [2] []) (bi 22 (lE AE [2] []) (bi 28 (lE AE [2] []) (lN AE [0] ((zBT B N q n) _ _ · n Nat.le.refl))))))
end Go.Proofs.YtkjbblkieglmlaaGreatDoor
namespace Go.Proofs.YtkjbblkieglmlaaGreatDoor
open Go.RowKit
set_option maxRecDepth 100000
set_option maxHeartbeats 40000000
def dc (n:Nat) (v lo hi:Int):Option Bool:=
 bif (decide (v<lo)) then
  some true
 else
  some (decide (v>hi))
def X7 (n:Nat) (v lo hi:Int):Option Bool:=dc n v lo hi
theorem oA {n:Nat} {v lo hi:Int} {r:Bool} (h:X7 n v lo hi=some r):EQ 99 [.i v,.fp 1 (L1 [.i lo]),.fp 1 (L1 [.i hi])] [] (.bool r) [] true:=by
 refine ot Tryz.func99 fun B N=>?_
 revert r;apply gO;exact bi 7 (lE AE [4] []) (lE AE [4] [])
inductive WF where
 | l1 (x8:Int)
def aG (n:Nat) (self:WF -> Option Int) (l:List Int) (lo hi:Int) (x8:Int):Option Int:=
 bif (decide (x8<(l.length:Int))) then
  if 0<=x8/\ x8<(l.length:Int) then
   (X7 n (l.getD ((x8).toNat) 0) lo hi).bind fun y1=>
    bif y1 then
     some x8
    else
     if AL (x8+1) then
      self (.l1 (x8+1))
     else none
  else none
 else
  some (-1)
def j7 (n:Nat) (self:WF -> Option Int) (l:List Int) (lo hi:Int):Option Int:=
 self (.l1 0)
def Nc (l:List Int) (lo hi:Int):Nat -> WF -> Option Int
 | 0,_=>none
 | n+1,.l1 x8=>aG n (Nc l lo hi n) l lo hi x8
def WG (n:Nat) (l:List Int) (lo hi:Int):Option Int:=j7 n (Nc l lo hi n) l lo hi
def wn (n B:Nat) (N:Yd 0) (l:List Int) (lo hi:Int) (r:Int):WF -> Prop
 | .l1 x8=>∀ m0:Nat,n<=m0 -> TW B N (FQ Tryz.f101 0 (.i r) []) (A8 m0 (BL (AY Tryz.f101) 0 [])) ⟨AG 19 [(0,.ints l),(1,.fn 99 2 (L1 [.fp 1 (L1 [.i lo]),.fp 1 (L1 [.i hi])])),(7,.i (l.length:Int)),(8,.i x8)],[]⟩
theorem wo (B:Nat) (N:Yd 0) (l:List Int) (lo hi:Int):Al (Nc l lo hi) (wn · B N l lo hi):=ia (fun _=>rfl) fun n AK pt r h=>by
 cases pt
 case l1 x8=>
  intro m0 AD;refine rd AD fun m0 AD=>?_
  revert r;apply gO;exact bi 9 (gi (cf oA [] fun _=>bi 16 (lE AE [4] []) (gw 18 (lG AE [] (AK _ _ · m0 AD))))) (lE AE [4] [])
theorem wl {n:Nat} {l:List Int} {lo hi:Int} {r:Int} (h:WG n l lo hi=some r):EQ 101 [.ints l,.fn 99 2 (L1 [.fp 1 (L1 [.i lo]),.fp 1 (L1 [.i hi])])] [] (.i r) [] true:=by
 refine ot Tryz.func101 fun B N=>?_
 revert r;apply gO;exact lN AE [] ((wo B N l lo hi n) _ _ · n Nat.le.refl)
def cK (n:Nat) (l:List Int) (lo hi:Int):Option Bool:=
 (WG n l lo hi).bind fun y1=>
  some (decide (y1>=0))
def XT (n:Nat) (l:List Int) (lo hi:Int):Option Bool:=cK n l lo hi
theorem zCO {n:Nat} {l:List Int} {lo hi:Int} {r:Bool} (h:XT n l lo hi=some r):EQ 74 [.ints l,.fn 99 2 (L1 [.fp 1 (L1 [.i lo]),.fp 1 (L1 [.i hi])])] [] (.bool r) [] true:=by
 unfold XT cK at h;refine ot Tryz.func74 fun B N=>?_
 revert r;apply gO;exact cf wl [] fun _=>lE AE [4] []
def ZA (n:Nat) (l_:List Int) (lo hi:Int):Option Bool:=
 (XT n l_ lo hi).bind fun y1=>
  some (!y1)
def LV (n:Nat) (l_:List Int) (lo hi:Int):Option Bool:=ZA n l_ lo hi
theorem VJ {n:Nat} {l_:List Int} {lo hi:Int} {r:Bool} (h:LV n l_ lo hi=some r):EQ 70 [.ints l_,.i lo,.i hi] [] (.bool r) [] true:=by
 unfold LV ZA at h;refine ot Tryz.func70 fun B N=>?_
 revert r;apply gO;exact cn fun y1 A5=>jc (sb [.ints l_,.fn 99 2 (L1 [.ref 0 0,.ref 1 0])] (zCO A5) [some (.cells [.i lo]),some (.cells [.i hi])] ⟨Ad.plain (by kernel_rfl),(Ad.fnL (l:=[.ref 0 0,.ref 1 0]) (l0:=[.fp 1 (L1 [.i lo]),.fp 1 (L1 [.i hi])]) ⟨(Ad.refL (l:=[.i lo]) (l0:=[.i lo]) rfl ⟨Ad.plain (by kernel_rfl),trivial⟩),(Ad.refL (l:=[.i hi]) (l0:=[.i hi]) rfl ⟨Ad.plain (by kernel_rfl),trivial⟩),trivial⟩),trivial⟩) (lE AE [6] [])
theorem rJ:Ar (Ag Tryz.f73 24) [([0,1,2,3,5,6,7,8],4),([],9),([10,11,12,13,14],15),([],16),([17,18,19,20,21,22,23,24,25,26],27)] [28,29] []:=by unfold Ar;kernel_rfl
def Dc:Bi:=fun i=>match i with
 | 24=>.ord [([0,1,2,3,5,6,7,8],4),([],9),([10,11,12,13,14],15),([],16),([17,18,19,20,21,22,23,24,25,26],27)] [28,29] []
 | _=>.no
def kW (q:AA) (c_:AB):DH:=[some (.cells (AC q)),some (.cells (AJ c_)),some (.ints ([c_.set,c_.other]:List Int)),some (.ints ([c_.lo,c_.hi]:List Int))]
inductive L8 where
 | l1 (Bc:Int) (o2:List Bool)
 | l2
def TS (n:Nat) (self:L8 -> Option Bool) (q:AA) (c_:AB) (Bc:Int) (o2:List Bool):Option Bool:=
 bif (decide (Bc<(c_.cells.length:Int))) then
  if 0<=Bc/\ Bc<(c_.cells.length:Int) then
   bif (decide ((c_.cells.getD ((Bc).toNat) 0)<0)) then
    some false
   else
    bif (decide ((c_.cells.getD ((Bc).toNat) 0)>=q.cells)) then
     some false
    else
     if (0<=(c_.cells.getD ((Bc).toNat) 0)/\ (c_.cells.getD ((Bc).toNat) 0)<((256:Nat):Int))/\ 0+((c_.cells.getD ((Bc).toNat) 0).toNat)<o2.length then
      bif (o2.getD (0+((c_.cells.getD ((Bc).toNat) 0).toNat)) false) then
       some false
      else
       bif (decide (c_.kind>=8)) then
        bif ((c_.cells.getD ((Bc).toNat) 0) != Bc) then
         some false
        else
         if AL (Bc+1) then
          self (.l1 (Bc+1) (o2.set (0+((c_.cells.getD ((Bc).toNat) 0).toNat)) true))
         else none
       else
        if AL (Bc+1) then
         self (.l1 (Bc+1) (o2.set (0+((c_.cells.getD ((Bc).toNat) 0).toNat)) true))
        else none
     else none
  else none
 else
  bif (c_.kind==1) then
   self (.l2)
  else
   bif (c_.kind==2) then
    self (.l2)
   else
    bif (c_.kind==3) then
     self (.l2)
    else
     bif (c_.kind==4) then
      self (.l2)
     else
      bif (c_.kind==5) then
       self (.l2)
      else
       bif (c_.kind==6) then
        bif ((c_.cells.length:Int) != 2) then
         some false
        else
         self (.l2)
       else
        bif (c_.kind==7) then
         bif ((c_.cells.length:Int) != 2) then
          some false
         else
          self (.l2)
        else
         bif (c_.kind==8) then
          bif ((c_.cells.length:Int) != q.cells) then
           some false
          else
           self (.l2)
         else
          bif (c_.kind==9) then
           bif ((c_.cells.length:Int) != q.cells) then
            some false
           else
            self (.l2)
          else
           some false
def W6 (n:Nat) (self:L8 -> Option Bool) (q:AA) (c_:AB):Option Bool:=
 if (0<=q.symbols/\ q.symbols<=(IntKind.i64.bits:Int))/\ AL ((IntKind.i64.wrap (1*2 ^ (q.symbols).toNat))-1) then
  (LV n ([c_.set,c_.other]:List Int) 0 ((IntKind.i64.wrap (1*2 ^ (q.symbols).toNat))-1)).bind fun y1=>
   bif y1 then
    (LV n ([c_.lo,c_.hi]:List Int) 0 65536).bind fun y2=>
     bif y2 then
      bif (decide ((c_.runs.length:Int)<=8)) then
       (LV n c_.runs 1 256).bind fun y3=>
        some y3
      else
       some false
     else
      some false
   else
    some false
 else none
def ly (n:Nat) (self:L8 -> Option Bool) (q:AA) (c_:AB):Option Bool:=
 self (.l1 0 (List.replicate 256 false))
def P4 (q:AA) (c_:AB):Nat -> L8 -> Option Bool
 | 0,_=>none
 | n+1,.l1 Bc o2=>TS n (P4 q c_ n) q c_ Bc o2
 | n+1,.l2=>W6 n (P4 q c_ n) q c_
def W7 (n:Nat) (q:AA) (c_:AB):Option Bool:=ly n (P4 q c_ n) q c_
def zBL (n B:Nat) (N:Yd 0) (q:AA) (c_:AB) (r:Bool):L8 -> Prop
 | .l1 Bc o2=>∀ m0:Nat,n<=m0 -> TW B N (FQ Tryz.f73 0 (.bool r) []) (A8 m0 (BL (AY Tryz.f73) 0 [])) ⟨AG 95 [(2,.ref 0 0),(3,.ref 1 0),(5,.mp 2 1 0 0),(9,.ints c_.cells),(10,.i (c_.cells.length:Int)),(11,.i Bc)],[some (.cells (AC q)),some (.cells (AJ c_)),some (.bools o2)]⟩
 | .l2=>TW B N (FQ Tryz.f73 0 (.bool r) []) (CO (AY Tryz.f73) 24 []) ⟨AG 95 [(2,.ref 0 0),(3,.ref 1 0)],[some (.cells (AC q)),some (.cells (AJ c_))]⟩
theorem zBM (B:Nat) (N:Yd 0) (q:AA) (c_:AB):Al (P4 q c_) (zBL · B N q c_):=ia (fun _=>rfl) fun n AK pt r h=>by
 cases pt
 case l1 Bc o2=>
  intro m0 AD;refine rd AD fun m0 AD=>?_
  revert r;apply gO;exact bi 12 (gi (bi 17 (lE (AR 24 Dc) [4] []) (bi 22 (lE (AR 24 Dc) [4] []) (gc (gn fun g1=>jg g1 (gn fun g2=>jg g2 (bi 27 (lE (AR 24 Dc) [4] []) (bi 32 (bi 36 (lE (AR 24 Dc) [4] []) (jg g1 (jg g2 (gw 41 (lG (AR 24 Dc) [0,1,2] (AK _ _ · m0 AD)))))) (jg g1 (jg g2 (gw 41 (lG (AR 24 Dc) [0,1,2] (AK _ _ · m0 AD))))))))))))) (bi 45 (lG (AR 24 Dc) [0,1] (AK _ _ ·)) (bi 46 (lG (AR 24 Dc) [0,1] (AK _ _ ·)) (bi 47 (lG (AR 24 Dc) [0,1] (AK _ _ ·)) (bi 48 (lG (AR 24 Dc) [0,1] (AK _ _ ·)) (bi 49 (lG (AR 24 Dc) [0,1] (AK _ _ ·)) (bi 51 (bi 56 (lE (AR 24 Dc) [4] []) (lG (AR 24 Dc) [0,1] (AK _ _ ·))) (bi 52 (bi 56 (lE (AR 24 Dc) [4] []) (lG (AR 24 Dc) [0,1] (AK _ _ ·))) (bi 58 (bi 65 (lE (AR 24 Dc) [4] []) (lG (AR 24 Dc) [0,1] (AK _ _ ·))) (bi 59 (bi 65 (lE (AR 24 Dc) [4] []) (lG (AR 24 Dc) [0,1] (AK _ _ ·))) (lE (AR 24 Dc) [4] []))))))))))
 case l2=>
  revert r;apply gO;exact jg rJ (gc (gi (gw 74 (cn fun y1 A5=>jc (sb [.msl 2 1 0 2,.i 0,.i ((IntKind.i64.wrap (1*2 ^ (q.symbols).toNat))-1)] (VJ A5) [some (.cells (AC q)),some (.cells (AJ c_)),some (.ints ([c_.set,c_.other]:List Int))] ⟨Ad.ints rfl (Eq.refl 2),Ad.plain (by kernel_rfl),Ad.plain (by kernel_rfl),trivial⟩) (bi 75 (cn fun y2 Bz=>jc (sb [.msl 3 1 0 2,.i 0,.i 65536] (VJ Bz) (kW q c_) ⟨Ad.ints rfl (Eq.refl 2),Ad.plain (by kernel_rfl),Ad.plain (by kernel_rfl),trivial⟩) (bi 82 (bi 88 (cf VJ (kW q c_) fun _=>lE Dc [4] []) (lE Dc [4] [])) (lE Dc [4] []))) (lE Dc [4] []))))))
theorem zBJ {n:Nat} {q:AA} {c_:AB} {r:Bool} (h:W7 n q c_=some r):EQ 73 [.agg 5 (L1 (AC q)),.agg 9 (L1 (AJ c_))] [] (.bool r) [] true:=by
 refine ot Tryz.func73 fun B N=>?_
 revert r;apply gO;exact lN (AR 24 Dc) [0,1,2] ((zBM B N q c_ n) _ _ · n Nat.le.refl)
def YE (n:Nat) (c:AB) (q:AA):Option Bool:=
 (W7 n q c).bind fun y1=>
  some (!y1)
def UQ (n:Nat) (c:AB) (q:AA):Option Bool:=YE n c q
theorem oJ {n:Nat} {c:AB} {q:AA} {r:Bool} (h:UQ n c q=some r):EQ 72 [.agg 9 (L1 (AJ c)),.fp 5 (L1 (AC q))] [] (.bool r) [] true:=by
 unfold UQ YE at h;refine ot Tryz.func72 fun B N=>?_
 revert r;apply gO;exact cf zBJ [some (.cells (AJ c))] fun _=>lE AE [3] []
inductive WC where
 | l1 (x8:Int)
def WB (n:Nat) (self:WC -> Option Int) (l:List AB) (q:AA) (x8:Int):Option Int:=
 bif (decide (x8<(l.length:Int))) then
  if 0<=x8/\ x8<(l.length:Int) then
   (UQ n (l.getD ((x8).toNat) default) q).bind fun y1=>
    bif y1 then
     some x8
    else
     if AL (x8+1) then
      self (.l1 (x8+1))
     else none
  else none
 else
  some (-1)
def jy (n:Nat) (self:WC -> Option Int) (l:List AB) (q:AA):Option Int:=
 self (.l1 0)
def Li (l:List AB) (q:AA):Nat -> WC -> Option Int
 | 0,_=>none
 | n+1,.l1 x8=>WB n (Li l q n) l q x8
def WD (n:Nat) (l:List AB) (q:AA):Option Int:=jy n (Li l q n) l q
def we (n B:Nat) (N:Yd 0) (l:List AB) (q:AA) (r:Int):WC -> Prop
 | .l1 x8=>∀ m0:Nat,n<=m0 -> TW B N (FQ Tryz.f44 0 (.i r) []) (A8 m0 (BL (AY Tryz.f44) 0 [])) ⟨AG 19 [(0,.sl 9 l.length (AQ AJ l)),(1,.fn 72 1 (L1 [.fp 5 (L1 (AC q))])),(7,.i (l.length:Int)),(8,.i x8)],[]⟩
theorem wf (B:Nat) (N:Yd 0) (l:List AB) (q:AA):Al (Li l q) (we · B N l q):=ia (fun _=>rfl) fun n AK pt r h=>by
 cases pt
 case l1 x8=>
  intro m0 AD;refine rd AD fun m0 AD=>?_
  revert r;apply gO;exact bi 9 (gi (cf oJ [] fun _=>bi 16 (lE AE [4] []) (gw 18 (lG AE [] (AK _ _ · m0 AD))))) (lE AE [4] [])
theorem wd {n:Nat} {l:List AB} {q:AA} {r:Int} (h:WD n l q=some r):EQ 44 [.sl 9 l.length (AQ AJ l),.fn 72 1 (L1 [.fp 5 (L1 (AC q))])] [] (.i r) [] true:=by
 refine ot Tryz.func44 fun B N=>?_
 revert r;apply gO;exact lN AE [] ((wf B N l q n) _ _ · n Nat.le.refl)
def cI (n:Nat) (l:List AB) (q:AA):Option Bool:=
 (WD n l q).bind fun y1=>
  some (decide (y1>=0))
def XS (n:Nat) (l:List AB) (q:AA):Option Bool:=cI n l q
theorem zCM {n:Nat} {l:List AB} {q:AA} {r:Bool} (h:XS n l q=some r):EQ 31 [.sl 9 l.length (AQ AJ l),.fn 72 1 (L1 [.fp 5 (L1 (AC q))])] [] (.bool r) [] true:=by
 unfold XS cI at h;refine ot Tryz.func31 fun B N=>?_
 revert r;apply gO;exact cf wd [] fun _=>lE AE [4] []
def dg (n:Nat) (q:AA):Option Int:=
 bif (decide (q.cells<1)) then
  some 191
 else
  bif (decide (q.cells>256)) then
   some 191
  else
   bif (decide (q.symbols<1)) then
    some 191
   else
    bif (decide (q.symbols>16)) then
     some 191
    else
     bif ((q.values.length:Int) != q.symbols) then
      some 191
     else
      (LV n q.values 0 99).bind fun y1=>
       bif (!y1) then
        some 191
       else
        bif ((q.nbrs.length:Int) != q.cells) then
         some 191
        else
         (TJ n q.nbrs).bind fun y2=>
          bif (y2 != 0) then
           some 191
          else
           bif (decide ((q.cons.length:Int)>4096)) then
            some 191
           else
            (XS n q.cons q).bind fun y3=>
             bif y3 then
              some 191
             else
              some 0
def valid (n:Nat) (q:AA):Option Int:=dg n q
theorem UM {n:Nat} {q:AA} {r:Int} (h:valid n q=some r):EQ 42 [.agg 5 (L1 (AC q))] [] (.i r) [] true:=by
 refine ot Tryz.func42 fun B N=>?_
 revert r;apply gO;exact bi 5 (lE AE [2] []) (bi 9 (lE AE [2] []) (bi 14 (lE AE [2] []) (bi 19 (lE AE [2] []) (bi 27 (lE AE [2] []) (cf VJ [some (.cells (AC q))] fun _=>bi 33 (lE AE [2] []) (bi 40 (lE AE [2] []) (cf lf [some (.cells (AC q))] fun _=>bi 45 (lE AE [2] []) (bi 51 (lE AE [2] []) (cn fun y3 aQ=>jc (sb [.sl 9 q.cons.length (AQ AJ q.cons),.fn 72 1 (L1 [.ref 0 0])] (zCM aQ) [some (.cells (AC q))] ⟨Ad.plain (by kernel_rfl),(Ad.fnL (l:=[.ref 0 0]) (l0:=[.fp 5 (L1 (AC q))]) ⟨(Ad.refL (l:=(AC q)) (l0:=(AC q)) rfl ⟨Ad.plain (by kernel_rfl),Ad.plain (by kernel_rfl),Ad.plain (by kernel_rfl),Ad.plain (by kernel_rfl),Ad.plain (by kernel_rfl),trivial⟩),trivial⟩),trivial⟩) (bi 56 (lE AE [2] []) (lE AE [2] [])))))))))))
def Z0 (n:Nat) (q:AA) (i:Int):Option (Int×Int):=
 (valid n q).bind fun y1=>
  bif (y1 != 0) then
   some (0,y1)
  else
   bif (decide (i<0)) then
    some (0,260)
   else
    bif (decide (i>=(q.cons.length:Int))) then
     some (0,260)
    else
     if (0<=i/\ i<(q.cons.length:Int))/\ ((0:Int)<=((q.cons.getD ((i).toNat) default).kind)/\ ((q.cons.getD ((i).toNat) default).kind)<((10:Nat):Int)) then
      some (([0,1,1,2,2,3,1,1,4,4]:List Int).getD ((q.cons.getD ((i).toNat) default).kind).toNat 0,0)
     else none
def SO (n:Nat) (q:AA) (i:Int):Option (Int×Int):=Z0 n q i
theorem vU {n:Nat} {q:AA} {i:Int} {r:Int×Int} (h:SO n q i=some r):EQ 131 [.agg 5 (L1 (AC q)),.i i] [] (.tup 2 (L1 [.i r.1,.i r.2])) [] true:=by
 unfold SO Z0 at h;refine ot Tryz.func131 fun B N=>?_
 revert r;apply gO;exact cf UM [some (.cells (AC q))] fun _=>bi 10 (lE AE [4,5] []) (bi 13 (lE AE [4,5] []) (bi 19 (lE AE [4,5] []) (gc (gi (gn fun g1=>jg g1 (jo 28 (AS.ixI [0,1,1,2,2,3,1,1,4,4] rfl g1) (lE AE [4,5] [])))))))
end Go.Proofs.YtkjbblkieglmlaaGreatDoor
namespace Go.Proofs.YtkjbblkieglmlaaGreatDoor
abbrev zAC:=@cond_false
abbrev zAE:=@decide_eq_false
abbrev zAK:=@cond_true
abbrev zAO:=@Int.toNat_natCast
abbrev zDr:=@beq_eq_false_iff_ne
abbrev zEC:=@Bool.not_false
abbrev zEW:=@Bool.or_false
abbrev zEj:=@Int.natCast_nonneg
abbrev zEo:=@decide_true
abbrev zE1:=@List.exists_of_findSome?_eq_some
abbrev zE7:=@Int.eq_ofNat_of_zero_le
abbrev zFG:=@List.contains_iff_mem
abbrev zFK:=@List.findSome?_eq_none_iff
abbrev zFc:=@List.length_erase_of_mem
abbrev zFn:=@and_self
abbrev zFy:=@List.range'_succ
abbrev zF0:=@List.range_eq_range'
end Go.Proofs.YtkjbblkieglmlaaGreatDoor
namespace Go.Proofs.YtkjbblkieglmlaaGreatDoor
def Nf (lo hi:Int) (n:Int):Bool:=decide (lo<=n)&&decide (n<=hi)
def El (xs:List Int) (lo hi:Int):Bool:=xs.all (Nf lo hi)
def HA (g:List (List Int)) (i:Nat) (l:List Int) (k:Nat):Bool:=
 let n:=l.getD k 0
 decide (0<=n)&&decide (n<g.length)&&(n != i)&&(!decide (0<k)||decide (l.getD (k-1) 0<n))&&(g.getD n.toNat []).contains (i:Int)
def Iv (g:List (List Int)) (i:Nat) (l:List Int):Bool:=(List.range l.length).all (HA g i l)
def Kj (g:List (List Int)):Bool:=decide (g.length<=256)&&(List.range g.length).all fun i=>Iv g i (g.getD i [])
def OM (n kind:Int) (cells:List Int) (i:Nat):Bool:=
 let x:=cells.getD i 0
 decide (0<=x)&&decide (x<n)&&!(cells.take i).contains x&&(!decide (8<=kind)||x==(i:Int))
def Xf (n kind:Int) (cells:List Int):Bool:=(List.range cells.length).all (OM n kind cells)
def GF (n kind:Int) (len:Nat):Bool:=
 (decide (1<=kind)&&decide (kind<=5))||((kind==6||kind==7)&&len==2)||((kind==8||kind==9)&&(len:Int)==n)
def FI (q:AA) (c:AB):Bool:=
 Xf q.cells c.kind c.cells&&GF q.cells c.kind c.cells.length&&
 El [c.set,c.other] 0 (2 ^ q.symbols.toNat-1)&&El [c.lo,c.hi] 0 65536&&decide (c.runs.length<=8)&&El c.runs 1 256
def Zh (l:List Int):Bool:=(List.range l.length).all fun i=>!(l.take i).contains (l.getD i 0)
theorem Zg: ∀ (n:Nat) (l:List Int),l.Nodup -> (∀ x∈l,0<=x/\ x<(n:Int)) -> l.length<=n
 | 0,l,_,h=>by
  cases l with
  | nil=>simp
  | cons a l=>have:=h a (by simp);omega
 | n+1,l,hd,h=>by
  have h1:(l.erase (n:Int)).length<=n:=Zg n _ (hd.erase _) (fun x hx=>by
   have:=hd.mem_erase_iff.1 hx;have h2:=h x this.2;have h3:=this.1;omega)
  by_cases hm:(n:Int)∈l
  ·have:=zFc hm;omega
  ·rw [List.erase_of_not_mem hm] at h1;omega
theorem uh {l:List Int}:Zh l=true↔l.Nodup:=by
 unfold Zh List.Nodup;rw [zAW,List.pairwise_iff_getElem];constructor
 ·intro h i j hi hj Ph e;have:=h j (by simpa using hj);simp only [u8,zAQ hj,zEY,zEM] at this;rw [zE0,ne_eq,zFG,List.mem_take_iff_getElem] at this;exact this ⟨i,by omega,e⟩
 ·intro h i hi;have BP:i<l.length:=by simpa using hi
  simp only [u8,zAQ BP,zEY,zEM];rw [zE0,ne_eq,zFG,List.mem_take_iff_getElem];rintro ⟨j,hj,e⟩;exact h j i (by omega) BP (by omega) e
theorem X5 {l:List Int} {lo hi:Int}:El l lo hi=true↔∀ x∈l,lo<=x/\ x<=hi:=by
 unfold El;simp [Nf]
theorem zCp {n kind:Int} {cells:List Int}:Xf n kind cells=true↔(∀ x∈cells,0<=x/\ x<n)/\ cells.Nodup/\ (8<=kind -> ∀ j,j<cells.length -> cells.getD j 0=(j:Int)):=by
 rw [←uh];unfold Xf Zh OM;simp only [zAW,zAd,zAL,zBg,zDh,zEM,zDw,decide_eq_false_iff_not];constructor
 ·intro h;refine ⟨fun x hx=>?_,fun j hj=>(h j hj).1.2,fun h8 j hj=>?_⟩
  ·obtain ⟨j,hj,rfl⟩:=zEN hx;have:=(h j hj).1.1;simpa [hj] using this
  ·rcases (h j hj).2 with h' | h'
   ·exact absurd h8 h'
   ·exact h'
 ·rintro ⟨h1,h2,h3⟩ j hj;have hx:=h1 _ (zDi hj);refine ⟨⟨by simpa [hj] using hx,h2 j hj⟩,?_⟩
  by_cases h8:8<=kind
  ·exact .inr (h3 h8 j hj)
  ·exact .inl h8
def CM (q:AA):Bool:=
 decide (1<=q.cells)&&decide (q.cells<=256)&&decide (1<=q.symbols)&&decide (q.symbols<=16)&&((q.values.length:Int)==q.symbols)&&El q.values 0 99&&
 ((q.nbrs.length:Int)==q.cells)&&Kj q.nbrs&&decide (q.cons.length<=4096)&&q.cons.all (FI q)
def Zw (kind:Int):Int:=if kind=3∨kind=4 then 2 else if kind=5 then 3 else if kind=8∨kind=9 then 4 else 1
def JC (q:AA) (i:Int):Int×Int:=
 if CM q=false then (0,191) else if 0<=i/\ i<q.cons.length then (Zw ((q.cons.getD i.toNat default).kind),0) else (0,260)
theorem Fg {q:AA} (h:CM q=true):(1<=q.cells/\ q.cells<=256)/\ (1<=q.symbols/\ q.symbols<=16)/\ ((q.values.length:Int)=q.symbols/\ El q.values 0 99=true)/\
 ((q.nbrs.length:Int)=q.cells/\ Kj q.nbrs=true)/\ q.cons.length<=4096/\ ∀ c∈q.cons,FI q c=true:=by
 unfold CM at h;simp only [zAL,zBg,zDw,zAW] at h;obtain ⟨⟨⟨⟨⟨⟨⟨⟨⟨h1,h2⟩,h3⟩,h4⟩,h5⟩,h6⟩,h7⟩,h8⟩,h9⟩,bV⟩:=h;exact ⟨⟨h1,h2⟩,⟨h3,h4⟩,⟨h5,h6⟩,⟨h7,h8⟩,h9,bV⟩
theorem jZ {q:AA} {c:AB} (h:FI q c=true):GF q.cells c.kind c.cells.length=true:=by
 unfold FI at h;simp only [zAL] at h;exact h.1.1.1.1.2
theorem SR {n kind:Int} {len:Nat} (h:GF n kind len=true):1<=kind/\ kind<=9:=by
 unfold GF at h;simp at h;omega
theorem SS {k:Int} (h:1<=k/\ k<=9):k=1∨k=2∨k=3∨k=4∨k=5∨k=6∨k=7∨k=8∨k=9:=by omega
end Go.Proofs.YtkjbblkieglmlaaGreatDoor
namespace Go.Proofs.YtkjbblkieglmlaaGreatDoor
open Go.RowKit
theorem f6 {R:Type} (m:Nat -> Int -> Option R) (len N0:Nat) (B:Nat -> Option R) (h0: ∀ (n i:Nat),N0<=n -> i<len -> m (n+1) (i:Int)=(B i).or (m n ((i:Int)+1))):
 ∀ (k i n:Nat),i+k=len -> N0<=n -> m (n+k) (i:Int)=((List.range' i k).findSome? B).or (m n (len:Int))
 | 0,i,n,h,hn=>by
  have:i=len:=by omega
  subst this;rfl
 | k+1,i,n,h,hn=>by
  show m (n+k+1) (i:Int)=_
  rw [h0 (n+k) i (by omega) (by omega),zFy,List.findSome?_cons];cases B i with
  | some r=>rfl
  | none=>
   have:=f6 m len N0 B h0 k (i+1) n (by omega) hn;rw [←this];simp
theorem Q9 {R:Type} (m:Nat -> Int -> Option R) (len N0:Nat) (B:Nat -> Option R) (h0: ∀ (n i:Nat),N0<=n -> i<len -> m (n+1) (i:Int)=(B i).or (m n ((i:Int)+1))) {n:Nat} (hn:N0+len<=n):
 m n 0=((List.range len).findSome? B).or (m (n-len) (len:Int)):=by
 have:=f6 m len N0 B h0 len 0 (n-len) (by omega) (by omega);rw [Nat.sub_add_cancel (by omega)] at this;rw [zF0];exact this
theorem lz {R:Type} {l:List Nat} {p:Nat -> Bool} {r:R}:(l.findSome? fun i=>if p i then none else some r)=if l.all p then none else some r:=by
 induction l with
 | nil=>rfl
 | cons a l ih=>
  rw [List.findSome?_cons,zFb];cases hp:p a
  ·simp
  ·simp [ih]
theorem g8 {α:Type} {l:List α} {d:α} {p:α -> Bool}:((List.range l.length).all fun i=>p (l.getD i d))=l.all p:=by
 rw [zEe,zAW,zAW];constructor
 ·intro h x hx;obtain ⟨i,hi,rfl⟩:=zEN hx;have:=h i (by simpa using hi);simpa [hi] using this
 ·intro h i hi;have BP:i<l.length:=by simpa using hi
  simp [BP,h _ (zDi BP)]
theorem r64 {i len:Nat} (h:i<len) (hl:len<=LB):AL ((i:Int)+1):=by rw [A0];unfold LB at hl;omega
theorem wm {l:List Int} {lo up:Int} {n:Nat} (hl:l.length<=LB) (hn:l.length<n): ∃ r:Int,WG n l lo up=some r/\ (0<=r↔El l lo up=false):=by
 unfold WG j7;have S:=Q9 (fun n i=>Nc l lo up n (.l1 i)) l.length 0 (fun i=>if Nf lo up (l.getD i 0) then none else some (i:Int)) (fun n i _ hi=>?_) (n:=n) (by omega)
 ·have S:=S;rw [show Nc l lo up n (.l1 0)=_ from S];cases hf:(List.range l.length).findSome? (fun i=>if Nf lo up (l.getD i 0) then none else some (i:Int)) with
  | some r=>
   refine ⟨r,rfl,?_⟩;obtain ⟨i,hi,hr⟩:=zE1 hf;have BP:i<l.length:=by simpa using hi
   split at hr
   ·cases hr
   ·rename_i hx;cases hr;refine ⟨fun _=>?_,fun _=>by omega⟩;unfold El;rw [List.all_eq_false];exact ⟨l[i],zDi BP,by simpa [BP] using hx⟩
  | none=>
   obtain ⟨m,hm⟩: ∃ m,n-l.length=m+1:=⟨n-l.length-1,by omega⟩;refine ⟨-1,by rw [hm];simp [Nc,aG],?_⟩;rw [zFK] at hf
   have:El l lo up=true:=by
    unfold El;rw [←g8 (p:=Nf lo up) (d:=(0:Int)),zAW];intro i hi;have:=hf i hi;cases hc:Nf lo up (l.getD i 0) with
    | true=>rfl
    | false=>rw [hc] at this;simp at this
   simp [this]
 ·have h1:(i:Int)<(l.length:Int):=by omega
  have h2:=r64 hi hl;simp only [Nc,aG,X7,dc,h1,h2,zEo,zAK,zEj,zFn,zEG,zAO,Nf];obtain ⟨x,hg⟩: ∃ y,l.getD i 0=y:=⟨_,rfl⟩;simp only [hg]
  by_cases a:x<lo
  ·have: ¬ lo<=x:=by omega
   simp [a,this]
  ·have a':lo<=x:=by omega
   by_cases b:up<x
   ·have: ¬ x<=up:=by omega
    simp [a,b,a',this]
   ·have b':x<=up:=by omega
    simp [a,b,a',b']
theorem VK {l:List Int} {lo up:Int} {n:Nat} (hl:l.length<=LB) (hn:l.length<n):LV n l lo up=some (El l lo up):=by
 obtain ⟨r,h1,h2⟩:=wm (lo:=lo) (up:=up) hl hn;unfold LV ZA XT cK;rw [h1];cases hw:El l lo up with
 | true=>
  have: ¬ 0<=r:=fun h=>by rw [h2.1 h] at hw;cases hw
  simp [this]
 | false=>
  have:0<=r:=h2.2 hw;simp [this]
theorem zCP {l:List Int} {x:Int} {n:Nat} (hl:l.length<=LB) (hn:l.length<n):MM n l x=some (l.contains x):=by
 have: ∃ r:Int,WI n l x=some r/\ (0<=r↔l.contains x=true):=by
  unfold WI j8;have S:=Q9 (fun n i=>Nd l x n (.l1 i)) l.length 0 (fun i=>if (x != l.getD i 0) then none else some (i:Int)) (fun n i _ hi=>?_) (n:=n) (by omega)
  ·rw [show Nd l x n (.l1 0)=_ from S];cases hf:(List.range l.length).findSome? (fun i=>if (x != l.getD i 0) then none else some (i:Int)) with
   | some r=>
    refine ⟨r,rfl,?_⟩;obtain ⟨i,hi,hr⟩:=zE1 hf;have BP:i<l.length:=by simpa using hi
    split at hr
    ·cases hr
    ·rename_i hx;cases hr;refine ⟨fun _=>?_,fun _=>by omega⟩;have:x=l[i]:=by simpa [BP] using hx
     rw [this];simp
   | none=>
    obtain ⟨m,hm⟩: ∃ m,n-l.length=m+1:=⟨n-l.length-1,by omega⟩;refine ⟨-1,by rw [hm];simp [Nd,aH],?_⟩;rw [zFK] at hf
    have:l.contains x=false:=by
     rw [zE0];intro h;obtain ⟨i,hi,e⟩:=zEN (by simpa using h:x∈l);have:=hf i (by simpa using hi);simp [hi,e] at this
    rw [this];simp
  ·have h1:(i:Int)<(l.length:Int):=by omega
   have h2:=r64 hi hl;simp only [Nd,aH,h1,h2,zEo,zAK,zEj,zFn,zEG,zAO];obtain ⟨y,hg⟩: ∃ y,l.getD i 0=y:=⟨_,rfl⟩;simp only [hg]
   by_cases a:x=y
   ·simp [a]
   ·have:(x==y)=false:=by simp [a]
    simp [this,a]
 obtain ⟨r,h1,h2⟩:=this;unfold MM cL;rw [h1]
 by_cases h:0<=r
 ·have:=h2.1 h;simp only [zAA];rw [this];simp [h]
 ·have:l.contains x=false:=by rw [zE0];exact fun hc=>h (h2.2 hc)
  simp only [zAA];rw [this];simp;omega
end Go.Proofs.YtkjbblkieglmlaaGreatDoor
namespace Go.Proofs.YtkjbblkieglmlaaGreatDoor
open Go.RowKit
def Gy (g:List (List Int)):Nat:=(g.map fun r=>r.length+2).sum
theorem X6: ∀ {g:List (List Int)} {r:List Int},r∈g -> r.length+2<=Gy g
 | [],_,h=>by cases h
 | a::g,r,h=>by
  simp only [Gy,zEQ,List.sum_cons];rcases zDu.1 h with rfl | h
  ·omega
  ·have:=X6 h;unfold Gy at this;omega
theorem n9 {g:List (List Int)} {v:Nat} (hv:v<g.length):Gy (g.drop v)=(g.getD v []).length+2+Gy (g.drop (v+1)):=by
 rw [zDx hv];simp only [Gy,zEQ,List.sum_cons,u8,zAQ hv,zEY]
theorem ba {g:List (List Int)} {v:Nat} (hv:v<g.length):g.getD v []∈g:=by
 rw [u8,zAQ hv];exact zDi hv
section
variable {g:List (List Int)} {v j n:Nat}
theorem um {R:Type} (next Jg:R) (c:Bool -> R) (hc:c true=next) (IV:c false=Jg) (hv:v<g.length) (hj:j<(g.getD v []).length):
 (if HA g v (g.getD v []) j then next else Jg)=
  (if (g.getD v []).getD j 0<0 then Jg else if (g.getD v []).getD j 0>=(g.length:Int) then Jg else if (g.getD v []).getD j 0=(v:Int) then Jg else
   if 0<j then (if (g.getD v []).getD (j-1) 0>=(g.getD v []).getD j 0 then Jg else c ((g.getD ((g.getD v []).getD j 0).toNat []).contains (v:Int)))
   else c ((g.getD ((g.getD v []).getD j 0).toNat []).contains (v:Int))):=by
 unfold HA;obtain ⟨x,hx⟩: ∃ x,(g.getD v []).getD j 0=x:=⟨_,rfl⟩;obtain ⟨y,hy⟩: ∃ y,(g.getD v []).getD (j-1) 0=y:=⟨_,rfl⟩;simp only [hx,hy]
 by_cases a:x<0
 ·have: ¬ 0<=x:=by omega
  simp [a,this]
 ·have a':0<=x:=by omega
  by_cases b:x>=(g.length:Int)
  ·have: ¬ x<(g.length:Int):=by omega
   simp [a,b,this]
  ·have b':x<(g.length:Int):=by omega
   by_cases d:x=(v:Int)
   ·simp [a,b,d]
   ·have d':(x != (v:Int))=true:=by simp [d]
    cases hcc:(g.getD x.toNat []).contains (v:Int) with
    | true=>
     by_cases e:0<j
     ·by_cases f:y>=x
      ·have: ¬ y<x:=by omega
       simp [a,b,d,d',e,f,this,a',b']
      ·have f':y<x:=by omega
       simp [a,b,d,d',e,f,f',a',b',hc]
     ·simp [a,b,d,d',e,a',b',hc]
    | false=>
     by_cases e:0<j
     ·by_cases f:y>=x
      ·have: ¬ y<x:=by omega
       simp [a,b,d,d',e,f,this,a',b']
      ·have f':y<x:=by omega
       simp [a,b,d,d',e,f,f',a',b',IV]
     ·simp [a,b,d,d',e,a',b',IV]
theorem tS {j len:Nat} (h:j<len) (hl:len<=LB):AL ((j:Int)-1):=by rw [A0];unfold LB at hl;omega
theorem ZJ {j len:Nat} (h:0<j) (h2:j<len):((0:Int)<=(j:Int)-1/\ (j:Int)-1<(len:Int))/\ ((j:Int)-1).toNat=j-1/\ (j:Int)>0:=by omega
theorem zAz {self:Pv -> Option Int} {row:List Int} (KW:row=g.getD v []) (hv:v<g.length) (hg:g.length<=256) (hj:j<(g.getD v []).length) (hr: ∀ r∈g,r.length<=LB) (hn: ∀ r∈g,r.length<n):
 Wv n self g (v:Int) row (v:Int) row (row.length:Int) (j:Int)=(if HA g v (g.getD v []) j then none else some (120:Int)).or (self (.l2 (v:Int) row (v:Int) row (row.length:Int) ((j:Int)+1))):=by
 subst KW;have Ap:=hr _ (ba hv);have h1:(v:Int)<(g.length:Int):=by omega
 have h2:(j:Int)<((g.getD v []).length:Int):=by omega
 have h3:=r64 hj Ap;obtain ⟨NX,lO⟩: ∃ NX,self (.l2 (v:Int) (g.getD v []) (v:Int) (g.getD v []) ((g.getD v []).length:Int) ((j:Int)+1))=NX:=⟨_,rfl⟩;have key:=um (g:=g) (v:=v) (j:=j) NX (some (120:Int)) (fun b=>bif b then NX else some 120) rfl rfl hv hj
 have e1:((if HA g v (g.getD v []) j then none else some (120:Int)).or NX)=(if HA g v (g.getD v []) j then NX else some 120):=by
  cases HA g v (g.getD v []) j <;> rfl
 rw [lO,e1,key];simp only [Wv,h1,h2,h3,zEo,zAK,zEj,zFn,zEG,zAO,lO];obtain ⟨x,hx⟩: ∃ x,(g.getD v []).getD j 0=x:=⟨_,rfl⟩;simp only [hx]
 by_cases a:x<0
 ·simp [a]
 by_cases b:x>=(g.length:Int)
 ·simp [a,b]
 by_cases d:x=(v:Int)
 ·simp [a,b,d]
 have d':(x==(v:Int))=false:=by simp [d]
 have WM:g.getD x.toNat []∈g:=ba (by omega);have hh:MM n (g.getD x.toNat []) (v:Int)=some ((g.getD x.toNat []).contains (v:Int)):=zCP (hr _ WM) (hn _ WM);have Hq:0<=x/\ x<(g.length:Int):=by omega
 have fin:((MM n (g.getD x.toNat []) (v:Int)).bind fun y1=>bif (!y1) then some (120:Int) else NX)=(bif (g.getD x.toNat []).contains (v:Int) then NX else some 120):=by
  rw [hh];cases (g.getD x.toNat []).contains (v:Int) <;> rfl
 by_cases e:0<j
 ·have h4:AL ((j:Int)-1)/\ ((0:Int)<=(j:Int)-1/\ (j:Int)-1<((g.getD v []).length:Int)):=⟨tS hj Ap,(ZJ e hj).1⟩;have h5:=(ZJ e hj).2.1;have e':=(ZJ e hj).2.2;simp only [e',h4,h5,e,Hq,d',zEo,zAK,zAC,zEG,zAE a,zAE b,zFn,zAZ a,zAZ b,zAZ d,fin]
  by_cases f:(g.getD v []).getD (j-1) 0>=x
  ·simp only [f,zEo,zAK,zEG]
  ·simp only [zAE f,zAC,zAZ f]
 ·have e': ¬ (j:Int)>0:=by omega
  simp only [Hq,d',zAC,zEG,zAE a,zAE b,zAE e',zFn,zAZ a,zAZ b,zAZ d,zAZ e,fin]
end
theorem sJ {g:List (List Int)} {v:Nat} (hv:v<g.length):((List.range' v (g.length-v)).all fun i=>Iv g i (g.getD i []))=(Iv g v (g.getD v [])&&(List.range' (v+1) (g.length-(v+1))).all fun i=>Iv g i (g.getD i [])):=by
 have:g.length-v=g.length-(v+1)+1:=by omega
 rw [this,zFy,zFb]
theorem lj {g:List (List Int)} (hg:g.length<=256) (hr: ∀ r∈g,r.length<=LB): ∀ (k v n:Nat),v+k=g.length -> Gy (g.drop v)+Gy g+1<=n -> Ia g n (.l1 (v:Int))=some (FJ ((List.range' v (g.length-v)).all fun i=>Iv g i (g.getD i [])) 120)
 | 0,v,n,hv,hn=>by
  have:v=g.length:=by omega
  subst this;obtain ⟨m,rfl⟩: ∃ m,n=m+1:=⟨n-1,by omega⟩;simp [Ia,bc,FJ]
 | k+1,v,n,hv,hn=>by
  have EE:v<g.length:=by omega
  rw [n9 EE] at hn;have hm:=X6 (ba EE);obtain ⟨m,rfl⟩: ∃ m,n=m+1:=⟨n-1,by omega⟩;have h1:(v:Int)<(g.length:Int):=by omega
  have e1:Ia g (m+1) (.l1 (v:Int))=Ia g m (.l2 (v:Int) (g.getD v []) (v:Int) (g.getD v []) ((g.getD v []).length:Int) 0):=by
   simp only [Ia,bc,h1,zEo,zAK,zEj,zFn,zEG,zAO]
  rw [e1];have S:=Q9 (fun n i=>Ia g n (.l2 (v:Int) (g.getD v []) (v:Int) (g.getD v []) ((g.getD v []).length:Int) i)) (g.getD v []).length (Gy g) (fun j=>if HA g v (g.getD v []) j then none else some 120) (fun n' j Gf hj=>zAz (n:=n') rfl EE hg hj hr fun r Cs=>by have:=X6 Cs;omega) (n:=m) (by omega);refine S.trans ?_;rw [lz,sJ EE];have eR:((List.range (g.getD v []).length).all fun i=>HA g v (g.getD v []) i)=Iv g v (g.getD v []):=rfl;rw [eR];cases Iv g v (g.getD v []) with
  | false=>rfl
  | true=>
   obtain ⟨m',CS⟩: ∃ m',m-(g.getD v []).length=m'+1:=⟨m-(g.getD v []).length-1,by omega⟩;rw [CS];have h2:AL ((v:Int)+1):=by rw [A0];omega
   have ih:=lj hg hr k (v+1) m' (by omega) (by omega);have h3: ¬ (((g.getD v []).length:Int)<((g.getD v []).length:Int)):=by omega
   simp only [zEG,Ia,Wv,h2,zAE h3,zAC,zD5];exact ih
theorem li {g:List (List Int)} {n:Nat} (hr: ∀ r∈g,r.length<=LB) (hn:2*Gy g+1<=n):TJ n g=some (FJ (Kj g) 120):=by
 unfold TJ lh Kj
 by_cases h:(g.length:Int)>256
 ·have: ¬ g.length<=256:=by omega
  simp [h,this,FJ]
 ·have h':g.length<=256:=by omega
  have:=lj h' hr g.length 0 n (by omega) (by simp;omega);simp only [zAE h,zAC,zAT h',zD5];rw [zF0];simpa using this
end Go.Proofs.YtkjbblkieglmlaaGreatDoor
namespace Go.Proofs.YtkjbblkieglmlaaGreatDoor
open Go.RowKit
theorem iI {s:Int} (h1:1<=s) (h2:s<=16):IntKind.i64.wrap (1*2 ^ s.toNat)=2 ^ s.toNat/\ AL ((2:Int) ^ s.toNat-1)/\ ((0:Int)<=s/\ s<=((IntKind.i64.bits:Nat):Int)):=by
 obtain ⟨m,rfl⟩:=zE7 (show 0<=s by omega);rw [zAO];have h:m<17:=by omega
 refine ⟨?_,?_,by omega,by show (m:Int)<=64;omega⟩
 ·revert h;clear h1 h2;revert m;decide
 ·revert h;clear h1 h2;revert m;decide
section
variable {c:AB} {n:Nat}
def VD (sy:Int) (c:AB):Bool:=El [c.set,c.other] 0 (2 ^ sy.toNat-1)&&El [c.lo,c.hi] 0 65536&&decide (c.runs.length<=8)&&El c.runs 1 256
theorem jT {a b:Int}:([a,b]:List Int).length<=LB:=by show 2<=LB;unfold LB;omega
theorem vY {l:List Int}:(decide (((l.length:Nat):Int)<=8))=decide (l.length<=8):=by rw [zEe];simp;omega
theorem zBG {self:L8 -> Option Bool} {q:AA} (h1:1<=q.symbols) (h2:q.symbols<=16) (hr:c.runs.length<=LB) (hn:c.runs.length<n) (GJ:2<n):W6 n self q c=some (VD q.symbols c):=by
 obtain ⟨p1,p2,p3⟩:=iI h1 h2;unfold W6;rw [p1,zAB ⟨p3,p2⟩,VK jT (show 2<n from GJ),VK jT (show 2<n from GJ),VK hr hn];unfold VD;rw [vY];cases El [c.set,c.other] 0 (2 ^ q.symbols.toNat-1) <;> cases El [c.lo,c.hi] 0 65536 <;> cases decide (c.runs.length<=8) <;> rfl
theorem zBI {self:L8 -> Option Bool} {q:AA} (hq:q.cells<=256) (hc:c.cells.length<=LB) {i:Nat} (hi:i<c.cells.length) {o:List Bool} (ho:o.length=256) (hm: ∀ x:Nat,x<256 -> o.getD x false=(c.cells.take i).contains (x:Int)):
 TS n self q c (i:Int) o=if OM q.cells c.kind c.cells i then self (.l1 ((i:Int)+1) (o.set (0+(c.cells.getD i 0).toNat) true)) else some false:=by
 have h1:(i:Int)<(c.cells.length:Int):=by omega
 have h2:=r64 hi hc;unfold OM;obtain ⟨x,hx⟩: ∃ x,c.cells.getD i 0=x:=⟨_,rfl⟩;simp only [TS,h1,h2,zEo,zAK,zEj,zFn,zEG,zAO,hx]
 by_cases a:x<0
 ·have: ¬ 0<=x:=by omega
  simp [a,this]
 have a':0<=x:=by omega
 by_cases b:x>=q.cells
 ·have: ¬ x<q.cells:=by omega
  simp [a,b,this]
 have b':x<q.cells:=by omega
 have hg:((0:Int)<=x/\ x<((256:Nat):Int))/\ 0+x.toNat<o.length:=⟨⟨a',by omega⟩,by omega⟩
 have zh:o.getD (0+x.toNat) false=(c.cells.take i).contains x:=by
  rw [zAj,hm x.toNat (by omega)]
  congr 1;omega
 simp only [hg,zh,zAE a,zAE b,zAC,zEG,zAT a',zAT b',zD5,zFn];cases (c.cells.take i).contains x with
 | true=>rfl
 | false=>
  by_cases e:c.kind>=8
  ·have e':8<=c.kind:=e
   by_cases f:x=(i:Int)
   ·have f1:(x != (i:Int))=false:=by simp [f]
    have f2:(x==(i:Int))=true:=by simp [f]
    simp only [e,e',f1,f2,zEo,zAK,zAC,zEC,zD2,zEV,zD5,zEG]
   ·have f1:(x != (i:Int))=true:=by simp [f]
    have f2:(x==(i:Int))=false:=by simp [f]
    simp only [e,e',f1,f2,zEo,zAK,zAC,zEC,zD2,zEV,zD5,zDs,zEg]
  ·have e': ¬ 8<=c.kind:=e;simp only [zAE e,zAE e',zEo,zAC,zEC,Bool.true_or,Bool.and_self,zEG]
theorem zBH {self:L8 -> Option Bool} {q:AA} {o:List Bool}:TS n self q c (c.cells.length:Int) o=if GF q.cells c.kind c.cells.length then self .l2 else some false:=by
 have h1: ¬ ((c.cells.length:Int)<(c.cells.length:Int)):=by omega
 simp only [TS,zAE h1,zAC]
 by_cases hk:1<=c.kind/\ c.kind<=9
 ·obtain ⟨k,ke⟩: ∃ k,c.kind=k:=⟨_,rfl⟩;rw [ke] at hk;simp only [ke];have e2:(((c.cells.length:Nat):Int) != 2)= !(c.cells.length==2):=by rw [zEe];simp;omega
  have e3:(((c.cells.length:Nat):Int) != q.cells)= !(((c.cells.length:Nat):Int)==q.cells):=rfl;rcases SS hk with h | h | h | h | h | h | h | h | h <;> subst h
  ·rfl
  ·rfl
  ·rfl
  ·rfl
  ·rfl
  ·show (bif (((c.cells.length:Nat):Int) != 2) then some false else self .l2)=_
   rw [e2];unfold GF;cases c.cells.length==2 <;> rfl
  ·show (bif (((c.cells.length:Nat):Int) != 2) then some false else self .l2)=_
   rw [e2];unfold GF;cases c.cells.length==2 <;> rfl
  ·show (bif (((c.cells.length:Nat):Int) != q.cells) then some false else self .l2)=_
   rw [e3];unfold GF;cases ((c.cells.length:Nat):Int)==q.cells <;> rfl
  ·show (bif (((c.cells.length:Nat):Int) != q.cells) then some false else self .l2)=_
   rw [e3];unfold GF;cases ((c.cells.length:Nat):Int)==q.cells <;> rfl
 ·have GI:GF q.cells c.kind c.cells.length=false:=by
   rw [zE0];exact fun h=>hk (SR h)
  rw [GI];have z: ∀ m:Int,1<=m -> m<=9 -> (c.kind==m)=false:=fun m h1 h2=>by simp only [zDr];omega
  simp [z 1,z 2,z 3,z 4,z 5,z 6,z 7,z 8,z 9]
theorem lx {q:AA} (hq:q.cells<=256) (hc:c.cells.length<=LB) (h1:1<=q.symbols) (h2:q.symbols<=16) (hr:c.runs.length<=LB): ∀ (k i n:Nat) (o:List Bool),i+k=c.cells.length -> k+c.runs.length+6<=n -> o.length=256 -> (∀ x:Nat,x<256 -> o.getD x false=(c.cells.take i).contains (x:Int)) ->
 P4 q c n (.l1 (i:Int) o)=some ((List.range' i k).all (OM q.cells c.kind c.cells)&&GF q.cells c.kind c.cells.length&&VD q.symbols c)
 | 0,i,n,o,hi,hn,ho,hm=>by
  have:i=c.cells.length:=by omega
  subst this;obtain ⟨m,rfl⟩: ∃ m,n=m+1:=⟨n-1,by omega⟩;refine (zBH (n:=m)).trans ?_;cases GF q.cells c.kind c.cells.length with
  | false=>simp
  | true=>
   obtain ⟨m',rfl⟩: ∃ m',m=m'+1:=⟨m-1,by omega⟩
   show W6 m' (P4 q c m') q c=_
   rw [zBG h1 h2 hr (by omega) (by omega)];simp
 | k+1,i,n,o,hi,hn,ho,hm=>by
  obtain ⟨m,rfl⟩: ∃ m,n=m+1:=⟨n-1,by omega⟩;refine (zBI (n:=m) hq hc (show i<c.cells.length by omega) ho hm).trans ?_;rw [zFy,zFb];cases N4:OM q.cells c.kind c.cells i with
  | false=>simp
  | true=>
   have hx:0<=c.cells.getD i 0/\ c.cells.getD i 0<q.cells:=by
    unfold OM at N4;simp only [zAL,zBg] at N4;exact ⟨N4.1.1.1,N4.1.1.2⟩
   have ih:=lx hq hc h1 h2 hr k (i+1) m (o.set (0+(c.cells.getD i 0).toNat) true) (by omega) (by omega) (by simp [ho]) (fun x xK=>?_)
   ·simp only [zEG,zD5];exact ih
   ·have BP:i<c.cells.length:=by omega
    rw [zAj]
    have ht:c.cells.take (i+1)=c.cells.take i++[c.cells.getD i 0]:=by
     rw [List.take_add_one];simp [BP]
    rw [ht,List.contains_append,←hm x xK];rw [u8,zAo]
    by_cases e:(c.cells.getD i 0).toNat=x
    ·have e2:((x:Nat):Int)=c.cells.getD i 0:=by omega
     rw [zAB e,zAB (by omega)];simp [e2]
    ·have e2: ¬ ((x:Nat):Int)=c.cells.getD i 0:=by omega
     rw [zAZ e]
     have e3:([c.cells.getD i 0].contains ((x:Nat):Int))=false:=by
      simp only [List.contains_cons,List.contains_nil,zEW,zDr];exact e2
     rw [e3,zEW,u8]
theorem zBK {q:AA} (hq:q.cells<=256) (hc:c.cells.length<=LB) (h1:1<=q.symbols) (h2:q.symbols<=16) (hr:c.runs.length<=LB) (hn:c.cells.length+c.runs.length+6<=n):W7 n q c=some (FI q c):=by
 unfold W7 ly;have:=lx hq hc h1 h2 hr c.cells.length 0 n (List.replicate 256 false) (by omega) (by omega) zAe (fun x hx=>by rw [u8,zD7,zAB hx];rfl);refine Eq.trans this ?_;rw [←zF0];unfold FI Xf VD;simp only [Bool.and_assoc]
end
end Go.Proofs.YtkjbblkieglmlaaGreatDoor
namespace Go.Proofs.YtkjbblkieglmlaaGreatDoor
open Go.RowKit
section
variable {c:AB} {n:Nat} {cells sy:Int}
end
def Qj (c:AB):Nat:=c.cells.length*(c.cells.length+2)+c.cells.length+c.runs.length+7
theorem oc (c:AB):Qj c=c.cells.length*(c.cells.length+2)+c.cells.length+c.runs.length+7:=rfl
def E8 (q:AA):Nat:=q.values.length+2*Gy q.nbrs+(q.cons.map Qj).sum+q.cons.length+10
structure EM (q:AA):Prop where
 values:q.values.length<=LB
 nbrs: ∀ r∈q.nbrs,r.length<=LB
 cells: ∀ c∈q.cons,c.cells.length<=LB
 runs: ∀ c∈q.cons,c.runs.length<=LB
theorem fE: ∀ {l:List AB} {c:AB},c∈l -> Qj c<=(l.map Qj).sum
 | [],_,h=>by cases h
 | a::l,c,h=>by
  rw [zEQ,List.sum_cons];rcases zDu.1 h with rfl | h
  ·omega
  ·have:=fE h;omega
section
variable {q:AA} {n:Nat}
theorem zBZ {b:Bool}:(FJ b 120==0)=b:=by cases b <;> rfl
theorem oK (hF:EM q) (h1:1<=q.cells) (h2:q.cells<=256) (h3:1<=q.symbols) (h4:q.symbols<=16) (h5:q.cons.length<=4096) (hn:E8 q<=n): ∃ r:Int,WD n q.cons q=some r/\ (0<=r↔q.cons.all (FI q)=false):=by
 unfold WD jy;have S:=Q9 (fun n i=>Li q.cons q n (.l1 i)) q.cons.length (q.cons.map Qj).sum (fun i=>if FI q (q.cons.getD i default) then none else some (i:Int)) (fun n i Gf hi=>?_) (n:=n) (by unfold E8 at hn;omega)
 ·rw [show Li q.cons q n (.l1 0)=_ from S];cases hf:(List.range q.cons.length).findSome? (fun i=>if FI q (q.cons.getD i default) then none else some (i:Int)) with
  | some r=>
   refine ⟨r,rfl,?_⟩;obtain ⟨i,hi,hr⟩:=zE1 hf;have BP:i<q.cons.length:=by simpa using hi
   split at hr
   ·cases hr
   ·rename_i hx;cases hr;refine ⟨fun _=>?_,fun _=>by omega⟩;rw [List.all_eq_false];exact ⟨q.cons[i],zDi BP,by simpa [BP] using hx⟩
  | none=>
   obtain ⟨m,hm⟩: ∃ m,n-q.cons.length=m+1:=⟨n-q.cons.length-1,by unfold E8 at hn;omega⟩;refine ⟨-1,by rw [hm];simp [Li,WB],?_⟩;rw [zFK] at hf
   have:q.cons.all (FI q)=true:=by
    rw [←g8 (p:=FI q) (d:=(default:AB)),zAW];intro i hi;have:=hf i hi;cases hc:FI q (q.cons.getD i default) with
    | true=>rfl
    | false=>rw [hc] at this;simp at this
   simp [this]
 ·have AN:(i:Int)<(q.cons.length:Int):=by omega
  have hR:AL ((i:Int)+1):=by rw [A0];omega
  have Dt:q.cons.getD i default∈q.cons:=by rw [u8,zAQ hi];exact zDi hi
  have A3:=fE Dt;have z6:=zBK (n:=n) h2 (hF.cells _ Dt) h3 h4 (hF.runs _ Dt) (by rw [oc (q.cons.getD i default)] at A3;omega)
  show WB n (Li q.cons q n) q.cons q (i:Int)=_
  generalize Li q.cons q n=self
  simp only [WB,UQ,YE,AN,hR,zEo,zAK,zEj,zFn,zEG,zAO,z6,zAA];cases FI q (q.cons.getD i default) <;> rfl
theorem UN (hF:EM q) (hn:E8 q<=n):valid n q=some (FJ (CM q) 191):=by
 unfold valid dg CM;have hv:=VK (lo:=0) (up:=99) hF.values (show q.values.length<n by unfold E8 at hn;omega);have hg:=li hF.nbrs (show 2*Gy q.nbrs+1<=n by unfold E8 at hn;omega)
 by_cases c1:q.cells<1
 ·have: ¬ 1<=q.cells:=by omega
  simp [c1,this,FJ]
 have nE:1<=q.cells:=by omega
 by_cases c2:q.cells>256
 ·have: ¬ q.cells<=256:=by omega
  simp [c1,c2,this,FJ]
 have m8:q.cells<=256:=by omega
 by_cases c3:q.symbols<1
 ·have: ¬ 1<=q.symbols:=by omega
  simp [c1,c2,c3,this,FJ]
 have m7:1<=q.symbols:=by omega
 by_cases c4:q.symbols>16
 ·have: ¬ q.symbols<=16:=by omega
  simp [c1,c2,c3,c4,this,FJ]
 have m6:q.symbols<=16:=by omega
 simp only [zAE c1,zAE c2,zAE c3,zAE c4,zAT nE,zAT m8,zAT m7,zAT m6,zAC,zD5,hv,hg,zAA,bne,zBZ];cases ((q.values.length:Nat):Int)==q.symbols with
 | false=>rfl
 | true=>
 cases El q.values 0 99 with
 | false=>rfl
 | true=>
 cases ((q.nbrs.length:Nat):Int)==q.cells with
 | false=>rfl
 | true=>
 cases Kj q.nbrs with
 | false=>rfl
 | true=>
 by_cases c5:((q.cons.length:Nat):Int)>4096
 ·have: ¬ q.cons.length<=4096:=by omega
  simp [c5,this,FJ]
 have m5:q.cons.length<=4096:=by omega
 obtain ⟨r,r1,r2⟩:=oK hF nE m8 m7 m6 m5 hn;simp only [XS,cI,r1,zAE c5,zAT m5,zAA,zAC,zD5,zD2,zBY,zET];cases ha:q.cons.all (FI q) with
 | false=>
  have:r>=0:=r2.2 ha;simp [this,FJ]
 | true=>
  have: ¬ r>=0:=fun h=>by rw [r2.1 h] at ha;cases ha
  simp [this,FJ]
theorem vE {k:Int} (h:1<=k/\ k<=9):([0,1,1,2,2,3,1,1,4,4]:List Int).getD k.toNat 0=Zw k:=by
 rcases SS h with h | h | h | h | h | h | h | h | h <;> subst h <;> rfl
theorem wI (hv:CM q=true) {i:Int} (h0:0<=i) (hi:i<(q.cons.length:Int)):1<=(q.cons.getD i.toNat default).kind/\ (q.cons.getD i.toNat default).kind<=9:=by
 have BP:i.toNat<q.cons.length:=by omega
 have Dt:q.cons.getD i.toNat default∈q.cons:=by rw [u8,zAQ BP];exact zDi BP
 exact SR (jZ ((Fg hv).2.2.2.2.2 _ Dt))
theorem vV (hF:EM q) (hn:E8 q<=n) (i:Int):SO n q i=some (JC q i):=by
 unfold SO Z0 JC;rw [UN hF hn];cases hv:CM q with
 | false=>rfl
 | true=>
  by_cases h0:i<0
  ·have: ¬ (0<=i/\ i<(q.cons.length:Int)):=by omega
   simp [FJ,h0,this]
  ·by_cases hi:i>=(q.cons.length:Int)
   ·have: ¬ (0<=i/\ i<(q.cons.length:Int)):=by omega
    simp [FJ,h0,hi,this]
   ·have hc:0<=i/\ i<(q.cons.length:Int):=by omega
    have hk:=wI hv hc.1 hc.2;have hg:(0<=i/\ i<(q.cons.length:Int))/\ (0<=(q.cons.getD i.toNat default).kind/\ (q.cons.getD i.toNat default).kind<((10:Nat):Int)):=⟨hc,by omega,by omega⟩;simp only [FJ,zEG,zAA,bne_self_eq_false,zAC,zAE h0,zAE hi,zAB hg,zAB hc,vE hk,Bool.true_eq_false,zEg]
theorem mC (hn:q.cons.length<n): ∃ b,XE n q=some b:=by
 unfold XE mD
 have loop:q.cons.length<=120 -> ∃ b,Kl q n (.l1 0)=some b:=fun hl=>by
  have S:=Q9 (fun n i=>Kl q n (.l1 i)) q.cons.length 0 (fun i=>if (!(decide (((q.cons.getD i default).cells.length:Int)>20))&&!(decide (((q.cons.getD i default).runs.length:Int)>10))) then none else some false) (fun n i _ hi=>?_) (n:=n) (by omega)
  ·rw [show Kl q n (.l1 0)=_ from S];rw [lz];split
   ·obtain ⟨m,hm⟩: ∃ m,n-q.cons.length=m+1:=⟨n-q.cons.length-1,by omega⟩;exact ⟨true,by rw [hm];simp [Kl,XC]⟩
   ·exact ⟨false,rfl⟩
  ·have AN:(i:Int)<(q.cons.length:Int):=by omega
   have hR:AL ((i:Int)+1):=by rw [A0];omega
   show XC n (Kl q n) q (i:Int)=_
   generalize Kl q n=self
   simp only [XC,AN,hR,zEo,zAK,zEj,zFn,zEG,zAO];cases decide (((q.cons.getD i default).cells.length:Int)>20) <;> cases decide (((q.cons.getD i default).runs.length:Int)>10) <;> rfl
 cases decide (q.cells>16) with
 | true=>exact ⟨_,rfl⟩
 | false=>
 cases decide (q.symbols>6) with
 | true=>exact ⟨_,rfl⟩
 | false=>
 cases decide (((q.values.length:Nat):Int)>8) with
 | true=>exact ⟨_,rfl⟩
 | false=>
 cases decide (((q.nbrs.length:Nat):Int)>20) with
 | true=>exact ⟨_,rfl⟩
 | false=>
 by_cases h:((q.cons.length:Nat):Int)>120
 ·rw [zAT h];exact ⟨_,rfl⟩
 ·rw [zAE h];exact loop (by omega)
end
end Go.Proofs.YtkjbblkieglmlaaGreatDoor
namespace Go.Proofs.YtkjbblkieglmlaaGreatDoor
abbrev zFL:=@BitVec.ofInt_natCast
abbrev zFo:=@List.filter_eq_nil_iff
abbrev zFp:=@List.mem_range'_1
abbrev zF1:=@Array.replicate_succ
abbrev zF2:=@Array.replicate_zero
abbrev zF6:=@List.append_toArray
abbrev zF9:=@Go.Lib.hid
end Go.Proofs.YtkjbblkieglmlaaGreatDoor
namespace Go.Proofs.YtkjbblkieglmlaaGreatDoor
open Go.RowKit
theorem oO (x k aM:Nat) (w:World) (Fq:((x:Int)==0)=false)
 (key:IntKind.u64.wrap (bits BinOp.and IntKind.u64 (x:Int) (IntKind.u64.wrap (-(x:Int)))*285870213051353865)/288230376151711744=(aM:Int))
 (hi:aM<64) (hk:k<64) (C9:w.cell? ⟨1,aM,none⟩=some (.int .u8 k)):
 Calls Tryz.prog 182 #[.int .u64 x] w fun e w'=>e= .returned (.int .i64 k)/\ w=w':=by
 go_enter Tryz.func182,Tryz.ntmps182
 go_wp2_with (simp only [key])
 go_ret
 exact ⟨rfl,rfl⟩
theorem oP (x:Nat) (hx:x<18446744073709551616) (Fq:x≠0) (w:World) (hT:MY w):
 Calls Tryz.prog 182 #[.int .u64 x] w fun e w'=>e= .returned (.int .i64 (Lib.ctz 64 x))/\ w=w':=by
 obtain ⟨WY,hk⟩:=Lib.lowest_bit 64 x Fq hx;obtain ⟨hi,xW⟩:=Lib.deBruijn64_at _ hk;have C9:=hT _ hi;rw [xW] at C9;exact oO x _ _ w (by simp;omega) (tz64_key x _ hx Fq WY) hi hk C9
theorem oN (x:Nat) (hx:x<18446744073709551616) (Fq:x≠0) (w:World) (hT:MY w):
 Calls Tryz.prog 175 #[.int .u64 x] w fun e w'=>e= .returned (.int .i64 (Lib.ctz 64 x))/\ w=w':=by
 have h1:=oP x hx Fq w hT
 go_enter Tryz.func175,Tryz.ntmps175
 go_wp2_with (go_at_call 182;refine h1.mono ?_;rintro e w' ⟨rfl,rfl⟩)
 go_ret
 exact ⟨rfl,rfl⟩
def E9 (x:Nat):List Nat:=(List.range 64).filter fun s=>x.testBit s
theorem od:E9 0= []:=by simp [E9]
theorem vG (k m s:Nat):(2 ^ k*(2*m+1)).testBit s=(decide (k<=s)&&(2*m+1).testBit (s-k)):=by
 rw [zEm,Nat.testBit_mul_two_pow]
theorem uW (m s:Nat):(2*m+1).testBit s=(decide (s=0)||(2*m).testBit s):=by
 cases s with
 | zero=>simp [Nat.testBit_zero]
 | succ s=>simp [Nat.testBit_succ];congr 1;omega
theorem tP: ∀ k,k<64 -> List.range 64=List.range k++k::List.range' (k+1) (63-k):=by decide+kernel
theorem oe (x:Nat) (hx:x<18446744073709551616) (Fq:x≠0):E9 x=Lib.ctz 64 x::E9 (x&&& (x-1)):=by
 have hc:Lib.ctz 64 x=Lib.ctzFrom 64 x:=by simp [Lib.ctz,Fq]
 obtain ⟨m,hm,hk⟩:=Lib.ctzFrom_spec 64 x (by omega) (by simpa using hx);rw [hc]
 generalize Lib.ctzFrom 64 x=k at*
 have hb: ∀ s,x.testBit s=(decide (k<=s)&&(decide (s-k=0)||(2*m).testBit (s-k))):=fun s=>by rw [hm,vG,uW]
 have hy: ∀ s,(x&&& (x-1)).testBit s=(x.testBit s&&decide (s≠k)):=by
  intro s;have hp:0<2 ^ k:=Nat.two_pow_pos k
  have KT:x-1=2 ^ k*(2*m)+(2 ^ k-1):=by
   rw [hm,Nat.mul_add,zD4];omega
  have lH:(x-1).testBit s=if s<k then (2 ^ k-1).testBit s else (2*m).testBit (s-k):=by
   rw [KT,Nat.testBit_two_pow_mul_add _ (by omega)]
  rw [Nat.testBit_and,lH,hb]
  by_cases h1:s<k
  ·rw [zAE (by omega: ¬ k<=s)];simp
  ·rw [zAZ h1]
   by_cases h2:s=k
   ·subst h2;simp
   ·rw [zAT (by omega:k<=s),zAE (by omega: ¬ s-k=0)];simp [h2]
 unfold E9;have hr:List.range 64=List.range k++k::List.range' (k+1) (63-k):=tP k hk;rw [hr];simp only [List.filter_append,List.filter_cons]
 have h1: ∀ y:Nat,(∀ s,s<k -> y.testBit s=false) -> (List.range k).filter (fun s=>y.testBit s)= []:=fun y h=>by
  rw [zFo];intro s hs;simp [h s (zAd.1 hs)]
 rw [h1 x (fun s hs=>by rw [hb];simp;omega),h1 (x&&& (x-1)) (fun s hs=>by rw [hy,hb];simp;omega)];have h2:x.testBit k=true:=by rw [hb];simp
 have h3:(x&&& (x-1)).testBit k=false:=by rw [hy];simp
 simp only [h2,h3,zEI,zEG,zDs,zEg]
 congr 1
 apply List.filter_congr;intro s hs;rw [hy];have:=zFp.1 hs;simp;omega
theorem zDV (x:Nat) (hx:x<9223372036854775808) (Fq:x≠0):bits .and .i64 (x:Int) ((x:Int)-1)=((x&&& (x-1):Nat):Int):=by
 have e:((x:Int)-1)=((x-1:Nat):Int):=by omega
 have AN:x&&& (x-1)<=x:=Nat.and_le_left;rw [e]
 have h1:(BitVec.ofInt 64 (x:Int)).toNat=x:=by
  rw [zFL,BitVec.toNat_ofNat];exact zFQ (by omega)
 have h2:(BitVec.ofInt 64 ((x-1:Nat):Int)).toNat=x-1:=by
  rw [zFL,BitVec.toNat_ofNat];exact zFQ (by omega)
 show IntKind.i64.wrap ((BitVec.ofInt 64 (x:Int)&&& BitVec.ofInt 64 ((x-1:Nat):Int)).toNat:Int)=_
 rw [BitVec.toNat_and,h1,h2];have hm:((x&&& (x-1):Nat):Int) % 2 ^ 64=((x&&& (x-1):Nat):Int):=by omega
 simp only [IntKind.wrap,IntKind.signed,IntKind.bits,hm];rw [zAZ (by rw [zD5,zBg];omega)]
def fw (w:World) (b o:Nat):Nat:=match w.cell? ⟨b,o,none⟩ with
 | some (.int _ x)=>x.toNat
 | _=>0
def Ue (s:Nat):List DV:=[.int .i64 s]
theorem hE1 (R:Nat -> Prop) (W:World) (x:Nat):YV (Ue x) R W #[.int .i64 x]:=⟨rfl,fun j hj=>by
 have:j=0:=Nat.lt_one_iff.1 hj;subst this;rfl⟩
set_option maxRecDepth 100000 in
set_option maxHeartbeats 4000000 in
theorem oh (set b o:Nat) (w:World) (KV:set<9223372036854775808) (hT:MY w) (hb:w.cell? ⟨b,o,none⟩=some (.int .i64 set)) (GO:w.frozen? ⟨b,o,none⟩=false) (lC:b≠1):
 Md Tryz.prog 174 #[.pointer (some ⟨b,o,none⟩)] YV ((E9 set).map Ue) QV (fun k=>k=b) (fun k=>k=1) w:=by
 intro l J Jx W hJ hJx hU hY h0 _;have HY:=zF9 hY;clear hY;have lD:W.cell? ⟨b,o,none⟩=some (.int .i64 set):=hU.cell (fun h=>h (.inl rfl)) hb
 have z8:W.frozen? ⟨b,o,none⟩=false:=by
  rw [World.frozen?_of_block (hU.block b (zED w _ hb) (fun h=>h (.inl rfl)))];exact GO
 have lI:MY W:=fun j hj=>hU.cell (fun h=>h (.inr rfl)) (hT j hj)
 have hS: ∀ W',W.heap.size<=W'.heap.size -> EY (fun k=>k=b) (fun k=>k=1) W':=fun W' h=>⟨fun k e e2=>lC (e.symm.trans e2),fun k hk=>zAY (hk.elim (fun e=>e▸zED W _ lD) (fun e=>e▸zED W _ (lI 0 (by decide)))) h⟩
 obtain ⟨G,hG⟩: ∃ G:Nat -> Prop,(fun k=>k=b)=G:=⟨_,rfl⟩;obtain ⟨R,lM⟩: ∃ R:Nat -> Prop,(fun k=>k=1)=R:=⟨_,rfl⟩;rw [hG,lM] at h0 hS;have bT:G b:=by rw [←hG]
 have hRt:R 1:=by rw [←lM]
 refine callsIn_of_wp Tryz.func174 rfl trivial ?_ rfl;simp only [Tryz.ntmps174,zEz,zDl,zD9,Nat.reduceAdd,Nat.reduceSub,zF1,zF2,List.push_toArray,zF6,zEI,zFS]
 gi_wp2
 gi_loopw [3,4,5,6,7,8,9,10,11,12,13,14] (fun _ _ _ _ _ _ _ _ _ _ _ _ wr=>∃ (i x:Nat),W.heap.size<=wr.heap.size/\ x<9223372036854775808/\ i<=(E9 set).length/\ Hid ((E9 set).drop i=E9 x)/\ Hid (J i G R wr)/\ wr.cell? ⟨b,o,none⟩=some (.int .i64 x)/\ wr.frozen? ⟨b,o,none⟩=false/\ Hid (MY wr))
  (fun _ _ _ _ _ _ _ _ _ _ _ _ wr=>fw wr b o)
 case atStart=>exact ⟨0,set,zAm _,KV,zEf _,zF9 rfl,zF9 h0,lD,z8,zF9 lI⟩
 case round=>
  obtain ⟨i,x,A3,hx,Du,hd,hj,hc,hf,ht⟩:=hrel
  by_cases Fq:x=0
  ·subst Fq
   have Eh:i=(E9 set).length:=by
    have:=congrArg List.length hd.out;rw [zFv,od,zD9] at this;omega
   gi_wp2
   go_end0
   exact ⟨G,R,hS _ A3,.inl ⟨Eh▸hj.out,_,rfl⟩⟩
  ·have N0:((x:Int)==0)=false:=by simp [Fq]
   have Nx:(E9 set).drop i=Lib.ctz 64 x::E9 (x&&& (x-1)):=by rw [hd.out,oe x (by omega) Fq]
   have Eh:i<(E9 set).length:=by
    rcases zDj i (E9 set).length with h | h
    ·exact h
    ·rw [zEU h] at Nx;cases Nx
   have zv:(E9 set)[i]=Lib.ctz 64 x:=by
    have:=zDx Eh;rw [Nx] at this;injection this with h1 h2;exact h1.symm
   obtain ⟨fn,tmps,T3,body,hy,hR⟩:=HY.out i (Ue (Lib.ctz 64 x)) #[.int .i64 (Lib.ctz 64 x)] G R wr (by rw [zA1,zAQ Eh,zv];rfl) (hE1 R wr _) hj.out (hS _ A3);have hR':=zF9 hR;clear hR;have xU:=zF9 (oN x (by omega) Fq wr ht.out);have zAH:=zF9 Nx;clear Nx hd
   gi_wp2_with (first | refine ⟨trivial,rfl,?_⟩ | (gi_at_call 175;refine (zF8.2 xU.out).mono ?_;rintro e w' ⟨rfl,rfl⟩))
   refine ⟨rfl,hR'.out.mono ?_⟩;rintro e W1 ⟨Hu,(⟨rfl,zt⟩ | ⟨rfl,KT⟩)⟩
   ·have hc1:W1.cell? ⟨b,o,none⟩=some (.int .i64 x):=Hu.cell (fun h=>h (.inl bT)) hc
    have hf1:W1.frozen? ⟨b,o,none⟩=false:=by
     rw [World.frozen?_of_block (Hu.block b (zED wr _ hc) (fun h=>h (.inl bT)))];exact hf
    have kE:MY W1:=fun j hj=>Hu.cell (fun h=>h (.inr hRt)) (ht.out j hj)
    have Cp:AP G W1 (W1.setCell ⟨b,o,none⟩ (.int .i64 ((x&&& (x-1):Nat):Int))):=(AP.refl G W1).setCell (fun _=>bT) _;have xZ:=zAk A3 (zAk Hu.size Cp.size);have Gg:=zF9 ((hJ _).same (hS _ (zAk A3 Hu.size)) zt Cp)
    have xY:Hid (MY (W1.setCell ⟨b,o,none⟩ (.int .i64 ((x&&& (x-1):Nat):Int)))):=zF9 fun j hj=>
     ((AP.refl (fun k=>k=b) W1).setCell (fun _=>rfl) _).cell (fun e=>lC e.symm) (kE j hj)
    have AN:x&&& (x-1)<x:=Nat.lt_of_le_of_lt Nat.and_le_right (by omega);clear Cp kE
    gi_wp2
    rw [zDV x hx Fq];have IV:(W1.setCell ⟨b,o,none⟩ (.int .i64 ((x&&& (x-1):Nat):Int))).cell? ⟨b,o,none⟩=some (.int .i64 ((x&&& (x-1):Nat):Int)):=World.cell?_setCell_same' W1 _ _ (by rw [hc1];rfl);refine ⟨⟨_,_,_,_,_,_,_,_,_,_,_,_,⟨i+1,x&&& (x-1),xZ,by omega,Eh,zF9 ?_,Gg,IV,?_,xY⟩,rfl⟩,?_⟩
    ·rw [←List.drop_drop,zAH.out];rfl
    ·rw [World.frozen?_setCell];exact hf1
    ·unfold fw;rw [IV,hc]
     show ((x&&& (x-1):Nat):Int).toNat<(x:Int).toNat
     omega
   ·gi_wp2
    refine bodyPost_ret (results_none rfl _ _ _) rfl ?_;exact ⟨G,R,hS _ (zAk A3 Hu.size),.inr ⟨⟨_,rfl⟩,KT⟩⟩
def B8 (x:Int):List Int:=(E9 x.toNat).map fun (s:Nat)=>(s:Int)
theorem zBi (x:Int):(B8 x).map BQ=(E9 x.toNat).map Ue:=by
 unfold B8;rw [List.map_map];rfl
theorem og {x:Int} (hx:(0:Int)<=x/\ x<9223372036854775808) (w:World) (b o:Nat) (u:Value) (hg:GG.gi w) (Ct:GG.ng<=b) (hb: ∃ cs t,w.heap[b]? =some (.cells cs t (0,0))) (hc:w.cell? ⟨b,o,none⟩=some u) (hr:u= .int .i64 x):
 Md Tryz.prog 174 #[.pointer (some ⟨b,o,none⟩)] YV ((B8 x).map BQ) QV (fun k=>k=b) (fun k=>k=1) w:=by
 rw [zBi];obtain ⟨cs,t,hb⟩:=hb;have Ct:2<=b:=Ct;refine oh x.toNat b o w (by omega) hg.1 ?_ ?_ (by omega)
 ·rw [hc,hr];congr 2;omega
 ·unfold World.frozen?;simp [hb]
end Go.Proofs.YtkjbblkieglmlaaGreatDoor
namespace Go.Proofs.YtkjbblkieglmlaaGreatDoor
open Go.RowKit
theorem ES.iterOf {P:Program} {Γ:Aq} {f gf:Nat} {ds:List DV} {c:Nat -> DV} {d:DV} {encs:List (List DV)} {Rd:Nat -> Prop} (h0:ES P Γ f ds [] (.fn gf 1 c) [some (.cells [d])] true) (hc:c 0= .ref 0 0) (D7:ds.all Ep=true)
 (eg: ∀ args W,(callFunc gf args).run P W= .ok (.enter gf args) W)
 (vu: ∀ (w:World) (b o:Nat) (u:Value),Γ.gi w -> Γ.ng<=b -> (∃ cs t,w.heap[b]? =some (.cells cs t (0,0))) -> w.cell? ⟨b,o,none⟩=some u -> AM (fun _=>False) w d [] u -> Md P gf #[.pointer (some ⟨b,o,none⟩)] YV encs QV (fun k=>k=b) Rd w)
 (hd:PA d=true) (hRd: ∀ b,Rd b -> b<Γ.ng) (h:DH):ES P Γ f ds h (.it h.length) (h++[some (.iter encs)]) true:=by
 refine ⟨h0.1,fun N ρ w args HR Ch=>?_⟩;refine (h0.2 (MS N h ρ) [] w args (Pc (fun b hb=>HR.lt2 hb) HR.gi) ⟨Ch.1,fun i hi=>?_⟩).mono ?_
 ·have hx:=KD (zAW.1 D7 (ds.getD i .any) (by simp [hi]));exact AM.out _ (C6 (fun b hb=>OZ.1 hb) []) (hx _ _ _ _ (Ch.2 i hi))
 ·rintro e w' ⟨v,rfl,⟨⟨ρ',g1,g2,g3,g4⟩,g5⟩⟩;have hE:=g5 rfl;obtain ⟨p,hp,C8⟩:=g1.obj 0 _ rfl;have C8:AZ w' p 1 _:=C8;have hf: ∀ b,p.foot b -> w.heap.size<=b:=fun b hb=>(g3.grow b ⟨0,_,p,rfl,hp,hb⟩).resolve_left fun ⟨k,o',p',q1,_⟩=>by simp at q1
  obtain ⟨lb,hv,hl,Lt⟩:=g2;obtain ⟨u,hu,hr⟩:=Lt 0 (by omega);rw [hc] at hr;obtain ⟨p',BD,WN⟩:=hr;have ep:p'=p:=zAU (BD.symm.trans hp);subst ep
  have zn:lb= #[.pointer (some ⟨p'.blk,p'.off,none⟩)]:=by
   apply Array.ext
   ·simp [hl]
   ·intro i h1 h2;have:i=0:=by omega
    subst this;have:=zAJ.1 hu;obtain ⟨_,e⟩:=this;rw [e,WN];rfl
  subst zn;obtain ⟨u2,c1,c2⟩:=AZ.cell C8 (j:=0) (by omega);have Ex:p'.foot=fun b=>b=p'.blk:=C8.1
  have Ct:Γ.ng<=w.heap.size:=Γ.lo _ HR.gi;have C9:=g1.cel 0 _ p' p'.blk rfl hp (by rw [Ex]);refine ⟨v,rfl,⟨⟨ρ++[{ p' with val:=v }],HR.snoc hE (fun b hb=>⟨hf b hb,(g1.cel 0 _ p' b rfl hp hb).2.2⟩) ?_,⟨{ p' with val:=v },by rw [←HR.len];simp,rfl⟩,A6.snoc HR hE hf,fun _ _ h=>EV h⟩,g5⟩⟩;obtain ⟨_,cs,t,DU,_⟩:=C8;refine ⟨gf,_,Rd,⟨hv,eg⟩,?_,fun b hb=>?_,fun b hb=>?_⟩
  ·show Md P gf _ YV encs QV p'.foot Rd w'
   rw [Ex];refine vu w' _ _ u2 g1.gi C9.1 ⟨cs,t,DU⟩ (by simpa using c1) ?_;exact AM.out _ (C6 (fun b hb=>hb.elim) []) (ZK hd c2)
  ·have DA:=hRd b hb;refine ⟨fun hm=>?_,zAY (zAY DA Ct) hE.size⟩;rcases hm with hm | hm
   ·have:=(HR.nlt b hm).2;omega
   ·rcases MO.snoc HR hm with hm | hm
    ·have:=HR.low hm;omega
    ·have:=hf b hm;omega
  ·obtain ⟨_,_,c,t,z,h4⟩:=g1.cel 0 _ p' b rfl hp hb;exact (zAJ.1 h4).1
end Go.Proofs.YtkjbblkieglmlaaGreatDoor
namespace Go.Proofs.YtkjbblkieglmlaaGreatDoor
open Go.RowKit
set_option maxRecDepth 100000
set_option maxHeartbeats 40000000
inductive XO where
 | l1 (x7:Int)
def Tg (n:Nat) (self:XO -> Option Bool) (sets:List Int) (x7:Int):Option Bool:=
 bif (decide (x7<(sets.length:Int))) then
  if 0<=x7/\ x7<(sets.length:Int) then
   bif ((sets.getD ((x7).toNat) 0)==0) then
    some true
   else
    if AL (x7+1) then
     self (.l1 (x7+1))
    else none
  else none
 else
  some false
def md (n:Nat) (self:XO -> Option Bool) (sets:List Int):Option Bool:=
 self (.l1 0)
def QF (sets:List Int):Nat -> XO -> Option Bool
 | 0,_=>none
 | n+1,.l1 x7=>Tg n (QF sets n) sets x7
def Th (n:Nat) (sets:List Int):Option Bool:=md n (QF sets n) sets
def zB5 (n B:Nat) (N:Yd 0) (sets:List Int) (r:Bool):XO -> Prop
 | .l1 x7=>∀ m0:Nat,n<=m0 -> TW B N (FQ Tryz.f106 0 (.bool r) []) (A8 m0 (BL (AY Tryz.f106) 0 [])) ⟨AG 14 [(5,.ints sets),(6,.i (sets.length:Int)),(7,.i x7)],[]⟩
theorem zB6 (B:Nat) (N:Yd 0) (sets:List Int):Al (QF sets) (zB5 · B N sets):=ia (fun _=>rfl) fun n AK pt r h=>by
 cases pt
 case l1 x7=>
  intro m0 AD;refine rd AD fun m0 AD=>?_
  revert r;apply gO;exact bi 8 (gi (bi 12 (lE AE [2] []) (gw 13 (lG AE [] (AK _ _ · m0 AD))))) (lE AE [2] [])
theorem mc {n:Nat} {sets:List Int} {r:Bool} (h:Th n sets=some r):EQ 106 [.ints sets] [] (.bool r) [] true:=by
 refine ot Tryz.func106 fun B N=>?_
 revert r;apply gO;exact lN AE [] ((zB6 B N sets n) _ _ · n Nat.le.refl)
def aA (n:Nat) (pos:List Int):Option Bool:=
 (Th n pos).bind fun y1=>
  some y1
def JF (n:Nat) (pos:List Int):Option Bool:=aA n pos
theorem Nb {n:Nat} {pos:List Int} {r:Bool} (h:JF n pos=some r):EQ 84 [.ints pos] [] (.bool r) [] true:=by
 unfold JF aA at h;refine ot Tryz.func84 fun B N=>?_
 revert r;apply gO;exact cf mc [] fun _=>lE AE [2] []
def Zf (n:Nat) (pos:List Int):Option ((List Int)):=
 (Th n pos).bind fun y1=>
  bif y1 then
   if ((pos.length:Int):Int)=(pos.length:Int)/\ 0<=(pos.length:Int)/\ ((pos.length:Int):Int)<=1000000000000 then
    if pos.length=(List.replicate pos.length (0:Int)).length then
     some (List.replicate pos.length (0:Int))
    else none
   else none
  else
   some pos
def PF (n:Nat) (pos:List Int):Option ((List Int)):=Zf n pos
theorem ug {n:Nat} {pos:List Int} {r:(List Int)} (h:PF n pos=some r):EQ 143 [.ints pos] [] (.ints r) [] true:=by
 unfold PF Zf at h;refine ot Tryz.func143 fun B N=>?_
 revert r;apply gO;exact cf mc [] fun _=>bi 4 (gi (gn fun g1=>lF fun p=>ez AE [2] [0] p [0] (H0.g g1))) (lE AE [2] [])
inductive VP where
 | l1 (x20:Int)
def Rm (n:Nat) (self:VP -> Option Int) (q:AA) (pos:List Int) (x20:Int):Option Int:=
 bif (decide (x20<(pos.length:Int))) then
  if 0<=x20/\ x20<(pos.length:Int) then
   bif (decide ((pos.getD ((x20).toNat) 0)<0)) then
    some 250
   else
    if 0<=q.symbols/\ q.symbols<=(IntKind.i64.bits:Int) then
     bif (decide ((pos.getD ((x20).toNat) 0)>=(IntKind.i64.wrap (1*2 ^ (q.symbols).toNat)))) then
      some 250
     else
      if AL (x20+1) then
       self (.l1 (x20+1))
      else none
    else none
  else none
 else
  some 0
def iM (n:Nat) (self:VP -> Option Int) (q:AA) (pos:List Int):Option Int:=
 (valid n q).bind fun y1=>
  bif (y1 != 0) then
   some y1
  else
   bif ((pos.length:Int) != q.cells) then
    some 250
   else
    self (.l1 0)
def NF (q:AA) (pos:List Int):Nat -> VP -> Option Int
 | 0,_=>none
 | n+1,.l1 x20=>Rm n (NF q pos n) q pos x20
def NH (n:Nat) (q:AA) (pos:List Int):Option Int:=iM n (NF q pos n) q pos
def t6 (n B:Nat) (N:Yd 0) (q:AA) (pos:List Int) (r:Int):VP -> Prop
 | .l1 x20=>∀ m0:Nat,n<=m0 -> TW B N (FQ Tryz.f55 0 (.i r) []) (A8 m0 (BL (AY Tryz.f55) 0 [])) ⟨AG 34 [(2,.ref 0 0),(18,.ints pos),(19,.i (pos.length:Int)),(20,.i x20)],[some (.cells (AC q))]⟩
theorem t7 (B:Nat) (N:Yd 0) (q:AA) (pos:List Int):Al (NF q pos) (t6 · B N q pos):=ia (fun _=>rfl) fun n AK pt r h=>by
 cases pt
 case l1 x20=>
  intro m0 AD;refine rd AD fun m0 AD=>?_
  revert r;apply gO;exact bi 21 (gi (bi 25 (lE AE [4] []) (gi (bi 31 (lE AE [4] []) (gw 33 (lG AE [0] (AK _ _ · m0 AD))))))) (lE AE [4] [])
theorem ZM {n:Nat} {q:AA} {pos:List Int} {r:Int} (h:NH n q pos=some r):EQ 55 [.agg 5 (L1 (AC q)),.ints pos] [] (.i r) [] true:=by
 refine ot Tryz.func55 fun B N=>?_
 revert r;apply gO;exact cf UM [some (.cells (AC q))] fun _=>bi 11 (lE AE [4] []) (bi 17 (lE AE [4] []) (lN AE [0] ((t7 B N q pos n) _ _ · n Nat.le.refl)))
def mn (n:Nat) (s_:List Int):Option ((List Int)):=
 if 0<s_.length/\ ((True)/\ (0=0/\ 0=([]:List Int).length)/\ ([]:List Int).length+s_.length<=BB) then
  if ([]:List Int).length+s_.length=(([]:List Int)++s_).length then
   some (([]:List Int)++s_)
  else none
 else none
def Xb (n:Nat) (s_:List Int):Option ((List Int)):=mn n s_
theorem zCf {n:Nat} {s_:List Int} {r:(List Int)} (h:Xb n s_=some r):EQ 141 [.ints s_] [] (.msl 0 1 0 r.length) [some (.ints r)] true:=by
 refine ot Tryz.func141 fun B N=>?_
 revert r;apply gO;exact gc (gi (gi (gn fun g2=>lF fun p=>el AE [2] [1] p [] H0 [.msl 0 1 0 (([]:List Int).length+s_.length)] (AS.mslN g2))))
def cS (n:Nat) (s_:List Bool):Option ((List Bool)):=
 if 0<s_.length/\ ((True)/\ (0=0/\ 0=([]:List Bool).length)/\ ([]:List Bool).length+s_.length<=BB) then
  if ([]:List Bool).length+s_.length=(([]:List Bool)++s_).length then
   some (([]:List Bool)++s_)
  else none
 else none
def OL (n:Nat) (s_:List Bool):Option ((List Bool)):=cS n s_
theorem mq {n:Nat} {s_:List Bool} {r:(List Bool)} (h:OL n s_=some r):EQ 178 [.bools s_] [] (.msl 0 1 0 r.length) [some (.bools r)] true:=by
 refine ot Tryz.func178 fun B N=>?_
 revert r;apply gO;exact gc (gi (gi (gn fun g2=>lF fun p=>el AE [2] [1] p [] H0 [.msl 0 1 0 (([]:List Bool).length+s_.length)] (AS.mslN g2))))
def cU (n:Nat) (q:AA) (i:Int) (pos:List Int):Option Int:=
 (SO n q i).bind fun y1=>
  bif (y1.2 != 0) then
   some y1.2
  else
   (NH n q pos).bind fun y2=>
    some y2
def QL (n:Nat) (q:AA) (i:Int) (pos:List Int):Option Int:=cU n q i pos
theorem zCk {n:Nat} {q:AA} {i:Int} {pos:List Int} {r:Int} (h:QL n q i pos=some r):EQ 104 [.agg 5 (L1 (AC q)),.i i,.ints pos] [] (.i r) [] true:=by
 unfold QL cU at h;refine ot Tryz.func104 fun B N=>?_
 revert r;apply gO;exact cf vU [some (.cells (AC q))] fun _=>bi 16 (lE AE [6] []) (cf ZM [some (.cells (AC q))] fun _=>lE AE [6] [])
inductive Ws where
 | l1 (Cc:Int)
def TF (n:Nat) (self:Ws -> Option Int) (g_:List (List Int)) (sets:List (List Bool)) (Cc:Int):Option Int:=
 bif (decide (Cc<(sets.length:Int))) then
  if 0<=Cc/\ Cc<(sets.length:Int) then
   bif ((((sets.getD ((Cc).toNat) []).length:Nat):Int) != (g_.length:Int)) then
    some 1
   else
    if AL (Cc+1) then
     self (.l1 (Cc+1))
    else none
  else none
 else
  some 0
def lX (n:Nat) (self:Ws -> Option Int) (g_:List (List Int)) (sets:List (List Bool)):Option Int:=
 (TJ n g_).bind fun y1=>
  bif (y1 != 0) then
   some y1
  else
   self (.l1 0)
def Pq (g_:List (List Int)) (sets:List (List Bool)):Nat -> Ws -> Option Int
 | 0,_=>none
 | n+1,.l1 Cc=>TF n (Pq g_ sets n) g_ sets Cc
def JU (n:Nat) (g_:List (List Int)) (sets:List (List Bool)):Option Int:=lX n (Pq g_ sets n) g_ sets
def zAr (n B:Nat) (N:Yd 0) (g_:List (List Int)) (sets:List (List Bool)) (r:Int):Ws -> Prop
 | .l1 Cc=>∀ m0:Nat,n<=m0 -> TW B N (FQ Tryz.f102 0 (.i r) []) (A8 m0 (BL (AY Tryz.f102) 0 [])) ⟨AG 25 [(0,.sl 1 g_.length (AQ Be g_)),(13,.sl 1 sets.length (AQ QN sets)),(14,.i (sets.length:Int)),(15,.i Cc)],[]⟩
theorem zAs (B:Nat) (N:Yd 0) (g_:List (List Int)) (sets:List (List Bool)):Al (Pq g_ sets) (zAr · B N g_ sets):=ia (fun _=>rfl) fun n AK pt r h=>by
 cases pt
 case l1 Cc=>
  intro m0 AD;refine rd AD fun m0 AD=>?_
  revert r;apply gO;exact bi 16 (gi (bi 23 (lE AE [4] []) (gw 24 (lG AE [] (AK _ _ · m0 AD))))) (lE AE [4] [])
theorem Wq {n:Nat} {g_:List (List Int)} {sets:List (List Bool)} {r:Int} (h:JU n g_ sets=some r):EQ 102 [.sl 1 g_.length (AQ Be g_),.sl 1 sets.length (AQ QN sets)] [] (.i r) [] true:=by
 refine ot Tryz.func102 fun B N=>?_
 revert r;apply gO;exact cf lf [] fun _=>bi 11 (lE AE [4] []) (lN AE [] ((zAs B N g_ sets n) _ _ · n Nat.le.refl))
end Go.Proofs.YtkjbblkieglmlaaGreatDoor
namespace Go.Proofs.YtkjbblkieglmlaaGreatDoor
open Go.RowKit
set_option maxRecDepth 100000
set_option maxHeartbeats 40000000
theorem rA:Ar (Ag Tryz.f158 0) [] (List.range 18) [18]:=by unfold Ar;kernel_rfl
def p6:Bi:=fun i=>match i with
 | 0=>.ord [] (List.range 18) [18]
 | _=>.no
def Zx (n:Nat) (cell ss:Int) (c:AB) (q:AA) (pos:List Int) (ln:Nat) (lost:List Int):Option ((List Int)):=
 if (0<=cell/\ cell<(ln:Int))/\ 0+((cell).toNat)<lost.length/\ (0<=cell/\ cell<(pos.length:Int)) then
  some (lost.set (0+((cell).toNat)) (bits .or .i64 (lost.getD (0+((cell).toNat)) 0) (bits .and .i64 (pos.getD ((cell).toNat) 0) ss)))
 else none
def DT (n:Nat) (cell ss:Int) (c:AB) (q:AA) (pos:List Int) (ln:Nat) (lost:List Int):Option ((List Int)):=Zx n cell ss c q pos ln lost
theorem Fp {n:Nat} {cell ss:Int} {c:AB} {q:AA} {pos:List Int} {ln:Nat} {lost:List Int} {r:(List Int)} (h:DT n cell ss c q pos ln lost=some r):EQ 158 [.ref 0 0,.i cell,.i ss] [some (.cells (AJ c++AC q++[.ints pos,.msl 1 1 0 ln])),some (.ints lost)] (.tup 0 (fun j=>([]:List DV).getD j .any)) [some (.cells (AJ c++AC q++[.ints pos,.msl 1 1 0 ln])),some (.ints r)] false:=by
 refine ot Tryz.func158 fun B N=>?_
 revert r;apply gO;exact jg rA (gc (gn fun g0=>jg g0 (gc (gn fun g1=>jg g1 (gi (jg g0 (jg g1 (lE p6 [] [0,1]))))))))
theorem qq:Ar (Ag Tryz.f159 0) [] (List.range 22) [22]:=by unfold Ar;kernel_rfl
def pz:Bi:=fun i=>match i with
 | 0=>.ord [] (List.range 22) [22]
 | _=>.no
def ZZ (n:Nat) (cell:Int) (c:AB) (q:AA) (pos:List Int) (ln:Nat) (lost:List Int):Option ((List Int)):=
 if (0<=cell/\ cell<(ln:Int))/\ 0+((cell).toNat)<lost.length/\ (0<=cell/\ cell<(pos.length:Int)) then
  some (lost.set (0+((cell).toNat)) (bits .or .i64 (lost.getD (0+((cell).toNat)) 0) (bits .andNot .i64 (pos.getD ((cell).toNat) 0) c.set)))
 else none
def GC (n:Nat) (cell:Int) (c:AB) (q:AA) (pos:List Int) (ln:Nat) (lost:List Int):Option ((List Int)):=ZZ n cell c q pos ln lost
theorem LZ {n:Nat} {cell:Int} {c:AB} {q:AA} {pos:List Int} {ln:Nat} {lost:List Int} {r:(List Int)} (h:GC n cell c q pos ln lost=some r):EQ 159 [.ref 0 0,.i cell] [some (.cells (AJ c++AC q++[.ints pos,.msl 1 1 0 ln])),some (.ints lost)] (.tup 0 (fun j=>([]:List DV).getD j .any)) [some (.cells (AJ c++AC q++[.ints pos,.msl 1 1 0 ln])),some (.ints r)] false:=by
 refine ot Tryz.func159 fun B N=>?_
 revert r;apply gO;exact jg qq (gc (gn fun g0=>jg g0 (gc (gn fun g1=>jg g1 (gi (jg g0 (jg g1 (lE pz [] [0,1]))))))))
inductive Tf where
 | l1 (x3 x4 BH:Int)
 | l2 (x3 x4 CB:Int) (o1:List Int)
def Te (n:Nat) (self:Tf -> Option (Bool×(List Int))) (c:AB) (q:AA) (pos:List Int) (ln:Nat) (lost:List Int) (x3 x4 BH:Int):Option (Bool×(List Int)):=
 bif (decide (BH<(c.cells.length:Int))) then
  if (0<=BH/\ BH<(c.cells.length:Int))/\ (0<=(c.cells.getD ((BH).toNat) 0)/\ (c.cells.getD ((BH).toNat) 0)<(pos.length:Int))/\ AL ((pos.getD ((c.cells.getD ((BH).toNat) 0).toNat) 0)-1) then
   bif ((bits .and .i64 (pos.getD ((c.cells.getD ((BH).toNat) 0).toNat) 0) ((pos.getD ((c.cells.getD ((BH).toNat) 0).toNat) 0)-1))==0) then
    if AL (BH+1) then
     self (.l1 (bits .or .i64 x3 (pos.getD ((c.cells.getD ((BH).toNat) 0).toNat) 0)) (bits .or .i64 x4 (bits .and .i64 x3 (pos.getD ((c.cells.getD ((BH).toNat) 0).toNat) 0))) (BH+1))
    else none
   else
    if AL (BH+1) then
     self (.l1 x3 x4 (BH+1))
    else none
  else none
 else
  self (.l2 x3 x4 0 lost)
def Td (n:Nat) (self:Tf -> Option (Bool×(List Int))) (c:AB) (q:AA) (pos:List Int) (ln:Nat) (lost:List Int) (x3 x4 CB:Int) (o1:List Int):Option (Bool×(List Int)):=
 bif (decide (CB<(c.cells.length:Int))) then
  if (0<=CB/\ CB<(c.cells.length:Int))/\ (0<=(c.cells.getD ((CB).toNat) 0)/\ (c.cells.getD ((CB).toNat) 0)<(pos.length:Int))/\ AL ((pos.getD ((c.cells.getD ((CB).toNat) 0).toNat) 0)-1) then
   bif ((bits .and .i64 (pos.getD ((c.cells.getD ((CB).toNat) 0).toNat) 0) ((pos.getD ((c.cells.getD ((CB).toNat) 0).toNat) 0)-1))==0) then
    (DT n (c.cells.getD ((CB).toNat) 0) (bits .or .i64 (bits .andNot .i64 x3 (pos.getD ((c.cells.getD ((CB).toNat) 0).toNat) 0)) x4) c q pos ln o1).bind fun y1=>
     if AL (CB+1) then
      self (.l2 x3 x4 (CB+1) y1)
     else none
   else
    (DT n (c.cells.getD ((CB).toNat) 0) x3 c q pos ln o1).bind fun y1=>
     if AL (CB+1) then
      self (.l2 x3 x4 (CB+1) y1)
     else none
  else none
 else
  some (true,o1)
def mW (n:Nat) (self:Tf -> Option (Bool×(List Int))) (c:AB) (q:AA) (pos:List Int) (ln:Nat) (lost:List Int):Option (Bool×(List Int)):=
 self (.l1 0 0 0)
def Jd (c:AB) (q:AA) (pos:List Int) (ln:Nat) (lost:List Int):Nat -> Tf -> Option (Bool×(List Int))
 | 0,_=>none
 | n+1,.l1 x3 x4 BH=>Te n (Jd c q pos ln lost n) c q pos ln lost x3 x4 BH
 | n+1,.l2 x3 x4 CB o1=>Td n (Jd c q pos ln lost n) c q pos ln lost x3 x4 CB o1
def QB (n:Nat) (c:AB) (q:AA) (pos:List Int) (ln:Nat) (lost:List Int):Option (Bool×(List Int)):=mW n (Jd c q pos ln lost n) c q pos ln lost
def zBu (n B:Nat) (N:Yd 2) (c:AB) (q:AA) (pos:List Int) (ln:Nat) (lost:List Int) (r:Bool×(List Int)):Tf -> Prop
 | .l1 x3 x4 BH=>∀ m0:Nat,n<=m0 -> TW B N (FQ Tryz.f132 2 (.bool r.1) [some (.cells (AJ c++AC q++[.ints pos,.msl 1 1 0 ln])),some (.ints r.2)]) (A8 m0 (BL (AY Tryz.f132) 0 [])) ⟨AG 77 [(0,.ref 0 0),(3,.i x3),(4,.i x4),(15,.ints c.cells),(16,.i (c.cells.length:Int)),(17,.i BH)],[some (.cells (AJ c++AC q++[.ints pos,.msl 1 1 0 ln])),some (.ints lost)]⟩
 | .l2 x3 x4 CB o1=>∀ m0:Nat,n<=m0 -> TW B N (FQ Tryz.f132 2 (.bool r.1) [some (.cells (AJ c++AC q++[.ints pos,.msl 1 1 0 ln])),some (.ints r.2)]) (A8 m0 (BL (AY Tryz.f132) 2 [])) ⟨AG 77 [(0,.ref 0 0),(3,.i x3),(4,.i x4),(46,.ints c.cells),(47,.i (c.cells.length:Int)),(48,.i CB)],[some (.cells (AJ c++AC q++[.ints pos,.msl 1 1 0 ln])),some (.ints o1)]⟩
theorem zBv (B:Nat) (N:Yd 2) (c:AB) (q:AA) (pos:List Int) (ln:Nat) (lost:List Int):Al (Jd c q pos ln lost) (zBu · B N c q pos ln lost):=ia (fun _=>rfl) fun n AK pt r h=>by
 cases pt
 case l1 x3 x4 BH=>
  intro m0 AD;refine rd AD fun m0 AD=>?_
  revert r;apply gO;exact bi 18 (gc (gi (gc (gi (gw 30 (bi 32 (gw 41 (lG AE [0,1] (AK _ _ · m0 AD))) (gw 41 (lG AE [0,1] (AK _ _ · m0 AD))))))))) (lN AE [0,1] (AK _ _ · n Nat.le.refl))
 case l2 x3 x4 CB o1=>
  intro m0 AD;refine rd AD fun m0 AD=>?_
  revert r;apply gO;exact bi 49 (gc (gi (gc (gi (gw 61 (bi 63 (ce Fp [0,1] [some (.cells (AJ c++AC q++[.ints pos,.msl 1 1 0 ln])),some (.ints o1)] fun _=>gw 76 (lG AE [0,1] (AK _ _ · m0 AD))) (ce Fp [0,1] [some (.cells (AJ c++AC q++[.ints pos,.msl 1 1 0 ln])),some (.ints o1)] fun _=>gw 76 (lG AE [0,1] (AK _ _ · m0 AD))))))))) (lE AE [2] [0,1])
theorem zBt {n:Nat} {c:AB} {q:AA} {pos:List Int} {ln:Nat} {lost:List Int} {r:Bool×(List Int)} (h:QB n c q pos ln lost=some r):EQ 132 [.ref 0 0] [some (.cells (AJ c++AC q++[.ints pos,.msl 1 1 0 ln])),some (.ints lost)] (.bool r.1) [some (.cells (AJ c++AC q++[.ints pos,.msl 1 1 0 ln])),some (.ints r.2)] false:=by
 refine ot Tryz.func132 fun B N=>?_
 revert r;apply gO;exact lN AE [0,1] ((zBv B N c q pos ln lost n) _ _ · n Nat.le.refl)
theorem rP:Ar (Ag Tryz.f133 5) [] (List.range 15) []:=by unfold Ar;kernel_rfl
theorem rN:Ar (Ag Tryz.f133 8) [] (List.range 15) []:=by unfold Ar;kernel_rfl
theorem rQ:Ar (Ag Tryz.f133 16) [] (List.range 23) []:=by unfold Ar;kernel_rfl
theorem Ym:Ar (Ag Tryz.f133 18) [] (List.range 23) []:=by unfold Ar;kernel_rfl
def FU:Bi:=fun i=>match i with
 | 5=>.ord [] (List.range 15) []
 | 8=>.ord [] (List.range 15) []
 | 16=>.ord [] (List.range 23) []
 | 18=>.ord [] (List.range 23) []
 | _=>.no
inductive Tn where
 | l1 (x3 x4 Cc:Int)
 | l2 (x3 x4 CD:Int) (o1:List Int)
def Tm (n:Nat) (self:Tn -> Option (Bool×(List Int))) (c:AB) (q:AA) (pos:List Int) (ln:Nat) (lost:List Int) (x3 x4 Cc:Int):Option (Bool×(List Int)):=
 bif (decide (Cc<(c.cells.length:Int))) then
  if (0<=Cc/\ Cc<(c.cells.length:Int))/\ (0<=(c.cells.getD ((Cc).toNat) 0)/\ (c.cells.getD ((Cc).toNat) 0)<(pos.length:Int)) then
   bif ((bits .andNot .i64 (pos.getD ((c.cells.getD ((Cc).toNat) 0).toNat) 0) c.set)==0) then
    if AL (x3+1)/\ AL (x4+1)/\ AL (Cc+1) then
     self (.l1 (x3+1) (x4+1) (Cc+1))
    else none
   else
    bif ((bits .and .i64 (pos.getD ((c.cells.getD ((Cc).toNat) 0).toNat) 0) c.set) != 0) then
     if AL (x4+1)/\ AL (Cc+1) then
      self (.l1 x3 (x4+1) (Cc+1))
     else none
    else
     if AL (Cc+1) then
      self (.l1 x3 x4 (Cc+1))
     else none
  else none
 else
  bif (decide (x3>c.hi)) then
   some (false,lost)
  else
   bif (decide (x4<c.lo)) then
    some (false,lost)
   else
    self (.l2 x3 x4 0 lost)
def Tl (n:Nat) (self:Tn -> Option (Bool×(List Int))) (c:AB) (q:AA) (pos:List Int) (ln:Nat) (lost:List Int) (x3 x4 CD:Int) (o1:List Int):Option (Bool×(List Int)):=
 bif (decide (CD<(c.cells.length:Int))) then
  if 0<=CD/\ CD<(c.cells.length:Int) then
   bif (x3==c.hi) then
    if 0<=(c.cells.getD ((CD).toNat) 0)/\ (c.cells.getD ((CD).toNat) 0)<(pos.length:Int) then
     bif ((bits .andNot .i64 (pos.getD ((c.cells.getD ((CD).toNat) 0).toNat) 0) c.set) != 0) then
      (DT n (c.cells.getD ((CD).toNat) 0) c.set c q pos ln o1).bind fun y1=>
       bif (x4==c.lo) then
        bif ((bits .and .i64 (pos.getD ((c.cells.getD ((CD).toNat) 0).toNat) 0) c.set) != 0) then
         (GC n (c.cells.getD ((CD).toNat) 0) c q pos ln y1).bind fun y2=>
          if AL (CD+1) then
           self (.l2 x3 x4 (CD+1) y2)
          else none
        else
         if AL (CD+1) then
          self (.l2 x3 x4 (CD+1) y1)
         else none
       else
        if AL (CD+1) then
         self (.l2 x3 x4 (CD+1) y1)
        else none
     else
      bif (x4==c.lo) then
       bif ((bits .and .i64 (pos.getD ((c.cells.getD ((CD).toNat) 0).toNat) 0) c.set) != 0) then
        (GC n (c.cells.getD ((CD).toNat) 0) c q pos ln o1).bind fun y1=>
         if AL (CD+1) then
          self (.l2 x3 x4 (CD+1) y1)
         else none
       else
        if AL (CD+1) then
         self (.l2 x3 x4 (CD+1) o1)
        else none
      else
       if AL (CD+1) then
        self (.l2 x3 x4 (CD+1) o1)
       else none
    else none
   else
    bif (x4==c.lo) then
     if 0<=(c.cells.getD ((CD).toNat) 0)/\ (c.cells.getD ((CD).toNat) 0)<(pos.length:Int) then
      bif ((bits .and .i64 (pos.getD ((c.cells.getD ((CD).toNat) 0).toNat) 0) c.set) != 0) then
       (GC n (c.cells.getD ((CD).toNat) 0) c q pos ln o1).bind fun y1=>
        if AL (CD+1) then
         self (.l2 x3 x4 (CD+1) y1)
        else none
      else
       if AL (CD+1) then
        self (.l2 x3 x4 (CD+1) o1)
       else none
     else none
    else
     if AL (CD+1) then
      self (.l2 x3 x4 (CD+1) o1)
     else none
  else none
 else
  some (true,o1)
def zCD (n:Nat) (self:Tn -> Option (Bool×(List Int))) (c:AB) (q:AA) (pos:List Int) (ln:Nat) (lost:List Int):Option (Bool×(List Int)):=
 self (.l1 0 0 0)
def If (c:AB) (q:AA) (pos:List Int) (ln:Nat) (lost:List Int):Nat -> Tn -> Option (Bool×(List Int))
 | 0,_=>none
 | n+1,.l1 x3 x4 Cc=>Tm n (If c q pos ln lost n) c q pos ln lost x3 x4 Cc
 | n+1,.l2 x3 x4 CD o1=>Tl n (If c q pos ln lost n) c q pos ln lost x3 x4 CD o1
def QH (n:Nat) (c:AB) (q:AA) (pos:List Int) (ln:Nat) (lost:List Int):Option (Bool×(List Int)):=zCD n (If c q pos ln lost n) c q pos ln lost
def zCE (n B:Nat) (N:Yd 2) (c:AB) (q:AA) (pos:List Int) (ln:Nat) (lost:List Int) (r:Bool×(List Int)):Tn -> Prop
 | .l1 x3 x4 Cc=>∀ m0:Nat,n<=m0 -> TW B N (FQ Tryz.f133 2 (.bool r.1) [some (.cells (AJ c++AC q++[.ints pos,.msl 1 1 0 ln])),some (.ints r.2)]) (A8 m0 (BL (AY Tryz.f133) 0 [])) ⟨AG 140 [(0,.ref 0 0),(3,.i x3),(4,.i x4),(13,.ints c.cells),(14,.i (c.cells.length:Int)),(15,.i Cc)],[some (.cells (AJ c++AC q++[.ints pos,.msl 1 1 0 ln])),some (.ints lost)]⟩
 | .l2 x3 x4 CD o1=>∀ m0:Nat,n<=m0 -> TW B N (FQ Tryz.f133 2 (.bool r.1) [some (.cells (AJ c++AC q++[.ints pos,.msl 1 1 0 ln])),some (.ints r.2)]) (A8 m0 (BL (AY Tryz.f133) 3 [])) ⟨AG 140 [(0,.ref 0 0),(3,.i x3),(4,.i x4),(76,.ints c.cells),(77,.i (c.cells.length:Int)),(78,.i CD)],[some (.cells (AJ c++AC q++[.ints pos,.msl 1 1 0 ln])),some (.ints o1)]⟩
theorem zCF (B:Nat) (N:Yd 2) (c:AB) (q:AA) (pos:List Int) (ln:Nat) (lost:List Int):Al (If c q pos ln lost) (zCE · B N c q pos ln lost):=ia (fun _=>rfl) fun n AK pt r h=>by
 cases pt
 case l1 x3 x4 Cc=>
  intro m0 AD;refine rd AD fun m0 AD=>?_
  revert r;apply gO;exact bi 16 (gc (gi (jg rP (gn fun g1=>jg g1 (bi 33 (gc (gw 35 (gc (gw 37 (gw 55 (lG FU [0,1] (AK _ _ · m0 AD))))))) (jg rN (jg g1 (bi 52 (gc (gw 54 (gw 55 (lG FU [0,1] (AK _ _ · m0 AD))))) (gw 55 (lG FU [0,1] (AK _ _ · m0 AD))))))))))) (bi 62 (lE FU [2] [0,1]) (bi 70 (lE FU [2] [0,1]) (lN FU [0,1] (AK _ _ · n Nat.le.refl))))
 case l2 x3 x4 CD o1=>
  intro m0 AD;refine rd AD fun m0 AD=>?_
  revert r;apply gO;exact bi 79 (gi (jg rQ (bi 88 (gn fun g1=>jg g1 (bi 103 (ce Fp [0,1] [some (.cells (AJ c++AC q++[.ints pos,.msl 1 1 0 ln])),some (.ints o1)] fun y1=>jg Ym (bi 119 (jg g1 (bi 134 (ce LZ [0,1] [some (.cells (AJ c++AC q++[.ints pos,.msl 1 1 0 ln])),some (.ints y1)] fun _=>gw 139 (lG FU [0,1] (AK _ _ · m0 AD))) (gw 139 (lG FU [0,1] (AK _ _ · m0 AD))))) (gw 139 (lG FU [0,1] (AK _ _ · m0 AD))))) (jg Ym (bi 119 (jg g1 (bi 134 (ce LZ [0,1] [some (.cells (AJ c++AC q++[.ints pos,.msl 1 1 0 ln])),some (.ints o1)] fun _=>gw 139 (lG FU [0,1] (AK _ _ · m0 AD))) (gw 139 (lG FU [0,1] (AK _ _ · m0 AD))))) (gw 139 (lG FU [0,1] (AK _ _ · m0 AD))))))) (jg Ym (bi 119 (gi (bi 134 (ce LZ [0,1] [some (.cells (AJ c++AC q++[.ints pos,.msl 1 1 0 ln])),some (.ints o1)] fun _=>gw 139 (lG FU [0,1] (AK _ _ · m0 AD))) (gw 139 (lG FU [0,1] (AK _ _ · m0 AD))))) (gw 139 (lG FU [0,1] (AK _ _ · m0 AD)))))))) (lE FU [2] [0,1])
theorem zCC {n:Nat} {c:AB} {q:AA} {pos:List Int} {ln:Nat} {lost:List Int} {r:Bool×(List Int)} (h:QH n c q pos ln lost=some r):EQ 133 [.ref 0 0] [some (.cells (AJ c++AC q++[.ints pos,.msl 1 1 0 ln])),some (.ints lost)] (.bool r.1) [some (.cells (AJ c++AC q++[.ints pos,.msl 1 1 0 ln])),some (.ints r.2)] false:=by
 refine ot Tryz.func133 fun B N=>?_
 revert r;apply gO;exact lN FU [0,1] ((zCF B N c q pos ln lost n) _ _ · n Nat.le.refl)
end Go.Proofs.YtkjbblkieglmlaaGreatDoor
namespace Go.Proofs.YtkjbblkieglmlaaGreatDoor
open Go.RowKit
set_option maxRecDepth 100000
set_option maxHeartbeats 40000000
def oq (n:Nat) (Ai:Int):Option Unit:=
 some ()
def ou (n:Nat) (Ai:Int):Option Unit:=oq n Ai
theorem om {n:Nat} (Ai:Int) {r:Unit} (h:ou n Ai=some r):EQ 161 [.i Ai] [] (.fn 174 1 (L1 [.ref 0 0])) [some (.cells [.i Ai])] true:=by
 refine ot Tryz.func161 fun B N=>?_
 revert r;apply gO;exact lE AE [2] [0]
theorem Ju {x:Int} (hx:0<=x/\ x<9223372036854775808) (h:DH):EQ 161 [.i x] h (.it h.length) (h++[some (.iter ((B8 x).map BQ))]) true:=by
 refine ES.iterOf (om (n:=0) x (r:=()) rfl) rfl (by kernel_rfl) (fun args W=>?_) (fun w b o u hg Ct hb hc hr=>og hx w b o u hg Ct hb hc hr) rfl (fun b hb=>?_) h
 ·exact ME Tryz.func174 (by kernel_rfl) (by kernel_rfl) args W
 ·rw [hb];decide
def fB:ST:=.rd 0 (.rd 1 (.rd 2 (.rd 3 (.rd 4 (.rd 5 (.rd 6 (.rd 7 (.rd 8 (.rd 9 (.rd 10 (.rd 11 (.rd 12 (.rd 13 (.rd 14 (.rd 15 (.rd 16 (.rd 17 (.rd 18 (.rd 19 (.ef 20 (.ef 21 (.fin [] [4,5]) (.no)) (.no)))))))))))))))))))))
theorem rM:Bq (Ag Tryz.f160 4) [20] fB:=by unfold Bq;kernel_rfl
def fA:ST:=.rd 0 (.rd 1 (.ef 2 (.ef 3 (.fin [] [4,5]) (.no)) (.no)))
theorem rL:Bq (Ag Tryz.f160 5) [2] fA:=by unfold Bq;kernel_rfl
def Uv:Bi:=fun i=>match i with
 | 4=>.tre [20] fB
 | 5=>.tre [2] fA
 | _=>.no
def zY (c:AB) (q:AA) (pos:List Int) (ln:Nat) (lost:List Int):DH:=[some (.cells (AJ c++AC q++[.ints pos,.msl 1 1 0 ln])),some (.ints lost),some (.cells [.ref 0 0]),some (.cells [.i 100]),some (.cells [.i (-1)])]
def zX (c:AB) (q:AA) (pos:List Int) (ln:Nat) (lost:List Int) (ss:Int):DH:=[some (.cells (AJ c++AC q++[.ints pos,.msl 1 1 0 ln])),some (.ints lost),some (.cells [.ref 0 0]),some (.cells [.i 100]),some (.cells [.i (-1)]),some (.iter ((B8 ss).map BQ))]
def eH (c:AB) (q:AA) (pos:List Int) (ln:Nat) (lost:List Int) (Dm Dl:Int):St:=⟨(AG 32 [(4,.ref 3 0),(5,.ref 4 0)]),([some (.cells (AJ c++AC q++[.ints pos,.msl 1 1 0 ln])),some (.ints lost),some (.cells [.ref 0 0]),some (.cells [.i Dm]),some (.cells [.i Dl]),none]:DH)⟩
def zW (c:AB) (q:AA) (pos:List Int) (ln:Nat) (lost:List Int) (Fk Fj:Int):DH:=[some (.cells (AJ c++AC q++[.ints pos,.msl 1 1 0 ln])),some (.ints lost),some (.cells [.ref 0 0]),some (.cells [.i Fk]),some (.cells [.i Fj]),none]
def eG (c:AB) (q:AA) (pos:List Int) (ln:Nat) (lost:List Int) (e8 Fk Fj:Int):St:=⟨(AG 32 [(4,.ref 3 0),(5,.ref 4 0)]),([some (.cells (AJ c++AC q++[.ints pos,.msl 1 1 0 ln])),some (.ints lost),some (.cells [.ref 0 0]),some (.cells [.i (if (q.values.getD ((e8).toNat) 0)<Fk then (q.values.getD ((e8).toNat) 0) else Fk)]),some (.cells [.i (if (q.values.getD ((e8).toNat) 0)>Fj then (q.values.getD ((e8).toNat) 0) else Fj)]),none]:DH)⟩
inductive MF where
 | s0 (Fk Fj:Int)
def mP (c:AB) (q:AA) (pos:List Int) (ln:Nat) (lost:List Int):MF -> DH
 | .s0 Fk Fj=>[some (.cells (AJ c++AC q++[.ints pos,.msl 1 1 0 ln])),some (.ints lost),some (.cells [.ref 0 0]),some (.cells [.i Fk]),some (.cells [.i Fj]),none]
def mO (n:Nat) (c:AB) (q:AA) (pos:List Int) (ln:Nat) (lost:List Int) (e8:Int) (Fk Fj:Int):Option MF:=
 if 0<=e8/\ e8<(q.values.length:Int) then
  some (.s0 (if (q.values.getD ((e8).toNat) 0)<Fk then (q.values.getD ((e8).toNat) 0) else Fk) (if (q.values.getD ((e8).toNat) 0)>Fj then (q.values.getD ((e8).toNat) 0) else Fj))
 else none
def mN (n:Nat) (c:AB) (q:AA) (pos:List Int) (ln:Nat) (lost:List Int) (e8:Int):MF -> Option MF
 | .s0 Fk Fj=>mO n c q pos ln lost e8 Fk Fj
def TV (n:Nat) (c:AB) (q:AA) (pos:List Int) (ln:Nat) (lost:List Int) (e8:Int) (s:MF):Option MF:=mN n c q pos ln lost e8 s
theorem zBh (n:Nat) (c:AB) (q:AA) (pos:List Int) (ln:Nat) (lost:List Int) (l B:Nat) (N:Yd 6) (e8:Int) (s:MF) (r:MF) (h:TV n c q pos ln lost e8 s=some r):TA l B N (Cb 6 [] 0 (mP c q pos ln lost r)) Tryz.f160 8 ⟨AG 32 [(2,.ref 2 0),(4,.ref 3 0),(5,.ref 4 0),(8,.it 5),(9,.i e8)],mP c q pos ln lost s⟩:=by
 cases s with
 | s0 Fk Fj=>
  refine ag Uv [0,1,2,3,4,5] H0 (AG 32 [(2,.ref 2 0),(4,.ref 3 0),(5,.ref 4 0),(6,.i e8)]) (zW c q pos ln lost Fk Fj) fun N=>?_
  revert r;apply gO;exact jg rM (gn fun nL=>jg nL (jg nL (jt (jt (jg (Eq.refl (eG c q pos ln lost e8 Fk Fj)) (lF fun p=>rr (tg:=[([(20,3)],(eG c q pos ln lost e8 Fk Fj))]) Uv [0,1,2,3,4,5] rfl p))))))
def mM (n:Nat) (ss:Int) (c:AB) (q:AA) (pos:List Int) (ln:Nat) (lost:List Int):Option (Int×Int×(List Int)):=
 if 0<=ss/\ ss<9223372036854775808 then
  (Bn (TV n c q pos ln lost) (B8 ss) (.s0 100 (-1))).bind fun y1=>
   match y1 with
   | .s0 Dm Dl=>
    some (Dm,Dl,lost)
 else none
def TX (n:Nat) (ss:Int) (c:AB) (q:AA) (pos:List Int) (ln:Nat) (lost:List Int):Option (Int×Int×(List Int)):=mM n ss c q pos ln lost
theorem QA {n:Nat} {ss:Int} {c:AB} {q:AA} {pos:List Int} {ln:Nat} {lost:List Int} {r:Int×Int×(List Int)} (h:TX n ss c q pos ln lost=some r):EQ 160 [.ref 0 0,.i ss] [some (.cells (AJ c++AC q++[.ints pos,.msl 1 1 0 ln])),some (.ints lost)] (.tup 2 (L1 [.i r.1,.i r.2.1])) [some (.cells (AJ c++AC q++[.ints pos,.msl 1 1 0 ln])),some (.ints r.2.2)] false:=by
 refine ot Tryz.func160 fun B N=>?_
 revert r;apply gO
 exact jt (jt (gn fun g0=>jc (Ju g0 (zY c q pos ln lost)) (cn fun y1 A5=>fun p r h=>by
  refine gs Uv [0,1,2,3,4,5] p (Fe (AY Tryz.f160) 8 []) (AG 32 [(2,.ref 2 0),(4,.ref 3 0),(5,.ref 4 0),(8,.it 5)]) (zX c q pos ln lost ss) ?_;refine r0 5 8 #[9] BQ 6 A5 (zBh n c q pos ln lost) ?_;cases y1 with
  | s0 Dm Dl=>
   dsimp only at h
   revert r;apply gO;exact jg rL (jt (jt (jg (Eq.refl (eH c q pos ln lost Dm Dl)) (lE (tg:=[([(2,3)],(eH c q pos ln lost Dm Dl))]) Uv [4,5] [0,1,3,4])))))))
def eL:ST:=.rd 0 (.rd 1 (.rd 2 (.rd 3 (.rd 4 (.rd 5 (.rd 6 (.rd 7 (.ef 8 (.rd 9 (.rd 10 (.rd 11 (.rd 12 (.rd 13 (.fin [] [1,3,4,7,8,19,20,21,90])))))) (.no)))))))))
theorem qO:Bq (Ag Tryz.f134 5) [] eL:=by unfold Bq;kernel_rfl
def eK:ST:=.rd 0 (.rd 1 (.rd 2 (.rd 3 (.rd 4 (.rd 5 (.ef 6 (.ef 7 (.fin [] [1,3,4,19,20,21,90]) (.no)) (.no)))))))
theorem qN:Bq (Ag Tryz.f134 6) [6] eK:=by unfold Bq;kernel_rfl
theorem qM:Ar (Ag Tryz.f134 8) [] (List.range 16) []:=by unfold Ar;kernel_rfl
def eN:ST:=.rd 0 (.rd 1 (.rd 2 (.rd 3 (.rd 4 (.rd 5 (.rd 6 (.rd 7 (.ef 8 (.rd 9 (.rd 10 (.rd 11 (.ef 12 (.ef 13 (.ef 14 (.ef 15 (.fin [0,1] [1,3,4,10,11,12,64,65,66,90]) (.no)) (.no)) (.no)) (.ef 13 (.ef 12 (.ef 14 (.ef 15 (.fin [1,0] [1,3,4,10,11,12,64,65,66,90]) (.no)) (.no)) (.no)) (.no)))))) (.ef 12 (.ef 8 (.rd 9 (.rd 10 (.rd 11 (.ef 13 (.ef 14 (.ef 15 (.fin [0,1] [1,3,4,10,11,12,64,65,66,90]) (.no)) (.no)) (.no))))) (.ef 13 (.ef 8 (.rd 9 (.rd 10 (.rd 11 (.ef 14 (.ef 15 (.fin [0,1] [1,3,4,10,11,12,64,65,66,90]) (.no)) (.no))))) (.no)) (.no))) (.ef 13 (.ef 8 (.rd 9 (.rd 10 (.rd 11 (.ef 12 (.ef 14 (.ef 15 (.fin [1,0] [1,3,4,10,11,12,64,65,66,90]) (.no)) (.no)) (.no))))) (.ef 12 (.ef 8 (.rd 9 (.rd 10 (.rd 11 (.ef 14 (.ef 15 (.fin [1,0] [1,3,4,10,11,12,64,65,66,90]) (.no)) (.no))))) (.no)) (.no))) (.no)))))))))))
theorem qR:Bq (Ag Tryz.f134 13) [12,13,14] eN:=by unfold Bq;kernel_rfl
theorem qQ:Ar (Ag Tryz.f134 14) [([0,1,2,3,4,5,6],7)] [] []:=by unfold Ar;kernel_rfl
theorem qP:Ar (Ag Tryz.f134 17) [] (List.range 24) []:=by unfold Ar;kernel_rfl
def eM:ST:=.rd 0 (.rd 1 (.rd 2 (.rd 3 (.ef 4 (.fin [] [2]) (.no)))))
theorem gB:Bq (Ag Tryz.f134 18) [] eM:=by unfold Bq;kernel_rfl
def Hc:Bi:=fun i=>match i with
 | 5=>.tre [] eL
 | 6=>.tre [6] eK
 | 8=>.ord [] (List.range 16) []
 | 13=>.tre [12,13,14] eN
 | 14=>.ord [([0,1,2,3,4,5,6],7)] [] []
 | 17=>.ord [] (List.range 24) []
 | 18=>.tre [] eM
 | _=>.no
def yG (c:AB) (q:AA) (pos:List Int) (ln:Nat) (o1:List Int) (A2 Am:Int):DH:=[some (.cells (AJ c++AC q++[.ints pos,.msl 1 1 0 ln])),some (.ints o1),some (.cells [.ref 0 0]),some (.cells [.i A2]),some (.cells [.i Am])]
def dx (y1:Int×Int×(List Int)) (c:AB) (x21:Int) (q:AA) (pos:List Int) (ln:Nat) (A2 Am:Int):St:=⟨(AG 129 [(1,.ref 2 0),(3,.ref 3 0),(4,.ref 4 0),(7,.i y1.1),(8,.i y1.2.1),(19,.ints c.cells),(20,.i (c.cells.length:Int)),(21,.i x21)]),([some (.cells (AJ c++AC q++[.ints pos,.msl 1 1 0 ln])),some (.ints y1.2.2),some (.cells [.ref 0 0]),some (.cells [.i A2]),some (.cells [.i Am])]:DH)⟩
def dw (c:AB) (x21:Int) (q:AA) (pos:List Int) (ln:Nat) (y1:Int×Int×(List Int)) (A2 Am:Int):St:=⟨(AG 129 [(1,.ref 2 0),(3,.ref 3 0),(4,.ref 4 0),(19,.ints c.cells),(20,.i (c.cells.length:Int)),(21,.i x21)]),([some (.cells (AJ c++AC q++[.ints pos,.msl 1 1 0 ln])),some (.ints y1.2.2),some (.cells [.ref 0 0]),some (.cells [.i (A2+y1.1)]),some (.cells [.i (Am+y1.2.1)])]:DH)⟩
def yB (c:AB) (q:AA) (pos:List Int) (ln:Nat) (o1:List Int) (A2 Am Ah:Int):DH:=[some (.cells (AJ c++AC q++[.ints pos,.msl 1 1 0 ln])),some (.ints o1),some (.cells [.ref 0 0]),some (.cells [.i A2]),some (.cells [.i Am]),some (.cells [.i (c.cells.getD ((Ah).toNat) 0)])]
def Mm (c:AB) (Ah:Int) (q:AA) (pos:List Int) (ln:Nat) (y1:Int×Int×(List Int)) (A2 Am:Int):St:=⟨(AG 129 [(1,.ref 2 0),(3,.ref 3 0),(4,.ref 4 0),(10,.ref 5 0),(11,.ref 6 0),(12,.ref 7 0),(64,.ints c.cells),(65,.i (c.cells.length:Int)),(66,.i Ah)]),([some (.cells (AJ c++AC q++[.ints pos,.msl 1 1 0 ln])),some (.ints y1.2.2),some (.cells [.ref 0 0]),some (.cells [.i A2]),some (.cells [.i Am]),some (.cells [.i (c.cells.getD ((Ah).toNat) 0)]),some (.cells [.i y1.1]),some (.cells [.i y1.2.1])]:DH)⟩
def kN (c:AB) (q:AA) (pos:List Int) (ln:Nat) (o1:List Int) (A2 Am Ah:Int):DH:=[some (.cells (AJ c++AC q++[.ints pos,.msl 1 1 0 ln])),some (.ints o1),some (.cells [.ref 0 0]),some (.cells [.i A2]),some (.cells [.i Am]),some (.cells [.i (c.cells.getD ((Ah).toNat) 0)]),some (.cells [.i 0])]
def kM (c:AB) (q:AA) (pos:List Int) (ln:Nat) (o1:List Int) (A2 Am Ah:Int):DH:=[some (.cells (AJ c++AC q++[.ints pos,.msl 1 1 0 ln])),some (.ints o1),some (.cells [.ref 0 0]),some (.cells [.i A2]),some (.cells [.i Am]),some (.cells [.i (c.cells.getD ((Ah).toNat) 0)]),some (.cells [.i 0]),some (.cells [.i 0])]
def yA (c:AB) (q:AA) (pos:List Int) (ln:Nat) (y1:Int×Int×(List Int)) (A2 Am Ah:Int):DH:=[some (.cells (AJ c++AC q++[.ints pos,.msl 1 1 0 ln])),some (.ints y1.2.2),some (.cells [.ref 0 0]),some (.cells [.i A2]),some (.cells [.i Am]),some (.cells [.i (c.cells.getD ((Ah).toNat) 0)]),some (.cells [.i y1.1]),some (.cells [.i y1.2.1])]
def xz (c:AB) (q:AA) (pos:List Int) (ln:Nat) (y1:Int×Int×(List Int)) (A2 Am Ah:Int):DH:=[some (.cells (AJ c++AC q++[.ints pos,.msl 1 1 0 ln])),some (.ints y1.2.2),some (.cells [.ref 0 0]),some (.cells [.i A2]),some (.cells [.i Am]),some (.cells [.i (c.cells.getD ((Ah).toNat) 0)]),some (.cells [.i y1.1]),some (.cells [.i y1.2.1]),some (.iter ((B8 (pos.getD ((c.cells.getD ((Ah).toNat) 0).toNat) 0)).map BQ))]
def ae (c:AB) (q:AA) (pos:List Int) (ln:Nat) (F3:List Int) (A2 Am Ah:Int) (y1:Int×Int×(List Int)):DH:=[some (.cells (AJ c++AC q++[.ints pos,.msl 1 1 0 ln])),some (.ints F3),some (.cells [.ref 0 0]),some (.cells [.i A2]),some (.cells [.i Am]),some (.cells [.i (c.cells.getD ((Ah).toNat) 0)]),some (.cells [.i y1.1]),some (.cells [.i y1.2.1]),none]
def UU (c:AB) (q:AA) (pos:List Int) (ln:Nat) (Ig:(List Int)) (A2 Am Ah:Int) (y1:Int×Int×(List Int)):St:=⟨(AG 129 []),([some (.cells (AJ c++AC q++[.ints pos,.msl 1 1 0 ln])),some (.ints Ig),some (.cells [.ref 0 0]),some (.cells [.i A2]),some (.cells [.i Am]),some (.cells [.i (c.cells.getD ((Ah).toNat) 0)]),some (.cells [.i y1.1]),some (.cells [.i y1.2.1]),none]:DH)⟩
inductive Jv where
 | s0 (F3:List Int)
def fG (c:AB) (Ah:Int) (q:AA) (pos:List Int) (ln:Nat) (A2 Am:Int) (y1:Int×Int×(List Int)):Jv -> DH
 | .s0 F3=>[some (.cells (AJ c++AC q++[.ints pos,.msl 1 1 0 ln])),some (.ints F3),some (.cells [.ref 0 0]),some (.cells [.i A2]),some (.cells [.i Am]),some (.cells [.i (c.cells.getD ((Ah).toNat) 0)]),some (.cells [.i y1.1]),some (.cells [.i y1.2.1]),none]
def Uf (n:Nat) (c:AB) (Ah:Int) (q:AA) (pos:List Int) (ln:Nat) (A2 Am:Int) (y1:Int×Int×(List Int)) (EW:Int) (F3:List Int):Option Jv:=
 if (0<=EW/\ EW<(q.values.length:Int))/\ AL (A2-y1.1)/\ AL ((A2-y1.1)+(q.values.getD ((EW).toNat) 0)) then
  bif (decide (((A2-y1.1)+(q.values.getD ((EW).toNat) 0))>c.hi)) then
   if 0<=EW/\ EW<=(IntKind.i64.bits:Int) then
    (DT n (c.cells.getD ((Ah).toNat) 0) (IntKind.i64.wrap (1*2 ^ (EW).toNat)) c q pos ln F3).bind fun Ig=>
     some (.s0 Ig)
   else none
  else
   if AL (Am-y1.2.1)/\ AL ((Am-y1.2.1)+(q.values.getD ((EW).toNat) 0)) then
    bif (decide (((Am-y1.2.1)+(q.values.getD ((EW).toNat) 0))<c.lo)) then
     if 0<=EW/\ EW<=(IntKind.i64.bits:Int) then
      (DT n (c.cells.getD ((Ah).toNat) 0) (IntKind.i64.wrap (1*2 ^ (EW).toNat)) c q pos ln F3).bind fun Ig=>
       some (.s0 Ig)
     else none
    else
     some (.s0 F3)
   else none
 else none
def fF (n:Nat) (c:AB) (Ah:Int) (q:AA) (pos:List Int) (ln:Nat) (A2 Am:Int) (y1:Int×Int×(List Int)) (EW:Int):Jv -> Option Jv
 | .s0 F3=>Uf n c Ah q pos ln A2 Am y1 EW F3
def Ug (n:Nat) (c:AB) (Ah:Int) (q:AA) (pos:List Int) (ln:Nat) (A2 Am:Int) (y1:Int×Int×(List Int)) (EW:Int) (s:Jv):Option Jv:=fF n c Ah q pos ln A2 Am y1 EW s
theorem pD (n:Nat) (c:AB) (Ah:Int) (q:AA) (pos:List Int) (ln:Nat) (A2 Am:Int) (y1:Int×Int×(List Int)) (l B:Nat) (N:Yd 9) (EW:Int) (s:Jv) (r:Jv) (h:Ug n c Ah q pos ln A2 Am y1 EW s=some r):TA l B N (Cb 9 [] 0 (fG c Ah q pos ln A2 Am y1 r)) Tryz.f134 89 ⟨AG 129 [(1,.ref 2 0),(3,.ref 3 0),(4,.ref 4 0),(10,.ref 5 0),(11,.ref 6 0),(12,.ref 7 0),(64,.ints c.cells),(65,.i (c.cells.length:Int)),(66,.i Ah),(89,.it 8),(90,.i EW)],fG c Ah q pos ln A2 Am y1 s⟩:=by
 cases s with
 | s0 F3=>
  replace h:Uf n c Ah q pos ln A2 Am y1 EW F3=some r:=h;unfold Uf at h;refine ag Hc [0,1,2,3,4,5,6,7,8] H0 (AG 129 [(1,.ref 2 0),(3,.ref 3 0),(4,.ref 4 0),(10,.ref 5 0),(11,.ref 6 0),(12,.ref 7 0),(13,.i EW)]) (ae c q pos ln F3 A2 Am Ah y1) fun N=>?_
  revert r;apply gO;exact gc (gi (jg qP (gc (gw 101 (gw 103 (bi 109 (jg gB (gi (ce Fp [0,1] (ae c q pos ln F3 A2 Am Ah y1) fun Ig=>jg (Eq.refl (UU c q pos ln Ig A2 Am Ah y1)) (lF fun p=>rr (tg:=[([],(UU c q pos ln Ig A2 Am Ah y1))]) Hc [0,1,2,3,4,5,6,7,8] rfl p)))) (gc (gw 113 (gw 115 (bi 121 (jg gB (gi (ce Fp [0,1] (ae c q pos ln F3 A2 Am Ah y1) fun Ig=>jg (Eq.refl (UU c q pos ln Ig A2 Am Ah y1)) (lF fun p=>rr (tg:=[([],(UU c q pos ln Ig A2 Am Ah y1))]) Hc [0,1,2,3,4,5,6,7,8] rfl p)))) (lF fun p=>rr Hc [0,1,2,3,4,5,6,7,8] rfl p)))))))))))
inductive Qm where
 | l1 (x21:Int) (o1:List Int) (A2 Am:Int)
 | l2 (Ah:Int) (o1:List Int) (A2 Am:Int)
def Ql (n:Nat) (self:Qm -> Option (Bool×(List Int))) (c:AB) (q:AA) (pos:List Int) (ln:Nat) (lost:List Int) (x21:Int) (o1:List Int) (A2 Am:Int):Option (Bool×(List Int)):=
 bif (decide (x21<(c.cells.length:Int))) then
  if (0<=x21/\ x21<(c.cells.length:Int))/\ (0<=(c.cells.getD ((x21).toNat) 0)/\ (c.cells.getD ((x21).toNat) 0)<(pos.length:Int)) then
   (TX n (pos.getD ((c.cells.getD ((x21).toNat) 0).toNat) 0) c q pos ln o1).bind fun y1=>
    if AL (A2+y1.1)/\ AL (Am+y1.2.1)/\ AL (x21+1) then
     self (.l1 (x21+1) y1.2.2 (A2+y1.1) (Am+y1.2.1))
    else none
  else none
 else
  bif (decide (A2>c.hi)) then
   some (false,o1)
  else
   bif (decide (Am<c.lo)) then
    some (false,o1)
   else
    self (.l2 0 o1 A2 Am)
def Qk (n:Nat) (self:Qm -> Option (Bool×(List Int))) (c:AB) (q:AA) (pos:List Int) (ln:Nat) (lost:List Int) (Ah:Int) (o1:List Int) (A2 Am:Int):Option (Bool×(List Int)):=
 bif (decide (Ah<(c.cells.length:Int))) then
  if (0<=Ah/\ Ah<(c.cells.length:Int))/\ (0<=(c.cells.getD ((Ah).toNat) 0)/\ (c.cells.getD ((Ah).toNat) 0)<(pos.length:Int)) then
   (TX n (pos.getD ((c.cells.getD ((Ah).toNat) 0).toNat) 0) c q pos ln o1).bind fun y1=>
    if 0<=(pos.getD ((c.cells.getD ((Ah).toNat) 0).toNat) 0)/\ (pos.getD ((c.cells.getD ((Ah).toNat) 0).toNat) 0)<9223372036854775808 then
     (Bn (Ug n c Ah q pos ln A2 Am y1) (B8 (pos.getD ((c.cells.getD ((Ah).toNat) 0).toNat) 0)) (.s0 y1.2.2)).bind fun y2=>
      match y2 with
      | .s0 EA=>
       if AL (Ah+1) then
        self (.l2 (Ah+1) EA A2 Am)
       else none
    else none
  else none
 else
  some (true,o1)
def pC (n:Nat) (self:Qm -> Option (Bool×(List Int))) (c:AB) (q:AA) (pos:List Int) (ln:Nat) (lost:List Int):Option (Bool×(List Int)):=
 self (.l1 0 lost 0 0)
def IA (c:AB) (q:AA) (pos:List Int) (ln:Nat) (lost:List Int):Nat -> Qm -> Option (Bool×(List Int))
 | 0,_=>none
 | n+1,.l1 x21 o1 A2 Am=>Ql n (IA c q pos ln lost n) c q pos ln lost x21 o1 A2 Am
 | n+1,.l2 Ah o1 A2 Am=>Qk n (IA c q pos ln lost n) c q pos ln lost Ah o1 A2 Am
def Oq (n:Nat) (c:AB) (q:AA) (pos:List Int) (ln:Nat) (lost:List Int):Option (Bool×(List Int)):=pC n (IA c q pos ln lost n) c q pos ln lost
def pE (n B:Nat) (N:Yd 2) (c:AB) (q:AA) (pos:List Int) (ln:Nat) (lost:List Int) (r:Bool×(List Int)):Qm -> Prop
 | .l1 x21 o1 A2 Am=>∀ m0:Nat,n<=m0 -> TW B N (FQ Tryz.f134 2 (.bool r.1) [some (.cells (AJ c++AC q++[.ints pos,.msl 1 1 0 ln])),some (.ints r.2)]) (A8 m0 (BL (AY Tryz.f134) 0 [])) ⟨AG 129 [(1,.ref 2 0),(3,.ref 3 0),(4,.ref 4 0),(19,.ints c.cells),(20,.i (c.cells.length:Int)),(21,.i x21)],[some (.cells (AJ c++AC q++[.ints pos,.msl 1 1 0 ln])),some (.ints o1),some (.cells [.ref 0 0]),some (.cells [.i A2]),some (.cells [.i Am])]⟩
 | .l2 Ah o1 A2 Am=>∀ m0:Nat,n<=m0 -> TW B N (FQ Tryz.f134 2 (.bool r.1) [some (.cells (AJ c++AC q++[.ints pos,.msl 1 1 0 ln])),some (.ints r.2)]) (A8 m0 (BL (AY Tryz.f134) 2 [])) ⟨AG 129 [(1,.ref 2 0),(3,.ref 3 0),(4,.ref 4 0),(64,.ints c.cells),(65,.i (c.cells.length:Int)),(66,.i Ah)],[some (.cells (AJ c++AC q++[.ints pos,.msl 1 1 0 ln])),some (.ints o1),some (.cells [.ref 0 0]),some (.cells [.i A2]),some (.cells [.i Am])]⟩
theorem pF (B:Nat) (N:Yd 2) (c:AB) (q:AA) (pos:List Int) (ln:Nat) (lost:List Int):Al (IA c q pos ln lost) (pE · B N c q pos ln lost):=ia (fun _=>rfl) fun n AK pt r h=>by
 cases pt
 case l1 x21 o1 A2 Am=>
  intro m0 AD;refine rd AD fun m0 AD=>?_
  revert r;apply gO;exact bi 22 (gc (gi (jg qO (gi (ce QA [0,1] (yG c q pos ln o1 A2 Am) fun y1=>jg (Eq.refl (dx y1 c x21 q pos ln A2 Am)) (jg qN (gc (gw 39 (gc (gw 42 (jt (jt (jg (Eq.refl (dw c x21 q pos ln y1 A2 Am)) (gw 43 (lG (tg:=[([],(dx y1 c x21 q pos ln A2 Am)),([(6,3)],(dw c x21 q pos ln y1 A2 Am))]) Hc [0,1,2,3,4] (AK _ _ · m0 AD)))))))))))))))) (jg qM (bi 50 (lE Hc [2] [0,1]) (bi 58 (lE Hc [2] [0,1]) (lN Hc [0,1,2,3,4] (AK _ _ · n Nat.le.refl)))))
 case l2 Ah o1 A2 Am=>
  intro m0 AD;refine rd AD fun m0 AD=>?_
  revert r;apply gO
  exact bi 67 (gc (gi (jt (jg qR (gn fun g1=>jg g1 (cn fun y1 A5=>jc (em (QA A5) [0,1] (yB c q pos ln o1 A2 Am Ah)) (jt (jt (jg (Eq.refl (Mm c Ah q pos ln y1 A2 Am)) (jt (jt (jg (Eq.refl (Mm c Ah q pos ln y1 A2 Am)) (jc (em (QA A5) [0,1] (kN c q pos ln o1 A2 Am Ah)) (jt (jt (jg (Eq.refl (Mm c Ah q pos ln y1 A2 Am)) (jc (em (QA A5) [0,1] (kM c q pos ln o1 A2 Am Ah)) (jt (jt (jg (Eq.refl (Mm c Ah q pos ln y1 A2 Am)) (jc (em (QA A5) [0,1] (kN c q pos ln o1 A2 Am Ah)) (jt (jt (jg (Eq.refl (Mm c Ah q pos ln y1 A2 Am)) (jc (em (QA A5) [0,1] (kM c q pos ln o1 A2 Am Ah)) (jt (jt (jg (Eq.refl (Mm c Ah q pos ln y1 A2 Am)) (jg qQ (jg g1 (gn fun g2=>jc (Ju g2 (yA c q pos ln y1 A2 Am Ah)) (cn fun y2 Bz=>fun p r h=>by
   refine gs (tg:=[([],(Mm c Ah q pos ln y1 A2 Am))]) Hc [0,1,2,3,4,5,6,7,8] p (Fe (AY Tryz.f134) 89 [m0]) (AG 129 [(1,.ref 2 0),(3,.ref 3 0),(4,.ref 4 0),(10,.ref 5 0),(11,.ref 6 0),(12,.ref 7 0),(64,.ints c.cells),(65,.i (c.cells.length:Int)),(66,.i Ah),(89,.it 8)]) (xz c q pos ln y1 A2 Am Ah) ?_;refine r0 8 89 #[90] BQ 9 Bz (pD n c Ah q pos ln A2 Am y1) ?_;cases y2 with
   | s0 EA=>
    dsimp only at h
    revert r;apply gO;exact gw 128 (lG Hc [0,1,2,3,4] (AK _ _ · m0 AD)))))))))))))))))))))))))))))))))) (lE Hc [2] [0,1])
theorem pA {n:Nat} {c:AB} {q:AA} {pos:List Int} {ln:Nat} {lost:List Int} {r:Bool×(List Int)} (h:Oq n c q pos ln lost=some r):EQ 134 [.ref 0 0] [some (.cells (AJ c++AC q++[.ints pos,.msl 1 1 0 ln])),some (.ints lost)] (.bool r.1) [some (.cells (AJ c++AC q++[.ints pos,.msl 1 1 0 ln])),some (.ints r.2)] false:=by
 refine ot Tryz.func134 fun B N=>?_
 revert r;apply gO;exact jt (jt (lN Hc [0,1,2,3,4] ((pF B N c q pos ln lost n) _ _ · n Nat.le.refl)))
end Go.Proofs.YtkjbblkieglmlaaGreatDoor
namespace Go.Proofs.YtkjbblkieglmlaaGreatDoor
open Go.RowKit
set_option maxRecDepth 100000
set_option maxHeartbeats 40000000
theorem rT:Ar (Ag Tryz.f166 1) [] (List.range 18) []:=by unfold Ar;kernel_rfl
def p8:Bi:=fun i=>match i with
 | 1=>.ord [] (List.range 18) []
 | _=>.no
def nh (n:Nat) (s_ t_:Int) (c:AB) (q:AA) (pos:List Int) (ln:Nat) (lost:List Int):Option (Bool×(List Int)):=
 if (0<=s_/\ s_<(q.values.length:Int))/\ (0<=t_/\ t_<(q.values.length:Int))/\ AL ((q.values.getD ((s_).toNat) 0)-(q.values.getD ((t_).toNat) 0))/\ AL (0-((q.values.getD ((s_).toNat) 0)-(q.values.getD ((t_).toNat) 0))) then
  some ((decide ((if (0-((q.values.getD ((s_).toNat) 0)-(q.values.getD ((t_).toNat) 0)))>((q.values.getD ((s_).toNat) 0)-(q.values.getD ((t_).toNat) 0)) then (0-((q.values.getD ((s_).toNat) 0)-(q.values.getD ((t_).toNat) 0))) else ((q.values.getD ((s_).toNat) 0)-(q.values.getD ((t_).toNat) 0)))>=c.lo)),lost)
 else none
def Xp (n:Nat) (s_ t_:Int) (c:AB) (q:AA) (pos:List Int) (ln:Nat) (lost:List Int):Option (Bool×(List Int)):=nh n s_ t_ c q pos ln lost
theorem zDT {n:Nat} {s_ t_:Int} {c:AB} {q:AA} {pos:List Int} {ln:Nat} {lost:List Int} {r:Bool×(List Int)} (h:Xp n s_ t_ c q pos ln lost=some r):EQ 166 [.i s_,.i t_,.ref 0 0] [some (.cells [.ref 1 0]),some (.cells (AJ c++AC q++[.ints pos,.msl 2 1 0 ln])),some (.ints lost)] (.bool r.1) [some (.cells [.ref 1 0]),some (.cells (AJ c++AC q++[.ints pos,.msl 2 1 0 ln])),some (.ints r.2)] false:=by
 refine ot Tryz.func166 fun B N=>?_
 revert r;apply gO;exact jg rT (gc (gi (gc (gi (gc (gw 23 (gw 26 (lE p8 [5] [0,1,2]))))))))
theorem qr:Ar (Ag Tryz.f167 1) [] (List.range 6) []:=by unfold Ar;kernel_rfl
def Q7:Bi:=fun i=>match i with
 | 1=>.ord [] (List.range 6) []
 | _=>.no
def iw (n:Nat) (s_ t_:Int) (c:AB) (q:AA) (pos:List Int) (ln:Nat) (lost:List Int):Option (Bool×(List Int)):=
 if (0<=s_/\ s_<=(IntKind.i64.bits:Int))/\ (0<=t_/\ t_<=(IntKind.i64.bits:Int)) then
  bif ((bits .and .i64 (IntKind.i64.wrap (1*2 ^ (s_).toNat)) c.set)==0) then
   bif ((bits .and .i64 (IntKind.i64.wrap (1*2 ^ (t_).toNat)) c.set)==0) then
    some (true,lost)
   else
    some (((bits .and .i64 (IntKind.i64.wrap (1*2 ^ (s_).toNat)) c.other)==0),lost)
  else
   bif ((bits .and .i64 (IntKind.i64.wrap (1*2 ^ (t_).toNat)) c.other)==0) then
    bif ((bits .and .i64 (IntKind.i64.wrap (1*2 ^ (t_).toNat)) c.set)==0) then
     some (true,lost)
    else
     some (((bits .and .i64 (IntKind.i64.wrap (1*2 ^ (s_).toNat)) c.other)==0),lost)
   else
    some (false,lost)
 else none
def Vm (n:Nat) (s_ t_:Int) (c:AB) (q:AA) (pos:List Int) (ln:Nat) (lost:List Int):Option (Bool×(List Int)):=iw n s_ t_ c q pos ln lost
theorem uf {n:Nat} {s_ t_:Int} {c:AB} {q:AA} {pos:List Int} {ln:Nat} {lost:List Int} {r:Bool×(List Int)} (h:Vm n s_ t_ c q pos ln lost=some r):EQ 167 [.i s_,.i t_,.ref 0 0] [some (.cells [.ref 1 0]),some (.cells (AJ c++AC q++[.ints pos,.msl 2 1 0 ln])),some (.ints lost)] (.bool r.1) [some (.cells [.ref 1 0]),some (.cells (AJ c++AC q++[.ints pos,.msl 2 1 0 ln])),some (.ints r.2)] false:=by
 refine ot Tryz.func167 fun B N=>?_
 revert r;apply gO;exact jg qr (gc (gi (gi (bi 19 (bi 38 (lE Q7 [5] [0,1,2]) (lE Q7 [5] [0,1,2])) (bi 28 (bi 38 (lE Q7 [5] [0,1,2]) (lE Q7 [5] [0,1,2])) (lE Q7 [5] [0,1,2]))))))
theorem qp:Ar (Ag Tryz.f165 1) [] (List.range 16) []:=by unfold Ar;kernel_rfl
theorem qn:Ar (Ag Tryz.f165 2) [([0,1,2,3,4,5,6,7,8,9,10,11,12,13],14)] [15] [16]:=by unfold Ar;kernel_rfl
theorem qm:Ar (Ag Tryz.f165 9) [] [0,1,2,3] [4]:=by unfold Ar;kernel_rfl
theorem qo:Ar (Ag Tryz.f165 10) [] [0,1,2,3] [4]:=by unfold Ar;kernel_rfl
def LH:Bi:=fun i=>match i with
 | 1=>.ord [] (List.range 16) []
 | 2=>.ord [([0,1,2,3,4,5,6,7,8,9,10,11,12,13],14)] [15] [16]
 | 9=>.ord [] [0,1,2,3] [4]
 | 10=>.ord [] [0,1,2,3] [4]
 | _=>.no
def zP (c:AB) (q:AA) (pos:List Int) (ln:Nat) (lost:List Int):DH:=[some (.cells [.ref 1 0]),some (.cells (AJ c++AC q++[.ints pos,.msl 2 1 0 ln])),some (.ints lost),some (.cells [.fn 166 1 (L1 [.ref 0 0])]),some (.cells [.i (pos.getD ((c.cells.getD 1 0).toNat) 0)]),some (.cells [.i 0]),some (.cells [.i 0])]
def zO (c:AB) (q:AA) (pos:List Int) (ln:Nat) (lost:List Int):DH:=[some (.cells [.ref 1 0]),some (.cells (AJ c++AC q++[.ints pos,.msl 2 1 0 ln])),some (.ints lost),some (.cells [.fn 166 1 (L1 [.ref 0 0])]),some (.cells [.i (pos.getD ((c.cells.getD 1 0).toNat) 0)]),some (.cells [.i 0]),some (.cells [.i 0]),some (.iter ((B8 (pos.getD ((c.cells.getD 0 0).toNat) 0)).map BQ))]
def zN (c:AB) (q:AA) (pos:List Int) (ln:Nat) (Dm:List Int) (Dl FP:Int):DH:=[some (.cells [.ref 1 0]),some (.cells (AJ c++AC q++[.ints pos,.msl 2 1 0 ln])),some (.ints Dm),some (.cells [.fn 166 1 (L1 [.ref 0 0])]),some (.cells [.i (pos.getD ((c.cells.getD 1 0).toNat) 0)]),some (.cells [.i Dl]),some (.cells [.i FP]),none]
def zM (c:AB) (q:AA) (pos:List Int) (ln:Nat) (y2:(List Int)) (Dl FP:Int):DH:=[some (.cells [.ref 1 0]),some (.cells (AJ c++AC q++[.ints pos,.msl 2 1 0 ln])),some (.ints y2),some (.cells [.fn 166 1 (L1 [.ref 0 0])]),some (.cells [.i (pos.getD ((c.cells.getD 1 0).toNat) 0)]),some (.cells [.i Dl]),some (.cells [.i FP]),none]
def kT (c:AB) (q:AA) (pos:List Int) (ln:Nat) (Co:List Int) (Cn Cm BA:Int):DH:=[some (.cells [.ref 1 0]),some (.cells (AJ c++AC q++[.ints pos,.msl 2 1 0 ln])),some (.ints Co),some (.cells [.fn 166 1 (L1 [.ref 0 0])]),some (.cells [.i (pos.getD ((c.cells.getD 1 0).toNat) 0)]),some (.cells [.i Cn]),some (.cells [.i Cm]),none,some (.cells [.i BA])]
def zL (c:AB) (q:AA) (pos:List Int) (ln:Nat) (Co:List Int) (Cn Cm BA:Int):DH:=[some (.cells [.ref 1 0]),some (.cells (AJ c++AC q++[.ints pos,.msl 2 1 0 ln])),some (.ints Co),some (.cells [.fn 166 1 (L1 [.ref 0 0])]),some (.cells [.i (pos.getD ((c.cells.getD 1 0).toNat) 0)]),some (.cells [.i Cn]),some (.cells [.i Cm]),none,some (.cells [.i BA]),some (.iter ((B8 (pos.getD ((c.cells.getD 1 0).toNat) 0)).map BQ))]
def kS (c:AB) (q:AA) (pos:List Int) (ln:Nat) (De:List Int) (DJ DI BA:Int):DH:=[some (.cells [.ref 1 0]),some (.cells (AJ c++AC q++[.ints pos,.msl 2 1 0 ln])),some (.ints De),some (.cells [.fn 166 1 (L1 [.ref 0 0])]),some (.cells [.i (pos.getD ((c.cells.getD 1 0).toNat) 0)]),some (.cells [.i DJ]),some (.cells [.i DI]),none,some (.cells [.i BA]),none]
inductive KA where
 | s0 (De:List Int) (DJ DI:Int)
def ig (c:AB) (q:AA) (pos:List Int) (ln:Nat) (BA:Int):KA -> DH
 | .s0 De DJ DI=>[some (.cells [.ref 1 0]),some (.cells (AJ c++AC q++[.ints pos,.msl 2 1 0 ln])),some (.ints De),some (.cells [.fn 166 1 (L1 [.ref 0 0])]),some (.cells [.i (pos.getD ((c.cells.getD 1 0).toNat) 0)]),some (.cells [.i DJ]),some (.cells [.i DI]),none,some (.cells [.i BA]),none]
def VY (n:Nat) (c:AB) (q:AA) (pos:List Int) (ln:Nat) (BA DM:Int) (De:List Int) (DJ DI:Int):Option KA:=
 (Xp n BA DM c q pos ln De).bind fun OT=>
  bif OT.1 then
   if (0<=BA/\ BA<=(IntKind.i64.bits:Int))/\ (0<=DM/\ DM<=(IntKind.i64.bits:Int)) then
    some (.s0 OT.2 (bits .or .i64 DJ (IntKind.i64.wrap (1*2 ^ (BA).toNat))) (bits .or .i64 DI (IntKind.i64.wrap (1*2 ^ (DM).toNat))))
   else none
  else
   some (.s0 OT.2 DJ DI)
def ic (n:Nat) (c:AB) (q:AA) (pos:List Int) (ln:Nat) (BA DM:Int):KA -> Option KA
 | .s0 De DJ DI=>VY n c q pos ln BA DM De DJ DI
def VZ (n:Nat) (c:AB) (q:AA) (pos:List Int) (ln:Nat) (BA DM:Int) (s:KA):Option KA:=ic n c q pos ln BA DM s
theorem uK (n:Nat) (c:AB) (q:AA) (pos:List Int) (ln:Nat) (BA:Int) (l B:Nat) (N:Yd 10) (DM:Int) (s:KA) (r:KA) (h:VZ n c q pos ln BA DM s=some r):TA l B N (Cb 10 [] 0 (ig c q pos ln BA r)) Tryz.f165 45 ⟨AG 69 [(3,.ref 3 0),(9,.ref 5 0),(10,.ref 6 0),(11,.ref 8 0),(45,.it 9),(46,.i DM)],ig c q pos ln BA s⟩:=by
 cases s with
 | s0 De DJ DI=>
  replace h:VY n c q pos ln BA DM De DJ DI=some r:=h;unfold VY at h;refine ag LH [0,1,2,3,4,5,6,7,8,9] H0 (AG 69 [(3,.ref 3 0),(9,.ref 5 0),(10,.ref 6 0),(11,.ref 8 0),(12,.i DM)]) (kS c q pos ln De DJ DI BA) fun N=>?_
  revert r;apply gO;exact ce zDT [0,1,2] (kS c q pos ln De DJ DI BA) fun _=>bi 50 (jg qm (gc (gi (jt (jg qo (gi (jt (lF fun p=>rr LH [0,1,2,3,4,5,6,7,8,9] rfl p)))))))) (lF fun p=>rr LH [0,1,2,3,4,5,6,7,8,9] rfl p)
inductive KB where
 | s0 (Co:List Int) (Cn Cm:Int)
def ii (c:AB) (q:AA) (pos:List Int) (ln:Nat):KB -> DH
 | .s0 Co Cn Cm=>[some (.cells [.ref 1 0]),some (.cells (AJ c++AC q++[.ints pos,.msl 2 1 0 ln])),some (.ints Co),some (.cells [.fn 166 1 (L1 [.ref 0 0])]),some (.cells [.i (pos.getD ((c.cells.getD 1 0).toNat) 0)]),some (.cells [.i Cn]),some (.cells [.i Cm]),none]
def VX (n:Nat) (c:AB) (q:AA) (pos:List Int) (ln:Nat) (BA:Int) (Co:List Int) (Cn Cm:Int):Option KB:=
 if 0<=(pos.getD ((c.cells.getD 1 0).toNat) 0)/\ (pos.getD ((c.cells.getD 1 0).toNat) 0)<9223372036854775808 then
  (Bn (VZ n c q pos ln BA) (B8 (pos.getD ((c.cells.getD 1 0).toNat) 0)) (.s0 Co Cn Cm)).bind fun OU=>
   match OU with
   | .s0 T0 Tz Ty=>
    some (.s0 T0 Tz Ty)
 else none
def ib (n:Nat) (c:AB) (q:AA) (pos:List Int) (ln:Nat) (BA:Int):KB -> Option KB
 | .s0 Co Cn Cm=>VX n c q pos ln BA Co Cn Cm
def Va (n:Nat) (c:AB) (q:AA) (pos:List Int) (ln:Nat) (BA:Int) (s:KB):Option KB:=ib n c q pos ln BA s
theorem uJ (n:Nat) (c:AB) (q:AA) (pos:List Int) (ln:Nat) (l B:Nat) (N:Yd 8) (BA:Int) (s:KB) (r:KB) (h:Va n c q pos ln BA s=some r):TA l B N (Cb 8 [] 0 (ii c q pos ln r)) Tryz.f165 42 ⟨AG 69 [(0,.ref 1 0),(3,.ref 3 0),(5,.i (c.cells.getD 0 0)),(6,.i (c.cells.getD 1 0)),(8,.ref 4 0),(9,.ref 5 0),(10,.ref 6 0),(42,.it 7),(43,.i BA)],ii c q pos ln s⟩:=by
 cases s with
 | s0 Co Cn Cm=>
  replace h:VX n c q pos ln BA Co Cn Cm=some r:=h;unfold VX at h;refine ag LH [0,1,2,3,4,5,6,7,8] (H0.t) (AG 69 [(3,.ref 3 0),(8,.ref 4 0),(9,.ref 5 0),(10,.ref 6 0),(11,.ref 8 0)]) (kT c q pos ln Co Cn Cm BA) fun N=>?_
  revert r;apply gO
  exact gn fun cg=>jc (Ju cg (kT c q pos ln Co Cn Cm BA)) (cn fun OU bM=>fun p r h=>by
   refine gs LH [0,1,2,3,4,5,6,7,8,9] p (Fe (VB Tryz.f165 42) 45 []) (AG 69 [(3,.ref 3 0),(9,.ref 5 0),(10,.ref 6 0),(11,.ref 8 0),(45,.it 9)]) (zL c q pos ln Co Cn Cm BA) ?_;refine r0 9 45 #[46] BQ 10 bM (uK n c q pos ln BA) ?_;cases OU with
   | s0 T0 Tz Ty=>
    dsimp only at h
    revert r;apply gO;exact lF fun p=>rr LH [0,1,2,3,4,5,6,7] rfl p)
def iZ (n:Nat) (c:AB) (q:AA) (pos:List Int) (ln:Nat) (lost:List Int):Option (Bool×(List Int)):=
 if ((0:Int)<=0/\ 0<(c.cells.length:Int))/\ ((0:Int)<=1/\ 1<(c.cells.length:Int))/\ (0<=(c.cells.getD 0 0)/\ (c.cells.getD 0 0)<(pos.length:Int))/\ (0<=(c.cells.getD 1 0)/\ (c.cells.getD 1 0)<(pos.length:Int))/\ (0<=(pos.getD ((c.cells.getD 0 0).toNat) 0)/\ (pos.getD ((c.cells.getD 0 0).toNat) 0)<9223372036854775808) then
  (Bn (Va n c q pos ln) (B8 (pos.getD ((c.cells.getD 0 0).toNat) 0)) (.s0 lost 0 0)).bind fun y1=>
   match y1 with
   | .s0 Dm Dl FP=>
    (DT n (c.cells.getD 0 0) (bits .xor .i64 (-1) Dl) c q pos ln Dm).bind fun y2=>
     (DT n (c.cells.getD 1 0) (bits .xor .i64 (-1) FP) c q pos ln y2).bind fun y3=>
      some (true,y3)
 else none
def ZR (n:Nat) (c:AB) (q:AA) (pos:List Int) (ln:Nat) (lost:List Int):Option (Bool×(List Int)):=iZ n c q pos ln lost
theorem uI {n:Nat} {c:AB} {q:AA} {pos:List Int} {ln:Nat} {lost:List Int} {r:Bool×(List Int)} (h:ZR n c q pos ln lost=some r):EQ 165 [.ref 1 0,.fn 166 1 (L1 [.ref 0 0])] [some (.cells [.ref 1 0]),some (.cells (AJ c++AC q++[.ints pos,.msl 2 1 0 ln])),some (.ints lost)] (.bool r.1) [some (.cells [.ref 1 0]),some (.cells (AJ c++AC q++[.ints pos,.msl 2 1 0 ln])),some (.ints r.2)] false:=by
 refine ot Tryz.func165 fun B N=>?_
 revert r;apply gO
 exact jg qp (gc (gi (gc (gi (jg qn (gc (gi (gc (gi (jt (gn fun g4=>jc (Ju g4 (zP c q pos ln lost)) (cn fun y1 A5=>fun p r h=>by
  refine gs LH [0,1,2,3,4,5,6,7] p (Fe (AY Tryz.f165) 42 []) (AG 69 [(0,.ref 1 0),(3,.ref 3 0),(5,.i (c.cells.getD 0 0)),(6,.i (c.cells.getD 1 0)),(8,.ref 4 0),(9,.ref 5 0),(10,.ref 6 0),(42,.it 7)]) (zO c q pos ln lost) ?_;refine r0 7 42 #[43] BQ 8 A5 (uJ n c q pos ln) ?_;cases y1 with
  | s0 Dm Dl FP=>
   dsimp only at h
   revert r;apply gO;exact ce Fp [1,2] (zN c q pos ln Dm Dl FP) fun y2=>ce Fp [1,2] (zM c q pos ln y2 Dl FP) fun _=>lE LH [4] [0,1,2]))))))))))))
theorem ql:Ar (Ag Tryz.f165 1) [] (List.range 16) []:=by unfold Ar;kernel_rfl
theorem qj:Ar (Ag Tryz.f165 2) [([0,1,2,3,4,5,6,7,8,9,10,11,12,13],14)] [15] [16]:=by unfold Ar;kernel_rfl
theorem qi:Ar (Ag Tryz.f165 9) [] [0,1,2,3] [4]:=by unfold Ar;kernel_rfl
theorem qk:Ar (Ag Tryz.f165 10) [] [0,1,2,3] [4]:=by unfold Ar;kernel_rfl
def LG:Bi:=fun i=>match i with
 | 1=>.ord [] (List.range 16) []
 | 2=>.ord [([0,1,2,3,4,5,6,7,8,9,10,11,12,13],14)] [15] [16]
 | 9=>.ord [] [0,1,2,3] [4]
 | 10=>.ord [] [0,1,2,3] [4]
 | _=>.no
def zK (c:AB) (q:AA) (pos:List Int) (ln:Nat) (lost:List Int):DH:=[some (.cells [.ref 1 0]),some (.cells (AJ c++AC q++[.ints pos,.msl 2 1 0 ln])),some (.ints lost),some (.cells [.fn 167 1 (L1 [.ref 0 0])]),some (.cells [.i (pos.getD ((c.cells.getD 1 0).toNat) 0)]),some (.cells [.i 0]),some (.cells [.i 0])]
def zJ (c:AB) (q:AA) (pos:List Int) (ln:Nat) (lost:List Int):DH:=[some (.cells [.ref 1 0]),some (.cells (AJ c++AC q++[.ints pos,.msl 2 1 0 ln])),some (.ints lost),some (.cells [.fn 167 1 (L1 [.ref 0 0])]),some (.cells [.i (pos.getD ((c.cells.getD 1 0).toNat) 0)]),some (.cells [.i 0]),some (.cells [.i 0]),some (.iter ((B8 (pos.getD ((c.cells.getD 0 0).toNat) 0)).map BQ))]
def zI (c:AB) (q:AA) (pos:List Int) (ln:Nat) (Dm:List Int) (Dl FP:Int):DH:=[some (.cells [.ref 1 0]),some (.cells (AJ c++AC q++[.ints pos,.msl 2 1 0 ln])),some (.ints Dm),some (.cells [.fn 167 1 (L1 [.ref 0 0])]),some (.cells [.i (pos.getD ((c.cells.getD 1 0).toNat) 0)]),some (.cells [.i Dl]),some (.cells [.i FP]),none]
def zH (c:AB) (q:AA) (pos:List Int) (ln:Nat) (y2:(List Int)) (Dl FP:Int):DH:=[some (.cells [.ref 1 0]),some (.cells (AJ c++AC q++[.ints pos,.msl 2 1 0 ln])),some (.ints y2),some (.cells [.fn 167 1 (L1 [.ref 0 0])]),some (.cells [.i (pos.getD ((c.cells.getD 1 0).toNat) 0)]),some (.cells [.i Dl]),some (.cells [.i FP]),none]
def kR (c:AB) (q:AA) (pos:List Int) (ln:Nat) (Co:List Int) (Cn Cm BA:Int):DH:=[some (.cells [.ref 1 0]),some (.cells (AJ c++AC q++[.ints pos,.msl 2 1 0 ln])),some (.ints Co),some (.cells [.fn 167 1 (L1 [.ref 0 0])]),some (.cells [.i (pos.getD ((c.cells.getD 1 0).toNat) 0)]),some (.cells [.i Cn]),some (.cells [.i Cm]),none,some (.cells [.i BA])]
def zG (c:AB) (q:AA) (pos:List Int) (ln:Nat) (Co:List Int) (Cn Cm BA:Int):DH:=[some (.cells [.ref 1 0]),some (.cells (AJ c++AC q++[.ints pos,.msl 2 1 0 ln])),some (.ints Co),some (.cells [.fn 167 1 (L1 [.ref 0 0])]),some (.cells [.i (pos.getD ((c.cells.getD 1 0).toNat) 0)]),some (.cells [.i Cn]),some (.cells [.i Cm]),none,some (.cells [.i BA]),some (.iter ((B8 (pos.getD ((c.cells.getD 1 0).toNat) 0)).map BQ))]
def kQ (c:AB) (q:AA) (pos:List Int) (ln:Nat) (De:List Int) (DJ DI BA:Int):DH:=[some (.cells [.ref 1 0]),some (.cells (AJ c++AC q++[.ints pos,.msl 2 1 0 ln])),some (.ints De),some (.cells [.fn 167 1 (L1 [.ref 0 0])]),some (.cells [.i (pos.getD ((c.cells.getD 1 0).toNat) 0)]),some (.cells [.i DJ]),some (.cells [.i DI]),none,some (.cells [.i BA]),none]
inductive J8 where
 | s0 (De:List Int) (DJ DI:Int)
def iX (c:AB) (q:AA) (pos:List Int) (ln:Nat) (BA:Int):J8 -> DH
 | .s0 De DJ DI=>[some (.cells [.ref 1 0]),some (.cells (AJ c++AC q++[.ints pos,.msl 2 1 0 ln])),some (.ints De),some (.cells [.fn 167 1 (L1 [.ref 0 0])]),some (.cells [.i (pos.getD ((c.cells.getD 1 0).toNat) 0)]),some (.cells [.i DJ]),some (.cells [.i DI]),none,some (.cells [.i BA]),none]
def VU (n:Nat) (c:AB) (q:AA) (pos:List Int) (ln:Nat) (BA DM:Int) (De:List Int) (DJ DI:Int):Option J8:=
 (Vm n BA DM c q pos ln De).bind fun OT=>
  bif OT.1 then
   if (0<=BA/\ BA<=(IntKind.i64.bits:Int))/\ (0<=DM/\ DM<=(IntKind.i64.bits:Int)) then
    some (.s0 OT.2 (bits .or .i64 DJ (IntKind.i64.wrap (1*2 ^ (BA).toNat))) (bits .or .i64 DI (IntKind.i64.wrap (1*2 ^ (DM).toNat))))
   else none
  else
   some (.s0 OT.2 DJ DI)
def iW (n:Nat) (c:AB) (q:AA) (pos:List Int) (ln:Nat) (BA DM:Int):J8 -> Option J8
 | .s0 De DJ DI=>VU n c q pos ln BA DM De DJ DI
def VV (n:Nat) (c:AB) (q:AA) (pos:List Int) (ln:Nat) (BA DM:Int) (s:J8):Option J8:=iW n c q pos ln BA DM s
theorem uH (n:Nat) (c:AB) (q:AA) (pos:List Int) (ln:Nat) (BA:Int) (l B:Nat) (N:Yd 10) (DM:Int) (s:J8) (r:J8) (h:VV n c q pos ln BA DM s=some r):TA l B N (Cb 10 [] 0 (iX c q pos ln BA r)) Tryz.f165 45 ⟨AG 69 [(3,.ref 3 0),(9,.ref 5 0),(10,.ref 6 0),(11,.ref 8 0),(45,.it 9),(46,.i DM)],iX c q pos ln BA s⟩:=by
 cases s with
 | s0 De DJ DI=>
  replace h:VU n c q pos ln BA DM De DJ DI=some r:=h;unfold VU at h;refine ag LG [0,1,2,3,4,5,6,7,8,9] H0 (AG 69 [(3,.ref 3 0),(9,.ref 5 0),(10,.ref 6 0),(11,.ref 8 0),(12,.i DM)]) (kQ c q pos ln De DJ DI BA) fun N=>?_
  revert r;apply gO;exact ce uf [0,1,2] (kQ c q pos ln De DJ DI BA) fun _=>bi 50 (jg qi (gc (gi (jt (jg qk (gi (jt (lF fun p=>rr LG [0,1,2,3,4,5,6,7,8,9] rfl p)))))))) (lF fun p=>rr LG [0,1,2,3,4,5,6,7,8,9] rfl p)
inductive J9 where
 | s0 (Co:List Int) (Cn Cm:Int)
def iY (c:AB) (q:AA) (pos:List Int) (ln:Nat):J9 -> DH
 | .s0 Co Cn Cm=>[some (.cells [.ref 1 0]),some (.cells (AJ c++AC q++[.ints pos,.msl 2 1 0 ln])),some (.ints Co),some (.cells [.fn 167 1 (L1 [.ref 0 0])]),some (.cells [.i (pos.getD ((c.cells.getD 1 0).toNat) 0)]),some (.cells [.i Cn]),some (.cells [.i Cm]),none]
def VT (n:Nat) (c:AB) (q:AA) (pos:List Int) (ln:Nat) (BA:Int) (Co:List Int) (Cn Cm:Int):Option J9:=
 if 0<=(pos.getD ((c.cells.getD 1 0).toNat) 0)/\ (pos.getD ((c.cells.getD 1 0).toNat) 0)<9223372036854775808 then
  (Bn (VV n c q pos ln BA) (B8 (pos.getD ((c.cells.getD 1 0).toNat) 0)) (.s0 Co Cn Cm)).bind fun OU=>
   match OU with
   | .s0 T0 Tz Ty=>
    some (.s0 T0 Tz Ty)
 else none
def iV (n:Nat) (c:AB) (q:AA) (pos:List Int) (ln:Nat) (BA:Int):J9 -> Option J9
 | .s0 Co Cn Cm=>VT n c q pos ln BA Co Cn Cm
def VW (n:Nat) (c:AB) (q:AA) (pos:List Int) (ln:Nat) (BA:Int) (s:J9):Option J9:=iV n c q pos ln BA s
theorem uG (n:Nat) (c:AB) (q:AA) (pos:List Int) (ln:Nat) (l B:Nat) (N:Yd 8) (BA:Int) (s:J9) (r:J9) (h:VW n c q pos ln BA s=some r):TA l B N (Cb 8 [] 0 (iY c q pos ln r)) Tryz.f165 42 ⟨AG 69 [(0,.ref 1 0),(3,.ref 3 0),(5,.i (c.cells.getD 0 0)),(6,.i (c.cells.getD 1 0)),(8,.ref 4 0),(9,.ref 5 0),(10,.ref 6 0),(42,.it 7),(43,.i BA)],iY c q pos ln s⟩:=by
 cases s with
 | s0 Co Cn Cm=>
  replace h:VT n c q pos ln BA Co Cn Cm=some r:=h;unfold VT at h;refine ag LG [0,1,2,3,4,5,6,7,8] (H0.t) (AG 69 [(3,.ref 3 0),(8,.ref 4 0),(9,.ref 5 0),(10,.ref 6 0),(11,.ref 8 0)]) (kR c q pos ln Co Cn Cm BA) fun N=>?_
  revert r;apply gO
  exact gn fun cg=>jc (Ju cg (kR c q pos ln Co Cn Cm BA)) (cn fun OU bM=>fun p r h=>by
   refine gs LG [0,1,2,3,4,5,6,7,8,9] p (Fe (VB Tryz.f165 42) 45 []) (AG 69 [(3,.ref 3 0),(9,.ref 5 0),(10,.ref 6 0),(11,.ref 8 0),(45,.it 9)]) (zG c q pos ln Co Cn Cm BA) ?_;refine r0 9 45 #[46] BQ 10 bM (uH n c q pos ln BA) ?_;cases OU with
   | s0 T0 Tz Ty=>
    dsimp only at h
    revert r;apply gO;exact lF fun p=>rr LG [0,1,2,3,4,5,6,7] rfl p)
def iU (n:Nat) (c:AB) (q:AA) (pos:List Int) (ln:Nat) (lost:List Int):Option (Bool×(List Int)):=
 if ((0:Int)<=0/\ 0<(c.cells.length:Int))/\ ((0:Int)<=1/\ 1<(c.cells.length:Int))/\ (0<=(c.cells.getD 0 0)/\ (c.cells.getD 0 0)<(pos.length:Int))/\ (0<=(c.cells.getD 1 0)/\ (c.cells.getD 1 0)<(pos.length:Int))/\ (0<=(pos.getD ((c.cells.getD 0 0).toNat) 0)/\ (pos.getD ((c.cells.getD 0 0).toNat) 0)<9223372036854775808) then
  (Bn (VW n c q pos ln) (B8 (pos.getD ((c.cells.getD 0 0).toNat) 0)) (.s0 lost 0 0)).bind fun y1=>
   match y1 with
   | .s0 Dm Dl FP=>
    (DT n (c.cells.getD 0 0) (bits .xor .i64 (-1) Dl) c q pos ln Dm).bind fun y2=>
     (DT n (c.cells.getD 1 0) (bits .xor .i64 (-1) FP) c q pos ln y2).bind fun y3=>
      some (true,y3)
 else none
def ZQ (n:Nat) (c:AB) (q:AA) (pos:List Int) (ln:Nat) (lost:List Int):Option (Bool×(List Int)):=iU n c q pos ln lost
theorem uF {n:Nat} {c:AB} {q:AA} {pos:List Int} {ln:Nat} {lost:List Int} {r:Bool×(List Int)} (h:ZQ n c q pos ln lost=some r):EQ 165 [.ref 1 0,.fn 167 1 (L1 [.ref 0 0])] [some (.cells [.ref 1 0]),some (.cells (AJ c++AC q++[.ints pos,.msl 2 1 0 ln])),some (.ints lost)] (.bool r.1) [some (.cells [.ref 1 0]),some (.cells (AJ c++AC q++[.ints pos,.msl 2 1 0 ln])),some (.ints r.2)] false:=by
 refine ot Tryz.func165 fun B N=>?_
 revert r;apply gO
 exact jg ql (gc (gi (gc (gi (jg qj (gc (gi (gc (gi (jt (gn fun g4=>jc (Ju g4 (zK c q pos ln lost)) (cn fun y1 A5=>fun p r h=>by
  refine gs LG [0,1,2,3,4,5,6,7] p (Fe (AY Tryz.f165) 42 []) (AG 69 [(0,.ref 1 0),(3,.ref 3 0),(5,.i (c.cells.getD 0 0)),(6,.i (c.cells.getD 1 0)),(8,.ref 4 0),(9,.ref 5 0),(10,.ref 6 0),(42,.it 7)]) (zJ c q pos ln lost) ?_;refine r0 7 42 #[43] BQ 8 A5 (uG n c q pos ln) ?_;cases y1 with
  | s0 Dm Dl FP=>
   dsimp only at h
   revert r;apply gO;exact ce Fp [1,2] (zI c q pos ln Dm Dl FP) fun y2=>ce Fp [1,2] (zH c q pos ln y2 Dl FP) fun _=>lE LG [4] [0,1,2]))))))))))))
def cx (n:Nat) (c:AB) (q:AA) (pos:List Int) (ln:Nat) (lost:List Int):Option (Bool×(List Int)):=
 (ZR n c q pos ln lost).bind fun y1=>
  some (y1.1,y1.2)
def OW (n:Nat) (c:AB) (q:AA) (pos:List Int) (ln:Nat) (lost:List Int):Option (Bool×(List Int)):=cx n c q pos ln lost
theorem zDR {n:Nat} {c:AB} {q:AA} {pos:List Int} {ln:Nat} {lost:List Int} {r:Bool×(List Int)} (h:OW n c q pos ln lost=some r):EQ 137 [.ref 0 0] [some (.cells (AJ c++AC q++[.ints pos,.msl 1 1 0 ln])),some (.ints lost)] (.bool r.1) [some (.cells (AJ c++AC q++[.ints pos,.msl 1 1 0 ln])),some (.ints r.2)] false:=by
 unfold OW cx at h;refine ot Tryz.func137 fun B N=>?_
 revert r;apply gO;exact ce uI [2,0,1] [some (.cells (AJ c++AC q++[.ints pos,.msl 1 1 0 ln])),some (.ints lost),some (.cells [.ref 0 0])] fun _=>lE AE [2] [0,1]
def Ze (n:Nat) (c:AB) (q:AA) (pos:List Int) (ln:Nat) (lost:List Int):Option (Bool×(List Int)):=
 (ZQ n c q pos ln lost).bind fun y1=>
  some (y1.1,y1.2)
def NO (n:Nat) (c:AB) (q:AA) (pos:List Int) (ln:Nat) (lost:List Int):Option (Bool×(List Int)):=Ze n c q pos ln lost
theorem ue {n:Nat} {c:AB} {q:AA} {pos:List Int} {ln:Nat} {lost:List Int} {r:Bool×(List Int)} (h:NO n c q pos ln lost=some r):EQ 138 [.ref 0 0] [some (.cells (AJ c++AC q++[.ints pos,.msl 1 1 0 ln])),some (.ints lost)] (.bool r.1) [some (.cells (AJ c++AC q++[.ints pos,.msl 1 1 0 ln])),some (.ints r.2)] false:=by
 unfold NO Ze at h;refine ot Tryz.func138 fun B N=>?_
 revert r;apply gO;exact ce uF [2,0,1] [some (.cells (AJ c++AC q++[.ints pos,.msl 1 1 0 ln])),some (.ints lost),some (.cells [.ref 0 0])] fun _=>lE AE [2] [0,1]
end Go.Proofs.YtkjbblkieglmlaaGreatDoor
