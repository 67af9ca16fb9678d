/- Part 3 of 7 of what the proofs of these laws stand on. -/
import Derived.Test.YtkjbblkieglmlaaGreatDoorPtB
import Derived.LoopIn
set_option linter.all false
namespace Go.Proofs.YtkjbblkieglmlaaGreatDoor
abbrev zBx:=@List.drop_eq_getElem_cons
abbrev zEZ:=@of_decide_eq_true
abbrev zF1:=@List.drop_length
end Go.Proofs.YtkjbblkieglmlaaGreatDoor
namespace Go.Proofs.YtkjbblkieglmlaaGreatDoor
open Go.RowKit
section
variable {P:Program} {Γ:Ar}
theorem A0.foreign {N1 N2 G:Nat -> Prop} {h:DH} {ρ:List AI} {A B:World} (H:A0 P Γ N1 h ρ A) (hu:AP G A B) (hG: ∀ b,G b -> N1 b/\ Γ.ng<=b) (hN: ∀ b,N2 b -> N1 b∨A.heap.size<=b) (hb: ∀ b,N2 b -> b<B.heap.size/\ Γ.ng<=b):A0 P Γ N2 h ρ B:=by
 have O:BU (MS N1 h ρ) A ρ (MS N2 h ρ) B ρ:=⟨fun b AO hm _=>hu.block b AO fun hx=>hm (.inl (hG b hx).1),fun b hb=>hb.elim (fun h=>(hN b h).imp .inl id) (fun h=>.inl (.inr h)),fun _ _ h=>h⟩;refine ⟨H.len,fun k o hk=>?_,fun k o p b h1 h2 h3=>?_,H.dis,hb,Γ.st _ _ H.gi (hu.mono fun i _ hx=>(hG i hx).2)⟩
 ·obtain ⟨p,hp,hr⟩:=H.obj k o hk;exact ⟨p,hp,hr.out O hu (fun b hb=>.inl (hG b hb).1) fun b _ hf hs=>(H.cel k o p b hk hp hf).2.1 (hG b hs).1⟩
 ·obtain ⟨c1,c2,c,t,z,c3⟩:=H.cel k o p b h1 h2 h3;have AO:=(zAK.1 c3).1;exact ⟨c1,fun hn=>(hN b hn).elim c2 (by omega),c,t,z,(hu.block b AO fun hx=>c2 (hG b hx).1).trans c3⟩
theorem BU.foreign {N1 N2 G:Nat -> Prop} {h:DH} {ρ:List AI} {A B:World} (hu:AP G A B) (hG: ∀ b,G b -> N1 b/\ Γ.ng<=b) (hN: ∀ b,N2 b -> N1 b∨A.heap.size<=b):BU (MS N1 h ρ) A ρ (MS N2 h ρ) B ρ:=
 ⟨fun b AO hm _=>hu.block b AO fun hx=>hm (.inl (hG b hx).1),fun b hb=>hb.elim (fun h=>(hN b h).imp .inl id) (fun h=>.inl (.inr h)),fun _ _ h=>h⟩
def IE (fr:List DV) (ps:List Tmp) (x:List DV):List DV:=(ps.zip x).foldl (fun t q=>t.set q.1 q.2) fr
theorem gF {M:Nat -> Prop} {w:World} {ρ:List AI}: ∀ (ps:List Tmp) (x:List DV) (v:List Value) {fr:List DV} {t:Array Value},x.length=v.length -> (∀ j,j<x.length -> AM M w (x.getD j .any) ρ (v.getD j undef)) -> BC M w ρ fr t ->
 BC M w ρ (IE fr ps x) ((ps.zip v).foldl (fun t (q:Tmp×Value)=>t.setIfInBounds q.1 q.2) t)
 | [],_,_,_,_,_,_,h=>h
 | _::_,[],[],_,_,_,_,h=>h
 | p::ps,d::x,u::v,_,_,hl,hx,h=>gF ps x v (Nat.succ.inj hl) (fun j hj=>hx (j+1) (Nat.succ_lt_succ hj)) (h.set p (hx 0 (Nat.succ_pos _)))
theorem YV.rep {ds:List DV} {R:Nat -> Prop} {W:World} {args:Array Value} (h:YV ds R W args) {M:Nat -> Prop} (hM: ∀ b,M b -> b<W.heap.size/\ ¬ R b) (ρ:List AI): ∀ j,j<ds.length -> AM M W (ds.getD j .any) ρ (args.toList.getD j undef):=fun j hj=>by
 have e:args.toList.getD j undef=args.getD j undef:=by simp [zAg,u8]
 rw [e];exact (h.2 j hj).out _ ⟨fun _ _ _ _=>rfl,fun b hb=>.inl (hM b hb),fun k p hk=>by simp at hk⟩
def C5 (K:Nat):DV -> Bool
 | .ref k _=>decide (k<K)
 | .msl k _ _ _=>decide (k<K)
 | .mse k _ _ _=>decide (k<K)
 | .mri k _=>decide (k<K)
 | .mp k _ _ _=>decide (k<K)
 | .it k=>decide (k<K)
 | .agg m f=>(List.range m).all fun j=>C5 K (f j)
 | .tup m f=>(List.range m).all fun j=>C5 K (f j)
 | .fn _ m f=>(List.range m).all fun j=>C5 K (f j)
 | _=>true
theorem Pr {α:Type} {l:List α} {K k:Nat} {x:α} (hk:k<K) (h:l[k]? =some x):(l.take K)[k]? =some x:=by rw [zEC,zAE hk];exact h
theorem AM.take {M:Nat -> Prop} {w:World} {K:Nat}: ∀ (d:DV) {ρ:List AI} {v:Value},C5 K d=true -> AM M w d ρ v -> AM M w d (ρ.take K) v:=by
 intro d
 induction d with
 | ref k j=>rintro ρ v hb ⟨p,h,e⟩;exact ⟨p,Pr (zEZ hb) h,e⟩
 | msl k m off n=>rintro ρ v hb ⟨p,cap,h,e⟩;exact ⟨p,cap,Pr (zEZ hb) h,e⟩
 | mp k m i j=>rintro ρ v hb ⟨p,h,e⟩;exact ⟨p,Pr (zEZ hb) h,e⟩
 | it k=>rintro ρ v hb ⟨p,h,e⟩;exact ⟨p,Pr (zEZ hb) h,e⟩
 | agg m f ih=>
  rintro ρ v hb ⟨cs,e,hs,h⟩;exact ⟨cs,e,hs,fun j hj=>let ⟨u,h1,h2⟩:=h j hj;⟨u,h1,ih j (zAT.1 hb j (zAi.2 hj)) h2⟩⟩
 | tup m f ih=>
  rintro ρ v hb ⟨cs,e,hs,h⟩;exact ⟨cs,e,hs,fun j hj=>let ⟨u,h1,h2⟩:=h j hj;⟨u,h1,ih j (zAT.1 hb j (zAi.2 hj)) h2⟩⟩
 | fn g m f ih=>
  rintro ρ v hb ⟨cs,e,hs,h⟩;exact ⟨cs,e,hs,fun j hj=>let ⟨u,h1,h2⟩:=h j hj;⟨u,h1,ih j (zAT.1 hb j (zAi.2 hj)) h2⟩⟩
 | yl l=>rintro ρ v _ h;exact h
 | cst u=>rintro ρ v _ h;exact h
 | mse k m off n=>rintro ρ v hb ⟨p,a,cap,h,e⟩;exact ⟨p,a,cap,Pr (zEZ hb) h,e⟩
 | mri k i=>rintro ρ v hb ⟨p,vs,h,e⟩;exact ⟨p,vs,Pr (zEZ hb) h,e⟩
 | any=>rintro ρ v _ h;trivial
 | nils=>rintro ρ v _ h;exact h
 | int k n=>rintro ρ v _ h;exact h
 | bool b=>rintro ρ v _ h;exact h
 | str s=>rintro ρ v _ h;exact h
 | ints l=>rintro ρ v _ h;exact h
 | bools l=>rintro ρ v _ h;exact h
 | sl m n f=>rintro ρ v _ h;exact h
 | fp m f=>rintro ρ v _ h;exact h
theorem BC.take {M:Nat -> Prop} {w:World} {K:Nat} {ρ:List AI} {fr:List DV} {t:Array Value} (h:BC M w ρ fr t) (hb:fr.all (C5 K)=true):BC M w (ρ.take K) fr t:=by
 refine ⟨h.1,fun i hi=>AM.take _ ?_ (h.2 i hi)⟩;have:fr.getD i .any∈fr:=by simp [u8,hi]
 exact zAT.1 hb _ this
theorem BU.weak {M M0:Nat -> Prop} {w:World} {ρ:List AI} {M':Nat -> Prop} {w':World} {ρ':List AI} (h:BU M0 w ρ M' w' ρ') (hM: ∀ b,M0 b -> M b):BU M w ρ M' w' ρ':=
 ⟨fun b hl hn=>h.blk b hl fun hx=>hn (hM b hx),fun b hb=>(h.m b hb).imp (hM b) id,h.pl⟩
structure RI (K:Nat) (P:Program) (Γ:Ar) (N:Nat -> Prop) (h0:DH) (ρ0:List AI) (w0:World) (G R:Nat -> Prop) (W:World) (h:DH) (ρ:List AI):Prop where
 hr:A0 P Γ (fun b=>N b∨G b) h ρ W
 upd:AP (MO h0 ρ0) w0 W
 grow: ∀ b,MO h ρ b -> MO h0 ρ0 b∨w0.heap.size<=b
 g: ∀ b,G b -> Γ.ng<=b/\ (MO h0 ρ0 b∨w0.heap.size<=b)
 r: ∀ b,R b -> ¬ N b/\ ¬ MO h ρ b
 kept:B8 K ρ0 ρ
theorem RI.off {K:Nat} {N:Nat -> Prop} {h0:DH} {ρ0:List AI} {w0:World} {G R:Nat -> Prop} {W:World} {h:DH} {ρ:List AI} (hR:RI K P Γ N h0 ρ0 w0 G R W h ρ): ∀ b,MO h ρ b -> b<W.heap.size/\ ¬ N b/\ ¬ (G b∨R b):=fun b hm=>by
 obtain ⟨k,o,p,q1,q2,q3⟩:=id hm;obtain ⟨_,c2,c,_,_,c3⟩:=hR.hr.cel k o p b q1 q2 q3;exact ⟨(zAK.1 c3).1,fun h=>c2 (.inl h),fun h=>h.elim (fun h=>c2 (.inr h)) fun h=>(hR.r b h).2 hm⟩
theorem RI.stable {K:Nat} {N:Nat -> Prop} {h0:DH} {ρ0:List AI} {w0:World} (Ct:Γ.ng<=w0.heap.size) (hN: ∀ b,N b -> b<w0.heap.size/\ ¬ MO h0 ρ0 b) {h:DH} {ρ:List AI}:EL fun G R W=>RI K P Γ N h0 ρ0 w0 G R W h ρ:=fun G R G' R' A B hR hu hg hr _ _ hb=>by
 have hs:w0.heap.size<=A.heap.size:=hR.upd.size;refine ⟨hR.hr.foreign hu (fun b hx=>⟨.inr hx,(hR.g b hx).1⟩) (fun b hx=>?_) (fun b hx=>?_),hR.upd.comp hu fun i hi hx=>(hR.g i hx).2.resolve_right (by omega),hR.grow,fun b hx=>?_,fun b hx=>?_,hR.kept⟩
 ·rcases hx with hx | hx
  ·exact .inl (.inl hx)
  ·exact (hg b hx).imp .inr id
 ·rcases hx with hx | hx
  ·exact ⟨zAW (hR.hr.nlt b (.inl hx)).1 hu.size,(hR.hr.nlt b (.inl hx)).2⟩
  ·exact ⟨hb b (.inl hx),(hg b hx).elim (fun h=>(hR.g b h).1) (fun h=>by omega)⟩
 ·rcases hg b hx with hx | hx
  ·exact hR.g b hx
  ·exact ⟨by omega,.inr (by omega)⟩
 ·rcases hr b hx with hx | hx | hx
  ·exact hR.r b hx
  ·exact ⟨fun hn=>(hR.g b hx).2.elim (hN b hn).2 (by have:=(hN b hn).1;omega),fun hm=>(hR.off b hm).2.2 (.inl hx)⟩
  ·exact ⟨fun hn=>by have:=(hN b hn).1;omega,fun hm=>by have:=(hR.off b hm).1;omega⟩
theorem RI.outl {K:Nat} {N:Nat -> Prop} {h0:DH} {ρ0:List AI} {w0:World} {G R0:Nat -> Prop} {W:World} {h:DH} {ρ:List AI} (R:RI K P Γ N h0 ρ0 w0 G R0 W h ρ):BU (MS N h0 ρ0) w0 (ρ0.take K) (MS (fun b=>N b∨G b) h ρ) W ρ:=
 ⟨fun b AO hm _=>R.upd.block b AO fun hx=>hm (.inr hx),fun b hb=>by
  rcases hb with (hb | hb) | hb
  ·exact .inl (.inl hb)
  ·exact (R.g b hb).2.imp .inr id
  ·exact (R.grow b hb).imp .inr id,fun k p hk=>by
  rw [zEC] at hk
  by_cases e:k<K
  ·rw [zAE e] at hk;exact R.kept k p e hk
  ·rw [zAU e] at hk;cases hk⟩
def Ko:Exit -> Option Code
 | .ret=>some .ret
 | .exit id=>some (.exit id)
 | _=>none
def UI (L:Nat) (J:DH -> Prop) (Jx:Exit -> DH -> Prop) (e:Exit) (S:St):Prop:=∃ S3,Az L S S3/\ ((e= .normal/\ J S3.h)∨((Ko e).isSome=true/\ Jx e S3.h))
def Xv (P:Program) (Γ:Ar) (fr:List DV) (ps:List Tmp) (assign body:Code) (L:Nat) (J:Nat -> DH -> Prop) (Jx:Exit -> DH -> Prop) (encs:List (List DV)):Prop:=
 ∀ (l B:Nat) (Y:BQ P Γ L) (i:Nat) (x:List DV) (h:DH),encs[i]? =some x -> J i h ->
  Tr P Γ (Fence.wide.inRound l) (some B) L Y assign ⟨IE fr ps x,h⟩ (Qh (fun S' Y'=>Y'=Y/\ ∀ Y2:BQ P Γ L,Tr P Γ (Fence.wide.inRound l) (some B) L Y2 body S' (stay Y2 (UI L (J (i+1)) Jx))) (fun _ _ _=>False))
abbrev RJ (P:Program) (Γ:Ar) (N:Nat -> Prop) (h0:DH) (ρ:List AI) (w:World) (KK:Nat) (J:Nat -> DH -> Prop) (i:Nat) (G R:Nat -> Prop) (W:World):Prop:=∃ h ρ',J i h/\ RI KK P Γ N h0 ρ w G R W h ρ'
abbrev RX (P:Program) (Γ:Ar) (N:Nat -> Prop) (h0:DH) (ρ:List AI) (w:World) (KK:Nat) (Jx:Exit -> DH -> Prop) (c:Code) (G R:Nat -> Prop) (W:World):Prop:=∃ e,Ko e=some c/\ ∃ h ρ',Jx e h/\ RI KK P Γ N h0 ρ w G R W h ρ'
theorem ZG {N:Nat -> Prop} {S:St} {ρ:List AI} {a:Act} {w:World} (Q:AS P Γ N S ρ a w) {h0:DH} (hN: ∀ b,N b -> b<w.heap.size/\ ¬ MO h0 ρ b) (hh: ∀ b,MO h0 ρ b -> MO S.h ρ b) {ps:Array Tmp} {assign body:Code} {encs:List (List DV)} {J:Nat -> DH -> Prop} {Jx:Exit -> DH -> Prop} {KK:Nat} (Ch:S.fr.all (C5 KK)=true)
 (C7:Xv P Γ S.fr ps.toList assign body KK J Jx encs) (l:Nat):Xu P YV encs ps assign body a l (RJ P Γ N h0 ρ w KK J) (RX P Γ N h0 ρ w KK Jx):=by
 rintro G R i x args W hx hE ⟨h,ρ1,hJ,hR⟩ hS hl Gn;have Ct:Γ.ng<=w.heap.size:=Γ.lo _ Q.hr.gi
 have hM: ∀ {h:DH} {ρ1:List AI} {W:World},RI KK P Γ N h0 ρ w G R W h ρ1 -> ∀ b,MS (fun b=>N b∨G b) h ρ1 b -> b<W.heap.size/\ ¬ R b:=fun hR b hb=>by
  rcases hb with (hb | hb) | hb
  ·exact ⟨(hR.hr.nlt b (.inl hb)).1,fun h=>(hR.r b h).1 hb⟩
  ·exact ⟨(hR.hr.nlt b (.inr hb)).1,hS.dis b hb⟩
  ·exact ⟨(hR.off b hb).1,fun h=>(hR.off b hb).2.2 (.inr h)⟩
 have Nq:BU (MS N S.h ρ) w (ρ.take KK) (MS (fun b=>N b∨G b) h ρ1) W ρ1:=hR.outl.weak (fun b hb=>hb.imp id (hh b))
 have W0:BC (MS (fun b=>N b∨G b) h ρ1) W ρ1 (IE S.fr ps.toList x) ((ps.zip args).foldl (fun t (p,v)=>t.setIfInBounds p v) a.tmps):=by
  have:=gF ps.toList x args.toList (by simpa using hE.1) (hE.rep (hM hR) ρ1) ((Q.fr.take Ch).out Nq);rw [←Array.foldl_toList,Array.toList_zip];exact this
 have step: ∀ {G R:Nat -> Prop} {W W':World} {h h':DH} {ρ1 ρ2:List AI},RI KK P Γ N h0 ρ w G R W h ρ1 -> (∀ b,R b -> b<W.heap.size) -> A0 P Γ (fun b=>N b∨G b) h' ρ2 W' -> A6 h ρ1 W h' ρ2 W' -> B8 KK ρ1 ρ2 -> RI KK P Γ N h0 ρ w G R W' h' ρ2:=by
  intro G R W W' h h' ρ1 ρ2 hR AO Cs st hk;have hs:=hR.upd.size;exact ⟨Cs,hR.upd.comp st.upd fun b hb hm=>(hR.grow b hm).resolve_right (by omega),fun b hb=>(st.grow b hb).elim (hR.grow b) fun h=>.inr (by omega),hR.g,fun b hb=>⟨(hR.r b hb).1,fun hm=>(st.grow b hm).elim (hR.r b hb).2 (by have:=AO b hb;omega)⟩,hR.kept.trans hk⟩
 have lu: ∀ b,R b -> b<W.heap.size:=fun b h=>hS.lt b (.inr h)
 have bd:Bd (Fence.wide.inRound l) (some W.heap.size) W:=⟨fun b e=>by cases e;exact zAp _,fun l' e=>by cases e;exact hl⟩;refine zEm (C7 l W.heap.size (Ot P Γ KK (fun b=>N b∨G b) h ρ1 W) i x h hx hJ _ ρ1 _ W ⟨hR.hr,W0⟩ ⟨rfl,A6.refl _ _ _,B8.refl _ _⟩ trivial bd) ?_;rintro e a1 W1 ⟨S',ρ2,N2,Y2,h1,h2,h3,h4,_⟩;cases e with
 | normal=>
  obtain ⟨rfl,h1⟩:=h1;obtain ⟨rfl,h3,h5⟩:=h3;refine ⟨fun G' R' W'=>RI KK P Γ N h0 ρ w G' R' W' S'.h ρ2/\ BC (MS (fun b=>N b∨G' b) S'.h ρ2) W' ρ2 S'.fr a1.tmps/\ EZ W.heap.size a1.defers W'/\ W1.heap.size<=W'.heap.size/\ (∀ b,G' b -> b<W.heap.size∨W1.heap.size<=b)/\ (∀ d∈a1.defers,∀ D,d.target= .collected D -> D<W1.heap.size)/\ (∀ b,R' b -> b<W'.heap.size),?_,h3.upd.mono fun b _ hm=>(hR.off b hm).2.2,⟨step hR lu h2.hr h3 h5,h2.fr,h4,zAp _,fun b hg=>.inl (hR.hr.nlt b (.inr hg)).1,fun d hd D ht=>EZ.lt h4 hd ht,fun b hb=>zAW (lu b hb) h3.upd.size⟩,?_⟩
  ·rintro G1 R1 G2 R2 A C ⟨q1,q2,q3,q4,q5,q6,q7⟩ hu hg hr EG hd hb;have hR2:=RI.stable Ct hN _ _ _ _ _ _ q1 hu hg hr EG hd hb;refine ⟨hR2,q2.out (BU.foreign (Γ:=Γ) hu (fun b hx=>⟨.inr hx,(q1.g b hx).1⟩) fun b hx=>?_),?_,zAt q4 hu.size,fun b hx=>(hg b hx).elim (q5 b) (fun h=>.inr (by omega)),q6,fun b h=>hb b (.inr h)⟩
   ·rcases hx with hx | hx
    ·exact .inl (.inl hx)
    ·exact (hg b hx).imp .inr id
   ·have go: ∀ {ds:List Deferred},EZ W.heap.size ds A -> (∀ d∈ds,∀ D,d.target= .collected D -> D<W1.heap.size) -> EZ W.heap.size ds C:=by
     intro ds
     induction ds with
     | nil=>intros;trivial
     | cons d ds ih=>
      rintro ⟨D,r1,r2,r3,r4,r5⟩ AO;have hD:D<W1.heap.size:=AO d (by simp) D (by rw [r1]);refine ⟨D,r1,r2,(hu.block D (zAK.1 r3).1 fun hx=>?_).trans r3,r4,ih r5 fun d' N4=>AO d' (by simp [N4])⟩;rcases q5 D hx with h | h <;> omega
    exact go q3 q6
  ·rintro W2 ⟨q1,q2,q3,q4,q5,q6,q7⟩ Cg;have bd2:Bd (Fence.wide.inRound l) (some W.heap.size) W2:=⟨fun b e=>by cases e;exact zAt h3.upd.size q4,fun l' e=>by cases e;exact Cg⟩;refine zEm (h1 (Ot P Γ KK (fun b=>N b∨G b) S'.h ρ2 W2) _ ρ2 a1 W2 ⟨q1.hr,q2⟩ ⟨rfl,A6.refl _ _ _,B8.refl _ _⟩ q3 bd2) ?_;rintro e a3 W3 ⟨S3,ρ3,N3,Y3,r1,r2,r3,r4,_⟩
   have out: ∀ e,(Ot P Γ KK (fun b=>N b∨G b) S'.h ρ2 W2).I N3 S3.h ρ3 W3 -> UI KK (J (i+1)) Jx e S3 -> AP (fun k=>¬ (G k∨R k)) W2 W3/\ ((e= .normal/\ RJ P Γ N h0 ρ w KK J (i+1) G R W3)∨((Ko e).isSome=true/\ ∃ h ρ',Jx e h/\ RI KK P Γ N h0 ρ w G R W3 h ρ')):=by
    rintro e r0 ⟨S4,Cu,hJ4⟩;obtain ⟨rfl,r3,r5⟩:=r0;obtain ⟨ρ4,R4,s4,k4⟩:=Cu P Γ _ ρ3 a3 W3 r2;have kf:=step q1 q7 R4.hr (r3.trans s4) (r5.trans k4);exact ⟨r3.upd.mono fun b _ hm=>(q1.off b hm).2.2,hJ4.imp (fun ⟨x,y⟩=>⟨x,S4.h,ρ4,y,kf⟩) (fun ⟨x,y⟩=>⟨x,S4.h,ρ4,y,kf⟩)⟩
   have Es: ∀ {e c},Ko e=some c -> (Ot P Γ KK (fun b=>N b∨G b) S'.h ρ2 W2).I N3 S3.h ρ3 W3 -> UI KK (J (i+1)) Jx e S3 -> AP (fun k=>¬ (G k∨R k)) W2 W3/\ RX P Γ N h0 ρ w KK Jx c G R W3:=fun he r3 r1=>by
    obtain ⟨o1,o2⟩:=out _ r3 r1;rcases o2 with ⟨rfl,_⟩ | ⟨_,o2⟩
    ·cases he
    ·exact ⟨o1,_,he,o2⟩
   cases e with
   | normal=>
    obtain ⟨rfl,r1⟩:=r1;obtain ⟨o1,o2⟩:=out _ r3 r1;rcases o2 with ⟨_,o2⟩ | ⟨o2,_⟩
    ·exact ⟨o1,o2⟩
    ·cases o2
   | ret=>obtain ⟨rfl,r1⟩:=r1;exact Es rfl r3 r1
   | exit id=>obtain ⟨rfl,r1⟩:=r1;exact Es rfl r3 r1
   | goto t=>
    obtain ⟨rfl,r1⟩:=r1;obtain ⟨o1,o2⟩:=out _ r3 r1;rcases o2 with ⟨o2,_⟩ | ⟨o2,_⟩ <;> cases o2
   | panic c=>
    obtain ⟨rfl,r1⟩:=r1;obtain ⟨o1,o2⟩:=out _ r3 r1;rcases o2 with ⟨o2,_⟩ | ⟨o2,_⟩ <;> cases o2
   | outgrown=>exact r1.elim
 | ret=>exact h1.elim
 | exit id=>exact h1.elim
 | goto t=>exact h1.elim
 | panic c=>exact h1.elim
 | outgrown=>exact h1.elim
section
variable {N:Nat -> Prop} {S:St} {ρ:List AI} {a:Act} {w:World} {G R:Nat -> Prop} {W:World} {h h0:DH} {ρ':List AI} {KK:Nat}
theorem RI.hrel (hR:RI KK P Γ N h0 ρ w G R W h ρ'):A0 P Γ N h ρ' W:=
 hR.hr.foreign (G:=fun _=>False) (AP.refl _ _) (fun _ h=>h.elim) (fun b hb=>.inl (.inl hb)) fun b hb=>hR.hr.nlt b (.inl hb)
theorem RI.frame (hR:RI KK P Γ N h0 ρ w G R W h ρ') (Q:AS P Γ N S ρ a w) (hh: ∀ b,MO h0 ρ b -> MO S.h ρ b) (Ch:S.fr.all (C5 KK)=true):BC (MS N h ρ') W ρ' S.fr a.tmps:=
 ((Q.fr.take Ch).out (hR.outl.weak fun b hb=>hb.imp id (hh b))).out (C6 (fun b hb=>hb.imp .inl id) ρ')
end
theorem Tr.range {F:Fence} (Ic:F=Fence.wide∨∃ l,F=Fence.wide.inRound l) {B L:Nat} {Y:BQ P Γ L} {S:St} {g:Operand} {ps:Array Tmp} {assign body:Code} {Q:QY P Γ L} {k:Nat} {encs:List (List DV)} (J:Nat -> DH -> Prop) (Jx:Exit -> DH -> Prop)
 (hg:AY S.fr g= .it k) (hk:S.h[k]? =some (some (.iter encs))) (D6: ∀ x∈encs,x.length=ps.size) {KK:Nat} (hL:L<=KK) (Ch:S.fr.all (C5 KK)=true) (h0:J 0 (S.h.set k none))
 (C7:Xv P Γ S.fr ps.toList assign body KK J Jx encs) (Dh: ∀ h,J encs.length h -> Q .normal ⟨S.fr,h⟩ Y) (PZ: ∀ e h,(Ko e).isSome=true -> Jx e h -> Q e ⟨S.fr,h⟩ Y):Tr P Γ F (some B) L Y (.rangeFunc g ps assign body) S Q:=fun N ρ a w R y m b=>by
 have hx:=Bg R g;rw [hg] at hx;obtain ⟨p,hp,hv⟩:=hx;obtain ⟨p',BF,gf,lb,Rd,⟨e1,e2⟩,q2,q3,q4⟩:=R.hr.obj k _ hk;have ep:p'=p:=zAR (BF.symm.trans hp);subst ep;have lP:a.eval g= .func (.func gf) #[] lb:=hv.trans e1;have Ct:Γ.ng<=w.heap.size:=Γ.lo _ R.hr.gi;have bc: ∀ b,p'.foot b -> MO S.h ρ b:=fun b hb=>⟨k,_,p',hk,hp,hb⟩
 have hN: ∀ b,N b -> b<w.heap.size/\ ¬ MO S.h ρ b:=fun b hb=>⟨(R.hr.nlt b hb).1,fun ⟨k,o,p,q1,q2,q3⟩=>(R.hr.cel k o p b q1 q2 q3).2.1 hb⟩
 have WS:EW p'.foot Rd w:=⟨fun b hb hr=>(q3 b hr).1 (.inr (bc b hb)),fun b hb=>hb.elim (q4 b) fun h=>(q3 b h).2⟩
 have Wp:RJ P Γ N S.h ρ w KK J 0 p'.foot Rd w:=by
  refine ⟨S.h.set k none,ρ,h0,?_,AP.refl _ _,fun b hb=>.inl (MO.kill hb),fun b hb=>⟨(R.hr.cel k _ p' b hk hp hb).1,.inl (bc b hb)⟩,fun b hb=>⟨fun hn=>(q3 b hb).1 (.inl hn),fun hm=>(q3 b hb).1 (.inr (MO.kill hm))⟩,B8.refl _ _⟩;have H1:A0 P Γ N (S.h.set k none) ρ w:=R.hr.kill k
  have ab: ∀ b,MS (fun b=>N b∨p'.foot b) (S.h.set k none) ρ b -> MS N S.h ρ b:=fun b hb=>by
   rcases hb with (hb | hb) | hb
   ·exact .inl hb
   ·exact .inr (bc b hb)
   ·exact .inr (MO.kill hb)
  refine ⟨H1.len,fun i o hi=>?_,fun i o p2 b g1 g2 g3=>?_,H1.dis,fun b hb=>hb.elim (R.hr.nlt b) fun h=>⟨q4 b h,(R.hr.cel k _ p' b hk hp h).1⟩,R.hr.gi⟩
  ·obtain ⟨Am,BV⟩:=Fv hi;obtain ⟨p2,Np,hr⟩:=R.hr.obj i o BV;exact ⟨p2,Np,hr.out (C6 ab ρ) (S:=fun _=>False) (AP.refl _ _) (fun _ h=>h.elim) fun _ _ _ h=>h⟩
  ·obtain ⟨Am,BV⟩:=Fv g1;obtain ⟨c1,c2,c3⟩:=R.hr.cel i o p2 b BV g2 g3;exact ⟨c1,fun hb=>hb.elim c2 fun hb=>R.hr.dis i k o _ p2 p' b Am BV hk g2 hp g3 hb,c3⟩
 have Dg: ∀ i,EL (RJ P Γ N S.h ρ w KK J i):=fun i G R' G' R2 A C ⟨h,ρ',h1,h2⟩ q1 q2 q3 q4 q5 q6=>⟨h,ρ',h1,RI.stable Ct hN _ _ _ _ _ _ h2 q1 q2 q3 q4 q5 q6⟩
 have WR: ∀ c,EL (RX P Γ N S.h ρ w KK Jx c):=fun c G R' G' R2 A C ⟨e,he,h,ρ',h1,h2⟩ q1 q2 q3 q4 q5 q6=>⟨e,he,h,ρ',h1,RI.stable Ct hN _ _ _ _ _ _ h2 q1 q2 q3 q4 q5 q6⟩
 have Fi: ∀ {G R':Nat -> Prop} {W:World} {h:DH} {ρ':List AI},RI KK P Γ N S.h ρ w G R' W h ρ' -> A6 S.h ρ w h ρ' W:=fun hR=>⟨hR.upd,hR.grow⟩
 have kp: ∀ {G R':Nat -> Prop} {W:World} {h:DH} {ρ':List AI},RI KK P Γ N S.h ρ w G R' W h ρ' -> B8 L ρ ρ':=fun hR k p hk hp=>hR.kept k p (zAW hk hL) hp
 have km: ∀ x∈encs,∀ R W args,YV x R W args -> args.size=ps.size:=fun x hx R W args h=>h.1.symm.trans (D6 x hx)
 have O1: ∀ {G R':Nat -> Prop} {W:World} {h:DH} {ρ':List AI} {a':Act},RI KK P Γ N S.h ρ w G R' W h ρ' -> a'.tmps=a.tmps -> AS P Γ N ⟨S.fr,h⟩ ρ' a' W:=fun hR e=>⟨hR.hrel,by rw [e];exact hR.frame (S:=S) R (fun _ h=>h) Ch⟩
 rcases Ic with rfl | ⟨l0,rfl⟩
 ·have mk: ∀ {D:Nat} {G R':Nat -> Prop} {W:World} {h:DH} {ρ':List AI},RI KK P Γ N S.h ρ w G R' W h ρ' -> W.heap[D]? =some (.deferred (some [])) -> w.heap.size<=D -> EZ B ({ target:=.collected D,args:=#[] }::a.defers) W:=fun {D G R' W h ρ'} hR hD IW=>
   ⟨D,rfl,zAt (b.le _ rfl) IW,hD,fun d' N4 ht=>by have:=EZ.lt m N4 ht;omega,SK R.hr (Fi hR) m⟩
  refine dk lP e2 q2 WS km _ _ Dg WR (fun h=>h.elim) Wp (ZG R hN (fun _ h=>h) Ch C7) ?_ ?_
  ·rintro D e G R' own W W' ⟨v,rfl⟩ ⟨h,ρ',h1,hR⟩ _ _ _ hD IW;exact ⟨⟨S.fr,h⟩,ρ',N,Y,Dh h h1,O1 hR rfl,Y.st y R.hr hR.hrel (Fi hR) (kp hR),mk hR hD IW,b.step R.hr (Fi hR)⟩
  ·rintro D c G R' W ⟨e,he,h,ρ',h1,hR⟩ hD IW;have hq:=PZ e h (by rw [he];rfl) h1;cases e with
   | ret=>cases he;exact wpIn_ret ⟨⟨S.fr,h⟩,ρ',N,Y,hq,O1 hR rfl,Y.st y R.hr hR.hrel (Fi hR) (kp hR),mk hR hD IW,b.step R.hr (Fi hR)⟩
   | exit id=>cases he;exact wpIn_exit ⟨⟨S.fr,h⟩,ρ',N,Y,hq,O1 hR rfl,Y.st y R.hr hR.hrel (Fi hR) (kp hR),mk hR hD IW,b.step R.hr (Fi hR)⟩
   | normal=>cases he
   | goto t=>cases he
   | panic c=>cases he
   | outgrown=>cases he
 ·refine oZ lP e2 (b.rd l0 rfl) q2 WS km _ _ Dg WR (fun h=>h.elim) Wp (ZG R hN (fun _ h=>h) Ch C7) ?_ ?_
  ·rintro e G R' own W W' ⟨v,rfl⟩ ⟨h,ρ',h1,hR⟩ _ _ _;exact ⟨⟨S.fr,h⟩,ρ',N,Y,Dh h h1,O1 hR rfl,Y.st y R.hr hR.hrel (Fi hR) (kp hR),SK R.hr (Fi hR) m,b.step R.hr (Fi hR)⟩
  ·rintro c G R' W ⟨e,he,h,ρ',h1,hR⟩;have hq:=PZ e h (by rw [he];rfl) h1;cases e with
   | ret=>cases he;exact wpIn_ret ⟨⟨S.fr,h⟩,ρ',N,Y,hq,O1 hR rfl,Y.st y R.hr hR.hrel (Fi hR) (kp hR),SK R.hr (Fi hR) m,b.step R.hr (Fi hR)⟩
   | exit id=>cases he;exact wpIn_exit ⟨⟨S.fr,h⟩,ρ',N,Y,hq,O1 hR rfl,Y.st y R.hr hR.hrel (Fi hR) (kp hR),SK R.hr (Fi hR) m,b.step R.hr (Fi hR)⟩
   | normal=>cases he
   | goto t=>cases he
   | panic c=>cases he
   | outgrown=>cases he
def DB {α σ:Type} (f:α -> σ -> Option (σ×Nat)):List α -> σ -> Option (σ×Nat)
 | [],s=>some (s,0)
 | x::l,s=>(f x s).bind fun r=>bif r.2==0 then DB f l r.1 else some r
def Bl {α σ:Type} (f:α -> σ -> Option σ):List α -> σ -> Option σ
 | [],s=>some s
 | x::l,s=>(f x s).bind (Bl f l)
theorem mV {α σ:Type} (f:α -> σ -> Option σ): ∀ (l:List α) (s:σ),DB (fun x s=>(f x s).map fun s'=>(s',0)) l s=(Bl f l s).map fun s'=>(s',0)
 | [],s=>rfl
 | x::l,s=>by
  simp only [DB,Bl];cases f x s with
  | none=>rfl
  | some s'=>exact mV f l s'
def Cd (L:Nat) (ex:List Exit) (c:Nat) (h':DH) (e:Exit) (S:St):Prop:=(Exit.normal::ex)[c]? =some e/\ ∃ S3,Az L S S3/\ S3.h=h'
def F1 (P:Program) (Γ:Ar) (F:Fence) (B:Option Nat) (L:Nat) (N:BQ P Γ L) (Q:Exit -> St -> Prop) (assign body:Code) (S:St):Prop:=
 Tr P Γ F B L N assign S (Qh (fun S' Y'=>Y'=N/\ ∀ N2:BQ P Γ L,Be P Γ F B L N2 Q [.code body] S') (fun _ _ _=>False))
theorem F1.go {F:Fence} {B:Option Nat} {L:Nat} {N:BQ P Γ L} {Q:Exit -> St -> Prop} (hF:Cw F P) (hm:P.follows .mixedOrders=true) {assign body:Code} {S:St} (A7:Bi) (n:Nat) (o:BH) (live σ:List Nat) (fr:List DV) (h':DH) (vs:List Prop)
 (h:(B6 P Γ A7 n [.code assign] S o).map (Rr live σ L)=some (.at [],fr,h',vs,[],[],true)) (hv:Bc vs) (hk: ∀ N2:BQ P Γ L,Be P Γ F B L N2 Q [.code body] ⟨fr,h'⟩):F1 P Γ F B L N Q assign body S:=by
 obtain ⟨S',_,h1,hs⟩:=um h;have T:=FH (F:=F) (B:=B) (L:=L) (Y:=N) (Q:=fun e S2 Y2=>e= .normal/\ Y2=N/\ ∀ N2:BQ P Γ L,Be P Γ F B L N2 Q [.code body] S2) hF hm n [.code assign] S o _ _ _ _ h1 hv ⟨rfl,rfl,fun N2=>Be.le hs rfl (hk N2)⟩;refine Tr.mono (show Tr P Γ F B L N assign S _ from T) fun e S2 Y2 hq=>?_
 cases e with
 | normal=>exact hq.2
 | ret=>exact absurd hq.1 (by simp)
 | exit id=>exact absurd hq.1 (by simp)
 | goto t=>exact absurd hq.1 (by simp)
 | panic c=>exact absurd hq.1 (by simp)
 | outgrown=>exact absurd hq.1 (by simp)
theorem Be.rangeFold {F:Fence} (Ic:F=Fence.wide∨∃ l,F=Fence.wide.inRound l) {B L:Nat} {Y:BQ P Γ L} {Q:QY P Γ L} {S:St} {g:Operand} {ps:Array Tmp} {assign body:Code} {k:List KI} {kk:Nat} {α σ:Type} (ex:List Exit) (JS:(ex.all fun e=>(Ko e).isSome)=true) (enc:α -> List DV) (l:List α) (H:σ -> DH) (f:α -> σ -> Option (σ×Nat)) {s0:σ} {rE:σ×Nat} (hf:DB f l s0=some rE)
 (hg:AY S.fr g= .it kk) (hk:S.h[kk]? =some (some (.iter (l.map enc)))) (D6: ∀ x,(enc x).length=ps.size) {K:Nat} (hL:L<=K) (Ch:S.fr.all (C5 K)=true) (h0:S.h.set kk none=H s0)
 (C7: ∀ (l B:Nat) (N:BQ P Γ K) (x:α) (s:σ) (r:σ×Nat),f x s=some r -> F1 P Γ (Fence.wide.inRound l) (some B) K N (Cd K ex r.2 (H r.1)) assign body ⟨IE S.fr ps.toList (enc x),H s⟩)
 (Dh: ∀ e,(Exit.normal::ex)[rE.2]? =some e -> Da P Γ F (some B) L Q k e ⟨S.fr,H rE.1⟩ Y):Ap P Γ F (some B) L Y Q (.code (.rangeFunc g ps assign body)::k) S:=by
 refine Tr.range (Q:=Da P Γ F (some B) L Q k) (KK:=K) Ic (fun i h=>∃ s,DB f (l.drop i) s=some rE/\ h=H s) (fun e h=>(Exit.normal::ex)[rE.2]? =some e/\ h=H rE.1) hg hk (fun x hx=>?_) hL Ch ⟨s0,hf,h0⟩ ?_ ?_ ?_
 ·obtain ⟨y,_,rfl⟩:=zEI.1 hx;exact D6 y
 ·rintro l' B' N' i x h hx ⟨s,hs,rfl⟩;rw [zA1] at hx;cases hy:l[i]? with
  | none=>rw [hy] at hx;cases hx
  | some y=>
   rw [hy] at hx;cases hx;have AO:=(zAS.1 hy).1
   have hd:l.drop i=y::l.drop (i+1):=by
    rw [zBx AO]
    congr 1
    exact (zAS.1 hy).2
   rw [hd] at hs;obtain ⟨r,h1,h2⟩:=FP hs;have T:=C7 l' B' N' y s r h1
   have fin: ∀ {e:Exit} {S2:St},Cd K ex r.2 (H r.1) e S2 -> UI K (fun h=>∃ s,DB f (l.drop (i+1)) s=some rE/\ h=H s) (fun e h=>(Exit.normal::ex)[rE.2]? =some e/\ h=H rE.1) e S2:=by
    rintro e S2 ⟨r1,S3,r2,r3⟩;refine ⟨S3,r2,?_⟩;cases hc:r.2 with
    | zero=>
     rw [hc] at r1 h2;cases r1;exact .inl ⟨rfl,r.1,h2,r3⟩
    | succ c=>
     rw [hc] at r1 h2;cases h2;have:e∈ex:=zDy (i:=c) r1;exact .inr ⟨zAT.1 JS e this,by rw [hc];exact r1,r3⟩
   refine Tr.mono T fun e S2 Y2 hq=>?_
   cases e with
   | normal=>exact ⟨hq.1,fun N2=>Tr.mono (show Tr P Γ (Fence.wide.inRound l') (some B') K N2 body S2 (stay N2 (Cd K ex r.2 (H r.1))) from hq.2 N2) fun e S3 Y3 h3=>⟨h3.1,fin h3.2⟩⟩
   | ret=>exact hq.elim
   | exit id=>exact hq.elim
   | goto t=>exact hq.elim
   | panic c=>exact hq.elim
   | outgrown=>exact hq.elim
 ·rintro h ⟨s,hs,rfl⟩;rw [zAq,zF1] at hs;cases hs;exact Dh .normal rfl
 ·rintro e h he ⟨h1,rfl⟩;exact Dh e h1
theorem P5 {F:Fence} {B:Option Nat} {L:Nat} {Y:BQ P Γ L} {Q:QY P Γ L} {S:St} {id:Nat} (h:Q (.exit id) S Y): ∀ (k:List KI),IM id k=none -> Da P Γ F B L Q k (.exit id) S Y
 | [],_=>h
 | .blk i::k,hp=>by
  unfold IM at hp;split at hp
  ·cases hp
  ·rename_i e
   show (if id=i then _ else _)
   rw [zAU e];exact P5 h k hp
 | .code c::k,hp=>P5 (k:=k) h hp
 | .lend J::k,hp=>P5 (k:=k) h hp
 | .scp::k,hp=>P5 (k:=k) h hp
 | .loopN m b::k,hp=>P5 (k:=k) h hp
end
def J4 (t:Nat):Code -> Option (Array Tmp×Code×Code)
 | .rangeFunc (.tmp t') ps a b=>if t'=t then some (ps,a,b) else J4 t b
 | .seq a b=>match J4 t a with
  | some r=>some r
  | none=>J4 t b
 | .cond _ a b=>match J4 t a with
  | some r=>some r
  | none=>J4 t b
 | .block _ c=>J4 t c
 | .loop c=>J4 t c
 | .scope c=>J4 t c
 | _=>none
def iM (f:Func) (t:Nat):Array Tmp×Code×Code:=match f.body with
 | some c=>(J4 t c).getD (#[],.skip,.skip)
 | none=>(#[],.skip,.skip)
def VF (f:Func) (t:Nat):Code:=(iM f t).2.2
def tN (f:Func) (t:Nat):Code:=(iM f t).2.1
def AW (f:Func):Code:=f.body.getD .skip
def ii (id:Nat) (k:List KI):List KI:=(IM id k).getD []
theorem Da.exitTo {P:Program} {Γ:Ar} {F:Fence} {B:Option Nat} {L:Nat} {Y:BQ P Γ L} {Q:QY P Γ L} {id:Nat} {k:List KI} {S:St} (h:(IM id k).isSome=true) (hk:Ap P Γ F B L Y Q (ii id k) S):Da P Γ F B L Q k (.exit id) S Y:=by
 unfold ii at hk;cases hp:IM id k with
 | none=>rw [hp] at h;cases h
 | some k'=>rw [hp] at hk;exact ND hp hk
def M9:List KI -> Option (Operand×Array Tmp×Code×Code×List KI)
 | .code (.rangeFunc g ps a b)::k=>some (g,ps,a,b,k)
 | _=>none
theorem Be.rangeAt {P:Program} {Γ:Ar} {F:Fence} (Ic:F=Fence.wide∨∃ l,F=Fence.wide.inRound l) {B L:Nat} {Y:BQ P Γ L} {Q:QY P Γ L} {fr:List DV} {h:DH} {K:List KI} (ex:List Exit) (JS:(ex.all fun e=>(Ko e).isSome)=true) (g:Operand) (ps:Array Tmp) (a b:Code) (k2:List KI) {kk:Nat} {α σ:Type} (enc:α -> List DV) (l:List α) (H:σ -> DH) (FR:α -> List DV) (f:α -> σ -> Option (σ×Nat)) {s0:σ} {rE:σ×Nat} (hf:DB f l s0=some rE)
 (hK:M9 K=some (g,ps,a,b,k2)) (hg:AY fr g= .it kk) (hk:h[kk]? =some (some (.iter (l.map enc)))) (D6: ∀ x,(enc x).length=ps.size) (L':Nat) (hL:Nat.ble L L'=true) (GU:fr.all (C5 L')=true) (h0:h.set kk none=H s0) (Ch:(fun x=>IE fr ps.toList (enc x))=FR)
 (C7: ∀ (l B:Nat) (N:BQ P Γ L') (x:α) (s:σ) (r:σ×Nat),f x s=some r -> F1 P Γ (Fence.wide.inRound l) (some B) L' N (Cd L' ex r.2 (H r.1)) a b ⟨FR x,H s⟩)
 (Dh: ∀ e,(Exit.normal::ex)[rE.2]? =some e -> Da P Γ F (some B) L Q k2 e ⟨fr,H rE.1⟩ Y):Ap P Γ F (some B) L Y Q K ⟨fr,h⟩:=by
 unfold M9 at hK;split at hK
 ·cases hK;subst Ch;exact Be.rangeFold Ic ex JS enc l H f hf hg hk D6 (zD2 hL) GU h0 C7 Dh
 ·cases hK
theorem Be.rangeAt0 {P:Program} {Γ:Ar} {F:Fence} (Ic:F=Fence.wide∨∃ l,F=Fence.wide.inRound l) {B L:Nat} {Y:BQ P Γ L} {Q:QY P Γ L} {fr:List DV} {h:DH} {K:List KI} (g:Operand) (ps:Array Tmp) (a b:Code) (k2:List KI) {kk:Nat} {α σ:Type} (enc:α -> List DV) (l:List α) (H:σ -> DH) (FR:α -> List DV) (f:α -> σ -> Option σ) {s0 sE:σ} (hf:Bl f l s0=some sE)
 (hK:M9 K=some (g,ps,a,b,k2)) (hg:AY fr g= .it kk) (hk:h[kk]? =some (some (.iter (l.map enc)))) (D6: ∀ x,(enc x).length=ps.size) (L':Nat) (hL:Nat.ble L L'=true) (GU:fr.all (C5 L')=true) (h0:h.set kk none=H s0) (Ch:(fun x=>IE fr ps.toList (enc x))=FR)
 (C7: ∀ (l B:Nat) (N:BQ P Γ L') (x:α) (s r:σ),f x s=some r -> F1 P Γ (Fence.wide.inRound l) (some B) L' N (Cd L' [] 0 (H r)) a b ⟨FR x,H s⟩)
 (Dh:Ap P Γ F (some B) L Y Q k2 ⟨fr,H sE⟩):Ap P Γ F (some B) L Y Q K ⟨fr,h⟩:=by
 refine Be.rangeAt Ic [] rfl g ps a b k2 enc l H FR (fun x s=>(f x s).map fun s'=>(s',0)) (rE:=(sE,0)) (by rw [mV,hf];rfl) hK hg hk D6 L' hL GU h0 Ch (fun l' B' N' x s r hr=>?_) (fun e he=>?_)
 ·cases hx:f x s with
  | none=>rw [hx] at hr;cases hr
  | some s'=>
   rw [hx] at hr;cases hr;exact C7 l' B' N' x s s' hx
 ·cases he;exact Dh
def L8 (t:Nat):List Nat -> Code -> List KI -> Option (List KI)
 | ms,.seq a b,k=>match L8 t ms a (.code b::k) with
  | some r=>some r
  | none=>L8 t ms b k
 | ms,.cond _ a b,k=>match L8 t ms a k with
  | some r=>some r
  | none=>L8 t ms b k
 | ms,.block i c,k=>L8 t ms c (.blk i::k)
 | ms,.scope c,k=>L8 t ms c (.scp::k)
 | m::ms,.loop b,k=>L8 t ms b (.loopN m b::k)
 | _,.rangeFunc (.tmp t') ps a b,k=>if t'=t then some (.code (.rangeFunc (.tmp t') ps a b)::k) else none
 | _,_,_=>none
def Fg (c:Code) (t:Nat) (ms:List Nat):List KI:=(L8 t ms c []).getD []
def BB (c:Code) (id:Nat) (ms:List Nat):List KI:=(L9 id ms c []).getD []
def Cc (c:Code) (id:Nat) (ms:List Nat):List KI:=(MA id ms c []).getD []
end Go.Proofs.YtkjbblkieglmlaaGreatDoor
namespace Go.Proofs.YtkjbblkieglmlaaGreatDoor
open Go.RowKit
abbrev L1 (l:List DV):Nat -> DV:=fun j=>l.getD j .any
abbrev AQ {α:Type} [Inhabited α] (c:α -> List DV) (l:List α):Nat -> Nat -> DV:=fun i j=>(c (l.getD i default)).getD j .any
abbrev m4 {α:Type} (c:α -> List DV):α -> Nat -> DV:=fun x j=>(c x).getD j .any
def AK (c:AC):List DV:=[.int .i64 c.kind,.ints c.cells,.int .i64 c.set,.int .i64 c.other,.int .i64 c.lo,.int .i64 c.hi,.ints c.runs,.int .i64 c.rule,.int .i64 c.spot]
def BS (x:List Int):List DV:=[.ints x]
def QO (x:List Bool):List DV:=[.bools x]
def BD (x:Int×Int):List DV:=[.int .i64 x.1,.int .i64 x.2]
def AD (q:AA):List DV:=[.int .i64 q.cells,.int .i64 q.symbols,.ints q.values,.sl 1 q.nbrs.length (AQ BS q.nbrs),.sl 9 q.cons.length (AQ AK q.cons)]
end Go.Proofs.YtkjbblkieglmlaaGreatDoor
namespace Go.Proofs.YtkjbblkieglmlaaGreatDoor
abbrev zEY:=@List.drop_eq_nil_of_le
abbrev zFW:=@List.cons_append
abbrev zFw:=@List.take_append_drop
end Go.Proofs.YtkjbblkieglmlaaGreatDoor
namespace Go.Proofs.YtkjbblkieglmlaaGreatDoor
open Go.RowKit
structure Ba (P:Program) where
 l:Nat
 encs:List (List DV)
 J:Nat -> (Nat -> Prop) -> (Nat -> Prop) -> World -> Prop
 Jx:(Nat -> Prop) -> (Nat -> Prop) -> World -> Prop
 hJ: ∀ i,EL (J i)
 hJx:EL Jx
 hy: ∀ i x args G R W1,encs[i]? =some x -> YV x R W1 args -> J i G R W1 -> EW G R W1 -> YieldAt Fence.wide 0 P l args W1 fun e W'=>
  AP (fun k=>¬ (G k∨R k)) W1 W'/\ ((e= .returned (.bool true)/\ J (i+1) G R W')∨(e= .returned (.bool false)/\ Jx G R W'))
structure IY (Γ:Ar) (N G R:Nat -> Prop) (h:DH) (ρ:List AI) (w:World):Prop where
 sh:EW G R w
 lo: ∀ b,b<Γ.ng -> R b
 own: ∀ b,MO h ρ b -> G b
 n: ∀ b,N b↔(b<w.heap.size/\ ¬ G b/\ ¬ R b)
theorem IY.ng {Γ:Ar} {N G R:Nat -> Prop} {h:DH} {ρ:List AI} {w:World} (y:IY Γ N G R h ρ w) {b:Nat} (hb:N b):Γ.ng<=b:=zEv fun hl=>((y.n b).1 hb).2.2 (y.lo b hl)
def kJ (P:Program) (Γ:Ar) (L:Nat) (J:(Nat -> Prop) -> (Nat -> Prop) -> World -> Prop) (hJ:EL J):BQ P Γ L where
 I:=fun N h ρ w=>∃ G R,J G R w/\ IY Γ N G R h ρ w
 st:=by
  rintro N h ρ w h' ρ' w' ⟨G,R,h1,y⟩ H H' st _;have hs:=st.upd.size;have Pj: ∀ b,(G b∨(w.heap.size<=b/\ b<w'.heap.size)) -> ¬ R b:=fun b hb hr=>hb.elim (fun h=>y.sh.dis b h hr) fun h=>by have:=y.sh.lt b (.inr hr);omega
  have AO: ∀ b,(G b∨(w.heap.size<=b/\ b<w'.heap.size))∨R b -> b<w'.heap.size:=fun b hb=>by
   rcases hb with (hb | hb) | hb
   ·exact zAW (y.sh.lt b (.inl hb)) hs
   ·exact hb.2
   ·exact zAW (y.sh.lt b (.inr hb)) hs
  refine ⟨fun b=>G b∨(w.heap.size<=b/\ b<w'.heap.size),R,hJ G R _ R w w' h1 (st.upd.mono fun b _ hb=>y.own b hb) (fun k hk=>hk.imp id fun h=>h.1) (fun k hk=>.inl hk) (fun k hk=>hk.imp .inl id) Pj AO,⟨Pj,AO⟩,y.lo,fun b hb=>?_,fun b=>?_⟩
  ·rcases st.grow b hb with h | h
   ·exact .inl (y.own b h)
   ·obtain ⟨k,o,p,q1,q2,q3⟩:=hb;obtain ⟨_,_,c,t,z,e⟩:=H'.cel k o p b q1 q2 q3;exact .inr ⟨h,(zAK.1 e).1⟩
  ·rw [y.n];constructor
   ·rintro ⟨a1,a3,a4⟩;exact ⟨zAW a1 hs,fun hx=>hx.elim a3 fun hx=>by omega,a4⟩
   ·rintro ⟨a1,a3,a4⟩;have: ¬ (w.heap.size<=b):=fun hx=>a3 (.inr ⟨hx,a1⟩)
    exact ⟨by omega,fun hx=>a3 (.inl hx),a4⟩
section
variable {P:Program} {Γ:Ar}
def Ba.Y (C:Ba P) (Γ:Ar) (L i:Nat):BQ P Γ L:=kJ P Γ L (C.J i) (C.hJ i)
def Ba.X (C:Ba P) (Γ:Ar) (L:Nat):BQ P Γ L:=kJ P Γ L C.Jx C.hJx
def Ba.Q (C:Ba P) (Γ:Ar) (L:Nat):QY P Γ L:=fun e _ Y=>(e= .normal∨e= .ret)/\ (Y=C.Y Γ L C.encs.length∨Y=C.X Γ L)
def Mb (P:Program) (Γ:Ar) (ops:Array Oper) (p:Nat) (S:St) (Aa:BH):Option (List DV×Nat×St×St×List Prop):=match DX P Γ ops (ops.toList.take p) S Aa with
 | none=>none
 | some (S1,vs,Ec)=>match ops[p]? with
  | none=>none
  | some o=>match Iu ops S1 o with
   | some true=>match o.op with
    | .call c=>match c.callee with
     | .value f=>match AY S1.fr f with
      | .yl l=>match (c.args.toList.map (AY S1.fr)).all Eo with
       | false=>none
       | true=>match DX P Γ ops (ops.toList.drop (p+1)) ⟨CX S1.fr o.dst (.bool true),S1.h⟩ Ec with
        | none=>none
        | some (ST,vT,Fo)=>match DX P Γ ops (ops.toList.drop (p+1)) ⟨CX S1.fr o.dst (.bool false),S1.h⟩ Fo with
         | none=>none
         | some (SF,vF,_)=>some (c.args.toList.map (AY S1.fr),l,ST,SF,vs++(vT++vF))
      | _=>none
     | _=>none
    | _=>none
   | _=>none
end
section
variable {P:Program} {Γ:Ar} {N:Nat -> Prop} {S:St} {ρ:List AI} {a:Act} {w:World} {F:Fence}
theorem TL (hF:Cw F P) {ops:Array Oper} (Au:CP ops=true) {Q:Exit -> Act -> World -> Prop} {Ep:List Oper}: ∀ (l:List Oper) (_: ∀ o∈l,o∈ops) {S:St} {ρ:List AI} {a:Act} {w:World} {Aa:BH} {S':St} {vs:List Prop} {Bz:BH},
 AS P Γ N S ρ a w -> DX P Γ ops l S Aa=some (S',vs,Bz) -> Bc vs ->
 (∀ ρ' a' w',AS P Γ N S' ρ' a' w' -> Ci S.h ρ w S'.h ρ' w' -> a'.defers=a.defers -> wpListIn F 0 P ops Q Ep a' w') -> wpListIn F 0 P ops Q (l++Ep) a w
 | [],_,S,ρ,a,w,Aa,S',vs,Bz,R,h,_,hQ=>by
  cases h;exact hQ ρ a w R (Ci.refl _ _ _) rfl
 | o::rest,hl,S,ρ,a,w,Aa,S',vs,Bz,R,h,hv,hQ=>by
  have hd: ∀ c,o.op≠.defer c:=by
   obtain ⟨j,hj,e⟩:=Array.getElem_of_mem (hl o (by simp));exact Gg Au (j:=j) (by rw [zA0 hj,e])
  have Ew: ∀ o∈rest,o∈ops:=fun o ho=>hl o (by simp [ho])
  have CL: ∀ v,(a.put o.dst v).defers=a.defers:=fun v=>by cases ho:o.dst <;> simp [Act.put]
  simp only [DX] at h;rw [zFW];unfold wpListIn;split at h
  ·split at h
   ·cases h
   ·rename_i S1 CG ext1 Ec h1;split at h
    ·cases h
    ·rename_i S2 Dq Fo h2;cases h;obtain ⟨B0,B7⟩:=Cv.1 hv;exact dA hF R hd h1 B0 fun ρ' a' w' R' st Ca _=>TL hF Au rest Ew R' h2 B7 fun ρ'' GX CI EX C4 Ia=>hQ ρ'' GX CI EX (st.trans C4) (Ia.trans Ca)
  ·split at h
   ·cases h
   ·rename_i S1 CG Jf h1;split at h
    ·cases h
    ·rename_i S2 Dq Fo h2;cases h;obtain ⟨B0,B7⟩:=Cv.1 hv;obtain ⟨e1,hs⟩:=Rf R h1 B0
     have go: ∀ v,AS P Γ N S1 ρ (a.put o.dst v) w -> wpListIn F 0 P ops Q (rest++Ep) (a.put o.dst v) w:=fun v R'=>
      TL hF Au rest Ew R' h2 B7 fun ρ'' GX CI EX C4 Ia=>hQ ρ'' GX CI EX (by rw [←e1];exact C4) (Ia.trans (CL v))
     rcases hs with ⟨hw,v,g1,g2⟩ | ⟨hw,g2⟩
     ·rw [zAE hw];refine ⟨fun f _=>hF.fn f,?_⟩;rw [zEe _ _ _ hd,g1 w (Keep.ofExt (Aq.refl w))];exact go v g2
     ·rw [zAU (by rw [hw];exact zE0)];exact ⟨fun f _=>hF.fn f,go undef g2⟩
theorem gq {l:Nat} {ρ':Operand -> Value} {o:Oper} {c:Call} {f:Operand} {vs:List Value} (ho:o.op= .call c) (hc:c.callee= .value f) (hf:ρ' f= .func (.yield l) #[] #[]) (hv:c.args.toList.map ρ'=vs):(execOp ρ' o).run P w=(Instr.yield l vs.toArray).run P w:=by
 unfold execOp;rw [ho]
 show ((resolve ρ' c o.type)>>=fun d=>invoke d.target d.args).run P w=_
 unfold resolve;rw [hc];simp only [Deferred.ofValue,hf]
 have e: #[]++Array.map ρ' c.args=vs.toArray:=by
  rw [←hv];apply Array.ext';simp
 have he:((pure { target:=.fn (.yield l) #[],args:=#[]++Array.map ρ' c.args }:Sem Deferred)>>=fun d=>invoke d.target d.args).run P w=(Instr.yield l (#[]++Array.map ρ' c.args)).run P w:=rfl;rw [he,e]
theorem YV.of {M:Nat -> Prop} {ρ:List AI} {g:Operand -> DV} {f:Operand -> Value} {R:Nat -> Prop} (hr: ∀ x,AM M w (g x) ρ (f x)) (hM: ∀ b,b<w.heap.size/\ ¬ R b -> M b): ∀ {l:List Operand},(l.map g).all Eo=true -> YV (l.map g) R w (l.map f).toArray:=fun {l} h=>by
 refine ⟨by simp,fun j hj=>?_⟩;have BT:j<l.length:=by simpa using hj
 have e1:(l.map g).getD j .any=g l[j]:=by simp [u8,BT]
 have e2:(l.map f).toArray.getD j undef=f l[j]:=by simp [zAg,BT]
 rw [e1,e2];have hn:=KD (zAT.1 h (g l[j]) (zEI.2 ⟨_,zA7 BT,rfl⟩));exact (hn _ _ _ _ (hr l[j])).out _ (C6 hM [])
theorem IY.part {N G R:Nat -> Prop} {h:DH} {I:(Nat -> Prop) -> (Nat -> Prop) -> World -> Prop} (hI:EL I) (hi:I G R w) (y:IY Γ N G R h ρ w): ∃ R',I (MO h ρ) R' w/\ IY Γ N (MO h ρ) R' h ρ w/\ (∀ b,b<w.heap.size/\ ¬ R' b -> MS N h ρ b)/\ (∀ b,R b -> R' b):=by
 have hd: ∀ b,MO h ρ b -> ¬ (R b∨(G b/\ ¬ MO h ρ b)):=fun b hm hx=>hx.elim (y.sh.dis b (y.own b hm)) fun hx=>hx.2 hm
 have hl: ∀ b,MO h ρ b∨(R b∨(G b/\ ¬ MO h ρ b)) -> b<w.heap.size:=fun b hx=>by
  rcases hx with hx | hx | hx
  ·exact y.sh.lt b (.inl (y.own b hx))
  ·exact y.sh.lt b (.inr hx)
  ·exact y.sh.lt b (.inl hx.1)
 have hu: ∀ b,G b -> MO h ρ b∨(R b∨(G b/\ ¬ MO h ρ b)):=fun b hg=>(Classical.em (MO h ρ b)).imp id fun hm=>.inr ⟨hg,hm⟩
 refine ⟨fun b=>R b∨(G b/\ ¬ MO h ρ b),hI G R _ _ w w hi (AP.refl _ _) (fun k hk=>.inl (y.own k hk)) (fun k hk=>hk.imp id fun h=>.inl h.1) (fun k hk=>hk.elim (hu k) fun h=>.inr (.inl h)) hd hl,⟨⟨hd,hl⟩,fun b h=>.inl (y.lo b h),fun _ h=>h,fun b=>(y.n b).trans ⟨fun ⟨q1,q2,q3⟩=>⟨q1,fun hm=>q2 (y.own b hm),fun hx=>hx.elim q3 fun hx=>q2 hx.1⟩,fun ⟨q1,q2,q3⟩=>⟨q1,fun hg=>(hu b hg).elim q2 q3,fun hr=>q3 (.inl hr)⟩⟩⟩,fun b ⟨q1,q2⟩=>?_,fun b h=>.inl h⟩
 by_cases hg:G b
 ·exact .inr ((hu b hg).resolve_right q2)
 ·exact .inl ((y.n b).2 ⟨q1,hg,fun hr=>q2 (.inl hr)⟩)
theorem IY.later {N R':Nat -> Prop} {h:DH} {W':World} (z:IY Γ N (MO h ρ) R' h ρ w) (H:A0 P Γ N h ρ w) (hu:AP (fun k=>¬ (MO h ρ k∨R' k)) w W'):A0 P Γ (fun bb=>bb<W'.heap.size/\ ¬ MO h ρ bb/\ ¬ R' bb) h ρ W'/\ BU (MS N h ρ) w ρ (MS (fun bb=>bb<W'.heap.size/\ ¬ MO h ρ bb/\ ¬ R' bb) h ρ) W' ρ:=by
 have Bo:AP N w W':=hu.mono fun bb AO hn=>(z.n bb).2 ⟨AO,fun hx=>hn (.inl hx),fun hx=>hn (.inr hx)⟩
 have mB: ∀ bb,N bb -> N bb/\ Γ.ng<=bb:=fun bb hb=>⟨hb,z.ng hb⟩
 have TI: ∀ bb,(bb<W'.heap.size/\ ¬ MO h ρ bb/\ ¬ R' bb) -> N bb∨w.heap.size<=bb:=fun bb ⟨q1,q2,q3⟩=>by
  rcases zBG bb w.heap.size with h | h
  ·exact .inl ((z.n bb).2 ⟨h,q2,q3⟩)
  ·exact .inr h
 exact ⟨H.foreign Bo mB TI fun bb ⟨q1,_,q3⟩=>⟨q1,zEv fun hl=>q3 (z.lo bb hl)⟩,BU.foreign (Γ:=Γ) Bo mB TI⟩
theorem Tr.yield {L:Nat} {C:Ba P} {i:Nat} {Q:QY P Γ L} (hF:Cw Fence.wide P) {id:Nat} {ops:Array Oper} {p:Nat} {Aa:BH} {x:List DV} {ST SF:St} {vs:List Prop} (Au:CP ops=true)
 (h:Mb P Γ ops p S Aa=some (x,C.l,ST,SF,vs)) (hv:Bc vs) (hx:C.encs[i]? =some x) (hT:Q .normal ST (C.Y Γ L (i+1))) (hE:Q .normal SF (C.X Γ L)):Tr P Γ Fence.wide none L (C.Y Γ L i) (.region id ops false) S Q:=fun N ρ a w R y m b=>by
 unfold Mb at h;split at h
 ·cases h
 rename_i S1 CG Ec h1;split at h
 ·cases h
 rename_i o ho;split at h
 ·rename_i hw;split at h
  ·rename_i c Ls;split at h
   ·rename_i f hc;split at h
    ·rename_i l hl;split at h
     ·cases h
     rename_i Sn;split at h
     ·cases h
     rename_i ST' vT Fo h2;split at h
     ·cases h
     rename_i SF' vF KC h3;cases h;obtain ⟨B0,EF⟩:=Cv.1 hv;obtain ⟨xj,xl⟩:=Cv.1 EF;have hp:p<ops.toList.length:=by simpa using (zAK.1 ho).1
     have xz:ops.toList=ops.toList.take p++o::ops.toList.drop (p+1):=by
      have e:ops.toList[p]=o:=by
       have:=(zAK.1 ho).2;simpa using this
      rw [←e,←zBx hp,zFw]
     have Dv: ∀ o'∈ops.toList,o'∈ops:=fun o' h=>by simpa using h
     have hd: ∀ c,o.op≠.defer c:=Gg Au ho;refine zFB ?_;rw [xz];refine TL hF Au _ (fun o' JM=>Dv o' (List.mem_of_mem_take JM)) R h1 B0 fun ρ1 a1 w1 R1 DG Nz=>?_
     obtain ⟨G0,R0,y1,y2⟩:=(C.Y Γ L i).st y R.hr R1.hr DG.st (fun k p _ hp=>DG.pl k p hp);obtain ⟨R',z1,z2,z3,_⟩:=IY.part (C.hJ i) y1 y2;obtain ⟨fn,tmps,UA,body,hy,hR⟩:=C.hy i _ _ _ R' w1 hx (YV.of (g:=AY S1.fr) (f:=a1.eval) (fun x=>Bg R1 x) z3 Sn) z1 z2.sh;unfold wpListIn;rw [zAE (He R1 hw)]
     have bJ:a1.eval f= .func (.yield C.l) #[] #[]:=by
      have hr:=Bg R1 f;rw [hl] at hr;exact hr
     refine ⟨fun f _=>hF.fn f,?_⟩;rw [zEe _ _ _ hd,gq Ls hc bJ rfl,hy];refine ⟨fun hx=>(by cases hx),hR.mono ?_⟩;have Aw:a1.defers= []:=Nz.trans m;rintro e W' ⟨hu,hj⟩;obtain ⟨H',fo⟩:=z2.later R1.hr hu;have DC:AS P Γ (fun bb=>bb<W'.heap.size/\ ¬ MO S1.h ρ1 bb/\ ¬ R' bb) S1 ρ1 a1 W':=⟨H',R1.fr.out fo⟩;have CL: ∀ v,(a1.put o.dst v).defers=a1.defers:=fun v=>by cases ho:o.dst <;> simp [Act.put]
     have yy:IY Γ (fun bb=>bb<W'.heap.size/\ ¬ MO S1.h ρ1 bb/\ ¬ R' bb) (MO S1.h ρ1) R' S1.h ρ1 W':=⟨z2.sh.upd hu,z2.lo,fun _ h=>h,fun _=>Iff.rfl⟩;rcases hj with ⟨rfl,hj⟩ | ⟨rfl,hj⟩
     ·have R':=GZ DC o.dst (d:=.bool true) (v:=.bool true) rfl;refine JY hF Au _ (fun o' JM=>Dv o' (List.mem_of_mem_drop JM)) R' h2 xj fun ρ2 a2 w2 R2 Iw bP=>?_
      refine ⟨ST,ρ2,_,C.Y Γ L (i+1),hT,R2,(C.Y Γ L (i+1)).st ⟨_,_,hj,yy⟩ R'.hr R2.hr Iw.st (fun k p _ hp=>Iw.pl k p hp),?_,Bd.none⟩
      show a2.defers= []
      rw [bP,CL];exact Aw
     ·have R':=GZ DC o.dst (d:=.bool false) (v:=.bool false) rfl;refine JY hF Au _ (fun o' JM=>Dv o' (List.mem_of_mem_drop JM)) R' h3 xl fun ρ2 a2 w2 R2 Iw bP=>?_
      refine ⟨SF,ρ2,_,C.X Γ L,hE,R2,(C.X Γ L).st ⟨_,_,hj,yy⟩ R'.hr R2.hr Iw.st (fun k p _ hp=>Iw.pl k p hp),?_,Bd.none⟩
      show a2.defers= []
      rw [bP,CL];exact Aw
    ·cases h
   ·cases h
  ·cases h
 ·cases h
end
theorem MB {P:Program} {f:Nat} {fn:Func} (hf:P.funcs[f]? =some fn) (hb:fn.body.isSome=true) (hn:(fn.name== "runtime.NumGoroutine")=false) (args:Array Value) (W:World):(callFunc f args).run P W= .ok (.enter f args) W:=by
 have Pd: ¬ fn.name= "runtime.NumGoroutine" :=by simpa using hn
 have DA: ¬ fn.body=none:=by intro e;rw [e] at hb;cases hb
 simp [callFunc,go_sem,hf,Pd,DA]
theorem nU {P:Program} {Γ:Ar} {f:Nat} {fn:Func} (hf:P.funcs[f]? =some fn) (hb:fn.body.isSome=true) {L:Nat} {Y:BQ P Γ L} {Q:QY P Γ L} {ds:List DV} {h:DH} (T:Ap P Γ Fence.wide none L Y Q [.code (AW fn)] ⟨ds++List.replicate (fn.ntmps-ds.length) .any,h⟩)
 {N:Nat -> Prop} {ρ:List AI} {W:World} {args:Array Value} (H:A0 P Γ N h ρ W) (fr:BC (MS N h ρ) W ρ ds args) (y:Y.I N h ρ W) {R:Ending -> World -> Prop}
 (hQ: ∀ e S' ρ' N' Y' a' W',Q e S' Y' -> AS P Γ N' S' ρ' a' W' -> Y'.I N' S'.h ρ' W' -> match e with
  | .normal | .ret=>∃ v,(results fn a'.tmps).run P W'= .ok v W'/\ R (.returned v) W'
  | .panic c=>R (.panicked c) W'
  | _=>False):CallsIn Fence.wide 0 P f args W R:=by
 cases hc:fn.body with
 | none=>rw [hc] at hb;cases hb
 | some code=>
 have eb:AW fn=code:=by unfold AW;rw [hc];rfl
 rw [eb] at T;refine callsIn_of_wp hf hc trivial (zEm ((show Tr P Γ Fence.wide none L Y code _ (Da P Γ Fence.wide none L Q []) from T) N ρ _ W ⟨H,?_⟩ y rfl Bd.none) ?_) rfl
 ·rw [←fr.1];exact BC.append fr (BC.anys _ _ _ _)
 ·rintro e a' W' ⟨S',ρ',N',Y',q1,q2,q3,q4,_⟩;cases e with
  | outgrown=>exact q1.elim
  | normal=>obtain ⟨v,h1,h2⟩:=hQ _ S' ρ' N' Y' a' W' q1 q2 q3;exact ⟨q4,v,h1,h2⟩
  | ret=>obtain ⟨v,h1,h2⟩:=hQ _ S' ρ' N' Y' a' W' q1 q2 q3;exact ⟨q4,v,h1,h2⟩
  | exit id=>exact (hQ _ S' ρ' N' Y' a' W' q1 q2 q3).elim
  | goto t=>exact (hQ _ S' ρ' N' Y' a' W' q1 q2 q3).elim
  | panic c=>exact ⟨q4,hQ _ S' ρ' N' Y' a' W' q1 q2 q3⟩
theorem ES.iterN {P:Program} {Γ:Ar} {f gf m:Nat} {fn:Func} {ds:List DV} {c:Nat -> DV} {h0:DH} {encs:List (List DV)} (Ez:ES P Γ f ds [] (.fn gf m c) h0 true) (D8:ds.all Eo=true)
 (hf:P.funcs[gf]? =some fn) (hb:fn.body.isSome=true) (hn:(fn.name== "runtime.NumGoroutine")=false) (WV:fn.results= #[])
 (body: ∀ C:Ba P,C.encs=encs -> Ap P Γ Fence.wide none h0.length (C.Y Γ h0.length 0) (C.Q Γ h0.length) [.code (AW fn)] ⟨.yl C.l::(List.range m).map c++List.replicate (fn.ntmps-(m+1)) .any,h0⟩) (h:DH):ES P Γ f ds h (.it h.length) (h++[some (.iter encs)]) true:=by
 refine ⟨Ez.1,fun N ρ w args HR Cb=>?_⟩;refine (Ez.2 (MS N h ρ) [] w args (Pb (fun b hb=>HR.lt2 hb) HR.gi) ⟨Cb.1,fun i hi=>?_⟩).mono ?_
 ·have hx:=KD (zAT.1 D8 (ds.getD i .any) (by simp [hi]));exact AM.out _ (C6 (fun b hb=>OZ.1 hb) []) (hx _ _ _ _ (Cb.2 i hi))
 ·rintro e w' ⟨v,rfl,⟨⟨ρ',g1,g2,g3,g4⟩,g5⟩⟩;have hE:=g5 rfl;obtain ⟨lb,hv,hl,Lv⟩:=g2;have H2: ∀ b,MO h0 ρ' b -> w.heap.size<=b:=fun b hb=>(g3.grow b hb).resolve_left fun ⟨k,o',p',q1,_⟩=>by simp at q1
  have C9: ∀ b,MO h0 ρ' b -> Γ.ng<=b/\ ¬ MS N h ρ b/\ Db w' b:=fun b ⟨k,o,q,q1,q2,q3⟩=>g1.cel k o q b q1 q2 q3
  have Ct:Γ.ng<=w.heap.size:=Γ.lo _ HR.gi;have Ay:=hE.size
  have AO: ∀ b,MO h0 ρ' b -> b<w'.heap.size:=fun b hb=>by
   obtain ⟨_,_,c,t,z,h⟩:=C9 b hb;exact (zAK.1 h).1
  have lo: ∀ b,b<Γ.ng -> b<w'.heap.size/\ ¬ MS (MS N h ρ) h0 ρ' b:=fun b hb=>⟨zAW hb (zAt Ct Ay),fun hx=>by
   rcases hx with hx | hx
   ·have:=(HR.lt2 hx).2;omega
   ·have:=(C9 b hx).1;omega⟩
  let p:AI:=⟨0,0,0,v,fun b=>MO h0 ρ' b⟩
  have hp: ∀ b,p.foot b -> w.heap.size<=b/\ Db w' b:=fun b hb=>⟨H2 b hb,(C9 b hb).2.2⟩
  refine ⟨v,rfl,⟨⟨ρ++[p],HR.snoc hE hp ?_,⟨p,by rw [←HR.len];simp,rfl⟩,A6.snoc HR hE fun b hb=>(hp b hb).1,fun _ _ h=>ET h⟩,g5⟩⟩;refine ⟨gf,lb,fun b=>b<w'.heap.size/\ ¬ MS (MS N h ρ) h0 ρ' b,⟨hv,fun args W=>MB hf hb hn args W⟩,?_,fun b hb=>⟨fun hm=>?_,hb.1⟩,AO⟩
  ·intro l J Jx W hJ hJx hU hY bp _
   let C:Ba P:=⟨l,encs,J,Jx,hJ,hJx,hY⟩
   have TH: ∀ b,(b<W.heap.size/\ ¬ MO h0 ρ' b/\ ¬ (b<w'.heap.size/\ ¬ MS (MS N h ρ) h0 ρ' b)) -> MS N h ρ b∨w'.heap.size<=b:=fun b ⟨_,q3,q4⟩=>by
    rcases zBG b w'.heap.size with hx | hx
    ·by_cases hm:MS (MS N h ρ) h0 ρ' b
     ·rcases hm with hm | hm
      ·exact .inl hm
      ·exact absurd hm q3
     ·exact absurd ⟨hx,hm⟩ q4
    ·exact .inr hx
   have hu:AP (fun b=>MS N h ρ b) w' W:=hU.mono fun b AO hx=>by
    by_cases hm:MS (MS N h ρ) h0 ρ' b
    ·rcases hm with hm | hm
     ·exact hm
     ·exact absurd (.inl hm) hx
    ·exact absurd (.inr ⟨AO,hm⟩) hx
   have ly: ∀ b,MS N h ρ b -> MS N h ρ b/\ Γ.ng<=b:=fun b hb=>⟨hb,(HR.lt2 hb).2⟩
   have HW:A0 P Γ (fun b=>b<W.heap.size/\ ¬ MO h0 ρ' b/\ ¬ (b<w'.heap.size/\ ¬ MS (MS N h ρ) h0 ρ' b)) h0 ρ' W:=g1.foreign hu ly TH fun b hb=>⟨hb.1,zEv fun hl=>hb.2.2 (lo b hl)⟩
   have cA:BC (MS (MS N h ρ) h0 ρ') w' ρ' ((List.range m).map c) lb:=⟨by simp [hl],fun j hj=>by
    have BT:j<m:=by simpa using hj
    obtain ⟨u,q1,q2⟩:=Lv j BT;have e1:((List.range m).map c).getD j .any=c j:=by simp [BT]
    have e2:lb.getD j undef=u:=by rw [zAg,q1];rfl
    rw [e1,e2];exact q2⟩
   have cC:=cA.out (BU.foreign (Γ:=Γ) hu ly TH);have T:=body C rfl;have e3:fn.ntmps-(m+1)=fn.ntmps-(.yl C.l::(List.range m).map c).length:=by simp
   rw [e3] at T
   refine nU hf hb T HW (BC.append (l:=[.yl C.l]) (t:=#[.func (.yield l) #[] #[]]) ⟨rfl,fun j hj=>by
    have:j=0:=Nat.lt_one_iff.1 hj;subst this;rfl⟩ cC) ⟨_,_,bp,⟨⟨fun b hb hr=>hr.2 (.inr hb),fun b hb=>zAW (hb.elim (AO b) fun h=>h.1) hU.size⟩,lo,fun _ h=>h,fun _=>Iff.rfl⟩⟩ ?_
   rintro e S' ρ2 N' Y' a' W' q1 q2 q3
   have fin: ∃ v,(results fn a'.tmps).run P W'= .ok v W'/\ ∃ G R,EW G R W'/\ ((C.J encs.length G R W'/\ QV (.returned v) G R W')∨((∃ u,Ending.returned v= .returned u)/\ C.Jx G R W')):=by
    obtain ⟨_,(rfl | rfl)⟩:=q1 <;> obtain ⟨G',R',k1,k2⟩:=q3
    ·exact ⟨_,results_none WV _ _ _,G',R',k2.sh,.inl ⟨k1,_,rfl⟩⟩
    ·exact ⟨_,results_none WV _ _ _,G',R',k2.sh,.inr ⟨⟨_,rfl⟩,k1⟩⟩
   cases e with
   | normal=>exact fin
   | ret=>exact fin
   | exit id=>exact absurd q1.1 (by simp)
   | goto t=>exact absurd q1.1 (by simp)
   | panic ch=>exact absurd q1.1 (by simp)
   | outgrown=>exact absurd q1.1 (by simp)
  ·rcases hm with hm | hm
   ·exact hb.2 (.inl (.inl hm))
   ·rcases MO.snoc HR hm with hm | hm
    ·exact hb.2 (.inl (.inr hm))
    ·exact hb.2 (.inr hm)
section
variable {P:Program} {Γ:Ar}
def J6:List KI -> Option (Array Oper×List KI)
 | .code (.region _ ops false)::k=>some (ops,k)
 | _=>none
def Zc (live σ:List Nat) (L:Nat) (r:List DV×Nat×St×St×List Prop):List DV×Nat×List DV×DH×List DV×DH×List Prop×Bool:=
 (r.1,r.2.1,(Proofs.YtkjbblkieglmlaaGreatDoor.comp live σ r.2.2.1).fr,(Proofs.YtkjbblkieglmlaaGreatDoor.comp live σ r.2.2.1).h,(Proofs.YtkjbblkieglmlaaGreatDoor.comp live σ r.2.2.2.1).fr,(Proofs.YtkjbblkieglmlaaGreatDoor.comp live σ r.2.2.2.1).h,r.2.2.2.2,Iy σ L r.2.2.1.h.length&&Iy σ L r.2.2.2.1.h.length)
theorem Ap.yieldAt {L:Nat} {C:Ba P} {i:Nat} {Q:QY P Γ L} {S:St} {K k:List KI} {ops:Array Oper} (hF:Cw Fence.wide P) (hK:J6 K=some (ops,k)) (Au:CP ops=true) (p:Nat) (Aa:BH) {x:List DV} (live σ:List Nat) (Px:List DV) (hT:DH) (Py:List DV) (hE:DH) (vs:List Prop)
 (h:(Mb P Γ ops p S Aa).map (Zc live σ L)=some (x,C.l,Px,hT,Py,hE,vs,true)) (hv:Bc vs) (hx:C.encs[i]? =some x) (hc:Hr k=true) (bG:Ap P Γ Fence.wide none L (C.Y Γ L (i+1)) Q k ⟨Px,hT⟩) (bH:Ap P Γ Fence.wide none L (C.X Γ L) Q k ⟨Py,hE⟩):Ap P Γ Fence.wide none L (C.Y Γ L i) Q K S:=by
 unfold J6 at hK;split at hK
 ·rename_i id NL k';cases hK;cases hr:Mb P Γ ops p S Aa with
  | none=>rw [hr] at h;cases h
  | some r=>
   obtain ⟨xs,l,ST,SF,CG⟩:=r;rw [hr] at h;simp only [zA2,Zc,zA4,zD6,zAN] at h;obtain ⟨rfl,rfl,rfl,rfl,rfl,rfl,rfl,s1,s2⟩:=h;exact Tr.yield hF Au hr hv hx (Be.le (Az.comp live σ ST s1) hc bG) (Be.le (Az.comp live σ SF s2) hc bH)
 ·cases hK
theorem KJ {α β:Type} {o:Option α} {f:α -> β} {r:β} (h:o.map f=some r): ∃ a,o=some a/\ r=f a:=by
 cases o with
 | none=>cases h
 | some a=>cases h;exact ⟨a,rfl,rfl⟩
theorem Tf {α β:Type} {l:List β} {i:Nat} {f:α -> β} {x:α} {r:List α} (hd:l.drop i=(x::r).map f):l[i]? =some (f x)/\ i+1<=l.length/\ l.drop (i+1)=r.map f:=by
 have AO:i<l.length:=by
  rcases zBG i l.length with h | h
  ·exact h
  ·rw [zEY h] at hd;cases hd
 rw [zBx AO] at hd;injection hd with h1 h2
 exact ⟨by rw [zAM AO,h1],AO,h2⟩
theorem OH {α β:Type} {l:List β} {i:Nat} {f:α -> β} (hi:i<=l.length) (hd:l.drop i=([]:List α).map f):i=l.length:=by
 have:=congrArg List.length hd;simp at this;omega
end
def BP (x:Int):List DV:=[.int .i64 x]
def OF (x:Int×Int):List DV:=[.int .i64 x.1,.int .i64 x.2]
end Go.Proofs.YtkjbblkieglmlaaGreatDoor
namespace Go.Proofs.YtkjbblkieglmlaaGreatDoor
open Go.RowKit
section
variable {P:Program} {Γ:Ar}
end
end Go.Proofs.YtkjbblkieglmlaaGreatDoor
namespace Go.Proofs.YtkjbblkieglmlaaGreatDoor
open Go.RowKit
structure HX (F:Fence) (P:Program):Prop where
 f:Cw F P
 m:P.follows .mixedOrders=true
structure HS (c:List (DV×DH×Bool)) (o:List (Nat×DV)) (z:List (Nat×Fz)) (v:List Prop):Prop where
 all:Bc v
section
variable {P:Program} {Γ:Ar} {cs:List (DV×DH×Bool)} {os:List (Nat×DV)} {zs:List (Nat×Fz)} {vs:List Prop}
theorem H0:HS [] [] [] []:=⟨trivial⟩
theorem HS.add (q:HS cs os zs vs) {c':List (DV×DH×Bool)} {o':List (Nat×DV)} {z':List (Nat×Fz)} {p:Prop} (h:p):HS c' o' z' (vs++[p]):=⟨Cv.2 ⟨q.all,h,trivial⟩⟩
theorem HS.o (q:HS cs os zs vs) (t:Nat) {d d':DV} (x:AR d d'):HS cs (os++[(t,d')]) zs (vs++[AR d d']):=q.add x
theorem HS.b (q:HS cs os zs vs) (t:Nat) {a b:Bool} (x:a=b):HS cs (os++[(t,.bool b)]) zs (vs++[AR (.bool a) (.bool b)]):=q.add (AR.bool x)
theorem HS.w (q:HS cs os zs vs) (t:Nat) {x:Int} (h:AL x):HS cs (os++[(t,.int .i64 x)]) zs (vs++[AR (.int .i64 (IntKind.i64.wrap x)) (.int .i64 x)]):=q.add (oU h)
theorem HS.g (q:HS cs os zs vs) {p:Prop} (x:p):HS cs os zs (vs++[p]):=q.add x
theorem HS.t (q:HS cs os zs vs):HS cs os zs (vs++[True]):=q.add trivial
theorem HS.c (q:HS cs os zs vs) {f:Nat} {ds:List DV} {h:DH} {d:DV} {h':DH} {e:Bool} (x:ES P Γ f ds h d h' e):HS (cs++[(d,h',e)]) os zs (vs++[ES P Γ f ds h d h' e]):=q.add x
theorem HS.q (q:HS cs os zs vs) {f:Nat} {ds:List DV} {h:DH} {d:DV} {h':DH} {k:Nat} (x:Oc P Γ f ds h d h' k):HS (cs++[(d,h',false)]) os zs (vs++[Oc P Γ f ds h d h' k]):=q.add x
theorem HS.a (q:HS cs os zs vs) (t k m:Nat) {n n':Nat} {f f':Nat -> Nat -> DV} (x:n=n'/\ ∀ i j,i<n -> j<m -> AR (f i j) (f' i j)):HS cs os (zs++[(t,.arr k n' f')]) (vs++[n=n'/\ ∀ i j,i<n -> j<m -> AR (f i j) (f' i j)]):=q.add x
theorem HS.z (q:HS cs os zs vs) (t k:Nat):HS cs os (zs++[(t,.frz k)]) vs:=⟨q.all⟩
theorem HS.k (q:HS cs os zs vs) (t:Nat):HS cs os (zs++[(t,.rws)]) vs:=⟨q.all⟩
end
theorem ES.emC {P:Program} {Γ:Ar} {f:Nat} {ds:List DV} {h:DH} {d:DV} {h':DH} {ext:Bool} (Ez:ES P Γ f ds h d h' ext) (σ:List Nat) (H:DH) (hb:MD σ H.length h.length h'.length=true) (hh:(σ.map fun k=>H.getD k none)=h.map (Eb σ H.length)):ES P Γ f (ds.map (up σ H.length)) H (up σ H.length d) (E0 H σ h') ext:=
 Ez.embedB σ H hb hh rfl
theorem Vj {α:Type} [Inhabited α] (c:α -> List DV) (L:List α) (n m:Nat) (h: ∀ x,(c x).all IR=true/\ m=(c x).length): ∀ i j,i<n -> j<m -> IR (AQ c L i j)=true:=fun i j _ hj=>ur (h _).1 (h _).2 j hj
def frzL:List Nat -> St -> Option (St×List Prop)
 | [],S=>some (S,[])
 | k::ks,S=>match TS k S with
  | some (S',vs)=>match frzL ks S' with
   | some (CH,Bj)=>some (CH,vs++Bj)
   | none=>none
  | none=>none
theorem Az.frzL {L:Nat}: ∀ (ks:List Nat) {S S':St} {vs:List Prop},Proofs.YtkjbblkieglmlaaGreatDoor.frzL ks S=some (S',vs) -> Bc vs -> Az L S S'
 | [],S,S',vs,h,_=>by cases h;exact Az.refl L S
 | k::ks,S,S',vs,h,hv=>by
  simp only [Proofs.YtkjbblkieglmlaaGreatDoor.frzL] at h;split at h
  ·rename_i S1 CG h1;split at h
   ·rename_i S2 Dq h2;cases h;obtain ⟨B0,B7⟩:=Cv.1 hv;exact (Az.frzE k S1 CG h1 B0).trans (Az.frzL ks h2 B7)
   ·cases h
  ·cases h
abbrev Xw:=List Prop×List Prop×List (DV×DH×Bool)×List (Nat×DV)×Bool
def O3 (σ:List Nat) (L:Nat) (w:List Prop) (r:KO×St×List Prop×BH):Xw:=(r.2.2.1,w,r.2.2.2.calls,r.2.2.2.co,Iy σ L r.2.1.h.length)
def Lb (live σ:List Nat) (L:Nat) (ks:List Nat) (r:KO×St×List Prop×BH):Option (KO×List DV×DH×Xw):=match frzL ks (comp live σ r.2.1) with
 | some (S,w)=>some (r.1,S.fr,S.h,O3 σ L w r)
 | none=>none
def kA:KO -> Option Exit
 | .ret=>some .ret
 | .at []=>some .normal
 | .at (.code (.exit i)::k)=>if (IM i k).isNone then some (.exit i) else none
 | _=>none
def I8 (P:Program) (live σ:List Nat) (L:Nat) (ks:List Nat) (fn:Func) (d:DV) (l2:Nat) (r:KO×St×List Prop×BH):Option (Bool×List DV×DH×Xw):=match frzL ks (comp live σ r.2.1) with
 | some (S,w)=>match LW P S fn.results.toList with
  | some rs=>some ((match r.1 with | .ret=>true | .at []=>true | _=>false)&&(decide (S.h.length<=l2)||(S.h.all Vs&&Eo d&&decide (L<=S.h.length))),rs,(if S.h.length<=l2 then S.h else (E2 (List.range L) S).h),O3 σ L w r)
  | none=>none
 | none=>none
def Zd (σ:List Nat) (L:Nat) (r:KO×St×List Prop×BH):Option Exit×DH×Xw:=(kA r.1,(comp [] σ r.2.1).h,O3 σ L [] r)
section
variable {P:Program} {Γ:Ar} {F:Fence} {B:Option Nat} {L:Nat} {Y N:BQ P Γ L} {Q:QY P Γ L} {k k':List KI} {S:St} {fr:List DV} {h' h2:DH} {c:List (DV×DH×Bool)} {o:List (Nat×DV)} {z:List (Nat×Fz)} {v w:List Prop}
theorem ul {live σ ks:List Nat} {r:KO×St×List Prop×BH} {r1:KO} (h:Lb live σ L ks r=some (r1,fr,h',v,w,[],[],true)) (hw:Bc w):r.1=r1/\ r.2.2.1=v/\ Az L r.2.1 ⟨fr,h'⟩:=by
 unfold Lb at h;split at h
 ·rename_i S1 w1 hf;simp only [O3,zA4,zD6] at h;obtain ⟨rfl,rfl,rfl,rfl,rfl,_,_,hs⟩:=h;exact ⟨rfl,rfl,(Az.comp live σ r.2.1 hs).trans (Az.frzL ks hf hw)⟩
 ·cases h
theorem Be.gS (hX:HX F P) (A7:Bi) (n:Nat) (live σ:List Nat) (tg:List (List (Nat×Nat)×St)) (hl:HS c o z v) (ks:List Nat) (hz:HS [] [] [] w) (k':List KI) (fr:List DV) (h':DH)
 (h:(B6 P Γ A7 n k S ⟨c,o,z,tg⟩).bind (Lb live σ L ks)=some (.at k',fr,h',v,w,[],[],true)) (hc:Hr k'=true) (hk:Ap P Γ F B L Y Q k' ⟨fr,h'⟩):Ap P Γ F B L Y Q k S:=by
 cases hr:B6 P Γ A7 n k S ⟨c,o,z,tg⟩ with
 | none=>rw [hr] at h;cases h
 | some r=>
  obtain ⟨r1,S1,v1,o1⟩:=r;rw [hr] at h;obtain ⟨e1,e2,hs⟩:=ul (r:=(r1,S1,v1,o1)) h hz.all;have e1:r1= .at k':=e1;have e2:v1=v:=e2;subst e1 e2;exact FH hX.f hX.m n k S _ _ _ _ _ hr hl.all (Be.le hs hc hk)
theorem Be.el (hX:HX F P) {fn:Func} {d:DV} (A7:Bi) (n:Nat) (live σ:List Nat) (tg:List (List (Nat×Nat)×St)) (hl:HS c o z v) (ks:List Nat) (hz:HS [] [] [] w) (rs:List DV) (le:AR (G9 rs) d)
 (h:(B6 P Γ A7 n k S ⟨c,o,z,tg⟩).bind (I8 P live σ L ks fn d h2.length)=some (true,rs,h2,v,w,[],[],true)):Be P Γ F B L N (DD P fn L d h2) k S:=by
 cases hr:B6 P Γ A7 n k S ⟨c,o,z,tg⟩ with
 | none=>rw [hr] at h;cases h
 | some r=>
  obtain ⟨r1,S1,v1,o1⟩:=r;rw [hr] at h;have h:I8 P live σ L ks fn d h2.length (r1,S1,v1,o1)=some (true,rs,h2,v,w,[],[],true):=h;unfold I8 at h;split at h
  ·rename_i S2 w1 hf;split at h
   ·rename_i Y4 Lp;simp only [O3,zA4,zD6,zAN] at h;obtain ⟨⟨yN,hq⟩,rfl,hh,rfl,rfl,_,_,hs⟩:=h;have hS:Az L S1 S2:=(Az.comp live σ S1 hs).trans (Az.frzL ks hf hz.all)
    have fin: ∀ e,(e= .normal∨e= .ret) -> DD P fn L d h2 e S1:=fun e he=>by
     refine DD.le hS ⟨he,S2,Az.refl _ _,Y4,Lp,?_⟩
     by_cases Ao:S2.h.length<=h2.length
     ·rw [zAE Ao] at hh;exact .inl ⟨le,hh⟩
     ·rw [zAU Ao] at hh;simp only [Ao,decide_false,zEa,zAN,zAx] at hq;exact .inr ⟨NR hq.1.1,le,KD hq.1.2,hq.2,hh⟩
    refine FH hX.f hX.m n k S _ _ _ _ _ hr hl.all ?_;rcases r1 with (_ | ⟨_,_⟩) | _
    ·exact ⟨rfl,fin _ (.inl rfl)⟩
    ·cases yN
    ·exact ⟨rfl,fin _ (.inr rfl)⟩
   ·cases h
  ·cases h
theorem Be.e (hX:HX F P) {fn:Func} {d:DV} (A7:Bi) (n:Nat) (live σ:List Nat) (tg:List (List (Nat×Nat)×St)) (hl:HS c o z v) (ks:List Nat) (hz:HS [] [] [] w)
 (h:(B6 P Γ A7 n k S ⟨c,o,z,tg⟩).bind (fun r=>(I8 P live σ L ks fn d h2.length r).map fun q=>(q.1,G9 q.2.1,q.2.2))=some (true,d,h2,v,w,[],[],true)):Be P Γ F B L N (DD P fn L d h2) k S:=by
 cases hr:B6 P Γ A7 n k S ⟨c,o,z,tg⟩ with
 | none=>rw [hr] at h;cases h
 | some r=>
  rw [hr] at h;have h:(I8 P live σ L ks fn d h2.length r).map (fun q=>(q.1,G9 q.2.1,q.2.2))=some (true,d,h2,v,w,[],[],true):=h;cases hq:I8 P live σ L ks fn d h2.length r with
  | none=>rw [hq] at h;cases h
  | some q=>
   obtain ⟨q1,rs,q3⟩:=q;rw [hq] at h;simp only [zA2,zA4,zD6] at h;obtain ⟨rfl,hd,rfl⟩:=h;exact Be.el hX A7 n live σ tg hl ks hz rs (AR.of_eq hd) (by rw [hr];exact hq)
def Ve (P:Program) (L:Nat) (ks:List Nat) (fn:Func) (d:DV) (l2:Nat) (S:St):Option (Bool×List DV×DH×List Prop):=match frzL ks S with
 | some (S,w)=>match LW P S fn.results.toList with
  | some rs=>some (decide (S.h.length<=l2)||(S.h.all Vs&&Eo d&&decide (L<=S.h.length)),rs,(if S.h.length<=l2 then S.h else (E2 (List.range L) S).h),w)
  | none=>none
 | none=>none
theorem DD.el {fn:Func} {d:DV} {e:Exit} (he:e= .normal∨e= .ret) (ks:List Nat) (hz:HS [] [] [] w) (rs:List DV) (le:AR (G9 rs) d) (h:Ve P L ks fn d h2.length S=some (true,rs,h2,w)):DD P fn L d h2 e S:=by
 unfold Ve at h;split at h
 ·rename_i S2 w1 hf;split at h
  ·rename_i Y4 Lp;simp only [zA4,zD6] at h;obtain ⟨hq,rfl,hh,rfl⟩:=h;refine DD.le (Az.frzL ks hf hz.all) ⟨he,S2,Az.refl _ _,Y4,Lp,?_⟩
   by_cases Ao:S2.h.length<=h2.length
   ·rw [zAE Ao] at hh;exact .inl ⟨le,hh⟩
   ·rw [zAU Ao] at hh;simp only [Ao,decide_false,zEa,zAN,zAx] at hq;exact .inr ⟨NR hq.1.1,le,KD hq.1.2,hq.2,hh⟩
  ·cases h
 ·cases h
theorem DD.e {fn:Func} {d:DV} {e:Exit} (he:e= .normal∨e= .ret) (ks:List Nat) (hz:HS [] [] [] w) (h:(Ve P L ks fn d h2.length S).map (fun q=>(q.1,G9 q.2.1,q.2.2))=some (true,d,h2,w)):DD P fn L d h2 e S:=by
 cases hq:Ve P L ks fn d h2.length S with
 | none=>rw [hq] at h;cases h
 | some q=>
  obtain ⟨q1,rs,q3⟩:=q;rw [hq] at h;simp only [zA2,zA4,zD6] at h;obtain ⟨rfl,hd,rfl⟩:=h;exact DD.el he ks hz rs (AR.of_eq hd) hq
theorem Be.r (hX:HX F P) {ex:List Exit} {i:Nat} {e:Exit} (A7:Bi) (n:Nat) (σ:List Nat) (tg:List (List (Nat×Nat)×St)) (hl:HS c o z v) (he:(Exit.normal::ex)[i]? =some e)
 (h:(B6 P Γ A7 n k S ⟨c,o,z,tg⟩).map (Zd σ L)=some (some e,h2,v,[],[],[],true)):Be P Γ F B L N (Cd L ex i h2) k S:=by
 cases hr:B6 P Γ A7 n k S ⟨c,o,z,tg⟩ with
 | none=>rw [hr] at h;cases h
 | some r=>
  obtain ⟨r1,S1,v1,o1⟩:=r;rw [hr] at h;simp only [zA2,Zd,O3,zA4,zD6] at h;obtain ⟨hk,hh,rfl,_,_,_,hs⟩:=h;have fin:stay N (Cd L ex i h2) e S1 N:=⟨rfl,he,_,Az.comp [] σ S1 hs,hh⟩;refine FH hX.f hX.m n k S _ _ _ _ _ hr hl.all ?_;unfold kA at hk;split at hk
  ·cases hk;exact fin
  ·cases hk;exact fin
  ·rename_i i' k';split at hk
   ·rename_i hp;cases hk;exact Tr.exit (P5 fin k' (Option.isNone_iff_eq_none.1 hp))
   ·cases hk
  ·cases hk
theorem F1.g (hX:HX F P) {Q:Exit -> St -> Prop} {assign body:Code} (A7:Bi) (n:Nat) (live σ:List Nat) (hl:HS c o z v) (fr:List DV) (h':DH)
 (h:(B6 P Γ A7 n [.code assign] S ⟨c,o,z,[]⟩).map (Rr live σ L)=some (.at [],fr,h',v,[],[],true)) (hk: ∀ N2:BQ P Γ L,Be P Γ F B L N2 Q [.code body] ⟨fr,h'⟩):F1 P Γ F B L N Q assign body S:=
 F1.go hX.f hX.m A7 n _ live σ fr h' v h hl.all hk
end
section
variable {P:Program} {Γ:Ar} {L:Nat} {k:List KI} {S:St} {c:List (DV×DH×Bool)} {o:List (Nat×DV)} {z:List (Nat×Fz)} {v:List Prop}
theorem TrI.e {C:Ba P} {Y:BQ P Γ L} (hX:HX Fence.wide P) (A7:Bi) (n:Nat) (hl:HS c o z v)
 (h:(B6 P Γ A7 n k S ⟨c,o,z,[]⟩).map (fun r=>((match r.1 with | .ret=>true | .at []=>true | _=>false),r.2.2.1))=some (true,v)) (hY:Y=C.Y Γ L C.encs.length∨Y=C.X Γ L):Ap P Γ Fence.wide none L Y (C.Q Γ L) k S:=by
 cases hr:B6 P Γ A7 n k S ⟨c,o,z,[]⟩ with
 | none=>rw [hr] at h;cases h
 | some r=>
  obtain ⟨r1,S1,CG,o1⟩:=r;rw [hr] at h;simp only [zA2,zA4,zD6] at h;obtain ⟨h1,rfl⟩:=h;refine FH hX.f hX.m n k S _ _ _ _ _ hr hl.all ?_;rcases r1 with (_ | ⟨_,_⟩) | _
  ·exact ⟨.inl rfl,hY⟩
  ·cases h1
  ·exact ⟨.inr rfl,hY⟩
theorem Ap.y {C:Ba P} {i:Nat} {Q:QY P Γ L} {K:List KI} {ops:Array Oper} (hX:HX Fence.wide P) (p:Nat) (live σ:List Nat) (hl:HS c o z v) {x:List DV} (Px:List DV) (hT:DH) (Py:List DV) (hE:DH)
 (hK:J6 K=some (ops,DF K)) (Au:CP ops=true) (h:(Mb P Γ ops p S ⟨c,o,z,[]⟩).map (Zc live σ L)=some (x,C.l,Px,hT,Py,hE,v,true)) (hx:C.encs[i]? =some x) (hc:Hr (DF K)=true) (bG:Ap P Γ Fence.wide none L (C.Y Γ L (i+1)) Q (DF K) ⟨Px,hT⟩) (bH:Ap P Γ Fence.wide none L (C.X Γ L) Q (DF K) ⟨Py,hE⟩):Ap P Γ Fence.wide none L (C.Y Γ L i) Q K S:=
 Ap.yieldAt hX.f hK Au p _ live σ Px hT Py hE v h hl.all hx hc bG bH
theorem Ap.yE {C:Ba P} {i:Nat} {K:List KI} {ops:Array Oper} (hX:HX Fence.wide P) (p:Nat) (hl:HS c o z v) {x:List DV} (hK:J6 K=some (ops,[])) (Au:CP ops=true)
 (h:(Mb P Γ ops p S ⟨c,o,z,[]⟩).map (fun r=>(r.1,r.2.1,r.2.2.2.2))=some (x,C.l,v)) (hx:C.encs[i]? =some x) (hd:i+1=C.encs.length):Ap P Γ Fence.wide none L (C.Y Γ L i) (C.Q Γ L) K S:=by
 unfold J6 at hK;split at hK
 ·cases hK;cases hr:Mb P Γ ops p S ⟨c,o,z,[]⟩ with
  | none=>rw [hr] at h;cases h
  | some r=>
   obtain ⟨xs,l,ST,SF,CG⟩:=r;rw [hr] at h;simp only [zA2,zA4,zD6] at h;obtain ⟨rfl,rfl,rfl⟩:=h;exact Tr.yield hX.f Au hr hl.all hx ⟨.inl rfl,.inl (by rw [hd])⟩ ⟨.inl rfl,.inr rfl⟩
 ·cases hK
end
section
variable {P:Program} {Γ:Ar} {F:Fence} {B L:Nat} {Y:BQ P Γ L} {Q:QY P Γ L} {fr:List DV} {h:DH} {K:List KI} {a b:Code} {α σ:Type} {l:List α} {H:σ -> DH} {FR:α -> List DV}
theorem Be.rg (Ic:F=Fence.wide∨∃ l,F=Fence.wide.inRound l) (ex:List Exit) (JS:(ex.all fun e=>(Ko e).isSome)=true) (kk t:Nat) (ps:Array Tmp) (enc:α -> List DV) (L':Nat) {f:α -> σ -> Option (σ×Nat)} {s0:σ} {rE:σ×Nat} (hf:DB f l s0=some rE)
 (C7: ∀ (l B:Nat) (N:BQ P Γ L') (x:α) (s:σ) (r:σ×Nat),f x s=some r -> F1 P Γ (Fence.wide.inRound l) (some B) L' N (Cd L' ex r.2 (H r.1)) a b ⟨FR x,H s⟩)
 (hK:M9 K=some (.tmp t,ps,a,b,DF K)) (hg:AY fr (.tmp t)= .it kk) (hk:h[kk]? =some (some (.iter (l.map enc)))) (D6: ∀ x,(enc x).length=ps.size) (hL:Nat.ble L L'=true) (GU:fr.all (C5 L')=true) (h0:h.set kk none=H s0) (Ch:(fun x=>IE fr ps.toList (enc x))=FR)
 (Dh: ∀ e,(Exit.normal::ex)[rE.2]? =some e -> Da P Γ F (some B) L Q (DF K) e ⟨fr,H rE.1⟩ Y):Ap P Γ F (some B) L Y Q K ⟨fr,h⟩:=
 Be.rangeAt Ic ex JS (.tmp t) ps a b (DF K) enc l H FR f hf hK hg hk D6 L' hL GU h0 Ch C7 Dh
theorem Be.rg0 (Ic:F=Fence.wide∨∃ l,F=Fence.wide.inRound l) (kk t:Nat) (ps:Array Tmp) (enc:α -> List DV) (L':Nat) {f:α -> σ -> Option σ} {s0 sE:σ} (hf:Bl f l s0=some sE)
 (C7: ∀ (l B:Nat) (N:BQ P Γ L') (x:α) (s r:σ),f x s=some r -> F1 P Γ (Fence.wide.inRound l) (some B) L' N (Cd L' [] 0 (H r)) a b ⟨FR x,H s⟩)
 (hK:M9 K=some (.tmp t,ps,a,b,DF K)) (hg:AY fr (.tmp t)= .it kk) (hk:h[kk]? =some (some (.iter (l.map enc)))) (D6: ∀ x,(enc x).length=ps.size) (hL:Nat.ble L L'=true) (GU:fr.all (C5 L')=true) (h0:h.set kk none=H s0) (Ch:(fun x=>IE fr ps.toList (enc x))=FR)
 (Dh:Ap P Γ F (some B) L Y Q (DF K) ⟨fr,H sE⟩):Ap P Γ F (some B) L Y Q K ⟨fr,h⟩:=
 Be.rangeAt0 Ic (.tmp t) ps a b (DF K) enc l H FR f hf hK hg hk D6 L' hL GU h0 Ch C7 Dh
end
end Go.Proofs.YtkjbblkieglmlaaGreatDoor
namespace Go.Proofs.YtkjbblkieglmlaaGreatDoor
abbrev zAJ:=@decide_eq_true
abbrev zA5:=@List.mem_cons_of_mem
abbrev zFx:=@List.mem_of_mem_erase
end Go.Proofs.YtkjbblkieglmlaaGreatDoor
namespace Go.Proofs.YtkjbblkieglmlaaGreatDoor
open Go.RowKit
abbrev LK:=Nat×Array MapEntry×Nat
theorem vq {i:Nat}:Vy none i:=fun _ h=>by cases h
theorem vp {i j:Nat} {g:LK} (h:i≠j):Vy (some (i,g)) j:=fun y e=>by cases e;exact h
def Hn {R:Type} [DecidableEq R] (rem:KS) (a:Option R) (f:List Int -> Option R):Option R:=match rem with
 | []=>a
 | x::r=>match f x with
  | none=>none
  | some v=>if r.all (fun y=>decide (f y=some v)) then some v else none
theorem Vl {R:Type} [DecidableEq R] {rem:KS} {a:Option R} {f:List Int -> Option R} {r:R} (h:Hn rem a f=some r):(rem= [] -> a=some r)/\ ∀ y∈rem,f y=some r:=by
 cases rem with
 | nil=>exact ⟨fun _=>h,fun y hy=>absurd hy zEd⟩
 | cons x l=>
  refine ⟨fun e=>absurd e (List.cons_ne_nil x l),?_⟩;unfold Hn at h;simp only at h;cases hx:f x with
  | none=>rw [hx] at h;cases h
  | some v=>
   rw [hx] at h;simp only at h;split at h
   ·rename_i hc;cases h;intro y hy;rcases zA3.1 hy with rfl | hy
    ·exact hx
    ·exact zEZ (zAT.1 hc y hy)
   ·cases h
theorem jF {R:Type} [DecidableEq R] {a:Option R} {f:List Int -> Option R}:Hn [] a f=a:=rfl
theorem us {R:Type} [DecidableEq R] {rem:KS} {a:Option R} {f:List Int -> Option R} {r:R} (hn:rem≠[]) (h: ∀ y∈rem,f y=some r):Hn rem a f=some r:=by
 cases rem with
 | nil=>exact absurd rfl hn
 | cons x l=>
  unfold Hn;simp only [h x (by simp)];rw [zAE];exact zAT.2 fun y hy=>zAJ (h y (by simp [hy]))
theorem sV {P:Program} {w:World} {r bm ID c0 Ab:Nat} {seen:Array Nat} {es:Array MapEntry} (hr:w.heap[r]? =some (.mapIter (some bm) ID seen c0)) (hb:w.heap[bm]? =some (.map es Ab)) (Lt: ∀ x∈es.toList,x.born<ID) (yK:ID<=c0) (ty:TypeId):
 ((leftOf es seen).size=0/\ (Instr.next (.pointer (some ⟨r,0,none⟩)) false ty).run P w= .ok (.tuple #[.bool false]) w)∨
 ∃ e∈(leftOf es seen).toList,∃ w1:World,(w1=w∨w1=w.drew)/\ (Instr.next (.pointer (some ⟨r,0,none⟩)) false ty).run P w= .ok (.tuple #[.bool true,e.key,e.val]) { w1 with heap:=w1.heap.setIfInBounds r (.mapIter (some bm) ID (seen.push e.born) Ab) }:=by
 simp only [Instr.next,getObj,zAr,Sem.run,hr,hb,Result.andThen,next_test_false seen es ID c0 Lt yK,zDJ,zEr];unfold leftOf;have Dv: ∀ x∈(Array.filter (fun e=>!seen.contains e.born) es).toList,x.born<ID:=fun x hx=>Lt x (by simp at hx ⊢;exact hx.1)
 generalize Array.filter (fun e=>!seen.contains e.born) es=L at Dv ⊢
 have e1:L.filter (fun x=>decide (x.born<ID))=L:=Array.filter_eq_self.2 (fun x hx=>by simpa using Dv x (by simpa using hx))
 have e2:L.filter (fun x=>decide (x.born>=ID))= #[]:=by
  rw [Array.filter_eq_empty_iff];intro x hx;have:=Dv x (by simpa using hx);simp;omega
 simp only [e1,e2,Array.append_empty]
 by_cases h0:L.size=0
 ·left;have:L= #[]:=zFA h0;subst this;refine ⟨rfl,?_⟩;simp [choose,Sem.run,Question.forced]
 ·right;have Am:L.isEmpty=false:=by simp [Array.isEmpty,h0]
  simp only [Am,zDJ,zEr,Array.empty_append,Array.size_map]
  have Wl: ∃ (j:Nat) (w1:World),j<L.size/\ (w1=w∨w1=w.drew)/\ (choose (Question.mapNext L.size)).run P w= .ok j w1:=by
   by_cases hf:L.size<=1
   ·exact ⟨0,w,by omega,.inl rfl,by simp [choose,Sem.run,Question.forced,hf]⟩
   ·exact ⟨_,w.drew,zGD _ (by omega),.inr rfl,by
     simp only [choose,Sem.run,Question.forced,zAx,hf,zEr,Question.cut];rfl⟩
  obtain ⟨j,w1,hj,H3,JK⟩:=Wl;have JL:w1.heap[r]? =some (.mapIter (some bm) ID seen c0):=by rcases H3 with rfl | rfl <;> exact hr
  refine ⟨L[j],by simp,w1,H3,?_⟩;simp only [JK,Array.getElem?_map,zA0 hj,zA2,zAr,setObj,Sem.run,JL,Result.andThen];rfl
section
variable {P:Program} {Γ:Ar} {N:Nat -> Prop} {S:St} {ρ:List AI} {a:Act} {w:World} {F:Fence} {B:Option Nat} {L:Nat} {Y:BQ P Γ L} {Q:QY P Γ L}
theorem AS.setMo (R:AS P Γ N S ρ a w) {k:Nat} {x x':MX} {p:AI} (hk:S.h[k]? =some (some (.mo x))) (hp:ρ[k]? =some p) (hO:MV w p x') (hc: ∀ b,p.foot b -> Db w b):
 AS P Γ N ⟨S.fr,S.h.set k (some (.mo x'))⟩ ρ a w/\ A6 S.h ρ w (S.h.set k (some (.mo x'))) ρ w:=
 ⟨⟨R.hr.write hk hp (AP.refl _ _) hc hO,R.fr.out (BU.write trivial hk hp (AP.refl p.foot w))⟩,A6.write hk hp (AP.refl _ _)⟩
theorem E3.relock {p:AI} {n:Nat} {ls:List (Option KS)} {vs:Array Value} (hS:E3 w p n ls none vs) {i:Nat} (hi:(ls.getD i none).isSome=true): ∃ g:LK,E3 w p n ls (some (i,g)) vs:=by
 obtain ⟨mb,g1,g2,g3,es,Ab,g4,_⟩:=hS.has i _ (Pu hi);refine ⟨(mb,es,Ab),{ hS with has:=fun j l hl=>?_ }⟩
 by_cases e:j=i
 ·subst e;have:l=(ls.getD j none).getD []:=by have:=Pu hi;rw [hl] at this;exact zAR (zAR this)
  subst this;exact ⟨mb,g1,g2,g3,es,Ab,g4,fun x hx _=>by cases hx;rfl⟩
 ·obtain ⟨b,k1,k2,k3,H6,c1,k4,_⟩:=hS.has j l hl;exact ⟨b,k1,k2,k3,H6,c1,k4,fun x hx hj=>by cases hx;exact absurd hj.symm e⟩
theorem E3.unlock {p:AI} {n:Nat} {ls:List (Option KS)} {lk:Option (Nat×LK)} {vs:Array Value} (hS:E3 w p n ls lk vs):E3 w p n ls none vs:=
 { hS with has:=fun j l hl=>let ⟨b,k1,k2,k3,H6,c1,k4,_⟩:=hS.has j l hl;⟨b,k1,k2,k3,H6,c1,k4,fun x hx=>by cases hx⟩ }
theorem Tr.lock {c:Code} {j i n:Nat} {ls:List (Option KS)} (hk:S.h[j]? =some (some (.mo (.sets n ls none)))) (hi:(ls.getD i none).isSome=true) (H: ∀ g:LK,Tr P Γ F B L Y c ⟨S.fr,S.h.set j (some (.mo (.sets n ls (some (i,g)))))⟩ Q):Tr P Γ F B L Y c S Q:=fun N ρ a w R y m b=>by
 obtain ⟨p,hp,vs,hS⟩:=R.hr.obj j _ hk;obtain ⟨g,L4⟩:=hS.relock hi;obtain ⟨R',st⟩:=R.setMo hk hp (x':=.sets n ls (some (i,g))) ⟨vs,L4⟩ fun b hb=>hS.lies hb
 exact H g N ρ a w R' (Y.st y R.hr R'.hr st (B8.refl _ _)) m b
def kK:List KI -> Bool
 | .code _::_=>true
 | _=>false
theorem Be.lock {K:List KI} {fr:List DV} {h:DH} (j i n:Nat) {ls:List (Option KS)} (hk:h[j]? =some (some (.mo (.sets n ls none)))) (hi:(ls.getD i none).isSome=true) (hK:kK K=true) (h':LK -> DH) (he:h'=fun g=>h.set j (some (.mo (.sets n ls (some (i,g)))))) (H: ∀ g:LK,Ap P Γ F B L Y Q K ⟨fr,h' g⟩):Ap P Γ F B L Y Q K ⟨fr,h⟩:=by
 subst he;unfold kK at hK;split at hK
 ·exact Tr.lock (S:=⟨fr,h⟩) hk hi H
 ·cases hK
theorem vK (R:AS P Γ N S ρ a w) {m j n n' i:Nat} {ls:List (Option KS)} {g:LK} {rem:KS} {Eh:Option (List Int)} (hm:S.h[m]? =some (some (.mo (.mit n g.1 g.2.1 g.2.2 rem Eh)))) (hj:S.h[j]? =some (some (.mo (.sets n' ls (some (i,g)))))) (hi:(ls.getD i none).isSome=true) {v:Value} (hv:AM (MS N S.h ρ) w (.it m) ρ v) (ty:TypeId):
 (rem= []/\ (Instr.next v false ty).run P w= .ok (.tuple #[.bool false]) w)∨∃ y∈rem,∃ (k u:Value) (w':World) (p:AI),(Instr.next v false ty).run P w= .ok (.tuple #[.bool true,k,u]) w'/\ ρ[m]? =some p/\ AP p.foot w w'/\ MV w' p (.mit n g.1 g.2.1 g.2.2 (rem.erase y) (some y))/\ ∀ b,p.foot b -> Db w' b:=by
 obtain ⟨p,hp,rfl⟩:=hv;obtain ⟨p',BF,h0,h1,h2,seen,h3,h4,h5⟩:=R.hr.obj m _ hm;have:p'=p:=zAR (BF.symm.trans hp);subst this;obtain ⟨q,hq,vs,hS⟩:=R.hr.obj j _ hj;obtain ⟨b,k1,k2,k3,H6,Xh,k4,k5⟩:=hS.has i _ (Pu hi);have k5:=k5 _ rfl rfl;obtain ⟨mb,es,Ab⟩:=g
 have e3:mb=b/\ es=H6/\ Ab=Xh:=by
  have:(mb,es,Ab)=(b,H6,Xh):=k5;simpa using this
 obtain ⟨rfl,rfl,rfl⟩:=e3;simp only at h3 h4 h5;rw [h1];have Lt: ∀ x∈es.toList,x.born<Ab:=k4.born;rcases sV (P:=P) h3 k4.blk Lt (zAp _) ty with ⟨e1,e2⟩ | ⟨e,he,w1,Sq,e2⟩
 ·refine .inl ⟨?_,e2⟩;have:(leftOf es seen)= #[]:=zFA e1;rw [this] at h4;have:=h4.length_eq;simp at this;exact zER this.symm
 ·have hek:e.key∈rem.map BR:=h4.mem_iff.1 (zEI.2 ⟨e,he,rfl⟩);obtain ⟨y,hy,kX⟩:=zEI.1 hek;have hes:e∈es.toList:=by simp [leftOf] at he ⊢;exact he.1
  have yM:p'.blk<w.heap.size:=(zAK.1 h3).1;have xf:w1.heap=w.heap:=by rcases Sq with rfl | rfl <;> rfl
  have hU:AP p'.foot w { w1 with heap:=w1.heap.setIfInBounds p'.blk (.mapIter (some mb) Ab (seen.push e.born) Ab) }:=by
   rw [h2]
   have u1:AP (fun k=>k=p'.blk) w w1:=by
    rcases Sq with rfl | rfl
    ·exact AP.refl _ _
    ·exact AP.ofExt (Aq.toDrew w)
   exact u1.trans (Qf _)
  have H2:({ w1 with heap:=w1.heap.setIfInBounds p'.blk (.mapIter (some mb) Ab (seen.push e.born) Ab) }:World).heap[p'.blk]? =some (.mapIter (some mb) Ab (seen.push e.born) Ab):=by
   show (w1.heap.setIfInBounds _ _)[_]? =_
   simp [xf,yM]
  refine .inr ⟨y,hy,e.key,e.val,_,p',e2,hp,hU,⟨fun x hx=>?_,h1,h2,seen.push e.born,H2,?_,fun x hx=>?_⟩,fun b hb=>?_⟩
  ·rcases hx with hx | hx
   ·exact h0 x (.inl (zFx hx))
   ·have ex:y=x:=zAR hx;subst ex;exact h0 y (.inl hy)
  ·have hl:leftOf es (seen.push e.born)=(leftOf es seen).filter fun x=>x.born != e.born:=by
    unfold leftOf;rw [Array.filter_filter]
    congr 1
    funext x
    simp only [Array.contains_push,Bool.not_or];rw [Bool.and_comm];simp [bne,Bool.beq_comm]
   have Au:((leftOf es seen).toList.map (·.born)).Nodup:=by
    have:((leftOf es seen).toList.map (·.born)).Sublist (es.toList.map (·.born)):=by
     unfold leftOf;rw [Array.toList_filter];exact List.filter_sublist.map _
    exact this.nodup k4.stamps
   have zAQ: ∀ (l:List MapEntry),(l.map (·.born)).Nodup -> e∈l -> (l.map (·.key)).Perm (e.key::((l.filter fun x=>x.born != e.born).map (·.key))):=by
    intro l
    induction l with
    | nil=>intro _ h;cases h
    | cons x l ih=>
     intro hn hx;rw [zET,zF8] at hn
     by_cases kY:x=e
     ·subst kY
      have:(l.filter fun y=>y.born != x.born)=l:=List.filter_eq_self.2 fun y hy=>by
       simp only [zEy,ne_eq];exact fun hc=>hn.1 (by rw [←hc];exact zEI.2 ⟨y,hy,rfl⟩)
      simp [this]
     ·have TC:e∈l:=(zA3.1 hx).resolve_left fun h=>kY h.symm
      have Am:(x.born != e.born)=true:=by
       simp only [zEy,ne_eq];exact fun hc=>hn.1 (by rw [hc];exact zEI.2 ⟨e,TC,rfl⟩)
      rw [List.filter_cons,zAE Am,zET,zET];exact ((ih hn.2 TC).cons x.key).trans (List.Perm.swap e.key x.key _)
   have P1:=zAQ _ Au he;rw [hl,Array.toList_filter];have P2:(rem.map BR).Perm (BR y::(rem.erase y).map BR):=(List.perm_cons_erase hy).map BR;have P3:=P1.symm.trans (h4.trans P2);rw [←kX] at P3;exact List.Perm.cons_inv P3
  ·have ex:y=x:=zAR hx;subst ex;exact ⟨e,hes,kX.symm,by simp⟩
  ·rw [h2] at hb;exact ⟨_,rfl,(),by rw [show b=p'.blk from hb];exact H2⟩
theorem Tr.next (hF:Cw F P) {id:Nat} {ops:Array Oper} (Au:CP ops=true) {o:Oper} {rest:List Oper} (WY:ops.toList=o::rest) {x:Operand} (ho:o.op= .next x false) (hw:Iu ops S o=some true) {m j n n' i:Nat} {ls:List (Option KS)} {g:LK} {rem:KS} {Eh:Option (List Int)} (hx:AY S.fr x= .it m) (hm:S.h[m]? =some (some (.mo (.mit n g.1 g.2.1 g.2.2 rem Eh)))) (hj:S.h[j]? =some (some (.mo (.sets n' ls (some (i,g)))))) (k9:m≠j) (hi:(ls.getD i none).isSome=true)
 (h0:rem= [] -> ∃ S' vs o0 o',DX P Γ ops rest ⟨CX S.fr o.dst (.tup 1 (L1 [.bool false])),(S.h.set j (some (.mo (.sets n' ls none)))).set m none⟩ o0=some (S',vs,o')/\ Bc vs/\ Q .normal S' Y)
 (h1: ∀ y∈rem,∃ S' vs o0 o',DX P Γ ops rest ⟨CX S.fr o.dst (.tup 3 (L1 [.bool true])),S.h.set m (some (.mo (.mit n g.1 g.2.1 g.2.2 (rem.erase y) (some y))))⟩ o0=some (S',vs,o')/\ Bc vs/\ Q .normal S' Y):Tr P Γ F B L Y (.region id ops false) S Q:=fun N ρ a w R y mk b=>by
 refine zFB ?_;rw [WY];have hd: ∀ c,o.op≠.defer c:=fun c e=>by rw [ho] at e;cases e
 have Ew: ∀ o'∈rest,o'∈ops:=fun o' JM=>by
  have:o'∈ops.toList:=by rw [WY];exact zA5 _ JM
  simpa using this
 have CL: ∀ v,(a.put o.dst v).defers=a.defers:=fun v=>by cases ho:o.dst <;> simp [Act.put]
 have rx:=Bg R x;rw [hx] at rx;unfold wpListIn;rw [zAE (He R hw)];have JS:execOp a.eval o=(do pure (.value (←Instr.next (a.eval x) false o.type))):=by unfold execOp;rw [ho]
 have AO:m<S.h.length:=(zAS.1 hm).1;rcases vK R hm hj hi rx o.type with ⟨e1,e2⟩ | ⟨ky,hky,k,u,w',p,e2,hp,hU,hO,hC⟩
 ·obtain ⟨S',vs,o0,o',g1,g2,g3⟩:=h0 e1;obtain ⟨q,hq,oh,hS⟩:=R.hr.obj j _ hj;obtain ⟨R1,DG⟩:=R.setMo hj hq (x':=.sets n' ls none) ⟨oh,hS.unlock⟩ fun b hb=>hS.lies hb
  have R2:AS P Γ N ⟨S.fr,(S.h.set j (some (.mo (.sets n' ls none)))).set m none⟩ ρ a w:=⟨R1.hr.kill m,R1.fr.out (BU.kill m)⟩
  have R3:=GZ R2 o.dst (d:=.tup 1 (L1 [.bool false])) (v:=.tuple #[.bool false]) ⟨#[.bool false],rfl,rfl,fun jj Lx=>by
   have:jj=0:=by omega
   subst this;exact ⟨_,rfl,rfl⟩⟩
  refine Kq hF hd (G:=fun v w2=>v= .tuple #[.bool false]/\ w2=w) (Bb.value (s:=Instr.next (a.eval x) false o.type) JS e2 ⟨rfl,rfl⟩) fun v w2 ⟨hv,So⟩=>?_
  subst hv So;refine JY hF Au rest Ew R3 g1 g2 fun ρ' a' w3 R' st Ca=>?_
  exact Tr.done R y mk b g3 R' ((DG.trans (A6.kill m)).trans st.st) (fun k p _ hp=>st.pl k p hp) (Ca.trans (CL _))
 ·obtain ⟨S',vs,o0,o',g1,g2,g3⟩:=h1 ky hky;have DG:=A6.write (h:=S.h) (o':=.mo (.mit n g.1 g.2.1 g.2.2 (rem.erase ky) (some ky))) hm hp hU;have R1:AS P Γ N ⟨S.fr,S.h.set m (some (.mo (.mit n g.1 g.2.1 g.2.2 (rem.erase ky) (some ky))))⟩ ρ a w':=⟨R.hr.write hm hp hU hC hO,R.fr.out (BU.write trivial hm hp hU)⟩
  have R3:=GZ R1 o.dst (d:=.tup 3 (L1 [.bool true])) (v:=.tuple #[.bool true,k,u]) ⟨#[.bool true,k,u],rfl,rfl,fun jj Lx=>by
   match jj,Lx with
   | 0,_=>exact ⟨_,rfl,rfl⟩
   | 1,_=>exact ⟨_,rfl,trivial⟩
   | 2,_=>exact ⟨_,rfl,trivial⟩⟩
  refine Kq hF hd (G:=fun v w2=>v= .tuple #[.bool true,k,u]/\ w2=w') (Bb.value (s:=Instr.next (a.eval x) false o.type) JS e2 ⟨rfl,rfl⟩) fun v w2 ⟨hv,So⟩=>?_
  subst hv So;refine JY hF Au rest Ew R3 g1 g2 fun ρ' a' w3 R' st Ca=>?_
  exact Tr.done R y mk b g3 R' (DG.trans st.st) (fun k p _ hp=>st.pl k p hp) (Ca.trans (CL _))
def Zl (ops:Array Oper):Operand:=match ops.toList with
 | o::_=>match o.op with
  | .next x _=>x
  | _=>.tmp 0
 | []=>.tmp 0
def Vo (ops:Array Oper):Option Tmp:=match ops.toList with
 | o::_=>o.dst
 | []=>none
def NN (ops:Array Oper):List Oper:=ops.toList.tail
def Zm (ops:Array Oper):Bool:=match ops.toList with
 | o::_=>match o.op with
  | .next _ false=>o.guard.isNone&&CP ops
  | _=>false
 | []=>false
theorem uz {ops:Array Oper} (h:Zm ops=true):CP ops=true/\ ∃ o,ops.toList=o::NN ops/\ o.op= .next (Zl ops) false/\ o.guard=none/\ o.dst=Vo ops:=by
 unfold Zm at h;unfold Zl Vo NN;split at h
 ·rename_i o rest WY;rw [WY];split at h
  ·rename_i x ho;simp only [zAN,Option.isNone_iff_eq_none] at h;refine ⟨h.2,o,rfl,?_,h.1,rfl⟩;simp only [ho]
  ·cases h
 ·cases h
def Vh (live σ:List Nat) (L:Nat) (r:St×List Prop×BH):List DV×DH×List Prop×Bool:=((comp live σ r.1).fr,(comp live σ r.1).h,r.2.1,Iy σ L r.1.h.length)
theorem Ap.nx (hX:HX F P) {K:List KI} {ops:Array Oper} {fr:List DV} {h:DH} (hK:J6 K=some (ops,DF K)) (Du:Zm ops=true) (m j i n:Nat) (ls:List (Option KS)) (g:LK) (rem:KS) (Eh:Option (List Int)) (live σ:List Nat) (mT:List DV) (h0:DH) (σ1:List Nat) (W0:List Int -> List DV) (h1:List Int -> DH)
 (hx:AY fr (Zl ops)= .it m) (hm:h[m]? =some (some (.mo (.mit n g.1 g.2.1 g.2.2 rem Eh)))) (hj:h[j]? =some (some (.mo (.sets n ls (some (i,g)))))) (k9:m≠j) (hi:(ls.getD i none).isSome=true) (hc:Hr (DF K)=true)
 (c0:(DX P Γ ops (NN ops) ⟨CX fr (Vo ops) (.tup 1 (L1 [.bool false])),(h.set j (some (.mo (.sets n ls none)))).set m none⟩ ⟨[],[],[],[]⟩).map (Vh live σ L)=some (mT,h0,[],true))
 (c1: ∀ y,(DX P Γ ops (NN ops) ⟨CX fr (Vo ops) (.tup 3 (L1 [.bool true])),h.set m (some (.mo (.mit n g.1 g.2.1 g.2.2 (rem.erase y) (some y))))⟩ ⟨[],[],[],[]⟩).map (Vh live σ1 L)=some (W0 y,h1 y,[],true))
 (k0:rem= [] -> Ap P Γ F B L Y Q (DF K) ⟨mT,h0⟩) (k1: ∀ y∈rem,Ap P Γ F B L Y Q (DF K) ⟨W0 y,h1 y⟩):Ap P Γ F B L Y Q K ⟨fr,h⟩:=by
 have go: ∀ {S:St} {live σ:List Nat} {Gp:List DV} {h':DH},(DX P Γ ops (NN ops) S ⟨[],[],[],[]⟩).map (Vh live σ L)=some (Gp,h',[],true) -> Ap P Γ F B L Y Q (DF K) ⟨Gp,h'⟩ -> ∃ S' vs o0 o',DX P Γ ops (NN ops) S o0=some (S',vs,o')/\ Bc vs/\ Ap P Γ F B L Y Q (DF K) S':=by
  intro S live σ Gp h' N7 hk;cases hr:DX P Γ ops (NN ops) S ⟨[],[],[],[]⟩ with
  | none=>rw [hr] at N7;cases N7
  | some r=>
   obtain ⟨S1,v1,o1⟩:=r;rw [hr] at N7;simp only [zA2,Vh,zA4,zD6] at N7;obtain ⟨rfl,rfl,rfl,hs⟩:=N7;exact ⟨S1,_,_,_,hr,trivial,Be.le (Az.comp live σ S1 hs) hc hk⟩
 unfold J6 at hK;split at hK
 ·rename_i id NL k';have e:=zAR hK;simp only [DF,zD6,and_true] at e;subst e;obtain ⟨Au,o,q1,q2,q3,q4⟩:=uz Du;exact Tr.next (S:=⟨fr,h⟩) hX.f Au q1 q2 (by unfold Iu;rw [q3]) hx hm hj k9 hi (fun e=>by rw [q4];exact go c0 (k0 e)) (fun y hy=>by rw [q4];exact go (c1 y) (k1 y hy))
 ·cases hK
end
end Go.Proofs.YtkjbblkieglmlaaGreatDoor
namespace Go.Proofs.YtkjbblkieglmlaaGreatDoor
abbrev zAc:=@Nat.lt_succ_iff_lt_or_eq
abbrev zED:=@List.mem_cons_self
end Go.Proofs.YtkjbblkieglmlaaGreatDoor
namespace Go.Proofs.YtkjbblkieglmlaaGreatDoor
open Go.RowKit
def Ae {R:Type} (f:Nat -> Option R) (Q:R -> Prop):Prop:=∃ N,∀ n,N<=n -> ∃ r,f n=some r/\ Q r
def Ev {R:Type} (f:Nat -> Option R) (r:R):Prop:=∃ N,∀ n,N<=n -> f n=some r
section
variable {R T:Type} {f g:Nat -> Option R} {Q Q':R -> Prop} {r:R}
theorem Ev.p (h:Ev f r) (hq:Q r):Ae f Q:=let ⟨N,h⟩:=h;⟨N,fun n hn=>⟨r,h n hn,hq⟩⟩
theorem Ae.ev (h:Ae f Q) (hu: ∀ r r',Q r -> Q r' -> r=r'): ∃ r,Q r/\ Ev f r:=by
 obtain ⟨N,h⟩:=h;obtain ⟨r,h1,h2⟩:=h N (zAp _);refine ⟨r,h2,N,fun n hn=>?_⟩;obtain ⟨r',h3,h4⟩:=h n hn;rw [h3,hu _ _ h4 h2]
theorem Ae.mono (h:Ae f Q) (hq: ∀ r,Q r -> Q' r):Ae f Q':=let ⟨N,h⟩:=h;⟨N,fun n hn=>let ⟨r,h1,h2⟩:=h n hn;⟨r,h1,hq r h2⟩⟩
theorem Ae.step (k:Nat) (h: ∀ n,f (n+k)=g n) (hg:Ae g Q):Ae f Q:=by
 obtain ⟨N,hg⟩:=hg;refine ⟨N+k,fun n hn=>?_⟩;have:=hg (n-k) (by omega);rw [←h,show n-k+k=n by omega] at this;exact this
theorem Ev.step (k:Nat) (h: ∀ n,f (n+k)=g n) (hg:Ev g r):Ev f r:=by
 obtain ⟨N,hg⟩:=hg;refine ⟨N+k,fun n hn=>?_⟩;have:=hg (n-k) (by omega)
 rwa [←h,show n-k+k=n by omega] at this
theorem Ev.now (h: ∀ n,f n=some r):Ev f r:=⟨0,fun n _=>h n⟩
theorem Ev.from (N:Nat) (h: ∀ n,N<=n -> f n=some r):Ev f r:=⟨N,h⟩
theorem Ev.eq {f g:Nat -> Option R} (h:Ev g r) (e: ∀ n,f n=g n):Ev f r:=let ⟨N,h⟩:=h;⟨N,fun n hn=>(e n).trans (h n hn)⟩
theorem Ae.eq {f g:Nat -> Option R} (h:Ae g Q) (e: ∀ n,f n=g n):Ae f Q:=let ⟨N,h⟩:=h;⟨N,fun n hn=>by rw [e];exact h n hn⟩
theorem Ev.bind {a:Nat -> Option T} {x:T} {b:Nat -> T -> Option R} (ha:Ev a x) (hb:Ev (fun n=>b n x) r):Ev (fun n=>(a n).bind (b n)) r:=by
 obtain ⟨N,ha⟩:=ha;obtain ⟨M,hb⟩:=hb;refine ⟨max N M,fun n hn=>?_⟩
 show (a n).bind (b n)=_
 rw [ha n (by omega),zAF];exact hb n (by omega)
theorem Ae.bind {a:Nat -> Option T} {x:T} {b:Nat -> T -> Option R} (ha:Ev a x) (hb:Ae (fun n=>b n x) Q):Ae (fun n=>(a n).bind (b n)) Q:=by
 obtain ⟨N,ha⟩:=ha;obtain ⟨M,hb⟩:=hb;refine ⟨max N M,fun n hn=>?_⟩
 show ∃ r,(a n).bind (b n)=some r/\ _
 rw [ha n (by omega),zAF];exact hb n (by omega)
theorem Ae.all {l:List T} {F:T -> Nat -> Option R} (h: ∀ y∈l,Ae (F y) Q): ∃ N,∀ n,N<=n -> ∀ y∈l,∃ r,F y n=some r/\ Q r:=by
 induction l with
 | nil=>exact ⟨0,fun n _ y hy=>absurd hy zEd⟩
 | cons x l ih=>
  obtain ⟨N,hN⟩:=ih fun y hy=>h y (zA5 _ hy)
  obtain ⟨M,hM⟩:=h x zED;refine ⟨max N M,fun n hn y hy=>?_⟩;rcases zA3.1 hy with rfl | hy
  ·exact hM n (by omega)
  ·exact hN n (by omega) y hy
theorem Ae.range {F:Nat -> Nat -> Option R} {A:Nat -> R -> Prop}: ∀ (k:Nat),(∀ i,i<k -> Ae (F i) (A i)) -> ∃ N,∀ n,N<=n -> ∀ i,i<k -> ∃ r,F i n=some r/\ A i r
 | 0,_=>⟨0,fun n _ i hi=>absurd hi (zAo i)⟩
 | k+1,h=>by
  obtain ⟨N,hN⟩:=Ae.range k fun i hi=>h i (by omega)
  obtain ⟨M,hM⟩:=h k (by omega);refine ⟨max N M,fun n hn i hi=>?_⟩;rcases zAc.1 hi with hi | rfl
  ·exact hN n (by omega) i hi
  ·exact hM n (by omega)
theorem Ae.next [DecidableEq R] {rem:KS} {a:Nat -> Option R} {F:Nat -> List Int -> Option R} (hn:rem≠[]) (h: ∀ y∈rem,Ae (fun n=>F n y) Q) (hu: ∀ r r',Q r -> Q r' -> r=r'):Ae (fun n=>Hn rem (a n) (F n)) Q:=by
 obtain ⟨N,hN⟩:=Ae.all h;refine ⟨N,fun n Pd=>?_⟩;obtain ⟨y0,xc⟩:=List.exists_mem_of_ne_nil rem hn;obtain ⟨r,h1,h2⟩:=hN n Pd y0 xc;refine ⟨r,us hn fun y hy=>?_,h2⟩;obtain ⟨r',h3,h4⟩:=hN n Pd y hy;rw [hu _ _ h2 h4];exact h3
end
end Go.Proofs.YtkjbblkieglmlaaGreatDoor
namespace Go.Proofs.YtkjbblkieglmlaaGreatDoor
open Go.RowKit
def BE {T R:Type} (m:Nat -> T -> Option R) (a b:T):Prop:=∃ N S,∀ n,N<=n -> m (n+S) a=m n b
section
variable {T R:Type} {m:Nat -> T -> Option R} {a b c:T} {r:R} {Q:R -> Prop}
theorem BE.refl:BE m a a:=⟨0,0,fun _ _=>rfl⟩
theorem BE.one (h: ∀ n,m (n+1) a=m n b):BE m a b:=⟨0,1,fun n _=>h n⟩
theorem BE.oneN (N:Nat) (h: ∀ n,N<=n -> m (n+1) a=m n b):BE m a b:=⟨N,1,h⟩
theorem BE.trans (h:BE m a b) (h2:BE m b c):BE m a c:=by
 obtain ⟨N,S,h⟩:=h;obtain ⟨N2,S2,h2⟩:=h2;exact ⟨max N N2,S2+S,fun n hn=>by rw [←zDw,h _ (by omega),h2 _ (by omega)]⟩
theorem BE.ev (h:BE m a b) (h2:Ev (fun n=>m n b) r):Ev (fun n=>m n a) r:=by
 obtain ⟨N,S,h⟩:=h;obtain ⟨M,h2⟩:=h2;refine ⟨max N M+S,fun n hn=>?_⟩;have:=h (n-S) (by omega);rw [show n-S+S=n by omega] at this;exact this.trans (h2 (n-S) (by omega))
theorem BE.pev (h:BE m a b) (h2:Ae (fun n=>m n b) Q):Ae (fun n=>m n a) Q:=by
 obtain ⟨N,S,h⟩:=h;obtain ⟨M,h2⟩:=h2;refine ⟨max N M+S,fun n hn=>?_⟩;have:=h (n-S) (by omega);rw [show n-S+S=n by omega] at this;obtain ⟨r,h3,h4⟩:=h2 (n-S) (by omega);exact ⟨r,this.trans h3,h4⟩
theorem Ev.one (h: ∀ n,m (n+1) a=some r):Ev (fun n=>m n a) r:=⟨1,fun n hn=>by
 obtain ⟨k,rfl⟩: ∃ k,n=k+1:=⟨n-1,by omega⟩;exact h k⟩
theorem Ev.oneN (N:Nat) (h: ∀ n,N<=n -> m (n+1) a=some r):Ev (fun n=>m n a) r:=⟨N+1,fun n hn=>by
 obtain ⟨k,rfl⟩: ∃ k,n=k+1:=⟨n-1,by omega⟩;exact h k (by omega)⟩
end
end Go.Proofs.YtkjbblkieglmlaaGreatDoor
namespace Go.Proofs.YtkjbblkieglmlaaGreatDoor
open Go.RowKit
class HC (F:Fence):Prop where
 x:HX F Tryz.prog
 w:F=Fence.wide∨∃ l,F=Fence.wide.inRound l
instance:HC Fence.wide:=⟨⟨Cw.wide,by kernel_rfl⟩,.inl rfl⟩
instance (l:Nat):HC (Fence.wide.inRound l):=⟨⟨Cw.round l,by kernel_rfl⟩,.inr ⟨l,rfl⟩⟩
abbrev DV.i (x:Int):DV:=.int .i64 x
def AB:Bi:=fun _=>.no
def Er:Nat -> List DV -> List Nat
 | _,[]=>[]
 | i,.any::r=>Er (i+1) r
 | i,_::r=>i::Er (i+1) r
section
variable {F:Fence} {B:Option Nat} {L:Nat} {Y N:BQ Tryz.prog GG L} {Q:QY Tryz.prog GG L} {k k':List KI} {S:St} {fr:List DV} {h' h2:DH} {c:List (DV×DH×Bool)} {o:List (Nat×DV)} {z:List (Nat×Fz)} {v w:List Prop}
theorem gz [hX:HC F] (A7:Bi) (σ:List Nat) (hl:HS c o z v) (ks:List Nat) (hz:HS [] [] [] w) (k':List KI) (fr:List DV) (h':DH) (hk:Ap Tryz.prog GG F B L Y Q k' ⟨fr,h'⟩) (tg:List (List (Nat×Nat)×St):=[])
 (h:(B6 Tryz.prog GG A7 400 k S ⟨c,o,z,tg⟩).bind (Lb (Er 0 fr) σ L ks)=some (.at k',fr,h',v,w,[],[],true):=by kernel_rfl) (hc:Hr k'=true:=by kernel_rfl):Ap Tryz.prog GG F B L Y Q k S:=
 Be.gS hX.x A7 400 (Er 0 fr) σ tg hl ks hz k' fr h' h hc hk
theorem gs [hX:HC F] (A7:Bi) (σ:List Nat) (hl:HS c o z v) (k':List KI) (fr:List DV) (h':DH) (hk:Ap Tryz.prog GG F B L Y Q k' ⟨fr,h'⟩) (tg:List (List (Nat×Nat)×St):=[])
 (h:(B6 Tryz.prog GG A7 400 k S ⟨c,o,z,tg⟩).bind (Lb (Er 0 fr) σ L [])=some (.at k',fr,h',v,[],[],[],true):=by kernel_rfl) (hc:Hr k'=true:=by kernel_rfl):Ap Tryz.prog GG F B L Y Q k S:=
 Be.gS hX.x A7 400 (Er 0 fr) σ tg hl [] H0 k' fr h' h hc hk
theorem gg [hX:HC F] (A7:Bi) (σ:List Nat) (hl:HS c o z v) (hk:Ap Tryz.prog GG F B L Y Q k' ⟨fr,h'⟩) (tg:List (List (Nat×Nat)×St):=[])
 (h:(B6 Tryz.prog GG A7 400 k S ⟨c,o,z,tg⟩).bind (Lb (Er 0 fr) σ L [])=some (.at k',fr,h',v,[],[],[],true):=by kernel_rfl) (hc:Hr k'=true:=by kernel_rfl):Ap Tryz.prog GG F B L Y Q k S:=
 Be.gS hX.x A7 400 (Er 0 fr) σ tg hl [] H0 k' fr h' h hc hk
theorem el [hX:HC F] {fn:Func} {d:DV} (A7:Bi) (live σ:List Nat) (hl:HS c o z v) (ks:List Nat) (hz:HS [] [] [] w) (rs:List DV) (le:AR (G9 rs) d) (tg:List (List (Nat×Nat)×St):=[])
 (h:(B6 Tryz.prog GG A7 400 k S ⟨c,o,z,tg⟩).bind (I8 Tryz.prog live σ L ks fn d h2.length)=some (true,rs,h2,v,w,[],[],true):=by kernel_rfl):Be Tryz.prog GG F B L N (DD Tryz.prog fn L d h2) k S:=
 Be.el hX.x A7 400 live σ tg hl ks hz rs le h
theorem ez [hX:HC F] {fn:Func} {d:DV} (A7:Bi) (live σ:List Nat) (hl:HS c o z v) (ks:List Nat) (hz:HS [] [] [] w) (tg:List (List (Nat×Nat)×St):=[])
 (h:(B6 Tryz.prog GG A7 400 k S ⟨c,o,z,tg⟩).bind (fun r=>(I8 Tryz.prog live σ L ks fn d h2.length r).map fun q=>(q.1,G9 q.2.1,q.2.2))=some (true,d,h2,v,w,[],[],true):=by kernel_rfl):Be Tryz.prog GG F B L N (DD Tryz.prog fn L d h2) k S:=
 Be.e hX.x A7 400 live σ tg hl ks hz h
theorem ee [hX:HC F] {fn:Func} {d:DV} (A7:Bi) (live σ:List Nat) (hl:HS c o z v) (tg:List (List (Nat×Nat)×St):=[])
 (h:(B6 Tryz.prog GG A7 400 k S ⟨c,o,z,tg⟩).bind (fun r=>(I8 Tryz.prog live σ L [] fn d h2.length r).map fun q=>(q.1,G9 q.2.1,q.2.2))=some (true,d,h2,v,[],[],[],true):=by kernel_rfl):Be Tryz.prog GG F B L N (DD Tryz.prog fn L d h2) k S:=
 Be.e hX.x A7 400 live σ tg hl [] H0 h
theorem rr [hX:HC F] {ex:List Exit} {i:Nat} {e:Exit} (A7:Bi) (σ:List Nat) (he:(Exit.normal::ex)[i]? =some e) (hl:HS c o z v) (tg:List (List (Nat×Nat)×St):=[])
 (h:(B6 Tryz.prog GG A7 400 k S ⟨c,o,z,tg⟩).map (Zd σ L)=some (some e,h2,v,[],[],[],true):=by kernel_rfl):Be Tryz.prog GG F B L N (Cd L ex i h2) k S:=
 Be.r hX.x A7 400 σ tg hl he h
theorem ag [hX:HC F] {Q:Exit -> St -> Prop} {assign body:Code} (A7:Bi) (σ:List Nat) (hl:HS c o z v) (fr:List DV) (h':DH) (hk: ∀ N2:BQ Tryz.prog GG L,Be Tryz.prog GG F B L N2 Q [.code body] ⟨fr,h'⟩)
 (h:(B6 Tryz.prog GG A7 400 [.code assign] S ⟨c,o,z,[]⟩).map (Rr (Er 0 fr) σ L)=some (.at [],fr,h',v,[],[],true):=by kernel_rfl):F1 Tryz.prog GG F B L N Q assign body S:=
 F1.g hX.x A7 400 (Er 0 fr) σ hl fr h' h hk
theorem rd {n m:Nat} (hm:n+1<=m) (h: ∀ m,n<=m -> Ap Tryz.prog GG F B L Y Q (d7 m k) S) (hk:Nb k=true:=by kernel_rfl):Ap Tryz.prog GG F B L Y Q (A3 m k) S:=Be.round hm hk h
theorem en (m:Nat) (h:Ap Tryz.prog GG F B L Y Q (A3 m k) S) (hk:Nb k=true:=by kernel_rfl):Ap Tryz.prog GG F B L Y Q k S:=Be.enter m hk h
end
theorem eu {f:Nat} {ds:List DV} {h:DH} {d:DV} {h':DH} {ext:Bool} (Ez:ES Tryz.prog GG f ds h d h' ext) (σ:List Nat) (H:DH) (k:Nat) (hb:MD σ H.length h.length h'.length=true:=by kernel_rfl) (hk:σ.all (fun j=>Nat.ble k j)=true:=by kernel_rfl) (hh:(σ.map fun k=>H.getD k none)=h.map (Eb σ H.length):=by kernel_rfl):Oc Tryz.prog GG f (ds.map (up σ H.length)) H (up σ H.length d) (E0 H σ h') k:=Ez.embedU σ H k hb hk hh
theorem em {f:Nat} {ds:List DV} {h:DH} {d:DV} {h':DH} {ext:Bool} (Ez:ES Tryz.prog GG f ds h d h' ext) (σ:List Nat) (H:DH) (hb:MD σ H.length h.length h'.length=true:=by kernel_rfl) (hh:(σ.map fun k=>H.getD k none)=h.map (Eb σ H.length):=by kernel_rfl):ES Tryz.prog GG f (ds.map (up σ H.length)) H (up σ H.length d) (E0 H σ h') ext:=ES.emC Ez σ H hb hh
theorem fb {f:Nat} {ds:List DV} {d:DV} (h0:ES Tryz.prog GG f ds [] d [] true) (h:DH) (D8:ds.all Eo=true:=by kernel_rfl):ES Tryz.prog GG f ds h d h true:=ES.frameB h0 h D8
theorem sb {f:Nat} (ds:List DV) {Dw:List DV} {d:DV} (h0:ES Tryz.prog GG f Dw [] d [] true) (h:DH) (hs:MN h ds Dw) (hd:U1 d=true:=by kernel_rfl):ES Tryz.prog GG f ds h d h true:=ES.snapB h0 h hs hd
theorem ot {f:Nat} {fn:Func} {ds:List DV} {h:DH} {d:DV} {h':DH} {ext:Bool} (hf:Tryz.prog.funcs[f]? =some fn) (H: ∀ (B:Nat) (N:BQ Tryz.prog GG h.length),Be Tryz.prog GG Fence.wide (some B) h.length N (DD Tryz.prog fn h.length d h') (start fn) ⟨ds++List.replicate (fn.ntmps-ds.length) .any,h⟩)
 (hb:fn.body.isSome=true:=by kernel_rfl) (Ns:(fn.name== "runtime.NumGoroutine")=false:=by kernel_rfl) (Sy:h'.all Vs=true:=by kernel_rfl) (JR:(!ext||h.isEmpty)=true:=by kernel_rfl):ES Tryz.prog GG f ds h d h' ext:=
 ES.of_trk hf hb Ns (NR Sy) (fun e=>by subst e;simpa using JR) H
section
variable {F:Fence} {B L:Nat} {Y:BQ Tryz.prog GG L} {Q:QY Tryz.prog GG L} {fr:List DV} {h:DH} {K:List KI} {a b:Code} {α σ:Type} {l:List α} {H:σ -> DH} {FR:α -> List DV}
theorem rx [hX:HC F] (ex:List Exit) (kk t:Nat) (ps:Array Tmp) (enc:α -> List DV) (L':Nat) {f:α -> σ -> Option (σ×Nat)} {s0:σ} {rE:σ×Nat} (hf:DB f l s0=some rE)
 (C7: ∀ (l B:Nat) (N:BQ Tryz.prog GG L') (x:α) (s:σ) (r:σ×Nat),f x s=some r -> F1 Tryz.prog GG (Fence.wide.inRound l) (some B) L' N (Cd L' ex r.2 (H r.1)) a b ⟨FR x,H s⟩)
 (Dh: ∀ e,(Exit.normal::ex)[rE.2]? =some e -> Da Tryz.prog GG F (some B) L Q (DF K) e ⟨fr,H rE.1⟩ Y) (JS:(ex.all fun e=>(Ko e).isSome)=true:=by kernel_rfl)
 (hK:M9 K=some (.tmp t,ps,a,b,DF K):=by kernel_rfl) (hg:AY fr (.tmp t)= .it kk:=by kernel_rfl) (hk:h[kk]? =some (some (.iter (l.map enc))):=by kernel_rfl) (D6: ∀ x,(enc x).length=ps.size:=by exact fun _=>rfl) (hL:Nat.ble L L'=true:=by kernel_rfl) (GU:fr.all (C5 L')=true:=by kernel_rfl) (h0:h.set kk none=H s0:=by kernel_rfl) (Ch:(fun x=>IE fr ps.toList (enc x))=FR:=by kernel_rfl):Ap Tryz.prog GG F (some B) L Y Q K ⟨fr,h⟩:=
 Be.rg hX.w ex JS kk t ps enc L' hf C7 hK hg hk D6 hL GU h0 Ch Dh
theorem r0 [hX:HC F] (kk t:Nat) (ps:Array Tmp) (enc:α -> List DV) (L':Nat) {f:α -> σ -> Option σ} {s0 sE:σ} (hf:Bl f l s0=some sE)
 (C7: ∀ (l B:Nat) (N:BQ Tryz.prog GG L') (x:α) (s r:σ),f x s=some r -> F1 Tryz.prog GG (Fence.wide.inRound l) (some B) L' N (Cd L' [] 0 (H r)) a b ⟨FR x,H s⟩)
 (Dh:Ap Tryz.prog GG F (some B) L Y Q (DF K) ⟨fr,H sE⟩)
 (hK:M9 K=some (.tmp t,ps,a,b,DF K):=by kernel_rfl) (hg:AY fr (.tmp t)= .it kk:=by kernel_rfl) (hk:h[kk]? =some (some (.iter (l.map enc))):=by kernel_rfl) (D6: ∀ x,(enc x).length=ps.size:=by exact fun _=>rfl) (hL:Nat.ble L L'=true:=by kernel_rfl) (GU:fr.all (C5 L')=true:=by kernel_rfl) (h0:h.set kk none=H s0:=by kernel_rfl) (Ch:(fun x=>IE fr ps.toList (enc x))=FR:=by kernel_rfl):Ap Tryz.prog GG F (some B) L Y Q K ⟨fr,h⟩:=
 Be.rg0 hX.w kk t ps enc L' hf C7 hK hg hk D6 hL GU h0 Ch Dh
end
abbrev Yd (L:Nat):=BQ Tryz.prog GG L
abbrev EQ:=ES Tryz.prog GG
abbrev FQ:=DD Tryz.prog
abbrev TW (B:Nat) {L:Nat} (N:Yd L) (Q:Exit -> St -> Prop) (k:List KI) (S:St):Prop:=Be Tryz.prog GG Fence.wide (some B) L N Q k S
abbrev TA (l B:Nat) {L:Nat} (N:Yd L) (Q:Exit -> St -> Prop) (fn:Func) (t:Nat) (S:St):Prop:=F1 Tryz.prog GG (Fence.wide.inRound l) (some B) L N Q (tN fn t) (VF fn t) S
abbrev Al {X R:Type} (m:Nat -> X -> Option R) (T:Nat -> R -> X -> Prop):Prop:=∀ n x r,m n x=some r -> T n r x
theorem ia {X R:Type} {m:Nat -> X -> Option R} {T:Nat -> R -> X -> Prop} (h0: ∀ x,m 0 x=none) (h: ∀ n,(∀ x r,m n x=some r -> T n r x) -> ∀ x r,m (n+1) x=some r -> T (n+1) r x):Al m T
 | 0,x,_,e=>by rw [h0 x] at e;cases e
 | n+1,x,r,e=>h n (ia h0 h n) x r e
/-A proof in eD shape of oe was read off:oe holds of each way on,eD hints gathered so Fe. -/
def Gt {R:Type} (T:R -> Prop) (c:List (DV×DH×Bool)) (o:List (Nat×DV)) (z:List (Nat×Fz)) (v:List Prop) (A:Option R):Prop:=HS c o z v -> ∀ r,A=some r -> T r
section
variable {R R':Type} {T:R -> Prop} {c:List (DV×DH×Bool)} {o:List (Nat×DV)} {z:List (Nat×Fz)} {v:List Prop} {A A':Option R} {r0:R} {b b':Bool} {p q:Prop} {f:Nat} {ds:List DV} {h h':DH} {d d':DV} {e:Bool} {xi:Int}
theorem gO {F:Fence} {B:Option Nat} {L:Nat} {Y:Yd L} {Q:R -> QY Tryz.prog GG L} {k:List KI} {S:St} (t:Gt (fun r=>Ap Tryz.prog GG F B L Y (Q r) k S) [] [] [] [] A): ∀ r,A=some r -> Ap Tryz.prog GG F B L Y (Q r) k S:=t H0
theorem gT (t:Gt T [] [] [] [] A): ∀ r,A=some r -> T r:=t H0
theorem rO (t:Gt T [] [] [] [] A):Gt T c o z v A:=fun _=>t H0
theorem nO:Gt T c o z v none:=fun _ _ h=>by cases h
theorem lF (x:HS c o z v -> T r0):Gt T c o z v (some r0):=fun p _ h=>zAR h▸x p
theorem bn (x:b=true -> Gt T c o z v A) (y:b=false -> Gt T c o z v A'):Gt T c o z v (bif b then A else A'):=fun p r h=>(Br h).elim (fun h=>x h.1 p r h.2) (fun h=>y h.1 p r h.2)
theorem bj (t:Nat) (x:b=true -> Gt T c (o++[(t,.bool true)]) z (v++[AR (.bool b) (.bool true)]) A) (y:b=false -> Gt T c (o++[(t,.bool false)]) z (v++[AR (.bool b) (.bool false)]) A'):Gt T c o z v (bif b then A else A'):=bn (fun h p=>x h (p.b t h)) (fun h p=>y h (p.b t h))
theorem bi (t:Nat) (x:Gt T c (o++[(t,.bool true)]) z (v++[AR (.bool b) (.bool true)]) A) (y:Gt T c (o++[(t,.bool false)]) z (v++[AR (.bool b) (.bool false)]) A'):Gt T c o z v (bif b then A else A'):=bj t (fun _=>x) (fun _=>y)
theorem gn {_:Decidable p} (x:p -> Gt T c o z v A):Gt T c o z v (if p then A else none):=fun w r h=>x (Bs h).1 w r (Bs h).2
theorem gi {_:Decidable p} (x:Gt T c o z (v++[p]) A):Gt T c o z v (if p then A else none):=gn fun g w=>x (w.g g)
theorem gc {_:Decidable p} {_:Decidable q} (x:Gt T c o z v (if p then (if q then A else none) else none)):Gt T c o z v (if p/\ q then A else none):=fun w r h=>x w r (by obtain ⟨⟨hp,hq⟩,h⟩:=Bs h;rw [zAE hp,zAE hq];exact h)
theorem gw {_:Decidable (AL xi)} (t:Nat) (x:Gt T c (o++[(t,.int .i64 xi)]) z (v++[AR (.int .i64 (IntKind.i64.wrap xi)) (.int .i64 xi)]) A):Gt T c o z v (if AL xi then A else none):=gn fun g w=>x (w.w t g)
theorem cn {F:Option R'} {A:R' -> Option R} (x: ∀ y,F=some y -> Gt T c o z v (A y)):Gt T c o z v (F.bind A):=fun w r h=>let ⟨y,hy,h⟩:=FP h;x y hy w r h
theorem cf {F:Option R'} {A:R' -> Option R} {d:R' -> DV} (k: ∀ {y},F=some y -> ES Tryz.prog GG f ds [] (d y) [] true) (h:DH) (x: ∀ y,Gt T (c++[(d y,h,true)]) o z (v++[ES Tryz.prog GG f ds h (d y) h true]) (A y)) (D8:ds.all Eo=true:=by kernel_rfl):Gt T c o z v (F.bind A):=cn fun y hy w=>x y (w.c (fb (k hy) h D8))
theorem ce {F:Option R'} {A:R' -> Option R} {d:R' -> DV} {h':R' -> DH} (k: ∀ {y},F=some y -> ES Tryz.prog GG f ds h (d y) (h' y) e) (σ:List Nat) (H:DH) (x: ∀ y,Gt T (c++[(up σ H.length (d y),E0 H σ (h' y),e)]) o z (v++[ES Tryz.prog GG f (ds.map (up σ H.length)) H (up σ H.length (d y)) (E0 H σ (h' y)) e]) (A y)) (hb: ∀ y,MD σ H.length h.length (h' y).length=true:=by intro;kernel_rfl) (hh:(σ.map fun k=>H.getD k none)=h.map (Eb σ H.length):=by kernel_rfl):Gt T c o z v (F.bind A):=cn fun y hy w=>x y (w.c (em (k hy) σ H (hb y) hh))
theorem jb (t:Nat) (g:b=b') (x:Gt T c (o++[(t,.bool b')]) z (v++[AR (.bool b) (.bool b')]) A):Gt T c o z v A:=fun w=>x (w.b t g)
theorem jw (t:Nat) (g:AL xi) (x:Gt T c (o++[(t,.int .i64 xi)]) z (v++[AR (.int .i64 (IntKind.i64.wrap xi)) (.int .i64 xi)]) A):Gt T c o z v A:=fun w=>x (w.w t g)
theorem jg (g:p) (x:Gt T c o z (v++[p]) A):Gt T c o z v A:=fun w=>x (w.g g)
theorem jt (x:Gt T c o z (v++[True]) A):Gt T c o z v A:=fun w=>x w.t
theorem jo (t:Nat) (g:AR d d') (x:Gt T c (o++[(t,d')]) z (v++[AR d d']) A):Gt T c o z v A:=fun w=>x (w.o t g)
theorem jc (g:ES Tryz.prog GG f ds h d h' e) (x:Gt T (c++[(d,h',e)]) o z (v++[ES Tryz.prog GG f ds h d h' e]) A):Gt T c o z v A:=fun w=>x (w.c g)
theorem jq {k:Nat} (g:Oc Tryz.prog GG f ds h d h' k) (x:Gt T (c++[(d,h',false)]) o z (v++[Oc Tryz.prog GG f ds h d h' k]) A):Gt T c o z v A:=fun w=>x (w.q g)
theorem ja (t k m:Nat) {n n':Nat} {f f':Nat -> Nat -> DV} (g:n=n'/\ ∀ i j,i<n -> j<m -> AR (f i j) (f' i j)) (x:Gt T c o (z++[(t,.arr k n' f')]) (v++[n=n'/\ ∀ i j,i<n -> j<m -> AR (f i j) (f' i j)]) A):Gt T c o z v A:=fun w=>x (w.a t k m g)
theorem jz (t k:Nat) (x:Gt T c o (z++[(t,.frz k)]) v A):Gt T c o z v A:=fun w=>x (w.z t k)
theorem jk (t:Nat) (x:Gt T c o (z++[(t,.rws)]) v A):Gt T c o z v A:=fun w=>x (w.k t)
end
section
variable {R:Type} {c:List (DV×DH×Bool)} {o:List (Nat×DV)} {z:List (Nat×Fz)} {v:List Prop} {A:Option R} {r0:R} {F:Fence} {B:Option Nat} {L:Nat} {Y N:BQ Tryz.prog GG L} {k k':List KI} {S:St} {fr:List DV} {h':DH}
theorem lG [hX:HC F] (A7:Bi) (σ:List Nat) {Q:R -> QY Tryz.prog GG L} (hk: ∀ {r},A=some r -> Ap Tryz.prog GG F B L Y (Q r) k' ⟨fr,h'⟩) (tg:List (List (Nat×Nat)×St):=[])
 (h:(B6 Tryz.prog GG A7 400 k S ⟨c,o,z,tg⟩).bind (Lb (Er 0 fr) σ L [])=some (.at k',fr,h',v,[],[],[],true):=by kernel_rfl) (hc:Hr k'=true:=by kernel_rfl):Gt (fun r=>Ap Tryz.prog GG F B L Y (Q r) k S) c o z v A:=
 fun p _ e=>gg A7 σ p (hk e) tg h hc
theorem lN [hX:HC F] {m:Nat} (A7:Bi) (σ:List Nat) {Q:R -> QY Tryz.prog GG L} (hk: ∀ {r},A=some r -> Ap Tryz.prog GG F B L Y (Q r) (A3 m k') ⟨fr,h'⟩) (tg:List (List (Nat×Nat)×St):=[])
 (h:(B6 Tryz.prog GG A7 400 k S ⟨c,o,z,tg⟩).bind (Lb (Er 0 fr) σ L [])=some (.at k',fr,h',v,[],[],[],true):=by kernel_rfl) (hc:Hr k'=true:=by kernel_rfl) (hm:Nb k'=true:=by kernel_rfl):Gt (fun r=>Ap Tryz.prog GG F B L Y (Q r) k S) c o z v A:=
 lG A7 σ (fun e=>en m (hk e) hm) tg h hc
theorem lE [hX:HC F] {fn:Func} {D:R -> DV} {E:R -> DH} (A7:Bi) (live σ:List Nat) (tg:List (List (Nat×Nat)×St):=[])
 (h:(B6 Tryz.prog GG A7 400 k S ⟨c,o,z,tg⟩).bind (fun r=>(I8 Tryz.prog live σ L [] fn (D r0) (E r0).length r).map fun q=>(q.1,G9 q.2.1,q.2.2))=some (true,D r0,E r0,v,[],[],[],true):=by kernel_rfl):Gt (fun r=>Be Tryz.prog GG F B L N (DD Tryz.prog fn L (D r) (E r)) k S) c o z v (some r0):=
 lF fun p=>ee A7 live σ p tg h
end
end Go.Proofs.YtkjbblkieglmlaaGreatDoor
namespace Go.Proofs.YtkjbblkieglmlaaGreatDoor
abbrev zEB:=@Nat.le_of_succ_le
end Go.Proofs.YtkjbblkieglmlaaGreatDoor
namespace Go.Proofs.YtkjbblkieglmlaaGreatDoor
open Go.RowKit
set_option maxRecDepth 100000
set_option maxHeartbeats 40000000
inductive WK where
 | l1 (x8:Int)
def aP (n:Nat) (self:WK -> Option Int) (s_:List Int) (v:Int) (x8:Int):Option Int:=
 bif (decide (x8<(s_.length:Int))) then
  if 0<=x8/\ x8<(s_.length:Int) then
   bif (v==(s_.getD ((x8).toNat) 0)) then
    some x8
   else
    if AL (x8+1) then
     self (.l1 (x8+1))
    else none
  else none
 else
  some (-1)
def kT (n:Nat) (self:WK -> Option Int) (s_:List Int) (v:Int):Option Int:=
 self (.l1 0)
def Nf (s_:List Int) (v:Int):Nat -> WK -> Option Int
 | 0,_=>none
 | n+1,.l1 x8=>aP n (Nf s_ v n) s_ v x8
def WL (n:Nat) (s_:List Int) (v:Int):Option Int:=kT n (Nf s_ v n) s_ v
def xL (n B:Nat) (N:Yd 0) (s_:List Int) (v:Int) (r:Int):WK -> Prop
 | .l1 x8=>∀ m0:Nat,n<=m0 -> TW B N (FQ Tryz.f129 0 (.i r) []) (A3 m0 (BB (AW Tryz.f129) 0 [])) ⟨AG 19 [(0,.ints s_),(1,.i v),(7,.i (s_.length:Int)),(8,.i x8)],[]⟩
theorem xM (B:Nat) (N:Yd 0) (s_:List Int) (v:Int):Al (Nf s_ v) (xL · B N s_ v):=ia (fun _=>rfl) fun n AJ pt r h=>by
 cases pt
 case l1 x8=>
  intro m0 AE;refine rd AE fun m0 AE=>?_
  revert r;apply gO;exact bi 9 (gi (bi 16 (lE AB [4] []) (gw 18 (lG AB [] (AJ _ _ · m0 AE))))) (lE AB [4] [])
theorem xK {n:Nat} {s_:List Int} {v:Int} {r:Int} (h:WL n s_ v=some r):EQ 129 [.ints s_,.i v] [] (.i r) [] true:=by
 refine ot Tryz.func129 fun B N=>?_
 revert r;apply gO;exact lN AB [] ((xM B N s_ v n) _ _ · n Nat.le.refl)
inductive WM where
 | l1 (x8:Int)
def Sk (n:Nat) (self:WM -> Option Int) (s_:List Bool) (v:Bool) (x8:Int):Option Int:=
 bif (decide (x8<(s_.length:Int))) then
  if 0<=x8/\ x8<(s_.length:Int) then
   bif (v==(s_.getD ((x8).toNat) false)) then
    some x8
   else
    if AL (x8+1) then
     self (.l1 (x8+1))
    else none
  else none
 else
  some (-1)
def xO (n:Nat) (self:WM -> Option Int) (s_:List Bool) (v:Bool):Option Int:=
 self (.l1 0)
def KQ (s_:List Bool) (v:Bool):Nat -> WM -> Option Int
 | 0,_=>none
 | n+1,.l1 x8=>Sk n (KQ s_ v n) s_ v x8
def WN (n:Nat) (s_:List Bool) (v:Bool):Option Int:=xO n (KQ s_ v n) s_ v
def xP (n B:Nat) (N:Yd 0) (s_:List Bool) (v:Bool) (r:Int):WM -> Prop
 | .l1 x8=>∀ m0:Nat,n<=m0 -> TW B N (FQ Tryz.f177 0 (.i r) []) (A3 m0 (BB (AW Tryz.f177) 0 [])) ⟨AG 19 [(0,.bools s_),(1,.bool v),(7,.i (s_.length:Int)),(8,.i x8)],[]⟩
theorem xQ (B:Nat) (N:Yd 0) (s_:List Bool) (v:Bool):Al (KQ s_ v) (xP · B N s_ v):=ia (fun _=>rfl) fun n AJ pt r h=>by
 cases pt
 case l1 x8=>
  intro m0 AE;refine rd AE fun m0 AE=>?_
  revert r;apply gO;exact bi 9 (gi (bi 16 (lE AB [4] []) (gw 18 (lG AB [] (AJ _ _ · m0 AE))))) (lE AB [4] [])
theorem xN {n:Nat} {s_:List Bool} {v:Bool} {r:Int} (h:WN n s_ v=some r):EQ 177 [.bools s_,.bool v] [] (.i r) [] true:=by
 refine ot Tryz.func177 fun B N=>?_
 revert r;apply gO;exact lN AB [] ((xQ B N s_ v n) _ _ · n Nat.le.refl)
def cX (n:Nat) (s_:List Int) (v:Int):Option Bool:=
 (WL n s_ v).bind fun y1=>
  some (decide (y1>=0))
def MI (n:Nat) (s_:List Int) (v:Int):Option Bool:=cX n s_ v
theorem nM {n:Nat} {s_:List Int} {v:Int} {r:Bool} (h:MI n s_ v=some r):EQ 100 [.ints s_,.i v] [] (.bool r) [] true:=by
 unfold MI cX at h;refine ot Tryz.func100 fun B N=>?_
 revert r;apply gO;exact cf xK [] fun _=>lE AB [4] []
theorem rt:Av (Ah Tryz.f27 6) [] (List.range 9) []:=by unfold Av;kernel_rfl
def Q9:Bi:=fun i=>match i with
 | 6=>.ord [] (List.range 9) []
 | _=>.no
inductive XI where
 | l1 (x13:Int)
def Ta (n:Nat) (self:XI -> Option Bool) (EO Em:List Int) (x13:Int):Option Bool:=
 bif (decide (x13<(EO.length:Int))) then
  if (0<=x13/\ x13<(EO.length:Int))/\ (0<=x13/\ x13<(Em.length:Int)) then
   bif ((EO.getD ((x13).toNat) 0) != (Em.getD ((x13).toNat) 0)) then
    some false
   else
    if AL (x13+1) then
     self (.l1 (x13+1))
    else none
  else none
 else
  some true
def ml (n:Nat) (self:XI -> Option Bool) (EO Em:List Int):Option Bool:=
 bif ((EO.length:Int) != (Em.length:Int)) then
  some false
 else
  self (.l1 0)
def P7 (EO Em:List Int):Nat -> XI -> Option Bool
 | 0,_=>none
 | n+1,.l1 x13=>Ta n (P7 EO Em n) EO Em x13
def P8 (n:Nat) (EO Em:List Int):Option Bool:=ml n (P7 EO Em n) EO Em
def zBp (n B:Nat) (N:Yd 0) (EO Em:List Int) (r:Bool):XI -> Prop
 | .l1 x13=>∀ m0:Nat,n<=m0 -> TW B N (FQ Tryz.f27 0 (.bool r) []) (A3 m0 (BB (AW Tryz.f27) 0 [])) ⟨AG 26 [(0,.ints EO),(1,.ints Em),(12,.i (EO.length:Int)),(13,.i x13)],[]⟩
theorem zBq (B:Nat) (N:Yd 0) (EO Em:List Int):Al (P7 EO Em) (zBp · B N EO Em):=ia (fun _=>rfl) fun n AJ pt r h=>by
 cases pt
 case l1 x13=>
  intro m0 AE;refine rd AE fun m0 AE=>?_
  revert r;apply gO;exact bi 14 (jg rt (gc (gi (gi (bi 24 (lE Q9 [4] []) (gw 25 (lG Q9 [] (AJ _ _ · m0 AE)))))))) (lE Q9 [4] [])
theorem mj {n:Nat} {EO Em:List Int} {r:Bool} (h:P8 n EO Em=some r):EQ 27 [.ints EO,.ints Em] [] (.bool r) [] true:=by
 refine ot Tryz.func27 fun B N=>?_
 revert r;apply gO;exact bi 10 (lE Q9 [4] []) (lN Q9 [] ((zBq B N EO Em n) _ _ · n Nat.le.refl))
inductive Pv where
 | l1 (A4:Int)
 | l2 (x3:Int) (x4:List Int) (A4:Int) (BJ:List Int) (Jq C3:Int)
def bz (n:Nat) (self:Pv -> Option Int) (g_:List (List Int)) (A4:Int):Option Int:=
 bif (decide (A4<(g_.length:Int))) then
  if 0<=A4/\ A4<(g_.length:Int) then
   self (.l2 A4 (g_.getD ((A4).toNat) []) A4 (g_.getD ((A4).toNat) []) (((g_.getD ((A4).toNat) []).length:Nat):Int) 0)
  else none
 else
  some 0
def Ww (n:Nat) (self:Pv -> Option Int) (g_:List (List Int)) (x3:Int) (x4:List Int) (A4:Int) (BJ:List Int) (Jq C3:Int):Option Int:=
 bif (decide (C3<Jq)) then
  if 0<=C3/\ C3<(BJ.length:Int) then
   bif (decide ((BJ.getD ((C3).toNat) 0)<0)) then
    some 120
   else
    bif (decide ((BJ.getD ((C3).toNat) 0)>=(g_.length:Int))) then
     some 120
    else
     bif ((BJ.getD ((C3).toNat) 0)==x3) then
      some 120
     else
      bif (decide (C3>0)) then
       if AL (C3-1)/\ (0<=(C3-1)/\ (C3-1)<(x4.length:Int)) then
        bif (decide ((x4.getD (((C3-1)).toNat) 0)>=(BJ.getD ((C3).toNat) 0))) then
         some 120
        else
         if 0<=(BJ.getD ((C3).toNat) 0)/\ (BJ.getD ((C3).toNat) 0)<(g_.length:Int) then
          (MI n (g_.getD ((BJ.getD ((C3).toNat) 0).toNat) []) x3).bind fun y1=>
           bif (!y1) then
            some 120
           else
            if AL (C3+1) then
             self (.l2 x3 x4 A4 BJ Jq (C3+1))
            else none
         else none
       else none
      else
       if 0<=(BJ.getD ((C3).toNat) 0)/\ (BJ.getD ((C3).toNat) 0)<(g_.length:Int) then
        (MI n (g_.getD ((BJ.getD ((C3).toNat) 0).toNat) []) x3).bind fun y1=>
         bif (!y1) then
          some 120
         else
          if AL (C3+1) then
           self (.l2 x3 x4 A4 BJ Jq (C3+1))
          else none
       else none
  else none
 else
  if AL (A4+1) then
   self (.l1 (A4+1))
  else none
def mN (n:Nat) (self:Pv -> Option Int) (g_:List (List Int)):Option Int:=
 bif (decide ((g_.length:Int)>256)) then
  some 120
 else
  self (.l1 0)
def Ie (g_:List (List Int)):Nat -> Pv -> Option Int
 | 0,_=>none
 | n+1,.l1 A4=>bz n (Ie g_ n) g_ A4
 | n+1,.l2 x3 x4 A4 BJ Jq C3=>Ww n (Ie g_ n) g_ x3 x4 A4 BJ Jq C3
def TP (n:Nat) (g_:List (List Int)):Option Int:=mN n (Ie g_ n) g_
def zBC (n B:Nat) (N:Yd 0) (g_:List (List Int)) (r:Int):Pv -> Prop
 | .l1 A4=>∀ m0:Nat,n<=m0 -> TW B N (FQ Tryz.f71 0 (.i r) []) (A3 m0 (BB (AW Tryz.f71) 0 [])) ⟨AG 61 [(0,.sl 1 g_.length (AQ BS g_)),(10,.sl 1 g_.length (AQ BS g_)),(11,.i (g_.length:Int)),(12,.i A4)],[]⟩
 | .l2 x3 x4 A4 BJ Jq C3=>∀ m0 m1:Nat,n<=m0 -> n<=m1 -> TW B N (FQ Tryz.f71 0 (.i r) []) (A3 m1 (BB (AW Tryz.f71) 2 [m0])) ⟨AG 61 [(0,.sl 1 g_.length (AQ BS g_)),(3,.i x3),(4,.ints x4),(10,.sl 1 g_.length (AQ BS g_)),(11,.i (g_.length:Int)),(12,.i A4),(17,.ints BJ),(18,.i Jq),(19,.i C3)],[]⟩
theorem zBD (B:Nat) (N:Yd 0) (g_:List (List Int)):Al (Ie g_) (zBC · B N g_):=ia (fun _=>rfl) fun n AJ pt r h=>by
 cases pt
 case l1 A4=>
  intro m0 AE;refine rd AE fun m0 AE=>?_
  revert r;apply gO;exact bi 13 (gi (lN AB [] (AJ _ _ · m0 n AE Nat.le.refl))) (lE AB [2] [])
 case l2 x3 x4 A4 BJ Jq C3=>
  intro m0 m1 AE Aw;have AE:=zEB AE;refine rd Aw fun m1 Aw=>?_
  revert r;apply gO;exact bi 20 (gi (bi 25 (lE AB [2] []) (bi 30 (lE AB [2] []) (bi 35 (lE AB [2] []) (bi 39 (gc (gw 43 (gi (bi 47 (lE AB [2] []) (gi (cf nM [] fun _=>bi 57 (lE AB [2] []) (gw 59 (lG AB [] (AJ _ _ · m0 m1 AE Aw))))))))) (gi (cf nM [] fun _=>bi 57 (lE AB [2] []) (gw 59 (lG AB [] (AJ _ _ · m0 m1 AE Aw)))))))))) (gw 60 (lG AB [] (AJ _ _ · m0 AE)))
theorem mM {n:Nat} {g_:List (List Int)} {r:Int} (h:TP n g_=some r):EQ 71 [.sl 1 g_.length (AQ BS g_)] [] (.i r) [] true:=by
 refine ot Tryz.func71 fun B N=>?_
 revert r;apply gO;exact bi 9 (lE AB [2] []) (lN AB [] ((zBD B N g_ n) _ _ · n Nat.le.refl))
inductive XF where
 | l1 (x3:Int)
def XE (n:Nat) (self:XF -> Option Bool) (q:AA) (x3:Int):Option Bool:=
 bif (decide (x3<(q.cons.length:Int))) then
  if 0<=x3/\ x3<(q.cons.length:Int) then
   bif (decide (((((q.cons.getD ((x3).toNat) default).cells).length:Nat):Int)>20)) then
    some false
   else
    bif (decide (((((q.cons.getD ((x3).toNat) default).runs).length:Nat):Int)>10)) then
     some false
    else
     if AL (x3+1) then
      self (.l1 (x3+1))
     else none
  else none
 else
  some true
def me (n:Nat) (self:XF -> Option Bool) (q:AA):Option Bool:=
 bif (decide (q.cells>16)) then
  some false
 else
  bif (decide (q.symbols>6)) then
   some false
  else
   bif (decide ((q.values.length:Int)>8)) then
    some false
   else
    bif (decide ((q.nbrs.length:Int)>20)) then
     some false
    else
     bif (decide ((q.cons.length:Int)>120)) then
      some false
     else
      self (.l1 0)
def Km (q:AA):Nat -> XF -> Option Bool
 | 0,_=>none
 | n+1,.l1 x3=>XE n (Km q n) q x3
def XG (n:Nat) (q:AA):Option Bool:=me n (Km q n) q
def zBh (n B:Nat) (N:Yd 0) (q:AA) (r:Bool):XF -> Prop
 | .l1 x3=>∀ m0:Nat,n<=m0 -> TW B N (FQ Tryz.f25 0 (.bool r) []) (A3 m0 (BB (AW Tryz.f25) 0 [])) ⟨AG 55 [(1,.ref 0 0),(3,.i x3)],[some (.cells (AD q))]⟩
theorem zBi (B:Nat) (N:Yd 0) (q:AA):Al (Km q) (zBh · B N q):=ia (fun _=>rfl) fun n AJ pt r h=>by
 cases pt
 case l1 x3=>
  intro m0 AE;refine rd AE fun m0 AE=>?_
  revert r;apply gO;exact bi 34 (gn fun g0=>jg g0 (bi 44 (lE AB [2] []) (jg g0 (bi 53 (lE AB [2] []) (gw 36 (lG AB [0] (AJ _ _ · m0 AE))))))) (lE AB [2] [])
theorem zBg {n:Nat} {q:AA} {r:Bool} (h:XG n q=some r):EQ 25 [.agg 5 (L1 (AD q))] [] (.bool r) [] true:=by
 refine ot Tryz.func25 fun B N=>?_
 revert r;apply gO;exact bi 6 (lE AB [2] []) (bi 10 (lE AB [2] []) (bi 16 (lE AB [2] []) (bi 22 (lE AB [2] []) (bi 28 (lE AB [2] []) (lN AB [0] ((zBi B N q n) _ _ · n Nat.le.refl))))))
end Go.Proofs.YtkjbblkieglmlaaGreatDoor
namespace Go.Proofs.YtkjbblkieglmlaaGreatDoor
open Go.RowKit
set_option maxRecDepth 100000
set_option maxHeartbeats 40000000
def dw (n:Nat) (v lo hi:Int):Option Bool:=
 bif (decide (v<lo)) then
  some true
 else
  some (decide (v>hi))
def YB (n:Nat) (v lo hi:Int):Option Bool:=dw n v lo hi
theorem od {n:Nat} {v lo hi:Int} {r:Bool} (h:YB n v lo hi=some r):EQ 99 [.i v,.fp 1 (L1 [.i lo]),.fp 1 (L1 [.i hi])] [] (.bool r) [] true:=by
 refine ot Tryz.func99 fun B N=>?_
 revert r;apply gO;exact bi 7 (lE AB [4] []) (lE AB [4] [])
inductive WI where
 | l1 (x8:Int)
def aO (n:Nat) (self:WI -> Option Int) (l:List Int) (lo hi:Int) (x8:Int):Option Int:=
 bif (decide (x8<(l.length:Int))) then
  if 0<=x8/\ x8<(l.length:Int) then
   (YB n (l.getD ((x8).toNat) 0) lo hi).bind fun y1=>
    bif y1 then
     some x8
    else
     if AL (x8+1) then
      self (.l1 (x8+1))
     else none
  else none
 else
  some (-1)
def kS (n:Nat) (self:WI -> Option Int) (l:List Int) (lo hi:Int):Option Int:=
 self (.l1 0)
def Nd (l:List Int) (lo hi:Int):Nat -> WI -> Option Int
 | 0,_=>none
 | n+1,.l1 x8=>aO n (Nd l lo hi n) l lo hi x8
def WJ (n:Nat) (l:List Int) (lo hi:Int):Option Int:=kS n (Nd l lo hi n) l lo hi
def xI (n B:Nat) (N:Yd 0) (l:List Int) (lo hi:Int) (r:Int):WI -> Prop
 | .l1 x8=>∀ m0:Nat,n<=m0 -> TW B N (FQ Tryz.f101 0 (.i r) []) (A3 m0 (BB (AW Tryz.f101) 0 [])) ⟨AG 19 [(0,.ints l),(1,.fn 99 2 (L1 [.fp 1 (L1 [.i lo]),.fp 1 (L1 [.i hi])])),(7,.i (l.length:Int)),(8,.i x8)],[]⟩
theorem xJ (B:Nat) (N:Yd 0) (l:List Int) (lo hi:Int):Al (Nd l lo hi) (xI · B N l lo hi):=ia (fun _=>rfl) fun n AJ pt r h=>by
 cases pt
 case l1 x8=>
  intro m0 AE;refine rd AE fun m0 AE=>?_
  revert r;apply gO;exact bi 9 (gi (cf od [] fun _=>bi 16 (lE AB [4] []) (gw 18 (lG AB [] (AJ _ _ · m0 AE))))) (lE AB [4] [])
theorem xG {n:Nat} {l:List Int} {lo hi:Int} {r:Int} (h:WJ n l lo hi=some r):EQ 101 [.ints l,.fn 99 2 (L1 [.fp 1 (L1 [.i lo]),.fp 1 (L1 [.i hi])])] [] (.i r) [] true:=by
 refine ot Tryz.func101 fun B N=>?_
 revert r;apply gO;exact lN AB [] ((xJ B N l lo hi n) _ _ · n Nat.le.refl)
def cW (n:Nat) (l:List Int) (lo hi:Int):Option Bool:=
 (WJ n l lo hi).bind fun y1=>
  some (decide (y1>=0))
def XW (n:Nat) (l:List Int) (lo hi:Int):Option Bool:=cW n l lo hi
theorem zCc {n:Nat} {l:List Int} {lo hi:Int} {r:Bool} (h:XW n l lo hi=some r):EQ 74 [.ints l,.fn 99 2 (L1 [.fp 1 (L1 [.i lo]),.fp 1 (L1 [.i hi])])] [] (.bool r) [] true:=by
 unfold XW cW at h;refine ot Tryz.func74 fun B N=>?_
 revert r;apply gO;exact cf xG [] fun _=>lE AB [4] []
def ZI (n:Nat) (l_:List Int) (lo hi:Int):Option Bool:=
 (XW n l_ lo hi).bind fun y1=>
  some (!y1)
def LX (n:Nat) (l_:List Int) (lo hi:Int):Option Bool:=ZI n l_ lo hi
theorem VN {n:Nat} {l_:List Int} {lo hi:Int} {r:Bool} (h:LX n l_ lo hi=some r):EQ 70 [.ints l_,.i lo,.i hi] [] (.bool r) [] true:=by
 unfold LX ZI at h;refine ot Tryz.func70 fun B N=>?_
 revert r;apply gO;exact cn fun y1 A8=>jc (sb [.ints l_,.fn 99 2 (L1 [.ref 0 0,.ref 1 0])] (zCc A8) [some (.cells [.i lo]),some (.cells [.i hi])] ⟨Ac.plain (by kernel_rfl),(Ac.fnL (l:=[.ref 0 0,.ref 1 0]) (l0:=[.fp 1 (L1 [.i lo]),.fp 1 (L1 [.i hi])]) ⟨(Ac.refL (l:=[.i lo]) (l0:=[.i lo]) rfl ⟨Ac.plain (by kernel_rfl),trivial⟩),(Ac.refL (l:=[.i hi]) (l0:=[.i hi]) rfl ⟨Ac.plain (by kernel_rfl),trivial⟩),trivial⟩),trivial⟩) (lE AB [6] [])
theorem rq:Av (Ah Tryz.f73 24) [([0,1,2,3,5,6,7,8],4),([],9),([10,11,12,13,14],15),([],16),([17,18,19,20,21,22,23,24,25,26],27)] [28,29] []:=by unfold Av;kernel_rfl
def Dd:Bi:=fun i=>match i with
 | 24=>.ord [([0,1,2,3,5,6,7,8],4),([],9),([10,11,12,13,14],15),([],16),([17,18,19,20,21,22,23,24,25,26],27)] [28,29] []
 | _=>.no
def k8 (q:AA) (c_:AC):DH:=[some (.cells (AD q)),some (.cells (AK c_)),some (.ints ([c_.set,c_.other]:List Int)),some (.ints ([c_.lo,c_.hi]:List Int))]
inductive L7 where
 | l1 (Ad:Int) (o2:List Bool)
 | l2
def TX (n:Nat) (self:L7 -> Option Bool) (q:AA) (c_:AC) (Ad:Int) (o2:List Bool):Option Bool:=
 bif (decide (Ad<(c_.cells.length:Int))) then
  if 0<=Ad/\ Ad<(c_.cells.length:Int) then
   bif (decide ((c_.cells.getD ((Ad).toNat) 0)<0)) then
    some false
   else
    bif (decide ((c_.cells.getD ((Ad).toNat) 0)>=q.cells)) then
     some false
    else
     if (0<=(c_.cells.getD ((Ad).toNat) 0)/\ (c_.cells.getD ((Ad).toNat) 0)<((256:Nat):Int))/\ 0+((c_.cells.getD ((Ad).toNat) 0).toNat)<o2.length then
      bif (o2.getD (0+((c_.cells.getD ((Ad).toNat) 0).toNat)) false) then
       some false
      else
       bif (decide (c_.kind>=8)) then
        bif ((c_.cells.getD ((Ad).toNat) 0) != Ad) then
         some false
        else
         if AL (Ad+1) then
          self (.l1 (Ad+1) (o2.set (0+((c_.cells.getD ((Ad).toNat) 0).toNat)) true))
         else none
       else
        if AL (Ad+1) then
         self (.l1 (Ad+1) (o2.set (0+((c_.cells.getD ((Ad).toNat) 0).toNat)) true))
        else none
     else none
  else none
 else
  bif (c_.kind==1) then
   self (.l2)
  else
   bif (c_.kind==2) then
    self (.l2)
   else
    bif (c_.kind==3) then
     self (.l2)
    else
     bif (c_.kind==4) then
      self (.l2)
     else
      bif (c_.kind==5) then
       self (.l2)
      else
       bif (c_.kind==6) then
        bif ((c_.cells.length:Int) != 2) then
         some false
        else
         self (.l2)
       else
        bif (c_.kind==7) then
         bif ((c_.cells.length:Int) != 2) then
          some false
         else
          self (.l2)
        else
         bif (c_.kind==8) then
          bif ((c_.cells.length:Int) != q.cells) then
           some false
          else
           self (.l2)
         else
          bif (c_.kind==9) then
           bif ((c_.cells.length:Int) != q.cells) then
            some false
           else
            self (.l2)
          else
           some false
def W8 (n:Nat) (self:L7 -> Option Bool) (q:AA) (c_:AC):Option Bool:=
 if (0<=q.symbols/\ q.symbols<=(IntKind.i64.bits:Int))/\ AL ((IntKind.i64.wrap (1*2 ^ (q.symbols).toNat))-1) then
  (LX n ([c_.set,c_.other]:List Int) 0 ((IntKind.i64.wrap (1*2 ^ (q.symbols).toNat))-1)).bind fun y1=>
   bif y1 then
    (LX n ([c_.lo,c_.hi]:List Int) 0 65536).bind fun y2=>
     bif y2 then
      bif (decide ((c_.runs.length:Int)<=8)) then
       (LX n c_.runs 1 256).bind fun y3=>
        some y3
      else
       some false
     else
      some false
   else
    some false
 else none
def mY (n:Nat) (self:L7 -> Option Bool) (q:AA) (c_:AC):Option Bool:=
 self (.l1 0 (List.replicate 256 false))
def P4 (q:AA) (c_:AC):Nat -> L7 -> Option Bool
 | 0,_=>none
 | n+1,.l1 Ad o2=>TX n (P4 q c_ n) q c_ Ad o2
 | n+1,.l2=>W8 n (P4 q c_ n) q c_
def W9 (n:Nat) (q:AA) (c_:AC):Option Bool:=mY n (P4 q c_ n) q c_
def zBa (n B:Nat) (N:Yd 0) (q:AA) (c_:AC) (r:Bool):L7 -> Prop
 | .l1 Ad o2=>∀ m0:Nat,n<=m0 -> TW B N (FQ Tryz.f73 0 (.bool r) []) (A3 m0 (BB (AW Tryz.f73) 0 [])) ⟨AG 95 [(2,.ref 0 0),(3,.ref 1 0),(5,.mp 2 1 0 0),(9,.ints c_.cells),(10,.i (c_.cells.length:Int)),(11,.i Ad)],[some (.cells (AD q)),some (.cells (AK c_)),some (.bools o2)]⟩
 | .l2=>TW B N (FQ Tryz.f73 0 (.bool r) []) (Cc (AW Tryz.f73) 24 []) ⟨AG 95 [(2,.ref 0 0),(3,.ref 1 0)],[some (.cells (AD q)),some (.cells (AK c_))]⟩
theorem zBb (B:Nat) (N:Yd 0) (q:AA) (c_:AC):Al (P4 q c_) (zBa · B N q c_):=ia (fun _=>rfl) fun n AJ pt r h=>by
 cases pt
 case l1 Ad o2=>
  intro m0 AE;refine rd AE fun m0 AE=>?_
  revert r;apply gO;exact bi 12 (gi (bi 17 (lE (AV 24 Dd) [4] []) (bi 22 (lE (AV 24 Dd) [4] []) (gc (gn fun g1=>jg g1 (gn fun g2=>jg g2 (bi 27 (lE (AV 24 Dd) [4] []) (bi 32 (bi 36 (lE (AV 24 Dd) [4] []) (jg g1 (jg g2 (gw 41 (lG (AV 24 Dd) [0,1,2] (AJ _ _ · m0 AE)))))) (jg g1 (jg g2 (gw 41 (lG (AV 24 Dd) [0,1,2] (AJ _ _ · m0 AE))))))))))))) (bi 45 (lG (AV 24 Dd) [0,1] (AJ _ _ ·)) (bi 46 (lG (AV 24 Dd) [0,1] (AJ _ _ ·)) (bi 47 (lG (AV 24 Dd) [0,1] (AJ _ _ ·)) (bi 48 (lG (AV 24 Dd) [0,1] (AJ _ _ ·)) (bi 49 (lG (AV 24 Dd) [0,1] (AJ _ _ ·)) (bi 51 (bi 56 (lE (AV 24 Dd) [4] []) (lG (AV 24 Dd) [0,1] (AJ _ _ ·))) (bi 52 (bi 56 (lE (AV 24 Dd) [4] []) (lG (AV 24 Dd) [0,1] (AJ _ _ ·))) (bi 58 (bi 65 (lE (AV 24 Dd) [4] []) (lG (AV 24 Dd) [0,1] (AJ _ _ ·))) (bi 59 (bi 65 (lE (AV 24 Dd) [4] []) (lG (AV 24 Dd) [0,1] (AJ _ _ ·))) (lE (AV 24 Dd) [4] []))))))))))
 case l2=>
  revert r;apply gO;exact jg rq (gc (gi (gw 74 (cn fun y1 A8=>jc (sb [.msl 2 1 0 2,.i 0,.i ((IntKind.i64.wrap (1*2 ^ (q.symbols).toNat))-1)] (VN A8) [some (.cells (AD q)),some (.cells (AK c_)),some (.ints ([c_.set,c_.other]:List Int))] ⟨Ac.ints rfl (Eq.refl 2),Ac.plain (by kernel_rfl),Ac.plain (by kernel_rfl),trivial⟩) (bi 75 (cn fun y2 Bx=>jc (sb [.msl 3 1 0 2,.i 0,.i 65536] (VN Bx) (k8 q c_) ⟨Ac.ints rfl (Eq.refl 2),Ac.plain (by kernel_rfl),Ac.plain (by kernel_rfl),trivial⟩) (bi 82 (bi 88 (cf VN (k8 q c_) fun _=>lE Dd [4] []) (lE Dd [4] [])) (lE Dd [4] []))) (lE Dd [4] []))))))
theorem zBY {n:Nat} {q:AA} {c_:AC} {r:Bool} (h:W9 n q c_=some r):EQ 73 [.agg 5 (L1 (AD q)),.agg 9 (L1 (AK c_))] [] (.bool r) [] true:=by
 refine ot Tryz.func73 fun B N=>?_
 revert r;apply gO;exact lN (AV 24 Dd) [0,1,2] ((zBb B N q c_ n) _ _ · n Nat.le.refl)
def YK (n:Nat) (c:AC) (q:AA):Option Bool:=
 (W9 n q c).bind fun y1=>
  some (!y1)
def UX (n:Nat) (c:AC) (q:AA):Option Bool:=YK n c q
theorem ow {n:Nat} {c:AC} {q:AA} {r:Bool} (h:UX n c q=some r):EQ 72 [.agg 9 (L1 (AK c)),.fp 5 (L1 (AD q))] [] (.bool r) [] true:=by
 unfold UX YK at h;refine ot Tryz.func72 fun B N=>?_
 revert r;apply gO;exact cf zBY [some (.cells (AK c))] fun _=>lE AB [3] []
inductive WF where
 | l1 (x8:Int)
def WE (n:Nat) (self:WF -> Option Int) (l:List AC) (q:AA) (x8:Int):Option Int:=
 bif (decide (x8<(l.length:Int))) then
  if 0<=x8/\ x8<(l.length:Int) then
   (UX n (l.getD ((x8).toNat) default) q).bind fun y1=>
    bif y1 then
     some x8
    else
     if AL (x8+1) then
      self (.l1 (x8+1))
     else none
  else none
 else
  some (-1)
def kQ (n:Nat) (self:WF -> Option Int) (l:List AC) (q:AA):Option Int:=
 self (.l1 0)
def Lk (l:List AC) (q:AA):Nat -> WF -> Option Int
 | 0,_=>none
 | n+1,.l1 x8=>WE n (Lk l q n) l q x8
def WG (n:Nat) (l:List AC) (q:AA):Option Int:=kQ n (Lk l q n) l q
def xA (n B:Nat) (N:Yd 0) (l:List AC) (q:AA) (r:Int):WF -> Prop
 | .l1 x8=>∀ m0:Nat,n<=m0 -> TW B N (FQ Tryz.f44 0 (.i r) []) (A3 m0 (BB (AW Tryz.f44) 0 [])) ⟨AG 19 [(0,.sl 9 l.length (AQ AK l)),(1,.fn 72 1 (L1 [.fp 5 (L1 (AD q))])),(7,.i (l.length:Int)),(8,.i x8)],[]⟩
theorem xB (B:Nat) (N:Yd 0) (l:List AC) (q:AA):Al (Lk l q) (xA · B N l q):=ia (fun _=>rfl) fun n AJ pt r h=>by
 cases pt
 case l1 x8=>
  intro m0 AE;refine rd AE fun m0 AE=>?_
  revert r;apply gO;exact bi 9 (gi (cf ow [] fun _=>bi 16 (lE AB [4] []) (gw 18 (lG AB [] (AJ _ _ · m0 AE))))) (lE AB [4] [])
theorem w9 {n:Nat} {l:List AC} {q:AA} {r:Int} (h:WG n l q=some r):EQ 44 [.sl 9 l.length (AQ AK l),.fn 72 1 (L1 [.fp 5 (L1 (AD q))])] [] (.i r) [] true:=by
 refine ot Tryz.func44 fun B N=>?_
 revert r;apply gO;exact lN AB [] ((xB B N l q n) _ _ · n Nat.le.refl)
def cU (n:Nat) (l:List AC) (q:AA):Option Bool:=
 (WG n l q).bind fun y1=>
  some (decide (y1>=0))
def XV (n:Nat) (l:List AC) (q:AA):Option Bool:=cU n l q
theorem zCa {n:Nat} {l:List AC} {q:AA} {r:Bool} (h:XV n l q=some r):EQ 31 [.sl 9 l.length (AQ AK l),.fn 72 1 (L1 [.fp 5 (L1 (AD q))])] [] (.bool r) [] true:=by
 unfold XV cU at h;refine ot Tryz.func31 fun B N=>?_
 revert r;apply gO;exact cf w9 [] fun _=>lE AB [4] []
def dz (n:Nat) (q:AA):Option Int:=
 bif (decide (q.cells<1)) then
  some 191
 else
  bif (decide (q.cells>256)) then
   some 191
  else
   bif (decide (q.symbols<1)) then
    some 191
   else
    bif (decide (q.symbols>16)) then
     some 191
    else
     bif ((q.values.length:Int) != q.symbols) then
      some 191
     else
      (LX n q.values 0 99).bind fun y1=>
       bif (!y1) then
        some 191
       else
        bif ((q.nbrs.length:Int) != q.cells) then
         some 191
        else
         (TP n q.nbrs).bind fun y2=>
          bif (y2 != 0) then
           some 191
          else
           bif (decide ((q.cons.length:Int)>4096)) then
            some 191
           else
            (XV n q.cons q).bind fun y3=>
             bif y3 then
              some 191
             else
              some 0
def valid (n:Nat) (q:AA):Option Int:=dz n q
theorem UT {n:Nat} {q:AA} {r:Int} (h:valid n q=some r):EQ 42 [.agg 5 (L1 (AD q))] [] (.i r) [] true:=by
 refine ot Tryz.func42 fun B N=>?_
 revert r;apply gO;exact bi 5 (lE AB [2] []) (bi 9 (lE AB [2] []) (bi 14 (lE AB [2] []) (bi 19 (lE AB [2] []) (bi 27 (lE AB [2] []) (cf VN [some (.cells (AD q))] fun _=>bi 33 (lE AB [2] []) (bi 40 (lE AB [2] []) (cf mM [some (.cells (AD q))] fun _=>bi 45 (lE AB [2] []) (bi 51 (lE AB [2] []) (cn fun y3 aX=>jc (sb [.sl 9 q.cons.length (AQ AK q.cons),.fn 72 1 (L1 [.ref 0 0])] (zCa aX) [some (.cells (AD q))] ⟨Ac.plain (by kernel_rfl),(Ac.fnL (l:=[.ref 0 0]) (l0:=[.fp 5 (L1 (AD q))]) ⟨(Ac.refL (l:=(AD q)) (l0:=(AD q)) rfl ⟨Ac.plain (by kernel_rfl),Ac.plain (by kernel_rfl),Ac.plain (by kernel_rfl),Ac.plain (by kernel_rfl),Ac.plain (by kernel_rfl),trivial⟩),trivial⟩),trivial⟩) (bi 56 (lE AB [2] []) (lE AB [2] [])))))))))))
def Z9 (n:Nat) (q:AA) (i:Int):Option (Int×Int):=
 (valid n q).bind fun y1=>
  bif (y1 != 0) then
   some (0,y1)
  else
   bif (decide (i<0)) then
    some (0,260)
   else
    bif (decide (i>=(q.cons.length:Int))) then
     some (0,260)
    else
     if (0<=i/\ i<(q.cons.length:Int))/\ ((0:Int)<=((q.cons.getD ((i).toNat) default).kind)/\ ((q.cons.getD ((i).toNat) default).kind)<((10:Nat):Int)) then
      some (([0,1,1,2,2,3,1,1,4,4]:List Int).getD ((q.cons.getD ((i).toNat) default).kind).toNat 0,0)
     else none
def SP (n:Nat) (q:AA) (i:Int):Option (Int×Int):=Z9 n q i
theorem vt {n:Nat} {q:AA} {i:Int} {r:Int×Int} (h:SP n q i=some r):EQ 131 [.agg 5 (L1 (AD q)),.i i] [] (.tup 2 (L1 [.i r.1,.i r.2])) [] true:=by
 unfold SP Z9 at h;refine ot Tryz.func131 fun B N=>?_
 revert r;apply gO;exact cf UT [some (.cells (AD q))] fun _=>bi 10 (lE AB [4,5] []) (bi 13 (lE AB [4,5] []) (bi 19 (lE AB [4,5] []) (gc (gi (gn fun g1=>jg g1 (jo 28 (AR.ixI [0,1,1,2,2,3,1,1,4,4] rfl g1) (lE AB [4,5] [])))))))
end Go.Proofs.YtkjbblkieglmlaaGreatDoor
namespace Go.Proofs.YtkjbblkieglmlaaGreatDoor
abbrev zAC:=@decide_eq_false
abbrev zAH:=@cond_false
abbrev zAI:=@cond_true
abbrev zAL:=@Int.toNat_natCast
abbrev zBj:=@beq_eq_false_iff_ne
abbrev zEG:=@Bool.not_false
abbrev zEb:=@Bool.or_false
abbrev zEo:=@Int.natCast_nonneg
abbrev zEs:=@decide_true
abbrev zE6:=@List.exists_of_findSome?_eq_some
abbrev zFC:=@Int.eq_ofNat_of_zero_le
abbrev zFJ:=@List.contains_iff_mem
abbrev zFM:=@Bool.eq_false_iff
abbrev zFO:=@List.findSome?_eq_none_iff
abbrev zFg:=@List.length_erase_of_mem
abbrev zFr:=@and_self
abbrev zF2:=@List.range'_succ
abbrev zF4:=@List.range_eq_range'
end Go.Proofs.YtkjbblkieglmlaaGreatDoor
namespace Go.Proofs.YtkjbblkieglmlaaGreatDoor
def Ng (lo hi:Int) (n:Int):Bool:=decide (lo<=n)&&decide (n<=hi)
def Ek (xs:List Int) (lo hi:Int):Bool:=xs.all (Ng lo hi)
def HJ (g:List (List Int)) (i:Nat) (l:List Int) (k:Nat):Bool:=
 let n:=l.getD k 0
 decide (0<=n)&&decide (n<g.length)&&(n != i)&&(!decide (0<k)||decide (l.getD (k-1) 0<n))&&(g.getD n.toNat []).contains (i:Int)
def I1 (g:List (List Int)) (i:Nat) (l:List Int):Bool:=(List.range l.length).all (HJ g i l)
def Kk (g:List (List Int)):Bool:=decide (g.length<=256)&&(List.range g.length).all fun i=>I1 g i (g.getD i [])
def OO (n kind:Int) (cells:List Int) (i:Nat):Bool:=
 let x:=cells.getD i 0
 decide (0<=x)&&decide (x<n)&&!(cells.take i).contains x&&(!decide (8<=kind)||x==(i:Int))
def Xk (n kind:Int) (cells:List Int):Bool:=(List.range cells.length).all (OO n kind cells)
def GL (n kind:Int) (len:Nat):Bool:=
 (decide (1<=kind)&&decide (kind<=5))||((kind==6||kind==7)&&len==2)||((kind==8||kind==9)&&(len:Int)==n)
def FK (q:AA) (c:AC):Bool:=
 Xk q.cells c.kind c.cells&&GL q.cells c.kind c.cells.length&&
 Ek [c.set,c.other] 0 (2 ^ q.symbols.toNat-1)&&Ek [c.lo,c.hi] 0 65536&&decide (c.runs.length<=8)&&Ek c.runs 1 256
def Zq (l:List Int):Bool:=(List.range l.length).all fun i=>!(l.take i).contains (l.getD i 0)
theorem Zp: ∀ (n:Nat) (l:List Int),l.Nodup -> (∀ x∈l,0<=x/\ x<(n:Int)) -> l.length<=n
 | 0,l,_,h=>by
  cases l with
  | nil=>simp
  | cons a l=>have:=h a (by simp);omega
 | n+1,l,hd,h=>by
  have h1:(l.erase (n:Int)).length<=n:=Zp n _ (hd.erase _) (fun x hx=>by
   have:=hd.mem_erase_iff.1 hx;have h2:=h x this.2;have h3:=this.1;omega)
  by_cases hm:(n:Int)∈l
  ·have:=zFg hm;omega
  ·rw [List.erase_of_not_mem hm] at h1;omega
theorem vA {l:List Int}:Zq l=true↔l.Nodup:=by
 unfold Zq List.Nodup;rw [zAT,List.pairwise_iff_getElem];constructor
 ·intro h i j hi hj Pg e;have:=h j (by simpa using hj);simp only [u8,zAM hj,zEc,zEO] at this;rw [zFM,ne_eq,zFJ,List.mem_take_iff_getElem] at this;exact this ⟨i,by omega,e⟩
 ·intro h i hi;have BV:i<l.length:=by simpa using hi
  simp only [u8,zAM BV,zEc,zEO];rw [zFM,ne_eq,zFJ,List.mem_take_iff_getElem];rintro ⟨j,hj,e⟩;exact h j i (by omega) BV (by omega) e
theorem X9 {l:List Int} {lo hi:Int}:Ek l lo hi=true↔∀ x∈l,lo<=x/\ x<=hi:=by
 unfold Ek;simp [Ng]
theorem zC3 {n kind:Int} {cells:List Int}:Xk n kind cells=true↔(∀ x∈cells,0<=x/\ x<n)/\ cells.Nodup/\ (8<=kind -> ∀ j,j<cells.length -> cells.getD j 0=(j:Int)):=by
 rw [←vA];unfold Xk Zq OO;simp only [zAT,zAi,zAN,zAx,zAz,zEO,zDu,decide_eq_false_iff_not];constructor
 ·intro h;refine ⟨fun x hx=>?_,fun j hj=>(h j hj).1.2,fun h8 j hj=>?_⟩
  ·obtain ⟨j,hj,rfl⟩:=zEQ hx;have:=(h j hj).1.1;simpa [hj] using this
  ·rcases (h j hj).2 with h' | h'
   ·exact absurd h8 h'
   ·exact h'
 ·rintro ⟨h1,h2,h3⟩ j hj;have hx:=h1 _ (zA7 hj);refine ⟨⟨by simpa [hj] using hx,h2 j hj⟩,?_⟩
  by_cases h8:8<=kind
  ·exact .inr (h3 h8 j hj)
  ·exact .inl h8
def CR (q:AA):Bool:=
 decide (1<=q.cells)&&decide (q.cells<=256)&&decide (1<=q.symbols)&&decide (q.symbols<=16)&&((q.values.length:Int)==q.symbols)&&Ek q.values 0 99&&
 ((q.nbrs.length:Int)==q.cells)&&Kk q.nbrs&&decide (q.cons.length<=4096)&&q.cons.all (FK q)
def Z4 (kind:Int):Int:=if kind=3∨kind=4 then 2 else if kind=5 then 3 else if kind=8∨kind=9 then 4 else 1
def JF (q:AA) (i:Int):Int×Int:=
 if CR q=false then (0,191) else if 0<=i/\ i<q.cons.length then (Z4 ((q.cons.getD i.toNat default).kind),0) else (0,260)
theorem E8 {q:AA} (h:CR q=true):(1<=q.cells/\ q.cells<=256)/\ (1<=q.symbols/\ q.symbols<=16)/\ ((q.values.length:Int)=q.symbols/\ Ek q.values 0 99=true)/\
 ((q.nbrs.length:Int)=q.cells/\ Kk q.nbrs=true)/\ q.cons.length<=4096/\ ∀ c∈q.cons,FK q c=true:=by
 unfold CR at h;simp only [zAN,zAx,zDu,zAT] at h;obtain ⟨⟨⟨⟨⟨⟨⟨⟨⟨h1,h2⟩,h3⟩,h4⟩,h5⟩,h6⟩,h7⟩,h8⟩,h9⟩,bo⟩:=h;exact ⟨⟨h1,h2⟩,⟨h3,h4⟩,⟨h5,h6⟩,⟨h7,h8⟩,h9,bo⟩
theorem kB {q:AA} {c:AC} (h:FK q c=true):GL q.cells c.kind c.cells.length=true:=by
 unfold FK at h;simp only [zAN] at h;exact h.1.1.1.1.2
theorem SY {n kind:Int} {len:Nat} (h:GL n kind len=true):1<=kind/\ kind<=9:=by
 unfold GL at h;simp at h;omega
theorem SZ {k:Int} (h:1<=k/\ k<=9):k=1∨k=2∨k=3∨k=4∨k=5∨k=6∨k=7∨k=8∨k=9:=by omega
end Go.Proofs.YtkjbblkieglmlaaGreatDoor
namespace Go.Proofs.YtkjbblkieglmlaaGreatDoor
open Go.RowKit
theorem gL {R:Type} (m:Nat -> Int -> Option R) (len N0:Nat) (B:Nat -> Option R) (h0: ∀ (n i:Nat),N0<=n -> i<len -> m (n+1) (i:Int)=(B i).or (m n ((i:Int)+1))):
 ∀ (k i n:Nat),i+k=len -> N0<=n -> m (n+k) (i:Int)=((List.range' i k).findSome? B).or (m n (len:Int))
 | 0,i,n,h,hn=>by
  have:i=len:=by omega
  subst this;rfl
 | k+1,i,n,h,hn=>by
  show m (n+k+1) (i:Int)=_
  rw [h0 (n+k) i (by omega) (by omega),zF2,List.findSome?_cons];cases B i with
  | some r=>rfl
  | none=>
   have:=gL m len N0 B h0 k (i+1) n (by omega) hn;rw [←this];simp
theorem RA {R:Type} (m:Nat -> Int -> Option R) (len N0:Nat) (B:Nat -> Option R) (h0: ∀ (n i:Nat),N0<=n -> i<len -> m (n+1) (i:Int)=(B i).or (m n ((i:Int)+1))) {n:Nat} (hn:N0+len<=n):
 m n 0=((List.range len).findSome? B).or (m (n-len) (len:Int)):=by
 have:=gL m len N0 B h0 len 0 (n-len) (by omega) (by omega);rw [Nat.sub_add_cancel (by omega)] at this;rw [zF4];exact this
theorem mZ {R:Type} {l:List Nat} {p:Nat -> Bool} {r:R}:(l.findSome? fun i=>if p i then none else some r)=if l.all p then none else some r:=by
 induction l with
 | nil=>rfl
 | cons a l ih=>
  rw [List.findSome?_cons,zFf];cases hp:p a
  ·simp
  ·simp [ih]
theorem iQ {α:Type} {l:List α} {d:α} {p:α -> Bool}:((List.range l.length).all fun i=>p (l.getD i d))=l.all p:=by
 rw [zEi,zAT,zAT];constructor
 ·intro h x hx;obtain ⟨i,hi,rfl⟩:=zEQ hx;have:=h i (by simpa using hi);simpa [hi] using this
 ·intro h i hi;have BV:i<l.length:=by simpa using hi
  simp [BV,h _ (zA7 BV)]
theorem r64 {i len:Nat} (h:i<len) (hl:len<=LB):AL ((i:Int)+1):=by rw [As];unfold LB at hl;omega
theorem xH {l:List Int} {lo up:Int} {n:Nat} (hl:l.length<=LB) (hn:l.length<n): ∃ r:Int,WJ n l lo up=some r/\ (0<=r↔Ek l lo up=false):=by
 unfold WJ kS;have S:=RA (fun n i=>Nd l lo up n (.l1 i)) l.length 0 (fun i=>if Ng lo up (l.getD i 0) then none else some (i:Int)) (fun n i _ hi=>?_) (n:=n) (by omega)
 ·have S:=S;rw [show Nd l lo up n (.l1 0)=_ from S];cases hf:(List.range l.length).findSome? (fun i=>if Ng lo up (l.getD i 0) then none else some (i:Int)) with
  | some r=>
   refine ⟨r,rfl,?_⟩;obtain ⟨i,hi,hr⟩:=zE6 hf;have BV:i<l.length:=by simpa using hi
   split at hr
   ·cases hr
   ·rename_i hx;cases hr;refine ⟨fun _=>?_,fun _=>by omega⟩;unfold Ek;rw [List.all_eq_false];exact ⟨l[i],zA7 BV,by simpa [BV] using hx⟩
  | none=>
   obtain ⟨m,hm⟩: ∃ m,n-l.length=m+1:=⟨n-l.length-1,by omega⟩;refine ⟨-1,by rw [hm];simp [Nd,aO],?_⟩;rw [zFO] at hf
   have:Ek l lo up=true:=by
    unfold Ek;rw [←iQ (p:=Ng lo up) (d:=(0:Int)),zAT];intro i hi;have:=hf i hi;cases hc:Ng lo up (l.getD i 0) with
    | true=>rfl
    | false=>rw [hc] at this;simp at this
   simp [this]
 ·have h1:(i:Int)<(l.length:Int):=by omega
  have h2:=r64 hi hl;simp only [Nd,aO,YB,dw,h1,h2,zEs,zAI,zEo,zFr,zEL,zAL,Ng];obtain ⟨x,hg⟩: ∃ y,l.getD i 0=y:=⟨_,rfl⟩;simp only [hg]
  by_cases a:x<lo
  ·have: ¬ lo<=x:=by omega
   simp [a,this]
  ·have a':lo<=x:=by omega
   by_cases b:up<x
   ·have: ¬ x<=up:=by omega
    simp [a,b,a',this]
   ·have b':x<=up:=by omega
    simp [a,b,a',b']
theorem VO {l:List Int} {lo up:Int} {n:Nat} (hl:l.length<=LB) (hn:l.length<n):LX n l lo up=some (Ek l lo up):=by
 obtain ⟨r,h1,h2⟩:=xH (lo:=lo) (up:=up) hl hn;unfold LX ZI XW cW;rw [h1];cases hw:Ek l lo up with
 | true=>
  have: ¬ 0<=r:=fun h=>by rw [h2.1 h] at hw;cases hw
  simp [this]
 | false=>
  have:0<=r:=h2.2 hw;simp [this]
theorem zCd {l:List Int} {x:Int} {n:Nat} (hl:l.length<=LB) (hn:l.length<n):MI n l x=some (l.contains x):=by
 have: ∃ r:Int,WL n l x=some r/\ (0<=r↔l.contains x=true):=by
  unfold WL kT;have S:=RA (fun n i=>Nf l x n (.l1 i)) l.length 0 (fun i=>if (x != l.getD i 0) then none else some (i:Int)) (fun n i _ hi=>?_) (n:=n) (by omega)
  ·rw [show Nf l x n (.l1 0)=_ from S];cases hf:(List.range l.length).findSome? (fun i=>if (x != l.getD i 0) then none else some (i:Int)) with
   | some r=>
    refine ⟨r,rfl,?_⟩;obtain ⟨i,hi,hr⟩:=zE6 hf;have BV:i<l.length:=by simpa using hi
    split at hr
    ·cases hr
    ·rename_i hx;cases hr;refine ⟨fun _=>?_,fun _=>by omega⟩;have:x=l[i]:=by simpa [BV] using hx
     rw [this];simp
   | none=>
    obtain ⟨m,hm⟩: ∃ m,n-l.length=m+1:=⟨n-l.length-1,by omega⟩;refine ⟨-1,by rw [hm];simp [Nf,aP],?_⟩;rw [zFO] at hf
    have:l.contains x=false:=by
     rw [zFM];intro h;obtain ⟨i,hi,e⟩:=zEQ (by simpa using h:x∈l);have:=hf i (by simpa using hi);simp [hi,e] at this
    rw [this];simp
  ·have h1:(i:Int)<(l.length:Int):=by omega
   have h2:=r64 hi hl;simp only [Nf,aP,h1,h2,zEs,zAI,zEo,zFr,zEL,zAL];obtain ⟨y,hg⟩: ∃ y,l.getD i 0=y:=⟨_,rfl⟩;simp only [hg]
   by_cases a:x=y
   ·simp [a]
   ·have:(x==y)=false:=by simp [a]
    simp [this,a]
 obtain ⟨r,h1,h2⟩:=this;unfold MI cX;rw [h1]
 by_cases h:0<=r
 ·have:=h2.1 h;simp only [zAF];rw [this];simp [h]
 ·have:l.contains x=false:=by rw [zFM];exact fun hc=>h (h2.2 hc)
  simp only [zAF];rw [this];simp;omega
end Go.Proofs.YtkjbblkieglmlaaGreatDoor
namespace Go.Proofs.YtkjbblkieglmlaaGreatDoor
open Go.RowKit
def G8 (g:List (List Int)):Nat:=(g.map fun r=>r.length+2).sum
theorem YA: ∀ {g:List (List Int)} {r:List Int},r∈g -> r.length+2<=G8 g
 | [],_,h=>by cases h
 | a::g,r,h=>by
  simp only [G8,zET,List.sum_cons];rcases zA3.1 h with rfl | h
  ·omega
  ·have:=YA h;unfold G8 at this;omega
theorem oc {g:List (List Int)} {v:Nat} (hv:v<g.length):G8 (g.drop v)=(g.getD v []).length+2+G8 (g.drop (v+1)):=by
 rw [zBx hv];simp only [G8,zET,List.sum_cons,u8,zAM hv,zEc]
theorem bv {g:List (List Int)} {v:Nat} (hv:v<g.length):g.getD v []∈g:=by
 rw [u8,zAM hv];exact zA7 hv
section
variable {g:List (List Int)} {v j n:Nat}
theorem vG {R:Type} (next Jg:R) (c:Bool -> R) (hc:c true=next) (Kf:c false=Jg) (hv:v<g.length) (hj:j<(g.getD v []).length):
 (if HJ g v (g.getD v []) j then next else Jg)=
  (if (g.getD v []).getD j 0<0 then Jg else if (g.getD v []).getD j 0>=(g.length:Int) then Jg else if (g.getD v []).getD j 0=(v:Int) then Jg else
   if 0<j then (if (g.getD v []).getD (j-1) 0>=(g.getD v []).getD j 0 then Jg else c ((g.getD ((g.getD v []).getD j 0).toNat []).contains (v:Int)))
   else c ((g.getD ((g.getD v []).getD j 0).toNat []).contains (v:Int))):=by
 unfold HJ;obtain ⟨x,hx⟩: ∃ x,(g.getD v []).getD j 0=x:=⟨_,rfl⟩;obtain ⟨y,hy⟩: ∃ y,(g.getD v []).getD (j-1) 0=y:=⟨_,rfl⟩;simp only [hx,hy]
 by_cases a:x<0
 ·have: ¬ 0<=x:=by omega
  simp [a,this]
 ·have a':0<=x:=by omega
  by_cases b:x>=(g.length:Int)
  ·have: ¬ x<(g.length:Int):=by omega
   simp [a,b,this]
  ·have b':x<(g.length:Int):=by omega
   by_cases d:x=(v:Int)
   ·simp [a,b,d]
   ·have d':(x != (v:Int))=true:=by simp [d]
    cases hcc:(g.getD x.toNat []).contains (v:Int) with
    | true=>
     by_cases e:0<j
     ·by_cases f:y>=x
      ·have: ¬ y<x:=by omega
       simp [a,b,d,d',e,f,this,a',b']
      ·have f':y<x:=by omega
       simp [a,b,d,d',e,f,f',a',b',hc]
     ·simp [a,b,d,d',e,a',b',hc]
    | false=>
     by_cases e:0<j
     ·by_cases f:y>=x
      ·have: ¬ y<x:=by omega
       simp [a,b,d,d',e,f,this,a',b']
      ·have f':y<x:=by omega
       simp [a,b,d,d',e,f,f',a',b',Kf]
     ·simp [a,b,d,d',e,a',b',Kf]
theorem t7 {j len:Nat} (h:j<len) (hl:len<=LB):AL ((j:Int)-1):=by rw [As];unfold LB at hl;omega
theorem ZR {j len:Nat} (h:0<j) (h2:j<len):((0:Int)<=(j:Int)-1/\ (j:Int)-1<(len:Int))/\ ((j:Int)-1).toNat=j-1/\ (j:Int)>0:=by omega
theorem zBE {self:Pv -> Option Int} {row:List Int} (KX:row=g.getD v []) (hv:v<g.length) (hg:g.length<=256) (hj:j<(g.getD v []).length) (hr: ∀ r∈g,r.length<=LB) (hn: ∀ r∈g,r.length<n):
 Ww n self g (v:Int) row (v:Int) row (row.length:Int) (j:Int)=(if HJ g v (g.getD v []) j then none else some (120:Int)).or (self (.l2 (v:Int) row (v:Int) row (row.length:Int) ((j:Int)+1))):=by
 subst KX;have Ao:=hr _ (bv hv);have h1:(v:Int)<(g.length:Int):=by omega
 have h2:(j:Int)<((g.getD v []).length:Int):=by omega
 have h3:=r64 hj Ao;obtain ⟨NX,lx⟩: ∃ NX,self (.l2 (v:Int) (g.getD v []) (v:Int) (g.getD v []) ((g.getD v []).length:Int) ((j:Int)+1))=NX:=⟨_,rfl⟩;have key:=vG (g:=g) (v:=v) (j:=j) NX (some (120:Int)) (fun b=>bif b then NX else some 120) rfl rfl hv hj
 have e1:((if HJ g v (g.getD v []) j then none else some (120:Int)).or NX)=(if HJ g v (g.getD v []) j then NX else some 120):=by
  cases HJ g v (g.getD v []) j <;> rfl
 rw [lx,e1,key];simp only [Ww,h1,h2,h3,zEs,zAI,zEo,zFr,zEL,zAL,lx];obtain ⟨x,hx⟩: ∃ x,(g.getD v []).getD j 0=x:=⟨_,rfl⟩;simp only [hx]
 by_cases a:x<0
 ·simp [a]
 by_cases b:x>=(g.length:Int)
 ·simp [a,b]
 by_cases d:x=(v:Int)
 ·simp [a,b,d]
 have d':(x==(v:Int))=false:=by simp [d]
 have WP:g.getD x.toNat []∈g:=bv (by omega);have hh:MI n (g.getD x.toNat []) (v:Int)=some ((g.getD x.toNat []).contains (v:Int)):=zCd (hr _ WP) (hn _ WP);have Hu:0<=x/\ x<(g.length:Int):=by omega
 have fin:((MI n (g.getD x.toNat []) (v:Int)).bind fun y1=>bif (!y1) then some (120:Int) else NX)=(bif (g.getD x.toNat []).contains (v:Int) then NX else some 120):=by
  rw [hh];cases (g.getD x.toNat []).contains (v:Int) <;> rfl
 by_cases e:0<j
 ·have h4:AL ((j:Int)-1)/\ ((0:Int)<=(j:Int)-1/\ (j:Int)-1<((g.getD v []).length:Int)):=⟨t7 hj Ao,(ZR e hj).1⟩;have h5:=(ZR e hj).2.1;have e':=(ZR e hj).2.2;simp only [e',h4,h5,e,Hu,d',zEs,zAI,zAH,zEL,zAC a,zAC b,zFr,zAU a,zAU b,zAU d,fin]
  by_cases f:(g.getD v []).getD (j-1) 0>=x
  ·simp only [f,zEs,zAI,zEL]
  ·simp only [zAC f,zAH,zAU f]
 ·have e': ¬ (j:Int)>0:=by omega
  simp only [Hu,d',zAH,zEL,zAC a,zAC b,zAC e',zFr,zAU a,zAU b,zAU d,zAU e,fin]
end
theorem si {g:List (List Int)} {v:Nat} (hv:v<g.length):((List.range' v (g.length-v)).all fun i=>I1 g i (g.getD i []))=(I1 g v (g.getD v [])&&(List.range' (v+1) (g.length-(v+1))).all fun i=>I1 g i (g.getD i [])):=by
 have:g.length-v=g.length-(v+1)+1:=by omega
 rw [this,zF2,zFf]
theorem mP {g:List (List Int)} (hg:g.length<=256) (hr: ∀ r∈g,r.length<=LB): ∀ (k v n:Nat),v+k=g.length -> G8 (g.drop v)+G8 g+1<=n -> Ie g n (.l1 (v:Int))=some (FL ((List.range' v (g.length-v)).all fun i=>I1 g i (g.getD i [])) 120)
 | 0,v,n,hv,hn=>by
  have:v=g.length:=by omega
  subst this;obtain ⟨m,rfl⟩: ∃ m,n=m+1:=⟨n-1,by omega⟩;simp [Ie,bz,FL]
 | k+1,v,n,hv,hn=>by
  have EF:v<g.length:=by omega
  rw [oc EF] at hn;have hm:=YA (bv EF);obtain ⟨m,rfl⟩: ∃ m,n=m+1:=⟨n-1,by omega⟩;have h1:(v:Int)<(g.length:Int):=by omega
  have e1:Ie g (m+1) (.l1 (v:Int))=Ie g m (.l2 (v:Int) (g.getD v []) (v:Int) (g.getD v []) ((g.getD v []).length:Int) 0):=by
   simp only [Ie,bz,h1,zEs,zAI,zEo,zFr,zEL,zAL]
  rw [e1];have S:=RA (fun n i=>Ie g n (.l2 (v:Int) (g.getD v []) (v:Int) (g.getD v []) ((g.getD v []).length:Int) i)) (g.getD v []).length (G8 g) (fun j=>if HJ g v (g.getD v []) j then none else some 120) (fun n' j Gl hj=>zBE (n:=n') rfl EF hg hj hr fun r Cs=>by have:=YA Cs;omega) (n:=m) (by omega);refine S.trans ?_;rw [mZ,si EF];have eR:((List.range (g.getD v []).length).all fun i=>HJ g v (g.getD v []) i)=I1 g v (g.getD v []):=rfl;rw [eR];cases I1 g v (g.getD v []) with
  | false=>rfl
  | true=>
   obtain ⟨m',CQ⟩: ∃ m',m-(g.getD v []).length=m'+1:=⟨m-(g.getD v []).length-1,by omega⟩;rw [CQ];have h2:AL ((v:Int)+1):=by rw [As];omega
   have ih:=mP hg hr k (v+1) m' (by omega) (by omega);have h3: ¬ (((g.getD v []).length:Int)<((g.getD v []).length:Int)):=by omega
   simp only [zEL,Ie,Ww,h2,zAC h3,zAH,zD9];exact ih
theorem mO {g:List (List Int)} {n:Nat} (hr: ∀ r∈g,r.length<=LB) (hn:2*G8 g+1<=n):TP n g=some (FL (Kk g) 120):=by
 unfold TP mN Kk
 by_cases h:(g.length:Int)>256
 ·have: ¬ g.length<=256:=by omega
  simp [h,this,FL]
 ·have h':g.length<=256:=by omega
  have:=mP h' hr g.length 0 n (by omega) (by simp;omega);simp only [zAC h,zAH,zAJ h',zD9];rw [zF4];simpa using this
end Go.Proofs.YtkjbblkieglmlaaGreatDoor
namespace Go.Proofs.YtkjbblkieglmlaaGreatDoor
open Go.RowKit
theorem ib {s:Int} (h1:1<=s) (h2:s<=16):IntKind.i64.wrap (1*2 ^ s.toNat)=2 ^ s.toNat/\ AL ((2:Int) ^ s.toNat-1)/\ ((0:Int)<=s/\ s<=((IntKind.i64.bits:Nat):Int)):=by
 obtain ⟨m,rfl⟩:=zFC (show 0<=s by omega);rw [zAL];have h:m<17:=by omega
 refine ⟨?_,?_,by omega,by show (m:Int)<=64;omega⟩
 ·revert h;clear h1 h2;revert m;decide
 ·revert h;clear h1 h2;revert m;decide
section
variable {c:AC} {n:Nat}
def VH (sy:Int) (c:AC):Bool:=Ek [c.set,c.other] 0 (2 ^ sy.toNat-1)&&Ek [c.lo,c.hi] 0 65536&&decide (c.runs.length<=8)&&Ek c.runs 1 256
theorem js {a b:Int}:([a,b]:List Int).length<=LB:=by show 2<=LB;unfold LB;omega
theorem vz {l:List Int}:(decide (((l.length:Nat):Int)<=8))=decide (l.length<=8):=by rw [zEi];simp;omega
theorem zBV {self:L7 -> Option Bool} {q:AA} (h1:1<=q.symbols) (h2:q.symbols<=16) (hr:c.runs.length<=LB) (hn:c.runs.length<n) (GO:2<n):W8 n self q c=some (VH q.symbols c):=by
 obtain ⟨p1,p2,p3⟩:=ib h1 h2;unfold W8;rw [p1,zAE ⟨p3,p2⟩,VO js (show 2<n from GO),VO js (show 2<n from GO),VO hr hn];unfold VH;rw [vz];cases Ek [c.set,c.other] 0 (2 ^ q.symbols.toNat-1) <;> cases Ek [c.lo,c.hi] 0 65536 <;> cases decide (c.runs.length<=8) <;> rfl
theorem zBX {self:L7 -> Option Bool} {q:AA} (hq:q.cells<=256) (hc:c.cells.length<=LB) {i:Nat} (hi:i<c.cells.length) {o:List Bool} (ho:o.length=256) (hm: ∀ x:Nat,x<256 -> o.getD x false=(c.cells.take i).contains (x:Int)):
 TX n self q c (i:Int) o=if OO q.cells c.kind c.cells i then self (.l1 ((i:Int)+1) (o.set (0+(c.cells.getD i 0).toNat) true)) else some false:=by
 have h1:(i:Int)<(c.cells.length:Int):=by omega
 have h2:=r64 hi hc;unfold OO;obtain ⟨x,hx⟩: ∃ x,c.cells.getD i 0=x:=⟨_,rfl⟩;simp only [TX,h1,h2,zEs,zAI,zEo,zFr,zEL,zAL,hx]
 by_cases a:x<0
 ·have: ¬ 0<=x:=by omega
  simp [a,this]
 have a':0<=x:=by omega
 by_cases b:x>=q.cells
 ·have: ¬ x<q.cells:=by omega
  simp [a,b,this]
 have b':x<q.cells:=by omega
 have hg:((0:Int)<=x/\ x<((256:Nat):Int))/\ 0+x.toNat<o.length:=⟨⟨a',by omega⟩,by omega⟩
 have zz:o.getD (0+x.toNat) false=(c.cells.take i).contains x:=by
  rw [zAs,hm x.toNat (by omega)]
  congr 1;omega
 simp only [hg,zz,zAC a,zAC b,zAH,zEL,zAJ a',zAJ b',zD9,zFr];cases (c.cells.take i).contains x with
 | true=>rfl
 | false=>
  by_cases e:c.kind>=8
  ·have e':8<=c.kind:=e
   by_cases f:x=(i:Int)
   ·have f1:(x != (i:Int))=false:=by simp [f]
    have f2:(x==(i:Int))=true:=by simp [f]
    simp only [e,e',f1,f2,zEs,zAI,zAH,zEG,zD7,zEa,zD9,zEL]
   ·have f1:(x != (i:Int))=true:=by simp [f]
    have f2:(x==(i:Int))=false:=by simp [f]
    simp only [e,e',f1,f2,zEs,zAI,zAH,zEG,zD7,zEa,zD9,zDJ,zEr]
  ·have e': ¬ 8<=c.kind:=e;simp only [zAC e,zAC e',zEs,zAH,zEG,Bool.true_or,Bool.and_self,zEL]
theorem zBW {self:L7 -> Option Bool} {q:AA} {o:List Bool}:TX n self q c (c.cells.length:Int) o=if GL q.cells c.kind c.cells.length then self .l2 else some false:=by
 have h1: ¬ ((c.cells.length:Int)<(c.cells.length:Int)):=by omega
 simp only [TX,zAC h1,zAH]
 by_cases hk:1<=c.kind/\ c.kind<=9
 ·obtain ⟨k,lH⟩: ∃ k,c.kind=k:=⟨_,rfl⟩;rw [lH] at hk;simp only [lH];have e2:(((c.cells.length:Nat):Int) != 2)= !(c.cells.length==2):=by rw [zEi];simp;omega
  have e3:(((c.cells.length:Nat):Int) != q.cells)= !(((c.cells.length:Nat):Int)==q.cells):=rfl;rcases SZ hk with h | h | h | h | h | h | h | h | h <;> subst h
  ·rfl
  ·rfl
  ·rfl
  ·rfl
  ·rfl
  ·show (bif (((c.cells.length:Nat):Int) != 2) then some false else self .l2)=_
   rw [e2];unfold GL;cases c.cells.length==2 <;> rfl
  ·show (bif (((c.cells.length:Nat):Int) != 2) then some false else self .l2)=_
   rw [e2];unfold GL;cases c.cells.length==2 <;> rfl
  ·show (bif (((c.cells.length:Nat):Int) != q.cells) then some false else self .l2)=_
   rw [e3];unfold GL;cases ((c.cells.length:Nat):Int)==q.cells <;> rfl
  ·show (bif (((c.cells.length:Nat):Int) != q.cells) then some false else self .l2)=_
   rw [e3];unfold GL;cases ((c.cells.length:Nat):Int)==q.cells <;> rfl
 ·have GN:GL q.cells c.kind c.cells.length=false:=by
   rw [zFM];exact fun h=>hk (SY h)
  rw [GN];have z: ∀ m:Int,1<=m -> m<=9 -> (c.kind==m)=false:=fun m h1 h2=>by simp only [zBj];omega
  simp [z 1,z 2,z 3,z 4,z 5,z 6,z 7,z 8,z 9]
theorem mX {q:AA} (hq:q.cells<=256) (hc:c.cells.length<=LB) (h1:1<=q.symbols) (h2:q.symbols<=16) (hr:c.runs.length<=LB): ∀ (k i n:Nat) (o:List Bool),i+k=c.cells.length -> k+c.runs.length+6<=n -> o.length=256 -> (∀ x:Nat,x<256 -> o.getD x false=(c.cells.take i).contains (x:Int)) ->
 P4 q c n (.l1 (i:Int) o)=some ((List.range' i k).all (OO q.cells c.kind c.cells)&&GL q.cells c.kind c.cells.length&&VH q.symbols c)
 | 0,i,n,o,hi,hn,ho,hm=>by
  have:i=c.cells.length:=by omega
  subst this;obtain ⟨m,rfl⟩: ∃ m,n=m+1:=⟨n-1,by omega⟩;refine (zBW (n:=m)).trans ?_;cases GL q.cells c.kind c.cells.length with
  | false=>simp
  | true=>
   obtain ⟨m',rfl⟩: ∃ m',m=m'+1:=⟨m-1,by omega⟩
   show W8 m' (P4 q c m') q c=_
   rw [zBV h1 h2 hr (by omega) (by omega)];simp
 | k+1,i,n,o,hi,hn,ho,hm=>by
  obtain ⟨m,rfl⟩: ∃ m,n=m+1:=⟨n-1,by omega⟩;refine (zBX (n:=m) hq hc (show i<c.cells.length by omega) ho hm).trans ?_;rw [zF2,zFf];cases N6:OO q.cells c.kind c.cells i with
  | false=>simp
  | true=>
   have hx:0<=c.cells.getD i 0/\ c.cells.getD i 0<q.cells:=by
    unfold OO at N6;simp only [zAN,zAx] at N6;exact ⟨N6.1.1.1,N6.1.1.2⟩
   have ih:=mX hq hc h1 h2 hr k (i+1) m (o.set (0+(c.cells.getD i 0).toNat) true) (by omega) (by omega) (by simp [ho]) (fun x xe=>?_)
   ·simp only [zEL,zD9];exact ih
   ·have BV:i<c.cells.length:=by omega
    rw [zAs]
    have ht:c.cells.take (i+1)=c.cells.take i++[c.cells.getD i 0]:=by
     rw [List.take_add_one];simp [BV]
    rw [ht,List.contains_append,←hm x xe];rw [u8,zAy]
    by_cases e:(c.cells.getD i 0).toNat=x
    ·have e2:((x:Nat):Int)=c.cells.getD i 0:=by omega
     rw [zAE e,zAE (by omega)];simp [e2]
    ·have e2: ¬ ((x:Nat):Int)=c.cells.getD i 0:=by omega
     rw [zAU e]
     have e3:([c.cells.getD i 0].contains ((x:Nat):Int))=false:=by
      simp only [List.contains_cons,List.contains_nil,zEb,zBj];exact e2
     rw [e3,zEb,u8]
theorem zBZ {q:AA} (hq:q.cells<=256) (hc:c.cells.length<=LB) (h1:1<=q.symbols) (h2:q.symbols<=16) (hr:c.runs.length<=LB) (hn:c.cells.length+c.runs.length+6<=n):W9 n q c=some (FK q c):=by
 unfold W9 mY;have:=mX hq hc h1 h2 hr c.cells.length 0 n (List.replicate 256 false) (by omega) (by omega) zAl (fun x hx=>by rw [u8,zEA,zAE hx];rfl);refine Eq.trans this ?_;rw [←zF4];unfold FK Xk VH;simp only [Bool.and_assoc]
end
end Go.Proofs.YtkjbblkieglmlaaGreatDoor
namespace Go.Proofs.YtkjbblkieglmlaaGreatDoor
open Go.RowKit
section
variable {c:AC} {n:Nat} {cells sy:Int}
end
def Qk (c:AC):Nat:=c.cells.length*(c.cells.length+2)+c.cells.length+c.runs.length+7
theorem pP (c:AC):Qk c=c.cells.length*(c.cells.length+2)+c.cells.length+c.runs.length+7:=rfl
def FA (q:AA):Nat:=q.values.length+2*G8 q.nbrs+(q.cons.map Qk).sum+q.cons.length+10
structure EA (q:AA):Prop where
 values:q.values.length<=LB
 nbrs: ∀ r∈q.nbrs,r.length<=LB
 cells: ∀ c∈q.cons,c.cells.length<=LB
 runs: ∀ c∈q.cons,c.runs.length<=LB
theorem fR: ∀ {l:List AC} {c:AC},c∈l -> Qk c<=(l.map Qk).sum
 | [],_,h=>by cases h
 | a::l,c,h=>by
  rw [zET,List.sum_cons];rcases zA3.1 h with rfl | h
  ·omega
  ·have:=fR h;omega
section
variable {q:AA} {n:Nat}
theorem zBn {b:Bool}:(FL b 120==0)=b:=by cases b <;> rfl
theorem oz (hF:EA q) (h1:1<=q.cells) (h2:q.cells<=256) (h3:1<=q.symbols) (h4:q.symbols<=16) (h5:q.cons.length<=4096) (hn:FA q<=n): ∃ r:Int,WG n q.cons q=some r/\ (0<=r↔q.cons.all (FK q)=false):=by
 unfold WG kQ;have S:=RA (fun n i=>Lk q.cons q n (.l1 i)) q.cons.length (q.cons.map Qk).sum (fun i=>if FK q (q.cons.getD i default) then none else some (i:Int)) (fun n i Gl hi=>?_) (n:=n) (by unfold FA at hn;omega)
 ·rw [show Lk q.cons q n (.l1 0)=_ from S];cases hf:(List.range q.cons.length).findSome? (fun i=>if FK q (q.cons.getD i default) then none else some (i:Int)) with
  | some r=>
   refine ⟨r,rfl,?_⟩;obtain ⟨i,hi,hr⟩:=zE6 hf;have BV:i<q.cons.length:=by simpa using hi
   split at hr
   ·cases hr
   ·rename_i hx;cases hr;refine ⟨fun _=>?_,fun _=>by omega⟩;rw [List.all_eq_false];exact ⟨q.cons[i],zA7 BV,by simpa [BV] using hx⟩
  | none=>
   obtain ⟨m,hm⟩: ∃ m,n-q.cons.length=m+1:=⟨n-q.cons.length-1,by unfold FA at hn;omega⟩;refine ⟨-1,by rw [hm];simp [Lk,WE],?_⟩;rw [zFO] at hf
   have:q.cons.all (FK q)=true:=by
    rw [←iQ (p:=FK q) (d:=(default:AC)),zAT];intro i hi;have:=hf i hi;cases hc:FK q (q.cons.getD i default) with
    | true=>rfl
    | false=>rw [hc] at this;simp at this
   simp [this]
 ·have AO:(i:Int)<(q.cons.length:Int):=by omega
  have hR:AL ((i:Int)+1):=by rw [As];omega
  have Dv:q.cons.getD i default∈q.cons:=by rw [u8,zAM hi];exact zA7 hi
  have Ay:=fR Dv;have zAP:=zBZ (n:=n) h2 (hF.cells _ Dv) h3 h4 (hF.runs _ Dv) (by rw [pP (q.cons.getD i default)] at Ay;omega)
  show WE n (Lk q.cons q n) q.cons q (i:Int)=_
  generalize Lk q.cons q n=self
  simp only [WE,UX,YK,AO,hR,zEs,zAI,zEo,zFr,zEL,zAL,zAP,zAF];cases FK q (q.cons.getD i default) <;> rfl
theorem UU (hF:EA q) (hn:FA q<=n):valid n q=some (FL (CR q) 191):=by
 unfold valid dz CR;have hv:=VO (lo:=0) (up:=99) hF.values (show q.values.length<n by unfold FA at hn;omega);have hg:=mO hF.nbrs (show 2*G8 q.nbrs+1<=n by unfold FA at hn;omega)
 by_cases c1:q.cells<1
 ·have: ¬ 1<=q.cells:=by omega
  simp [c1,this,FL]
 have nm:1<=q.cells:=by omega
 by_cases c2:q.cells>256
 ·have: ¬ q.cells<=256:=by omega
  simp [c1,c2,this,FL]
 have nf:q.cells<=256:=by omega
 by_cases c3:q.symbols<1
 ·have: ¬ 1<=q.symbols:=by omega
  simp [c1,c2,c3,this,FL]
 have na:1<=q.symbols:=by omega
 by_cases c4:q.symbols>16
 ·have: ¬ q.symbols<=16:=by omega
  simp [c1,c2,c3,c4,this,FL]
 have nZ:q.symbols<=16:=by omega
 simp only [zAC c1,zAC c2,zAC c3,zAC c4,zAJ nm,zAJ nf,zAJ na,zAJ nZ,zAH,zD9,hv,hg,zAF,bne,zBn];cases ((q.values.length:Nat):Int)==q.symbols with
 | false=>rfl
 | true=>
 cases Ek q.values 0 99 with
 | false=>rfl
 | true=>
 cases ((q.nbrs.length:Nat):Int)==q.cells with
 | false=>rfl
 | true=>
 cases Kk q.nbrs with
 | false=>rfl
 | true=>
 by_cases c5:((q.cons.length:Nat):Int)>4096
 ·have: ¬ q.cons.length<=4096:=by omega
  simp [c5,this,FL]
 have nY:q.cons.length<=4096:=by omega
 obtain ⟨r,r1,r2⟩:=oz hF nm nf na nZ nY hn;simp only [XV,cU,r1,zAC c5,zAJ nY,zAF,zAH,zD9,zD7,zBm,zEU];cases ha:q.cons.all (FK q) with
 | false=>
  have:r>=0:=r2.2 ha;simp [this,FL]
 | true=>
  have: ¬ r>=0:=fun h=>by rw [r2.1 h] at ha;cases ha
  simp [this,FL]
theorem ve {k:Int} (h:1<=k/\ k<=9):([0,1,1,2,2,3,1,1,4,4]:List Int).getD k.toNat 0=Z4 k:=by
 rcases SZ h with h | h | h | h | h | h | h | h | h <;> subst h <;> rfl
theorem we (hv:CR q=true) {i:Int} (h0:0<=i) (hi:i<(q.cons.length:Int)):1<=(q.cons.getD i.toNat default).kind/\ (q.cons.getD i.toNat default).kind<=9:=by
 have BV:i.toNat<q.cons.length:=by omega
 have Dv:q.cons.getD i.toNat default∈q.cons:=by rw [u8,zAM BV];exact zA7 BV
 exact SY (kB ((E8 hv).2.2.2.2.2 _ Dv))
theorem vu (hF:EA q) (hn:FA q<=n) (i:Int):SP n q i=some (JF q i):=by
 unfold SP Z9 JF;rw [UU hF hn];cases hv:CR q with
 | false=>rfl
 | true=>
  by_cases h0:i<0
  ·have: ¬ (0<=i/\ i<(q.cons.length:Int)):=by omega
   simp [FL,h0,this]
  ·by_cases hi:i>=(q.cons.length:Int)
   ·have: ¬ (0<=i/\ i<(q.cons.length:Int)):=by omega
    simp [FL,h0,hi,this]
   ·have hc:0<=i/\ i<(q.cons.length:Int):=by omega
    have hk:=we hv hc.1 hc.2;have hg:(0<=i/\ i<(q.cons.length:Int))/\ (0<=(q.cons.getD i.toNat default).kind/\ (q.cons.getD i.toNat default).kind<((10:Nat):Int)):=⟨hc,by omega,by omega⟩;simp only [FL,zEL,zAF,zFq,zAH,zAC h0,zAC hi,zAE hg,zAE hc,ve hk,Bool.true_eq_false,zEr]
theorem md (hn:q.cons.length<n): ∃ b,XG n q=some b:=by
 unfold XG me
 have loop:q.cons.length<=120 -> ∃ b,Km q n (.l1 0)=some b:=fun hl=>by
  have S:=RA (fun n i=>Km q n (.l1 i)) q.cons.length 0 (fun i=>if (!(decide (((q.cons.getD i default).cells.length:Int)>20))&&!(decide (((q.cons.getD i default).runs.length:Int)>10))) then none else some false) (fun n i _ hi=>?_) (n:=n) (by omega)
  ·rw [show Km q n (.l1 0)=_ from S];rw [mZ];split
   ·obtain ⟨m,hm⟩: ∃ m,n-q.cons.length=m+1:=⟨n-q.cons.length-1,by omega⟩;exact ⟨true,by rw [hm];simp [Km,XE]⟩
   ·exact ⟨false,rfl⟩
  ·have AO:(i:Int)<(q.cons.length:Int):=by omega
   have hR:AL ((i:Int)+1):=by rw [As];omega
   show XE n (Km q n) q (i:Int)=_
   generalize Km q n=self
   simp only [XE,AO,hR,zEs,zAI,zEo,zFr,zEL,zAL];cases decide (((q.cons.getD i default).cells.length:Int)>20) <;> cases decide (((q.cons.getD i default).runs.length:Int)>10) <;> rfl
 cases decide (q.cells>16) with
 | true=>exact ⟨_,rfl⟩
 | false=>
 cases decide (q.symbols>6) with
 | true=>exact ⟨_,rfl⟩
 | false=>
 cases decide (((q.values.length:Nat):Int)>8) with
 | true=>exact ⟨_,rfl⟩
 | false=>
 cases decide (((q.nbrs.length:Nat):Int)>20) with
 | true=>exact ⟨_,rfl⟩
 | false=>
 by_cases h:((q.cons.length:Nat):Int)>120
 ·rw [zAJ h];exact ⟨_,rfl⟩
 ·rw [zAC h];exact loop (by omega)
end
end Go.Proofs.YtkjbblkieglmlaaGreatDoor
namespace Go.Proofs.YtkjbblkieglmlaaGreatDoor
abbrev zFP:=@BitVec.ofInt_natCast
abbrev zFs:=@List.filter_eq_nil_iff
abbrev zFt:=@List.mem_range'_1
abbrev zF5:=@Array.replicate_succ
abbrev zF6:=@Array.replicate_zero
abbrev zF9:=@List.append_toArray
abbrev zGC:=@Go.Lib.hid
end Go.Proofs.YtkjbblkieglmlaaGreatDoor
namespace Go.Proofs.YtkjbblkieglmlaaGreatDoor
open Go.RowKit
theorem pD (x k aT:Nat) (w:World) (Fs:((x:Int)==0)=false)
 (key:IntKind.u64.wrap (bits BinOp.and IntKind.u64 (x:Int) (IntKind.u64.wrap (-(x:Int)))*285870213051353865)/288230376151711744=(aT:Int))
 (hi:aT<64) (hk:k<64) (C9:w.cell? ⟨1,aT,none⟩=some (.int .u8 k)):
 Calls Tryz.prog 182 #[.int .u64 x] w fun e w'=>e= .returned (.int .i64 k)/\ w=w':=by
 go_enter Tryz.func182,Tryz.ntmps182
 go_wp2_with (simp only [key])
 go_ret
 exact ⟨rfl,rfl⟩
theorem pE (x:Nat) (hx:x<18446744073709551616) (Fs:x≠0) (w:World) (hT:MQ w):
 Calls Tryz.prog 182 #[.int .u64 x] w fun e w'=>e= .returned (.int .i64 (Lib.ctz 64 x))/\ w=w':=by
 obtain ⟨Wc,hk⟩:=Lib.lowest_bit 64 x Fs hx;obtain ⟨hi,xq⟩:=Lib.deBruijn64_at _ hk;have C9:=hT _ hi;rw [xq] at C9;exact pD x _ _ w (by simp;omega) (tz64_key x _ hx Fs Wc) hi hk C9
theorem pC (x:Nat) (hx:x<18446744073709551616) (Fs:x≠0) (w:World) (hT:MQ w):
 Calls Tryz.prog 175 #[.int .u64 x] w fun e w'=>e= .returned (.int .i64 (Lib.ctz 64 x))/\ w=w':=by
 have h1:=pE x hx Fs w hT
 go_enter Tryz.func175,Tryz.ntmps175
 go_wp2_with (go_at_call 182;refine h1.mono ?_;rintro e w' ⟨rfl,rfl⟩)
 go_ret
 exact ⟨rfl,rfl⟩
def FB (x:Nat):List Nat:=(List.range 64).filter fun s=>x.testBit s
theorem pQ:FB 0= []:=by simp [FB]
theorem vf (k m s:Nat):(2 ^ k*(2*m+1)).testBit s=(decide (k<=s)&&(2*m+1).testBit (s-k)):=by
 rw [zEf,Nat.testBit_mul_two_pow]
theorem uu (m s:Nat):(2*m+1).testBit s=(decide (s=0)||(2*m).testBit s):=by
 cases s with
 | zero=>simp [Nat.testBit_zero]
 | succ s=>simp [Nat.testBit_succ];congr 1;omega
theorem tw: ∀ k,k<64 -> List.range 64=List.range k++k::List.range' (k+1) (63-k):=by decide+kernel
theorem pR (x:Nat) (hx:x<18446744073709551616) (Fs:x≠0):FB x=Lib.ctz 64 x::FB (x&&& (x-1)):=by
 have hc:Lib.ctz 64 x=Lib.ctzFrom 64 x:=by simp [Lib.ctz,Fs]
 obtain ⟨m,hm,hk⟩:=Lib.ctzFrom_spec 64 x (by omega) (by simpa using hx);rw [hc]
 generalize Lib.ctzFrom 64 x=k at*
 have hb: ∀ s,x.testBit s=(decide (k<=s)&&(decide (s-k=0)||(2*m).testBit (s-k))):=fun s=>by rw [hm,vf,uu]
 have hy: ∀ s,(x&&& (x-1)).testBit s=(x.testBit s&&decide (s≠k)):=by
  intro s;have hp:0<2 ^ k:=Nat.two_pow_pos k
  have KU:x-1=2 ^ k*(2*m)+(2 ^ k-1):=by
   rw [hm,Nat.mul_add,zD8];omega
  have lm:(x-1).testBit s=if s<k then (2 ^ k-1).testBit s else (2*m).testBit (s-k):=by
   rw [KU,Nat.testBit_two_pow_mul_add _ (by omega)]
  rw [Nat.testBit_and,lm,hb]
  by_cases h1:s<k
  ·rw [zAC (by omega: ¬ k<=s)];simp
  ·rw [zAU h1]
   by_cases h2:s=k
   ·subst h2;simp
   ·rw [zAJ (by omega:k<=s),zAC (by omega: ¬ s-k=0)];simp [h2]
 unfold FB;have hr:List.range 64=List.range k++k::List.range' (k+1) (63-k):=tw k hk;rw [hr];simp only [List.filter_append,List.filter_cons]
 have h1: ∀ y:Nat,(∀ s,s<k -> y.testBit s=false) -> (List.range k).filter (fun s=>y.testBit s)= []:=fun y h=>by
  rw [zFs];intro s hs;simp [h s (zAi.1 hs)]
 rw [h1 x (fun s hs=>by rw [hb];simp;omega),h1 (x&&& (x-1)) (fun s hs=>by rw [hy,hb];simp;omega)];have h2:x.testBit k=true:=by rw [hb];simp
 have h3:(x&&& (x-1)).testBit k=false:=by rw [hy];simp
 simp only [h2,h3,zEN,zEL,zDJ,zEr]
 congr 1
 apply List.filter_congr;intro s hs;rw [hy];have:=zFt.1 hs;simp;omega
theorem zDi (x:Nat) (hx:x<9223372036854775808) (Fs:x≠0):bits .and .i64 (x:Int) ((x:Int)-1)=((x&&& (x-1):Nat):Int):=by
 have e:((x:Int)-1)=((x-1:Nat):Int):=by omega
 have AO:x&&& (x-1)<=x:=Nat.and_le_left;rw [e]
 have h1:(BitVec.ofInt 64 (x:Int)).toNat=x:=by
  rw [zFP,BitVec.toNat_ofNat];exact zFU (by omega)
 have h2:(BitVec.ofInt 64 ((x-1:Nat):Int)).toNat=x-1:=by
  rw [zFP,BitVec.toNat_ofNat];exact zFU (by omega)
 show IntKind.i64.wrap ((BitVec.ofInt 64 (x:Int)&&& BitVec.ofInt 64 ((x-1:Nat):Int)).toNat:Int)=_
 rw [BitVec.toNat_and,h1,h2];have hm:((x&&& (x-1):Nat):Int) % 2 ^ 64=((x&&& (x-1):Nat):Int):=by omega
 simp only [IntKind.wrap,IntKind.signed,IntKind.bits,hm];rw [zAU (by rw [zD9,zAx];omega)]
def gJ (w:World) (b o:Nat):Nat:=match w.cell? ⟨b,o,none⟩ with
 | some (.int _ x)=>x.toNat
 | _=>0
def Uk (s:Nat):List DV:=[.int .i64 s]
theorem hE1 (R:Nat -> Prop) (W:World) (x:Nat):YV (Uk x) R W #[.int .i64 x]:=⟨rfl,fun j hj=>by
 have:j=0:=Nat.lt_one_iff.1 hj;subst this;rfl⟩
set_option maxRecDepth 100000 in
set_option maxHeartbeats 4000000 in
theorem pT (set b o:Nat) (w:World) (KW:set<9223372036854775808) (hT:MQ w) (hb:w.cell? ⟨b,o,none⟩=some (.int .i64 set)) (GT:w.frozen? ⟨b,o,none⟩=false) (lj:b≠1):
 MZ Tryz.prog 174 #[.pointer (some ⟨b,o,none⟩)] YV ((FB set).map Uk) QV (fun k=>k=b) (fun k=>k=1) w:=by
 intro l J Jx W hJ hJx hU hY h0 _;have HY:=zGC hY;clear hY;have ll:W.cell? ⟨b,o,none⟩=some (.int .i64 set):=hU.cell (fun h=>h (.inl rfl)) hb
 have hfW:W.frozen? ⟨b,o,none⟩=false:=by
  rw [World.frozen?_of_block (hU.block b (zEH w _ hb) (fun h=>h (.inl rfl)))];exact GT
 have lq:MQ W:=fun j hj=>hU.cell (fun h=>h (.inr rfl)) (hT j hj)
 have hS: ∀ W',W.heap.size<=W'.heap.size -> EW (fun k=>k=b) (fun k=>k=1) W':=fun W' h=>⟨fun k e e2=>lj (e.symm.trans e2),fun k hk=>zAW (hk.elim (fun e=>e▸zEH W _ ll) (fun e=>e▸zEH W _ (lq 0 (by decide)))) h⟩
 obtain ⟨G,hG⟩: ∃ G:Nat -> Prop,(fun k=>k=b)=G:=⟨_,rfl⟩;obtain ⟨R,lw⟩: ∃ R:Nat -> Prop,(fun k=>k=1)=R:=⟨_,rfl⟩;rw [hG,lw] at h0 hS;have bf:G b:=by rw [←hG]
 have hRt:R 1:=by rw [←lw]
 refine callsIn_of_wp Tryz.func174 rfl trivial ?_ rfl;simp only [Tryz.ntmps174,zE5,zAw,zEE,Nat.reduceAdd,Nat.reduceSub,zF5,zF6,List.push_toArray,zF9,zEN,zFW]
 gi_wp2
 gi_loopw [3,4,5,6,7,8,9,10,11,12,13,14] (fun _ _ _ _ _ _ _ _ _ _ _ _ wr=>∃ (i x:Nat),W.heap.size<=wr.heap.size/\ x<9223372036854775808/\ i<=(FB set).length/\ Hid ((FB set).drop i=FB x)/\ Hid (J i G R wr)/\ wr.cell? ⟨b,o,none⟩=some (.int .i64 x)/\ wr.frozen? ⟨b,o,none⟩=false/\ Hid (MQ wr))
  (fun _ _ _ _ _ _ _ _ _ _ _ _ wr=>gJ wr b o)
 case atStart=>exact ⟨0,set,zAp _,KW,zEj _,zGC rfl,zGC h0,ll,hfW,zGC lq⟩
 case round=>
  obtain ⟨i,x,Ay,hx,Ef,hd,hj,hc,hf,ht⟩:=hrel
  by_cases Fs:x=0
  ·subst Fs
   have Eg:i=(FB set).length:=by
    have:=congrArg List.length hd.out;rw [zFz,pQ,zEE] at this;omega
   gi_wp2
   go_end0
   exact ⟨G,R,hS _ Ay,.inl ⟨Eg▸hj.out,_,rfl⟩⟩
  ·have N0:((x:Int)==0)=false:=by simp [Fs]
   have Ny:(FB set).drop i=Lib.ctz 64 x::FB (x&&& (x-1)):=by rw [hd.out,pR x (by omega) Fs]
   have Eg:i<(FB set).length:=by
    rcases zBG i (FB set).length with h | h
    ·exact h
    ·rw [zEY h] at Ny;cases Ny
   have hie:(FB set)[i]=Lib.ctz 64 x:=by
    have:=zBx Eg;rw [Ny] at this;injection this with h1 h2;exact h1.symm
   obtain ⟨fn,tmps,UA,body,hy,hR⟩:=HY.out i (Uk (Lib.ctz 64 x)) #[.int .i64 (Lib.ctz 64 x)] G R wr (by rw [zA1,zAM Eg,hie];rfl) (hE1 R wr _) hj.out (hS _ Ay);have hR':=zGC hR;clear hR;have xp:=zGC (pC x (by omega) Fs wr ht.out);have zAZ:=zGC Ny;clear Ny hd
   gi_wp2_with (first | refine ⟨trivial,rfl,?_⟩ | (gi_at_call 175;refine (zGB.2 xp.out).mono ?_;rintro e w' ⟨rfl,rfl⟩))
   refine ⟨rfl,hR'.out.mono ?_⟩;rintro e W1 ⟨Hx,(⟨rfl,hj1⟩ | ⟨rfl,KU⟩)⟩
   ·have hc1:W1.cell? ⟨b,o,none⟩=some (.int .i64 x):=Hx.cell (fun h=>h (.inl bf)) hc
    have hf1:W1.frozen? ⟨b,o,none⟩=false:=by
     rw [World.frozen?_of_block (Hx.block b (zEH wr _ hc) (fun h=>h (.inl bf)))];exact hf
    have ka:MQ W1:=fun j hj=>Hx.cell (fun h=>h (.inr hRt)) (ht.out j hj)
    have Cp:AP G W1 (W1.setCell ⟨b,o,none⟩ (.int .i64 ((x&&& (x-1):Nat):Int))):=(AP.refl G W1).setCell (fun _=>bf) _;have xx:=zAt Ay (zAt Hx.size Cp.size);have Gm:=zGC ((hJ _).same (hS _ (zAt Ay Hx.size)) hj1 Cp)
    have xw:Hid (MQ (W1.setCell ⟨b,o,none⟩ (.int .i64 ((x&&& (x-1):Nat):Int)))):=zGC fun j hj=>
     ((AP.refl (fun k=>k=b) W1).setCell (fun _=>rfl) _).cell (fun e=>lj e.symm) (ka j hj)
    have AO:x&&& (x-1)<x:=Nat.lt_of_le_of_lt Nat.and_le_right (by omega);clear Cp ka
    gi_wp2
    rw [zDi x hx Fs];have Kf:(W1.setCell ⟨b,o,none⟩ (.int .i64 ((x&&& (x-1):Nat):Int))).cell? ⟨b,o,none⟩=some (.int .i64 ((x&&& (x-1):Nat):Int)):=World.cell?_setCell_same' W1 _ _ (by rw [hc1];rfl);refine ⟨⟨_,_,_,_,_,_,_,_,_,_,_,_,⟨i+1,x&&& (x-1),xx,by omega,Eg,zGC ?_,Gm,Kf,?_,xw⟩,rfl⟩,?_⟩
    ·rw [←List.drop_drop,zAZ.out];rfl
    ·rw [World.frozen?_setCell];exact hf1
    ·unfold gJ;rw [Kf,hc]
     show ((x&&& (x-1):Nat):Int).toNat<(x:Int).toNat
     omega
   ·gi_wp2
    refine bodyPost_ret (results_none rfl _ _ _) rfl ?_;exact ⟨G,R,hS _ (zAt Ay Hx.size),.inr ⟨⟨_,rfl⟩,KU⟩⟩
def B5 (x:Int):List Int:=(FB x.toNat).map fun (s:Nat)=>(s:Int)
theorem zBw (x:Int):(B5 x).map BP=(FB x.toNat).map Uk:=by
 unfold B5;rw [List.map_map];rfl
theorem pS {x:Int} (hx:(0:Int)<=x/\ x<9223372036854775808) (w:World) (b o:Nat) (u:Value) (hg:GG.gi w) (Ct:GG.ng<=b) (hb: ∃ cs t,w.heap[b]? =some (.cells cs t (0,0))) (hc:w.cell? ⟨b,o,none⟩=some u) (hr:u= .int .i64 x):
 MZ Tryz.prog 174 #[.pointer (some ⟨b,o,none⟩)] YV ((B5 x).map BP) QV (fun k=>k=b) (fun k=>k=1) w:=by
 rw [zBw];obtain ⟨cs,t,hb⟩:=hb;have Ct:2<=b:=Ct;refine pT x.toNat b o w (by omega) hg.1 ?_ ?_ (by omega)
 ·rw [hc,hr];congr 2;omega
 ·unfold World.frozen?;simp [hb]
end Go.Proofs.YtkjbblkieglmlaaGreatDoor
namespace Go.Proofs.YtkjbblkieglmlaaGreatDoor
open Go.RowKit
theorem ES.iterOf {P:Program} {Γ:Ar} {f gf:Nat} {ds:List DV} {c:Nat -> DV} {d:DV} {encs:List (List DV)} {Rd:Nat -> Prop} (h0:ES P Γ f ds [] (.fn gf 1 c) [some (.cells [d])] true) (hc:c 0= .ref 0 0) (D8:ds.all Eo=true)
 (eg: ∀ args W,(callFunc gf args).run P W= .ok (.enter gf args) W)
 (wR: ∀ (w:World) (b o:Nat) (u:Value),Γ.gi w -> Γ.ng<=b -> (∃ cs t,w.heap[b]? =some (.cells cs t (0,0))) -> w.cell? ⟨b,o,none⟩=some u -> AM (fun _=>False) w d [] u -> MZ P gf #[.pointer (some ⟨b,o,none⟩)] YV encs QV (fun k=>k=b) Rd w)
 (hd:O8 d=true) (hRd: ∀ b,Rd b -> b<Γ.ng) (h:DH):ES P Γ f ds h (.it h.length) (h++[some (.iter encs)]) true:=by
 refine ⟨h0.1,fun N ρ w args HR Cb=>?_⟩;refine (h0.2 (MS N h ρ) [] w args (Pb (fun b hb=>HR.lt2 hb) HR.gi) ⟨Cb.1,fun i hi=>?_⟩).mono ?_
 ·have hx:=KD (zAT.1 D8 (ds.getD i .any) (by simp [hi]));exact AM.out _ (C6 (fun b hb=>OZ.1 hb) []) (hx _ _ _ _ (Cb.2 i hi))
 ·rintro e w' ⟨v,rfl,⟨⟨ρ',g1,g2,g3,g4⟩,g5⟩⟩;have hE:=g5 rfl;obtain ⟨p,hp,C8⟩:=g1.obj 0 _ rfl;have C8:AX w' p 1 _:=C8;have hf: ∀ b,p.foot b -> w.heap.size<=b:=fun b hb=>(g3.grow b ⟨0,_,p,rfl,hp,hb⟩).resolve_left fun ⟨k,o',p',q1,_⟩=>by simp at q1
  obtain ⟨lb,hv,hl,Lv⟩:=g2;obtain ⟨u,hu,hr⟩:=Lv 0 (by omega);rw [hc] at hr;obtain ⟨p',BF,WQ⟩:=hr;have ep:p'=p:=zAR (BF.symm.trans hp);subst ep
  have zAD:lb= #[.pointer (some ⟨p'.blk,p'.off,none⟩)]:=by
   apply Array.ext
   ·simp [hl]
   ·intro i h1 h2;have:i=0:=by omega
    subst this;have:=zAK.1 hu;obtain ⟨_,e⟩:=this;rw [e,WQ];rfl
  subst zAD;obtain ⟨u2,c1,c2⟩:=AX.cell C8 (j:=0) (by omega);have Ey:p'.foot=fun b=>b=p'.blk:=C8.1
  have Ct:Γ.ng<=w.heap.size:=Γ.lo _ HR.gi;have C9:=g1.cel 0 _ p' p'.blk rfl hp (by rw [Ey]);refine ⟨v,rfl,⟨⟨ρ++[{ p' with val:=v }],HR.snoc hE (fun b hb=>⟨hf b hb,(g1.cel 0 _ p' b rfl hp hb).2.2⟩) ?_,⟨{ p' with val:=v },by rw [←HR.len];simp,rfl⟩,A6.snoc HR hE hf,fun _ _ h=>ET h⟩,g5⟩⟩;obtain ⟨_,cs,t,DW,_⟩:=C8;refine ⟨gf,_,Rd,⟨hv,eg⟩,?_,fun b hb=>?_,fun b hb=>?_⟩
  ·show MZ P gf _ YV encs QV p'.foot Rd w'
   rw [Ey];refine wR w' _ _ u2 g1.gi C9.1 ⟨cs,t,DW⟩ (by simpa using c1) ?_;exact AM.out _ (C6 (fun b hb=>hb.elim) []) (ZS hd c2)
  ·have DA:=hRd b hb;refine ⟨fun hm=>?_,zAW (zAW DA Ct) hE.size⟩;rcases hm with hm | hm
   ·have:=(HR.nlt b hm).2;omega
   ·rcases MO.snoc HR hm with hm | hm
    ·have:=HR.low hm;omega
    ·have:=hf b hm;omega
  ·obtain ⟨_,_,c,t,z,h4⟩:=g1.cel 0 _ p' b rfl hp hb;exact (zAK.1 h4).1
end Go.Proofs.YtkjbblkieglmlaaGreatDoor
namespace Go.Proofs.YtkjbblkieglmlaaGreatDoor
open Go.RowKit
set_option maxRecDepth 100000
set_option maxHeartbeats 40000000
inductive XR where
 | l1 (x7:Int)
def To (n:Nat) (self:XR -> Option Bool) (sets:List Int) (x7:Int):Option Bool:=
 bif (decide (x7<(sets.length:Int))) then
  if 0<=x7/\ x7<(sets.length:Int) then
   bif ((sets.getD ((x7).toNat) 0)==0) then
    some true
   else
    if AL (x7+1) then
     self (.l1 (x7+1))
    else none
  else none
 else
  some false
def nH (n:Nat) (self:XR -> Option Bool) (sets:List Int):Option Bool:=
 self (.l1 0)
def QF (sets:List Int):Nat -> XR -> Option Bool
 | 0,_=>none
 | n+1,.l1 x7=>To n (QF sets n) sets x7
def Tp (n:Nat) (sets:List Int):Option Bool:=nH n (QF sets n) sets
def zCK (n B:Nat) (N:Yd 0) (sets:List Int) (r:Bool):XR -> Prop
 | .l1 x7=>∀ m0:Nat,n<=m0 -> TW B N (FQ Tryz.f106 0 (.bool r) []) (A3 m0 (BB (AW Tryz.f106) 0 [])) ⟨AG 14 [(5,.ints sets),(6,.i (sets.length:Int)),(7,.i x7)],[]⟩
theorem zCL (B:Nat) (N:Yd 0) (sets:List Int):Al (QF sets) (zCK · B N sets):=ia (fun _=>rfl) fun n AJ pt r h=>by
 cases pt
 case l1 x7=>
  intro m0 AE;refine rd AE fun m0 AE=>?_
  revert r;apply gO;exact bi 8 (gi (bi 12 (lE AB [2] []) (gw 13 (lG AB [] (AJ _ _ · m0 AE))))) (lE AB [2] [])
theorem nG {n:Nat} {sets:List Int} {r:Bool} (h:Tp n sets=some r):EQ 106 [.ints sets] [] (.bool r) [] true:=by
 refine ot Tryz.func106 fun B N=>?_
 revert r;apply gO;exact lN AB [] ((zCL B N sets n) _ _ · n Nat.le.refl)
def aI (n:Nat) (pos:List Int):Option Bool:=
 (Tp n pos).bind fun y1=>
  some y1
def JI (n:Nat) (pos:List Int):Option Bool:=aI n pos
theorem Nc {n:Nat} {pos:List Int} {r:Bool} (h:JI n pos=some r):EQ 84 [.ints pos] [] (.bool r) [] true:=by
 unfold JI aI at h;refine ot Tryz.func84 fun B N=>?_
 revert r;apply gO;exact cf nG [] fun _=>lE AB [2] []
def Zo (n:Nat) (pos:List Int):Option ((List Int)):=
 (Tp n pos).bind fun y1=>
  bif y1 then
   if ((pos.length:Int):Int)=(pos.length:Int)/\ 0<=(pos.length:Int)/\ ((pos.length:Int):Int)<=1000000000000 then
    if pos.length=(List.replicate pos.length (0:Int)).length then
     some (List.replicate pos.length (0:Int))
    else none
   else none
  else
   some pos
def PD (n:Nat) (pos:List Int):Option ((List Int)):=Zo n pos
theorem u9 {n:Nat} {pos:List Int} {r:(List Int)} (h:PD n pos=some r):EQ 143 [.ints pos] [] (.ints r) [] true:=by
 unfold PD Zo at h;refine ot Tryz.func143 fun B N=>?_
 revert r;apply gO;exact cf nG [] fun _=>bi 4 (gi (gn fun g1=>lF fun p=>ez AB [2] [0] p [0] (H0.g g1))) (lE AB [2] [])
inductive VR where
 | l1 (x20:Int)
def Rn (n:Nat) (self:VR -> Option Int) (q:AA) (pos:List Int) (x20:Int):Option Int:=
 bif (decide (x20<(pos.length:Int))) then
  if 0<=x20/\ x20<(pos.length:Int) then
   bif (decide ((pos.getD ((x20).toNat) 0)<0)) then
    some 250
   else
    if 0<=q.symbols/\ q.symbols<=(IntKind.i64.bits:Int) then
     bif (decide ((pos.getD ((x20).toNat) 0)>=(IntKind.i64.wrap (1*2 ^ (q.symbols).toNat)))) then
      some 250
     else
      if AL (x20+1) then
       self (.l1 (x20+1))
      else none
    else none
  else none
 else
  some 0
def ij (n:Nat) (self:VR -> Option Int) (q:AA) (pos:List Int):Option Int:=
 (valid n q).bind fun y1=>
  bif (y1 != 0) then
   some y1
  else
   bif ((pos.length:Int) != q.cells) then
    some 250
   else
    self (.l1 0)
def NF (q:AA) (pos:List Int):Nat -> VR -> Option Int
 | 0,_=>none
 | n+1,.l1 x20=>Rn n (NF q pos n) q pos x20
def NH (n:Nat) (q:AA) (pos:List Int):Option Int:=ij n (NF q pos n) q pos
def uS (n B:Nat) (N:Yd 0) (q:AA) (pos:List Int) (r:Int):VR -> Prop
 | .l1 x20=>∀ m0:Nat,n<=m0 -> TW B N (FQ Tryz.f55 0 (.i r) []) (A3 m0 (BB (AW Tryz.f55) 0 [])) ⟨AG 34 [(2,.ref 0 0),(18,.ints pos),(19,.i (pos.length:Int)),(20,.i x20)],[some (.cells (AD q))]⟩
theorem uT (B:Nat) (N:Yd 0) (q:AA) (pos:List Int):Al (NF q pos) (uS · B N q pos):=ia (fun _=>rfl) fun n AJ pt r h=>by
 cases pt
 case l1 x20=>
  intro m0 AE;refine rd AE fun m0 AE=>?_
  revert r;apply gO;exact bi 21 (gi (bi 25 (lE AB [4] []) (gi (bi 31 (lE AB [4] []) (gw 33 (lG AB [0] (AJ _ _ · m0 AE))))))) (lE AB [4] [])
theorem ZU {n:Nat} {q:AA} {pos:List Int} {r:Int} (h:NH n q pos=some r):EQ 55 [.agg 5 (L1 (AD q)),.ints pos] [] (.i r) [] true:=by
 refine ot Tryz.func55 fun B N=>?_
 revert r;apply gO;exact cf UT [some (.cells (AD q))] fun _=>bi 11 (lE AB [4] []) (bi 17 (lE AB [4] []) (lN AB [0] ((uT B N q pos n) _ _ · n Nat.le.refl)))
def nQ (n:Nat) (s_:List Int):Option ((List Int)):=
 if 0<s_.length/\ ((True)/\ (0=0/\ 0=([]:List Int).length)/\ ([]:List Int).length+s_.length<=BA) then
  if ([]:List Int).length+s_.length=(([]:List Int)++s_).length then
   some (([]:List Int)++s_)
  else none
 else none
def Xg (n:Nat) (s_:List Int):Option ((List Int)):=nQ n s_
theorem zCt {n:Nat} {s_:List Int} {r:(List Int)} (h:Xg n s_=some r):EQ 141 [.ints s_] [] (.msl 0 1 0 r.length) [some (.ints r)] true:=by
 refine ot Tryz.func141 fun B N=>?_
 revert r;apply gO;exact gc (gi (gi (gn fun g2=>lF fun p=>el AB [2] [1] p [] H0 [.msl 0 1 0 (([]:List Int).length+s_.length)] (AR.mslN g2))))
def cg (n:Nat) (s_:List Bool):Option ((List Bool)):=
 if 0<s_.length/\ ((True)/\ (0=0/\ 0=([]:List Bool).length)/\ ([]:List Bool).length+s_.length<=BA) then
  if ([]:List Bool).length+s_.length=(([]:List Bool)++s_).length then
   some (([]:List Bool)++s_)
  else none
 else none
def ON (n:Nat) (s_:List Bool):Option ((List Bool)):=cg n s_
theorem nR {n:Nat} {s_:List Bool} {r:(List Bool)} (h:ON n s_=some r):EQ 178 [.bools s_] [] (.msl 0 1 0 r.length) [some (.bools r)] true:=by
 refine ot Tryz.func178 fun B N=>?_
 revert r;apply gO;exact gc (gi (gi (gn fun g2=>lF fun p=>el AB [2] [1] p [] H0 [.msl 0 1 0 (([]:List Bool).length+s_.length)] (AR.mslN g2))))
def cj (n:Nat) (q:AA) (i:Int) (pos:List Int):Option Int:=
 (SP n q i).bind fun y1=>
  bif (y1.2 != 0) then
   some y1.2
  else
   (NH n q pos).bind fun y2=>
    some y2
def QM (n:Nat) (q:AA) (i:Int) (pos:List Int):Option Int:=cj n q i pos
theorem zCy {n:Nat} {q:AA} {i:Int} {pos:List Int} {r:Int} (h:QM n q i pos=some r):EQ 104 [.agg 5 (L1 (AD q)),.i i,.ints pos] [] (.i r) [] true:=by
 unfold QM cj at h;refine ot Tryz.func104 fun B N=>?_
 revert r;apply gO;exact cf vt [some (.cells (AD q))] fun _=>bi 16 (lE AB [6] []) (cf ZU [some (.cells (AD q))] fun _=>lE AB [6] [])
inductive Wu where
 | l1 (Ce:Int)
def TK (n:Nat) (self:Wu -> Option Int) (g_:List (List Int)) (sets:List (List Bool)) (Ce:Int):Option Int:=
 bif (decide (Ce<(sets.length:Int))) then
  if 0<=Ce/\ Ce<(sets.length:Int) then
   bif ((((sets.getD ((Ce).toNat) []).length:Nat):Int) != (g_.length:Int)) then
    some 1
   else
    if AL (Ce+1) then
     self (.l1 (Ce+1))
    else none
  else none
 else
  some 0
def mH (n:Nat) (self:Wu -> Option Int) (g_:List (List Int)) (sets:List (List Bool)):Option Int:=
 (TP n g_).bind fun y1=>
  bif (y1 != 0) then
   some y1
  else
   self (.l1 0)
def Pp (g_:List (List Int)) (sets:List (List Bool)):Nat -> Wu -> Option Int
 | 0,_=>none
 | n+1,.l1 Ce=>TK n (Pp g_ sets n) g_ sets Ce
def JX (n:Nat) (g_:List (List Int)) (sets:List (List Bool)):Option Int:=mH n (Pp g_ sets n) g_ sets
def zA8 (n B:Nat) (N:Yd 0) (g_:List (List Int)) (sets:List (List Bool)) (r:Int):Wu -> Prop
 | .l1 Ce=>∀ m0:Nat,n<=m0 -> TW B N (FQ Tryz.f102 0 (.i r) []) (A3 m0 (BB (AW Tryz.f102) 0 [])) ⟨AG 25 [(0,.sl 1 g_.length (AQ BS g_)),(13,.sl 1 sets.length (AQ QO sets)),(14,.i (sets.length:Int)),(15,.i Ce)],[]⟩
theorem zA9 (B:Nat) (N:Yd 0) (g_:List (List Int)) (sets:List (List Bool)):Al (Pp g_ sets) (zA8 · B N g_ sets):=ia (fun _=>rfl) fun n AJ pt r h=>by
 cases pt
 case l1 Ce=>
  intro m0 AE;refine rd AE fun m0 AE=>?_
  revert r;apply gO;exact bi 16 (gi (bi 23 (lE AB [4] []) (gw 24 (lG AB [] (AJ _ _ · m0 AE))))) (lE AB [4] [])
theorem Ws {n:Nat} {g_:List (List Int)} {sets:List (List Bool)} {r:Int} (h:JX n g_ sets=some r):EQ 102 [.sl 1 g_.length (AQ BS g_),.sl 1 sets.length (AQ QO sets)] [] (.i r) [] true:=by
 refine ot Tryz.func102 fun B N=>?_
 revert r;apply gO;exact cf mM [] fun _=>bi 11 (lE AB [4] []) (lN AB [] ((zA9 B N g_ sets n) _ _ · n Nat.le.refl))
end Go.Proofs.YtkjbblkieglmlaaGreatDoor
namespace Go.Proofs.YtkjbblkieglmlaaGreatDoor
open Go.RowKit
set_option maxRecDepth 100000
set_option maxHeartbeats 40000000
theorem rf:Av (Ah Tryz.f158 0) [] (List.range 18) [18]:=by unfold Av;kernel_rfl
def qY:Bi:=fun i=>match i with
 | 0=>.ord [] (List.range 18) [18]
 | _=>.no
def Z5 (n:Nat) (cell ss:Int) (c:AC) (q:AA) (pos:List Int) (ln:Nat) (lost:List Int):Option ((List Int)):=
 if (0<=cell/\ cell<(ln:Int))/\ 0+((cell).toNat)<lost.length/\ (0<=cell/\ cell<(pos.length:Int)) then
  some (lost.set (0+((cell).toNat)) (bits .or .i64 (lost.getD (0+((cell).toNat)) 0) (bits .and .i64 (pos.getD ((cell).toNat) 0) ss)))
 else none
def DU (n:Nat) (cell ss:Int) (c:AC) (q:AA) (pos:List Int) (ln:Nat) (lost:List Int):Option ((List Int)):=Z5 n cell ss c q pos ln lost
theorem Fr {n:Nat} {cell ss:Int} {c:AC} {q:AA} {pos:List Int} {ln:Nat} {lost:List Int} {r:(List Int)} (h:DU n cell ss c q pos ln lost=some r):EQ 158 [.ref 0 0,.i cell,.i ss] [some (.cells (AK c++AD q++[.ints pos,.msl 1 1 0 ln])),some (.ints lost)] (.tup 0 (fun j=>([]:List DV).getD j .any)) [some (.cells (AK c++AD q++[.ints pos,.msl 1 1 0 ln])),some (.ints r)] false:=by
 refine ot Tryz.func158 fun B N=>?_
 revert r;apply gO;exact jg rf (gc (gn fun g0=>jg g0 (gc (gn fun g1=>jg g1 (gi (jg g0 (jg g1 (lE qY [] [0,1]))))))))
theorem rR:Av (Ah Tryz.f159 0) [] (List.range 22) [22]:=by unfold Av;kernel_rfl
def qW:Bi:=fun i=>match i with
 | 0=>.ord [] (List.range 22) [22]
 | _=>.no
def Zh (n:Nat) (cell:Int) (c:AC) (q:AA) (pos:List Int) (ln:Nat) (lost:List Int):Option ((List Int)):=
 if (0<=cell/\ cell<(ln:Int))/\ 0+((cell).toNat)<lost.length/\ (0<=cell/\ cell<(pos.length:Int)) then
  some (lost.set (0+((cell).toNat)) (bits .or .i64 (lost.getD (0+((cell).toNat)) 0) (bits .andNot .i64 (pos.getD ((cell).toNat) 0) c.set)))
 else none
def GI (n:Nat) (cell:Int) (c:AC) (q:AA) (pos:List Int) (ln:Nat) (lost:List Int):Option ((List Int)):=Zh n cell c q pos ln lost
theorem Lc {n:Nat} {cell:Int} {c:AC} {q:AA} {pos:List Int} {ln:Nat} {lost:List Int} {r:(List Int)} (h:GI n cell c q pos ln lost=some r):EQ 159 [.ref 0 0,.i cell] [some (.cells (AK c++AD q++[.ints pos,.msl 1 1 0 ln])),some (.ints lost)] (.tup 0 (fun j=>([]:List DV).getD j .any)) [some (.cells (AK c++AD q++[.ints pos,.msl 1 1 0 ln])),some (.ints r)] false:=by
 refine ot Tryz.func159 fun B N=>?_
 revert r;apply gO;exact jg rR (gc (gn fun g0=>jg g0 (gc (gn fun g1=>jg g1 (gi (jg g0 (jg g1 (lE qW [] [0,1]))))))))
inductive Tl where
 | l1 (x3 x4 BJ:Int)
 | l2 (x3 x4 B9:Int) (o1:List Int)
def Tj (n:Nat) (self:Tl -> Option (Bool×(List Int))) (c:AC) (q:AA) (pos:List Int) (ln:Nat) (lost:List Int) (x3 x4 BJ:Int):Option (Bool×(List Int)):=
 bif (decide (BJ<(c.cells.length:Int))) then
  if (0<=BJ/\ BJ<(c.cells.length:Int))/\ (0<=(c.cells.getD ((BJ).toNat) 0)/\ (c.cells.getD ((BJ).toNat) 0)<(pos.length:Int))/\ AL ((pos.getD ((c.cells.getD ((BJ).toNat) 0).toNat) 0)-1) then
   bif ((bits .and .i64 (pos.getD ((c.cells.getD ((BJ).toNat) 0).toNat) 0) ((pos.getD ((c.cells.getD ((BJ).toNat) 0).toNat) 0)-1))==0) then
    if AL (BJ+1) then
     self (.l1 (bits .or .i64 x3 (pos.getD ((c.cells.getD ((BJ).toNat) 0).toNat) 0)) (bits .or .i64 x4 (bits .and .i64 x3 (pos.getD ((c.cells.getD ((BJ).toNat) 0).toNat) 0))) (BJ+1))
    else none
   else
    if AL (BJ+1) then
     self (.l1 x3 x4 (BJ+1))
    else none
  else none
 else
  self (.l2 x3 x4 0 lost)
def Ti (n:Nat) (self:Tl -> Option (Bool×(List Int))) (c:AC) (q:AA) (pos:List Int) (ln:Nat) (lost:List Int) (x3 x4 B9:Int) (o1:List Int):Option (Bool×(List Int)):=
 bif (decide (B9<(c.cells.length:Int))) then
  if (0<=B9/\ B9<(c.cells.length:Int))/\ (0<=(c.cells.getD ((B9).toNat) 0)/\ (c.cells.getD ((B9).toNat) 0)<(pos.length:Int))/\ AL ((pos.getD ((c.cells.getD ((B9).toNat) 0).toNat) 0)-1) then
   bif ((bits .and .i64 (pos.getD ((c.cells.getD ((B9).toNat) 0).toNat) 0) ((pos.getD ((c.cells.getD ((B9).toNat) 0).toNat) 0)-1))==0) then
    (DU n (c.cells.getD ((B9).toNat) 0) (bits .or .i64 (bits .andNot .i64 x3 (pos.getD ((c.cells.getD ((B9).toNat) 0).toNat) 0)) x4) c q pos ln o1).bind fun y1=>
     if AL (B9+1) then
      self (.l2 x3 x4 (B9+1) y1)
     else none
   else
    (DU n (c.cells.getD ((B9).toNat) 0) x3 c q pos ln o1).bind fun y1=>
     if AL (B9+1) then
      self (.l2 x3 x4 (B9+1) y1)
     else none
  else none
 else
  some (true,o1)
def nB (n:Nat) (self:Tl -> Option (Bool×(List Int))) (c:AC) (q:AA) (pos:List Int) (ln:Nat) (lost:List Int):Option (Bool×(List Int)):=
 self (.l1 0 0 0)
def Jd (c:AC) (q:AA) (pos:List Int) (ln:Nat) (lost:List Int):Nat -> Tl -> Option (Bool×(List Int))
 | 0,_=>none
 | n+1,.l1 x3 x4 BJ=>Tj n (Jd c q pos ln lost n) c q pos ln lost x3 x4 BJ
 | n+1,.l2 x3 x4 B9 o1=>Ti n (Jd c q pos ln lost n) c q pos ln lost x3 x4 B9 o1
def QB (n:Nat) (c:AC) (q:AA) (pos:List Int) (ln:Nat) (lost:List Int):Option (Bool×(List Int)):=nB n (Jd c q pos ln lost n) c q pos ln lost
def zB9 (n B:Nat) (N:Yd 2) (c:AC) (q:AA) (pos:List Int) (ln:Nat) (lost:List Int) (r:Bool×(List Int)):Tl -> Prop
 | .l1 x3 x4 BJ=>∀ m0:Nat,n<=m0 -> TW B N (FQ Tryz.f132 2 (.bool r.1) [some (.cells (AK c++AD q++[.ints pos,.msl 1 1 0 ln])),some (.ints r.2)]) (A3 m0 (BB (AW Tryz.f132) 0 [])) ⟨AG 77 [(0,.ref 0 0),(3,.i x3),(4,.i x4),(15,.ints c.cells),(16,.i (c.cells.length:Int)),(17,.i BJ)],[some (.cells (AK c++AD q++[.ints pos,.msl 1 1 0 ln])),some (.ints lost)]⟩
 | .l2 x3 x4 B9 o1=>∀ m0:Nat,n<=m0 -> TW B N (FQ Tryz.f132 2 (.bool r.1) [some (.cells (AK c++AD q++[.ints pos,.msl 1 1 0 ln])),some (.ints r.2)]) (A3 m0 (BB (AW Tryz.f132) 2 [])) ⟨AG 77 [(0,.ref 0 0),(3,.i x3),(4,.i x4),(46,.ints c.cells),(47,.i (c.cells.length:Int)),(48,.i B9)],[some (.cells (AK c++AD q++[.ints pos,.msl 1 1 0 ln])),some (.ints o1)]⟩
theorem zCA (B:Nat) (N:Yd 2) (c:AC) (q:AA) (pos:List Int) (ln:Nat) (lost:List Int):Al (Jd c q pos ln lost) (zB9 · B N c q pos ln lost):=ia (fun _=>rfl) fun n AJ pt r h=>by
 cases pt
 case l1 x3 x4 BJ=>
  intro m0 AE;refine rd AE fun m0 AE=>?_
  revert r;apply gO;exact bi 18 (gc (gi (gc (gi (gw 30 (bi 32 (gw 41 (lG AB [0,1] (AJ _ _ · m0 AE))) (gw 41 (lG AB [0,1] (AJ _ _ · m0 AE))))))))) (lN AB [0,1] (AJ _ _ · n Nat.le.refl))
 case l2 x3 x4 B9 o1=>
  intro m0 AE;refine rd AE fun m0 AE=>?_
  revert r;apply gO;exact bi 49 (gc (gi (gc (gi (gw 61 (bi 63 (ce Fr [0,1] [some (.cells (AK c++AD q++[.ints pos,.msl 1 1 0 ln])),some (.ints o1)] fun _=>gw 76 (lG AB [0,1] (AJ _ _ · m0 AE))) (ce Fr [0,1] [some (.cells (AK c++AD q++[.ints pos,.msl 1 1 0 ln])),some (.ints o1)] fun _=>gw 76 (lG AB [0,1] (AJ _ _ · m0 AE))))))))) (lE AB [2] [0,1])
theorem zB8 {n:Nat} {c:AC} {q:AA} {pos:List Int} {ln:Nat} {lost:List Int} {r:Bool×(List Int)} (h:QB n c q pos ln lost=some r):EQ 132 [.ref 0 0] [some (.cells (AK c++AD q++[.ints pos,.msl 1 1 0 ln])),some (.ints lost)] (.bool r.1) [some (.cells (AK c++AD q++[.ints pos,.msl 1 1 0 ln])),some (.ints r.2)] false:=by
 refine ot Tryz.func132 fun B N=>?_
 revert r;apply gO;exact lN AB [0,1] ((zCA B N c q pos ln lost n) _ _ · n Nat.le.refl)
theorem r9:Av (Ah Tryz.f133 5) [] (List.range 15) []:=by unfold Av;kernel_rfl
theorem r7:Av (Ah Tryz.f133 8) [] (List.range 15) []:=by unfold Av;kernel_rfl
theorem sA:Av (Ah Tryz.f133 16) [] (List.range 23) []:=by unfold Av;kernel_rfl
theorem Ys:Av (Ah Tryz.f133 18) [] (List.range 23) []:=by unfold Av;kernel_rfl
def FX:Bi:=fun i=>match i with
 | 5=>.ord [] (List.range 15) []
 | 8=>.ord [] (List.range 15) []
 | 16=>.ord [] (List.range 23) []
 | 18=>.ord [] (List.range 23) []
 | _=>.no
inductive Tv where
 | l1 (x3 x4 Ce:Int)
 | l2 (x3 x4 CB:Int) (o1:List Int)
def Tu (n:Nat) (self:Tv -> Option (Bool×(List Int))) (c:AC) (q:AA) (pos:List Int) (ln:Nat) (lost:List Int) (x3 x4 Ce:Int):Option (Bool×(List Int)):=
 bif (decide (Ce<(c.cells.length:Int))) then
  if (0<=Ce/\ Ce<(c.cells.length:Int))/\ (0<=(c.cells.getD ((Ce).toNat) 0)/\ (c.cells.getD ((Ce).toNat) 0)<(pos.length:Int)) then
   bif ((bits .andNot .i64 (pos.getD ((c.cells.getD ((Ce).toNat) 0).toNat) 0) c.set)==0) then
    if AL (x3+1)/\ AL (x4+1)/\ AL (Ce+1) then
     self (.l1 (x3+1) (x4+1) (Ce+1))
    else none
   else
    bif ((bits .and .i64 (pos.getD ((c.cells.getD ((Ce).toNat) 0).toNat) 0) c.set) != 0) then
     if AL (x4+1)/\ AL (Ce+1) then
      self (.l1 x3 (x4+1) (Ce+1))
     else none
    else
     if AL (Ce+1) then
      self (.l1 x3 x4 (Ce+1))
     else none
  else none
 else
  bif (decide (x3>c.hi)) then
   some (false,lost)
  else
   bif (decide (x4<c.lo)) then
    some (false,lost)
   else
    self (.l2 x3 x4 0 lost)
def Tt (n:Nat) (self:Tv -> Option (Bool×(List Int))) (c:AC) (q:AA) (pos:List Int) (ln:Nat) (lost:List Int) (x3 x4 CB:Int) (o1:List Int):Option (Bool×(List Int)):=
 bif (decide (CB<(c.cells.length:Int))) then
  if 0<=CB/\ CB<(c.cells.length:Int) then
   bif (x3==c.hi) then
    if 0<=(c.cells.getD ((CB).toNat) 0)/\ (c.cells.getD ((CB).toNat) 0)<(pos.length:Int) then
     bif ((bits .andNot .i64 (pos.getD ((c.cells.getD ((CB).toNat) 0).toNat) 0) c.set) != 0) then
      (DU n (c.cells.getD ((CB).toNat) 0) c.set c q pos ln o1).bind fun y1=>
       bif (x4==c.lo) then
        bif ((bits .and .i64 (pos.getD ((c.cells.getD ((CB).toNat) 0).toNat) 0) c.set) != 0) then
         (GI n (c.cells.getD ((CB).toNat) 0) c q pos ln y1).bind fun y2=>
          if AL (CB+1) then
           self (.l2 x3 x4 (CB+1) y2)
          else none
        else
         if AL (CB+1) then
          self (.l2 x3 x4 (CB+1) y1)
         else none
       else
        if AL (CB+1) then
         self (.l2 x3 x4 (CB+1) y1)
        else none
     else
      bif (x4==c.lo) then
       bif ((bits .and .i64 (pos.getD ((c.cells.getD ((CB).toNat) 0).toNat) 0) c.set) != 0) then
        (GI n (c.cells.getD ((CB).toNat) 0) c q pos ln o1).bind fun y1=>
         if AL (CB+1) then
          self (.l2 x3 x4 (CB+1) y1)
         else none
       else
        if AL (CB+1) then
         self (.l2 x3 x4 (CB+1) o1)
        else none
      else
       if AL (CB+1) then
        self (.l2 x3 x4 (CB+1) o1)
       else none
    else none
   else
    bif (x4==c.lo) then
     if 0<=(c.cells.getD ((CB).toNat) 0)/\ (c.cells.getD ((CB).toNat) 0)<(pos.length:Int) then
      bif ((bits .and .i64 (pos.getD ((c.cells.getD ((CB).toNat) 0).toNat) 0) c.set) != 0) then
       (GI n (c.cells.getD ((CB).toNat) 0) c q pos ln o1).bind fun y1=>
        if AL (CB+1) then
         self (.l2 x3 x4 (CB+1) y1)
        else none
      else
       if AL (CB+1) then
        self (.l2 x3 x4 (CB+1) o1)
       else none
     else none
    else
     if AL (CB+1) then
      self (.l2 x3 x4 (CB+1) o1)
     else none
  else none
 else
  some (true,o1)
def zCS (n:Nat) (self:Tv -> Option (Bool×(List Int))) (c:AC) (q:AA) (pos:List Int) (ln:Nat) (lost:List Int):Option (Bool×(List Int)):=
 self (.l1 0 0 0)
def Ij (c:AC) (q:AA) (pos:List Int) (ln:Nat) (lost:List Int):Nat -> Tv -> Option (Bool×(List Int))
 | 0,_=>none
 | n+1,.l1 x3 x4 Ce=>Tu n (Ij c q pos ln lost n) c q pos ln lost x3 x4 Ce
 | n+1,.l2 x3 x4 CB o1=>Tt n (Ij c q pos ln lost n) c q pos ln lost x3 x4 CB o1
def QH (n:Nat) (c:AC) (q:AA) (pos:List Int) (ln:Nat) (lost:List Int):Option (Bool×(List Int)):=zCS n (Ij c q pos ln lost n) c q pos ln lost
def zCT (n B:Nat) (N:Yd 2) (c:AC) (q:AA) (pos:List Int) (ln:Nat) (lost:List Int) (r:Bool×(List Int)):Tv -> Prop
 | .l1 x3 x4 Ce=>∀ m0:Nat,n<=m0 -> TW B N (FQ Tryz.f133 2 (.bool r.1) [some (.cells (AK c++AD q++[.ints pos,.msl 1 1 0 ln])),some (.ints r.2)]) (A3 m0 (BB (AW Tryz.f133) 0 [])) ⟨AG 140 [(0,.ref 0 0),(3,.i x3),(4,.i x4),(13,.ints c.cells),(14,.i (c.cells.length:Int)),(15,.i Ce)],[some (.cells (AK c++AD q++[.ints pos,.msl 1 1 0 ln])),some (.ints lost)]⟩
 | .l2 x3 x4 CB o1=>∀ m0:Nat,n<=m0 -> TW B N (FQ Tryz.f133 2 (.bool r.1) [some (.cells (AK c++AD q++[.ints pos,.msl 1 1 0 ln])),some (.ints r.2)]) (A3 m0 (BB (AW Tryz.f133) 3 [])) ⟨AG 140 [(0,.ref 0 0),(3,.i x3),(4,.i x4),(76,.ints c.cells),(77,.i (c.cells.length:Int)),(78,.i CB)],[some (.cells (AK c++AD q++[.ints pos,.msl 1 1 0 ln])),some (.ints o1)]⟩
theorem zCU (B:Nat) (N:Yd 2) (c:AC) (q:AA) (pos:List Int) (ln:Nat) (lost:List Int):Al (Ij c q pos ln lost) (zCT · B N c q pos ln lost):=ia (fun _=>rfl) fun n AJ pt r h=>by
 cases pt
 case l1 x3 x4 Ce=>
  intro m0 AE;refine rd AE fun m0 AE=>?_
  revert r;apply gO;exact bi 16 (gc (gi (jg r9 (gn fun g1=>jg g1 (bi 33 (gc (gw 35 (gc (gw 37 (gw 55 (lG FX [0,1] (AJ _ _ · m0 AE))))))) (jg r7 (jg g1 (bi 52 (gc (gw 54 (gw 55 (lG FX [0,1] (AJ _ _ · m0 AE))))) (gw 55 (lG FX [0,1] (AJ _ _ · m0 AE))))))))))) (bi 62 (lE FX [2] [0,1]) (bi 70 (lE FX [2] [0,1]) (lN FX [0,1] (AJ _ _ · n Nat.le.refl))))
 case l2 x3 x4 CB o1=>
  intro m0 AE;refine rd AE fun m0 AE=>?_
  revert r;apply gO;exact bi 79 (gi (jg sA (bi 88 (gn fun g1=>jg g1 (bi 103 (ce Fr [0,1] [some (.cells (AK c++AD q++[.ints pos,.msl 1 1 0 ln])),some (.ints o1)] fun y1=>jg Ys (bi 119 (jg g1 (bi 134 (ce Lc [0,1] [some (.cells (AK c++AD q++[.ints pos,.msl 1 1 0 ln])),some (.ints y1)] fun _=>gw 139 (lG FX [0,1] (AJ _ _ · m0 AE))) (gw 139 (lG FX [0,1] (AJ _ _ · m0 AE))))) (gw 139 (lG FX [0,1] (AJ _ _ · m0 AE))))) (jg Ys (bi 119 (jg g1 (bi 134 (ce Lc [0,1] [some (.cells (AK c++AD q++[.ints pos,.msl 1 1 0 ln])),some (.ints o1)] fun _=>gw 139 (lG FX [0,1] (AJ _ _ · m0 AE))) (gw 139 (lG FX [0,1] (AJ _ _ · m0 AE))))) (gw 139 (lG FX [0,1] (AJ _ _ · m0 AE))))))) (jg Ys (bi 119 (gi (bi 134 (ce Lc [0,1] [some (.cells (AK c++AD q++[.ints pos,.msl 1 1 0 ln])),some (.ints o1)] fun _=>gw 139 (lG FX [0,1] (AJ _ _ · m0 AE))) (gw 139 (lG FX [0,1] (AJ _ _ · m0 AE))))) (gw 139 (lG FX [0,1] (AJ _ _ · m0 AE)))))))) (lE FX [2] [0,1])
theorem zCR {n:Nat} {c:AC} {q:AA} {pos:List Int} {ln:Nat} {lost:List Int} {r:Bool×(List Int)} (h:QH n c q pos ln lost=some r):EQ 133 [.ref 0 0] [some (.cells (AK c++AD q++[.ints pos,.msl 1 1 0 ln])),some (.ints lost)] (.bool r.1) [some (.cells (AK c++AD q++[.ints pos,.msl 1 1 0 ln])),some (.ints r.2)] false:=by
 refine ot Tryz.func133 fun B N=>?_
 revert r;apply gO;exact lN FX [0,1] ((zCU B N c q pos ln lost n) _ _ · n Nat.le.refl)
end Go.Proofs.YtkjbblkieglmlaaGreatDoor
namespace Go.Proofs.YtkjbblkieglmlaaGreatDoor
open Go.RowKit
set_option maxRecDepth 100000
set_option maxHeartbeats 40000000
def pV (n:Nat) (Ai:Int):Option Unit:=
 some ()
def pW (n:Nat) (Ai:Int):Option Unit:=pV n Ai
theorem pU {n:Nat} (Ai:Int) {r:Unit} (h:pW n Ai=some r):EQ 161 [.i Ai] [] (.fn 174 1 (L1 [.ref 0 0])) [some (.cells [.i Ai])] true:=by
 refine ot Tryz.func161 fun B N=>?_
 revert r;apply gO;exact lE AB [2] [0]
theorem Jv {x:Int} (hx:0<=x/\ x<9223372036854775808) (h:DH):EQ 161 [.i x] h (.it h.length) (h++[some (.iter ((B5 x).map BP))]) true:=by
 refine ES.iterOf (pU (n:=0) x (r:=()) rfl) rfl (by kernel_rfl) (fun args W=>?_) (fun w b o u hg Ct hb hc hr=>pS hx w b o u hg Ct hb hc hr) rfl (fun b hb=>?_) h
 ·exact MB Tryz.func174 (by kernel_rfl) (by kernel_rfl) args W
 ·rw [hb];decide
def fO:ST:=.rd 0 (.rd 1 (.rd 2 (.rd 3 (.rd 4 (.rd 5 (.rd 6 (.rd 7 (.rd 8 (.rd 9 (.rd 10 (.rd 11 (.rd 12 (.rd 13 (.rd 14 (.rd 15 (.rd 16 (.rd 17 (.rd 18 (.rd 19 (.ef 20 (.ef 21 (.fin [] [4,5]) (.no)) (.no)))))))))))))))))))))
theorem rz:Bp (Ah Tryz.f160 4) [20] fO:=by unfold Bp;kernel_rfl
def fN:ST:=.rd 0 (.rd 1 (.ef 2 (.ef 3 (.fin [] [4,5]) (.no)) (.no)))
theorem ru:Bp (Ah Tryz.f160 5) [2] fN:=by unfold Bp;kernel_rfl
def U0:Bi:=fun i=>match i with
 | 4=>.tre [20] fO
 | 5=>.tre [2] fN
 | _=>.no
def zo (c:AC) (q:AA) (pos:List Int) (ln:Nat) (lost:List Int):DH:=[some (.cells (AK c++AD q++[.ints pos,.msl 1 1 0 ln])),some (.ints lost),some (.cells [.ref 0 0]),some (.cells [.i 100]),some (.cells [.i (-1)])]
def zn (c:AC) (q:AA) (pos:List Int) (ln:Nat) (lost:List Int) (ss:Int):DH:=[some (.cells (AK c++AD q++[.ints pos,.msl 1 1 0 ln])),some (.ints lost),some (.cells [.ref 0 0]),some (.cells [.i 100]),some (.cells [.i (-1)]),some (.iter ((B5 ss).map BP))]
def eW (c:AC) (q:AA) (pos:List Int) (ln:Nat) (lost:List Int) (Dn Dm:Int):St:=⟨(AG 32 [(4,.ref 3 0),(5,.ref 4 0)]),([some (.cells (AK c++AD q++[.ints pos,.msl 1 1 0 ln])),some (.ints lost),some (.cells [.ref 0 0]),some (.cells [.i Dn]),some (.cells [.i Dm]),none]:DH)⟩
def zm (c:AC) (q:AA) (pos:List Int) (ln:Nat) (lost:List Int) (Fm Fl:Int):DH:=[some (.cells (AK c++AD q++[.ints pos,.msl 1 1 0 ln])),some (.ints lost),some (.cells [.ref 0 0]),some (.cells [.i Fm]),some (.cells [.i Fl]),none]
def eV (c:AC) (q:AA) (pos:List Int) (ln:Nat) (lost:List Int) (e8 Fm Fl:Int):St:=⟨(AG 32 [(4,.ref 3 0),(5,.ref 4 0)]),([some (.cells (AK c++AD q++[.ints pos,.msl 1 1 0 ln])),some (.ints lost),some (.cells [.ref 0 0]),some (.cells [.i (if (q.values.getD ((e8).toNat) 0)<Fm then (q.values.getD ((e8).toNat) 0) else Fm)]),some (.cells [.i (if (q.values.getD ((e8).toNat) 0)>Fl then (q.values.getD ((e8).toNat) 0) else Fl)]),none]:DH)⟩
inductive MC where
 | s0 (Fm Fl:Int)
def mz (c:AC) (q:AA) (pos:List Int) (ln:Nat) (lost:List Int):MC -> DH
 | .s0 Fm Fl=>[some (.cells (AK c++AD q++[.ints pos,.msl 1 1 0 ln])),some (.ints lost),some (.cells [.ref 0 0]),some (.cells [.i Fm]),some (.cells [.i Fl]),none]
def my (n:Nat) (c:AC) (q:AA) (pos:List Int) (ln:Nat) (lost:List Int) (e8:Int) (Fm Fl:Int):Option MC:=
 if 0<=e8/\ e8<(q.values.length:Int) then
  some (.s0 (if (q.values.getD ((e8).toNat) 0)<Fm then (q.values.getD ((e8).toNat) 0) else Fm) (if (q.values.getD ((e8).toNat) 0)>Fl then (q.values.getD ((e8).toNat) 0) else Fl))
 else none
def mw (n:Nat) (c:AC) (q:AA) (pos:List Int) (ln:Nat) (lost:List Int) (e8:Int):MC -> Option MC
 | .s0 Fm Fl=>my n c q pos ln lost e8 Fm Fl
def Tc (n:Nat) (c:AC) (q:AA) (pos:List Int) (ln:Nat) (lost:List Int) (e8:Int) (s:MC):Option MC:=mw n c q pos ln lost e8 s
theorem zBv (n:Nat) (c:AC) (q:AA) (pos:List Int) (ln:Nat) (lost:List Int) (l B:Nat) (N:Yd 6) (e8:Int) (s:MC) (r:MC) (h:Tc n c q pos ln lost e8 s=some r):TA l B N (Cd 6 [] 0 (mz c q pos ln lost r)) Tryz.f160 8 ⟨AG 32 [(2,.ref 2 0),(4,.ref 3 0),(5,.ref 4 0),(8,.it 5),(9,.i e8)],mz c q pos ln lost s⟩:=by
 cases s with
 | s0 Fm Fl=>
  refine ag U0 [0,1,2,3,4,5] H0 (AG 32 [(2,.ref 2 0),(4,.ref 3 0),(5,.ref 4 0),(6,.i e8)]) (zm c q pos ln lost Fm Fl) fun N=>?_
  revert r;apply gO;exact jg rz (gn fun nu=>jg nu (jg nu (jt (jt (jg (Eq.refl (eV c q pos ln lost e8 Fm Fl)) (lF fun p=>rr (tg:=[([(20,3)],(eV c q pos ln lost e8 Fm Fl))]) U0 [0,1,2,3,4,5] rfl p))))))
def mr (n:Nat) (ss:Int) (c:AC) (q:AA) (pos:List Int) (ln:Nat) (lost:List Int):Option (Int×Int×(List Int)):=
 if 0<=ss/\ ss<9223372036854775808 then
  (Bl (Tc n c q pos ln lost) (B5 ss) (.s0 100 (-1))).bind fun y1=>
   match y1 with
   | .s0 Dn Dm=>
    some (Dn,Dm,lost)
 else none
def Td (n:Nat) (ss:Int) (c:AC) (q:AA) (pos:List Int) (ln:Nat) (lost:List Int):Option (Int×Int×(List Int)):=mr n ss c q pos ln lost
theorem QA {n:Nat} {ss:Int} {c:AC} {q:AA} {pos:List Int} {ln:Nat} {lost:List Int} {r:Int×Int×(List Int)} (h:Td n ss c q pos ln lost=some r):EQ 160 [.ref 0 0,.i ss] [some (.cells (AK c++AD q++[.ints pos,.msl 1 1 0 ln])),some (.ints lost)] (.tup 2 (L1 [.i r.1,.i r.2.1])) [some (.cells (AK c++AD q++[.ints pos,.msl 1 1 0 ln])),some (.ints r.2.2)] false:=by
 refine ot Tryz.func160 fun B N=>?_
 revert r;apply gO
 exact jt (jt (gn fun g0=>jc (Jv g0 (zo c q pos ln lost)) (cn fun y1 A8=>fun p r h=>by
  refine gs U0 [0,1,2,3,4,5] p (Fg (AW Tryz.f160) 8 []) (AG 32 [(2,.ref 2 0),(4,.ref 3 0),(5,.ref 4 0),(8,.it 5)]) (zn c q pos ln lost ss) ?_;refine r0 5 8 #[9] BP 6 A8 (zBv n c q pos ln lost) ?_;cases y1 with
  | s0 Dn Dm=>
   dsimp only at h
   revert r;apply gO;exact jg ru (jt (jt (jg (Eq.refl (eW c q pos ln lost Dn Dm)) (lE (tg:=[([(2,3)],(eW c q pos ln lost Dn Dm))]) U0 [4,5] [0,1,3,4])))))))
def eo:ST:=.rd 0 (.rd 1 (.rd 2 (.rd 3 (.rd 4 (.rd 5 (.rd 6 (.rd 7 (.ef 8 (.rd 9 (.rd 10 (.rd 11 (.rd 12 (.rd 13 (.fin [] [1,3,4,7,8,19,20,21,90])))))) (.no)))))))))
theorem qp:Bp (Ah Tryz.f134 5) [] eo:=by unfold Bp;kernel_rfl
def ea:ST:=.rd 0 (.rd 1 (.rd 2 (.rd 3 (.rd 4 (.rd 5 (.ef 6 (.ef 7 (.fin [] [1,3,4,19,20,21,90]) (.no)) (.no)))))))
theorem qo:Bp (Ah Tryz.f134 6) [6] ea:=by unfold Bp;kernel_rfl
theorem qn:Av (Ah Tryz.f134 8) [] (List.range 16) []:=by unfold Av;kernel_rfl
def e9:ST:=.rd 0 (.rd 1 (.rd 2 (.rd 3 (.rd 4 (.rd 5 (.rd 6 (.rd 7 (.ef 8 (.rd 9 (.rd 10 (.rd 11 (.ef 12 (.ef 13 (.ef 14 (.ef 15 (.fin [0,1] [1,3,4,10,11,12,64,65,66,90]) (.no)) (.no)) (.no)) (.ef 13 (.ef 12 (.ef 14 (.ef 15 (.fin [1,0] [1,3,4,10,11,12,64,65,66,90]) (.no)) (.no)) (.no)) (.no)))))) (.ef 12 (.ef 8 (.rd 9 (.rd 10 (.rd 11 (.ef 13 (.ef 14 (.ef 15 (.fin [0,1] [1,3,4,10,11,12,64,65,66,90]) (.no)) (.no)) (.no))))) (.ef 13 (.ef 8 (.rd 9 (.rd 10 (.rd 11 (.ef 14 (.ef 15 (.fin [0,1] [1,3,4,10,11,12,64,65,66,90]) (.no)) (.no))))) (.no)) (.no))) (.ef 13 (.ef 8 (.rd 9 (.rd 10 (.rd 11 (.ef 12 (.ef 14 (.ef 15 (.fin [1,0] [1,3,4,10,11,12,64,65,66,90]) (.no)) (.no)) (.no))))) (.ef 12 (.ef 8 (.rd 9 (.rd 10 (.rd 11 (.ef 14 (.ef 15 (.fin [1,0] [1,3,4,10,11,12,64,65,66,90]) (.no)) (.no))))) (.no)) (.no))) (.no)))))))))))
theorem qs:Bp (Ah Tryz.f134 13) [12,13,14] e9:=by unfold Bp;kernel_rfl
theorem qr:Av (Ah Tryz.f134 14) [([0,1,2,3,4,5,6],7)] [] []:=by unfold Av;kernel_rfl
theorem qq:Av (Ah Tryz.f134 17) [] (List.range 24) []:=by unfold Av;kernel_rfl
def ew:ST:=.rd 0 (.rd 1 (.rd 2 (.rd 3 (.ef 4 (.fin [] [2]) (.no)))))
theorem gU:Bp (Ah Tryz.f134 18) [] ew:=by unfold Bp;kernel_rfl
def Hi:Bi:=fun i=>match i with
 | 5=>.tre [] eo
 | 6=>.tre [6] ea
 | 8=>.ord [] (List.range 16) []
 | 13=>.tre [12,13,14] e9
 | 14=>.ord [([0,1,2,3,4,5,6],7)] [] []
 | 17=>.ord [] (List.range 24) []
 | 18=>.tre [] ew
 | _=>.no
def yg (c:AC) (q:AA) (pos:List Int) (ln:Nat) (o1:List Int) (A1 Ak:Int):DH:=[some (.cells (AK c++AD q++[.ints pos,.msl 1 1 0 ln])),some (.ints o1),some (.cells [.ref 0 0]),some (.cells [.i A1]),some (.cells [.i Ak])]
def eF (y1:Int×Int×(List Int)) (c:AC) (x21:Int) (q:AA) (pos:List Int) (ln:Nat) (A1 Ak:Int):St:=⟨(AG 129 [(1,.ref 2 0),(3,.ref 3 0),(4,.ref 4 0),(7,.i y1.1),(8,.i y1.2.1),(19,.ints c.cells),(20,.i (c.cells.length:Int)),(21,.i x21)]),([some (.cells (AK c++AD q++[.ints pos,.msl 1 1 0 ln])),some (.ints y1.2.2),some (.cells [.ref 0 0]),some (.cells [.i A1]),some (.cells [.i Ak])]:DH)⟩
def eE (c:AC) (x21:Int) (q:AA) (pos:List Int) (ln:Nat) (y1:Int×Int×(List Int)) (A1 Ak:Int):St:=⟨(AG 129 [(1,.ref 2 0),(3,.ref 3 0),(4,.ref 4 0),(19,.ints c.cells),(20,.i (c.cells.length:Int)),(21,.i x21)]),([some (.cells (AK c++AD q++[.ints pos,.msl 1 1 0 ln])),some (.ints y1.2.2),some (.cells [.ref 0 0]),some (.cells [.i (A1+y1.1)]),some (.cells [.i (Ak+y1.2.1)])]:DH)⟩
def yf (c:AC) (q:AA) (pos:List Int) (ln:Nat) (o1:List Int) (A1 Ak Ag:Int):DH:=[some (.cells (AK c++AD q++[.ints pos,.msl 1 1 0 ln])),some (.ints o1),some (.cells [.ref 0 0]),some (.cells [.i A1]),some (.cells [.i Ak]),some (.cells [.i (c.cells.getD ((Ag).toNat) 0)])]
def Mh (c:AC) (Ag:Int) (q:AA) (pos:List Int) (ln:Nat) (y1:Int×Int×(List Int)) (A1 Ak:Int):St:=⟨(AG 129 [(1,.ref 2 0),(3,.ref 3 0),(4,.ref 4 0),(10,.ref 5 0),(11,.ref 6 0),(12,.ref 7 0),(64,.ints c.cells),(65,.i (c.cells.length:Int)),(66,.i Ag)]),([some (.cells (AK c++AD q++[.ints pos,.msl 1 1 0 ln])),some (.ints y1.2.2),some (.cells [.ref 0 0]),some (.cells [.i A1]),some (.cells [.i Ak]),some (.cells [.i (c.cells.getD ((Ag).toNat) 0)]),some (.cells [.i y1.1]),some (.cells [.i y1.2.1])]:DH)⟩
def ko (c:AC) (q:AA) (pos:List Int) (ln:Nat) (o1:List Int) (A1 Ak Ag:Int):DH:=[some (.cells (AK c++AD q++[.ints pos,.msl 1 1 0 ln])),some (.ints o1),some (.cells [.ref 0 0]),some (.cells [.i A1]),some (.cells [.i Ak]),some (.cells [.i (c.cells.getD ((Ag).toNat) 0)]),some (.cells [.i 0])]
def kn (c:AC) (q:AA) (pos:List Int) (ln:Nat) (o1:List Int) (A1 Ak Ag:Int):DH:=[some (.cells (AK c++AD q++[.ints pos,.msl 1 1 0 ln])),some (.ints o1),some (.cells [.ref 0 0]),some (.cells [.i A1]),some (.cells [.i Ak]),some (.cells [.i (c.cells.getD ((Ag).toNat) 0)]),some (.cells [.i 0]),some (.cells [.i 0])]
def ye (c:AC) (q:AA) (pos:List Int) (ln:Nat) (y1:Int×Int×(List Int)) (A1 Ak Ag:Int):DH:=[some (.cells (AK c++AD q++[.ints pos,.msl 1 1 0 ln])),some (.ints y1.2.2),some (.cells [.ref 0 0]),some (.cells [.i A1]),some (.cells [.i Ak]),some (.cells [.i (c.cells.getD ((Ag).toNat) 0)]),some (.cells [.i y1.1]),some (.cells [.i y1.2.1])]
def yc (c:AC) (q:AA) (pos:List Int) (ln:Nat) (y1:Int×Int×(List Int)) (A1 Ak Ag:Int):DH:=[some (.cells (AK c++AD q++[.ints pos,.msl 1 1 0 ln])),some (.ints y1.2.2),some (.cells [.ref 0 0]),some (.cells [.i A1]),some (.cells [.i Ak]),some (.cells [.i (c.cells.getD ((Ag).toNat) 0)]),some (.cells [.i y1.1]),some (.cells [.i y1.2.1]),some (.iter ((B5 (pos.getD ((c.cells.getD ((Ag).toNat) 0).toNat) 0)).map BP))]
def ap (c:AC) (q:AA) (pos:List Int) (ln:Nat) (GD:List Int) (A1 Ak Ag:Int) (y1:Int×Int×(List Int)):DH:=[some (.cells (AK c++AD q++[.ints pos,.msl 1 1 0 ln])),some (.ints GD),some (.cells [.ref 0 0]),some (.cells [.i A1]),some (.cells [.i Ak]),some (.cells [.i (c.cells.getD ((Ag).toNat) 0)]),some (.cells [.i y1.1]),some (.cells [.i y1.2.1]),none]
def Ub (c:AC) (q:AA) (pos:List Int) (ln:Nat) (Il:(List Int)) (A1 Ak Ag:Int) (y1:Int×Int×(List Int)):St:=⟨(AG 129 []),([some (.cells (AK c++AD q++[.ints pos,.msl 1 1 0 ln])),some (.ints Il),some (.cells [.ref 0 0]),some (.cells [.i A1]),some (.cells [.i Ak]),some (.cells [.i (c.cells.getD ((Ag).toNat) 0)]),some (.cells [.i y1.1]),some (.cells [.i y1.2.1]),none]:DH)⟩
inductive Jw where
 | s0 (GD:List Int)
def fT (c:AC) (Ag:Int) (q:AA) (pos:List Int) (ln:Nat) (A1 Ak:Int) (y1:Int×Int×(List Int)):Jw -> DH
 | .s0 GD=>[some (.cells (AK c++AD q++[.ints pos,.msl 1 1 0 ln])),some (.ints GD),some (.cells [.ref 0 0]),some (.cells [.i A1]),some (.cells [.i Ak]),some (.cells [.i (c.cells.getD ((Ag).toNat) 0)]),some (.cells [.i y1.1]),some (.cells [.i y1.2.1]),none]
def Ul (n:Nat) (c:AC) (Ag:Int) (q:AA) (pos:List Int) (ln:Nat) (A1 Ak:Int) (y1:Int×Int×(List Int)) (EU:Int) (GD:List Int):Option Jw:=
 if (0<=EU/\ EU<(q.values.length:Int))/\ AL (A1-y1.1)/\ AL ((A1-y1.1)+(q.values.getD ((EU).toNat) 0)) then
  bif (decide (((A1-y1.1)+(q.values.getD ((EU).toNat) 0))>c.hi)) then
   if 0<=EU/\ EU<=(IntKind.i64.bits:Int) then
    (DU n (c.cells.getD ((Ag).toNat) 0) (IntKind.i64.wrap (1*2 ^ (EU).toNat)) c q pos ln GD).bind fun Il=>
     some (.s0 Il)
   else none
  else
   if AL (Ak-y1.2.1)/\ AL ((Ak-y1.2.1)+(q.values.getD ((EU).toNat) 0)) then
    bif (decide (((Ak-y1.2.1)+(q.values.getD ((EU).toNat) 0))<c.lo)) then
     if 0<=EU/\ EU<=(IntKind.i64.bits:Int) then
      (DU n (c.cells.getD ((Ag).toNat) 0) (IntKind.i64.wrap (1*2 ^ (EU).toNat)) c q pos ln GD).bind fun Il=>
       some (.s0 Il)
     else none
    else
     some (.s0 GD)
   else none
 else none
def fS (n:Nat) (c:AC) (Ag:Int) (q:AA) (pos:List Int) (ln:Nat) (A1 Ak:Int) (y1:Int×Int×(List Int)) (EU:Int):Jw -> Option Jw
 | .s0 GD=>Ul n c Ag q pos ln A1 Ak y1 EU GD
def Um (n:Nat) (c:AC) (Ag:Int) (q:AA) (pos:List Int) (ln:Nat) (A1 Ak:Int) (y1:Int×Int×(List Int)) (EU:Int) (s:Jw):Option Jw:=fS n c Ag q pos ln A1 Ak y1 EU s
theorem pd (n:Nat) (c:AC) (Ag:Int) (q:AA) (pos:List Int) (ln:Nat) (A1 Ak:Int) (y1:Int×Int×(List Int)) (l B:Nat) (N:Yd 9) (EU:Int) (s:Jw) (r:Jw) (h:Um n c Ag q pos ln A1 Ak y1 EU s=some r):TA l B N (Cd 9 [] 0 (fT c Ag q pos ln A1 Ak y1 r)) Tryz.f134 89 ⟨AG 129 [(1,.ref 2 0),(3,.ref 3 0),(4,.ref 4 0),(10,.ref 5 0),(11,.ref 6 0),(12,.ref 7 0),(64,.ints c.cells),(65,.i (c.cells.length:Int)),(66,.i Ag),(89,.it 8),(90,.i EU)],fT c Ag q pos ln A1 Ak y1 s⟩:=by
 cases s with
 | s0 GD=>
  replace h:Ul n c Ag q pos ln A1 Ak y1 EU GD=some r:=h;unfold Ul at h;refine ag Hi [0,1,2,3,4,5,6,7,8] H0 (AG 129 [(1,.ref 2 0),(3,.ref 3 0),(4,.ref 4 0),(10,.ref 5 0),(11,.ref 6 0),(12,.ref 7 0),(13,.i EU)]) (ap c q pos ln GD A1 Ak Ag y1) fun N=>?_
  revert r;apply gO;exact gc (gi (jg qq (gc (gw 101 (gw 103 (bi 109 (jg gU (gi (ce Fr [0,1] (ap c q pos ln GD A1 Ak Ag y1) fun Il=>jg (Eq.refl (Ub c q pos ln Il A1 Ak Ag y1)) (lF fun p=>rr (tg:=[([],(Ub c q pos ln Il A1 Ak Ag y1))]) Hi [0,1,2,3,4,5,6,7,8] rfl p)))) (gc (gw 113 (gw 115 (bi 121 (jg gU (gi (ce Fr [0,1] (ap c q pos ln GD A1 Ak Ag y1) fun Il=>jg (Eq.refl (Ub c q pos ln Il A1 Ak Ag y1)) (lF fun p=>rr (tg:=[([],(Ub c q pos ln Il A1 Ak Ag y1))]) Hi [0,1,2,3,4,5,6,7,8] rfl p)))) (lF fun p=>rr Hi [0,1,2,3,4,5,6,7,8] rfl p)))))))))))
inductive Qn where
 | l1 (x21:Int) (o1:List Int) (A1 Ak:Int)
 | l2 (Ag:Int) (o1:List Int) (A1 Ak:Int)
def Qm (n:Nat) (self:Qn -> Option (Bool×(List Int))) (c:AC) (q:AA) (pos:List Int) (ln:Nat) (lost:List Int) (x21:Int) (o1:List Int) (A1 Ak:Int):Option (Bool×(List Int)):=
 bif (decide (x21<(c.cells.length:Int))) then
  if (0<=x21/\ x21<(c.cells.length:Int))/\ (0<=(c.cells.getD ((x21).toNat) 0)/\ (c.cells.getD ((x21).toNat) 0)<(pos.length:Int)) then
   (Td n (pos.getD ((c.cells.getD ((x21).toNat) 0).toNat) 0) c q pos ln o1).bind fun y1=>
    if AL (A1+y1.1)/\ AL (Ak+y1.2.1)/\ AL (x21+1) then
     self (.l1 (x21+1) y1.2.2 (A1+y1.1) (Ak+y1.2.1))
    else none
  else none
 else
  bif (decide (A1>c.hi)) then
   some (false,o1)
  else
   bif (decide (Ak<c.lo)) then
    some (false,o1)
   else
    self (.l2 0 o1 A1 Ak)
def Ql (n:Nat) (self:Qn -> Option (Bool×(List Int))) (c:AC) (q:AA) (pos:List Int) (ln:Nat) (lost:List Int) (Ag:Int) (o1:List Int) (A1 Ak:Int):Option (Bool×(List Int)):=
 bif (decide (Ag<(c.cells.length:Int))) then
  if (0<=Ag/\ Ag<(c.cells.length:Int))/\ (0<=(c.cells.getD ((Ag).toNat) 0)/\ (c.cells.getD ((Ag).toNat) 0)<(pos.length:Int)) then
   (Td n (pos.getD ((c.cells.getD ((Ag).toNat) 0).toNat) 0) c q pos ln o1).bind fun y1=>
    if 0<=(pos.getD ((c.cells.getD ((Ag).toNat) 0).toNat) 0)/\ (pos.getD ((c.cells.getD ((Ag).toNat) 0).toNat) 0)<9223372036854775808 then
     (Bl (Um n c Ag q pos ln A1 Ak y1) (B5 (pos.getD ((c.cells.getD ((Ag).toNat) 0).toNat) 0)) (.s0 y1.2.2)).bind fun y2=>
      match y2 with
      | .s0 EB=>
       if AL (Ag+1) then
        self (.l2 (Ag+1) EB A1 Ak)
       else none
    else none
  else none
 else
  some (true,o1)
def pc (n:Nat) (self:Qn -> Option (Bool×(List Int))) (c:AC) (q:AA) (pos:List Int) (ln:Nat) (lost:List Int):Option (Bool×(List Int)):=
 self (.l1 0 lost 0 0)
def IC (c:AC) (q:AA) (pos:List Int) (ln:Nat) (lost:List Int):Nat -> Qn -> Option (Bool×(List Int))
 | 0,_=>none
 | n+1,.l1 x21 o1 A1 Ak=>Qm n (IC c q pos ln lost n) c q pos ln lost x21 o1 A1 Ak
 | n+1,.l2 Ag o1 A1 Ak=>Ql n (IC c q pos ln lost n) c q pos ln lost Ag o1 A1 Ak
def Oo (n:Nat) (c:AC) (q:AA) (pos:List Int) (ln:Nat) (lost:List Int):Option (Bool×(List Int)):=pc n (IC c q pos ln lost n) c q pos ln lost
def pf (n B:Nat) (N:Yd 2) (c:AC) (q:AA) (pos:List Int) (ln:Nat) (lost:List Int) (r:Bool×(List Int)):Qn -> Prop
 | .l1 x21 o1 A1 Ak=>∀ m0:Nat,n<=m0 -> TW B N (FQ Tryz.f134 2 (.bool r.1) [some (.cells (AK c++AD q++[.ints pos,.msl 1 1 0 ln])),some (.ints r.2)]) (A3 m0 (BB (AW Tryz.f134) 0 [])) ⟨AG 129 [(1,.ref 2 0),(3,.ref 3 0),(4,.ref 4 0),(19,.ints c.cells),(20,.i (c.cells.length:Int)),(21,.i x21)],[some (.cells (AK c++AD q++[.ints pos,.msl 1 1 0 ln])),some (.ints o1),some (.cells [.ref 0 0]),some (.cells [.i A1]),some (.cells [.i Ak])]⟩
 | .l2 Ag o1 A1 Ak=>∀ m0:Nat,n<=m0 -> TW B N (FQ Tryz.f134 2 (.bool r.1) [some (.cells (AK c++AD q++[.ints pos,.msl 1 1 0 ln])),some (.ints r.2)]) (A3 m0 (BB (AW Tryz.f134) 2 [])) ⟨AG 129 [(1,.ref 2 0),(3,.ref 3 0),(4,.ref 4 0),(64,.ints c.cells),(65,.i (c.cells.length:Int)),(66,.i Ag)],[some (.cells (AK c++AD q++[.ints pos,.msl 1 1 0 ln])),some (.ints o1),some (.cells [.ref 0 0]),some (.cells [.i A1]),some (.cells [.i Ak])]⟩
theorem pg (B:Nat) (N:Yd 2) (c:AC) (q:AA) (pos:List Int) (ln:Nat) (lost:List Int):Al (IC c q pos ln lost) (pf · B N c q pos ln lost):=ia (fun _=>rfl) fun n AJ pt r h=>by
 cases pt
 case l1 x21 o1 A1 Ak=>
  intro m0 AE;refine rd AE fun m0 AE=>?_
  revert r;apply gO;exact bi 22 (gc (gi (jg qp (gi (ce QA [0,1] (yg c q pos ln o1 A1 Ak) fun y1=>jg (Eq.refl (eF y1 c x21 q pos ln A1 Ak)) (jg qo (gc (gw 39 (gc (gw 42 (jt (jt (jg (Eq.refl (eE c x21 q pos ln y1 A1 Ak)) (gw 43 (lG (tg:=[([],(eF y1 c x21 q pos ln A1 Ak)),([(6,3)],(eE c x21 q pos ln y1 A1 Ak))]) Hi [0,1,2,3,4] (AJ _ _ · m0 AE)))))))))))))))) (jg qn (bi 50 (lE Hi [2] [0,1]) (bi 58 (lE Hi [2] [0,1]) (lN Hi [0,1,2,3,4] (AJ _ _ · n Nat.le.refl)))))
 case l2 Ag o1 A1 Ak=>
  intro m0 AE;refine rd AE fun m0 AE=>?_
  revert r;apply gO
  exact bi 67 (gc (gi (jt (jg qs (gn fun g1=>jg g1 (cn fun y1 A8=>jc (em (QA A8) [0,1] (yf c q pos ln o1 A1 Ak Ag)) (jt (jt (jg (Eq.refl (Mh c Ag q pos ln y1 A1 Ak)) (jt (jt (jg (Eq.refl (Mh c Ag q pos ln y1 A1 Ak)) (jc (em (QA A8) [0,1] (ko c q pos ln o1 A1 Ak Ag)) (jt (jt (jg (Eq.refl (Mh c Ag q pos ln y1 A1 Ak)) (jc (em (QA A8) [0,1] (kn c q pos ln o1 A1 Ak Ag)) (jt (jt (jg (Eq.refl (Mh c Ag q pos ln y1 A1 Ak)) (jc (em (QA A8) [0,1] (ko c q pos ln o1 A1 Ak Ag)) (jt (jt (jg (Eq.refl (Mh c Ag q pos ln y1 A1 Ak)) (jc (em (QA A8) [0,1] (kn c q pos ln o1 A1 Ak Ag)) (jt (jt (jg (Eq.refl (Mh c Ag q pos ln y1 A1 Ak)) (jg qr (jg g1 (gn fun g2=>jc (Jv g2 (ye c q pos ln y1 A1 Ak Ag)) (cn fun y2 Bx=>fun p r h=>by
   refine gs (tg:=[([],(Mh c Ag q pos ln y1 A1 Ak))]) Hi [0,1,2,3,4,5,6,7,8] p (Fg (AW Tryz.f134) 89 [m0]) (AG 129 [(1,.ref 2 0),(3,.ref 3 0),(4,.ref 4 0),(10,.ref 5 0),(11,.ref 6 0),(12,.ref 7 0),(64,.ints c.cells),(65,.i (c.cells.length:Int)),(66,.i Ag),(89,.it 8)]) (yc c q pos ln y1 A1 Ak Ag) ?_;refine r0 8 89 #[90] BP 9 Bx (pd n c Ag q pos ln A1 Ak y1) ?_;cases y2 with
   | s0 EB=>
    dsimp only at h
    revert r;apply gO;exact gw 128 (lG Hi [0,1,2,3,4] (AJ _ _ · m0 AE)))))))))))))))))))))))))))))))))) (lE Hi [2] [0,1])
theorem pb {n:Nat} {c:AC} {q:AA} {pos:List Int} {ln:Nat} {lost:List Int} {r:Bool×(List Int)} (h:Oo n c q pos ln lost=some r):EQ 134 [.ref 0 0] [some (.cells (AK c++AD q++[.ints pos,.msl 1 1 0 ln])),some (.ints lost)] (.bool r.1) [some (.cells (AK c++AD q++[.ints pos,.msl 1 1 0 ln])),some (.ints r.2)] false:=by
 refine ot Tryz.func134 fun B N=>?_
 revert r;apply gO;exact jt (jt (lN Hi [0,1,2,3,4] ((pg B N c q pos ln lost n) _ _ · n Nat.le.refl)))
end Go.Proofs.YtkjbblkieglmlaaGreatDoor
namespace Go.Proofs.YtkjbblkieglmlaaGreatDoor
open Go.RowKit
set_option maxRecDepth 100000
set_option maxHeartbeats 40000000
theorem sD:Av (Ah Tryz.f166 1) [] (List.range 18) []:=by unfold Av;kernel_rfl
def qa:Bi:=fun i=>match i with
 | 1=>.ord [] (List.range 18) []
 | _=>.no
def oH (n:Nat) (s_ t_:Int) (c:AC) (q:AA) (pos:List Int) (ln:Nat) (lost:List Int):Option (Bool×(List Int)):=
 if (0<=s_/\ s_<(q.values.length:Int))/\ (0<=t_/\ t_<(q.values.length:Int))/\ AL ((q.values.getD ((s_).toNat) 0)-(q.values.getD ((t_).toNat) 0))/\ AL (0-((q.values.getD ((s_).toNat) 0)-(q.values.getD ((t_).toNat) 0))) then
  some ((decide ((if (0-((q.values.getD ((s_).toNat) 0)-(q.values.getD ((t_).toNat) 0)))>((q.values.getD ((s_).toNat) 0)-(q.values.getD ((t_).toNat) 0)) then (0-((q.values.getD ((s_).toNat) 0)-(q.values.getD ((t_).toNat) 0))) else ((q.values.getD ((s_).toNat) 0)-(q.values.getD ((t_).toNat) 0)))>=c.lo)),lost)
 else none
def Xt (n:Nat) (s_ t_:Int) (c:AC) (q:AA) (pos:List Int) (ln:Nat) (lost:List Int):Option (Bool×(List Int)):=oH n s_ t_ c q pos ln lost
theorem zDg {n:Nat} {s_ t_:Int} {c:AC} {q:AA} {pos:List Int} {ln:Nat} {lost:List Int} {r:Bool×(List Int)} (h:Xt n s_ t_ c q pos ln lost=some r):EQ 166 [.i s_,.i t_,.ref 0 0] [some (.cells [.ref 1 0]),some (.cells (AK c++AD q++[.ints pos,.msl 2 1 0 ln])),some (.ints lost)] (.bool r.1) [some (.cells [.ref 1 0]),some (.cells (AK c++AD q++[.ints pos,.msl 2 1 0 ln])),some (.ints r.2)] false:=by
 refine ot Tryz.func166 fun B N=>?_
 revert r;apply gO;exact jg sD (gc (gi (gc (gi (gc (gw 23 (gw 26 (lE qa [5] [0,1,2]))))))))
theorem rS:Av (Ah Tryz.f167 1) [] (List.range 6) []:=by unfold Av;kernel_rfl
def Q8:Bi:=fun i=>match i with
 | 1=>.ord [] (List.range 6) []
 | _=>.no
def jH (n:Nat) (s_ t_:Int) (c:AC) (q:AA) (pos:List Int) (ln:Nat) (lost:List Int):Option (Bool×(List Int)):=
 if (0<=s_/\ s_<=(IntKind.i64.bits:Int))/\ (0<=t_/\ t_<=(IntKind.i64.bits:Int)) then
  bif ((bits .and .i64 (IntKind.i64.wrap (1*2 ^ (s_).toNat)) c.set)==0) then
   bif ((bits .and .i64 (IntKind.i64.wrap (1*2 ^ (t_).toNat)) c.set)==0) then
    some (true,lost)
   else
    some (((bits .and .i64 (IntKind.i64.wrap (1*2 ^ (s_).toNat)) c.other)==0),lost)
  else
   bif ((bits .and .i64 (IntKind.i64.wrap (1*2 ^ (t_).toNat)) c.other)==0) then
    bif ((bits .and .i64 (IntKind.i64.wrap (1*2 ^ (t_).toNat)) c.set)==0) then
     some (true,lost)
    else
     some (((bits .and .i64 (IntKind.i64.wrap (1*2 ^ (s_).toNat)) c.other)==0),lost)
   else
    some (false,lost)
 else none
def Vp (n:Nat) (s_ t_:Int) (c:AC) (q:AA) (pos:List Int) (ln:Nat) (lost:List Int):Option (Bool×(List Int)):=jH n s_ t_ c q pos ln lost
theorem u7 {n:Nat} {s_ t_:Int} {c:AC} {q:AA} {pos:List Int} {ln:Nat} {lost:List Int} {r:Bool×(List Int)} (h:Vp n s_ t_ c q pos ln lost=some r):EQ 167 [.i s_,.i t_,.ref 0 0] [some (.cells [.ref 1 0]),some (.cells (AK c++AD q++[.ints pos,.msl 2 1 0 ln])),some (.ints lost)] (.bool r.1) [some (.cells [.ref 1 0]),some (.cells (AK c++AD q++[.ints pos,.msl 2 1 0 ln])),some (.ints r.2)] false:=by
 refine ot Tryz.func167 fun B N=>?_
 revert r;apply gO;exact jg rS (gc (gi (gi (bi 19 (bi 38 (lE Q8 [5] [0,1,2]) (lE Q8 [5] [0,1,2])) (bi 28 (bi 38 (lE Q8 [5] [0,1,2]) (lE Q8 [5] [0,1,2])) (lE Q8 [5] [0,1,2]))))))
theorem rQ:Av (Ah Tryz.f165 1) [] (List.range 16) []:=by unfold Av;kernel_rfl
theorem rN:Av (Ah Tryz.f165 2) [([0,1,2,3,4,5,6,7,8,9,10,11,12,13],14)] [15] [16]:=by unfold Av;kernel_rfl
theorem rM:Av (Ah Tryz.f165 9) [] [0,1,2,3] [4]:=by unfold Av;kernel_rfl
theorem rP:Av (Ah Tryz.f165 10) [] [0,1,2,3] [4]:=by unfold Av;kernel_rfl
def LL:Bi:=fun i=>match i with
 | 1=>.ord [] (List.range 16) []
 | 2=>.ord [([0,1,2,3,4,5,6,7,8,9,10,11,12,13],14)] [15] [16]
 | 9=>.ord [] [0,1,2,3] [4]
 | 10=>.ord [] [0,1,2,3] [4]
 | _=>.no
def zi (c:AC) (q:AA) (pos:List Int) (ln:Nat) (lost:List Int):DH:=[some (.cells [.ref 1 0]),some (.cells (AK c++AD q++[.ints pos,.msl 2 1 0 ln])),some (.ints lost),some (.cells [.fn 166 1 (L1 [.ref 0 0])]),some (.cells [.i (pos.getD ((c.cells.getD 1 0).toNat) 0)]),some (.cells [.i 0]),some (.cells [.i 0])]
def zh (c:AC) (q:AA) (pos:List Int) (ln:Nat) (lost:List Int):DH:=[some (.cells [.ref 1 0]),some (.cells (AK c++AD q++[.ints pos,.msl 2 1 0 ln])),some (.ints lost),some (.cells [.fn 166 1 (L1 [.ref 0 0])]),some (.cells [.i (pos.getD ((c.cells.getD 1 0).toNat) 0)]),some (.cells [.i 0]),some (.cells [.i 0]),some (.iter ((B5 (pos.getD ((c.cells.getD 0 0).toNat) 0)).map BP))]
def zg (c:AC) (q:AA) (pos:List Int) (ln:Nat) (Dn:List Int) (Dm FU:Int):DH:=[some (.cells [.ref 1 0]),some (.cells (AK c++AD q++[.ints pos,.msl 2 1 0 ln])),some (.ints Dn),some (.cells [.fn 166 1 (L1 [.ref 0 0])]),some (.cells [.i (pos.getD ((c.cells.getD 1 0).toNat) 0)]),some (.cells [.i Dm]),some (.cells [.i FU]),none]
def zf (c:AC) (q:AA) (pos:List Int) (ln:Nat) (y2:(List Int)) (Dm FU:Int):DH:=[some (.cells [.ref 1 0]),some (.cells (AK c++AD q++[.ints pos,.msl 2 1 0 ln])),some (.ints y2),some (.cells [.fn 166 1 (L1 [.ref 0 0])]),some (.cells [.i (pos.getD ((c.cells.getD 1 0).toNat) 0)]),some (.cells [.i Dm]),some (.cells [.i FU]),none]
def kz (c:AC) (q:AA) (pos:List Int) (ln:Nat) (Co:List Int) (Cn Cm A9:Int):DH:=[some (.cells [.ref 1 0]),some (.cells (AK c++AD q++[.ints pos,.msl 2 1 0 ln])),some (.ints Co),some (.cells [.fn 166 1 (L1 [.ref 0 0])]),some (.cells [.i (pos.getD ((c.cells.getD 1 0).toNat) 0)]),some (.cells [.i Cn]),some (.cells [.i Cm]),none,some (.cells [.i A9])]
def ze (c:AC) (q:AA) (pos:List Int) (ln:Nat) (Co:List Int) (Cn Cm A9:Int):DH:=[some (.cells [.ref 1 0]),some (.cells (AK c++AD q++[.ints pos,.msl 2 1 0 ln])),some (.ints Co),some (.cells [.fn 166 1 (L1 [.ref 0 0])]),some (.cells [.i (pos.getD ((c.cells.getD 1 0).toNat) 0)]),some (.cells [.i Cn]),some (.cells [.i Cm]),none,some (.cells [.i A9]),some (.iter ((B5 (pos.getD ((c.cells.getD 1 0).toNat) 0)).map BP))]
def kw (c:AC) (q:AA) (pos:List Int) (ln:Nat) (Df:List Int) (DK DJ A9:Int):DH:=[some (.cells [.ref 1 0]),some (.cells (AK c++AD q++[.ints pos,.msl 2 1 0 ln])),some (.ints Df),some (.cells [.fn 166 1 (L1 [.ref 0 0])]),some (.cells [.i (pos.getD ((c.cells.getD 1 0).toNat) 0)]),some (.cells [.i DK]),some (.cells [.i DJ]),none,some (.cells [.i A9]),none]
inductive KA where
 | s0 (Df:List Int) (DK DJ:Int)
def i6 (c:AC) (q:AA) (pos:List Int) (ln:Nat) (A9:Int):KA -> DH
 | .s0 Df DK DJ=>[some (.cells [.ref 1 0]),some (.cells (AK c++AD q++[.ints pos,.msl 2 1 0 ln])),some (.ints Df),some (.cells [.fn 166 1 (L1 [.ref 0 0])]),some (.cells [.i (pos.getD ((c.cells.getD 1 0).toNat) 0)]),some (.cells [.i DK]),some (.cells [.i DJ]),none,some (.cells [.i A9]),none]
def Va (n:Nat) (c:AC) (q:AA) (pos:List Int) (ln:Nat) (A9 DM:Int) (Df:List Int) (DK DJ:Int):Option KA:=
 (Xt n A9 DM c q pos ln Df).bind fun OS=>
  bif OS.1 then
   if (0<=A9/\ A9<=(IntKind.i64.bits:Int))/\ (0<=DM/\ DM<=(IntKind.i64.bits:Int)) then
    some (.s0 OS.2 (bits .or .i64 DK (IntKind.i64.wrap (1*2 ^ (A9).toNat))) (bits .or .i64 DJ (IntKind.i64.wrap (1*2 ^ (DM).toNat))))
   else none
  else
   some (.s0 OS.2 DK DJ)
def i5 (n:Nat) (c:AC) (q:AA) (pos:List Int) (ln:Nat) (A9 DM:Int):KA -> Option KA
 | .s0 Df DK DJ=>Va n c q pos ln A9 DM Df DK DJ
def Vb (n:Nat) (c:AC) (q:AA) (pos:List Int) (ln:Nat) (A9 DM:Int) (s:KA):Option KA:=i5 n c q pos ln A9 DM s
theorem uf (n:Nat) (c:AC) (q:AA) (pos:List Int) (ln:Nat) (A9:Int) (l B:Nat) (N:Yd 10) (DM:Int) (s:KA) (r:KA) (h:Vb n c q pos ln A9 DM s=some r):TA l B N (Cd 10 [] 0 (i6 c q pos ln A9 r)) Tryz.f165 45 ⟨AG 69 [(3,.ref 3 0),(9,.ref 5 0),(10,.ref 6 0),(11,.ref 8 0),(45,.it 9),(46,.i DM)],i6 c q pos ln A9 s⟩:=by
 cases s with
 | s0 Df DK DJ=>
  replace h:Va n c q pos ln A9 DM Df DK DJ=some r:=h;unfold Va at h;refine ag LL [0,1,2,3,4,5,6,7,8,9] H0 (AG 69 [(3,.ref 3 0),(9,.ref 5 0),(10,.ref 6 0),(11,.ref 8 0),(12,.i DM)]) (kw c q pos ln Df DK DJ A9) fun N=>?_
  revert r;apply gO;exact ce zDg [0,1,2] (kw c q pos ln Df DK DJ A9) fun _=>bi 50 (jg rM (gc (gi (jt (jg rP (gi (jt (lF fun p=>rr LL [0,1,2,3,4,5,6,7,8,9] rfl p)))))))) (lF fun p=>rr LL [0,1,2,3,4,5,6,7,8,9] rfl p)
inductive KB where
 | s0 (Co:List Int) (Cn Cm:Int)
def i7 (c:AC) (q:AA) (pos:List Int) (ln:Nat):KB -> DH
 | .s0 Co Cn Cm=>[some (.cells [.ref 1 0]),some (.cells (AK c++AD q++[.ints pos,.msl 2 1 0 ln])),some (.ints Co),some (.cells [.fn 166 1 (L1 [.ref 0 0])]),some (.cells [.i (pos.getD ((c.cells.getD 1 0).toNat) 0)]),some (.cells [.i Cn]),some (.cells [.i Cm]),none]
def VZ (n:Nat) (c:AC) (q:AA) (pos:List Int) (ln:Nat) (A9:Int) (Co:List Int) (Cn Cm:Int):Option KB:=
 if 0<=(pos.getD ((c.cells.getD 1 0).toNat) 0)/\ (pos.getD ((c.cells.getD 1 0).toNat) 0)<9223372036854775808 then
  (Bl (Vb n c q pos ln A9) (B5 (pos.getD ((c.cells.getD 1 0).toNat) 0)) (.s0 Co Cn Cm)).bind fun OT=>
   match OT with
   | .s0 T9 T8 T7=>
    some (.s0 T9 T8 T7)
 else none
def i4 (n:Nat) (c:AC) (q:AA) (pos:List Int) (ln:Nat) (A9:Int):KB -> Option KB
 | .s0 Co Cn Cm=>VZ n c q pos ln A9 Co Cn Cm
def Vc (n:Nat) (c:AC) (q:AA) (pos:List Int) (ln:Nat) (A9:Int) (s:KB):Option KB:=i4 n c q pos ln A9 s
theorem ue (n:Nat) (c:AC) (q:AA) (pos:List Int) (ln:Nat) (l B:Nat) (N:Yd 8) (A9:Int) (s:KB) (r:KB) (h:Vc n c q pos ln A9 s=some r):TA l B N (Cd 8 [] 0 (i7 c q pos ln r)) Tryz.f165 42 ⟨AG 69 [(0,.ref 1 0),(3,.ref 3 0),(5,.i (c.cells.getD 0 0)),(6,.i (c.cells.getD 1 0)),(8,.ref 4 0),(9,.ref 5 0),(10,.ref 6 0),(42,.it 7),(43,.i A9)],i7 c q pos ln s⟩:=by
 cases s with
 | s0 Co Cn Cm=>
  replace h:VZ n c q pos ln A9 Co Cn Cm=some r:=h;unfold VZ at h;refine ag LL [0,1,2,3,4,5,6,7,8] (H0.t) (AG 69 [(3,.ref 3 0),(8,.ref 4 0),(9,.ref 5 0),(10,.ref 6 0),(11,.ref 8 0)]) (kz c q pos ln Co Cn Cm A9) fun N=>?_
  revert r;apply gO
  exact gn fun cz=>jc (Jv cz (kz c q pos ln Co Cn Cm A9)) (cn fun OT bU=>fun p r h=>by
   refine gs LL [0,1,2,3,4,5,6,7,8,9] p (Fg (VF Tryz.f165 42) 45 []) (AG 69 [(3,.ref 3 0),(9,.ref 5 0),(10,.ref 6 0),(11,.ref 8 0),(45,.it 9)]) (ze c q pos ln Co Cn Cm A9) ?_;refine r0 9 45 #[46] BP 10 bU (uf n c q pos ln A9) ?_;cases OT with
   | s0 T9 T8 T7=>
    dsimp only at h
    revert r;apply gO;exact lF fun p=>rr LL [0,1,2,3,4,5,6,7] rfl p)
def iz (n:Nat) (c:AC) (q:AA) (pos:List Int) (ln:Nat) (lost:List Int):Option (Bool×(List Int)):=
 if ((0:Int)<=0/\ 0<(c.cells.length:Int))/\ ((0:Int)<=1/\ 1<(c.cells.length:Int))/\ (0<=(c.cells.getD 0 0)/\ (c.cells.getD 0 0)<(pos.length:Int))/\ (0<=(c.cells.getD 1 0)/\ (c.cells.getD 1 0)<(pos.length:Int))/\ (0<=(pos.getD ((c.cells.getD 0 0).toNat) 0)/\ (pos.getD ((c.cells.getD 0 0).toNat) 0)<9223372036854775808) then
  (Bl (Vc n c q pos ln) (B5 (pos.getD ((c.cells.getD 0 0).toNat) 0)) (.s0 lost 0 0)).bind fun y1=>
   match y1 with
   | .s0 Dn Dm FU=>
    (DU n (c.cells.getD 0 0) (bits .xor .i64 (-1) Dm) c q pos ln Dn).bind fun y2=>
     (DU n (c.cells.getD 1 0) (bits .xor .i64 (-1) FU) c q pos ln y2).bind fun y3=>
      some (true,y3)
 else none
def ZZ (n:Nat) (c:AC) (q:AA) (pos:List Int) (ln:Nat) (lost:List Int):Option (Bool×(List Int)):=iz n c q pos ln lost
theorem ud {n:Nat} {c:AC} {q:AA} {pos:List Int} {ln:Nat} {lost:List Int} {r:Bool×(List Int)} (h:ZZ n c q pos ln lost=some r):EQ 165 [.ref 1 0,.fn 166 1 (L1 [.ref 0 0])] [some (.cells [.ref 1 0]),some (.cells (AK c++AD q++[.ints pos,.msl 2 1 0 ln])),some (.ints lost)] (.bool r.1) [some (.cells [.ref 1 0]),some (.cells (AK c++AD q++[.ints pos,.msl 2 1 0 ln])),some (.ints r.2)] false:=by
 refine ot Tryz.func165 fun B N=>?_
 revert r;apply gO
 exact jg rQ (gc (gi (gc (gi (jg rN (gc (gi (gc (gi (jt (gn fun g4=>jc (Jv g4 (zi c q pos ln lost)) (cn fun y1 A8=>fun p r h=>by
  refine gs LL [0,1,2,3,4,5,6,7] p (Fg (AW Tryz.f165) 42 []) (AG 69 [(0,.ref 1 0),(3,.ref 3 0),(5,.i (c.cells.getD 0 0)),(6,.i (c.cells.getD 1 0)),(8,.ref 4 0),(9,.ref 5 0),(10,.ref 6 0),(42,.it 7)]) (zh c q pos ln lost) ?_;refine r0 7 42 #[43] BP 8 A8 (ue n c q pos ln) ?_;cases y1 with
  | s0 Dn Dm FU=>
   dsimp only at h
   revert r;apply gO;exact ce Fr [1,2] (zg c q pos ln Dn Dm FU) fun y2=>ce Fr [1,2] (zf c q pos ln y2 Dm FU) fun _=>lE LL [4] [0,1,2]))))))))))))
theorem rL:Av (Ah Tryz.f165 1) [] (List.range 16) []:=by unfold Av;kernel_rfl
theorem rJ:Av (Ah Tryz.f165 2) [([0,1,2,3,4,5,6,7,8,9,10,11,12,13],14)] [15] [16]:=by unfold Av;kernel_rfl
theorem rI:Av (Ah Tryz.f165 9) [] [0,1,2,3] [4]:=by unfold Av;kernel_rfl
theorem rK:Av (Ah Tryz.f165 10) [] [0,1,2,3] [4]:=by unfold Av;kernel_rfl
def LJ:Bi:=fun i=>match i with
 | 1=>.ord [] (List.range 16) []
 | 2=>.ord [([0,1,2,3,4,5,6,7,8,9,10,11,12,13],14)] [15] [16]
 | 9=>.ord [] [0,1,2,3] [4]
 | 10=>.ord [] [0,1,2,3] [4]
 | _=>.no
def zd (c:AC) (q:AA) (pos:List Int) (ln:Nat) (lost:List Int):DH:=[some (.cells [.ref 1 0]),some (.cells (AK c++AD q++[.ints pos,.msl 2 1 0 ln])),some (.ints lost),some (.cells [.fn 167 1 (L1 [.ref 0 0])]),some (.cells [.i (pos.getD ((c.cells.getD 1 0).toNat) 0)]),some (.cells [.i 0]),some (.cells [.i 0])]
def zc (c:AC) (q:AA) (pos:List Int) (ln:Nat) (lost:List Int):DH:=[some (.cells [.ref 1 0]),some (.cells (AK c++AD q++[.ints pos,.msl 2 1 0 ln])),some (.ints lost),some (.cells [.fn 167 1 (L1 [.ref 0 0])]),some (.cells [.i (pos.getD ((c.cells.getD 1 0).toNat) 0)]),some (.cells [.i 0]),some (.cells [.i 0]),some (.iter ((B5 (pos.getD ((c.cells.getD 0 0).toNat) 0)).map BP))]
def zb (c:AC) (q:AA) (pos:List Int) (ln:Nat) (Dn:List Int) (Dm FU:Int):DH:=[some (.cells [.ref 1 0]),some (.cells (AK c++AD q++[.ints pos,.msl 2 1 0 ln])),some (.ints Dn),some (.cells [.fn 167 1 (L1 [.ref 0 0])]),some (.cells [.i (pos.getD ((c.cells.getD 1 0).toNat) 0)]),some (.cells [.i Dm]),some (.cells [.i FU]),none]
def za (c:AC) (q:AA) (pos:List Int) (ln:Nat) (y2:(List Int)) (Dm FU:Int):DH:=[some (.cells [.ref 1 0]),some (.cells (AK c++AD q++[.ints pos,.msl 2 1 0 ln])),some (.ints y2),some (.cells [.fn 167 1 (L1 [.ref 0 0])]),some (.cells [.i (pos.getD ((c.cells.getD 1 0).toNat) 0)]),some (.cells [.i Dm]),some (.cells [.i FU]),none]
def kv (c:AC) (q:AA) (pos:List Int) (ln:Nat) (Co:List Int) (Cn Cm A9:Int):DH:=[some (.cells [.ref 1 0]),some (.cells (AK c++AD q++[.ints pos,.msl 2 1 0 ln])),some (.ints Co),some (.cells [.fn 167 1 (L1 [.ref 0 0])]),some (.cells [.i (pos.getD ((c.cells.getD 1 0).toNat) 0)]),some (.cells [.i Cn]),some (.cells [.i Cm]),none,some (.cells [.i A9])]
def zZ (c:AC) (q:AA) (pos:List Int) (ln:Nat) (Co:List Int) (Cn Cm A9:Int):DH:=[some (.cells [.ref 1 0]),some (.cells (AK c++AD q++[.ints pos,.msl 2 1 0 ln])),some (.ints Co),some (.cells [.fn 167 1 (L1 [.ref 0 0])]),some (.cells [.i (pos.getD ((c.cells.getD 1 0).toNat) 0)]),some (.cells [.i Cn]),some (.cells [.i Cm]),none,some (.cells [.i A9]),some (.iter ((B5 (pos.getD ((c.cells.getD 1 0).toNat) 0)).map BP))]
def ku (c:AC) (q:AA) (pos:List Int) (ln:Nat) (Df:List Int) (DK DJ A9:Int):DH:=[some (.cells [.ref 1 0]),some (.cells (AK c++AD q++[.ints pos,.msl 2 1 0 ln])),some (.ints Df),some (.cells [.fn 167 1 (L1 [.ref 0 0])]),some (.cells [.i (pos.getD ((c.cells.getD 1 0).toNat) 0)]),some (.cells [.i DK]),some (.cells [.i DJ]),none,some (.cells [.i A9]),none]
inductive J8 where
 | s0 (Df:List Int) (DK DJ:Int)
def ix (c:AC) (q:AA) (pos:List Int) (ln:Nat) (A9:Int):J8 -> DH
 | .s0 Df DK DJ=>[some (.cells [.ref 1 0]),some (.cells (AK c++AD q++[.ints pos,.msl 2 1 0 ln])),some (.ints Df),some (.cells [.fn 167 1 (L1 [.ref 0 0])]),some (.cells [.i (pos.getD ((c.cells.getD 1 0).toNat) 0)]),some (.cells [.i DK]),some (.cells [.i DJ]),none,some (.cells [.i A9]),none]
def VW (n:Nat) (c:AC) (q:AA) (pos:List Int) (ln:Nat) (A9 DM:Int) (Df:List Int) (DK DJ:Int):Option J8:=
 (Vp n A9 DM c q pos ln Df).bind fun OS=>
  bif OS.1 then
   if (0<=A9/\ A9<=(IntKind.i64.bits:Int))/\ (0<=DM/\ DM<=(IntKind.i64.bits:Int)) then
    some (.s0 OS.2 (bits .or .i64 DK (IntKind.i64.wrap (1*2 ^ (A9).toNat))) (bits .or .i64 DJ (IntKind.i64.wrap (1*2 ^ (DM).toNat))))
   else none
  else
   some (.s0 OS.2 DK DJ)
def iw (n:Nat) (c:AC) (q:AA) (pos:List Int) (ln:Nat) (A9 DM:Int):J8 -> Option J8
 | .s0 Df DK DJ=>VW n c q pos ln A9 DM Df DK DJ
def VX (n:Nat) (c:AC) (q:AA) (pos:List Int) (ln:Nat) (A9 DM:Int) (s:J8):Option J8:=iw n c q pos ln A9 DM s
theorem uc (n:Nat) (c:AC) (q:AA) (pos:List Int) (ln:Nat) (A9:Int) (l B:Nat) (N:Yd 10) (DM:Int) (s:J8) (r:J8) (h:VX n c q pos ln A9 DM s=some r):TA l B N (Cd 10 [] 0 (ix c q pos ln A9 r)) Tryz.f165 45 ⟨AG 69 [(3,.ref 3 0),(9,.ref 5 0),(10,.ref 6 0),(11,.ref 8 0),(45,.it 9),(46,.i DM)],ix c q pos ln A9 s⟩:=by
 cases s with
 | s0 Df DK DJ=>
  replace h:VW n c q pos ln A9 DM Df DK DJ=some r:=h;unfold VW at h;refine ag LJ [0,1,2,3,4,5,6,7,8,9] H0 (AG 69 [(3,.ref 3 0),(9,.ref 5 0),(10,.ref 6 0),(11,.ref 8 0),(12,.i DM)]) (ku c q pos ln Df DK DJ A9) fun N=>?_
  revert r;apply gO;exact ce u7 [0,1,2] (ku c q pos ln Df DK DJ A9) fun _=>bi 50 (jg rI (gc (gi (jt (jg rK (gi (jt (lF fun p=>rr LJ [0,1,2,3,4,5,6,7,8,9] rfl p)))))))) (lF fun p=>rr LJ [0,1,2,3,4,5,6,7,8,9] rfl p)
inductive J9 where
 | s0 (Co:List Int) (Cn Cm:Int)
def iy (c:AC) (q:AA) (pos:List Int) (ln:Nat):J9 -> DH
 | .s0 Co Cn Cm=>[some (.cells [.ref 1 0]),some (.cells (AK c++AD q++[.ints pos,.msl 2 1 0 ln])),some (.ints Co),some (.cells [.fn 167 1 (L1 [.ref 0 0])]),some (.cells [.i (pos.getD ((c.cells.getD 1 0).toNat) 0)]),some (.cells [.i Cn]),some (.cells [.i Cm]),none]
def VV (n:Nat) (c:AC) (q:AA) (pos:List Int) (ln:Nat) (A9:Int) (Co:List Int) (Cn Cm:Int):Option J9:=
 if 0<=(pos.getD ((c.cells.getD 1 0).toNat) 0)/\ (pos.getD ((c.cells.getD 1 0).toNat) 0)<9223372036854775808 then
  (Bl (VX n c q pos ln A9) (B5 (pos.getD ((c.cells.getD 1 0).toNat) 0)) (.s0 Co Cn Cm)).bind fun OT=>
   match OT with
   | .s0 T9 T8 T7=>
    some (.s0 T9 T8 T7)
 else none
def iv (n:Nat) (c:AC) (q:AA) (pos:List Int) (ln:Nat) (A9:Int):J9 -> Option J9
 | .s0 Co Cn Cm=>VV n c q pos ln A9 Co Cn Cm
def VY (n:Nat) (c:AC) (q:AA) (pos:List Int) (ln:Nat) (A9:Int) (s:J9):Option J9:=iv n c q pos ln A9 s
theorem ub (n:Nat) (c:AC) (q:AA) (pos:List Int) (ln:Nat) (l B:Nat) (N:Yd 8) (A9:Int) (s:J9) (r:J9) (h:VY n c q pos ln A9 s=some r):TA l B N (Cd 8 [] 0 (iy c q pos ln r)) Tryz.f165 42 ⟨AG 69 [(0,.ref 1 0),(3,.ref 3 0),(5,.i (c.cells.getD 0 0)),(6,.i (c.cells.getD 1 0)),(8,.ref 4 0),(9,.ref 5 0),(10,.ref 6 0),(42,.it 7),(43,.i A9)],iy c q pos ln s⟩:=by
 cases s with
 | s0 Co Cn Cm=>
  replace h:VV n c q pos ln A9 Co Cn Cm=some r:=h;unfold VV at h;refine ag LJ [0,1,2,3,4,5,6,7,8] (H0.t) (AG 69 [(3,.ref 3 0),(8,.ref 4 0),(9,.ref 5 0),(10,.ref 6 0),(11,.ref 8 0)]) (kv c q pos ln Co Cn Cm A9) fun N=>?_
  revert r;apply gO
  exact gn fun cz=>jc (Jv cz (kv c q pos ln Co Cn Cm A9)) (cn fun OT bU=>fun p r h=>by
   refine gs LJ [0,1,2,3,4,5,6,7,8,9] p (Fg (VF Tryz.f165 42) 45 []) (AG 69 [(3,.ref 3 0),(9,.ref 5 0),(10,.ref 6 0),(11,.ref 8 0),(45,.it 9)]) (zZ c q pos ln Co Cn Cm A9) ?_;refine r0 9 45 #[46] BP 10 bU (uc n c q pos ln A9) ?_;cases OT with
   | s0 T9 T8 T7=>
    dsimp only at h
    revert r;apply gO;exact lF fun p=>rr LJ [0,1,2,3,4,5,6,7] rfl p)
def iu (n:Nat) (c:AC) (q:AA) (pos:List Int) (ln:Nat) (lost:List Int):Option (Bool×(List Int)):=
 if ((0:Int)<=0/\ 0<(c.cells.length:Int))/\ ((0:Int)<=1/\ 1<(c.cells.length:Int))/\ (0<=(c.cells.getD 0 0)/\ (c.cells.getD 0 0)<(pos.length:Int))/\ (0<=(c.cells.getD 1 0)/\ (c.cells.getD 1 0)<(pos.length:Int))/\ (0<=(pos.getD ((c.cells.getD 0 0).toNat) 0)/\ (pos.getD ((c.cells.getD 0 0).toNat) 0)<9223372036854775808) then
  (Bl (VY n c q pos ln) (B5 (pos.getD ((c.cells.getD 0 0).toNat) 0)) (.s0 lost 0 0)).bind fun y1=>
   match y1 with
   | .s0 Dn Dm FU=>
    (DU n (c.cells.getD 0 0) (bits .xor .i64 (-1) Dm) c q pos ln Dn).bind fun y2=>
     (DU n (c.cells.getD 1 0) (bits .xor .i64 (-1) FU) c q pos ln y2).bind fun y3=>
      some (true,y3)
 else none
def ZY (n:Nat) (c:AC) (q:AA) (pos:List Int) (ln:Nat) (lost:List Int):Option (Bool×(List Int)):=iu n c q pos ln lost
theorem ua {n:Nat} {c:AC} {q:AA} {pos:List Int} {ln:Nat} {lost:List Int} {r:Bool×(List Int)} (h:ZY n c q pos ln lost=some r):EQ 165 [.ref 1 0,.fn 167 1 (L1 [.ref 0 0])] [some (.cells [.ref 1 0]),some (.cells (AK c++AD q++[.ints pos,.msl 2 1 0 ln])),some (.ints lost)] (.bool r.1) [some (.cells [.ref 1 0]),some (.cells (AK c++AD q++[.ints pos,.msl 2 1 0 ln])),some (.ints r.2)] false:=by
 refine ot Tryz.func165 fun B N=>?_
 revert r;apply gO
 exact jg rL (gc (gi (gc (gi (jg rJ (gc (gi (gc (gi (jt (gn fun g4=>jc (Jv g4 (zd c q pos ln lost)) (cn fun y1 A8=>fun p r h=>by
  refine gs LJ [0,1,2,3,4,5,6,7] p (Fg (AW Tryz.f165) 42 []) (AG 69 [(0,.ref 1 0),(3,.ref 3 0),(5,.i (c.cells.getD 0 0)),(6,.i (c.cells.getD 1 0)),(8,.ref 4 0),(9,.ref 5 0),(10,.ref 6 0),(42,.it 7)]) (zc c q pos ln lost) ?_;refine r0 7 42 #[43] BP 8 A8 (ub n c q pos ln) ?_;cases y1 with
  | s0 Dn Dm FU=>
   dsimp only at h
   revert r;apply gO;exact ce Fr [1,2] (zb c q pos ln Dn Dm FU) fun y2=>ce Fr [1,2] (za c q pos ln y2 Dm FU) fun _=>lE LJ [4] [0,1,2]))))))))))))
def dM (n:Nat) (c:AC) (q:AA) (pos:List Int) (ln:Nat) (lost:List Int):Option (Bool×(List Int)):=
 (ZZ n c q pos ln lost).bind fun y1=>
  some (y1.1,y1.2)
def OV (n:Nat) (c:AC) (q:AA) (pos:List Int) (ln:Nat) (lost:List Int):Option (Bool×(List Int)):=dM n c q pos ln lost
theorem zDe {n:Nat} {c:AC} {q:AA} {pos:List Int} {ln:Nat} {lost:List Int} {r:Bool×(List Int)} (h:OV n c q pos ln lost=some r):EQ 137 [.ref 0 0] [some (.cells (AK c++AD q++[.ints pos,.msl 1 1 0 ln])),some (.ints lost)] (.bool r.1) [some (.cells (AK c++AD q++[.ints pos,.msl 1 1 0 ln])),some (.ints r.2)] false:=by
 unfold OV dM at h;refine ot Tryz.func137 fun B N=>?_
 revert r;apply gO;exact ce ud [2,0,1] [some (.cells (AK c++AD q++[.ints pos,.msl 1 1 0 ln])),some (.ints lost),some (.cells [.ref 0 0])] fun _=>lE AB [2] [0,1]
def Zn (n:Nat) (c:AC) (q:AA) (pos:List Int) (ln:Nat) (lost:List Int):Option (Bool×(List Int)):=
 (ZY n c q pos ln lost).bind fun y1=>
  some (y1.1,y1.2)
def NO (n:Nat) (c:AC) (q:AA) (pos:List Int) (ln:Nat) (lost:List Int):Option (Bool×(List Int)):=Zn n c q pos ln lost
theorem u6 {n:Nat} {c:AC} {q:AA} {pos:List Int} {ln:Nat} {lost:List Int} {r:Bool×(List Int)} (h:NO n c q pos ln lost=some r):EQ 138 [.ref 0 0] [some (.cells (AK c++AD q++[.ints pos,.msl 1 1 0 ln])),some (.ints lost)] (.bool r.1) [some (.cells (AK c++AD q++[.ints pos,.msl 1 1 0 ln])),some (.ints r.2)] false:=by
 unfold NO Zn at h;refine ot Tryz.func138 fun B N=>?_
 revert r;apply gO;exact ce ua [2,0,1] [some (.cells (AK c++AD q++[.ints pos,.msl 1 1 0 ln])),some (.ints lost),some (.cells [.ref 0 0])] fun _=>lE AB [2] [0,1]
end Go.Proofs.YtkjbblkieglmlaaGreatDoor
