/- Part 3 of 7 of what the proofs of these laws stand on. -/
import Derived.Test.YtodinaconebmdaaGreatDoorPyB
import Derived.LoopIn
set_option linter.all false
namespace Go.Proofs.YtodinaconebmdaaGreatDoor
abbrev zBw:=@List.drop_eq_getElem_cons
abbrev zFr:=@of_decide_eq_true
abbrev zGp:=@List.drop_length
open Go.RowKit
section
variable {P:Program} {Γ:Aj}
theorem Ag.foreign {N1 N2 G:Nat -> Prop}{h:DH}{ρ:List AE}{A B:World}(H:Ag P Γ N1 h ρ A)(hu:AN G A B)(hG: ∀ b,G b -> N1 b/\ Γ.ng<=b)(hN: ∀ b,N2 b -> N1 b∨A.heap.size<=b)(hb: ∀ b,N2 b -> b<B.heap.size/\ Γ.ng<=b):Ag P Γ N2 h ρ B:=by
 have O:BH (MS N1 h ρ) A ρ (MS N2 h ρ) B ρ:=⟨fun b AK hm _=>hu.block b AK fun hx=>hm (.inl (hG b hx).1),fun b hb=>hb.elim (fun h=>(hN b h).imp .inl id) (fun h=>.inl (.inr h)),fun _ _ h=>h⟩;refine ⟨H.len,fun k o hk=>?_,fun k o p b h1 h2 h3=>?_,H.dis,hb,Γ.st _ _ H.gi (hu.mono fun i _ hx=>(hG i hx).2)⟩
 ·obtain ⟨p,hp,hr⟩:=H.obj k o hk;exact ⟨p,hp,hr.out O hu (fun b hb=>.inl (hG b hb).1) fun b _ hf hs=>(H.cel k o p b hk hp hf).2.1 (hG b hs).1⟩
 ·obtain ⟨c1,c2,c,t,z,c3⟩:=H.cel k o p b h1 h2 h3;have AK:=(zAL.1 c3).1;exact ⟨c1,fun hn=>(hN b hn).elim c2 (by omega),c,t,z,(hu.block b AK fun hx=>c2 (hG b hx).1).trans c3⟩
theorem BH.foreign {N1 N2 G:Nat -> Prop}{h:DH}{ρ:List AE}{A B:World}(hu:AN G A B)(hG: ∀ b,G b -> N1 b/\ Γ.ng<=b)(hN: ∀ b,N2 b -> N1 b∨A.heap.size<=b):BH (MS N1 h ρ) A ρ (MS N2 h ρ) B ρ:=
 ⟨fun b AK hm _=>hu.block b AK fun hx=>hm (.inl (hG b hx).1),fun b hb=>hb.elim (fun h=>(hN b h).imp .inl id) (fun h=>.inl (.inr h)),fun _ _ h=>h⟩
def IN (fr:List DV)(ps:List Tmp)(x:List DV):List DV:=(ps.zip x).foldl (fun t q=>t.set q.1 q.2) fr
theorem jf {M:Nat -> Prop}{w:World}{ρ:List AE}: ∀ (ps:List Tmp) (x:List DV) (v:List Value) {fr:List DV} {t:Array Value},x.length=v.length -> (∀ j,j<x.length -> AI M w (x.getD j .any) ρ (v.getD j undef)) -> A0 M w ρ fr t ->
 A0 M w ρ (IN fr ps x) ((ps.zip v).foldl (fun t (q:Tmp×Value)=>t.setIfInBounds q.1 q.2) t)
 | [],_,_,_,_,_,_,h=>h
 | _::_,[],[],_,_,_,_,h=>h
 | p::ps,d::x,u::v,_,_,hl,hx,h=>jf ps x v (Nat.succ.inj hl) (fun j hj=>hx (j+1) (Nat.succ_lt_succ hj)) (h.set p (hx 0 (Nat.succ_pos _)))
theorem YV.rep {ds:List DV}{R:Nat -> Prop}{W:World}{args:Array Value}(h:YV ds R W args){M:Nat -> Prop}(hM: ∀ b,M b -> b<W.heap.size/\ ¬ R b)(ρ:List AE): ∀ j,j<ds.length -> AI M W (ds.getD j .any) ρ (args.toList.getD j undef):=fun j hj=>by
 have e:args.toList.getD j undef=args.getD j undef:=by simp [zBs,u8]
 rw [e];exact (h.2 j hj).out _ ⟨fun _ _ _ _=>rfl,fun b hb=>.inl (hM b hb),fun k p hk=>by simp at hk⟩
def Ck (K:Nat):DV -> Bool
 | .ref k _=>decide (k<K)
 | .msl k _ _ _=>decide (k<K)
 | .mse k _ _ _=>decide (k<K)
 | .mri k _=>decide (k<K)
 | .mp k _ _ _=>decide (k<K)
 | .it k=>decide (k<K)
 | .agg m f=>(List.range m).all fun j=>Ck K (f j)
 | .tup m f=>(List.range m).all fun j=>Ck K (f j)
 | .fn _ m f=>(List.range m).all fun j=>Ck K (f j)
 | _=>true
theorem Ra {α:Type}{l:List α}{K k:Nat}{x:α}(hk:k<K)(h:l[k]? =some x):(l.take K)[k]? =some x:=by rw [zFW,zAA hk];exact h
theorem AI.take {M:Nat -> Prop}{w:World}{K:Nat}: ∀ (d:DV) {ρ:List AE} {v:Value},Ck K d=true -> AI M w d ρ v -> AI M w d (ρ.take K) v:=by
 intro d
 induction d with
 | ref k j=>rintro ρ v hb ⟨p,h,e⟩;exact ⟨p,Ra (zFr hb) h,e⟩
 | msl k m off n=>rintro ρ v hb ⟨p,cap,h,e⟩;exact ⟨p,cap,Ra (zFr hb) h,e⟩
 | mp k m i j=>rintro ρ v hb ⟨p,h,e⟩;exact ⟨p,Ra (zFr hb) h,e⟩
 | it k=>rintro ρ v hb ⟨p,h,e⟩;exact ⟨p,Ra (zFr hb) h,e⟩
 | agg m f ih=>
  rintro ρ v hb ⟨cs,e,hs,h⟩;exact ⟨cs,e,hs,fun j hj=>let ⟨u,h1,h2⟩:=h j hj;⟨u,h1,ih j (zAX.1 hb j (zBf.2 hj)) h2⟩⟩
 | tup m f ih=>
  rintro ρ v hb ⟨cs,e,hs,h⟩;exact ⟨cs,e,hs,fun j hj=>let ⟨u,h1,h2⟩:=h j hj;⟨u,h1,ih j (zAX.1 hb j (zBf.2 hj)) h2⟩⟩
 | fn g m f ih=>
  rintro ρ v hb ⟨cs,e,hs,h⟩;exact ⟨cs,e,hs,fun j hj=>let ⟨u,h1,h2⟩:=h j hj;⟨u,h1,ih j (zAX.1 hb j (zBf.2 hj)) h2⟩⟩
 | yl l=>rintro ρ v _ h;exact h
 | cst u=>rintro ρ v _ h;exact h
 | mse k m off n=>rintro ρ v hb ⟨p,a,cap,h,e⟩;exact ⟨p,a,cap,Ra (zFr hb) h,e⟩
 | mri k i=>rintro ρ v hb ⟨p,vs,h,e⟩;exact ⟨p,vs,Ra (zFr hb) h,e⟩
 | any=>rintro ρ v _ h;trivial
 | nils=>rintro ρ v _ h;exact h
 | int k n=>rintro ρ v _ h;exact h
 | bool b=>rintro ρ v _ h;exact h
 | str s=>rintro ρ v _ h;exact h
 | ints l=>rintro ρ v _ h;exact h
 | bools l=>rintro ρ v _ h;exact h
 | sl m n f=>rintro ρ v _ h;exact h
 | fp m f=>rintro ρ v _ h;exact h
theorem A0.take {M:Nat -> Prop}{w:World}{K:Nat}{ρ:List AE}{fr:List DV}{t:Array Value}(h:A0 M w ρ fr t)(hb:fr.all (Ck K)=true):A0 M w (ρ.take K) fr t:=by
 refine ⟨h.1,fun i hi=>AI.take _ ?_ (h.2 i hi)⟩;have:fr.getD i .any∈fr:=by simp [u8,hi]
 exact zAX.1 hb _ this
theorem BH.weak {M M0:Nat -> Prop}{w:World}{ρ:List AE}{M':Nat -> Prop}{w':World}{ρ':List AE}(h:BH M0 w ρ M' w' ρ')(hM: ∀ b,M0 b -> M b):BH M w ρ M' w' ρ':=
 ⟨fun b hl hn=>h.blk b hl fun hx=>hn (hM b hx),fun b hb=>(h.m b hb).imp (hM b) id,h.pl⟩
structure RI (K:Nat)(P:Program)(Γ:Aj)(N:Nat -> Prop)(h0:DH)(ρ0:List AE)(w0:World)(G R:Nat -> Prop)(W:World)(h:DH)(ρ:List AE):Prop where
 hr:Ag P Γ (fun b=>N b∨G b) h ρ W
 upd:AN (MO h0 ρ0) w0 W
 grow: ∀ b,MO h ρ b -> MO h0 ρ0 b∨w0.heap.size<=b
 g: ∀ b,G b -> Γ.ng<=b/\ (MO h0 ρ0 b∨w0.heap.size<=b)
 r: ∀ b,R b -> ¬ N b/\ ¬ MO h ρ b
 kept:B0 K ρ0 ρ
theorem RI.off {K:Nat}{N:Nat -> Prop}{h0:DH}{ρ0:List AE}{w0:World}{G R:Nat -> Prop}{W:World}{h:DH}{ρ:List AE}(hR:RI K P Γ N h0 ρ0 w0 G R W h ρ): ∀ b,MO h ρ b -> b<W.heap.size/\ ¬ N b/\ ¬ (G b∨R b):=fun b hm=>by
 obtain ⟨k,o,p,q1,q2,q3⟩:=id hm;obtain ⟨_,c2,c,_,_,c3⟩:=hR.hr.cel k o p b q1 q2 q3;exact ⟨(zAL.1 c3).1,fun h=>c2 (.inl h),fun h=>h.elim (fun h=>c2 (.inr h)) fun h=>(hR.r b h).2 hm⟩
theorem RI.stable {K:Nat}{N:Nat -> Prop}{h0:DH}{ρ0:List AE}{w0:World}(CR:Γ.ng<=w0.heap.size)(hN: ∀ b,N b -> b<w0.heap.size/\ ¬ MO h0 ρ0 b){h:DH}{ρ:List AE}:Ce fun G R W=>RI K P Γ N h0 ρ0 w0 G R W h ρ:=fun G R G' R' A B hR hu hg hr _ _ hb=>by
 have hs:w0.heap.size<=A.heap.size:=hR.upd.size;refine ⟨hR.hr.foreign hu (fun b hx=>⟨.inr hx,(hR.g b hx).1⟩) (fun b hx=>?_) (fun b hx=>?_),hR.upd.comp hu fun i hi hx=>(hR.g i hx).2.resolve_right (by omega),hR.grow,fun b hx=>?_,fun b hx=>?_,hR.kept⟩
 ·rcases hx with hx | hx
  ·exact .inl (.inl hx)
  ·exact (hg b hx).imp .inr id
 ·rcases hx with hx | hx
  ·exact ⟨zBa (hR.hr.nlt b (.inl hx)).1 hu.size,(hR.hr.nlt b (.inl hx)).2⟩
  ·exact ⟨hb b (.inl hx),(hg b hx).elim (fun h=>(hR.g b h).1) (fun h=>by omega)⟩
 ·rcases hg b hx with hx | hx
  ·exact hR.g b hx
  ·exact ⟨by omega,.inr (by omega)⟩
 ·rcases hr b hx with hx | hx | hx
  ·exact hR.r b hx
  ·exact ⟨fun hn=>(hR.g b hx).2.elim (hN b hn).2 (by have:=(hN b hn).1;omega),fun hm=>(hR.off b hm).2.2 (.inl hx)⟩
  ·exact ⟨fun hn=>by have:=(hN b hn).1;omega,fun hm=>by have:=(hR.off b hm).1;omega⟩
theorem RI.outl {K:Nat}{N:Nat -> Prop}{h0:DH}{ρ0:List AE}{w0:World}{G R0:Nat -> Prop}{W:World}{h:DH}{ρ:List AE}(R:RI K P Γ N h0 ρ0 w0 G R0 W h ρ):BH (MS N h0 ρ0) w0 (ρ0.take K) (MS (fun b=>N b∨G b) h ρ) W ρ:=
 ⟨fun b AK hm _=>R.upd.block b AK fun hx=>hm (.inr hx),fun b hb=>by
  rcases hb with (hb | hb) | hb
  ·exact .inl (.inl hb)
  ·exact (R.g b hb).2.imp .inr id
  ·exact (R.grow b hb).imp .inr id,fun k p hk=>by
  rw [zFW] at hk
  by_cases e:k<K
  ·rw [zAA e] at hk;exact R.kept k p e hk
  ·rw [zAY e] at hk;cases hk⟩
def Jh:Exit -> Option Code
 | .ret=>some .ret
 | .exit id=>some (.exit id)
 | _=>none
def SP (L:Nat)(J:DH -> Prop)(Jx:Exit -> DH -> Prop)(e:Exit)(S:St):Prop:=∃ S3,At L S S3/\ ((e= .normal/\ J S3.h)∨((Jh e).isSome=true/\ Jx e S3.h))
def gB (P:Program)(Γ:Aj)(fr:List DV)(ps:List Tmp)(assign body:Code)(L:Nat)(J:Nat -> DH -> Prop)(Jx:Exit -> DH -> Prop)(encs:List (List DV)):Prop:= ∀ (l B:Nat) (Y:BB P Γ L) (i:Nat) (x:List DV) (h:DH),encs[i]? =some x -> J i h -> Tr P Γ (Fence.wide.inRound l) (some B) L Y assign ⟨IN fr ps x,h⟩ (QS (fun S' Y'=>Y'=Y/\ ∀ Y2:BB P Γ L,Tr P Γ (Fence.wide.inRound l) (some B) L Y2 body S' (stay Y2 (SP L (J (i+1)) Jx))) (fun _ _ _=>False))
def rA (L:Nat)(J:DH -> Prop)(Jx:Exit -> DH -> Prop)(Jp:List PanicEntry -> DH -> Prop)(e:Exit)(S:St):Prop:=SP L J Jx e S∨∃ c S3,e= .panic c/\ At L S S3/\ Oh S3.h/\ Jp c S3.h
def ZW (P:Program)(Γ:Aj)(fr:List DV)(ps:List Tmp)(assign body:Code)(L:Nat)(J:Nat -> DH -> Prop)(Jx:Exit -> DH -> Prop)(Jp:List PanicEntry -> DH -> Prop)(encs:List (List DV)):Prop:= ∀ (l B:Nat) (Y:BB P Γ L) (i:Nat) (x:List DV) (h:DH),encs[i]? =some x -> J i h -> Tr P Γ (Fence.wide.inRound l) (some B) L Y assign ⟨IN fr ps x,h⟩ (QS (fun S' Y'=>Y'=Y/\ ∀ Y2:BB P Γ L,Tr P Γ (Fence.wide.inRound l) (some B) L Y2 body S' (stay Y2 (rA L (J (i+1)) Jx Jp))) (fun _ _ _=>False))
theorem gB.p {fr:List DV}{ps:List Tmp}{assign body:Code}{L:Nat}{J:Nat -> DH -> Prop}{Jx:Exit -> DH -> Prop}{encs:List (List DV)}(hr:gB P Γ fr ps assign body L J Jx encs)(Jp:List PanicEntry -> DH -> Prop):ZW P Γ fr ps assign body L J Jx Jp encs:=fun l B Y i x h h1 h2=>by
 refine Tr.mono (hr l B Y i x h h1 h2) fun e S2 Y2 hq=>?_
 cases e with
 | normal=>exact ⟨hq.1,fun N2=>Tr.mono (show Tr P Γ (Fence.wide.inRound l) (some B) L N2 body S2 (stay N2 (SP L (J (i+1)) Jx)) from hq.2 N2) fun e S3 Y3 h3=>⟨h3.1,.inl h3.2⟩⟩
 | ret=>exact hq.elim
 | exit id=>exact hq.elim
 | goto t=>exact hq.elim
 | panic c=>exact hq.elim
 | outgrown=>exact hq.elim
abbrev RJ (P:Program)(Γ:Aj)(N:Nat -> Prop)(h0:DH)(ρ:List AE)(w:World)(KK:Nat)(J:Nat -> DH -> Prop)(i:Nat)(G R:Nat -> Prop)(W:World):Prop:=∃ h ρ',J i h/\ RI KK P Γ N h0 ρ w G R W h ρ'
abbrev RX (P:Program)(Γ:Aj)(N:Nat -> Prop)(h0:DH)(ρ:List AE)(w:World)(KK:Nat)(Jx:Exit -> DH -> Prop)(c:Code)(G R:Nat -> Prop)(W:World):Prop:=∃ e,Jh e=some c/\ ∃ h ρ',Jx e h/\ RI KK P Γ N h0 ρ w G R W h ρ'
abbrev rB (P:Program)(Γ:Aj)(N:Nat -> Prop)(h0:DH)(ρ:List AE)(w:World)(KK:Nat)(Jp:List PanicEntry -> DH -> Prop)(c:List PanicEntry)(G R:Nat -> Prop)(W:World):Prop:=∃ h ρ',Jp c h/\ RI KK P Γ N h0 ρ w G R W h ρ'
theorem RI.shut {N:Nat -> Prop}{h0:DH}{ρ0:List AE}{w0:World}{KK:Nat}{G R:Nat -> Prop}{W W2:World}{h:DH}{ρ:List AE}(hR:RI KK P Γ N h0 ρ0 w0 G R W h ρ)(hi:Oh h){B:Nat}(CR:Γ.ng<=w0.heap.size)(hB:w0.heap.size<=B)(hs:L2 B W W2):RI KK P Γ N h0 ρ0 w0 G R W2 h ρ:=
 ⟨(AP.shut (S:=⟨[],h⟩) (a:={ tmps:=#[],defers:=[] }) ⟨hR.hr,rfl,fun i hi=>absurd hi (zBk i)⟩ hi (zAa CR hB) hs).hr,hR.upd.comp hs fun i hi hx=>absurd hx.1 (by omega),hR.grow,hR.g,hR.r,hR.kept⟩
theorem aa {N:Nat -> Prop}{S:St}{ρ:List AE}{a:Act}{w:World}(Q:AP P Γ N S ρ a w){h0:DH}(hN: ∀ b,N b -> b<w.heap.size/\ ¬ MO h0 ρ b)(hh: ∀ b,MO h0 ρ b -> MO S.h ρ b){ps:Array Tmp}{assign body:Code}{encs:List (List DV)}{J:Nat -> DH -> Prop}{Jx:Exit -> DH -> Prop}{Jp:List PanicEntry -> DH -> Prop}{KK:Nat}(B3:S.fr.all (Ck KK)=true) 
 (C7:ZW P Γ S.fr ps.toList assign body KK J Jx Jp encs) (l:Nat):V5 P YV encs ps assign body a l (RJ P Γ N h0 ρ w KK J) (RX P Γ N h0 ρ w KK Jx) (rB P Γ N h0 ρ w KK Jp):=by
 rintro G R i x args W hx hE ⟨h,ρ1,hJ,hR⟩ hS hl Lg;have CR:Γ.ng<=w.heap.size:=Γ.lo _ Q.hr.gi
 have hM: ∀ {h:DH} {ρ1:List AE} {W:World},RI KK P Γ N h0 ρ w G R W h ρ1 -> ∀ b,MS (fun b=>N b∨G b) h ρ1 b -> b<W.heap.size/\ ¬ R b:=fun hR b hb=>by
  rcases hb with (hb | hb) | hb
  ·exact ⟨(hR.hr.nlt b (.inl hb)).1,fun h=>(hR.r b h).1 hb⟩
  ·exact ⟨(hR.hr.nlt b (.inr hb)).1,hS.dis b hb⟩
  ·exact ⟨(hR.off b hb).1,fun h=>(hR.off b hb).2.2 (.inr h)⟩
 have Uj:BH (MS N S.h ρ) w (ρ.take KK) (MS (fun b=>N b∨G b) h ρ1) W ρ1:=hR.outl.weak (fun b hb=>hb.imp id (hh b))
 have Kk:A0 (MS (fun b=>N b∨G b) h ρ1) W ρ1 (IN S.fr ps.toList x) ((ps.zip args).foldl (fun t (p,v)=>t.setIfInBounds p v) a.tmps):=by
  have:=jf ps.toList x args.toList (by simpa using hE.1) (hE.rep (hM hR) ρ1) ((Q.fr.take B3).out Uj);rw [←Array.foldl_toList,Array.toList_zip];exact this
 have step: ∀ {G R:Nat -> Prop} {W W':World} {h h':DH} {ρ1 ρ2:List AE},RI KK P Γ N h0 ρ w G R W h ρ1 -> (∀ b,R b -> b<W.heap.size) -> Ag P Γ (fun b=>N b∨G b) h' ρ2 W' -> Ap h ρ1 W h' ρ2 W' -> B0 KK ρ1 ρ2 -> RI KK P Γ N h0 ρ w G R W' h' ρ2:=by
  intro G R W W' h h' ρ1 ρ2 hR AK CC st hk;have hs:=hR.upd.size;exact ⟨CC,hR.upd.comp st.upd fun b hb hm=>(hR.grow b hm).resolve_right (by omega),fun b hb=>(st.grow b hb).elim (hR.grow b) fun h=>.inr (by omega),hR.g,fun b hb=>⟨(hR.r b hb).1,fun hm=>(st.grow b hm).elim (hR.r b hb).2 (by have:=AK b hb;omega)⟩,hR.kept.trans hk⟩
 have oH: ∀ b,R b -> b<W.heap.size:=fun b h=>hS.lt b (.inr h)
 have bd:Bd (Fence.wide.inRound l) (some W.heap.size) W:=⟨fun b e=>by cases e;exact zBl _,fun l' e=>by cases e;exact hl⟩;refine zGE (C7 l W.heap.size (QW P Γ KK (fun b=>N b∨G b) h ρ1 W) i x h hx hJ _ ρ1 _ W ⟨hR.hr,Kk⟩ ⟨rfl,Ap.refl _ _ _,B0.refl _ _⟩ trivial bd) ?_;rintro e a1 W1 ⟨S',ρ2,N2,Y2,h1,h2,h3,h4,_⟩;cases e with
 | normal=>
  obtain ⟨rfl,h1⟩:=h1;obtain ⟨rfl,h3,h5⟩:=h3;refine ⟨fun G' R' W'=>RI KK P Γ N h0 ρ w G' R' W' S'.h ρ2/\ A0 (MS (fun b=>N b∨G' b) S'.h ρ2) W' ρ2 S'.fr a1.tmps/\ EA W.heap.size a1.defers W'/\ W1.heap.size<=W'.heap.size/\ (∀ b,G' b -> b<W.heap.size∨W1.heap.size<=b)/\ (∀ d∈a1.defers,∀ D,d.target= .collected D -> D<W1.heap.size)/\ (∀ b,R' b -> b<W'.heap.size),?_,h3.upd.mono fun b _ hm=>(hR.off b hm).2.2,⟨step hR oH h2.hr h3 h5,h2.fr,h4,zBl _,fun b hg=>.inl (hR.hr.nlt b (.inr hg)).1,fun d hd D ht=>EA.lt h4 hd ht,fun b hb=>zBa (oH b hb) h3.upd.size⟩,?_⟩
  ·rintro G1 R1 G2 R2 A C ⟨q1,q2,q3,q4,q5,q6,q7⟩ hu hg hr Eg hd hb;have hR2:=RI.stable CR hN _ _ _ _ _ _ q1 hu hg hr Eg hd hb;refine ⟨hR2,q2.out (BH.foreign (Γ:=Γ) hu (fun b hx=>⟨.inr hx,(q1.g b hx).1⟩) fun b hx=>?_),?_,zAa q4 hu.size,fun b hx=>(hg b hx).elim (q5 b) (fun h=>.inr (by omega)),q6,fun b h=>hb b (.inr h)⟩
   ·rcases hx with hx | hx
    ·exact .inl (.inl hx)
    ·exact (hg b hx).imp .inr id
   ·have go: ∀ {ds:List Deferred},EA W.heap.size ds A -> (∀ d∈ds,∀ D,d.target= .collected D -> D<W1.heap.size) -> EA W.heap.size ds C:=by
     intro ds
     induction ds with
     | nil=>intros;trivial
     | cons d ds ih=>
      rintro ⟨D,r1,r2,r3,r4,r5⟩ AK;have hD:D<W1.heap.size:=AK d (by simp) D (by rw [r1]);refine ⟨D,r1,r2,(hu.block D (zAL.1 r3).1 fun hx=>?_).trans r3,r4,ih r5 fun d' Is=>AK d' (by simp [Is])⟩;rcases q5 D hx with h | h <;> omega
    exact go q3 q6
  ·rintro W2 ⟨q1,q2,q3,q4,q5,q6,q7⟩ Cy;have bd2:Bd (Fence.wide.inRound l) (some W.heap.size) W2:=⟨fun b e=>by cases e;exact zAa h3.upd.size q4,fun l' e=>by cases e;exact Cy⟩;refine zGE (h1 (QW P Γ KK (fun b=>N b∨G b) S'.h ρ2 W2) _ ρ2 a1 W2 ⟨q1.hr,q2⟩ ⟨rfl,Ap.refl _ _ _,B0.refl _ _⟩ q3 bd2) ?_;rintro e a3 W3 ⟨S3,ρ3,N3,Y3,r1,r2,r3,r4,_⟩
   have out: ∀ e,(QW P Γ KK (fun b=>N b∨G b) S'.h ρ2 W2).I N3 S3.h ρ3 W3 -> SP KK (J (i+1)) Jx e S3 -> AN (fun k=>¬ (G k∨R k)) W2 W3/\ ((e= .normal/\ RJ P Γ N h0 ρ w KK J (i+1) G R W3)∨((Jh e).isSome=true/\ ∃ h ρ',Jx e h/\ RI KK P Γ N h0 ρ w G R W3 h ρ')):=by
    rintro e r0 ⟨S4,B2,hJ4⟩;obtain ⟨rfl,r3,r5⟩:=r0;obtain ⟨ρ4,R4,s4,k4⟩:=B2 P Γ _ ρ3 a3 W3 r2;have YJ:=step q1 q7 R4.hr (r3.trans s4) (r5.trans k4);exact ⟨r3.upd.mono fun b _ hm=>(q1.off b hm).2.2,hJ4.imp (fun ⟨x,y⟩=>⟨x,S4.h,ρ4,y,YJ⟩) (fun ⟨x,y⟩=>⟨x,S4.h,ρ4,y,YJ⟩)⟩
   have Ef: ∀ {e c},Jh e=some c -> (QW P Γ KK (fun b=>N b∨G b) S'.h ρ2 W2).I N3 S3.h ρ3 W3 -> SP KK (J (i+1)) Jx e S3 -> AN (fun k=>¬ (G k∨R k)) W2 W3/\ RX P Γ N h0 ρ w KK Jx c G R W3:=fun he r3 r1=>by
    obtain ⟨o1,o2⟩:=out _ r3 r1;rcases o2 with ⟨rfl,_⟩ | ⟨_,o2⟩
    ·cases he
    ·exact ⟨o1,_,he,o2⟩
   cases e with
   | normal=>
    obtain ⟨rfl,r1⟩:=r1;obtain ⟨o1,o2⟩:=out _ r3 (r1.resolve_right (by rintro ⟨_,_,h,_⟩;cases h));rcases o2 with ⟨_,o2⟩ | ⟨o2,_⟩
    ·exact ⟨o1,o2⟩
    ·cases o2
   | ret=>obtain ⟨rfl,r1⟩:=r1;exact Ef rfl r3 (r1.resolve_right (by rintro ⟨_,_,h,_⟩;cases h))
   | exit id=>obtain ⟨rfl,r1⟩:=r1;exact Ef rfl r3 (r1.resolve_right (by rintro ⟨_,_,h,_⟩;cases h))
   | goto t=>
    obtain ⟨rfl,r1⟩:=r1;obtain ⟨o1,o2⟩:=out _ r3 (r1.resolve_right (by rintro ⟨_,_,h,_⟩;cases h));rcases o2 with ⟨o2,_⟩ | ⟨o2,_⟩ <;> cases o2
   | panic c=>
    obtain ⟨rfl,r1⟩:=r1;rcases r1 with r1 | ⟨c',S4,he,B2,hni,hjp⟩
    ·obtain ⟨o1,o2⟩:=out _ r3 r1;rcases o2 with ⟨o2,_⟩ | ⟨o2,_⟩ <;> cases o2
    ·cases he;obtain ⟨rfl,r3,r5⟩:=r3;obtain ⟨ρ4,R4,s4,k4⟩:=B2 P Γ _ ρ3 a3 W3 r2;have YJ:=step q1 q7 R4.hr (r3.trans s4) (r5.trans k4);refine ⟨W.heap.size,r4,fun W4 He=>⟨(r3.upd.mono fun b _ hm=>(q1.off b hm).2.2).comp He fun k _ hx hgr=>?_,S4.h,ρ4,hjp,YJ.shut hni CR hR.upd.size He⟩⟩;have:=hS.lt k hgr;have:=hx.1;omega
   | outgrown=>exact r1.elim
 | ret=>exact h1.elim
 | exit id=>exact h1.elim
 | goto t=>exact h1.elim
 | panic c=>exact h1.elim
 | outgrown=>exact h1.elim
section
variable {N:Nat -> Prop} {S:St} {ρ:List AE} {a:Act} {w:World} {G R:Nat -> Prop} {W:World} {h h0:DH} {ρ':List AE} {KK:Nat}
theorem RI.hrel (hR:RI KK P Γ N h0 ρ w G R W h ρ'):Ag P Γ N h ρ' W:=
 hR.hr.foreign (G:=fun _=>False) (AN.refl _ _) (fun _ h=>h.elim) (fun b hb=>.inl (.inl hb)) fun b hb=>hR.hr.nlt b (.inl hb)
theorem RI.frame (hR:RI KK P Γ N h0 ρ w G R W h ρ')(Q:AP P Γ N S ρ a w)(hh: ∀ b,MO h0 ρ b -> MO S.h ρ b)(B3:S.fr.all (Ck KK)=true):A0 (MS N h ρ') W ρ' S.fr a.tmps:=
 ((Q.fr.take B3).out (hR.outl.weak fun b hb=>hb.imp id (hh b))).out (Dk (fun b hb=>hb.imp .inl id) ρ')
end
theorem Tr.range {F:Fence}(Jc:F=Fence.wide∨∃ l,F=Fence.wide.inRound l){B L:Nat}{Y:BB P Γ L}{S:St}{g:Operand}{ps:Array Tmp}{assign body:Code}{Q:QY P Γ L}{k:Nat}{encs:List (List DV)}(J:Nat -> DH -> Prop)(Jx:Exit -> DH -> Prop) 
 (hg:AT S.fr g= .it k) (hk:S.h[k]? =some (some (.iter encs))) (Dw: ∀ x∈encs,x.length=ps.size) {KK:Nat} (hL:L<=KK) (B3:S.fr.all (Ck KK)=true) (h0:J 0 (S.h.set k none))
 (C7:gB P Γ S.fr ps.toList assign body KK J Jx encs) (Da: ∀ h,J encs.length h -> Q .normal ⟨S.fr,h⟩ Y) (Mx: ∀ e h,(Jh e).isSome=true -> Jx e h -> Q e ⟨S.fr,h⟩ Y):Tr P Γ F (some B) L Y (.rangeFunc g ps assign body) S Q:=fun N ρ a w R y m b=>by
 have hx:=BO R g;rw [hg] at hx;obtain ⟨p,hp,hv⟩:=hx;obtain ⟨p',A5,gf,lb,Rd,⟨e1,e2⟩,q2,q3,q4⟩:=R.hr.obj k _ hk;have ep:p'=p:=zAV (A5.symm.trans hp);subst ep;have nq:a.eval g= .func (.func gf) #[] lb:=hv.trans e1;have CR:Γ.ng<=w.heap.size:=Γ.lo _ R.hr.gi;have d8: ∀ b,p'.foot b -> MO S.h ρ b:=fun b hb=>⟨k,_,p',hk,hp,hb⟩
 have hN: ∀ b,N b -> b<w.heap.size/\ ¬ MO S.h ρ b:=fun b hb=>⟨(R.hr.nlt b hb).1,fun ⟨k,o,p,q1,q2,q3⟩=>(R.hr.cel k o p b q1 q2 q3).2.1 hb⟩
 have He:Dq p'.foot Rd w:=⟨fun b hb hr=>(q3 b hr).1 (.inr (d8 b hb)),fun b hb=>hb.elim (q4 b) fun h=>(q3 b h).2⟩
 have Yc:RJ P Γ N S.h ρ w KK J 0 p'.foot Rd w:=by
  refine ⟨S.h.set k none,ρ,h0,?_,AN.refl _ _,fun b hb=>.inl (MO.kill hb),fun b hb=>⟨(R.hr.cel k _ p' b hk hp hb).1,.inl (d8 b hb)⟩,fun b hb=>⟨fun hn=>(q3 b hb).1 (.inl hn),fun hm=>(q3 b hb).1 (.inr (MO.kill hm))⟩,B0.refl _ _⟩;have H1:Ag P Γ N (S.h.set k none) ρ w:=R.hr.kill k
  have Q7: ∀ b,MS (fun b=>N b∨p'.foot b) (S.h.set k none) ρ b -> MS N S.h ρ b:=fun b hb=>by
   rcases hb with (hb | hb) | hb
   ·exact .inl hb
   ·exact .inr (d8 b hb)
   ·exact .inr (MO.kill hb)
  refine ⟨H1.len,fun i o hi=>?_,fun i o p2 b g1 g2 g3=>?_,H1.dis,fun b hb=>hb.elim (R.hr.nlt b) fun h=>⟨q4 b h,(R.hr.cel k _ p' b hk hp h).1⟩,R.hr.gi⟩
  ·obtain ⟨AR,A8⟩:=GW hi;obtain ⟨p2,PK,hr⟩:=R.hr.obj i o A8;exact ⟨p2,PK,hr.out (Dk Q7 ρ) (S:=fun _=>False) (AN.refl _ _) (fun _ h=>h.elim) fun _ _ _ h=>h⟩
  ·obtain ⟨AR,A8⟩:=GW g1;obtain ⟨c1,c2,c3⟩:=R.hr.cel i o p2 b A8 g2 g3;exact ⟨c1,fun hb=>hb.elim c2 fun hb=>R.hr.dis i k o _ p2 p' b AR A8 hk g2 hp g3 hb,c3⟩
 have hst: ∀ i,Ce (RJ P Γ N S.h ρ w KK J i):=fun i G R' G' R2 A C ⟨h,ρ',h1,h2⟩ q1 q2 q3 q4 q5 q6=>⟨h,ρ',h1,RI.stable CR hN _ _ _ _ _ _ h2 q1 q2 q3 q4 q5 q6⟩
 have YF: ∀ c,Ce (RX P Γ N S.h ρ w KK Jx c):=fun c G R' G' R2 A C ⟨e,he,h,ρ',h1,h2⟩ q1 q2 q3 q4 q5 q6=>⟨e,he,h,ρ',h1,RI.stable CR hN _ _ _ _ _ _ h2 q1 q2 q3 q4 q5 q6⟩
 have stp: ∀ {G R':Nat -> Prop} {W:World} {h:DH} {ρ':List AE},RI KK P Γ N S.h ρ w G R' W h ρ' -> Ap S.h ρ w h ρ' W:=fun hR=>⟨hR.upd,hR.grow⟩
 have kp: ∀ {G R':Nat -> Prop} {W:World} {h:DH} {ρ':List AE},RI KK P Γ N S.h ρ w G R' W h ρ' -> B0 L ρ ρ':=fun hR k p hk hp=>hR.kept k p (zBa hk hL) hp
 have nL: ∀ x∈encs,∀ R W args,YV x R W args -> args.size=ps.size:=fun x hx R W args h=>h.1.symm.trans (Dw x hx)
 have JJ: ∀ {G R':Nat -> Prop} {W:World} {h:DH} {ρ':List AE} {a':Act},RI KK P Γ N S.h ρ w G R' W h ρ' -> a'.tmps=a.tmps -> AP P Γ N ⟨S.fr,h⟩ ρ' a' W:=fun hR e=>⟨hR.hrel,by rw [e];exact hR.frame (S:=S) R (fun _ h=>h) B3⟩
 rcases Jc with rfl | ⟨l0,rfl⟩
 ·have mk: ∀ {D:Nat} {G R':Nat -> Prop} {W:World} {h:DH} {ρ':List AE},RI KK P Γ N S.h ρ w G R' W h ρ' -> W.heap[D]? =some (.deferred (some [])) -> w.heap.size<=D -> EA B ({ target:=.collected D,args:=#[] }::a.defers) W:=fun {D G R' W h ρ'} hR hD GR=>
   ⟨D,rfl,zAa (b.le _ rfl) GR,hD,fun d' Is ht=>by have:=EA.lt m Is ht;omega,UI R.hr (stp hR) m⟩
  refine rR nq e2 q2.gen He nL _ _ _ hst YF (fun c G R' G' R2 A C ⟨h,ρ',h1,h2⟩ _ _ _ _ _ _=>h1.elim) (fun h=>h.elim) (fun c G R W ⟨h,ρ',h1,h2⟩=>h1.elim) Yc (aa R hN (fun _ h=>h) B3 (C7.p fun _ _=>False)) ?_ ?_
  ·rintro D e G R' own W W' ⟨v,rfl⟩ ⟨h,ρ',h1,hR⟩ _ _ _ hD GR;exact ⟨⟨S.fr,h⟩,ρ',N,Y,Da h h1,JJ hR rfl,Y.st y R.hr hR.hrel (stp hR) (kp hR),mk hR hD GR,b.step R.hr (stp hR)⟩
  ·rintro D c G R' W ⟨e,he,h,ρ',h1,hR⟩ hD GR;have hq:=Mx e h (by rw [he];rfl) h1;cases e with
   | ret=>cases he;exact zHA ⟨⟨S.fr,h⟩,ρ',N,Y,hq,JJ hR rfl,Y.st y R.hr hR.hrel (stp hR) (kp hR),mk hR hD GR,b.step R.hr (stp hR)⟩
   | exit id=>cases he;exact wpIn_exit ⟨⟨S.fr,h⟩,ρ',N,Y,hq,JJ hR rfl,Y.st y R.hr hR.hrel (stp hR) (kp hR),mk hR hD GR,b.step R.hr (stp hR)⟩
   | normal=>cases he
   | goto t=>cases he
   | panic c=>cases he
   | outgrown=>cases he
 ·refine rS nq e2 (b.rd l0 rfl) q2.gen He nL _ _ _ hst YF (fun c G R' G' R2 A C ⟨h,ρ',h1,h2⟩ _ _ _ _ _ _=>h1.elim) (fun h=>h.elim) (fun c G R W ⟨h,ρ',h1,h2⟩=>h1.elim) Yc (aa R hN (fun _ h=>h) B3 (C7.p fun _ _=>False)) ?_ ?_
  ·rintro e G R' own W W' ⟨v,rfl⟩ ⟨h,ρ',h1,hR⟩ _ _ _;exact ⟨⟨S.fr,h⟩,ρ',N,Y,Da h h1,JJ hR rfl,Y.st y R.hr hR.hrel (stp hR) (kp hR),UI R.hr (stp hR) m,b.step R.hr (stp hR)⟩
  ·rintro c G R' W ⟨e,he,h,ρ',h1,hR⟩;have hq:=Mx e h (by rw [he];rfl) h1;cases e with
   | ret=>cases he;exact zHA ⟨⟨S.fr,h⟩,ρ',N,Y,hq,JJ hR rfl,Y.st y R.hr hR.hrel (stp hR) (kp hR),UI R.hr (stp hR) m,b.step R.hr (stp hR)⟩
   | exit id=>cases he;exact wpIn_exit ⟨⟨S.fr,h⟩,ρ',N,Y,hq,JJ hR rfl,Y.st y R.hr hR.hrel (stp hR) (kp hR),UI R.hr (stp hR) m,b.step R.hr (stp hR)⟩
   | normal=>cases he
   | goto t=>cases he
   | panic c=>cases he
   | outgrown=>cases he
def CN {α σ:Type}(f:α -> σ -> Option (σ×Nat)):List α -> σ -> Option (σ×Nat)
 | [],s=>some (s,0)
 | x::l,s=>(f x s).bind fun r=>bif r.2==0 then CN f l r.1 else some r
def B9 {α σ:Type}(f:α -> σ -> Option σ):List α -> σ -> Option σ
 | [],s=>some s
 | x::l,s=>(f x s).bind (B9 f l)
theorem ow {α σ:Type}(f:α -> σ -> Option σ): ∀ (l:List α) (s:σ),CN (fun x s=>(f x s).map fun s'=>(s',0)) l s=(B9 f l s).map fun s'=>(s',0)
 | [],s=>rfl
 | x::l,s=>by
  simp only [CN,B9];cases f x s with
  | none=>rfl
  | some s'=>exact ow f l s'
def Cf (L:Nat)(ex:List Exit)(c:Nat)(h':DH)(e:Exit)(S:St):Prop:=(Exit.normal::ex)[c]? =some e/\ ∃ S3,At L S S3/\ S3.h=h'
def Gb (P:Program)(Γ:Aj)(F:Fence)(B:Option Nat)(L:Nat)(N:BB P Γ L)(Q:Exit -> St -> Prop)(assign body:Code)(S:St):Prop:= Tr P Γ F B L N assign S (QS (fun S' Y'=>Y'=N/\ ∀ N2:BB P Γ L,BU P Γ F B L N2 Q [.code body] S') (fun _ _ _=>False))
theorem Gb.go {F:Fence}{B:Option Nat}{L:Nat}{N:BB P Γ L}{Q:Exit -> St -> Prop}(hF:Dg F P)(hm:P.follows .mixedOrders=true){assign body:Code}{S:St}(A1:Bi)(n:Nat)(o:BI)(live σ:List Nat)(fr:List DV)(h':DH)(vs:List Prop) 
 (h:(B7 P Γ A1 n [.code assign] S o).map (T5 live σ L)=some (.at [],fr,h',vs,[],[],true)) (hv:BY vs) (hk: ∀ N2:BB P Γ L,BU P Γ F B L N2 Q [.code body] ⟨fr,h'⟩):Gb P Γ F B L N Q assign body S:=by
 obtain ⟨S',_,h1,hs⟩:=xL h;have T:=Fd (F:=F) (B:=B) (L:=L) (Y:=N) (Q:=fun e S2 Y2=>e= .normal/\ Y2=N/\ ∀ N2:BB P Γ L,BU P Γ F B L N2 Q [.code body] S2) hF hm n [.code assign] S o _ _ _ _ h1 hv ⟨rfl,rfl,fun N2=>BU.le hs rfl (hk N2)⟩;refine Tr.mono (show Tr P Γ F B L N assign S _ from T) fun e S2 Y2 hq=>?_
 cases e with
 | normal=>exact hq.2
 | ret=>exact absurd hq.1 (by simp)
 | exit id=>exact absurd hq.1 (by simp)
 | goto t=>exact absurd hq.1 (by simp)
 | panic c=>exact absurd hq.1 (by simp)
 | outgrown=>exact absurd hq.1 (by simp)
theorem BU.rangeFold {F:Fence}(Jc:F=Fence.wide∨∃ l,F=Fence.wide.inRound l){B L:Nat}{Y:BB P Γ L}{Q:QY P Γ L}{S:St}{g:Operand}{ps:Array Tmp}{assign body:Code}{k:List KI}{kk:Nat}{α σ:Type}(ex:List Exit)(Iq:(ex.all fun e=>(Jh e).isSome)=true)(enc:α -> List DV)(l:List α)(H:σ -> DH)(f:α -> σ -> Option (σ×Nat)){s0:σ}{rE:σ×Nat}(hf:CN f l s0=some rE) 
 (hg:AT S.fr g= .it kk) (hk:S.h[kk]? =some (some (.iter (l.map enc)))) (Dw: ∀ x,(enc x).length=ps.size) {K:Nat} (hL:L<=K) (B3:S.fr.all (Ck K)=true) (h0:S.h.set kk none=H s0)
 (C7: ∀ (l B:Nat) (N:BB P Γ K) (x:α) (s:σ) (r:σ×Nat),f x s=some r -> Gb P Γ (Fence.wide.inRound l) (some B) K N (Cf K ex r.2 (H r.1)) assign body ⟨IN S.fr ps.toList (enc x),H s⟩)
 (Da: ∀ e,(Exit.normal::ex)[rE.2]? =some e -> A6 P Γ F (some B) L Q k e ⟨S.fr,H rE.1⟩ Y):An P Γ F (some B) L Y Q (.code (.rangeFunc g ps assign body)::k) S:=by
 refine Tr.range (Q:=A6 P Γ F (some B) L Q k) (KK:=K) Jc (fun i h=>∃ s,CN f (l.drop i) s=some rE/\ h=H s) (fun e h=>(Exit.normal::ex)[rE.2]? =some e/\ h=H rE.1) hg hk (fun x hx=>?_) hL B3 ⟨s0,hf,h0⟩ ?_ ?_ ?_
 ·obtain ⟨y,_,rfl⟩:=zDi.1 hx;exact Dw y
 ·rintro l' B' N' i x h hx ⟨s,hs,rfl⟩;rw [zBt] at hx;cases hy:l[i]? with
  | none=>rw [hy] at hx;cases hx
  | some y=>
   rw [hy] at hx;cases hx;have AK:=(zAW.1 hy).1
   have hd:l.drop i=y::l.drop (i+1):=by
    rw [zBw AK]
    congr 1
    exact (zAW.1 hy).2
   rw [hd] at hs;obtain ⟨r,h1,h2⟩:=GA hs;have T:=C7 l' B' N' y s r h1
   have fin: ∀ {e:Exit} {S2:St},Cf K ex r.2 (H r.1) e S2 -> SP K (fun h=>∃ s,CN f (l.drop (i+1)) s=some rE/\ h=H s) (fun e h=>(Exit.normal::ex)[rE.2]? =some e/\ h=H rE.1) e S2:=by
    rintro e S2 ⟨r1,S3,r2,r3⟩;refine ⟨S3,r2,?_⟩;cases hc:r.2 with
    | zero=>
     rw [hc] at r1 h2;cases r1;exact .inl ⟨rfl,r.1,h2,r3⟩
    | succ c=>
     rw [hc] at r1 h2;cases h2;have:e∈ex:=zB9 (i:=c) r1;exact .inr ⟨zAX.1 Iq e this,by rw [hc];exact r1,r3⟩
   refine Tr.mono T fun e S2 Y2 hq=>?_
   cases e with
   | normal=>exact ⟨hq.1,fun N2=>Tr.mono (show Tr P Γ (Fence.wide.inRound l') (some B') K N2 body S2 (stay N2 (Cf K ex r.2 (H r.1))) from hq.2 N2) fun e S3 Y3 h3=>⟨h3.1,fin h3.2⟩⟩
   | ret=>exact hq.elim
   | exit id=>exact hq.elim
   | goto t=>exact hq.elim
   | panic c=>exact hq.elim
   | outgrown=>exact hq.elim
 ·rintro h ⟨s,hs,rfl⟩;rw [zCM,zGp] at hs;cases hs;exact Da .normal rfl
 ·rintro e h he ⟨h1,rfl⟩;exact Da e h1
theorem Rl {F:Fence}{B:Option Nat}{L:Nat}{Y:BB P Γ L}{Q:QY P Γ L}{S:St}{id:Nat}(h:Q (.exit id) S Y): ∀ (k:List KI),JO id k=none -> A6 P Γ F B L Q k (.exit id) S Y
 | [],_=>h
 | .blk i::k,hp=>by
  unfold JO at hp;split at hp
  ·cases hp
  ·rename_i e
   show (if id=i then _ else _)
   rw [zAY e];exact Rl h k hp
 | .code c::k,hp=>Rl (k:=k) h hp
 | .lend J::k,hp=>Rl (k:=k) h hp
 | .scp::k,hp=>Rl (k:=k) h hp
 | .loopN m b::k,hp=>Rl (k:=k) h hp
end
def K6 (t:Nat):Code -> Option (Array Tmp×Code×Code)
 | .rangeFunc (.tmp t') ps a b=>if t'=t then some (ps,a,b) else K6 t b
 | .seq a b=>match K6 t a with
  | some r=>some r
  | none=>K6 t b
 | .cond _ a b=>match K6 t a with
  | some r=>some r
  | none=>K6 t b
 | .block _ c=>K6 t c
 | .loop c=>K6 t c
 | .scope c=>K6 t c
 | _=>none
def kg (f:Func)(t:Nat):Array Tmp×Code×Code:=match f.body with
 | some c=>(K6 t c).getD (#[],.skip,.skip)
 | none=>(#[],.skip,.skip)
def OL (f:Func)(t:Nat):Code:=(kg f t).2.2
def vt (f:Func)(t:Nat):Code:=(kg f t).2.1
def AY (f:Func):Code:=f.body.getD .skip
def lC (id:Nat)(k:List KI):List KI:=(JO id k).getD []
theorem A6.exitTo {P:Program}{Γ:Aj}{F:Fence}{B:Option Nat}{L:Nat}{Y:BB P Γ L}{Q:QY P Γ L}{id:Nat}{k:List KI}{S:St}(h:(JO id k).isSome=true)(hk:An P Γ F B L Y Q (lC id k) S):A6 P Γ F B L Q k (.exit id) S Y:=by
 unfold lC at hk;cases hp:JO id k with
 | none=>rw [hp] at h;cases h
 | some k'=>rw [hp] at hk;exact OS hp hk
def OK:List KI -> Option (Operand×Array Tmp×Code×Code×List KI)
 | .code (.rangeFunc g ps a b)::k=>some (g,ps,a,b,k)
 | _=>none
theorem BU.rangeAt {P:Program}{Γ:Aj}{F:Fence}(Jc:F=Fence.wide∨∃ l,F=Fence.wide.inRound l){B L:Nat}{Y:BB P Γ L}{Q:QY P Γ L}{fr:List DV}{h:DH}{K:List KI}(ex:List Exit)(Iq:(ex.all fun e=>(Jh e).isSome)=true)(g:Operand)(ps:Array Tmp)(a b:Code)(k2:List KI){kk:Nat}{α σ:Type}(enc:α -> List DV)(l:List α)(H:σ -> DH)(FR:α -> List DV)(f:α -> σ -> Option (σ×Nat)){s0:σ}{rE:σ×Nat}(hf:CN f l s0=some rE) 
 (hK:OK K=some (g,ps,a,b,k2)) (hg:AT fr g= .it kk) (hk:h[kk]? =some (some (.iter (l.map enc)))) (Dw: ∀ x,(enc x).length=ps.size) (L':Nat) (hL:Nat.ble L L'=true) (HJ:fr.all (Ck L')=true) (h0:h.set kk none=H s0) (B3:(fun x=>IN fr ps.toList (enc x))=FR)
 (C7: ∀ (l B:Nat) (N:BB P Γ L') (x:α) (s:σ) (r:σ×Nat),f x s=some r -> Gb P Γ (Fence.wide.inRound l) (some B) L' N (Cf L' ex r.2 (H r.1)) a b ⟨FR x,H s⟩)
 (Da: ∀ e,(Exit.normal::ex)[rE.2]? =some e -> A6 P Γ F (some B) L Q k2 e ⟨fr,H rE.1⟩ Y):An P Γ F (some B) L Y Q K ⟨fr,h⟩:=by
 unfold OK at hK;split at hK
 ·cases hK;subst B3;exact BU.rangeFold Jc ex Iq enc l H f hf hg hk Dw (zCo hL) HJ h0 C7 Da
 ·cases hK
theorem BU.rangeAt0 {P:Program}{Γ:Aj}{F:Fence}(Jc:F=Fence.wide∨∃ l,F=Fence.wide.inRound l){B L:Nat}{Y:BB P Γ L}{Q:QY P Γ L}{fr:List DV}{h:DH}{K:List KI}(g:Operand)(ps:Array Tmp)(a b:Code)(k2:List KI){kk:Nat}{α σ:Type}(enc:α -> List DV)(l:List α)(H:σ -> DH)(FR:α -> List DV)(f:α -> σ -> Option σ){s0 sE:σ}(hf:B9 f l s0=some sE) 
 (hK:OK K=some (g,ps,a,b,k2)) (hg:AT fr g= .it kk) (hk:h[kk]? =some (some (.iter (l.map enc)))) (Dw: ∀ x,(enc x).length=ps.size) (L':Nat) (hL:Nat.ble L L'=true) (HJ:fr.all (Ck L')=true) (h0:h.set kk none=H s0) (B3:(fun x=>IN fr ps.toList (enc x))=FR)
 (C7: ∀ (l B:Nat) (N:BB P Γ L') (x:α) (s r:σ),f x s=some r -> Gb P Γ (Fence.wide.inRound l) (some B) L' N (Cf L' [] 0 (H r)) a b ⟨FR x,H s⟩)
 (Da:An P Γ F (some B) L Y Q k2 ⟨fr,H sE⟩):An P Γ F (some B) L Y Q K ⟨fr,h⟩:=by
 refine BU.rangeAt Jc [] rfl g ps a b k2 enc l H FR (fun x s=>(f x s).map fun s'=>(s',0)) (rE:=(sE,0)) (by rw [ow,hf];rfl) hK hg hk Dw L' hL HJ h0 B3 (fun l' B' N' x s r hr=>?_) (fun e he=>?_)
 ·cases hx:f x s with
  | none=>rw [hx] at hr;cases hr
  | some s'=>
   rw [hx] at hr;cases hr;exact C7 l' B' N' x s s' hx
 ·cases he;exact Da
def NO (t:Nat):List Nat -> Code -> List KI -> Option (List KI)
 | ms,.seq a b,k=>match NO t ms a (.code b::k) with
  | some r=>some r
  | none=>NO t ms b k
 | ms,.cond _ a b,k=>match NO t ms a k with
  | some r=>some r
  | none=>NO t ms b k
 | ms,.block i c,k=>NO t ms c (.blk i::k)
 | ms,.scope c,k=>NO t ms c (.scp::k)
 | m::ms,.loop b,k=>NO t ms b (.loopN m b::k)
 | _,.rangeFunc (.tmp t') ps a b,k=>if t'=t then some (.code (.rangeFunc (.tmp t') ps a b)::k) else none
 | _,_,_=>none
def GZ (c:Code)(t:Nat)(ms:List Nat):List KI:=(NO t ms c []).getD []
def A7 (c:Code)(id:Nat)(ms:List Nat):List KI:=(NQ id ms c []).getD []
def EU (c:Code)(id:Nat)(ms:List Nat):List KI:=(NR id ms c []).getD []
abbrev L1 (l:List DV):Nat -> DV:=fun j=>l.getD j .any
abbrev AO {α:Type} [Inhabited α] (c:α -> List DV) (l:List α):Nat -> Nat -> DV:=fun i j=>(c (l.getD i default)).getD j .any
abbrev eZ {α:Type}(c:α -> List DV):α -> Nat -> DV:=fun x j=>(c x).getD j .any
def CO (c:AB):List DV:=[.int .i64 c.kind,.ints c.cells,.int .i64 c.set,.int .i64 c.other,.int .i64 c.lo,.int .i64 c.hi,.ints c.runs,.int .i64 c.rule,.int .i64 c.spot]
def Ac (x:List Int):List DV:=[.ints x]
def ZK (x:List Bool):List DV:=[.bools x]
def BA (x:Int×Int):List DV:=[.int .i64 x.1,.int .i64 x.2]
def AG (q:AA):List DV:=[.int .i64 q.cells,.int .i64 q.symbols,.ints q.values,.sl 1 q.nbrs.length (AO Ac q.nbrs),.sl 9 q.cons.length (AO CO q.cons)]
abbrev oC (l:List DV):Option DO:=some (.cells l)
abbrev oI (l:List Int):Option DO:=some (.ints l)
abbrev oW (c:AB)(q:AA)(pos:List Int)(k ln:Nat):Option DO:=some (.cells (CO c++AG q++[.ints pos,.msl k 1 0 ln]))
abbrev zCc:=@List.drop_eq_nil_of_le
abbrev zHG:=@List.take_append_drop
structure Df (P:Program) where
 l:Nat
 encs:List (List DV)
 J:Nat -> (Nat -> Prop) -> (Nat -> Prop) -> World -> Prop
 Jx:(Nat -> Prop) -> (Nat -> Prop) -> World -> Prop
 hJ: ∀ i,Ce (J i)
 hJx:Ce Jx
 hy: ∀ i x args G R W1,encs[i]? =some x -> YV x R W1 args -> J i G R W1 -> Dq G R W1 -> YieldAt Fence.wide 0 P l args W1 fun e W'=>
  AN (fun k=>¬ (G k∨R k)) W1 W'/\ ((e= .returned (.bool true)/\ J (i+1) G R W')∨(e= .returned (.bool false)/\ Jx G R W'))
structure IY (Γ:Aj)(N G R:Nat -> Prop)(h:DH)(ρ:List AE)(w:World):Prop where
 sh:Dq G R w
 lo: ∀ b,b<Γ.ng -> R b
 own: ∀ b,MO h ρ b -> G b
 n: ∀ b,N b↔(b<w.heap.size/\ ¬ G b/\ ¬ R b)
theorem IY.ng {Γ:Aj}{N G R:Nat -> Prop}{h:DH}{ρ:List AE}{w:World}(y:IY Γ N G R h ρ w){b:Nat}(hb:N b):Γ.ng<=b:=zF3 fun hl=>((y.n b).1 hb).2.2 (y.lo b hl)
def Oy (P:Program)(Γ:Aj)(L:Nat)(J:(Nat -> Prop) -> (Nat -> Prop) -> World -> Prop)(hJ:Ce J):BB P Γ L where
 I:=fun N h ρ w=>∃ G R,J G R w/\ IY Γ N G R h ρ w
 st:=by
  rintro N h ρ w h' ρ' w' ⟨G,R,h1,y⟩ H H' st _;have hs:=st.upd.size;have RR: ∀ b,(G b∨(w.heap.size<=b/\ b<w'.heap.size)) -> ¬ R b:=fun b hb hr=>hb.elim (fun h=>y.sh.dis b h hr) fun h=>by have:=y.sh.lt b (.inr hr);omega
  have AK: ∀ b,(G b∨(w.heap.size<=b/\ b<w'.heap.size))∨R b -> b<w'.heap.size:=fun b hb=>by
   rcases hb with (hb | hb) | hb
   ·exact zBa (y.sh.lt b (.inl hb)) hs
   ·exact hb.2
   ·exact zBa (y.sh.lt b (.inr hb)) hs
  refine ⟨fun b=>G b∨(w.heap.size<=b/\ b<w'.heap.size),R,hJ G R _ R w w' h1 (st.upd.mono fun b _ hb=>y.own b hb) (fun k hk=>hk.imp id fun h=>h.1) (fun k hk=>.inl hk) (fun k hk=>hk.imp .inl id) RR AK,⟨RR,AK⟩,y.lo,fun b hb=>?_,fun b=>?_⟩
  ·rcases st.grow b hb with h | h
   ·exact .inl (y.own b h)
   ·obtain ⟨k,o,p,q1,q2,q3⟩:=hb;obtain ⟨_,_,c,t,z,e⟩:=H'.cel k o p b q1 q2 q3;exact .inr ⟨h,(zAL.1 e).1⟩
  ·rw [y.n];constructor
   ·rintro ⟨a1,a3,a4⟩;exact ⟨zBa a1 hs,fun hx=>hx.elim a3 fun hx=>by omega,a4⟩
   ·rintro ⟨a1,a3,a4⟩;have: ¬ (w.heap.size<=b):=fun hx=>a3 (.inr ⟨hx,a1⟩)
    exact ⟨by omega,fun hx=>a3 (.inl hx),a4⟩
section
variable {P:Program} {Γ:Aj}
def Df.Y (C:Df P)(Γ:Aj)(L i:Nat):BB P Γ L:=Oy P Γ L (C.J i) (C.hJ i)
def Df.X (C:Df P)(Γ:Aj)(L:Nat):BB P Γ L:=Oy P Γ L C.Jx C.hJx
def Df.Q (C:Df P)(Γ:Aj)(L:Nat):QY P Γ L:=fun e _ Y=>(e= .normal∨e= .ret)/\ (Y=C.Y Γ L C.encs.length∨Y=C.X Γ L)
def SX (P:Program)(Γ:Aj)(ops:Array Oper)(p:Nat)(S:St)(Aa:BI):Option (List DV×Nat×St×St×List Prop):=match Dy P Γ ops (ops.toList.take p) S Aa with
 | none=>none
 | some (S1,vs,GM)=>match ops[p]? with
  | none=>none
  | some o=>match J2 ops S1 o with
   | some true=>match o.op with
    | .call c=>match c.callee with
     | .value f=>match AT S1.fr f with
      | .yl l=>match (c.args.toList.map (AT S1.fr)).all Fb with
       | false=>none
       | true=>match Dy P Γ ops (ops.toList.drop (p+1)) ⟨CV S1.fr o.dst (.bool true),S1.h⟩ GM with
        | none=>none
        | some (ST,vT,GL)=>match Dy P Γ ops (ops.toList.drop (p+1)) ⟨CV S1.fr o.dst (.bool false),S1.h⟩ GL with
         | none=>none
         | some (SF,vF,_)=>some (c.args.toList.map (AT S1.fr),l,ST,SF,vs++(vT++vF))
      | _=>none
     | _=>none
    | _=>none
   | _=>none
end
section
variable {P:Program} {Γ:Aj} {N:Nat -> Prop} {S:St} {ρ:List AE} {a:Act} {w:World} {F:Fence}
theorem RV (hF:Dg F P){ops:Array Oper}(As:Cu ops=true){Q:Exit -> Act -> World -> Prop}{Cv:List Oper}: ∀ (l:List Oper) (_: ∀ o∈l,o∈ops) {S:St} {ρ:List AE} {a:Act} {w:World} {Aa:BI} {S':St} {vs:List Prop} {B6:BI},
 AP P Γ N S ρ a w -> Dy P Γ ops l S Aa=some (S',vs,B6) -> BY vs ->
 (∀ ρ' a' w',AP P Γ N S' ρ' a' w' -> C2 S.h ρ w S'.h ρ' w' -> a'.defers=a.defers -> wpListIn F 0 P ops Q Cv a' w') -> wpListIn F 0 P ops Q (l++Cv) a w
 | [],_,S,ρ,a,w,Aa,S',vs,B6,R,h,_,hQ=>by
  cases h;exact hQ ρ a w R (C2.refl _ _ _) rfl
 | o::rest,hl,S,ρ,a,w,Aa,S',vs,B6,R,h,hv,hQ=>by
  have hd: ∀ c,o.op≠.defer c:=by
   obtain ⟨j,hj,e⟩:=Array.getElem_of_mem (hl o (by simp));exact Hc As (j:=j) (by rw [zCV hj,e])
  have Eh: ∀ o∈rest,o∈ops:=fun o ho=>hl o (by simp [ho])
  have CX: ∀ v,(a.put o.dst v).defers=a.defers:=fun v=>by cases ho:o.dst <;> simp [Act.put]
  simp only [Dy] at h;rw [List.cons_append];unfold wpListIn;split at h
  ·split at h
   ·cases h
   ·rename_i S1 C9 ext1 GM h1;split at h
    ·cases h
    ·rename_i S2 E4 GL h2;cases h;obtain ⟨Bb,CG⟩:=DE.1 hv;exact fV hF R hd h1 Bb fun ρ' a' w' R' st Db _=>RV hF As rest Eh R' h2 CG fun ρ'' GB Bu E1 Eb JY=>hQ ρ'' GB Bu E1 (st.trans Eb) (JY.trans Db)
  ·split at h
   ·cases h
   ·rename_i S1 C9 Vl h1;split at h
    ·cases h
    ·rename_i S2 E4 GL h2;cases h;obtain ⟨Bb,CG⟩:=DE.1 hv;obtain ⟨e1,hs⟩:=XA R h1 Bb
     have go: ∀ v,AP P Γ N S1 ρ (a.put o.dst v) w -> wpListIn F 0 P ops Q (rest++Cv) (a.put o.dst v) w:=fun v R'=>
      RV hF As rest Eh R' h2 CG fun ρ'' GB Bu E1 Eb JY=>hQ ρ'' GB Bu E1 (by rw [←e1];exact Eb) (JY.trans (CX v))
     rcases hs with ⟨hw,v,g1,g2⟩ | ⟨hw,g2⟩
     ·rw [zAA hw];refine ⟨fun f _=>hF.fn f,?_⟩;rw [zFp _ _ _ hd,g1 w (Keep.ofExt (Am.refl w))];exact go v g2
     ·rw [zAY (by rw [hw];exact zGJ)];exact ⟨fun f _=>hF.fn f,go undef g2⟩
theorem kI {l:Nat}{ρ':Operand -> Value}{o:Oper}{c:Call}{f:Operand}{vs:List Value}(ho:o.op= .call c)(hc:c.callee= .value f)(hf:ρ' f= .func (.yield l) #[] #[])(hv:c.args.toList.map ρ'=vs):(execOp ρ' o).run P w=(Instr.yield l vs.toArray).run P w:=by
 unfold execOp;rw [ho]
 show ((resolve ρ' c o.type)>>=fun d=>invoke d.target d.args).run P w=_
 unfold resolve;rw [hc];simp only [Deferred.ofValue,hf]
 have e: #[]++Array.map ρ' c.args=vs.toArray:=by
  rw [←hv];apply Array.ext';simp
 have he:((pure { target:=.fn (.yield l) #[],args:=#[]++Array.map ρ' c.args }:Sem Deferred)>>=fun d=>invoke d.target d.args).run P w=(Instr.yield l (#[]++Array.map ρ' c.args)).run P w:=rfl;rw [he,e]
theorem YV.of {M:Nat -> Prop}{ρ:List AE}{g:Operand -> DV}{f:Operand -> Value}{R:Nat -> Prop}(hr: ∀ x,AI M w (g x) ρ (f x))(hM: ∀ b,b<w.heap.size/\ ¬ R b -> M b): ∀ {l:List Operand},(l.map g).all Fb=true -> YV (l.map g) R w (l.map f).toArray:=fun {l} h=>by
 refine ⟨by simp,fun j hj=>?_⟩;have BM:j<l.length:=by simpa using hj
 have e1:(l.map g).getD j .any=g l[j]:=by simp [u8,BM]
 have e2:(l.map f).toArray.getD j undef=f l[j]:=by simp [zBs,BM]
 rw [e1,e2];have hn:=Ml (zAX.1 h (g l[j]) (zDi.2 ⟨_,zB0 BM,rfl⟩));exact (hn _ _ _ _ (hr l[j])).out _ (Dk hM [])
theorem IY.part {N G R:Nat -> Prop}{h:DH}{I:(Nat -> Prop) -> (Nat -> Prop) -> World -> Prop}(hI:Ce I)(hi:I G R w)(y:IY Γ N G R h ρ w): ∃ R',I (MO h ρ) R' w/\ IY Γ N (MO h ρ) R' h ρ w/\ (∀ b,b<w.heap.size/\ ¬ R' b -> MS N h ρ b)/\ (∀ b,R b -> R' b):=by
 have hd: ∀ b,MO h ρ b -> ¬ (R b∨(G b/\ ¬ MO h ρ b)):=fun b hm hx=>hx.elim (y.sh.dis b (y.own b hm)) fun hx=>hx.2 hm
 have hl: ∀ b,MO h ρ b∨(R b∨(G b/\ ¬ MO h ρ b)) -> b<w.heap.size:=fun b hx=>by
  rcases hx with hx | hx | hx
  ·exact y.sh.lt b (.inl (y.own b hx))
  ·exact y.sh.lt b (.inr hx)
  ·exact y.sh.lt b (.inl hx.1)
 have hu: ∀ b,G b -> MO h ρ b∨(R b∨(G b/\ ¬ MO h ρ b)):=fun b hg=>(Classical.em (MO h ρ b)).imp id fun hm=>.inr ⟨hg,hm⟩
 refine ⟨fun b=>R b∨(G b/\ ¬ MO h ρ b),hI G R _ _ w w hi (AN.refl _ _) (fun k hk=>.inl (y.own k hk)) (fun k hk=>hk.imp id fun h=>.inl h.1) (fun k hk=>hk.elim (hu k) fun h=>.inr (.inl h)) hd hl,⟨⟨hd,hl⟩,fun b h=>.inl (y.lo b h),fun _ h=>h,fun b=>(y.n b).trans ⟨fun ⟨q1,q2,q3⟩=>⟨q1,fun hm=>q2 (y.own b hm),fun hx=>hx.elim q3 fun hx=>q2 hx.1⟩,fun ⟨q1,q2,q3⟩=>⟨q1,fun hg=>(hu b hg).elim q2 q3,fun hr=>q3 (.inl hr)⟩⟩⟩,fun b ⟨q1,q2⟩=>?_,fun b h=>.inl h⟩
 by_cases hg:G b
 ·exact .inr ((hu b hg).resolve_right q2)
 ·exact .inl ((y.n b).2 ⟨q1,hg,fun hr=>q2 (.inl hr)⟩)
theorem IY.later {N R':Nat -> Prop}{h:DH}{W':World}(z:IY Γ N (MO h ρ) R' h ρ w)(H:Ag P Γ N h ρ w)(hu:AN (fun k=>¬ (MO h ρ k∨R' k)) w W'):Ag P Γ (fun bb=>bb<W'.heap.size/\ ¬ MO h ρ bb/\ ¬ R' bb) h ρ W'/\ BH (MS N h ρ) w ρ (MS (fun bb=>bb<W'.heap.size/\ ¬ MO h ρ bb/\ ¬ R' bb) h ρ) W' ρ:=by
 have Bh:AN N w W':=hu.mono fun bb AK hn=>(z.n bb).2 ⟨AK,fun hx=>hn (.inl hx),fun hx=>hn (.inr hx)⟩
 have oP: ∀ bb,N bb -> N bb/\ Γ.ng<=bb:=fun bb hb=>⟨hb,z.ng hb⟩
 have oM: ∀ bb,(bb<W'.heap.size/\ ¬ MO h ρ bb/\ ¬ R' bb) -> N bb∨w.heap.size<=bb:=fun bb ⟨q1,q2,q3⟩=>by
  rcases zCb bb w.heap.size with h | h
  ·exact .inl ((z.n bb).2 ⟨h,q2,q3⟩)
  ·exact .inr h
 exact ⟨H.foreign Bh oP oM fun bb ⟨q1,_,q3⟩=>⟨q1,zF3 fun hl=>q3 (z.lo bb hl)⟩,BH.foreign (Γ:=Γ) Bh oP oM⟩
theorem Tr.yield {L:Nat}{C:Df P}{i:Nat}{Q:QY P Γ L}(hF:Dg Fence.wide P){id:Nat}{ops:Array Oper}{p:Nat}{Aa:BI}{x:List DV}{ST SF:St}{vs:List Prop}(As:Cu ops=true) 
 (h:SX P Γ ops p S Aa=some (x,C.l,ST,SF,vs)) (hv:BY vs) (hx:C.encs[i]? =some x) (hT:Q .normal ST (C.Y Γ L (i+1))) (hE:Q .normal SF (C.X Γ L)):Tr P Γ Fence.wide none L (C.Y Γ L i) (.region id ops false) S Q:=fun N ρ a w R y m b=>by
 unfold SX at h;split at h
 ·cases h
 rename_i S1 C9 GM h1;split at h
 ·cases h
 rename_i o ho;split at h
 ·rename_i hw;split at h
  ·rename_i c PL;split at h
   ·rename_i f hc;split at h
    ·rename_i l hl;split at h
     ·cases h
     rename_i Ua;split at h
     ·cases h
     rename_i ST' vT GL h2;split at h
     ·cases h
     rename_i SF' vF LJ h3;cases h;obtain ⟨Bb,Dv⟩:=DE.1 hv;obtain ⟨zy,zz⟩:=DE.1 Dv;have hp:p<ops.toList.length:=by simpa using (zAL.1 ho).1
     have zAH:ops.toList=ops.toList.take p++o::ops.toList.drop (p+1):=by
      have e:ops.toList[p]=o:=by
       have:=(zAL.1 ho).2;simpa using this
      rw [←e,←zBw hp,zHG]
     have CS: ∀ o'∈ops.toList,o'∈ops:=fun o' h=>by simpa using h
     have hd: ∀ c,o.op≠.defer c:=Hc As ho;refine zFw ?_;rw [zAH];refine RV hF As _ (fun o' H2=>CS o' (List.mem_of_mem_take H2)) R h1 Bb fun ρ1 a1 w1 R1 Br PY=>?_
     obtain ⟨G0,R0,y1,y2⟩:=(C.Y Γ L i).st y R.hr R1.hr Br.st (fun k p _ hp=>Br.pl k p hp);obtain ⟨R',z1,z2,z3,_⟩:=IY.part (C.hJ i) y1 y2;obtain ⟨fn,tmps,Pv,body,hy,hR⟩:=C.hy i _ _ _ R' w1 hx (YV.of (g:=AT S1.fr) (f:=a1.eval) (fun x=>BO R1 x) z3 Ua) z1 z2.sh;unfold wpListIn;rw [zAA (IJ R1 hw)]
     have dZ:a1.eval f= .func (.yield C.l) #[] #[]:=by
      have hr:=BO R1 f;rw [hl] at hr;exact hr
     refine ⟨fun f _=>hF.fn f,?_⟩;rw [zFp _ _ _ hd,kI PL hc dZ rfl,hy];refine ⟨fun hx=>(by cases hx),hR.mono ?_⟩;have Ar:a1.defers= []:=PY.trans m;rintro e W' ⟨hu,hj⟩;obtain ⟨H',fo⟩:=z2.later R1.hr hu;have Dp:AP P Γ (fun bb=>bb<W'.heap.size/\ ¬ MO S1.h ρ1 bb/\ ¬ R' bb) S1 ρ1 a1 W':=⟨H',R1.fr.out fo⟩;have CX: ∀ v,(a1.put o.dst v).defers=a1.defers:=fun v=>by cases ho:o.dst <;> simp [Act.put]
     have yy:IY Γ (fun bb=>bb<W'.heap.size/\ ¬ MO S1.h ρ1 bb/\ ¬ R' bb) (MO S1.h ρ1) R' S1.h ρ1 W':=⟨z2.sh.upd hu,z2.lo,fun _ h=>h,fun _=>Iff.rfl⟩;rcases hj with ⟨rfl,hj⟩ | ⟨rfl,hj⟩
     ·have R':=Gl Dp o.dst (d:=.bool true) (v:=.bool true) rfl;refine Ki hF As _ (fun o' H2=>CS o' (List.mem_of_mem_drop H2)) R' h2 zy fun ρ2 a2 w2 R2 Ea dh=>?_
      refine ⟨ST,ρ2,_,C.Y Γ L (i+1),hT,R2,(C.Y Γ L (i+1)).st ⟨_,_,hj,yy⟩ R'.hr R2.hr Ea.st (fun k p _ hp=>Ea.pl k p hp),?_,Bd.none⟩
      show a2.defers= []
      rw [dh,CX];exact Ar
     ·have R':=Gl Dp o.dst (d:=.bool false) (v:=.bool false) rfl;refine Ki hF As _ (fun o' H2=>CS o' (List.mem_of_mem_drop H2)) R' h3 zz fun ρ2 a2 w2 R2 Ea dh=>?_
      refine ⟨SF,ρ2,_,C.X Γ L,hE,R2,(C.X Γ L).st ⟨_,_,hj,yy⟩ R'.hr R2.hr Ea.st (fun k p _ hp=>Ea.pl k p hp),?_,Bd.none⟩
      show a2.defers= []
      rw [dh,CX];exact Ar
    ·cases h
   ·cases h
  ·cases h
 ·cases h
end
theorem I0 {P:Program}{f:Nat}{fn:Func}(hf:P.funcs[f]? =some fn)(hb:fn.body.isSome=true)(hn:(fn.name== "runtime.NumGoroutine")=false)(args:Array Value)(W:World):(callFunc f args).run P W= .ok (.enter f args) W:=by
 have Kb: ¬ fn.name= "runtime.NumGoroutine" :=by simpa using hn
 have DQ: ¬ fn.body=none:=by intro e;rw [e] at hb;cases hb
 simp [callFunc,go_sem,hf,Kb,DQ]
theorem qC {P:Program}{Γ:Aj}{f:Nat}{fn:Func}(hf:P.funcs[f]? =some fn)(hb:fn.body.isSome=true){L:Nat}{Y:BB P Γ L}{Q:QY P Γ L}{ds:List DV}{h:DH}(T:An P Γ Fence.wide none L Y Q [.code (AY fn)] ⟨ds++List.replicate (fn.ntmps-ds.length) .any,h⟩) 
 {N:Nat -> Prop} {ρ:List AE} {W:World} {args:Array Value} (H:Ag P Γ N h ρ W) (fr:A0 (MS N h ρ) W ρ ds args) (y:Y.I N h ρ W) {R:Ending -> World -> Prop}
 (hQ: ∀ e S' ρ' N' Y' a' W',Q e S' Y' -> AP P Γ N' S' ρ' a' W' -> Y'.I N' S'.h ρ' W' -> match e with
  | .normal | .ret=>∃ v,(results fn a'.tmps).run P W'= .ok v W'/\ R (.returned v) W'
  | .panic c=>R (.panicked c) W'
  | _=>False):CallsIn Fence.wide 0 P f args W R:=by
 cases hc:fn.body with
 | none=>rw [hc] at hb;cases hb
 | some code=>
 have eb:AY fn=code:=by unfold AY;rw [hc];rfl
 rw [eb] at T;refine callsIn_of_wp hf hc trivial (zGE ((show Tr P Γ Fence.wide none L Y code _ (A6 P Γ Fence.wide none L Q []) from T) N ρ _ W ⟨H,?_⟩ y rfl Bd.none) ?_) rfl
 ·rw [←fr.1];exact A0.append fr (A0.anys _ _ _ _)
 ·rintro e a' W' ⟨S',ρ',N',Y',q1,q2,q3,q4,_⟩;cases e with
  | outgrown=>exact q1.elim
  | normal=>obtain ⟨v,h1,h2⟩:=hQ _ S' ρ' N' Y' a' W' q1 q2 q3;exact ⟨q4,v,h1,h2⟩
  | ret=>obtain ⟨v,h1,h2⟩:=hQ _ S' ρ' N' Y' a' W' q1 q2 q3;exact ⟨q4,v,h1,h2⟩
  | exit id=>exact (hQ _ S' ρ' N' Y' a' W' q1 q2 q3).elim
  | goto t=>exact (hQ _ S' ρ' N' Y' a' W' q1 q2 q3).elim
  | panic c=>exact ⟨q4,hQ _ S' ρ' N' Y' a' W' q1 q2 q3⟩
theorem ES.iterN {P:Program}{Γ:Aj}{f gf m:Nat}{fn:Func}{ds:List DV}{c:Nat -> DV}{h0:DH}{encs:List (List DV)}(Ej:ES P Γ f ds [] (.fn gf m c) h0 true)(Ey:ds.all Fb=true) 
 (hf:P.funcs[gf]? =some fn) (hb:fn.body.isSome=true) (hn:(fn.name== "runtime.NumGoroutine")=false) (PH:fn.results= #[])
 (body: ∀ C:Df P,C.encs=encs -> An P Γ Fence.wide none h0.length (C.Y Γ h0.length 0) (C.Q Γ h0.length) [.code (AY fn)] ⟨.yl C.l::(List.range m).map c++List.replicate (fn.ntmps-(m+1)) .any,h0⟩) (h:DH):ES P Γ f ds h (.it h.length) (h++[some (.iter encs)]) true:=by
 refine ⟨Ej.1,fun N ρ w args HR CD=>?_⟩;refine (Ej.2 (MS N h ρ) [] w args (RB (fun b hb=>HR.lt2 hb) HR.gi) ⟨CD.1,fun i hi=>?_⟩).mono ?_
 ·have hx:=Ml (zAX.1 Ey (ds.getD i .any) (by simp [hi]));exact AI.out _ (Dk (fun b hb=>P6.1 hb) []) (hx _ _ _ _ (CD.2 i hi))
 ·rintro e w' ⟨v,rfl,⟨⟨ρ',g1,g2,g3,g4⟩,g5⟩⟩;have hE:=g5 rfl;obtain ⟨lb,hv,hl,M9⟩:=g2;have Im: ∀ b,MO h0 ρ' b -> w.heap.size<=b:=fun b hb=>(g3.grow b hb).resolve_left fun ⟨k,o',p',q1,_⟩=>by simp at q1
  have DP: ∀ b,MO h0 ρ' b -> Γ.ng<=b/\ ¬ MS N h ρ b/\ Ds w' b:=fun b ⟨k,o,q,q1,q2,q3⟩=>g1.cel k o q b q1 q2 q3
  have CR:Γ.ng<=w.heap.size:=Γ.lo _ HR.gi;have Av:=hE.size
  have AK: ∀ b,MO h0 ρ' b -> b<w'.heap.size:=fun b hb=>by
   obtain ⟨_,_,c,t,z,h⟩:=DP b hb;exact (zAL.1 h).1
  have lo: ∀ b,b<Γ.ng -> b<w'.heap.size/\ ¬ MS (MS N h ρ) h0 ρ' b:=fun b hb=>⟨zBa hb (zAa CR Av),fun hx=>by
   rcases hx with hx | hx
   ·have:=(HR.lt2 hx).2;omega
   ·have:=(DP b hx).1;omega⟩
  let p:AE:=⟨0,0,0,v,fun b=>MO h0 ρ' b⟩
  have hp: ∀ b,p.foot b -> w.heap.size<=b/\ Ds w' b:=fun b hb=>⟨Im b hb,(DP b hb).2.2⟩
  refine ⟨v,rfl,⟨⟨ρ++[p],HR.snoc hE hp ?_,⟨p,by rw [←HR.len];simp,rfl⟩,Ap.snoc HR hE fun b hb=>(hp b hb).1,fun _ _ h=>EO h⟩,g5⟩⟩;refine ⟨gf,lb,fun b=>b<w'.heap.size/\ ¬ MS (MS N h ρ) h0 ρ' b,⟨hv,fun args W=>I0 hf hb hn args W⟩,?_,fun b hb=>⟨fun hm=>?_,hb.1⟩,AK⟩
  ·intro l J Jx W hJ hJx hU hY eE _
   let C:Df P:=⟨l,encs,J,Jx,hJ,hJx,hY⟩
   have U5: ∀ b,(b<W.heap.size/\ ¬ MO h0 ρ' b/\ ¬ (b<w'.heap.size/\ ¬ MS (MS N h ρ) h0 ρ' b)) -> MS N h ρ b∨w'.heap.size<=b:=fun b ⟨_,q3,q4⟩=>by
    rcases zCb b w'.heap.size with hx | hx
    ·by_cases hm:MS (MS N h ρ) h0 ρ' b
     ·rcases hm with hm | hm
      ·exact .inl hm
      ·exact absurd hm q3
     ·exact absurd ⟨hx,hm⟩ q4
    ·exact .inr hx
   have hu:AN (fun b=>MS N h ρ b) w' W:=hU.mono fun b AK hx=>by
    by_cases hm:MS (MS N h ρ) h0 ρ' b
    ·rcases hm with hm | hm
     ·exact hm
     ·exact absurd (.inl hm) hx
    ·exact absurd (.inr ⟨AK,hm⟩) hx
   have oN: ∀ b,MS N h ρ b -> MS N h ρ b/\ Γ.ng<=b:=fun b hb=>⟨hb,(HR.lt2 hb).2⟩
   have HW:Ag P Γ (fun b=>b<W.heap.size/\ ¬ MO h0 ρ' b/\ ¬ (b<w'.heap.size/\ ¬ MS (MS N h ρ) h0 ρ' b)) h0 ρ' W:=g1.foreign hu oN U5 fun b hb=>⟨hb.1,zF3 fun hl=>hb.2.2 (lo b hl)⟩
   have eL:A0 (MS (MS N h ρ) h0 ρ') w' ρ' ((List.range m).map c) lb:=⟨by simp [hl],fun j hj=>by
    have BM:j<m:=by simpa using hj
    obtain ⟨u,q1,q2⟩:=M9 j BM;have e1:((List.range m).map c).getD j .any=c j:=by simp [BM]
    have e2:lb.getD j undef=u:=by rw [zBs,q1];rfl
    rw [e1,e2];exact q2⟩
   have eM:=eL.out (BH.foreign (Γ:=Γ) hu oN U5);have T:=body C rfl;have e3:fn.ntmps-(m+1)=fn.ntmps-(.yl C.l::(List.range m).map c).length:=by simp
   rw [e3] at T
   refine qC hf hb T HW (A0.append (l:=[.yl C.l]) (t:=#[.func (.yield l) #[] #[]]) ⟨rfl,fun j hj=>by
    have:j=0:=Nat.lt_one_iff.1 hj;subst this;rfl⟩ eM) ⟨_,_,eE,⟨⟨fun b hb hr=>hr.2 (.inr hb),fun b hb=>zBa (hb.elim (AK b) fun h=>h.1) hU.size⟩,lo,fun _ h=>h,fun _=>Iff.rfl⟩⟩ ?_
   rintro e S' ρ2 N' Y' a' W' q1 q2 q3
   have fin: ∃ v,(results fn a'.tmps).run P W'= .ok v W'/\ ∃ G R,Dq G R W'/\ ((C.J encs.length G R W'/\ SQ (.returned v) G R W')∨((∃ u,Ending.returned v= .returned u)/\ C.Jx G R W')):=by
    obtain ⟨_,(rfl | rfl)⟩:=q1 <;> obtain ⟨G',R',k1,k2⟩:=q3
    ·exact ⟨_,results_none PH _ _ _,G',R',k2.sh,.inl ⟨k1,_,rfl⟩⟩
    ·exact ⟨_,results_none PH _ _ _,G',R',k2.sh,.inr ⟨⟨_,rfl⟩,k1⟩⟩
   cases e with
   | normal=>exact fin
   | ret=>exact fin
   | exit id=>exact absurd q1.1 (by simp)
   | goto t=>exact absurd q1.1 (by simp)
   | panic ch=>exact absurd q1.1 (by simp)
   | outgrown=>exact absurd q1.1 (by simp)
  ·rcases hm with hm | hm
   ·exact hb.2 (.inl (.inl hm))
   ·rcases MO.snoc HR hm with hm | hm
    ·exact hb.2 (.inl (.inr hm))
    ·exact hb.2 (.inr hm)
section
variable {P:Program} {Γ:Aj}
def OM:List KI -> Option (Array Oper×List KI)
 | .code (.region _ ops false)::k=>some (ops,k)
 | _=>none
def ay (live σ:List Nat)(L:Nat)(r:List DV×Nat×St×St×List Prop):List DV×Nat×List DV×DH×List DV×DH×List Prop×Bool:= (r.1,r.2.1,(Proofs.YtodinaconebmdaaGreatDoor.comp live σ r.2.2.1).fr,(Proofs.YtodinaconebmdaaGreatDoor.comp live σ r.2.2.1).h,(Proofs.YtodinaconebmdaaGreatDoor.comp live σ r.2.2.2.1).fr,(Proofs.YtodinaconebmdaaGreatDoor.comp live σ r.2.2.2.1).h,r.2.2.2.2,J5 σ L r.2.2.1.h.length&&J5 σ L r.2.2.2.1.h.length)
theorem An.yieldAt {L:Nat}{C:Df P}{i:Nat}{Q:QY P Γ L}{S:St}{K k:List KI}{ops:Array Oper}(hF:Dg Fence.wide P)(hK:OM K=some (ops,k))(As:Cu ops=true)(p:Nat)(Aa:BI){x:List DV}(live σ:List Nat)(Rg:List DV)(hT:DH)(Ri:List DV)(hE:DH)(vs:List Prop) 
 (h:(SX P Γ ops p S Aa).map (ay live σ L)=some (x,C.l,Rg,hT,Ri,hE,vs,true)) (hv:BY vs) (hx:C.encs[i]? =some x) (hc:If k=true) (dU:An P Γ Fence.wide none L (C.Y Γ L (i+1)) Q k ⟨Rg,hT⟩) (dV:An P Γ Fence.wide none L (C.X Γ L) Q k ⟨Ri,hE⟩):An P Γ Fence.wide none L (C.Y Γ L i) Q K S:=by
 unfold OM at hK;split at hK
 ·rename_i id bC k';cases hK;cases hr:SX P Γ ops p S Aa with
  | none=>rw [hr] at h;cases h
  | some r=>
   obtain ⟨xs,l,ST,SF,C9⟩:=r;rw [hr] at h;simp only [zCA,ay,zCW,zDU,zAO] at h;obtain ⟨rfl,rfl,rfl,rfl,rfl,rfl,rfl,s1,s2⟩:=h;exact Tr.yield hF As hr hv hx (BU.le (At.comp live σ ST s1) hc dU) (BU.le (At.comp live σ SF s2) hc dV)
 ·cases hK
theorem Qx {α β:Type}{o:Option α}{f:α -> β}{r:β}(h:o.map f=some r): ∃ a,o=some a/\ r=f a:=by
 cases o with
 | none=>cases h
 | some a=>cases h;exact ⟨a,rfl,rfl⟩
theorem er {α β:Type}{l:List β}{i:Nat}{f:α -> β}{x:α}{r:List α}(hd:l.drop i=(x::r).map f):l[i]? =some (f x)/\ i+1<=l.length/\ l.drop (i+1)=r.map f:=by
 have AK:i<l.length:=by
  rcases zCb i l.length with h | h
  ·exact h
  ·rw [zCc h] at hd;cases hd
 rw [zBw AK] at hd;injection hd with h1 h2
 exact ⟨by rw [zAE AK,h1],AK,h2⟩
theorem VU {α β:Type}{l:List β}{i:Nat}{f:α -> β}(hi:i<=l.length)(hd:l.drop i=([]:List α).map f):i=l.length:=by
 have:=congrArg List.length hd;simp at this;omega
end
def Bj (x:Int):List DV:=[.int .i64 x]
def Pg (x:Int×Int):List DV:=[.int .i64 x.1,.int .i64 x.2]
abbrev zGO:=@List.contains_iff_mem
def JD:DV -> Bool
 | .ints _=>false
 | .bools _=>false
 | .sl .. =>false
 | .fp .. =>false
 | .agg m f=>(List.range m).all fun j=>JD (f j)
 | .tup m f=>(List.range m).all fun j=>JD (f j)
 | .fn _ m f=>(List.range m).all fun j=>JD (f j)
 | _=>true
def TC:Option DO -> Bool
 | none=>true
 | some (.cells l)=>l.all JD
 | some (.ints _)=>true
 | some (.bools _)=>true
 | some (.mo _)=>true
 | _=>false
def MOf (H:DH)(σ:List Nat)(ρ:List AE)(b:Nat):Prop:=∃ (k:Nat) (o:DO) (p:AE),k∈σ/\ H[k]? =some (some o)/\ ρ[k]? =some p/\ p.foot b
def L5 (H:DH)(σ:List Nat)(d d0:DV):Prop:=∀ (P:Program) (Γ:Aj) (N:Nat -> Prop) (ρ:List AE) (w:World) (v:Value),Ag P Γ N H ρ w -> AI (MS N H ρ) w d ρ v -> AI (MOf H σ ρ) w d0 [] v
theorem jQ {M M':Nat -> Prop}{w:World}{σ:List Nat}{b:Nat}{ρ ρ':List AE}(hρ: ∀ (k:Nat) (p:AE),ρ[k]? =some p -> ρ'[DI σ b k]? =some p): ∀ (d:DV) {v:Value},JD d=true -> AI M w d ρ v -> AI M' w (up σ b d) ρ' v:=by
 intro d
 induction d with
 | any=>intro v _ _;trivial
 | nils=>intro v _ h;exact h
 | int k n=>intro v _ h;exact h
 | bool b=>intro v _ h;exact h
 | str s=>intro v _ h;exact h
 | ints l=>intro v hs h;cases hs
 | bools l=>intro v hs h;cases hs
 | sl m n f _=>intro v hs h;cases hs
 | fp m f _=>intro v hs h;cases hs
 | agg m f ih=>
  rintro v hs ⟨cs,e,hz,h⟩;simp only [JD,zAX,zBf] at hs;exact ⟨cs,e,hz,fun j hj=>let ⟨u,h1,h2⟩:=h j hj;⟨u,h1,IL hj (ih j (hs j hj) h2)⟩⟩
 | tup m f ih=>
  rintro v hs ⟨cs,e,hz,h⟩;simp only [JD,zAX,zBf] at hs;exact ⟨cs,e,hz,fun j hj=>let ⟨u,h1,h2⟩:=h j hj;⟨u,h1,IL hj (ih j (hs j hj) h2)⟩⟩
 | fn g m c ih=>
  rintro v hs ⟨cs,e,hz,h⟩;simp only [JD,zAX,zBf] at hs;exact ⟨cs,e,hz,fun j hj=>let ⟨u,h1,h2⟩:=h j hj;⟨u,h1,IL hj (ih j (hs j hj) h2)⟩⟩
 | ref k j=>rintro v _ ⟨p,hp,r⟩;exact ⟨p,hρ k p hp,r⟩
 | msl k m o n=>rintro v _ ⟨p,cap,hp,r⟩;exact ⟨p,cap,hρ k p hp,r⟩
 | mp k m i j=>rintro v _ ⟨p,hp,r⟩;exact ⟨p,hρ k p hp,r⟩
 | it k=>rintro v _ ⟨p,hp,r⟩;exact ⟨p,hρ k p hp,r⟩
 | cst u=>intro v _ h;exact h
 | yl l=>intro v _ h;exact h
 | mse k m o n=>rintro v _ ⟨p,a,cap,hp,r⟩;exact ⟨p,a,cap,hρ k p hp,r⟩
 | mri k i=>rintro v _ ⟨p,vs,hp,r⟩;exact ⟨p,vs,hρ k p hp,r⟩
theorem tI {P:Program}{M M':Nat -> Prop}{w:World}{σ:List Nat}{b:Nat}{ρ ρ':List AE}{p:AE}(hρ: ∀ (k:Nat) (p:AE),ρ[k]? =some p -> ρ'[DI σ b k]? =some p){o o':DO}(hs:TC (some o)=true)(ho:DA σ b (some o)=some o')(h:Dr P M w ρ p o):Dr P M' w ρ' p o':=by
 cases o with
 | cells l=>
  cases ho
  show AQ w p (l.map (up σ b)).length _
  rw [zCM];refine AQ.out h rfl fun j u hj hu=>?_
  have:(l.map (up σ b)).getD j .any=up σ b (l.getD j .any):=by simp [hj]
  rw [this];refine jQ hρ _ ?_ hu;simp only [TC,zAX] at hs;exact hs _ (by simp [hj])
 | ints l=>cases ho;exact AQ.out h rfl fun j u _ hu=>hu
 | bools l=>cases ho;exact AQ.out h rfl fun j u _ hu=>hu
 | arr m n f=>cases hs
 | iter encs=>cases hs
 | ro l=>cases hs
 | mo x=>cases ho;exact h
section
variable {P:Program} {Γ:Aj}
theorem ES.embedS {f:Nat}{ds:List DV}{h:DH}{d:DV}{h':DH}{ext:Bool}(Ej:ES P Γ f ds h d h' ext)(σ:List Nat)(H:DH)(hn:σ.Nodup)(AK: ∀ k∈σ,k<H.length)(hl:σ.length=h.length)(Eh:h.length<=h'.length) 
 (hh:(σ.map fun k=>H.getD k none)=h.map (DA σ H.length)) {Ek:List DV} (Af:Ek.length=ds.length) (zCO: ∀ i,i<ds.length -> Ek.getD i .any=up σ H.length (ds.getD i .any)∨L5 H σ (Ek.getD i .any) (ds.getD i .any)) (hsd:JD d=true) (He:h'.all TC=true):ES P Γ f Ek H (up σ H.length d) (DD H σ h') ext:=by
 refine ⟨Ej.1,fun N ρ w args HR CD=>?_⟩;obtain ⟨ρ0,UY⟩: ∃ ρ0,ρ0=σ.map fun k=>ρ.getD k bQ:=⟨_,rfl⟩
 have UQ:ρ0.length=σ.length:=by rw [UY];simp
 have FE: ∀ {i k:Nat},σ[i]? =some k -> ρ0[i]? =ρ[k]? :=fun {i k} hk=>by
  have Cz:k<ρ.length:=by rw [HR.len];exact AK k (zB9 hk)
  rw [UY,zBt,hk];simp [Cz]
 have K0: ∀ {i:Nat},i<σ.length -> ∃ k,σ[i]? =some k/\ DI σ H.length i=k:=fun {i} hi=>by
  refine ⟨σ[i],by simp [hi],?_⟩;unfold DI;rw [zAA hi];simp [hi]
 have G4: ∀ {i:Nat} {o:DO},h[i]? =some (some o) -> ∃ k o',σ[i]? =some k/\ H[k]? =some (some o')/\ DA σ H.length (some o)=some o':=fun {i o} hi=>by
  have C0:i<σ.length:=by rw [hl];exact (zAW.1 hi).1
  obtain ⟨k,hk,_⟩:=K0 C0;have e:=congrArg (·[i]?) hh;simp only [zBt,hk,hi,zCA] at e;have Bn:=AK k (zB9 hk);have e:H.getD k none=DA σ H.length (some o):=zAV e;have e2: ∃ o',DA σ H.length (some o)=some o':=by cases o <;> exact ⟨_,rfl⟩
  obtain ⟨o',H2⟩:=e2;refine ⟨k,o',hk,?_,H2⟩;rw [H2] at e;rw [zAE Bn];rw [u8,zAE Bn] at e;exact congrArg some e
 have lw: ∀ {i k:Nat} {o':DO},σ[i]? =some k -> H[k]? =some (some o') -> ∃ o,h[i]? =some (some o)/\ DA σ H.length (some o)=some o':=fun {i k o'} hk ho=>by
  have C0:i<h.length:=by rw [←hl];exact (zAW.1 hk).1
  have e:=congrArg (·[i]?) hh;simp only [zBt,hk,zAE C0,zCA] at e;have e:H.getD k none=DA σ H.length h[i]:=zAV e;rw [Yh ho] at e;obtain ⟨o0,e0⟩:=QO e.symm;exact ⟨o0,by rw [zAE C0,e0],by rw [e0] at e;exact e.symm⟩
 obtain ⟨N0,HL⟩: ∃ N0:Nat -> Prop,N0=fun _=>False:=⟨_,rfl⟩
 have Ib: ∀ b,MO h ρ0 b -> MO H ρ b:=by
  rintro b ⟨i,o,p,g1,g2,g3⟩;obtain ⟨k,o',e1,e2,_⟩:=G4 g1;exact ⟨k,o',p,e2,(FE e1).symm.trans g2,g3⟩
 have Oj: ∀ b,MS N0 h ρ0 b -> MS N H ρ b:=by
  rintro b (hb | hb)
  ·rw [HL] at hb;exact hb.elim
  ·exact .inr (Ib b hb)
 have dn: ∀ (k:Nat) (p:AE),ρ[DI σ H.length k]? =some p -> ρ0[k]? =some p:=fun k p hp=>by
  by_cases hk:k<σ.length
  ·obtain ⟨k',e1,e2⟩:=K0 hk;rw [e2] at hp;exact (FE e1).trans hp
  ·unfold DI at hp;rw [zAY hk] at hp;have:=(zAW.1 hp).1;rw [HR.len] at this;omega
 have foreign: ∀ {k:Nat} {o:DO} {p:AE} {b:Nat},DX σ k=none -> H[k]? =some (some o) -> ρ[k]? =some p -> p.foot b -> ¬ MO h ρ0 b:=by
  rintro k' o2 p2 b q1 q2 q3 q4 ⟨i,o,p,g1,g2,g3⟩;obtain ⟨k,o',e1,e2,_⟩:=G4 g1;have hp:=(FE e1).symm.trans g2;refine HR.dis k k' o' o2 p p2 b ?_ e2 q2 hp q3 g3 q4;rintro rfl;rw [Qg hn e1] at q1;cases q1
 have H0:Ag P Γ N0 h ρ0 w:=by
  refine ⟨by rw [UQ,hl],fun i o hi=>?_,fun i o p b g1 g2 g3=>?_,fun i i' o1 o2 p1 p2 b AR g1 g2 g3 g4 g5 g6=>?_,fun b hb=>HR.lt2 (Oj b (.inl hb)),HR.gi⟩
  ·obtain ⟨k,o',e1,e2,e3⟩:=G4 hi;obtain ⟨p,hp,hr⟩:=HR.obj k o' e2;exact ⟨p,(FE e1).trans hp,pY Oj dn e3 hr⟩
  ·obtain ⟨k,o',e1,e2,e3⟩:=G4 g1;obtain ⟨q1,q2,q3⟩:=HR.cel k o' p b e2 ((FE e1).symm.trans g2) g3;exact ⟨q1,fun hb=>by rw [HL] at hb;exact hb,q3⟩
  ·obtain ⟨k,o',e1,e2,e3⟩:=G4 g1;obtain ⟨k',bI,Rq,VT,e3'⟩:=G4 g2;refine HR.dis k k' o' bI p1 p2 b ?_ e2 VT ((FE e1).symm.trans g3) ((FE Rq).symm.trans g4) g5 g6;rintro rfl;have a1:=Qg hn e1;have a2:=Qg hn Rq;exact AR (zAV (a1.symm.trans a2))
 refine (Ej.2 N0 ρ0 w args H0 ⟨by rw [←CD.1,Af],fun i hi=>?_⟩).mono ?_
 ·have:=CD.2 i (by rw [Af];exact hi);rcases zCO i hi with e | e
  ·rw [e] at this;exact Y1 Oj dn _ this
  ·refine Qf (AI.out _ (Dk (fun b hb=>?_) []) (e P Γ N ρ w _ HR this));rcases hb with hb | ⟨i,o,p,g1,g2,g3⟩
   ·rw [HL] at hb;exact hb.elim
   ·obtain ⟨k,o',e1,e2,_⟩:=G4 g1;exact ⟨k,o',p,zB9 e1,e2,(FE e1).symm.trans g2,g3⟩
 ·rintro e w' ⟨v,rfl,⟨⟨ρ1,g1,g2,g3,g4⟩,g5⟩⟩;have l1:ρ1.length=h'.length:=g1.len;obtain ⟨ρ',G8⟩: ∃ ρ',ρ'=ρ++ρ1.drop σ.length:=⟨_,rfl⟩
  have Vy: ∀ {i k:Nat},σ[i]? =some k -> ρ1[i]? =ρ[k]? :=fun {i k} hk=>by
   have C0:i<ρ0.length:=by rw [UQ];exact (zAW.1 hk).1
   have:=g4 i ρ0[i] (by simp [C0]);rw [this,←FE hk];simp [C0]
  have FY: ∀ {k:Nat},k<H.length -> ρ'[k]? =ρ[k]? :=fun {k} hk=>by rw [G8,zBc (by rw [HR.len];exact hk)]
  have Sf: ∀ (k:Nat) (p:AE),ρ1[k]? =some p -> ρ'[DI σ H.length k]? =some p:=fun k p hp=>by
   by_cases hk:k<σ.length
   ·obtain ⟨k',e1,e2⟩:=K0 hk;rw [e2,FY (AK k' (zB9 e1)),←Vy e1];exact hp
   ·unfold DI;rw [zAY hk,G8,zBg (by rw [HR.len];omega),zFh,HR.len];rw [show σ.length+(H.length+(k-σ.length)-H.length)=k by omega];exact hp
  have bg:(DD H σ h').length=H.length+(h'.length-σ.length):=by simp [DD]
  have HT: ∀ {k:Nat} {o':DO},(DD H σ h')[k]? =some (some o') -> (k<H.length/\ DX σ k=none/\ H[k]? =some (some o')/\ ρ'[k]? =ρ[k]?)∨∃ i o,h'[i]? =some (some o)/\ DA σ H.length (some o)=some o'/\ ρ'[k]? =ρ1[i]? /\ k=DI σ H.length i:=by
   intro k o' hk
   by_cases Bn:k<H.length
   ·unfold DD at hk;rw [zBc (by simpa using Bn),zBt,zGC Bn] at hk;simp only [zCA,zCW] at hk;split at hk
    ·rename_i i hi;have Lb:=KA hi;obtain ⟨o0,e0⟩:=QO hk;have C0:i<h'.length:=zBa (by rw [←hl];exact (zAW.1 Lb).1) Eh;rw [e0] at hk;refine .inr ⟨i,o0,?_,hk,?_,?_⟩
     ·rw [zAE C0];rw [u8,zAE C0] at e0;exact congrArg some e0
     ·rw [FY Bn,Vy Lb]
     ·obtain ⟨k2,e1,e2⟩:=K0 (zAW.1 Lb).1;rw [e2];exact zAV (Lb.symm.trans e1)
    ·rename_i hi;refine .inl ⟨Bn,hi,?_,FY Bn⟩;rw [zAE Bn];rw [u8,zAE Bn] at hk;exact congrArg some hk
   ·unfold DD at hk;rw [zBg (by simp;omega),zBt,zFh] at hk;simp only [zCM,zF8] at hk;cases hx:h'[σ.length+(k-H.length)]? with
    | none=>rw [hx] at hk;cases hk
    | some x=>
     rw [hx] at hk;have hk:DA σ H.length x=some o':=zAV hk;obtain ⟨o0,e0⟩:=QO hk;subst e0;refine .inr ⟨σ.length+(k-H.length),o0,hx,hk,?_,?_⟩
     ·rw [G8,zBg (by rw [HR.len];omega),zFh,HR.len]
     ·unfold DI;rw [zAY (by omega)];omega
  have back: ∀ {k:Nat} {o:DO},DX σ k=none -> H[k]? =some (some o) -> (DD H σ h')[k]? =some (some o):=by
   intro k o hk ho;have Bn:=(zAW.1 ho).1;unfold DD;rw [zBc (by simpa using Bn),zBt,zGC Bn];simp only [zCA,hk,Yh ho]
  have apart: ∀ {k:Nat} {o:DO} {p:AE} {b:Nat},DX σ k=none -> H[k]? =some (some o) -> ρ[k]? =some p -> p.foot b -> ¬ MO h' ρ1 b:=fun {k o p b} q1 q2 q3 q4 hm=>by
   rcases g3.grow b hm with hg | hg
   ·exact foreign q1 q2 q3 q4 hg
   ·exact absurd (HR.lt (.inr ⟨k,o,p,q2,q3,q4⟩)) (Nat.not_lt.2 hg)
  have grow: ∀ b,MO (DD H σ h') ρ' b -> MO H ρ b∨w.heap.size<=b:=by
   rintro b ⟨k,o',p,q1,q2,q3⟩;rcases HT q1 with ⟨a1,a2,a3,a4⟩ | ⟨i,o,a1,a2,a3,a4⟩
   ·exact .inl ⟨k,o',p,a3,a4.symm.trans q2,q3⟩
   ·exact (g3.grow b ⟨i,o,p,a1,a3.symm.trans q2,q3⟩).imp (Ib b) id
  have pl: ∀ (k:Nat) (p:AE),ρ[k]? =some p -> ρ'[k]? =some p:=fun k p hp=>by
   rw [G8,zBc (zAW.1 hp).1];exact hp
  have O:BH (MS N H ρ) w ρ (MS N (DD H σ h') ρ') w' ρ':=
   ⟨fun b hb hm _=>g3.upd.block b hb fun hx=>hm (.inr (Ib b hx)),fun b hb=>hb.elim (fun hb=>.inl (.inl hb)) (fun hb=>(grow b hb).imp .inr id),pl⟩
  refine ⟨v,rfl,⟨⟨ρ',⟨?_,fun k o' hk=>?_,fun k o' p b q1 q2 q3=>?_,fun k k' o1 o2 p1 p2 b AR q1 q2 q3 q4 q5 q6=>?_,fun b hb=>⟨zBa (HR.nlt b hb).1 g3.upd.size,(HR.nlt b hb).2⟩,g1.gi⟩,jQ Sf _ hsd g2,⟨g3.upd.mono fun b _ hb=>Ib b hb,grow⟩,pl⟩,g5⟩⟩
  ·rw [bg,G8];simp [HR.len,l1]
  ·rcases HT hk with ⟨a1,a2,a3,a4⟩ | ⟨i,o,a1,a2,a3,a4⟩
   ·obtain ⟨p,hp,hr⟩:=HR.obj k o' a3;refine ⟨p,a4.trans hp,hr.out O g3.upd (fun b hb=>.inr (Ib b hb)) fun b _ hf hs=>?_⟩;exact foreign a2 a3 hp hf hs
   ·obtain ⟨p,hp,hr⟩:=g1.obj i o a1;exact ⟨p,a3.trans hp,tI Sf (zAX.1 He _ (zB9 a1)) a2 hr⟩
  ·rcases HT q1 with ⟨a1,a2,a3,a4⟩ | ⟨i,o,a1,a2,a3,a4⟩
   ·have hp:=a4.symm.trans q2;obtain ⟨c1,c2,c,t,z,c3⟩:=HR.cel k o' p b a3 hp q3;refine ⟨c1,c2,c,t,z,(g3.upd.block b (zAL.1 c3).1 fun hx=>?_).trans c3⟩;exact foreign a2 a3 hp q3 hx
   ·obtain ⟨c1,c2,c3⟩:=g1.cel i o p b a1 (a3.symm.trans q2) q3;refine ⟨c1,fun hb=>?_,c3⟩;rcases g3.grow b ⟨i,o,p,a1,a3.symm.trans q2,q3⟩ with hg | hg
    ·obtain ⟨k2,o2,p2,d1,d2,d3⟩:=Ib b hg;exact (HR.cel k2 o2 p2 b d1 d2 d3).2.1 hb
    ·exact absurd (HR.nlt b hb).1 (Nat.not_lt.2 hg)
  ·rcases HT q1 with ⟨a1,a2,a3,a4⟩ | ⟨i,o,a1,a2,a3,a4⟩
   ·rcases HT q2 with ⟨c1,c2,c3,c4⟩ | ⟨i',o',c1,c2,c3,c4⟩
    ·exact HR.dis k k' o1 o2 p1 p2 b AR a3 c3 (a4.symm.trans q3) (c4.symm.trans q4) q5 q6
    ·exact apart a2 a3 (a4.symm.trans q3) q5 ⟨i',o',p2,c1,c3.symm.trans q4,q6⟩
   ·rcases HT q2 with ⟨c1,c2,c3,c4⟩ | ⟨i',o',c1,c2,c3,c4⟩
    ·exact apart c2 c3 (c4.symm.trans q4) q6 ⟨i,o,p1,a1,a3.symm.trans q3,q5⟩
    ·refine g1.dis i i' o o' p1 p2 b ?_ a1 c1 (a3.symm.trans q3) (c3.symm.trans q4) q5 q6;rintro rfl;exact AR (a4.trans c4.symm)
end
theorem L5.own {h:DH}{σ:List Nat}{j:Nat}{f:Int -> List Int}{x:Int}{L:List Int}{g:Bool}(hk:h[j]? =some (some (.mo (.rows f (some (x,L,g))))))(hj:σ.contains j=false):L5 h σ (.mri j 1) (.ints L):=by
 rintro P Γ N ρ w v H ⟨p,vs,hp,GT,C6⟩;obtain ⟨p',A5,u,es,AZ,hA⟩:=H.obj j _ hk;have:p'=p:=zAV (A5.symm.trans hp);subst this;have e: #[Value.map (some p'.blk),u]=vs:=by have:=hA.val.symm.trans GT;cases this;rfl
 subst e;have ev:v=u:=by simpa using C6.symm
 subst ev;rcases (hA.inHand x L g rfl).1 with ⟨rfl,rfl⟩ | ⟨q,cap,rfl,h1,h2,h3,h4,h5⟩
 ·exact ⟨none,0,rfl,zBl _,zFo _,fun j hj=>absurd hj (zBk j)⟩
 ·refine ⟨_,cap,rfl,h1,h3,fun i hi=>⟨q.blk,q.off,rfl,?_,?_⟩⟩
  ·rintro ⟨k,o,p2,g1,g2,g3,g4⟩;refine H.dis k j o _ p2 p' q.blk (fun e=>?_) g2 hk g3 hp g4 h4.1;subst e;have:=zGO.2 g1;rw [this] at hj;cases hj
  ·obtain ⟨u,e1,e2⟩:=AQ.cell h5 hi;rw [e1,e2]
def Xi (H:DH)(σ:List Nat):List DV -> List DV -> Prop
 | [],[]=>True
 | d1::Ek,d::ds=>(d1=up σ H.length d∨L5 H σ d1 d)/\ Xi H σ Ek ds
 | _,_=>False
theorem bZ {H:DH}{σ:List Nat}: ∀ {Ek ds:List DV},Xi H σ Ek ds -> Ek.length=ds.length/\ ∀ i,i<ds.length -> Ek.getD i .any=up σ H.length (ds.getD i .any)∨L5 H σ (Ek.getD i .any) (ds.getD i .any)
 | [],[],_=>⟨rfl,fun i hi=>absurd hi (zBk i)⟩
 | d1::Ek,d::ds,⟨h1,h2⟩=>by
  obtain ⟨g1,g2⟩:=bZ h2;refine ⟨by simp [g1],fun i hi=>?_⟩;cases i with
  | zero=>exact h1
  | succ i=>exact g2 i (by simpa using hi)
 | [],_::_,h=>h.elim
 | _::_,[],h=>h.elim
theorem ES.embedSB {P:Program}{Γ:Aj}{f:Nat}{ds:List DV}{h:DH}{d:DV}{h':DH}{ext:Bool}(Ej:ES P Γ f ds h d h' ext)(σ:List Nat)(H:DH){Ek:List DV}(ha:Xi H σ Ek ds)(hb:NV σ H.length h.length h'.length=true)(hh:(σ.map fun k=>H.getD k none)=h.map (DA σ H.length))(hs:(JD d&&h'.all TC)=true):
 ES P Γ f Ek H (up σ H.length d) (DD H σ h') ext:=by
 simp only [NV,zAO,zCJ,zAX] at hb;rw [zAO] at hs;exact Ej.embedS σ H hb.1.1.1 (fun k hk=>hb.1.1.2 k hk) hb.1.2 hb.2 hh (bZ ha).1 (bZ ha).2 hs.1 hs.2
structure HX (F:Fence)(P:Program):Prop where
 f:Dg F P
 m:P.follows .mixedOrders=true
structure HS (c:List (DV×DH×Bool))(o:List (Nat×DV))(z:List (Nat×Fz))(v:List Prop):Prop where
 all:BY v
section
variable {P:Program} {Γ:Aj} {cs:List (DV×DH×Bool)} {os:List (Nat×DV)} {zs:List (Nat×Fz)} {vs:List Prop}
theorem H0:HS [] [] [] []:=⟨trivial⟩
theorem HS.add (q:HS cs os zs vs){c':List (DV×DH×Bool)}{o':List (Nat×DV)}{z':List (Nat×Fz)}{p:Prop}(h:p):HS c' o' z' (vs++[p]):=⟨DE.2 ⟨q.all,h,trivial⟩⟩
theorem HS.o (q:HS cs os zs vs)(t:Nat){d d':DV}(x:AL d d'):HS cs (os++[(t,d')]) zs (vs++[AL d d']):=q.add x
theorem HS.b (q:HS cs os zs vs)(t:Nat){a b:Bool}(x:a=b):HS cs (os++[(t,.bool b)]) zs (vs++[AL (.bool a) (.bool b)]):=q.add (AL.bool x)
theorem HS.w (q:HS cs os zs vs)(t:Nat){x:Int}(h:AH x):HS cs (os++[(t,.int .i64 x)]) zs (vs++[AL (.int .i64 (IntKind.i64.wrap x)) (.int .i64 x)]):=q.add (rK h)
theorem HS.g (q:HS cs os zs vs){p:Prop}(x:p):HS cs os zs (vs++[p]):=q.add x
theorem HS.t (q:HS cs os zs vs):HS cs os zs (vs++[True]):=q.add trivial
theorem HS.c (q:HS cs os zs vs){f:Nat}{ds:List DV}{h:DH}{d:DV}{h':DH}{e:Bool}(x:ES P Γ f ds h d h' e):HS (cs++[(d,h',e)]) os zs (vs++[ES P Γ f ds h d h' e]):=q.add x
theorem HS.a (q:HS cs os zs vs)(t k m:Nat){n n':Nat}{f f':Nat -> Nat -> DV}(x:n=n'/\ ∀ i j,i<n -> j<m -> AL (f i j) (f' i j)):HS cs os (zs++[(t,.arr k n' f')]) (vs++[n=n'/\ ∀ i j,i<n -> j<m -> AL (f i j) (f' i j)]):=q.add x
theorem HS.z (q:HS cs os zs vs)(t k:Nat):HS cs os (zs++[(t,.frz k)]) vs:=⟨q.all⟩
theorem HS.u (q:HS cs os zs vs)(t k:Nat):HS cs os (zs++[(t,.unf k)]) vs:=⟨q.all⟩
end
theorem ES.emC {P:Program}{Γ:Aj}{f:Nat}{ds:List DV}{h:DH}{d:DV}{h':DH}{ext:Bool}(Ej:ES P Γ f ds h d h' ext)(σ:List Nat)(H:DH)(hb:NV σ H.length h.length h'.length=true)(hh:(σ.map fun k=>H.getD k none)=h.map (DA σ H.length)):ES P Γ f (ds.map (up σ H.length)) H (up σ H.length d) (DD H σ h') ext:=
 Ej.embedB σ H hb hh rfl
theorem Qo {α:Type} [Inhabited α] (c:α -> List DV) (L:List α) (n m:Nat) (h: ∀ x,(c x).all JQ=true/\ m=(c x).length): ∀ i j,i<n -> j<m -> JQ (AO c L i j)=true:=fun i j _ hj=>xU (h _).1 (h _).2 j hj
def frzL:List Nat -> St -> Option (St×List Prop)
 | [],S=>some (S,[])
 | k::ks,S=>match VF k S with
  | some (S',vs)=>match frzL ks S' with
   | some (CJ,Bg)=>some (CJ,vs++Bg)
   | none=>none
  | none=>none
theorem At.frzL {L:Nat}: ∀ (ks:List Nat) {S S':St} {vs:List Prop},Proofs.YtodinaconebmdaaGreatDoor.frzL ks S=some (S',vs) -> BY vs -> At L S S'
 | [],S,S',vs,h,_=>by cases h;exact At.refl L S
 | k::ks,S,S',vs,h,hv=>by
  simp only [Proofs.YtodinaconebmdaaGreatDoor.frzL] at h;split at h
  ·rename_i S1 C9 h1;split at h
   ·rename_i S2 E4 h2;cases h;obtain ⟨Bb,CG⟩:=DE.1 hv;exact (At.frzE k S1 C9 h1 Bb).trans (At.frzL ks h2 CG)
   ·cases h
  ·cases h
abbrev ZX:=List Prop×List Prop×List (DV×DH×Bool)×List (Nat×DV)×Bool
def Qh (σ:List Nat)(L:Nat)(w:List Prop)(r:KO×St×List Prop×BI):ZX:=(r.2.2.1,w,r.2.2.2.calls,r.2.2.2.co,J5 σ L r.2.1.h.length)
def Mi (live σ:List Nat)(L:Nat)(ks:List Nat)(r:KO×St×List Prop×BI):Option (KO×List DV×DH×ZX):=match frzL ks (comp live σ r.2.1) with
 | some (S,w)=>some (r.1,S.fr,S.h,Qh σ L w r)
 | none=>none
def mf:KO -> Option Exit
 | .ret=>some .ret
 | .at []=>some .normal
 | .at (.code (.exit i)::k)=>if (JO i k).isNone then some (.exit i) else none
 | _=>none
def KJ (P:Program)(live σ:List Nat)(L:Nat)(ks:List Nat)(fn:Func)(d:DV)(l2:Nat)(r:KO×St×List Prop×BI):Option (Bool×List DV×DH×ZX):=match frzL ks (comp live σ r.2.1) with
 | some (S,w)=>match Me P S fn.results.toList with
  | some rs=>some ((match r.1 with | .ret=>true | .at []=>true | _=>false)&&(decide (S.h.length<=l2)||(S.h.all UF&&Fb d&&decide (L<=S.h.length))),rs,(if S.h.length<=l2 then S.h else (Fi (List.range L) S).h),Qh σ L w r)
  | none=>none
 | none=>none
def az (σ:List Nat)(L:Nat)(r:KO×St×List Prop×BI):Option Exit×DH×ZX:=(mf r.1,(comp [] σ r.2.1).h,Qh σ L [] r)
section
variable {P:Program} {Γ:Aj} {F:Fence} {B:Option Nat} {L:Nat} {Y N:BB P Γ L} {Q:QY P Γ L} {k k':List KI} {S:St} {fr:List DV} {h' h2:DH} {c:List (DV×DH×Bool)} {o:List (Nat×DV)} {z:List (Nat×Fz)} {v w:List Prop}
theorem xK {live σ ks:List Nat}{r:KO×St×List Prop×BI}{r1:KO}(h:Mi live σ L ks r=some (r1,fr,h',v,w,[],[],true))(hw:BY w):r.1=r1/\ r.2.2.1=v/\ At L r.2.1 ⟨fr,h'⟩:=by
 unfold Mi at h;split at h
 ·rename_i S1 w1 hf;simp only [Qh,zCW,zDU] at h;obtain ⟨rfl,rfl,rfl,rfl,rfl,_,_,hs⟩:=h;exact ⟨rfl,rfl,(At.comp live σ r.2.1 hs).trans (At.frzL ks hf hw)⟩
 ·cases h
theorem BU.gS (hX:HX F P)(A1:Bi)(n:Nat)(live σ:List Nat)(tg:List (List (Nat×Nat)×St))(hl:HS c o z v)(ks:List Nat)(hz:HS [] [] [] w)(k':List KI)(fr:List DV)(h':DH) 
 (h:(B7 P Γ A1 n k S ⟨c,o,z,tg⟩).bind (Mi live σ L ks)=some (.at k',fr,h',v,w,[],[],true)) (hc:If k'=true) (hk:An P Γ F B L Y Q k' ⟨fr,h'⟩):An P Γ F B L Y Q k S:=by
 cases hr:B7 P Γ A1 n k S ⟨c,o,z,tg⟩ with
 | none=>rw [hr] at h;cases h
 | some r=>
  obtain ⟨r1,S1,v1,o1⟩:=r;rw [hr] at h;obtain ⟨e1,e2,hs⟩:=xK (r:=(r1,S1,v1,o1)) h hz.all;have e1:r1= .at k':=e1;have e2:v1=v:=e2;subst e1 e2;exact Fd hX.f hX.m n k S _ _ _ _ _ hr hl.all (BU.le hs hc hk)
theorem BU.el (hX:HX F P){fn:Func}{d:DV}(A1:Bi)(n:Nat)(live σ:List Nat)(tg:List (List (Nat×Nat)×St))(hl:HS c o z v)(ks:List Nat)(hz:HS [] [] [] w)(rs:List DV)(le:AL (Hs rs) d) 
 (h:(B7 P Γ A1 n k S ⟨c,o,z,tg⟩).bind (KJ P live σ L ks fn d h2.length)=some (true,rs,h2,v,w,[],[],true)):BU P Γ F B L N (CZ P fn L d h2) k S:=by
 cases hr:B7 P Γ A1 n k S ⟨c,o,z,tg⟩ with
 | none=>rw [hr] at h;cases h
 | some r=>
  obtain ⟨r1,S1,v1,o1⟩:=r;rw [hr] at h;have h:KJ P live σ L ks fn d h2.length (r1,S1,v1,o1)=some (true,rs,h2,v,w,[],[],true):=h;unfold KJ at h;split at h
  ·rename_i S2 w1 hf;split at h
   ·rename_i aR My;simp only [Qh,zCW,zDU,zAO] at h;obtain ⟨⟨zAS,hq⟩,rfl,hh,rfl,rfl,_,_,hs⟩:=h;have hS:At L S1 S2:=(At.comp live σ S1 hs).trans (At.frzL ks hf hz.all)
    have fin: ∀ e,(e= .normal∨e= .ret) -> CZ P fn L d h2 e S1:=fun e he=>by
     refine CZ.le hS ⟨he,S2,At.refl _ _,aR,My,?_⟩
     by_cases Af:S2.h.length<=h2.length
     ·rw [zAA Af] at hh;exact .inl ⟨le,hh⟩
     ·rw [zAY Af] at hh;simp only [Af,decide_false,zFq,zAO,zCJ] at hq;exact .inr ⟨Og hq.1.1,le,Ml hq.1.2,hq.2,hh⟩
    refine Fd hX.f hX.m n k S _ _ _ _ _ hr hl.all ?_;rcases r1 with (_ | ⟨_,_⟩) | _
    ·exact ⟨rfl,fin _ (.inl rfl)⟩
    ·cases zAS
    ·exact ⟨rfl,fin _ (.inr rfl)⟩
   ·cases h
  ·cases h
theorem BU.e (hX:HX F P){fn:Func}{d:DV}(A1:Bi)(n:Nat)(live σ:List Nat)(tg:List (List (Nat×Nat)×St))(hl:HS c o z v)(ks:List Nat)(hz:HS [] [] [] w) 
 (h:(B7 P Γ A1 n k S ⟨c,o,z,tg⟩).bind (fun r=>(KJ P live σ L ks fn d h2.length r).map fun q=>(q.1,Hs q.2.1,q.2.2))=some (true,d,h2,v,w,[],[],true)):BU P Γ F B L N (CZ P fn L d h2) k S:=by
 cases hr:B7 P Γ A1 n k S ⟨c,o,z,tg⟩ with
 | none=>rw [hr] at h;cases h
 | some r=>
  rw [hr] at h;have h:(KJ P live σ L ks fn d h2.length r).map (fun q=>(q.1,Hs q.2.1,q.2.2))=some (true,d,h2,v,w,[],[],true):=h;cases hq:KJ P live σ L ks fn d h2.length r with
  | none=>rw [hq] at h;cases h
  | some q=>
   obtain ⟨q1,rs,q3⟩:=q;rw [hq] at h;simp only [zCA,zCW,zDU] at h;obtain ⟨rfl,hd,rfl⟩:=h;exact BU.el hX A1 n live σ tg hl ks hz rs (AL.of_eq hd) (by rw [hr];exact hq)
def XR (P:Program)(L:Nat)(ks:List Nat)(fn:Func)(d:DV)(l2:Nat)(S:St):Option (Bool×List DV×DH×List Prop):=match frzL ks S with
 | some (S,w)=>match Me P S fn.results.toList with
  | some rs=>some (decide (S.h.length<=l2)||(S.h.all UF&&Fb d&&decide (L<=S.h.length)),rs,(if S.h.length<=l2 then S.h else (Fi (List.range L) S).h),w)
  | none=>none
 | none=>none
theorem CZ.el {fn:Func}{d:DV}{e:Exit}(he:e= .normal∨e= .ret)(ks:List Nat)(hz:HS [] [] [] w)(rs:List DV)(le:AL (Hs rs) d)(h:XR P L ks fn d h2.length S=some (true,rs,h2,w)):CZ P fn L d h2 e S:=by
 unfold XR at h;split at h
 ·rename_i S2 w1 hf;split at h
  ·rename_i aR My;simp only [zCW,zDU] at h;obtain ⟨hq,rfl,hh,rfl⟩:=h;refine CZ.le (At.frzL ks hf hz.all) ⟨he,S2,At.refl _ _,aR,My,?_⟩
   by_cases Af:S2.h.length<=h2.length
   ·rw [zAA Af] at hh;exact .inl ⟨le,hh⟩
   ·rw [zAY Af] at hh;simp only [Af,decide_false,zFq,zAO,zCJ] at hq;exact .inr ⟨Og hq.1.1,le,Ml hq.1.2,hq.2,hh⟩
  ·cases h
 ·cases h
theorem CZ.e {fn:Func}{d:DV}{e:Exit}(he:e= .normal∨e= .ret)(ks:List Nat)(hz:HS [] [] [] w)(h:(XR P L ks fn d h2.length S).map (fun q=>(q.1,Hs q.2.1,q.2.2))=some (true,d,h2,w)):CZ P fn L d h2 e S:=by
 cases hq:XR P L ks fn d h2.length S with
 | none=>rw [hq] at h;cases h
 | some q=>
  obtain ⟨q1,rs,q3⟩:=q;rw [hq] at h;simp only [zCA,zCW,zDU] at h;obtain ⟨rfl,hd,rfl⟩:=h;exact CZ.el he ks hz rs (AL.of_eq hd) hq
theorem BU.r (hX:HX F P){ex:List Exit}{i:Nat}{e:Exit}(A1:Bi)(n:Nat)(σ:List Nat)(tg:List (List (Nat×Nat)×St))(hl:HS c o z v)(he:(Exit.normal::ex)[i]? =some e) 
 (h:(B7 P Γ A1 n k S ⟨c,o,z,tg⟩).map (az σ L)=some (some e,h2,v,[],[],[],true)):BU P Γ F B L N (Cf L ex i h2) k S:=by
 cases hr:B7 P Γ A1 n k S ⟨c,o,z,tg⟩ with
 | none=>rw [hr] at h;cases h
 | some r=>
  obtain ⟨r1,S1,v1,o1⟩:=r;rw [hr] at h;simp only [zCA,az,Qh,zCW,zDU] at h;obtain ⟨hk,hh,rfl,_,_,_,hs⟩:=h;have fin:stay N (Cf L ex i h2) e S1 N:=⟨rfl,he,_,At.comp [] σ S1 hs,hh⟩;refine Fd hX.f hX.m n k S _ _ _ _ _ hr hl.all ?_;unfold mf at hk;split at hk
  ·cases hk;exact fin
  ·cases hk;exact fin
  ·rename_i i' k';split at hk
   ·rename_i hp;cases hk;exact Tr.exit (Rl fin k' (Option.isNone_iff_eq_none.1 hp))
   ·cases hk
  ·cases hk
theorem Gb.g (hX:HX F P){Q:Exit -> St -> Prop}{assign body:Code}(A1:Bi)(n:Nat)(live σ:List Nat)(hl:HS c o z v)(fr:List DV)(h':DH) 
 (h:(B7 P Γ A1 n [.code assign] S ⟨c,o,z,[]⟩).map (T5 live σ L)=some (.at [],fr,h',v,[],[],true)) (hk: ∀ N2:BB P Γ L,BU P Γ F B L N2 Q [.code body] ⟨fr,h'⟩):Gb P Γ F B L N Q assign body S:=
 Gb.go hX.f hX.m A1 n _ live σ fr h' v h hl.all hk
end
section
variable {P:Program} {Γ:Aj} {L:Nat} {k:List KI} {S:St} {c:List (DV×DH×Bool)} {o:List (Nat×DV)} {z:List (Nat×Fz)} {v:List Prop}
theorem TrI.e {C:Df P}{Y:BB P Γ L}(hX:HX Fence.wide P)(A1:Bi)(n:Nat)(hl:HS c o z v) 
 (h:(B7 P Γ A1 n k S ⟨c,o,z,[]⟩).map (fun r=>((match r.1 with | .ret=>true | .at []=>true | _=>false),r.2.2.1))=some (true,v)) (hY:Y=C.Y Γ L C.encs.length∨Y=C.X Γ L):An P Γ Fence.wide none L Y (C.Q Γ L) k S:=by
 cases hr:B7 P Γ A1 n k S ⟨c,o,z,[]⟩ with
 | none=>rw [hr] at h;cases h
 | some r=>
  obtain ⟨r1,S1,C9,o1⟩:=r;rw [hr] at h;simp only [zCA,zCW,zDU] at h;obtain ⟨h1,rfl⟩:=h;refine Fd hX.f hX.m n k S _ _ _ _ _ hr hl.all ?_;rcases r1 with (_ | ⟨_,_⟩) | _
  ·exact ⟨.inl rfl,hY⟩
  ·cases h1
  ·exact ⟨.inr rfl,hY⟩
theorem An.y {C:Df P}{i:Nat}{Q:QY P Γ L}{K:List KI}{ops:Array Oper}(hX:HX Fence.wide P)(p:Nat)(live σ:List Nat)(hl:HS c o z v){x:List DV}(Rg:List DV)(hT:DH)(Ri:List DV)(hE:DH) 
 (hK:OM K=some (ops,EG K)) (As:Cu ops=true) (h:(SX P Γ ops p S ⟨c,o,z,[]⟩).map (ay live σ L)=some (x,C.l,Rg,hT,Ri,hE,v,true)) (hx:C.encs[i]? =some x) (hc:If (EG K)=true) (dU:An P Γ Fence.wide none L (C.Y Γ L (i+1)) Q (EG K) ⟨Rg,hT⟩) (dV:An P Γ Fence.wide none L (C.X Γ L) Q (EG K) ⟨Ri,hE⟩):An P Γ Fence.wide none L (C.Y Γ L i) Q K S:=
 An.yieldAt hX.f hK As p _ live σ Rg hT Ri hE v h hl.all hx hc dU dV
end
section
variable {P:Program} {Γ:Aj} {F:Fence} {B L:Nat} {Y:BB P Γ L} {Q:QY P Γ L} {fr:List DV} {h:DH} {K:List KI} {a b:Code} {α σ:Type} {l:List α} {H:σ -> DH} {FR:α -> List DV}
theorem BU.rg (Jc:F=Fence.wide∨∃ l,F=Fence.wide.inRound l)(ex:List Exit)(Iq:(ex.all fun e=>(Jh e).isSome)=true)(kk t:Nat)(ps:Array Tmp)(enc:α -> List DV)(L':Nat){f:α -> σ -> Option (σ×Nat)}{s0:σ}{rE:σ×Nat}(hf:CN f l s0=some rE) 
 (C7: ∀ (l B:Nat) (N:BB P Γ L') (x:α) (s:σ) (r:σ×Nat),f x s=some r -> Gb P Γ (Fence.wide.inRound l) (some B) L' N (Cf L' ex r.2 (H r.1)) a b ⟨FR x,H s⟩)
 (hK:OK K=some (.tmp t,ps,a,b,EG K)) (hg:AT fr (.tmp t)= .it kk) (hk:h[kk]? =some (some (.iter (l.map enc)))) (Dw: ∀ x,(enc x).length=ps.size) (hL:Nat.ble L L'=true) (HJ:fr.all (Ck L')=true) (h0:h.set kk none=H s0) (B3:(fun x=>IN fr ps.toList (enc x))=FR)
 (Da: ∀ e,(Exit.normal::ex)[rE.2]? =some e -> A6 P Γ F (some B) L Q (EG K) e ⟨fr,H rE.1⟩ Y):An P Γ F (some B) L Y Q K ⟨fr,h⟩:=
 BU.rangeAt Jc ex Iq (.tmp t) ps a b (EG K) enc l H FR f hf hK hg hk Dw L' hL HJ h0 B3 C7 Da
theorem BU.rg0 (Jc:F=Fence.wide∨∃ l,F=Fence.wide.inRound l)(kk t:Nat)(ps:Array Tmp)(enc:α -> List DV)(L':Nat){f:α -> σ -> Option σ}{s0 sE:σ}(hf:B9 f l s0=some sE) 
 (C7: ∀ (l B:Nat) (N:BB P Γ L') (x:α) (s r:σ),f x s=some r -> Gb P Γ (Fence.wide.inRound l) (some B) L' N (Cf L' [] 0 (H r)) a b ⟨FR x,H s⟩)
 (hK:OK K=some (.tmp t,ps,a,b,EG K)) (hg:AT fr (.tmp t)= .it kk) (hk:h[kk]? =some (some (.iter (l.map enc)))) (Dw: ∀ x,(enc x).length=ps.size) (hL:Nat.ble L L'=true) (HJ:fr.all (Ck L')=true) (h0:h.set kk none=H s0) (B3:(fun x=>IN fr ps.toList (enc x))=FR)
 (Da:An P Γ F (some B) L Y Q (EG K) ⟨fr,H sE⟩):An P Γ F (some B) L Y Q K ⟨fr,h⟩:=
 BU.rangeAt0 Jc (.tmp t) ps a b (EG K) enc l H FR f hf hK hg hk Dw L' hL HJ h0 B3 C7 Da
end
abbrev zAU:=@decide_eq_true
abbrev zCS:=@List.mem_cons_of_mem
abbrev zHH:=@List.mem_of_mem_erase
abbrev LK:=Nat×Array MapEntry×Nat
theorem ya {i:Nat}:Xk none i:=fun _ h=>by cases h
theorem yZ {i j:Nat}{g:LK}(h:i≠j):Xk (some (i,g)) j:=fun y e=>by cases e;exact h
def IV {R:Type} [DecidableEq R] (rem:KS) (a:Option R) (f:List Int -> Option R):Option R:=match rem with
 | []=>a
 | x::r=>match f x with
  | none=>none
  | some v=>if r.all (fun y=>decide (f y=some v)) then some v else none
theorem Xa {R:Type} [DecidableEq R] {rem:KS} {a:Option R} {f:List Int -> Option R} {r:R} (h:IV rem a f=some r):(rem= [] -> a=some r)/\ ∀ y∈rem,f y=some r:=by
 cases rem with
 | nil=>exact ⟨fun _=>h,fun y hy=>absurd hy zGG⟩
 | cons x l=>
  refine ⟨fun e=>absurd e (List.cons_ne_nil x l),?_⟩;unfold IV at h;simp only at h;cases hx:f x with
  | none=>rw [hx] at h;cases h
  | some v=>
   rw [hx] at h;simp only at h;split at h
   ·rename_i hc;cases h;intro y hy;rcases zCC.1 hy with rfl | hy
    ·exact hx
    ·exact zFr (zAX.1 hc y hy)
   ·cases h
theorem lv {R:Type} [DecidableEq R] {a:Option R} {f:List Int -> Option R}:IV [] a f=a:=rfl
theorem xV {R:Type} [DecidableEq R] {rem:KS} {a:Option R} {f:List Int -> Option R} {r:R} (hn:rem≠[]) (h: ∀ y∈rem,f y=some r):IV rem a f=some r:=by
 cases rem with
 | nil=>exact absurd rfl hn
 | cons x l=>
  unfold IV;simp only [h x (by simp)];rw [zAA];exact zAX.2 fun y hy=>zAU (h y (by simp [hy]))
theorem vJ {P:Program}{w:World}{r bm JF c0 AZ:Nat}{seen:Array Nat}{es:Array MapEntry}(hr:w.heap[r]? =some (.mapIter (some bm) JF seen c0))(hb:w.heap[bm]? =some (.map es AZ))(M6: ∀ x∈es.toList,x.born<JF)(hsc:JF<=c0)(ty:TypeId):
 ((leftOf es seen).size=0/\ (Instr.next (.pointer (some ⟨r,0,none⟩)) false ty).run P w= .ok (.tuple #[.bool false]) w)∨
 ∃ e∈(leftOf es seen).toList,∃ w1:World,(w1=w∨w1=w.drew)/\ (Instr.next (.pointer (some ⟨r,0,none⟩)) false ty).run P w= .ok (.tuple #[.bool true,e.key,e.val]) { w1 with heap:=w1.heap.setIfInBounds r (.mapIter (some bm) JF (seen.push e.born) AZ) }:=by
 simp only [Instr.next,getObj,zBx,Sem.run,hr,hb,Result.andThen,next_test_false seen es JF c0 M6 hsc,zCZ,zF2];unfold leftOf;have CS: ∀ x∈(Array.filter (fun e=>!seen.contains e.born) es).toList,x.born<JF:=fun x hx=>M6 x (by simp at hx ⊢;exact hx.1)
 generalize Array.filter (fun e=>!seen.contains e.born) es=L at CS ⊢
 have e1:L.filter (fun x=>decide (x.born<JF))=L:=Array.filter_eq_self.2 (fun x hx=>by simpa using CS x (by simpa using hx))
 have e2:L.filter (fun x=>decide (x.born>=JF))= #[]:=by
  rw [Array.filter_eq_empty_iff];intro x hx;have:=CS x (by simpa using hx);simp;omega
 simp only [e1,e2,Array.append_empty]
 by_cases h0:L.size=0
 ·left;have:L= #[]:=zGT h0;subst this;refine ⟨rfl,?_⟩;simp [choose,Sem.run,Question.forced]
 ·right;have AR:L.isEmpty=false:=by simp [Array.isEmpty,h0]
  simp only [AR,zCZ,zF2,Array.empty_append,Array.size_map]
  have YU: ∃ (j:Nat) (w1:World),j<L.size/\ (w1=w∨w1=w.drew)/\ (choose (Question.mapNext L.size)).run P w= .ok j w1:=by
   by_cases hf:L.size<=1
   ·exact ⟨0,w,by omega,.inl rfl,by simp [choose,Sem.run,Question.forced,hf]⟩
   ·exact ⟨_,w.drew,zHT _ (by omega),.inr rfl,by
     simp only [choose,Sem.run,Question.forced,zCJ,hf,zF2,Question.cut];rfl⟩
  obtain ⟨j,w1,hj,oD,KY⟩:=YU;have LX:w1.heap[r]? =some (.mapIter (some bm) JF seen c0):=by rcases oD with rfl | rfl <;> exact hr
  refine ⟨L[j],by simp,w1,oD,?_⟩;simp only [KY,Array.getElem?_map,zCV hj,zCA,zBx,setObj,Sem.run,LX,Result.andThen];rfl
section
variable {P:Program} {Γ:Aj} {N:Nat -> Prop} {S:St} {ρ:List AE} {a:Act} {w:World} {F:Fence} {B:Option Nat} {L:Nat} {Y:BB P Γ L} {Q:QY P Γ L}
theorem AP.setMo (R:AP P Γ N S ρ a w){k:Nat}{x x':MX}{p:AE}(hk:S.h[k]? =some (some (.mo x)))(hp:ρ[k]? =some p)(hO:Nl w p x')(hc: ∀ b,p.foot b -> Ds w b):
 AP P Γ N ⟨S.fr,S.h.set k (some (.mo x'))⟩ ρ a w/\ Ap S.h ρ w (S.h.set k (some (.mo x'))) ρ w:=
 ⟨⟨R.hr.write hk hp (AN.refl _ _) hc hO,R.fr.out (BH.write trivial hk hp (AN.refl p.foot w))⟩,Ap.write hk hp (AN.refl _ _)⟩
theorem FN.relock {p:AE}{n:Nat}{ls:List (Option KS)}{vs:Array Value}(hS:FN w p n ls none vs){i:Nat}(hi:(ls.getD i none).isSome=true): ∃ g:LK,FN w p n ls (some (i,g)) vs:=by
 obtain ⟨mb,g1,g2,g3,es,AZ,g4,_⟩:=hS.has i _ (Rb hi);refine ⟨(mb,es,AZ),{ hS with has:=fun j l hl=>?_ }⟩
 by_cases e:j=i
 ·subst e;have:l=(ls.getD j none).getD []:=by have:=Rb hi;rw [hl] at this;exact zAV (zAV this)
  subst this;exact ⟨mb,g1,g2,g3,es,AZ,g4,fun x hx _=>by cases hx;rfl⟩
 ·obtain ⟨b,k1,k2,k3,Iz,c1,k4,_⟩:=hS.has j l hl;exact ⟨b,k1,k2,k3,Iz,c1,k4,fun x hx hj=>by cases hx;exact absurd hj.symm e⟩
theorem FN.unlock {p:AE}{n:Nat}{ls:List (Option KS)}{lk:Option (Nat×LK)}{vs:Array Value}(hS:FN w p n ls lk vs):FN w p n ls none vs:=
 { hS with has:=fun j l hl=>let ⟨b,k1,k2,k3,Iz,c1,k4,_⟩:=hS.has j l hl;⟨b,k1,k2,k3,Iz,c1,k4,fun x hx=>by cases hx⟩ }
theorem Tr.lock {c:Code}{j i n:Nat}{ls:List (Option KS)}(hk:S.h[j]? =some (some (.mo (.sets n ls none))))(hi:(ls.getD i none).isSome=true)(H: ∀ g:LK,Tr P Γ F B L Y c ⟨S.fr,S.h.set j (some (.mo (.sets n ls (some (i,g)))))⟩ Q):Tr P Γ F B L Y c S Q:=fun N ρ a w R y m b=>by
 obtain ⟨p,hp,vs,hS⟩:=R.hr.obj j _ hk;obtain ⟨g,NG⟩:=hS.relock hi;obtain ⟨R',st⟩:=R.setMo hk hp (x':=.sets n ls (some (i,g))) ⟨vs,NG⟩ fun b hb=>hS.lies hb
 exact H g N ρ a w R' (Y.st y R.hr R'.hr st (B0.refl _ _)) m b
def mn:List KI -> Bool
 | .code _::_=>true
 | _=>false
theorem BU.lock {K:List KI}{fr:List DV}{h:DH}(j i n:Nat){ls:List (Option KS)}(hk:h[j]? =some (some (.mo (.sets n ls none))))(hi:(ls.getD i none).isSome=true)(hK:mn K=true)(h':LK -> DH)(he:h'=fun g=>h.set j (some (.mo (.sets n ls (some (i,g))))))(H: ∀ g:LK,An P Γ F B L Y Q K ⟨fr,h' g⟩):An P Γ F B L Y Q K ⟨fr,h⟩:=by
 subst he;unfold mn at hK;split at hK
 ·exact Tr.lock (S:=⟨fr,h⟩) hk hi H
 ·cases hK
theorem xy (R:AP P Γ N S ρ a w){m j n n' i:Nat}{ls:List (Option KS)}{g:LK}{rem:KS}{FB:Option (List Int)}(hm:S.h[m]? =some (some (.mo (.mit n g.1 g.2.1 g.2.2 rem FB))))(hj:S.h[j]? =some (some (.mo (.sets n' ls (some (i,g))))))(hi:(ls.getD i none).isSome=true){v:Value}(hv:AI (MS N S.h ρ) w (.it m) ρ v)(ty:TypeId):
 (rem= []/\ (Instr.next v false ty).run P w= .ok (.tuple #[.bool false]) w)∨∃ y∈rem,∃ (k u:Value) (w':World) (p:AE),(Instr.next v false ty).run P w= .ok (.tuple #[.bool true,k,u]) w'/\ ρ[m]? =some p/\ AN p.foot w w'/\ Nl w' p (.mit n g.1 g.2.1 g.2.2 (rem.erase y) (some y))/\ ∀ b,p.foot b -> Ds w' b:=by
 obtain ⟨p,hp,rfl⟩:=hv;obtain ⟨p',A5,h0,h1,h2,seen,h3,h4,h5⟩:=R.hr.obj m _ hm;have:p'=p:=zAV (A5.symm.trans hp);subst this;obtain ⟨q,hq,vs,hS⟩:=R.hr.obj j _ hj;obtain ⟨b,k1,k2,k3,Iz,ZF,k4,k5⟩:=hS.has i _ (Rb hi);have k5:=k5 _ rfl rfl;obtain ⟨mb,es,AZ⟩:=g
 have e3:mb=b/\ es=Iz/\ AZ=ZF:=by
  have:(mb,es,AZ)=(b,Iz,ZF):=k5;simpa using this
 obtain ⟨rfl,rfl,rfl⟩:=e3;simp only at h3 h4 h5;rw [h1];have M6: ∀ x∈es.toList,x.born<AZ:=k4.born;rcases vJ (P:=P) h3 k4.blk M6 (zBl _) ty with ⟨e1,e2⟩ | ⟨e,he,w1,Uc,e2⟩
 ·refine .inl ⟨?_,e2⟩;have:(leftOf es seen)= #[]:=zGT e1;rw [this] at h4;have:=h4.length_eq;simp at this;exact zDe this.symm
 ·have hek:e.key∈rem.map BP:=h4.mem_iff.1 (zDi.2 ⟨e,he,rfl⟩);obtain ⟨y,hy,nA⟩:=zDi.1 hek;have hes:e∈es.toList:=by simp [leftOf] at he ⊢;exact he.1
  have zAR:p'.blk<w.heap.size:=(zAL.1 h3).1;have zu:w1.heap=w.heap:=by rcases Uc with rfl | rfl <;> rfl
  have hU:AN p'.foot w { w1 with heap:=w1.heap.setIfInBounds p'.blk (.mapIter (some mb) AZ (seen.push e.born) AZ) }:=by
   rw [h2]
   have u1:AN (fun k=>k=p'.blk) w w1:=by
    rcases Uc with rfl | rfl
    ·exact AN.refl _ _
    ·exact AN.ofExt (Am.toDrew w)
   exact u1.trans (Si _)
  have Im:({ w1 with heap:=w1.heap.setIfInBounds p'.blk (.mapIter (some mb) AZ (seen.push e.born) AZ) }:World).heap[p'.blk]? =some (.mapIter (some mb) AZ (seen.push e.born) AZ):=by
   show (w1.heap.setIfInBounds _ _)[_]? =_
   simp [zu,zAR]
  refine .inr ⟨y,hy,e.key,e.val,_,p',e2,hp,hU,⟨fun x hx=>?_,h1,h2,seen.push e.born,Im,?_,fun x hx=>?_⟩,fun b hb=>?_⟩
  ·rcases hx with hx | hx
   ·exact h0 x (.inl (zHH hx))
   ·have ex:y=x:=zAV hx;subst ex;exact h0 y (.inl hy)
  ·have hl:leftOf es (seen.push e.born)=(leftOf es seen).filter fun x=>x.born != e.born:=by
    unfold leftOf;rw [Array.filter_filter]
    congr 1
    funext x
    simp only [Array.contains_push,Bool.not_or];rw [Bool.and_comm];simp [bne,Bool.beq_comm]
   have As:((leftOf es seen).toList.map (·.born)).Nodup:=by
    have:((leftOf es seen).toList.map (·.born)).Sublist (es.toList.map (·.born)):=by
     unfold leftOf;rw [Array.toList_filter];exact List.filter_sublist.map _
    exact this.nodup k4.stamps
   have zB6: ∀ (l:List MapEntry),(l.map (·.born)).Nodup -> e∈l -> (l.map (·.key)).Perm (e.key::((l.filter fun x=>x.born != e.born).map (·.key))):=by
    intro l
    induction l with
    | nil=>intro _ h;cases h
    | cons x l ih=>
     intro hn hx;rw [zFg,zGy] at hn
     by_cases nB:x=e
     ·subst nB
      have:(l.filter fun y=>y.born != x.born)=l:=List.filter_eq_self.2 fun y hy=>by
       simp only [zFy,ne_eq];exact fun hc=>hn.1 (by rw [←hc];exact zDi.2 ⟨y,hy,rfl⟩)
      simp [this]
     ·have Uz:e∈l:=(zCC.1 hx).resolve_left fun h=>nB h.symm
      have AR:(x.born != e.born)=true:=by
       simp only [zFy,ne_eq];exact fun hc=>hn.1 (by rw [hc];exact zDi.2 ⟨e,Uz,rfl⟩)
      rw [List.filter_cons,zAA AR,zFg,zFg];exact ((ih hn.2 Uz).cons x.key).trans (List.Perm.swap e.key x.key _)
   have P1:=zB6 _ As he;rw [hl,Array.toList_filter];have P2:(rem.map BP).Perm (BP y::(rem.erase y).map BP):=(List.perm_cons_erase hy).map BP;have P3:=P1.symm.trans (h4.trans P2);rw [←nA] at P3;exact List.Perm.cons_inv P3
  ·have ex:y=x:=zAV hx;subst ex;exact ⟨e,hes,nA.symm,by simp⟩
  ·rw [h2] at hb;exact ⟨_,rfl,(),by rw [show b=p'.blk from hb];exact Im⟩
theorem Tr.next (hF:Dg F P){id:Nat}{ops:Array Oper}(As:Cu ops=true){o:Oper}{rest:List Oper}(RG:ops.toList=o::rest){x:Operand}(ho:o.op= .next x false)(hw:J2 ops S o=some true){m j n n' i:Nat}{ls:List (Option KS)}{g:LK}{rem:KS}{FB:Option (List Int)}(hx:AT S.fr x= .it m)(hm:S.h[m]? =some (some (.mo (.mit n g.1 g.2.1 g.2.2 rem FB))))(hj:S.h[j]? =some (some (.mo (.sets n' ls (some (i,g))))))(nf:m≠j)(hi:(ls.getD i none).isSome=true) 
 (h0:rem= [] -> ∃ S' vs o0 o',Dy P Γ ops rest ⟨CV S.fr o.dst (.tup 1 (L1 [.bool false])),(S.h.set j (some (.mo (.sets n' ls none)))).set m none⟩ o0=some (S',vs,o')/\ BY vs/\ Q .normal S' Y)
 (h1: ∀ y∈rem,∃ S' vs o0 o',Dy P Γ ops rest ⟨CV S.fr o.dst (.tup 3 (L1 [.bool true])),S.h.set m (some (.mo (.mit n g.1 g.2.1 g.2.2 (rem.erase y) (some y))))⟩ o0=some (S',vs,o')/\ BY vs/\ Q .normal S' Y):Tr P Γ F B L Y (.region id ops false) S Q:=fun N ρ a w R y mk b=>by
 refine zFw ?_;rw [RG];have hd: ∀ c,o.op≠.defer c:=fun c e=>by rw [ho] at e;cases e
 have Eh: ∀ o'∈rest,o'∈ops:=fun o' H2=>by
  have:o'∈ops.toList:=by rw [RG];exact zCS _ H2
  simpa using this
 have CX: ∀ v,(a.put o.dst v).defers=a.defers:=fun v=>by cases ho:o.dst <;> simp [Act.put]
 have rx:=BO R x;rw [hx] at rx;unfold wpListIn;rw [zAA (IJ R hw)];have Iq:execOp a.eval o=(do pure (.value (←Instr.next (a.eval x) false o.type))):=by unfold execOp;rw [ho]
 have AK:m<S.h.length:=(zAW.1 hm).1;rcases xy R hm hj hi rx o.type with ⟨e1,e2⟩ | ⟨ky,hky,k,u,w',p,e2,hp,hU,hO,hC⟩
 ·obtain ⟨S',vs,o0,o',g1,g2,g3⟩:=h0 e1;obtain ⟨q,hq,rl,hS⟩:=R.hr.obj j _ hj;obtain ⟨R1,Br⟩:=R.setMo hj hq (x':=.sets n' ls none) ⟨rl,hS.unlock⟩ fun b hb=>hS.lies hb
  have R2:AP P Γ N ⟨S.fr,(S.h.set j (some (.mo (.sets n' ls none)))).set m none⟩ ρ a w:=⟨R1.hr.kill m,R1.fr.out (BH.kill m)⟩
  have R3:=Gl R2 o.dst (d:=.tup 1 (L1 [.bool false])) (v:=.tuple #[.bool false]) ⟨#[.bool false],rfl,rfl,fun jj NB=>by
   have:jj=0:=by omega
   subst this;exact ⟨_,rfl,rfl⟩⟩
  refine Km hF hd (G:=fun v w2=>v= .tuple #[.bool false]/\ w2=w) (BG.value (s:=Instr.next (a.eval x) false o.type) Iq e2 ⟨rfl,rfl⟩) fun v w2 ⟨hv,Ub⟩=>?_
  subst hv Ub;refine Ki hF As rest Eh R3 g1 g2 fun ρ' a' w3 R' st Db=>?_
  exact Tr.done R y mk b g3 R' ((Br.trans (Ap.kill m)).trans st.st) (fun k p _ hp=>st.pl k p hp) (Db.trans (CX _))
 ·obtain ⟨S',vs,o0,o',g1,g2,g3⟩:=h1 ky hky;have Br:=Ap.write (h:=S.h) (o':=.mo (.mit n g.1 g.2.1 g.2.2 (rem.erase ky) (some ky))) hm hp hU;have R1:AP P Γ N ⟨S.fr,S.h.set m (some (.mo (.mit n g.1 g.2.1 g.2.2 (rem.erase ky) (some ky))))⟩ ρ a w':=⟨R.hr.write hm hp hU hC hO,R.fr.out (BH.write trivial hm hp hU)⟩
  have R3:=Gl R1 o.dst (d:=.tup 3 (L1 [.bool true])) (v:=.tuple #[.bool true,k,u]) ⟨#[.bool true,k,u],rfl,rfl,fun jj NB=>by
   match jj,NB with
   | 0,_=>exact ⟨_,rfl,rfl⟩
   | 1,_=>exact ⟨_,rfl,trivial⟩
   | 2,_=>exact ⟨_,rfl,trivial⟩⟩
  refine Km hF hd (G:=fun v w2=>v= .tuple #[.bool true,k,u]/\ w2=w') (BG.value (s:=Instr.next (a.eval x) false o.type) Iq e2 ⟨rfl,rfl⟩) fun v w2 ⟨hv,Ub⟩=>?_
  subst hv Ub;refine Ki hF As rest Eh R3 g1 g2 fun ρ' a' w3 R' st Db=>?_
  exact Tr.done R y mk b g3 R' (Br.trans st.st) (fun k p _ hp=>st.pl k p hp) (Db.trans (CX _))
def bJ (ops:Array Oper):Operand:=match ops.toList with
 | o::_=>match o.op with
  | .next x _=>x
  | _=>.tmp 0
 | []=>.tmp 0
def Xc (ops:Array Oper):Option Tmp:=match ops.toList with
 | o::_=>o.dst
 | []=>none
def Oc (ops:Array Oper):List Oper:=ops.toList.tail
def bK (ops:Array Oper):Bool:=match ops.toList with
 | o::_=>match o.op with
  | .next _ false=>o.guard.isNone&&Cu ops
  | _=>false
 | []=>false
theorem xc {ops:Array Oper}(h:bK ops=true):Cu ops=true/\ ∃ o,ops.toList=o::Oc ops/\ o.op= .next (bJ ops) false/\ o.guard=none/\ o.dst=Xc ops:=by
 unfold bK at h;unfold bJ Xc Oc;split at h
 ·rename_i o rest RG;rw [RG];split at h
  ·rename_i x ho;simp only [zAO,Option.isNone_iff_eq_none] at h;refine ⟨h.2,o,rfl,?_,h.1,rfl⟩;simp only [ho]
  ·cases h
 ·cases h
def XV (live σ:List Nat)(L:Nat)(r:St×List Prop×BI):List DV×DH×List Prop×Bool:=((comp live σ r.1).fr,(comp live σ r.1).h,r.2.1,J5 σ L r.1.h.length)
theorem An.nx (hX:HX F P){K:List KI}{ops:Array Oper}{fr:List DV}{h:DH}(hK:OM K=some (ops,EG K))(CW:bK ops=true)(m j i n:Nat)(ls:List (Option KS))(g:LK)(rem:KS)(FB:Option (List Int))(live σ:List Nat)(ov:List DV)(h0:DH)(σ1:List Nat)(Kk:List Int -> List DV)(h1:List Int -> DH) 
 (hx:AT fr (bJ ops)= .it m) (hm:h[m]? =some (some (.mo (.mit n g.1 g.2.1 g.2.2 rem FB)))) (hj:h[j]? =some (some (.mo (.sets n ls (some (i,g)))))) (nf:m≠j) (hi:(ls.getD i none).isSome=true) (hc:If (EG K)=true)
 (c0:(Dy P Γ ops (Oc ops) ⟨CV fr (Xc ops) (.tup 1 (L1 [.bool false])),(h.set j (some (.mo (.sets n ls none)))).set m none⟩ ⟨[],[],[],[]⟩).map (XV live σ L)=some (ov,h0,[],true))
 (c1: ∀ y,(Dy P Γ ops (Oc ops) ⟨CV fr (Xc ops) (.tup 3 (L1 [.bool true])),h.set m (some (.mo (.mit n g.1 g.2.1 g.2.2 (rem.erase y) (some y))))⟩ ⟨[],[],[],[]⟩).map (XV live σ1 L)=some (Kk y,h1 y,[],true))
 (k0:rem= [] -> An P Γ F B L Y Q (EG K) ⟨ov,h0⟩) (k1: ∀ y∈rem,An P Γ F B L Y Q (EG K) ⟨Kk y,h1 y⟩):An P Γ F B L Y Q K ⟨fr,h⟩:=by
 have go: ∀ {S:St} {live σ:List Nat} {fr':List DV} {h':DH},(Dy P Γ ops (Oc ops) S ⟨[],[],[],[]⟩).map (XV live σ L)=some (fr',h',[],true) -> An P Γ F B L Y Q (EG K) ⟨fr',h'⟩ -> ∃ S' vs o0 o',Dy P Γ ops (Oc ops) S o0=some (S',vs,o')/\ BY vs/\ An P Γ F B L Y Q (EG K) S':=by
  intro S live σ fr' h' PZ hk;cases hr:Dy P Γ ops (Oc ops) S ⟨[],[],[],[]⟩ with
  | none=>rw [hr] at PZ;cases PZ
  | some r=>
   obtain ⟨S1,v1,o1⟩:=r;rw [hr] at PZ;simp only [zCA,XV,zCW,zDU] at PZ;obtain ⟨rfl,rfl,rfl,hs⟩:=PZ;exact ⟨S1,_,_,_,hr,trivial,BU.le (At.comp live σ S1 hs) hc hk⟩
 unfold OM at hK;split at hK
 ·rename_i id bC k';have e:=zAV hK;simp only [EG,zDU,and_true] at e;subst e;obtain ⟨As,o,q1,q2,q3,q4⟩:=xc CW;exact Tr.next (S:=⟨fr,h⟩) hX.f As q1 q2 (by unfold J2;rw [q3]) hx hm hj nf hi (fun e=>by rw [q4];exact go c0 (k0 e)) (fun y hy=>by rw [q4];exact go (c1 y) (k1 y hy))
 ·cases hK
end
abbrev zBj:=@Nat.lt_succ_iff_lt_or_eq
abbrev zCn:=@List.mem_cons_self
def Ai {R:Type}(f:Nat -> Option R)(Q:R -> Prop):Prop:=∃ N,∀ n,N<=n -> ∃ r,f n=some r/\ Q r
def Ev {R:Type}(f:Nat -> Option R)(r:R):Prop:=∃ N,∀ n,N<=n -> f n=some r
section
variable {R T:Type} {f g:Nat -> Option R} {Q Q':R -> Prop} {r:R}
theorem Ev.p (h:Ev f r)(hq:Q r):Ai f Q:=let ⟨N,h⟩:=h;⟨N,fun n hn=>⟨r,h n hn,hq⟩⟩
theorem Ai.ev (h:Ai f Q)(hu: ∀ r r',Q r -> Q r' -> r=r'): ∃ r,Q r/\ Ev f r:=by
 obtain ⟨N,h⟩:=h;obtain ⟨r,h1,h2⟩:=h N (zBl _);refine ⟨r,h2,N,fun n hn=>?_⟩;obtain ⟨r',h3,h4⟩:=h n hn;rw [h3,hu _ _ h4 h2]
theorem Ai.mono (h:Ai f Q)(hq: ∀ r,Q r -> Q' r):Ai f Q':=let ⟨N,h⟩:=h;⟨N,fun n hn=>let ⟨r,h1,h2⟩:=h n hn;⟨r,h1,hq r h2⟩⟩
theorem Ai.step (k:Nat)(h: ∀ n,f (n+k)=g n)(hg:Ai g Q):Ai f Q:=by
 obtain ⟨N,hg⟩:=hg;refine ⟨N+k,fun n hn=>?_⟩;have:=hg (n-k) (by omega);rw [←h,show n-k+k=n by omega] at this;exact this
theorem Ev.step (k:Nat)(h: ∀ n,f (n+k)=g n)(hg:Ev g r):Ev f r:=by
 obtain ⟨N,hg⟩:=hg;refine ⟨N+k,fun n hn=>?_⟩;have:=hg (n-k) (by omega)
 rwa [←h,show n-k+k=n by omega] at this
theorem Ev.now (h: ∀ n,f n=some r):Ev f r:=⟨0,fun n _=>h n⟩
theorem Ev.eq {f g:Nat -> Option R}(h:Ev g r)(e: ∀ n,f n=g n):Ev f r:=let ⟨N,h⟩:=h;⟨N,fun n hn=>(e n).trans (h n hn)⟩
theorem Ai.eq {f g:Nat -> Option R}(h:Ai g Q)(e: ∀ n,f n=g n):Ai f Q:=let ⟨N,h⟩:=h;⟨N,fun n hn=>by rw [e];exact h n hn⟩
theorem Ev.bind {a:Nat -> Option T}{x:T}{b:Nat -> T -> Option R}(ha:Ev a x)(hb:Ev (fun n=>b n x) r):Ev (fun n=>(a n).bind (b n)) r:=by
 obtain ⟨N,ha⟩:=ha;obtain ⟨M,hb⟩:=hb;refine ⟨max N M,fun n hn=>?_⟩
 show (a n).bind (b n)=_
 rw [ha n (by omega),zAB];exact hb n (by omega)
theorem Ai.bind {a:Nat -> Option T}{x:T}{b:Nat -> T -> Option R}(ha:Ev a x)(hb:Ai (fun n=>b n x) Q):Ai (fun n=>(a n).bind (b n)) Q:=by
 obtain ⟨N,ha⟩:=ha;obtain ⟨M,hb⟩:=hb;refine ⟨max N M,fun n hn=>?_⟩
 show ∃ r,(a n).bind (b n)=some r/\ _
 rw [ha n (by omega),zAB];exact hb n (by omega)
theorem Ai.all {l:List T}{F:T -> Nat -> Option R}(h: ∀ y∈l,Ai (F y) Q): ∃ N,∀ n,N<=n -> ∀ y∈l,∃ r,F y n=some r/\ Q r:=by
 induction l with
 | nil=>exact ⟨0,fun n _ y hy=>absurd hy zGG⟩
 | cons x l ih=>
  obtain ⟨N,hN⟩:=ih fun y hy=>h y (zCS _ hy)
  obtain ⟨M,hM⟩:=h x zCn;refine ⟨max N M,fun n hn y hy=>?_⟩;rcases zCC.1 hy with rfl | hy
  ·exact hM n (by omega)
  ·exact hN n (by omega) y hy
theorem Ai.range {F:Nat -> Nat -> Option R}{A:Nat -> R -> Prop}: ∀ (k:Nat),(∀ i,i<k -> Ai (F i) (A i)) -> ∃ N,∀ n,N<=n -> ∀ i,i<k -> ∃ r,F i n=some r/\ A i r
 | 0,_=>⟨0,fun n _ i hi=>absurd hi (zBk i)⟩
 | k+1,h=>by
  obtain ⟨N,hN⟩:=Ai.range k fun i hi=>h i (by omega)
  obtain ⟨M,hM⟩:=h k (by omega);refine ⟨max N M,fun n hn i hi=>?_⟩;rcases zBj.1 hi with hi | rfl
  ·exact hN n (by omega) i hi
  ·exact hM n (by omega)
theorem Ai.next [DecidableEq R] {rem:KS} {a:Nat -> Option R} {F:Nat -> List Int -> Option R} (hn:rem≠[]) (h: ∀ y∈rem,Ai (fun n=>F n y) Q) (hu: ∀ r r',Q r -> Q r' -> r=r'):Ai (fun n=>IV rem (a n) (F n)) Q:=by
 obtain ⟨N,hN⟩:=Ai.all h;refine ⟨N,fun n Kb=>?_⟩;obtain ⟨y0,zq⟩:=List.exists_mem_of_ne_nil rem hn;obtain ⟨r,h1,h2⟩:=hN n Kb y0 zq;refine ⟨r,xV hn fun y hy=>?_,h2⟩;obtain ⟨r',h3,h4⟩:=hN n Kb y hy;rw [hu _ _ h2 h4];exact h3
end
class HC (F:Fence):Prop where
 x:HX F Tryz.prog
 w:F=Fence.wide∨∃ l,F=Fence.wide.inRound l
instance:HC Fence.wide:=⟨⟨Dg.wide,by kernel_rfl⟩,.inl rfl⟩
instance (l:Nat):HC (Fence.wide.inRound l):=⟨⟨Dg.round l,by kernel_rfl⟩,.inr ⟨l,rfl⟩⟩
abbrev DV.i (x:Int):DV:=.int .i64 x
def AD:Bi:=fun _=>.no
def Fu:Nat -> List DV -> List Nat
 | _,[]=>[]
 | i,.any::r=>Fu (i+1) r
 | i,_::r=>i::Fu (i+1) r
section
variable {F:Fence} {B:Option Nat} {L:Nat} {Y N:BB Tryz.prog GG L} {Q:QY Tryz.prog GG L} {k k':List KI} {S:St} {fr:List DV} {h' h2:DH} {c:List (DV×DH×Bool)} {o:List (Nat×DV)} {z:List (Nat×Fz)} {v w:List Prop}
theorem gz [hX:HC F] (A1:Bi) (σ:List Nat) (hl:HS c o z v) (ks:List Nat) (hz:HS [] [] [] w) (k':List KI) (fr:List DV) (h':DH) (hk:An Tryz.prog GG F B L Y Q k' ⟨fr,h'⟩) (tg:List (List (Nat×Nat)×St):=[])
 (h:(B7 Tryz.prog GG A1 400 k S ⟨c,o,z,tg⟩).bind (Mi (Fu 0 fr) σ L ks)=some (.at k',fr,h',v,w,[],[],true):=by kernel_rfl) (hc:If k'=true:=by kernel_rfl):An Tryz.prog GG F B L Y Q k S:=
 BU.gS hX.x A1 400 (Fu 0 fr) σ tg hl ks hz k' fr h' h hc hk
theorem gs [hX:HC F] (A1:Bi) (σ:List Nat) (hl:HS c o z v) (k':List KI) (fr:List DV) (h':DH) (hk:An Tryz.prog GG F B L Y Q k' ⟨fr,h'⟩) (tg:List (List (Nat×Nat)×St):=[])
 (h:(B7 Tryz.prog GG A1 400 k S ⟨c,o,z,tg⟩).bind (Mi (Fu 0 fr) σ L [])=some (.at k',fr,h',v,[],[],[],true):=by kernel_rfl) (hc:If k'=true:=by kernel_rfl):An Tryz.prog GG F B L Y Q k S:=
 BU.gS hX.x A1 400 (Fu 0 fr) σ tg hl [] H0 k' fr h' h hc hk
theorem gg [hX:HC F] (A1:Bi) (σ:List Nat) (hl:HS c o z v) (hk:An Tryz.prog GG F B L Y Q k' ⟨fr,h'⟩) (tg:List (List (Nat×Nat)×St):=[])
 (h:(B7 Tryz.prog GG A1 400 k S ⟨c,o,z,tg⟩).bind (Mi (Fu 0 fr) σ L [])=some (.at k',fr,h',v,[],[],[],true):=by kernel_rfl) (hc:If k'=true:=by kernel_rfl):An Tryz.prog GG F B L Y Q k S:=
 BU.gS hX.x A1 400 (Fu 0 fr) σ tg hl [] H0 k' fr h' h hc hk
theorem el [hX:HC F] {fn:Func} {d:DV} (A1:Bi) (live σ:List Nat) (hl:HS c o z v) (ks:List Nat) (hz:HS [] [] [] w) (rs:List DV) (le:AL (Hs rs) d) (tg:List (List (Nat×Nat)×St):=[])
 (h:(B7 Tryz.prog GG A1 400 k S ⟨c,o,z,tg⟩).bind (KJ Tryz.prog live σ L ks fn d h2.length)=some (true,rs,h2,v,w,[],[],true):=by kernel_rfl):BU Tryz.prog GG F B L N (CZ Tryz.prog fn L d h2) k S:=
 BU.el hX.x A1 400 live σ tg hl ks hz rs le h
theorem ez [hX:HC F] {fn:Func} {d:DV} (A1:Bi) (live σ:List Nat) (hl:HS c o z v) (ks:List Nat) (hz:HS [] [] [] w) (tg:List (List (Nat×Nat)×St):=[])
 (h:(B7 Tryz.prog GG A1 400 k S ⟨c,o,z,tg⟩).bind (fun r=>(KJ Tryz.prog live σ L ks fn d h2.length r).map fun q=>(q.1,Hs q.2.1,q.2.2))=some (true,d,h2,v,w,[],[],true):=by kernel_rfl):BU Tryz.prog GG F B L N (CZ Tryz.prog fn L d h2) k S:=
 BU.e hX.x A1 400 live σ tg hl ks hz h
theorem ee [hX:HC F] {fn:Func} {d:DV} (A1:Bi) (live σ:List Nat) (hl:HS c o z v) (tg:List (List (Nat×Nat)×St):=[])
 (h:(B7 Tryz.prog GG A1 400 k S ⟨c,o,z,tg⟩).bind (fun r=>(KJ Tryz.prog live σ L [] fn d h2.length r).map fun q=>(q.1,Hs q.2.1,q.2.2))=some (true,d,h2,v,[],[],[],true):=by kernel_rfl):BU Tryz.prog GG F B L N (CZ Tryz.prog fn L d h2) k S:=
 BU.e hX.x A1 400 live σ tg hl [] H0 h
theorem rr [hX:HC F] {ex:List Exit} {i:Nat} {e:Exit} (A1:Bi) (σ:List Nat) (he:(Exit.normal::ex)[i]? =some e) (hl:HS c o z v) (tg:List (List (Nat×Nat)×St):=[])
 (h:(B7 Tryz.prog GG A1 400 k S ⟨c,o,z,tg⟩).map (az σ L)=some (some e,h2,v,[],[],[],true):=by kernel_rfl):BU Tryz.prog GG F B L N (Cf L ex i h2) k S:=
 BU.r hX.x A1 400 σ tg hl he h
theorem ag [hX:HC F] {Q:Exit -> St -> Prop} {assign body:Code} (A1:Bi) (σ:List Nat) (hl:HS c o z v) (fr:List DV) (h':DH) (hk: ∀ N2:BB Tryz.prog GG L,BU Tryz.prog GG F B L N2 Q [.code body] ⟨fr,h'⟩)
 (h:(B7 Tryz.prog GG A1 400 [.code assign] S ⟨c,o,z,[]⟩).map (T5 (Fu 0 fr) σ L)=some (.at [],fr,h',v,[],[],true):=by kernel_rfl):Gb Tryz.prog GG F B L N Q assign body S:=
 Gb.g hX.x A1 400 (Fu 0 fr) σ hl fr h' h hk
theorem rd {n m:Nat}(hm:n+1<=m)(h: ∀ m,n<=m -> An Tryz.prog GG F B L Y Q (gy m k) S)(hk:Oz k=true:=by kernel_rfl):An Tryz.prog GG F B L Y Q (Ax m k) S:=BU.round hm hk h
theorem en (m:Nat)(h:An Tryz.prog GG F B L Y Q (Ax m k) S)(hk:Oz k=true:=by kernel_rfl):An Tryz.prog GG F B L Y Q k S:=BU.enter m hk h
end
theorem em {f:Nat}{ds:List DV}{h:DH}{d:DV}{h':DH}{ext:Bool}(Ej:ES Tryz.prog GG f ds h d h' ext)(σ:List Nat)(H:DH)(hb:NV σ H.length h.length h'.length=true:=by kernel_rfl)(hh:(σ.map fun k=>H.getD k none)=h.map (DA σ H.length):=by kernel_rfl):ES Tryz.prog GG f (ds.map (up σ H.length)) H (up σ H.length d) (DD H σ h') ext:=ES.emC Ej σ H hb hh
theorem es {f:Nat}{ds:List DV}{h:DH}{d:DV}{h':DH}{ext:Bool}(Ej:ES Tryz.prog GG f ds h d h' ext)(σ:List Nat)(H:DH)(Ek:List DV)(ha:Xi H σ Ek ds)(hb:NV σ H.length h.length h'.length=true:=by kernel_rfl)(hh:(σ.map fun k=>H.getD k none)=h.map (DA σ H.length):=by kernel_rfl)(hs:(JD d&&h'.all TC)=true:=by kernel_rfl):ES Tryz.prog GG f Ek H (up σ H.length d) (DD H σ h') ext:=ES.embedSB Ej σ H ha hb hh hs
theorem fb {f:Nat}{ds:List DV}{d:DV}(h0:ES Tryz.prog GG f ds [] d [] true)(h:DH)(Ey:ds.all Fb=true:=by kernel_rfl):ES Tryz.prog GG f ds h d h true:=ES.frameB h0 h Ey
theorem sb {f:Nat}(ds:List DV){ET:List DV}{d:DV}(h0:ES Tryz.prog GG f ET [] d [] true)(h:DH)(hs:Nc h ds ET)(hd:Wh d=true:=by kernel_rfl):ES Tryz.prog GG f ds h d h true:=ES.snapB h0 h hs hd
theorem ot {f:Nat}{fn:Func}{ds:List DV}{h:DH}{d:DV}{h':DH}{ext:Bool}(hf:Tryz.prog.funcs[f]? =some fn)(H: ∀ (B:Nat) (N:BB Tryz.prog GG h.length),BU Tryz.prog GG Fence.wide (some B) h.length N (CZ Tryz.prog fn h.length d h') (start fn) ⟨ds++List.replicate (fn.ntmps-ds.length) .any,h⟩) 
 (hb:fn.body.isSome=true:=by kernel_rfl) (PP:(fn.name== "runtime.NumGoroutine")=false:=by kernel_rfl) (hni:h'.all UF=true:=by kernel_rfl) (Kf:(!ext||h.isEmpty)=true:=by kernel_rfl):ES Tryz.prog GG f ds h d h' ext:=
 ES.of_trk hf hb PP (Og hni) (fun e=>by subst e;simpa using Kf) H
section
variable {F:Fence} {B L:Nat} {Y:BB Tryz.prog GG L} {Q:QY Tryz.prog GG L} {fr:List DV} {h:DH} {K:List KI} {a b:Code} {α σ:Type} {l:List α} {H:σ -> DH} {FR:α -> List DV}
theorem rx [hX:HC F] (ex:List Exit) (kk t:Nat) (ps:Array Tmp) (enc:α -> List DV) (L':Nat) {f:α -> σ -> Option (σ×Nat)} {s0:σ} {rE:σ×Nat} (hf:CN f l s0=some rE)
 (C7: ∀ (l B:Nat) (N:BB Tryz.prog GG L') (x:α) (s:σ) (r:σ×Nat),f x s=some r -> Gb Tryz.prog GG (Fence.wide.inRound l) (some B) L' N (Cf L' ex r.2 (H r.1)) a b ⟨FR x,H s⟩)
 (Da: ∀ e,(Exit.normal::ex)[rE.2]? =some e -> A6 Tryz.prog GG F (some B) L Q (EG K) e ⟨fr,H rE.1⟩ Y) (Iq:(ex.all fun e=>(Jh e).isSome)=true:=by kernel_rfl)
 (hK:OK K=some (.tmp t,ps,a,b,EG K):=by kernel_rfl) (hg:AT fr (.tmp t)= .it kk:=by kernel_rfl) (hk:h[kk]? =some (some (.iter (l.map enc))):=by kernel_rfl) (Dw: ∀ x,(enc x).length=ps.size:=by exact fun _=>rfl) (hL:Nat.ble L L'=true:=by kernel_rfl) (HJ:fr.all (Ck L')=true:=by kernel_rfl) (h0:h.set kk none=H s0:=by kernel_rfl) (B3:(fun x=>IN fr ps.toList (enc x))=FR:=by kernel_rfl):An Tryz.prog GG F (some B) L Y Q K ⟨fr,h⟩:=
 BU.rg hX.w ex Iq kk t ps enc L' hf C7 hK hg hk Dw hL HJ h0 B3 Da
theorem r0 [hX:HC F] (kk t:Nat) (ps:Array Tmp) (enc:α -> List DV) (L':Nat) {f:α -> σ -> Option σ} {s0 sE:σ} (hf:B9 f l s0=some sE)
 (C7: ∀ (l B:Nat) (N:BB Tryz.prog GG L') (x:α) (s r:σ),f x s=some r -> Gb Tryz.prog GG (Fence.wide.inRound l) (some B) L' N (Cf L' [] 0 (H r)) a b ⟨FR x,H s⟩)
 (Da:An Tryz.prog GG F (some B) L Y Q (EG K) ⟨fr,H sE⟩)
 (hK:OK K=some (.tmp t,ps,a,b,EG K):=by kernel_rfl) (hg:AT fr (.tmp t)= .it kk:=by kernel_rfl) (hk:h[kk]? =some (some (.iter (l.map enc))):=by kernel_rfl) (Dw: ∀ x,(enc x).length=ps.size:=by exact fun _=>rfl) (hL:Nat.ble L L'=true:=by kernel_rfl) (HJ:fr.all (Ck L')=true:=by kernel_rfl) (h0:h.set kk none=H s0:=by kernel_rfl) (B3:(fun x=>IN fr ps.toList (enc x))=FR:=by kernel_rfl):An Tryz.prog GG F (some B) L Y Q K ⟨fr,h⟩:=
 BU.rg0 hX.w kk t ps enc L' hf C7 hK hg hk Dw hL HJ h0 B3 Da
end
abbrev Yd (L:Nat):=BB Tryz.prog GG L
abbrev EQ:=ES Tryz.prog GG
abbrev FQ:=CZ Tryz.prog
abbrev TW (B:Nat){L:Nat}(N:Yd L)(Q:Exit -> St -> Prop)(k:List KI)(S:St):Prop:=BU Tryz.prog GG Fence.wide (some B) L N Q k S
abbrev TA (l B:Nat){L:Nat}(N:Yd L)(Q:Exit -> St -> Prop)(fn:Func)(t:Nat)(S:St):Prop:=Gb Tryz.prog GG (Fence.wide.inRound l) (some B) L N Q (vt fn t) (OL fn t) S
abbrev Al {X R:Type}(m:Nat -> X -> Option R)(T:Nat -> R -> X -> Prop):Prop:=∀ n x r,m n x=some r -> T n r x
theorem ia {X R:Type}{m:Nat -> X -> Option R}{T:Nat -> R -> X -> Prop}(h0: ∀ x,m 0 x=none)(h: ∀ n,(∀ x r,m n x=some r -> T n r x) -> ∀ x r,m (n+1) x=some r -> T (n+1) r x):Al m T
 | 0,x,_,e=>by rw [h0 x] at e;cases e
 | n+1,x,r,e=>h n (ia h0 h n) x r e
/-A proof in iB shape of rZ was read off:rZ holds of each way on,iB hints gathered so Hh. -/
def Gt {R:Type}(T:R -> Prop)(c:List (DV×DH×Bool))(o:List (Nat×DV))(z:List (Nat×Fz))(v:List Prop)(A:Option R):Prop:=HS c o z v -> ∀ r,A=some r -> T r
section
variable {R R':Type} {T:R -> Prop} {c:List (DV×DH×Bool)} {o:List (Nat×DV)} {z:List (Nat×Fz)} {v:List Prop} {A A':Option R} {r0:R} {b b':Bool} {p q:Prop} {f:Nat} {ds:List DV} {h h':DH} {d d':DV} {e:Bool} {xi:Int}
theorem gO {F:Fence}{B:Option Nat}{L:Nat}{Y:Yd L}{Q:R -> QY Tryz.prog GG L}{k:List KI}{S:St}(t:Gt (fun r=>An Tryz.prog GG F B L Y (Q r) k S) [] [] [] [] A): ∀ r,A=some r -> An Tryz.prog GG F B L Y (Q r) k S:=t H0
theorem gT (t:Gt T [] [] [] [] A): ∀ r,A=some r -> T r:=t H0
theorem rO (t:Gt T [] [] [] [] A):Gt T c o z v A:=fun _=>t H0
theorem nO:Gt T c o z v none:=fun _ _ h=>by cases h
theorem lF (x:HS c o z v -> T r0):Gt T c o z v (some r0):=fun p _ h=>zAV h▸x p
theorem bn (x:b=true -> Gt T c o z v A)(y:b=false -> Gt T c o z v A'):Gt T c o z v (bif b then A else A'):=fun p r h=>(C8 h).elim (fun h=>x h.1 p r h.2) (fun h=>y h.1 p r h.2)
theorem bj (t:Nat)(x:b=true -> Gt T c (o++[(t,.bool true)]) z (v++[AL (.bool b) (.bool true)]) A)(y:b=false -> Gt T c (o++[(t,.bool false)]) z (v++[AL (.bool b) (.bool false)]) A'):Gt T c o z v (bif b then A else A'):=bn (fun h p=>x h (p.b t h)) (fun h p=>y h (p.b t h))
theorem bi (t:Nat)(x:Gt T c (o++[(t,.bool true)]) z (v++[AL (.bool b) (.bool true)]) A)(y:Gt T c (o++[(t,.bool false)]) z (v++[AL (.bool b) (.bool false)]) A'):Gt T c o z v (bif b then A else A'):=bj t (fun _=>x) (fun _=>y)
theorem gn {_:Decidable p}(x:p -> Gt T c o z v A):Gt T c o z v (if p then A else none):=fun w r h=>x (C1 h).1 w r (C1 h).2
theorem gi {_:Decidable p}(x:Gt T c o z (v++[p]) A):Gt T c o z v (if p then A else none):=gn fun g w=>x (w.g g)
theorem gc {_:Decidable p}{_:Decidable q}(x:Gt T c o z v (if p then (if q then A else none) else none)):Gt T c o z v (if p/\ q then A else none):=fun w r h=>x w r (by obtain ⟨⟨hp,hq⟩,h⟩:=C1 h;rw [zAA hp,zAA hq];exact h)
theorem gw {_:Decidable (AH xi)}(t:Nat)(x:Gt T c (o++[(t,.int .i64 xi)]) z (v++[AL (.int .i64 (IntKind.i64.wrap xi)) (.int .i64 xi)]) A):Gt T c o z v (if AH xi then A else none):=gn fun g w=>x (w.w t g)
theorem cn {F:Option R'}{A:R' -> Option R}(x: ∀ y,F=some y -> Gt T c o z v (A y)):Gt T c o z v (F.bind A):=fun w r h=>let ⟨y,hy,h⟩:=GA h;x y hy w r h
theorem cf {F:Option R'}{A:R' -> Option R}{d:R' -> DV}(k: ∀ {y},F=some y -> ES Tryz.prog GG f ds [] (d y) [] true)(h:DH)(x: ∀ y,Gt T (c++[(d y,h,true)]) o z (v++[ES Tryz.prog GG f ds h (d y) h true]) (A y))(Ey:ds.all Fb=true:=by kernel_rfl):Gt T c o z v (F.bind A):=cn fun y hy w=>x y (w.c (fb (k hy) h Ey))
theorem ce {F:Option R'}{A:R' -> Option R}{d:R' -> DV}{h':R' -> DH}(k: ∀ {y},F=some y -> ES Tryz.prog GG f ds h (d y) (h' y) e)(σ:List Nat)(H:DH)(x: ∀ y,Gt T (c++[(up σ H.length (d y),DD H σ (h' y),e)]) o z (v++[ES Tryz.prog GG f (ds.map (up σ H.length)) H (up σ H.length (d y)) (DD H σ (h' y)) e]) (A y))(hb: ∀ y,NV σ H.length h.length (h' y).length=true:=by intro;kernel_rfl)(hh:(σ.map fun k=>H.getD k none)=h.map (DA σ H.length):=by kernel_rfl):Gt T c o z v (F.bind A):=cn fun y hy w=>x y (w.c (em (k hy) σ H (hb y) hh))
theorem jb (t:Nat)(g:b=b')(x:Gt T c (o++[(t,.bool b')]) z (v++[AL (.bool b) (.bool b')]) A):Gt T c o z v A:=fun w=>x (w.b t g)
theorem jw (t:Nat)(g:AH xi)(x:Gt T c (o++[(t,.int .i64 xi)]) z (v++[AL (.int .i64 (IntKind.i64.wrap xi)) (.int .i64 xi)]) A):Gt T c o z v A:=fun w=>x (w.w t g)
theorem jg (g:p)(x:Gt T c o z (v++[p]) A):Gt T c o z v A:=fun w=>x (w.g g)
theorem jt (x:Gt T c o z (v++[True]) A):Gt T c o z v A:=fun w=>x w.t
theorem jo (t:Nat)(g:AL d d')(x:Gt T c (o++[(t,d')]) z (v++[AL d d']) A):Gt T c o z v A:=fun w=>x (w.o t g)
theorem jc (g:ES Tryz.prog GG f ds h d h' e)(x:Gt T (c++[(d,h',e)]) o z (v++[ES Tryz.prog GG f ds h d h' e]) A):Gt T c o z v A:=fun w=>x (w.c g)
theorem ja (t k m:Nat){n n':Nat}{f f':Nat -> Nat -> DV}(g:n=n'/\ ∀ i j,i<n -> j<m -> AL (f i j) (f' i j))(x:Gt T c o (z++[(t,.arr k n' f')]) (v++[n=n'/\ ∀ i j,i<n -> j<m -> AL (f i j) (f' i j)]) A):Gt T c o z v A:=fun w=>x (w.a t k m g)
theorem jz (t k:Nat)(x:Gt T c o (z++[(t,.frz k)]) v A):Gt T c o z v A:=fun w=>x (w.z t k)
theorem ju (t k:Nat)(x:Gt T c o (z++[(t,.unf k)]) v A):Gt T c o z v A:=fun w=>x (w.u t k)
end
section
variable {R:Type} {c:List (DV×DH×Bool)} {o:List (Nat×DV)} {z:List (Nat×Fz)} {v:List Prop} {A:Option R} {r0:R} {F:Fence} {B:Option Nat} {L:Nat} {Y N:BB Tryz.prog GG L} {k k':List KI} {S:St} {fr:List DV} {h':DH}
theorem lG [hX:HC F] (A1:Bi) (σ:List Nat) {Q:R -> QY Tryz.prog GG L} (hk: ∀ {r},A=some r -> An Tryz.prog GG F B L Y (Q r) k' ⟨fr,h'⟩) (tg:List (List (Nat×Nat)×St):=[])
 (h:(B7 Tryz.prog GG A1 400 k S ⟨c,o,z,tg⟩).bind (Mi (Fu 0 fr) σ L [])=some (.at k',fr,h',v,[],[],[],true):=by kernel_rfl) (hc:If k'=true:=by kernel_rfl):Gt (fun r=>An Tryz.prog GG F B L Y (Q r) k S) c o z v A:=
 fun p _ e=>gg A1 σ p (hk e) tg h hc
theorem lN [hX:HC F] {m:Nat} (A1:Bi) (σ:List Nat) {Q:R -> QY Tryz.prog GG L} (hk: ∀ {r},A=some r -> An Tryz.prog GG F B L Y (Q r) (Ax m k') ⟨fr,h'⟩) (tg:List (List (Nat×Nat)×St):=[])
 (h:(B7 Tryz.prog GG A1 400 k S ⟨c,o,z,tg⟩).bind (Mi (Fu 0 fr) σ L [])=some (.at k',fr,h',v,[],[],[],true):=by kernel_rfl) (hc:If k'=true:=by kernel_rfl) (hm:Oz k'=true:=by kernel_rfl):Gt (fun r=>An Tryz.prog GG F B L Y (Q r) k S) c o z v A:=
 lG A1 σ (fun e=>en m (hk e) hm) tg h hc
theorem lE [hX:HC F] {fn:Func} {D:R -> DV} {E:R -> DH} (A1:Bi) (live σ:List Nat) (tg:List (List (Nat×Nat)×St):=[])
 (h:(B7 Tryz.prog GG A1 400 k S ⟨c,o,z,tg⟩).bind (fun r=>(KJ Tryz.prog live σ L [] fn (D r0) (E r0).length r).map fun q=>(q.1,Hs q.2.1,q.2.2))=some (true,D r0,E r0,v,[],[],[],true):=by kernel_rfl):Gt (fun r=>BU Tryz.prog GG F B L N (CZ Tryz.prog fn L (D r) (E r)) k S) c o z v (some r0):=
 lF fun p=>ee A1 live σ p tg h
end
abbrev zCz:=@Nat.le_of_succ_le
set_option maxRecDepth 100000
set_option maxHeartbeats 40000000
theorem uD:Az (A4 Tryz.f20 6) [] (List.range 9) []:=by unfold Az;kernel_rfl
def TJ:Bi:=fun i=>match i with
 | 6=>.ord [] (List.range 9) []
 | _=>.no
inductive Wj where
 | l1 (x5:Int)
def TN (n:Nat)(self:Wj -> Option Bool)(a b_:List Int)(x5:Int):Option Bool:= bif (decide (x5<(a.length:Int))) then if (0<=x5/\ x5<(a.length:Int))/\ (0<=x5/\ x5<(b_.length:Int)) then bif ((a.getD ((x5).toNat) 0) != (b_.getD ((x5).toNat) 0)) then some false else if AH (x5+1) then self (.l1 (x5+1)) else none else none else some true
def js (n:Nat)(self:Wj -> Option Bool)(a b_:List Int):Option Bool:= bif ((a.length:Int) != (b_.length:Int)) then some false else self (.l1 0)
def QZ (a b_:List Int):Nat -> Wj -> Option Bool
 | 0,_=>none
 | n+1,.l1 x5=>TN n (QZ a b_ n) a b_ x5
def same (n:Nat)(a b_:List Int):Option Bool:=js n (QZ a b_ n) a b_
def tj (n B:Nat)(N:Yd 0)(a b_:List Int)(r:Bool):Wj -> Prop
 | .l1 x5=>∀ m0:Nat,n<=m0 -> TW B N (FQ Tryz.f20 0 (.bool r) []) (Ax m0 (A7 (AY Tryz.f20) 0 [])) ⟨AF 26 [(0,.ints a),(1,.ints b_),(5,.i x5)],[]⟩
theorem tk (B:Nat)(N:Yd 0)(a b_:List Int):Al (QZ a b_) (tj · B N a b_):=ia (fun _=>rfl) fun n AJ pt r h=>by
 cases pt
 case l1 x5=>
  intro m0 AC;refine rd AC fun m0 AC=>?_
  revert r;apply gO;exact bi 14 (jg uD (gc (gi (gi (bi 25 (lE TJ [4] []) (gw 16 (lG TJ [] (AJ _ _ · m0 AC)))))))) (lE TJ [4] [])
theorem te {n:Nat}{a b_:List Int}{r:Bool}(h:same n a b_=some r):EQ 20 [.ints a,.ints b_] [] (.bool r) [] true:=by
 refine ot Tryz.func20 fun B N=>?_
 revert r;apply gO;exact bi 10 (lE TJ [4] []) (lN TJ [] ((tk B N a b_ n) _ _ · n Nat.le.refl))
inductive X5 where
 | l1 (x8:Int)
def cC (n:Nat)(self:X5 -> Option Int)(s_:List Int)(v:Int)(x8:Int):Option Int:= bif (decide (x8<(s_.length:Int))) then if 0<=x8/\ x8<(s_.length:Int) then bif (v==(s_.getD ((x8).toNat) 0)) then some x8 else if AH (x8+1) then self (.l1 (x8+1)) else none else none else some (-1)
def m7 (n:Nat)(self:X5 -> Option Int)(s_:List Int)(v:Int):Option Int:= self (.l1 0)
def O4 (s_:List Int)(v:Int):Nat -> X5 -> Option Int
 | 0,_=>none
 | n+1,.l1 x8=>cC n (O4 s_ v n) s_ v x8
def X6 (n:Nat)(s_:List Int)(v:Int):Option Int:=m7 n (O4 s_ v n) s_ v
def zc (n B:Nat)(N:Yd 0)(s_:List Int)(v:Int)(r:Int):X5 -> Prop
 | .l1 x8=>∀ m0:Nat,n<=m0 -> TW B N (FQ Tryz.f96 0 (.i r) []) (Ax m0 (A7 (AY Tryz.f96) 0 [])) ⟨AF 19 [(0,.ints s_),(1,.i v),(7,.i (s_.length:Int)),(8,.i x8)],[]⟩
theorem zd (B:Nat)(N:Yd 0)(s_:List Int)(v:Int):Al (O4 s_ v) (zc · B N s_ v):=ia (fun _=>rfl) fun n AJ pt r h=>by
 cases pt
 case l1 x8=>
  intro m0 AC;refine rd AC fun m0 AC=>?_
  revert r;apply gO;exact bi 9 (gi (bi 16 (lE AD [4] []) (gw 18 (lG AD [] (AJ _ _ · m0 AC))))) (lE AD [4] [])
theorem zb {n:Nat}{s_:List Int}{v:Int}{r:Int}(h:X6 n s_ v=some r):EQ 96 [.ints s_,.i v] [] (.i r) [] true:=by
 refine ot Tryz.func96 fun B N=>?_
 revert r;apply gO;exact lN AD [] ((zd B N s_ v n) _ _ · n Nat.le.refl)
inductive X9 where
 | l1 (x8:Int)
def UX (n:Nat)(self:X9 -> Option Int)(s_:List Bool)(v:Bool)(x8:Int):Option Int:= bif (decide (x8<(s_.length:Int))) then if 0<=x8/\ x8<(s_.length:Int) then bif (v==(s_.getD ((x8).toNat) false)) then some x8 else if AH (x8+1) then self (.l1 (x8+1)) else none else none else some (-1)
def zi (n:Nat)(self:X9 -> Option Int)(s_:List Bool)(v:Bool):Option Int:= self (.l1 0)
def LV (s_:List Bool)(v:Bool):Nat -> X9 -> Option Int
 | 0,_=>none
 | n+1,.l1 x8=>UX n (LV s_ v n) s_ v x8
def YA (n:Nat)(s_:List Bool)(v:Bool):Option Int:=zi n (LV s_ v n) s_ v
def zj (n B:Nat)(N:Yd 0)(s_:List Bool)(v:Bool)(r:Int):X9 -> Prop
 | .l1 x8=>∀ m0:Nat,n<=m0 -> TW B N (FQ Tryz.f136 0 (.i r) []) (Ax m0 (A7 (AY Tryz.f136) 0 [])) ⟨AF 19 [(0,.bools s_),(1,.bool v),(7,.i (s_.length:Int)),(8,.i x8)],[]⟩
theorem zk (B:Nat)(N:Yd 0)(s_:List Bool)(v:Bool):Al (LV s_ v) (zj · B N s_ v):=ia (fun _=>rfl) fun n AJ pt r h=>by
 cases pt
 case l1 x8=>
  intro m0 AC;refine rd AC fun m0 AC=>?_
  revert r;apply gO;exact bi 9 (gi (bi 16 (lE AD [4] []) (gw 18 (lG AD [] (AJ _ _ · m0 AC))))) (lE AD [4] [])
theorem zh {n:Nat}{s_:List Bool}{v:Bool}{r:Int}(h:YA n s_ v=some r):EQ 136 [.bools s_,.bool v] [] (.i r) [] true:=by
 refine ot Tryz.func136 fun B N=>?_
 revert r;apply gO;exact lN AD [] ((zk B N s_ v n) _ _ · n Nat.le.refl)
def fF (n:Nat)(s_:List Int)(v:Int):Option Bool:= (X6 n s_ v).bind fun y1=> some (decide (y1>=0))
def NY (n:Nat)(s_:List Int)(v:Int):Option Bool:=fF n s_ v
theorem ph {n:Nat}{s_:List Int}{v:Int}{r:Bool}(h:NY n s_ v=some r):EQ 78 [.ints s_,.i v] [] (.bool r) [] true:=by
 unfold NY fF at h;refine ot Tryz.func78 fun B N=>?_
 revert r;apply gO;exact cf zb [] fun _=>lE AD [4] []
theorem ur:Az (A4 Tryz.f84 6) [] (List.range 9) []:=by unfold Az;kernel_rfl
def TL:Bi:=fun i=>match i with
 | 6=>.ord [] (List.range 9) []
 | _=>.no
inductive Yz where
 | l1 (x13:Int)
def VN (n:Nat)(self:Yz -> Option Bool)(Es FJ:List Int)(x13:Int):Option Bool:= bif (decide (x13<(Es.length:Int))) then if (0<=x13/\ x13<(Es.length:Int))/\ (0<=x13/\ x13<(FJ.length:Int)) then bif ((Es.getD ((x13).toNat) 0) != (FJ.getD ((x13).toNat) 0)) then some false else if AH (x13+1) then self (.l1 (x13+1)) else none else none else some true
def pL (n:Nat)(self:Yz -> Option Bool)(Es FJ:List Int):Option Bool:= bif ((Es.length:Int) != (FJ.length:Int)) then some false else self (.l1 0)
def Rn (Es FJ:List Int):Nat -> Yz -> Option Bool
 | 0,_=>none
 | n+1,.l1 x13=>VN n (Rn Es FJ n) Es FJ x13
def VO (n:Nat)(Es FJ:List Int):Option Bool:=pL n (Rn Es FJ n) Es FJ
def zDZ (n B:Nat)(N:Yd 0)(Es FJ:List Int)(r:Bool):Yz -> Prop
 | .l1 x13=>∀ m0:Nat,n<=m0 -> TW B N (FQ Tryz.f84 0 (.bool r) []) (Ax m0 (A7 (AY Tryz.f84) 0 [])) ⟨AF 26 [(0,.ints Es),(1,.ints FJ),(12,.i (Es.length:Int)),(13,.i x13)],[]⟩
theorem zDa (B:Nat)(N:Yd 0)(Es FJ:List Int):Al (Rn Es FJ) (zDZ · B N Es FJ):=ia (fun _=>rfl) fun n AJ pt r h=>by
 cases pt
 case l1 x13=>
  intro m0 AC;refine rd AC fun m0 AC=>?_
  revert r;apply gO;exact bi 14 (jg ur (gc (gi (gi (bi 24 (lE TL [4] []) (gw 25 (lG TL [] (AJ _ _ · m0 AC)))))))) (lE TL [4] [])
theorem zDX {n:Nat}{Es FJ:List Int}{r:Bool}(h:VO n Es FJ=some r):EQ 84 [.ints Es,.ints FJ] [] (.bool r) [] true:=by
 refine ot Tryz.func84 fun B N=>?_
 revert r;apply gO;exact bi 10 (lE TL [4] []) (lN TL [] ((zDa B N Es FJ n) _ _ · n Nat.le.refl))
inductive Re where
 | l1 (BX:Int)
 | l2 (x3:Int) (x4:List Int) (BX:Int) (BD:List Int) (Ks DF:Int)
def eJ (n:Nat)(self:Re -> Option Int)(g_:List (List Int))(BX:Int):Option Int:= bif (decide (BX<(g_.length:Int))) then if 0<=BX/\ BX<(g_.length:Int) then self (.l2 BX (g_.getD ((BX).toNat) []) BX (g_.getD ((BX).toNat) []) (((g_.getD ((BX).toNat) []).length:Nat):Int) 0) else none else some 0
def Yk (n:Nat)(self:Re -> Option Int)(g_:List (List Int))(x3:Int)(x4:List Int)(BX:Int)(BD:List Int)(Ks DF:Int):Option Int:= bif (decide (DF<Ks)) then if 0<=DF/\ DF<(BD.length:Int) then bif (decide ((BD.getD ((DF).toNat) 0)<0)) then some 120 else bif (decide ((BD.getD ((DF).toNat) 0)>=(g_.length:Int))) then some 120 else bif ((BD.getD ((DF).toNat) 0)==x3) then some 120 else bif (decide (DF>0)) then if AH (DF-1)/\ (0<=(DF-1)/\ (DF-1)<(x4.length:Int)) then bif (decide ((x4.getD (((DF-1)).toNat) 0)>=(BD.getD ((DF).toNat) 0))) then some 120 else if 0<=(BD.getD ((DF).toNat) 0)/\ (BD.getD ((DF).toNat) 0)<(g_.length:Int) then (NY n (g_.getD ((BD.getD ((DF).toNat) 0).toNat) []) x3).bind fun y1=> bif (!y1) then some 120 else if AH (DF+1) then self (.l2 x3 x4 BX BD Ks (DF+1)) else none else none else none else if 0<=(BD.getD ((DF).toNat) 0)/\ (BD.getD ((DF).toNat) 0)<(g_.length:Int) then (NY n (g_.getD ((BD.getD ((DF).toNat) 0).toNat) []) x3).bind fun y1=> bif (!y1) then some 120 else if AH (DF+1) then self (.l2 x3 x4 BX BD Ks (DF+1)) else none else none else none else if AH (BX+1) then self (.l1 (BX+1)) else none
def oc (n:Nat)(self:Re -> Option Int)(g_:List (List Int)):Option Int:= bif (decide ((g_.length:Int)>256)) then some 120 else self (.l1 0)
def Je (g_:List (List Int)):Nat -> Re -> Option Int
 | 0,_=>none
 | n+1,.l1 BX=>eJ n (Je g_ n) g_ BX
 | n+1,.l2 x3 x4 BX BD Ks DF=>Yk n (Je g_ n) g_ x3 x4 BX BD Ks DF
def VB (n:Nat)(g_:List (List Int)):Option Int:=oc n (Je g_ n) g_
def zCv (n B:Nat)(N:Yd 0)(g_:List (List Int))(r:Int):Re -> Prop
 | .l1 BX=>∀ m0:Nat,n<=m0 -> TW B N (FQ Tryz.f44 0 (.i r) []) (Ax m0 (A7 (AY Tryz.f44) 0 [])) ⟨AF 61 [(0,.sl 1 g_.length (AO Ac g_)),(10,.sl 1 g_.length (AO Ac g_)),(11,.i (g_.length:Int)),(12,.i BX)],[]⟩
 | .l2 x3 x4 BX BD Ks DF=>∀ m0 m1:Nat,n<=m0 -> n<=m1 -> TW B N (FQ Tryz.f44 0 (.i r) []) (Ax m1 (A7 (AY Tryz.f44) 2 [m0])) ⟨AF 61 [(0,.sl 1 g_.length (AO Ac g_)),(3,.i x3),(4,.ints x4),(10,.sl 1 g_.length (AO Ac g_)),(11,.i (g_.length:Int)),(12,.i BX),(17,.ints BD),(18,.i Ks),(19,.i DF)],[]⟩
theorem zCw (B:Nat)(N:Yd 0)(g_:List (List Int)):Al (Je g_) (zCv · B N g_):=ia (fun _=>rfl) fun n AJ pt r h=>by
 cases pt
 case l1 BX=>
  intro m0 AC;refine rd AC fun m0 AC=>?_
  revert r;apply gO;exact bi 13 (gi (lN AD [] (AJ _ _ · m0 n AC Nat.le.refl))) (lE AD [2] [])
 case l2 x3 x4 BX BD Ks DF=>
  intro m0 m1 AC Ar;have AC:=zCz AC;refine rd Ar fun m1 Ar=>?_
  revert r;apply gO;exact bi 20 (gi (bi 25 (lE AD [2] []) (bi 30 (lE AD [2] []) (bi 35 (lE AD [2] []) (bi 39 (gc (gw 43 (gi (bi 47 (lE AD [2] []) (gi (cf ph [] fun _=>bi 57 (lE AD [2] []) (gw 59 (lG AD [] (AJ _ _ · m0 m1 AC Ar))))))))) (gi (cf ph [] fun _=>bi 57 (lE AD [2] []) (gw 59 (lG AD [] (AJ _ _ · m0 m1 AC Ar)))))))))) (gw 60 (lG AD [] (AJ _ _ · m0 AC)))
theorem oa {n:Nat}{g_:List (List Int)}{r:Int}(h:VB n g_=some r):EQ 44 [.sl 1 g_.length (AO Ac g_)] [] (.i r) [] true:=by
 refine ot Tryz.func44 fun B N=>?_
 revert r;apply gO;exact bi 9 (lE AD [2] []) (lN AD [] ((zCw B N g_ n) _ _ · n Nat.le.refl))
end Go.Proofs.YtodinaconebmdaaGreatDoor
namespace Go.Proofs.YtodinaconebmdaaGreatDoor
open Go.RowKit
set_option maxRecDepth 100000
set_option maxHeartbeats 40000000
def ga (n:Nat)(v lo hi:Int):Option Bool:= bif (decide (v<lo)) then some true else some (decide (v>hi))
def Zl (n:Nat)(v lo hi:Int):Option Bool:=ga n v lo hi
theorem rY {n:Nat}{v lo hi:Int}{r:Bool}(h:Zl n v lo hi=some r):EQ 77 [.i v,.fp 1 (L1 [.i lo]),.fp 1 (L1 [.i hi])] [] (.bool r) [] true:=by
 refine ot Tryz.func77 fun B N=>?_
 revert r;apply gO;exact bi 7 (lE AD [4] []) (lE AD [4] [])
inductive X2 where
 | l1 (x8:Int)
def cA (n:Nat)(self:X2 -> Option Int)(l:List Int)(lo hi:Int)(x8:Int):Option Int:= bif (decide (x8<(l.length:Int))) then if 0<=x8/\ x8<(l.length:Int) then (Zl n (l.getD ((x8).toNat) 0) lo hi).bind fun y1=> bif y1 then some x8 else if AH (x8+1) then self (.l1 (x8+1)) else none else none else some (-1)
def m5 (n:Nat)(self:X2 -> Option Int)(l:List Int)(lo hi:Int):Option Int:= self (.l1 0)
def O1 (l:List Int)(lo hi:Int):Nat -> X2 -> Option Int
 | 0,_=>none
 | n+1,.l1 x8=>cA n (O1 l lo hi n) l lo hi x8
def X4 (n:Nat)(l:List Int)(lo hi:Int):Option Int:=m5 n (O1 l lo hi n) l lo hi
def zV (n B:Nat)(N:Yd 0)(l:List Int)(lo hi:Int)(r:Int):X2 -> Prop
 | .l1 x8=>∀ m0:Nat,n<=m0 -> TW B N (FQ Tryz.f85 0 (.i r) []) (Ax m0 (A7 (AY Tryz.f85) 0 [])) ⟨AF 19 [(0,.ints l),(1,.fn 77 2 (L1 [.fp 1 (L1 [.i lo]),.fp 1 (L1 [.i hi])])),(7,.i (l.length:Int)),(8,.i x8)],[]⟩
theorem zW (B:Nat)(N:Yd 0)(l:List Int)(lo hi:Int):Al (O1 l lo hi) (zV · B N l lo hi):=ia (fun _=>rfl) fun n AJ pt r h=>by
 cases pt
 case l1 x8=>
  intro m0 AC;refine rd AC fun m0 AC=>?_
  revert r;apply gO;exact bi 9 (gi (cf rY [] fun _=>bi 16 (lE AD [4] []) (gw 18 (lG AD [] (AJ _ _ · m0 AC))))) (lE AD [4] [])
theorem zT {n:Nat}{l:List Int}{lo hi:Int}{r:Int}(h:X4 n l lo hi=some r):EQ 85 [.ints l,.fn 77 2 (L1 [.fp 1 (L1 [.i lo]),.fp 1 (L1 [.i hi])])] [] (.i r) [] true:=by
 refine ot Tryz.func85 fun B N=>?_
 revert r;apply gO;exact lN AD [] ((zW B N l lo hi n) _ _ · n Nat.le.refl)
def fE (n:Nat)(l:List Int)(lo hi:Int):Option Bool:= (X4 n l lo hi).bind fun y1=> some (decide (y1>=0))
def Y8 (n:Nat)(l:List Int)(lo hi:Int):Option Bool:=fE n l lo hi
theorem zD2 {n:Nat}{l:List Int}{lo hi:Int}{r:Bool}(h:Y8 n l lo hi=some r):EQ 76 [.ints l,.fn 77 2 (L1 [.fp 1 (L1 [.i lo]),.fp 1 (L1 [.i hi])])] [] (.bool r) [] true:=by
 unfold Y8 fE at h;refine ot Tryz.func76 fun B N=>?_
 revert r;apply gO;exact cf zT [] fun _=>lE AD [4] []
def ac (n:Nat)(l_:List Int)(lo hi:Int):Option Bool:= (Y8 n l_ lo hi).bind fun y1=> some (!y1)
def Mf (n:Nat)(l_:List Int)(lo hi:Int):Option Bool:=ac n l_ lo hi
theorem W6 {n:Nat}{l_:List Int}{lo hi:Int}{r:Bool}(h:Mf n l_ lo hi=some r):EQ 43 [.ints l_,.i lo,.i hi] [] (.bool r) [] true:=by
 unfold Mf ac at h;refine ot Tryz.func43 fun B N=>?_
 revert r;apply gO;exact cn fun y1 Au=>jc (sb [.ints l_,.fn 77 2 (L1 [.ref 0 0,.ref 1 0])] (zD2 Au) [oC [.i lo],oC [.i hi]] ⟨Aq.plain (by kernel_rfl),(Aq.fnL (l:=[.ref 0 0,.ref 1 0]) (l0:=[.fp 1 (L1 [.i lo]),.fp 1 (L1 [.i hi])]) ⟨(Aq.refL (l:=[.i lo]) (l0:=[.i lo]) rfl ⟨Aq.plain (by kernel_rfl),trivial⟩),(Aq.refL (l:=[.i hi]) (l0:=[.i hi]) rfl ⟨Aq.plain (by kernel_rfl),trivial⟩),trivial⟩),trivial⟩) (lE AD [6] [])
theorem uo:Az (A4 Tryz.f47 24) [([0,1,2,3,5,6,7,8],4),([],9),([10,11,12,13,14],15),([],16),([17,18,19,20,21,22,23,24,25,26],27)] [28,29] []:=by unfold Az;kernel_rfl
def Dt:Bi:=fun i=>match i with
 | 24=>.ord [([0,1,2,3,5,6,7,8],4),([],9),([10,11,12,13,14],15),([],16),([17,18,19,20,21,22,23,24,25,26],27)] [28,29] []
 | _=>.no
def na (q:AA)(c_:AB):DH:=[oC (AG q),oC (CO c_),oI ([c_.set,c_.other]:List Int),oI ([c_.lo,c_.hi]:List Int)]
inductive NM where
 | l1 (BN:Int) (o2:List Bool)
 | l2
def VI (n:Nat)(self:NM -> Option Bool)(q:AA)(c_:AB)(BN:Int)(o2:List Bool):Option Bool:= bif (decide (BN<(c_.cells.length:Int))) then if 0<=BN/\ BN<(c_.cells.length:Int) then bif (decide ((c_.cells.getD ((BN).toNat) 0)<0)) then some false else bif (decide ((c_.cells.getD ((BN).toNat) 0)>=q.cells)) then some false else if (0<=(c_.cells.getD ((BN).toNat) 0)/\ (c_.cells.getD ((BN).toNat) 0)<((256:Nat):Int))/\ 0+((c_.cells.getD ((BN).toNat) 0).toNat)<o2.length then bif (o2.getD (0+((c_.cells.getD ((BN).toNat) 0).toNat)) false) then some false else bif (decide (c_.kind>=8)) then bif ((c_.cells.getD ((BN).toNat) 0) != BN) then some false else if AH (BN+1) then self (.l1 (BN+1) (o2.set (0+((c_.cells.getD ((BN).toNat) 0).toNat)) true)) else none else if AH (BN+1) then self (.l1 (BN+1) (o2.set (0+((c_.cells.getD ((BN).toNat) 0).toNat)) true)) else none else none else none else bif (c_.kind==1) then self (.l2) else bif (c_.kind==2) then self (.l2) else bif (c_.kind==3) then self (.l2) else bif (c_.kind==4) then self (.l2) else bif (c_.kind==5) then self (.l2) else bif (c_.kind==6) then bif ((c_.cells.length:Int) != 2) then some false else self (.l2) else bif (c_.kind==7) then bif ((c_.cells.length:Int) != 2) then some false else self (.l2) else bif (c_.kind==8) then bif ((c_.cells.length:Int) != q.cells) then some false else self (.l2) else bif (c_.kind==9) then bif ((c_.cells.length:Int) != q.cells) then some false else self (.l2) else some false
def Yt (n:Nat)(self:NM -> Option Bool)(q:AA)(c_:AB):Option Bool:= if (0<=q.symbols/\ q.symbols<=(IntKind.i64.bits:Int))/\ AH ((IntKind.i64.wrap (1*2 ^ (q.symbols).toNat))-1) then (Mf n ([c_.set,c_.other]:List Int) 0 ((IntKind.i64.wrap (1*2 ^ (q.symbols).toNat))-1)).bind fun y1=> bif y1 then (Mf n ([c_.lo,c_.hi]:List Int) 0 65536).bind fun y2=> bif y2 then bif (decide ((c_.runs.length:Int)<=8)) then (Mf n c_.runs 1 256).bind fun y3=> some y3 else some false else some false else some false else none
def pC (n:Nat)(self:NM -> Option Bool)(q:AA)(c_:AB):Option Bool:= self (.l1 0 (List.replicate 256 false))
def Rk (q:AA)(c_:AB):Nat -> NM -> Option Bool
 | 0,_=>none
 | n+1,.l1 BN o2=>VI n (Rk q c_ n) q c_ BN o2
 | n+1,.l2=>Yt n (Rk q c_ n) q c_
def Yu (n:Nat)(q:AA)(c_:AB):Option Bool:=pC n (Rk q c_ n) q c_
def zDD (n B:Nat)(N:Yd 0)(q:AA)(c_:AB)(r:Bool):NM -> Prop
 | .l1 BN o2=>∀ m0:Nat,n<=m0 -> TW B N (FQ Tryz.f47 0 (.bool r) []) (Ax m0 (A7 (AY Tryz.f47) 0 [])) ⟨AF 95 [(2,.ref 0 0),(3,.ref 1 0),(5,.mp 2 1 0 0),(9,.ints c_.cells),(10,.i (c_.cells.length:Int)),(11,.i BN)],[oC (AG q),oC (CO c_),some (.bools o2)]⟩
 | .l2=>TW B N (FQ Tryz.f47 0 (.bool r) []) (EU (AY Tryz.f47) 24 []) ⟨AF 95 [(2,.ref 0 0),(3,.ref 1 0)],[oC (AG q),oC (CO c_)]⟩
theorem zDE (B:Nat)(N:Yd 0)(q:AA)(c_:AB):Al (Rk q c_) (zDD · B N q c_):=ia (fun _=>rfl) fun n AJ pt r h=>by
 cases pt
 case l1 BN o2=>
  intro m0 AC;refine rd AC fun m0 AC=>?_
  revert r;apply gO;exact bi 12 (gi (bi 17 (lE (AX 24 Dt) [4] []) (bi 22 (lE (AX 24 Dt) [4] []) (gc (gn fun g1=>jg g1 (gn fun g2=>jg g2 (bi 27 (lE (AX 24 Dt) [4] []) (bi 32 (bi 36 (lE (AX 24 Dt) [4] []) (jg g1 (jg g2 (gw 41 (lG (AX 24 Dt) [0,1,2] (AJ _ _ · m0 AC)))))) (jg g1 (jg g2 (gw 41 (lG (AX 24 Dt) [0,1,2] (AJ _ _ · m0 AC))))))))))))) (bi 45 (lG (AX 24 Dt) [0,1] (AJ _ _ ·)) (bi 46 (lG (AX 24 Dt) [0,1] (AJ _ _ ·)) (bi 47 (lG (AX 24 Dt) [0,1] (AJ _ _ ·)) (bi 48 (lG (AX 24 Dt) [0,1] (AJ _ _ ·)) (bi 49 (lG (AX 24 Dt) [0,1] (AJ _ _ ·)) (bi 51 (bi 56 (lE (AX 24 Dt) [4] []) (lG (AX 24 Dt) [0,1] (AJ _ _ ·))) (bi 52 (bi 56 (lE (AX 24 Dt) [4] []) (lG (AX 24 Dt) [0,1] (AJ _ _ ·))) (bi 58 (bi 65 (lE (AX 24 Dt) [4] []) (lG (AX 24 Dt) [0,1] (AJ _ _ ·))) (bi 59 (bi 65 (lE (AX 24 Dt) [4] []) (lG (AX 24 Dt) [0,1] (AJ _ _ ·))) (lE (AX 24 Dt) [4] []))))))))))
 case l2=>
  revert r;apply gO;exact jg uo (gc (gi (gw 74 (cn fun y1 Au=>jc (sb [.msl 2 1 0 2,.i 0,.i ((IntKind.i64.wrap (1*2 ^ (q.symbols).toNat))-1)] (W6 Au) [oC (AG q),oC (CO c_),oI ([c_.set,c_.other]:List Int)] ⟨Aq.ints rfl (Eq.refl 2),Aq.plain (by kernel_rfl),Aq.plain (by kernel_rfl),trivial⟩) (bi 75 (cn fun y2 Cd=>jc (sb [.msl 3 1 0 2,.i 0,.i 65536] (W6 Cd) (na q c_) ⟨Aq.ints rfl (Eq.refl 2),Aq.plain (by kernel_rfl),Aq.plain (by kernel_rfl),trivial⟩) (bi 82 (bi 88 (cf W6 (na q c_) fun _=>lE Dt [4] []) (lE Dt [4] [])) (lE Dt [4] []))) (lE Dt [4] []))))))
theorem zDB {n:Nat}{q:AA}{c_:AB}{r:Bool}(h:Yu n q c_=some r):EQ 47 [.agg 5 (L1 (AG q)),.agg 9 (L1 (CO c_))] [] (.bool r) [] true:=by
 refine ot Tryz.func47 fun B N=>?_
 revert r;apply gO;exact lN (AX 24 Dt) [0,1,2] ((zDE B N q c_ n) _ _ · n Nat.le.refl)
def Zt (n:Nat)(c:AB)(q:AA):Option Bool:= (Yu n q c).bind fun y1=> some (!y1)
def WI (n:Nat)(c:AB)(q:AA):Option Bool:=Zt n c q
theorem sD {n:Nat}{c:AB}{q:AA}{r:Bool}(h:WI n c q=some r):EQ 46 [.agg 9 (L1 (CO c)),.fp 5 (L1 (AG q))] [] (.bool r) [] true:=by
 unfold WI Zt at h;refine ot Tryz.func46 fun B N=>?_
 revert r;apply gO;exact cf zDB [oC (CO c)] fun _=>lE AD [3] []
inductive X0 where
 | l1 (x8:Int)
def Xz (n:Nat)(self:X0 -> Option Int)(l:List AB)(q:AA)(x8:Int):Option Int:= bif (decide (x8<(l.length:Int))) then if 0<=x8/\ x8<(l.length:Int) then (WI n (l.getD ((x8).toNat) default) q).bind fun y1=> bif y1 then some x8 else if AH (x8+1) then self (.l1 (x8+1)) else none else none else some (-1)
def m4 (n:Nat)(self:X0 -> Option Int)(l:List AB)(q:AA):Option Int:= self (.l1 0)
def Mu (l:List AB)(q:AA):Nat -> X0 -> Option Int
 | 0,_=>none
 | n+1,.l1 x8=>Xz n (Mu l q n) l q x8
def X1 (n:Nat)(l:List AB)(q:AA):Option Int:=m4 n (Mu l q n) l q
def zR (n B:Nat)(N:Yd 0)(l:List AB)(q:AA)(r:Int):X0 -> Prop
 | .l1 x8=>∀ m0:Nat,n<=m0 -> TW B N (FQ Tryz.f79 0 (.i r) []) (Ax m0 (A7 (AY Tryz.f79) 0 [])) ⟨AF 19 [(0,.sl 9 l.length (AO CO l)),(1,.fn 46 1 (L1 [.fp 5 (L1 (AG q))])),(7,.i (l.length:Int)),(8,.i x8)],[]⟩
theorem zS (B:Nat)(N:Yd 0)(l:List AB)(q:AA):Al (Mu l q) (zR · B N l q):=ia (fun _=>rfl) fun n AJ pt r h=>by
 cases pt
 case l1 x8=>
  intro m0 AC;refine rd AC fun m0 AC=>?_
  revert r;apply gO;exact bi 9 (gi (cf sD [] fun _=>bi 16 (lE AD [4] []) (gw 18 (lG AD [] (AJ _ _ · m0 AC))))) (lE AD [4] [])
theorem zQ {n:Nat}{l:List AB}{q:AA}{r:Int}(h:X1 n l q=some r):EQ 79 [.sl 9 l.length (AO CO l),.fn 46 1 (L1 [.fp 5 (L1 (AG q))])] [] (.i r) [] true:=by
 refine ot Tryz.func79 fun B N=>?_
 revert r;apply gO;exact lN AD [] ((zS B N l q n) _ _ · n Nat.le.refl)
def fD (n:Nat)(l:List AB)(q:AA):Option Bool:= (X1 n l q).bind fun y1=> some (decide (y1>=0))
def Y6 (n:Nat)(l:List AB)(q:AA):Option Bool:=fD n l q
theorem zD1 {n:Nat}{l:List AB}{q:AA}{r:Bool}(h:Y6 n l q=some r):EQ 45 [.sl 9 l.length (AO CO l),.fn 46 1 (L1 [.fp 5 (L1 (AG q))])] [] (.bool r) [] true:=by
 unfold Y6 fD at h;refine ot Tryz.func45 fun B N=>?_
 revert r;apply gO;exact cf zQ [] fun _=>lE AD [4] []
def gq (n:Nat)(q:AA):Option Int:= bif (decide (q.cells<1)) then some 191 else bif (decide (q.cells>256)) then some 191 else bif (decide (q.symbols<1)) then some 191 else bif (decide (q.symbols>16)) then some 191 else bif ((q.values.length:Int) != q.symbols) then some 191 else (Mf n q.values 0 99).bind fun y1=> bif (!y1) then some 191 else bif ((q.nbrs.length:Int) != q.cells) then some 191 else (VB n q.nbrs).bind fun y2=> bif (y2 != 0) then some 191 else bif (decide ((q.cons.length:Int)>4096)) then some 191 else (Y6 n q.cons q).bind fun y3=> bif y3 then some 191 else some 0
def valid (n:Nat)(q:AA):Option Int:=gq n q
theorem gp {n:Nat}{q:AA}{r:Int}(h:valid n q=some r):EQ 33 [.agg 5 (L1 (AG q))] [] (.i r) [] true:=by
 refine ot Tryz.func33 fun B N=>?_
 revert r;apply gO;exact bi 5 (lE AD [2] []) (bi 9 (lE AD [2] []) (bi 14 (lE AD [2] []) (bi 19 (lE AD [2] []) (bi 27 (lE AD [2] []) (cf W6 [oC (AG q)] fun _=>bi 33 (lE AD [2] []) (bi 40 (lE AD [2] []) (cf oa [oC (AG q)] fun _=>bi 45 (lE AD [2] []) (bi 51 (lE AD [2] []) (cn fun y3 cO=>jc (sb [.sl 9 q.cons.length (AO CO q.cons),.fn 46 1 (L1 [.ref 0 0])] (zD1 cO) [oC (AG q)] ⟨Aq.plain (by kernel_rfl),(Aq.fnL (l:=[.ref 0 0]) (l0:=[.fp 5 (L1 (AG q))]) ⟨(Aq.refL (l:=(AG q)) (l0:=(AG q)) rfl ⟨Aq.plain (by kernel_rfl),Aq.plain (by kernel_rfl),Aq.plain (by kernel_rfl),Aq.plain (by kernel_rfl),Aq.plain (by kernel_rfl),trivial⟩),trivial⟩),trivial⟩) (bi 56 (lE AD [2] []) (lE AD [2] [])))))))))))
def be (n:Nat)(q:AA)(i:Int):Option (Int×Int):= (valid n q).bind fun y1=> bif (y1 != 0) then some (0,y1) else bif (decide (i<0)) then some (0,260) else bif (decide (i>=(q.cons.length:Int))) then some (0,260) else if (0<=i/\ i<(q.cons.length:Int))/\ ((0:Int)<=((q.cons.getD ((i).toNat) default).kind)/\ ((q.cons.getD ((i).toNat) default).kind)<((10:Nat):Int)) then some (([0,1,1,2,2,3,1,1,4,4]:List Int).getD ((q.cons.getD ((i).toNat) default).kind).toNat 0,0) else none
def Ou (n:Nat)(q:AA)(i:Int):Option (Int×Int):=be n q i
theorem bc {n:Nat}{q:AA}{i:Int}{r:Int×Int}(h:Ou n q i=some r):EQ 97 [.agg 5 (L1 (AG q)),.i i] [] (.tup 2 (L1 [.i r.1,.i r.2])) [] true:=by
 unfold Ou be at h;refine ot Tryz.func97 fun B N=>?_
 revert r;apply gO;exact cf gp [oC (AG q)] fun _=>bi 10 (lE AD [4,5] []) (bi 13 (lE AD [4,5] []) (bi 19 (lE AD [4,5] []) (gc (gi (gn fun g1=>jg g1 (jo 28 (AL.ixI [0,1,1,2,2,3,1,1,4,4] rfl g1) (lE AD [4,5] [])))))))
end Go.Proofs.YtodinaconebmdaaGreatDoor
namespace Go.Proofs.YtodinaconebmdaaGreatDoor
abbrev zAC:=@cond_false
abbrev zAI:=@decide_eq_false
abbrev zAK:=@cond_true
abbrev zAP:=@Int.toNat_natCast
abbrev zCa:=@Bool.not_false
abbrev zCf:=@beq_eq_false_iff_ne
abbrev zFs:=@Bool.or_false
abbrev zFx:=@decide_eq_false_iff_not
abbrev zF9:=@Int.eq_ofNat_of_zero_le
abbrev zGD:=@decide_true
abbrev zGK:=@Int.natCast_nonneg
abbrev zGR:=@List.exists_of_findSome?_eq_some
abbrev zGc:=@List.findSome?_eq_none_iff
abbrev zGr:=@List.pairwise_iff_getElem
abbrev zGv:=@List.length_erase_of_mem
abbrev zHK:=@List.range'_succ
abbrev zHN:=@List.range_eq_range'
abbrev zHO:=@and_self
def O7 (lo hi:Int)(n:Int):Bool:=decide (lo<=n)&&decide (n<=hi)
def FH (xs:List Int)(lo hi:Int):Bool:=xs.all (O7 lo hi)
def Ia (g:List (List Int))(i:Nat)(l:List Int)(k:Nat):Bool:=
 let n:=l.getD k 0
 decide (0<=n)&&decide (n<g.length)&&(n != i)&&(!decide (0<k)||decide (l.getD (k-1) 0<n))&&(g.getD n.toNat []).contains (i:Int)
def K4 (g:List (List Int))(i:Nat)(l:List Int):Bool:=(List.range l.length).all (Ia g i l)
def NJ (g:List (List Int)):Bool:=decide (g.length<=256)&&(List.range g.length).all fun i=>K4 g i (g.getD i [])
def Pm (n kind:Int)(cells:List Int)(i:Nat):Bool:=
 let x:=cells.getD i 0
 decide (0<=x)&&decide (x<n)&&!(cells.take i).contains x&&(!decide (8<=kind)||x==(i:Int))
def ZI (n kind:Int)(cells:List Int):Bool:=(List.range cells.length).all (Pm n kind cells)
def GO (n kind:Int)(len:Nat):Bool:= (decide (1<=kind)&&decide (kind<=5))||((kind==6||kind==7)&&len==2)||((kind==8||kind==9)&&(len:Int)==n)
def Fg (q:AA)(c:AB):Bool:= ZI q.cells c.kind c.cells&&GO q.cells c.kind c.cells.length&& FH [c.set,c.other] 0 (2 ^ q.symbols.toNat-1)&&FH [c.lo,c.hi] 0 65536&&decide (c.runs.length<=8)&&FH c.runs 1 256
def bN (l:List Int):Bool:=(List.range l.length).all fun i=>!(l.take i).contains (l.getD i 0)
theorem UB: ∀ (n:Nat) (l:List Int),l.Nodup -> (∀ x∈l,0<=x/\ x<(n:Int)) -> l.length<=n
 | 0,l,_,h=>by
  cases l with
  | nil=>simp
  | cons a l=>have:=h a (by simp);omega
 | n+1,l,hd,h=>by
  have h1:(l.erase (n:Int)).length<=n:=UB n _ (hd.erase _) (fun x hx=>by
   have:=hd.mem_erase_iff.1 hx;have h2:=h x this.2;have h3:=this.1;omega)
  by_cases hm:(n:Int)∈l
  ·have:=zGv hm;omega
  ·rw [List.erase_of_not_mem hm] at h1;omega
theorem xj {l:List Int}:bN l=true↔l.Nodup:=by
 unfold bN List.Nodup;rw [zAX,zGr];constructor
 ·intro h i j hi hj Ut e;have:=h j (by simpa using hj);simp only [u8,zAE hj,zGF,zCg] at this;rw [zGQ,ne_eq,zGO,List.mem_take_iff_getElem] at this;exact this ⟨i,by omega,e⟩
 ·intro h i hi;have A8:i<l.length:=by simpa using hi
  simp only [u8,zAE A8,zGF,zCg];rw [zGQ,ne_eq,zGO,List.mem_take_iff_getElem];rintro ⟨j,hj,e⟩;exact h j i (by omega) A8 (by omega) e
theorem gY {l:List Int}{lo hi:Int}:FH l lo hi=true↔∀ x∈l,lo<=x/\ x<=hi:=by
 unfold FH;simp [O7]
theorem p7 {n kind:Int}{cells:List Int}:ZI n kind cells=true↔(∀ x∈cells,0<=x/\ x<n)/\ cells.Nodup/\ (8<=kind -> ∀ j,j<cells.length -> cells.getD j 0=(j:Int)):=by
 rw [←xj];unfold ZI bN Pm;simp only [zAX,zBf,zAO,zCJ,zCL,zCg,zCR,zFx];constructor
 ·intro h;refine ⟨fun x hx=>?_,fun j hj=>(h j hj).1.2,fun h8 j hj=>?_⟩
  ·obtain ⟨j,hj,rfl⟩:=zEk hx;have:=(h j hj).1.1;simpa [hj] using this
  ·rcases (h j hj).2 with h' | h'
   ·exact absurd h8 h'
   ·exact h'
 ·rintro ⟨h1,h2,h3⟩ j hj;have hx:=h1 _ (zB0 hj);refine ⟨⟨by simpa [hj] using hx,h2 j hj⟩,?_⟩
  by_cases h8:8<=kind
  ·exact .inr (h3 h8 j hj)
  ·exact .inl h8
def DG (q:AA):Bool:= decide (1<=q.cells)&&decide (q.cells<=256)&&decide (1<=q.symbols)&&decide (q.symbols<=16)&&((q.values.length:Int)==q.symbols)&&FH q.values 0 99&& ((q.nbrs.length:Int)==q.cells)&&NJ q.nbrs&&decide (q.cons.length<=4096)&&q.cons.all (Fg q)
def Ic (kind:Int):Int:=if kind=3∨kind=4 then 2 else if kind=5 then 3 else if kind=8∨kind=9 then 4 else 1
def Id (q:AA)(i:Int):Int×Int:= if DG q=false then (0,191) else if 0<=i/\ i<q.cons.length then (Ic ((q.cons.getD i.toNat default).kind),0) else (0,260)
theorem EF {q:AA}(h:DG q=true):(1<=q.cells/\ q.cells<=256)/\ (1<=q.symbols/\ q.symbols<=16)/\ ((q.values.length:Int)=q.symbols/\ FH q.values 0 99=true)/\
 ((q.nbrs.length:Int)=q.cells/\ NJ q.nbrs=true)/\ q.cons.length<=4096/\ ∀ c∈q.cons,Fg q c=true:=by
 unfold DG at h;simp only [zAO,zCJ,zCR,zAX] at h;obtain ⟨⟨⟨⟨⟨⟨⟨⟨⟨h1,h2⟩,h3⟩,h4⟩,h5⟩,h6⟩,h7⟩,h8⟩,h9⟩,Pd⟩:=h;exact ⟨⟨h1,h2⟩,⟨h3,h4⟩,⟨h5,h6⟩,⟨h7,h8⟩,h9,Pd⟩
theorem mg {q:AA}{c:AB}(h:Fg q c=true):GO q.cells c.kind c.cells.length=true:=by
 unfold Fg at h;simp only [zAO] at h;exact h.1.1.1.1.2
theorem UR {n kind:Int}{len:Nat}(h:GO n kind len=true):1<=kind/\ kind<=9:=by
 unfold GO at h;simp at h;omega
theorem US {k:Int}(h:1<=k/\ k<=9):k=1∨k=2∨k=3∨k=4∨k=5∨k=6∨k=7∨k=8∨k=9:=by omega
open Go.RowKit
theorem jp {R:Type}(m:Nat -> Int -> Option R)(len N0:Nat)(B:Nat -> Option R)(h0: ∀ (n i:Nat),N0<=n -> i<len -> m (n+1) (i:Int)=(B i).or (m n ((i:Int)+1))):
 ∀ (k i n:Nat),i+k=len -> N0<=n -> m (n+k) (i:Int)=((List.range' i k).findSome? B).or (m n (len:Int))
 | 0,i,n,h,hn=>by
  have:i=len:=by omega
  subst this;rfl
 | k+1,i,n,h,hn=>by
  show m (n+k+1) (i:Int)=_
  rw [h0 (n+k) i (by omega) (by omega),zHK,List.findSome?_cons];cases B i with
  | some r=>rfl
  | none=>
   have:=jp m len N0 B h0 k (i+1) n (by omega) hn;rw [←this];simp
theorem Wg {R:Type}(m:Nat -> Int -> Option R)(len N0:Nat)(B:Nat -> Option R)(h0: ∀ (n i:Nat),N0<=n -> i<len -> m (n+1) (i:Int)=(B i).or (m n ((i:Int)+1))){n:Nat}(hn:N0+len<=n):
 m n 0=((List.range len).findSome? B).or (m (n-len) (len:Int)):=by
 have:=jp m len N0 B h0 len 0 (n-len) (by omega) (by omega);rw [Nat.sub_add_cancel (by omega)] at this;rw [zHN];exact this
theorem zDG {R:Type}{l:List Nat}{p:Nat -> Bool}{r:R}:(l.findSome? fun i=>if p i then none else some r)=if l.all p then none else some r:=by
 induction l with
 | nil=>rfl
 | cons a l ih=>
  rw [List.findSome?_cons,zGY];cases hp:p a
  ·simp
  ·simp [ih]
theorem kn {α:Type}{l:List α}{d:α}{p:α -> Bool}:((List.range l.length).all fun i=>p (l.getD i d))=l.all p:=by
 rw [zFk,zAX,zAX];constructor
 ·intro h x hx;obtain ⟨i,hi,rfl⟩:=zEk hx;have:=h i (by simpa using hi);simpa [hi] using this
 ·intro h i hi;have A8:i<l.length:=by simpa using hi
  simp [A8,h _ (zB0 A8)]
theorem r64 {i len:Nat}(h:i<len)(hl:len<=LB):AH ((i:Int)+1):=by rw [Aw];unfold LB at hl;omega
theorem zU {l:List Int}{lo up:Int}{n:Nat}(hl:l.length<=LB)(hn:l.length<n): ∃ r:Int,X4 n l lo up=some r/\ (0<=r↔FH l lo up=false):=by
 unfold X4 m5;have S:=Wg (fun n i=>O1 l lo up n (.l1 i)) l.length 0 (fun i=>if O7 lo up (l.getD i 0) then none else some (i:Int)) (fun n i _ hi=>?_) (n:=n) (by omega)
 ·have S:=S;rw [show O1 l lo up n (.l1 0)=_ from S];cases hf:(List.range l.length).findSome? (fun i=>if O7 lo up (l.getD i 0) then none else some (i:Int)) with
  | some r=>
   refine ⟨r,rfl,?_⟩;obtain ⟨i,hi,hr⟩:=zGR hf;have A8:i<l.length:=by simpa using hi
   split at hr
   ·cases hr
   ·rename_i hx;cases hr;refine ⟨fun _=>?_,fun _=>by omega⟩;unfold FH;rw [List.all_eq_false];exact ⟨l[i],zB0 A8,by simpa [A8] using hx⟩
  | none=>
   obtain ⟨m,hm⟩: ∃ m,n-l.length=m+1:=⟨n-l.length-1,by omega⟩;refine ⟨-1,by rw [hm];simp [O1,cA],?_⟩;rw [zGc] at hf
   have:FH l lo up=true:=by
    unfold FH;rw [←kn (p:=O7 lo up) (d:=(0:Int)),zAX];intro i hi;have:=hf i hi;cases hc:O7 lo up (l.getD i 0) with
    | true=>rfl
    | false=>rw [hc] at this;simp at this
   simp [this]
 ·have h1:(i:Int)<(l.length:Int):=by omega
  have h2:=r64 hi hl;simp only [O1,cA,Zl,ga,h1,h2,zGD,zAK,zGK,zHO,zFV,zAP,O7];obtain ⟨x,hg⟩: ∃ y,l.getD i 0=y:=⟨_,rfl⟩;simp only [hg]
  by_cases a:x<lo
  ·have: ¬ lo<=x:=by omega
   simp [a,this]
  ·have a':lo<=x:=by omega
   by_cases b:up<x
   ·have: ¬ x<=up:=by omega
    simp [a,b,a',this]
   ·have b':x<=up:=by omega
    simp [a,b,a',b']
theorem W7 {l:List Int}{lo up:Int}{n:Nat}(hl:l.length<=LB)(hn:l.length<n):Mf n l lo up=some (FH l lo up):=by
 obtain ⟨r,h1,h2⟩:=zU (lo:=lo) (up:=up) hl hn;unfold Mf ac Y8 fE;rw [h1];cases hw:FH l lo up with
 | true=>
  have: ¬ 0<=r:=fun h=>by rw [h2.1 h] at hw;cases hw
  simp [this]
 | false=>
  have:0<=r:=h2.2 hw;simp [this]
theorem zD5 {l:List Int}{x:Int}{n:Nat}(hl:l.length<=LB)(hn:l.length<n):NY n l x=some (l.contains x):=by
 have: ∃ r:Int,X6 n l x=some r/\ (0<=r↔l.contains x=true):=by
  unfold X6 m7;have S:=Wg (fun n i=>O4 l x n (.l1 i)) l.length 0 (fun i=>if (x != l.getD i 0) then none else some (i:Int)) (fun n i _ hi=>?_) (n:=n) (by omega)
  ·rw [show O4 l x n (.l1 0)=_ from S];cases hf:(List.range l.length).findSome? (fun i=>if (x != l.getD i 0) then none else some (i:Int)) with
   | some r=>
    refine ⟨r,rfl,?_⟩;obtain ⟨i,hi,hr⟩:=zGR hf;have A8:i<l.length:=by simpa using hi
    split at hr
    ·cases hr
    ·rename_i hx;cases hr;refine ⟨fun _=>?_,fun _=>by omega⟩;have:x=l[i]:=by simpa [A8] using hx
     rw [this];simp
   | none=>
    obtain ⟨m,hm⟩: ∃ m,n-l.length=m+1:=⟨n-l.length-1,by omega⟩;refine ⟨-1,by rw [hm];simp [O4,cC],?_⟩;rw [zGc] at hf
    have:l.contains x=false:=by
     rw [zGQ];intro h;obtain ⟨i,hi,e⟩:=zEk (by simpa using h:x∈l);have:=hf i (by simpa using hi);simp [hi,e] at this
    rw [this];simp
  ·have h1:(i:Int)<(l.length:Int):=by omega
   have h2:=r64 hi hl;simp only [O4,cC,h1,h2,zGD,zAK,zGK,zHO,zFV,zAP];obtain ⟨y,hg⟩: ∃ y,l.getD i 0=y:=⟨_,rfl⟩;simp only [hg]
   by_cases a:x=y
   ·simp [a]
   ·have:(x==y)=false:=by simp [a]
    simp [this,a]
 obtain ⟨r,h1,h2⟩:=this;unfold NY fF;rw [h1]
 by_cases h:0<=r
 ·have:=h2.1 h;simp only [zAB];rw [this];simp [h]
 ·have:l.contains x=false:=by rw [zGQ];exact fun hc=>h (h2.2 hc)
  simp only [zAB];rw [this];simp;omega
def Hq (g:List (List Int)):Nat:=(g.map fun r=>r.length+2).sum
theorem Zk: ∀ {g:List (List Int)} {r:List Int},r∈g -> r.length+2<=Hq g
 | [],_,h=>by cases h
 | a::g,r,h=>by
  simp only [Hq,zFg,List.sum_cons];rcases zCC.1 h with rfl | h
  ·omega
  ·have:=Zk h;unfold Hq at this;omega
theorem rX {g:List (List Int)}{v:Nat}(hv:v<g.length):Hq (g.drop v)=(g.getD v []).length+2+Hq (g.drop (v+1)):=by
 rw [zBw hv];simp only [Hq,zFg,List.sum_cons,u8,zAE hv,zGF]
theorem eI {g:List (List Int)}{v:Nat}(hv:v<g.length):g.getD v []∈g:=by
 rw [u8,zAE hv];exact zB0 hv
section
variable {g:List (List Int)} {v j n:Nat}
theorem xw {R:Type}(next SE:R)(c:Bool -> R)(hc:c true=next)(It:c false=SE)(hv:v<g.length)(hj:j<(g.getD v []).length):
 (if Ia g v (g.getD v []) j then next else SE)=
  (if (g.getD v []).getD j 0<0 then SE else if (g.getD v []).getD j 0>=(g.length:Int) then SE else if (g.getD v []).getD j 0=(v:Int) then SE else
   if 0<j then (if (g.getD v []).getD (j-1) 0>=(g.getD v []).getD j 0 then SE else c ((g.getD ((g.getD v []).getD j 0).toNat []).contains (v:Int)))
   else c ((g.getD ((g.getD v []).getD j 0).toNat []).contains (v:Int))):=by
 unfold Ia;obtain ⟨x,hx⟩: ∃ x,(g.getD v []).getD j 0=x:=⟨_,rfl⟩;obtain ⟨y,hy⟩: ∃ y,(g.getD v []).getD (j-1) 0=y:=⟨_,rfl⟩;simp only [hx,hy]
 by_cases a:x<0
 ·have: ¬ 0<=x:=by omega
  simp [a,this]
 ·have a':0<=x:=by omega
  by_cases b:x>=(g.length:Int)
  ·have: ¬ x<(g.length:Int):=by omega
   simp [a,b,this]
  ·have b':x<(g.length:Int):=by omega
   by_cases d:x=(v:Int)
   ·simp [a,b,d]
   ·have d':(x != (v:Int))=true:=by simp [d]
    cases hcc:(g.getD x.toNat []).contains (v:Int) with
    | true=>
     by_cases e:0<j
     ·by_cases f:y>=x
      ·have: ¬ y<x:=by omega
       simp [a,b,d,d',e,f,this,a',b']
      ·have f':y<x:=by omega
       simp [a,b,d,d',e,f,f',a',b',hc]
     ·simp [a,b,d,d',e,a',b',hc]
    | false=>
     by_cases e:0<j
     ·by_cases f:y>=x
      ·have: ¬ y<x:=by omega
       simp [a,b,d,d',e,f,this,a',b']
      ·have f':y<x:=by omega
       simp [a,b,d,d',e,f,f',a',b',It]
     ·simp [a,b,d,d',e,a',b',It]
theorem wR {j len:Nat}(h:j<len)(hl:len<=LB):AH ((j:Int)-1):=by rw [Aw];unfold LB at hl;omega
theorem am {j len:Nat}(h:0<j)(h2:j<len):((0:Int)<=(j:Int)-1/\ (j:Int)-1<(len:Int))/\ ((j:Int)-1).toNat=j-1/\ (j:Int)>0:=by omega
theorem zCx {self:Re -> Option Int}{row:List Int}(PG:row=g.getD v [])(hv:v<g.length)(hg:g.length<=256)(hj:j<(g.getD v []).length)(hr: ∀ r∈g,r.length<=LB)(hn: ∀ r∈g,r.length<n):
 Yk n self g (v:Int) row (v:Int) row (row.length:Int) (j:Int)=(if Ia g v (g.getD v []) j then none else some (120:Int)).or (self (.l2 (v:Int) row (v:Int) row (row.length:Int) ((j:Int)+1))):=by
 subst PG;have Af:=hr _ (eI hv);have h1:(v:Int)<(g.length:Int):=by omega
 have h2:(j:Int)<((g.getD v []).length:Int):=by omega
 have h3:=r64 hj Af;obtain ⟨NX,oL⟩: ∃ NX,self (.l2 (v:Int) (g.getD v []) (v:Int) (g.getD v []) ((g.getD v []).length:Int) ((j:Int)+1))=NX:=⟨_,rfl⟩;have key:=xw (g:=g) (v:=v) (j:=j) NX (some (120:Int)) (fun b=>bif b then NX else some 120) rfl rfl hv hj
 have e1:((if Ia g v (g.getD v []) j then none else some (120:Int)).or NX)=(if Ia g v (g.getD v []) j then NX else some 120):=by
  cases Ia g v (g.getD v []) j <;> rfl
 rw [oL,e1,key];simp only [Yk,h1,h2,h3,zGD,zAK,zGK,zHO,zFV,zAP,oL];obtain ⟨x,hx⟩: ∃ x,(g.getD v []).getD j 0=x:=⟨_,rfl⟩;simp only [hx]
 by_cases a:x<0
 ·simp [a]
 by_cases b:x>=(g.length:Int)
 ·simp [a,b]
 by_cases d:x=(v:Int)
 ·simp [a,b,d]
 have d':(x==(v:Int))=false:=by simp [d]
 have YB:g.getD x.toNat []∈g:=eI (by omega);have hh:NY n (g.getD x.toNat []) (v:Int)=some ((g.getD x.toNat []).contains (v:Int)):=zD5 (hr _ YB) (hn _ YB);have Ih:0<=x/\ x<(g.length:Int):=by omega
 have fin:((NY n (g.getD x.toNat []) (v:Int)).bind fun y1=>bif (!y1) then some (120:Int) else NX)=(bif (g.getD x.toNat []).contains (v:Int) then NX else some 120):=by
  rw [hh];cases (g.getD x.toNat []).contains (v:Int) <;> rfl
 by_cases e:0<j
 ·have h4:AH ((j:Int)-1)/\ ((0:Int)<=(j:Int)-1/\ (j:Int)-1<((g.getD v []).length:Int)):=⟨wR hj Af,(am e hj).1⟩;have h5:=(am e hj).2.1;have e':=(am e hj).2.2;simp only [e',h4,h5,e,Ih,d',zGD,zAK,zAC,zFV,zAI a,zAI b,zHO,zAY a,zAY b,zAY d,fin]
  by_cases f:(g.getD v []).getD (j-1) 0>=x
  ·simp only [f,zGD,zAK,zFV]
  ·simp only [zAI f,zAC,zAY f]
 ·have e': ¬ (j:Int)>0:=by omega
  simp only [Ih,d',zAC,zFV,zAI a,zAI b,zAI e',zHO,zAY a,zAY b,zAY d,zAY e,fin]
end
theorem vZ {g:List (List Int)}{v:Nat}(hv:v<g.length):((List.range' v (g.length-v)).all fun i=>K4 g i (g.getD i []))=(K4 g v (g.getD v [])&&(List.range' (v+1) (g.length-(v+1))).all fun i=>K4 g i (g.getD i [])):=by
 have:g.length-v=g.length-(v+1)+1:=by omega
 rw [this,zHK,zGY]
theorem oe {g:List (List Int)}(hg:g.length<=256)(hr: ∀ r∈g,r.length<=LB): ∀ (k v n:Nat),v+k=g.length -> Hq (g.drop v)+Hq g+1<=n -> Je g n (.l1 (v:Int))=some (F5 ((List.range' v (g.length-v)).all fun i=>K4 g i (g.getD i [])) 120)
 | 0,v,n,hv,hn=>by
  have:v=g.length:=by omega
  subst this;obtain ⟨m,rfl⟩: ∃ m,n=m+1:=⟨n-1,by omega⟩;simp [Je,eJ,F5]
 | k+1,v,n,hv,hn=>by
  have Dv:v<g.length:=by omega
  rw [rX Dv] at hn;have hm:=Zk (eI Dv);obtain ⟨m,rfl⟩: ∃ m,n=m+1:=⟨n-1,by omega⟩;have h1:(v:Int)<(g.length:Int):=by omega
  have e1:Je g (m+1) (.l1 (v:Int))=Je g m (.l2 (v:Int) (g.getD v []) (v:Int) (g.getD v []) ((g.getD v []).length:Int) 0):=by
   simp only [Je,eJ,h1,zGD,zAK,zGK,zHO,zFV,zAP]
  rw [e1];have S:=Wg (fun n i=>Je g n (.l2 (v:Int) (g.getD v []) (v:Int) (g.getD v []) ((g.getD v []).length:Int) i)) (g.getD v []).length (Hq g) (fun j=>if Ia g v (g.getD v []) j then none else some 120) (fun n' j Fw hj=>zCx (n:=n') rfl Dv hg hj hr fun r CC=>by have:=Zk CC;omega) (n:=m) (by omega);refine S.trans ?_;rw [zDG,vZ Dv];have eR:((List.range (g.getD v []).length).all fun i=>Ia g v (g.getD v []) i)=K4 g v (g.getD v []):=rfl;rw [eR];cases K4 g v (g.getD v []) with
  | false=>rfl
  | true=>
   obtain ⟨m',CT⟩: ∃ m',m-(g.getD v []).length=m'+1:=⟨m-(g.getD v []).length-1,by omega⟩;rw [CT];have h2:AH ((v:Int)+1):=by rw [Aw];omega
   have ih:=oe hg hr k (v+1) m' (by omega) (by omega);have h3: ¬ (((g.getD v []).length:Int)<((g.getD v []).length:Int)):=by omega
   simp only [zFV,Je,Yk,h2,zAI h3,zAC,zCj];exact ih
theorem od {g:List (List Int)}{n:Nat}(hr: ∀ r∈g,r.length<=LB)(hn:2*Hq g+1<=n):VB n g=some (F5 (NJ g) 120):=by
 unfold VB oc NJ
 by_cases h:(g.length:Int)>256
 ·have: ¬ g.length<=256:=by omega
  simp [h,this,F5]
 ·have h':g.length<=256:=by omega
  have:=oe h' hr g.length 0 n (by omega) (by simp;omega);simp only [zAI h,zAC,zAU h',zCj];rw [zHN];simpa using this
theorem k9 {s:Int}(h1:1<=s)(h2:s<=16):IntKind.i64.wrap (1*2 ^ s.toNat)=2 ^ s.toNat/\ AH ((2:Int) ^ s.toNat-1)/\ ((0:Int)<=s/\ s<=((IntKind.i64.bits:Nat):Int)):=by
 obtain ⟨m,rfl⟩:=zF9 (show 0<=s by omega);rw [zAP];have h:m<17:=by omega
 refine ⟨?_,?_,by omega,by show (m:Int)<=64;omega⟩
 ·revert h;clear h1 h2;revert m;decide
 ·revert h;clear h1 h2;revert m;decide
section
variable {c:AB} {n:Nat}
def Wx (sy:Int)(c:AB):Bool:=FH [c.set,c.other] 0 (2 ^ sy.toNat-1)&&FH [c.lo,c.hi] 0 65536&&decide (c.runs.length<=8)&&FH c.runs 1 256
theorem ma {a b:Int}:([a,b]:List Int).length<=LB:=by show 2<=LB;unfold LB;omega
theorem yf {l:List Int}:(decide (((l.length:Nat):Int)<=8))=decide (l.length<=8):=by rw [zFk];simp;omega
theorem zC8 {self:NM -> Option Bool}{q:AA}(h1:1<=q.symbols)(h2:q.symbols<=16)(hr:c.runs.length<=LB)(hn:c.runs.length<n)(HB:2<n):Yt n self q c=some (Wx q.symbols c):=by
 obtain ⟨p1,p2,p3⟩:=k9 h1 h2;unfold Yt;rw [p1,zAA ⟨p3,p2⟩,W7 ma (show 2<n from HB),W7 ma (show 2<n from HB),W7 hr hn];unfold Wx;rw [yf];cases FH [c.set,c.other] 0 (2 ^ q.symbols.toNat-1) <;> cases FH [c.lo,c.hi] 0 65536 <;> cases decide (c.runs.length<=8) <;> rfl
theorem zDA {self:NM -> Option Bool}{q:AA}(hq:q.cells<=256)(hc:c.cells.length<=LB){i:Nat}(hi:i<c.cells.length){o:List Bool}(ho:o.length=256)(hm: ∀ x:Nat,x<256 -> o.getD x false=(c.cells.take i).contains (x:Int)):
 VI n self q c (i:Int) o=if Pm q.cells c.kind c.cells i then self (.l1 ((i:Int)+1) (o.set (0+(c.cells.getD i 0).toNat) true)) else some false:=by
 have h1:(i:Int)<(c.cells.length:Int):=by omega
 have h2:=r64 hi hc;unfold Pm;obtain ⟨x,hx⟩: ∃ x,c.cells.getD i 0=x:=⟨_,rfl⟩;simp only [VI,h1,h2,zGD,zAK,zGK,zHO,zFV,zAP,hx]
 by_cases a:x<0
 ·have: ¬ 0<=x:=by omega
  simp [a,this]
 have a':0<=x:=by omega
 by_cases b:x>=q.cells
 ·have: ¬ x<q.cells:=by omega
  simp [a,b,this]
 have b':x<q.cells:=by omega
 have hg:((0:Int)<=x/\ x<((256:Nat):Int))/\ 0+x.toNat<o.length:=⟨⟨a',by omega⟩,by omega⟩
 have hmm:o.getD (0+x.toNat) false=(c.cells.take i).contains x:=by
  rw [zBy,hm x.toNat (by omega)]
  congr 1;omega
 simp only [hg,hmm,zAI a,zAI b,zAC,zFV,zAU a',zAU b',zCj,zHO];cases (c.cells.take i).contains x with
 | true=>rfl
 | false=>
  by_cases e:c.kind>=8
  ·have e':8<=c.kind:=e
   by_cases f:x=(i:Int)
   ·have f1:(x != (i:Int))=false:=by simp [f]
    have f2:(x==(i:Int))=true:=by simp [f]
    simp only [e,e',f1,f2,zGD,zAK,zAC,zCa,zCX,zFq,zCj,zFV]
   ·have f1:(x != (i:Int))=true:=by simp [f]
    have f2:(x==(i:Int))=false:=by simp [f]
    simp only [e,e',f1,f2,zGD,zAK,zAC,zCa,zCX,zFq,zCj,zCZ,zF2]
  ·have e': ¬ 8<=c.kind:=e;simp only [zAI e,zAI e',zGD,zAC,zCa,Bool.true_or,Bool.and_self,zFV]
theorem zC9 {self:NM -> Option Bool}{q:AA}{o:List Bool}:VI n self q c (c.cells.length:Int) o=if GO q.cells c.kind c.cells.length then self .l2 else some false:=by
 have h1: ¬ ((c.cells.length:Int)<(c.cells.length:Int)):=by omega
 simp only [VI,zAI h1,zAC]
 by_cases hk:1<=c.kind/\ c.kind<=9
 ·obtain ⟨k,YQ⟩: ∃ k,c.kind=k:=⟨_,rfl⟩;rw [YQ] at hk;simp only [YQ];have e2:(((c.cells.length:Nat):Int) != 2)= !(c.cells.length==2):=by rw [zFk];simp;omega
  have e3:(((c.cells.length:Nat):Int) != q.cells)= !(((c.cells.length:Nat):Int)==q.cells):=rfl;rcases US hk with h | h | h | h | h | h | h | h | h <;> subst h
  ·rfl
  ·rfl
  ·rfl
  ·rfl
  ·rfl
  ·show (bif (((c.cells.length:Nat):Int) != 2) then some false else self .l2)=_
   rw [e2];unfold GO;cases c.cells.length==2 <;> rfl
  ·show (bif (((c.cells.length:Nat):Int) != 2) then some false else self .l2)=_
   rw [e2];unfold GO;cases c.cells.length==2 <;> rfl
  ·show (bif (((c.cells.length:Nat):Int) != q.cells) then some false else self .l2)=_
   rw [e3];unfold GO;cases ((c.cells.length:Nat):Int)==q.cells <;> rfl
  ·show (bif (((c.cells.length:Nat):Int) != q.cells) then some false else self .l2)=_
   rw [e3];unfold GO;cases ((c.cells.length:Nat):Int)==q.cells <;> rfl
 ·have HA:GO q.cells c.kind c.cells.length=false:=by
   rw [zGQ];exact fun h=>hk (UR h)
  rw [HA];have z: ∀ m:Int,1<=m -> m<=9 -> (c.kind==m)=false:=fun m h1 h2=>by simp only [zCf];omega
  simp [z 1,z 2,z 3,z 4,z 5,z 6,z 7,z 8,z 9]
theorem pA {q:AA}(hq:q.cells<=256)(hc:c.cells.length<=LB)(h1:1<=q.symbols)(h2:q.symbols<=16)(hr:c.runs.length<=LB): ∀ (k i n:Nat) (o:List Bool),i+k=c.cells.length -> k+c.runs.length+6<=n -> o.length=256 -> (∀ x:Nat,x<256 -> o.getD x false=(c.cells.take i).contains (x:Int)) ->
 Rk q c n (.l1 (i:Int) o)=some ((List.range' i k).all (Pm q.cells c.kind c.cells)&&GO q.cells c.kind c.cells.length&&Wx q.symbols c)
 | 0,i,n,o,hi,hn,ho,hm=>by
  have:i=c.cells.length:=by omega
  subst this;obtain ⟨m,rfl⟩: ∃ m,n=m+1:=⟨n-1,by omega⟩;refine (zC9 (n:=m)).trans ?_;cases GO q.cells c.kind c.cells.length with
  | false=>simp
  | true=>
   obtain ⟨m',rfl⟩: ∃ m',m=m'+1:=⟨m-1,by omega⟩
   show Yt m' (Rk q c m') q c=_
   rw [zC8 h1 h2 hr (by omega) (by omega)];simp
 | k+1,i,n,o,hi,hn,ho,hm=>by
  obtain ⟨m,rfl⟩: ∃ m,n=m+1:=⟨n-1,by omega⟩;refine (zDA (n:=m) hq hc (show i<c.cells.length by omega) ho hm).trans ?_;rw [zHK,zGY];cases YT:Pm q.cells c.kind c.cells i with
  | false=>simp
  | true=>
   have hx:0<=c.cells.getD i 0/\ c.cells.getD i 0<q.cells:=by
    unfold Pm at YT;simp only [zAO,zCJ] at YT;exact ⟨YT.1.1.1,YT.1.1.2⟩
   have ih:=pA hq hc h1 h2 hr k (i+1) m (o.set (0+(c.cells.getD i 0).toNat) true) (by omega) (by omega) (by simp [ho]) (fun x zt=>?_)
   ·simp only [zFV,zCj];exact ih
   ·have A8:i<c.cells.length:=by omega
    rw [zBy]
    have ht:c.cells.take (i+1)=c.cells.take i++[c.cells.getD i 0]:=by
     rw [List.take_add_one];simp [A8]
    rw [ht,List.contains_append,←hm x zt];rw [u8,zB8]
    by_cases e:(c.cells.getD i 0).toNat=x
    ·have e2:((x:Nat):Int)=c.cells.getD i 0:=by omega
     rw [zAA e,zAA (by omega)];simp [e2]
    ·have e2: ¬ ((x:Nat):Int)=c.cells.getD i 0:=by omega
     rw [zAY e]
     have e3:([c.cells.getD i 0].contains ((x:Nat):Int))=false:=by
      simp only [List.contains_cons,List.contains_nil,zFs,zCf];exact e2
     rw [e3,zFs,u8]
theorem zDC {q:AA}(hq:q.cells<=256)(hc:c.cells.length<=LB)(h1:1<=q.symbols)(h2:q.symbols<=16)(hr:c.runs.length<=LB)(hn:c.cells.length+c.runs.length+6<=n):Yu n q c=some (Fg q c):=by
 unfold Yu pC;have:=pA hq hc h1 h2 hr c.cells.length 0 n (List.replicate 256 false) (by omega) (by omega) zB1 (fun x hx=>by rw [u8,zCe,zAA hx];rfl);refine Eq.trans this ?_;rw [←zHN];unfold Fg ZI Wx;simp only [Bool.and_assoc]
end
section
variable {c:AB} {n:Nat} {cells sy:Int}
end
def Ss (c:AB):Nat:=c.cells.length*(c.cells.length+2)+c.cells.length+c.runs.length+7
theorem sR (c:AB):Ss c=c.cells.length*(c.cells.length+2)+c.cells.length+c.runs.length+7:=rfl
def GE (q:AA):Nat:=q.values.length+2*Hq q.nbrs+(q.cons.map Ss).sum+q.cons.length+10
structure EC (q:AA):Prop where
 values:q.values.length<=LB
 nbrs: ∀ r∈q.nbrs,r.length<=LB
 cells: ∀ c∈q.cons,c.cells.length<=LB
 runs: ∀ c∈q.cons,c.runs.length<=LB
theorem i5: ∀ {l:List AB} {c:AB},c∈l -> Ss c<=(l.map Ss).sum
 | [],_,h=>by cases h
 | a::l,c,h=>by
  rw [zFg,List.sum_cons];rcases zCC.1 h with rfl | h
  ·omega
  ·have:=i5 h;omega
section
variable {q:AA} {n:Nat}
theorem zDW {b:Bool}:(F5 b 120==0)=b:=by cases b <;> rfl
theorem sF (hF:EC q)(h1:1<=q.cells)(h2:q.cells<=256)(h3:1<=q.symbols)(h4:q.symbols<=16)(h5:q.cons.length<=4096)(hn:GE q<=n): ∃ r:Int,X1 n q.cons q=some r/\ (0<=r↔q.cons.all (Fg q)=false):=by
 unfold X1 m4;have S:=Wg (fun n i=>Mu q.cons q n (.l1 i)) q.cons.length (q.cons.map Ss).sum (fun i=>if Fg q (q.cons.getD i default) then none else some (i:Int)) (fun n i Fw hi=>?_) (n:=n) (by unfold GE at hn;omega)
 ·rw [show Mu q.cons q n (.l1 0)=_ from S];cases hf:(List.range q.cons.length).findSome? (fun i=>if Fg q (q.cons.getD i default) then none else some (i:Int)) with
  | some r=>
   refine ⟨r,rfl,?_⟩;obtain ⟨i,hi,hr⟩:=zGR hf;have A8:i<q.cons.length:=by simpa using hi
   split at hr
   ·cases hr
   ·rename_i hx;cases hr;refine ⟨fun _=>?_,fun _=>by omega⟩;rw [List.all_eq_false];exact ⟨q.cons[i],zB0 A8,by simpa [A8] using hx⟩
  | none=>
   obtain ⟨m,hm⟩: ∃ m,n-q.cons.length=m+1:=⟨n-q.cons.length-1,by unfold GE at hn;omega⟩;refine ⟨-1,by rw [hm];simp [Mu,Xz],?_⟩;rw [zGc] at hf
   have:q.cons.all (Fg q)=true:=by
    rw [←kn (p:=Fg q) (d:=(default:AB)),zAX];intro i hi;have:=hf i hi;cases hc:Fg q (q.cons.getD i default) with
    | true=>rfl
    | false=>rw [hc] at this;simp at this
   simp [this]
 ·have AK:(i:Int)<(q.cons.length:Int):=by omega
  have hR:AH ((i:Int)+1):=by rw [Aw];omega
  have CS:q.cons.getD i default∈q.cons:=by rw [u8,zAE hi];exact zB0 hi
  have Av:=i5 CS;have zB5:=zDC (n:=n) h2 (hF.cells _ CS) h3 h4 (hF.runs _ CS) (by rw [sR (q.cons.getD i default)] at Av;omega)
  show Xz n (Mu q.cons q n) q.cons q (i:Int)=_
  generalize Mu q.cons q n=self
  simp only [Xz,WI,Zt,AK,hR,zGD,zAK,zGK,zHO,zFV,zAP,zB5,zAB];cases Fg q (q.cons.getD i default) <;> rfl
theorem gu (hF:EC q)(hn:GE q<=n):valid n q=some (F5 (DG q) 191):=by
 unfold valid gq DG;have hv:=W7 (lo:=0) (up:=99) hF.values (show q.values.length<n by unfold GE at hn;omega);have hg:=od hF.nbrs (show 2*Hq q.nbrs+1<=n by unfold GE at hn;omega)
 by_cases c1:q.cells<1
 ·have: ¬ 1<=q.cells:=by omega
  simp [c1,this,F5]
 have qO:1<=q.cells:=by omega
 by_cases c2:q.cells>256
 ·have: ¬ q.cells<=256:=by omega
  simp [c1,c2,this,F5]
 have qI:q.cells<=256:=by omega
 by_cases c3:q.symbols<1
 ·have: ¬ 1<=q.symbols:=by omega
  simp [c1,c2,c3,this,F5]
 have qH:1<=q.symbols:=by omega
 by_cases c4:q.symbols>16
 ·have: ¬ q.symbols<=16:=by omega
  simp [c1,c2,c3,c4,this,F5]
 have qG:q.symbols<=16:=by omega
 simp only [zAI c1,zAI c2,zAI c3,zAI c4,zAU qO,zAU qI,zAU qH,zAU qG,zAC,zCj,hv,hg,zAB,bne,zDW];cases ((q.values.length:Nat):Int)==q.symbols with
 | false=>rfl
 | true=>
 cases FH q.values 0 99 with
 | false=>rfl
 | true=>
 cases ((q.nbrs.length:Nat):Int)==q.cells with
 | false=>rfl
 | true=>
 cases NJ q.nbrs with
 | false=>rfl
 | true=>
 by_cases c5:((q.cons.length:Nat):Int)>4096
 ·have: ¬ q.cons.length<=4096:=by omega
  simp [c5,this,F5]
 have qF:q.cons.length<=4096:=by omega
 obtain ⟨r,r1,r2⟩:=sF hF qO qI qH qG qF hn;simp only [Y6,fD,r1,zAI c5,zAU qF,zAB,zAC,zCj,zCX,zDV,zGn];cases ha:q.cons.all (Fg q) with
 | false=>
  have:r>=0:=r2.2 ha;simp [this,F5]
 | true=>
  have: ¬ r>=0:=fun h=>by rw [r2.1 h] at ha;cases ha
  simp [this,F5]
theorem yN {k:Int}(h:1<=k/\ k<=9):([0,1,1,2,2,3,1,1,4,4]:List Int).getD k.toNat 0=Ic k:=by
 rcases US h with h | h | h | h | h | h | h | h | h <;> subst h <;> rfl
theorem zA (hv:DG q=true){i:Int}(h0:0<=i)(hi:i<(q.cons.length:Int)):1<=(q.cons.getD i.toNat default).kind/\ (q.cons.getD i.toNat default).kind<=9:=by
 have A8:i.toNat<q.cons.length:=by omega
 have CS:q.cons.getD i.toNat default∈q.cons:=by rw [u8,zAE A8];exact zB0 A8
 exact UR (mg ((EF hv).2.2.2.2.2 _ CS))
theorem bf (hF:EC q)(hn:GE q<=n)(i:Int):Ou n q i=some (Id q i):=by
 unfold Ou be Id;rw [gu hF hn];cases hv:DG q with
 | false=>rfl
 | true=>
  by_cases h0:i<0
  ·have: ¬ (0<=i/\ i<(q.cons.length:Int)):=by omega
   simp [F5,h0,this]
  ·by_cases hi:i>=(q.cons.length:Int)
   ·have: ¬ (0<=i/\ i<(q.cons.length:Int)):=by omega
    simp [F5,h0,hi,this]
   ·have hc:0<=i/\ i<(q.cons.length:Int):=by omega
    have hk:=zA hv hc.1 hc.2;have hg:(0<=i/\ i<(q.cons.length:Int))/\ (0<=(q.cons.getD i.toNat default).kind/\ (q.cons.getD i.toNat default).kind<((10:Nat):Int)):=⟨hc,by omega,by omega⟩;simp only [F5,zFV,zAB,bne_self_eq_false,zAC,zAI h0,zAI hi,zAA hg,zAA hc,yN hk,Bool.true_eq_false,zF2]
end
abbrev zGd:=@BitVec.ofInt_natCast
abbrev zHB:=@List.filter_eq_nil_iff
abbrev zHC:=@List.mem_range'_1
abbrev zHS:=@Go.Lib.hid
theorem sH (x k cI:Nat)(w:World)(GQ:((x:Int)==0)=false) 
 (key:IntKind.u64.wrap (bits BinOp.and IntKind.u64 (x:Int) (IntKind.u64.wrap (-(x:Int)))*285870213051353865)/288230376151711744=(cI:Int))
 (hi:cI<64) (hk:k<64) (DP:w.cell? ⟨1,cI,none⟩=some (.int .u8 k)):
 Calls Tryz.prog 151 #[.int .u64 x] w fun e w'=>e= .returned (.int .i64 k)/\ w=w':=by
 go_enter Tryz.func151,Tryz.ntmps151
 go_wp2_with (simp only [key])
 go_ret
 exact ⟨rfl,rfl⟩
theorem sI (x:Nat)(hx:x<18446744073709551616)(GQ:x≠0)(w:World)(hT:Ng w):
 Calls Tryz.prog 151 #[.int .u64 x] w fun e w'=>e= .returned (.int .i64 (Lib.ctz 64 x))/\ w=w':=by
 obtain ⟨YM,hk⟩:=Lib.lowest_bit 64 x GQ hx;obtain ⟨hi,zAD⟩:=Lib.deBruijn64_at _ hk;have DP:=hT _ hi;rw [zAD] at DP;exact sH x _ _ w (by simp;omega) (tz64_key x _ hx GQ YM) hi hk DP
theorem sG (x:Nat)(hx:x<18446744073709551616)(GQ:x≠0)(w:World)(hT:Ng w):
 Calls Tryz.prog 134 #[.int .u64 x] w fun e w'=>e= .returned (.int .i64 (Lib.ctz 64 x))/\ w=w':=by
 have h1:=sI x hx GQ w hT
 go_enter Tryz.func134,Tryz.ntmps134
 go_wp2_with (go_at_call 151;refine h1.mono ?_;rintro e w' ⟨rfl,rfl⟩)
 go_ret
 exact ⟨rfl,rfl⟩
def E5 (x:Nat):List Nat:=(List.range 64).filter fun s=>x.testBit s
theorem i6:E5 0= []:=by simp [E5]
theorem yO (k m s:Nat):(2 ^ k*(2*m+1)).testBit s=(decide (k<=s)&&(2*m+1).testBit (s-k)):=by
 rw [zF5,Nat.testBit_mul_two_pow]
theorem xY (m s:Nat):(2*m+1).testBit s=(decide (s=0)||(2*m).testBit s):=by
 cases s with
 | zero=>simp [Nat.testBit_zero]
 | succ s=>simp [Nat.testBit_succ];congr 1;omega
theorem wN: ∀ k,k<64 -> List.range 64=List.range k++k::List.range' (k+1) (63-k):=by decide+kernel
theorem i7 (x:Nat)(hx:x<18446744073709551616)(GQ:x≠0):E5 x=Lib.ctz 64 x::E5 (x&&& (x-1)):=by
 have hc:Lib.ctz 64 x=Lib.ctzFrom 64 x:=by simp [Lib.ctz,GQ]
 obtain ⟨m,hm,hk⟩:=Lib.ctzFrom_spec 64 x (by omega) (by simpa using hx);rw [hc]
 generalize Lib.ctzFrom 64 x=k at*
 have hb: ∀ s,x.testBit s=(decide (k<=s)&&(decide (s-k=0)||(2*m).testBit (s-k))):=fun s=>by rw [hm,yO,xY]
 have hy: ∀ s,(x&&& (x-1)).testBit s=(x.testBit s&&decide (s≠k)):=by
  intro s;have hp:0<2 ^ k:=Nat.two_pow_pos k
  have O9:x-1=2 ^ k*(2*m)+(2 ^ k-1):=by
   rw [hm,Nat.mul_add,zCm];omega
  have Iu:(x-1).testBit s=if s<k then (2 ^ k-1).testBit s else (2*m).testBit (s-k):=by
   rw [O9,Nat.testBit_two_pow_mul_add _ (by omega)]
  rw [Nat.testBit_and,Iu,hb]
  by_cases h1:s<k
  ·rw [zAI (by omega: ¬ k<=s)];simp
  ·rw [zAY h1]
   by_cases h2:s=k
   ·subst h2;simp
   ·rw [zAU (by omega:k<=s),zAI (by omega: ¬ s-k=0)];simp [h2]
 unfold E5;have hr:List.range 64=List.range k++k::List.range' (k+1) (63-k):=wN k hk;rw [hr];simp only [List.filter_append,List.filter_cons]
 have h1: ∀ y:Nat,(∀ s,s<k -> y.testBit s=false) -> (List.range k).filter (fun s=>y.testBit s)= []:=fun y h=>by
  rw [zHB];intro s hs;simp [h s (zBf.1 hs)]
 rw [h1 x (fun s hs=>by rw [hb];simp;omega),h1 (x&&& (x-1)) (fun s hs=>by rw [hy,hb];simp;omega)];have h2:x.testBit k=true:=by rw [hb];simp
 have h3:(x&&& (x-1)).testBit k=false:=by rw [hy];simp
 simp only [h2,h3,zFe,zFV,zCZ,zF2]
 congr 1
 apply List.filter_congr;intro s hs;rw [hy];have:=zHC.1 hs;simp;omega
theorem zE6 (x:Nat)(hx:x<9223372036854775808)(GQ:x≠0):bits .and .i64 (x:Int) ((x:Int)-1)=((x&&& (x-1):Nat):Int):=by
 have e:((x:Int)-1)=((x-1:Nat):Int):=by omega
 have AK:x&&& (x-1)<=x:=Nat.and_le_left;rw [e]
 have h1:(BitVec.ofInt 64 (x:Int)).toNat=x:=by
  rw [zGd,BitVec.toNat_ofNat];exact zGk (by omega)
 have h2:(BitVec.ofInt 64 ((x-1:Nat):Int)).toNat=x-1:=by
  rw [zGd,BitVec.toNat_ofNat];exact zGk (by omega)
 show IntKind.i64.wrap ((BitVec.ofInt 64 (x:Int)&&& BitVec.ofInt 64 ((x-1:Nat):Int)).toNat:Int)=_
 rw [BitVec.toNat_and,h1,h2];have hm:((x&&& (x-1):Nat):Int) % 2 ^ 64=((x&&& (x-1):Nat):Int):=by omega
 simp only [IntKind.wrap,IntKind.signed,IntKind.bits,hm];rw [zAY (by rw [zCj,zCJ];omega)]
def jl (w:World)(b o:Nat):Nat:=match w.cell? ⟨b,o,none⟩ with
 | some (.int _ x)=>x.toNat
 | _=>0
def WR (s:Nat):List DV:=[.int .i64 s]
theorem hE1 (R:Nat -> Prop)(W:World)(x:Nat):YV (WR x) R W #[.int .i64 x]:=⟨rfl,fun j hj=>by
 have:j=0:=Nat.lt_one_iff.1 hj;subst this;rfl⟩
set_option maxRecDepth 100000 in
set_option maxHeartbeats 4000000 in
theorem sT (set b o:Nat)(w:World)(Q8:set<9223372036854775808)(hT:Ng w)(hb:w.cell? ⟨b,o,none⟩=some (.int .i64 set))(HI:w.frozen? ⟨b,o,none⟩=false)(oA:b≠1):
 Nn Tryz.prog 133 #[.pointer (some ⟨b,o,none⟩)] YV ((E5 set).map WR) SQ (fun k=>k=b) (fun k=>k=1) w:=by
 intro l J Jx W hJ hJx hU hY h0 _;have HY:=zHS hY;clear hY;have oB:W.cell? ⟨b,o,none⟩=some (.int .i64 set):=hU.cell (fun h=>h (.inl rfl)) hb
 have hfW:W.frozen? ⟨b,o,none⟩=false:=by
  rw [World.frozen?_of_block (hU.block b (zFX w _ hb) (fun h=>h (.inl rfl)))];exact HI
 have oF:Ng W:=fun j hj=>hU.cell (fun h=>h (.inr rfl)) (hT j hj)
 have hS: ∀ W',W.heap.size<=W'.heap.size -> Dq (fun k=>k=b) (fun k=>k=1) W':=fun W' h=>⟨fun k e e2=>oA (e.symm.trans e2),fun k hk=>zBa (hk.elim (fun e=>e▸zFX W _ oB) (fun e=>e▸zFX W _ (oF 0 (by decide)))) h⟩
 obtain ⟨G,hG⟩: ∃ G:Nat -> Prop,(fun k=>k=b)=G:=⟨_,rfl⟩;obtain ⟨R,oK⟩: ∃ R:Nat -> Prop,(fun k=>k=1)=R:=⟨_,rfl⟩;rw [hG,oK] at h0 hS;have eA:G b:=by rw [←hG]
 have hRt:R 1:=by rw [←oK]
 refine callsIn_of_wp Tryz.func133 rfl trivial ?_ rfl;simp only [Tryz.ntmps133,zG8,zCl,zFd,Nat.reduceAdd,Nat.reduceSub,Array.replicate_succ,Array.replicate_zero,List.push_toArray,List.append_toArray,zFe,List.cons_append]
 gi_wp2
 gi_loopw [3,4,5,6,7,8,9,10,11,12,13,14] (fun _ _ _ _ _ _ _ _ _ _ _ _ wr=>∃ (i x:Nat),W.heap.size<=wr.heap.size/\ x<9223372036854775808/\ i<=(E5 set).length/\ Hid ((E5 set).drop i=E5 x)/\ Hid (J i G R wr)/\ wr.cell? ⟨b,o,none⟩=some (.int .i64 x)/\ wr.frozen? ⟨b,o,none⟩=false/\ Hid (Ng wr))
  (fun _ _ _ _ _ _ _ _ _ _ _ _ wr=>jl wr b o)
 case atStart=>exact ⟨0,set,zBl _,Q8,zFo _,zHS rfl,zHS h0,oB,hfW,zHS oF⟩
 case round=>
  obtain ⟨i,x,Av,hx,B8,hd,hj,hc,hf,ht⟩:=hrel
  by_cases GQ:x=0
  ·subst GQ
   have C0:i=(E5 set).length:=by
    have:=congrArg List.length hd.out;rw [zGm,i6,zFd] at this;omega
   gi_wp2
   go_end0
   exact ⟨G,R,hS _ Av,.inl ⟨C0▸hj.out,_,rfl⟩⟩
  ·have N0:((x:Int)==0)=false:=by simp [GQ]
   have PX:(E5 set).drop i=Lib.ctz 64 x::E5 (x&&& (x-1)):=by rw [hd.out,i7 x (by omega) GQ]
   have C0:i<(E5 set).length:=by
    rcases zCb i (E5 set).length with h | h
    ·exact h
    ·rw [zCc h] at PX;cases PX
   have hie:(E5 set)[i]=Lib.ctz 64 x:=by
    have:=zBw C0;rw [PX] at this;injection this with h1 h2;exact h1.symm
   obtain ⟨fn,tmps,Pv,body,hy,hR⟩:=HY.out i (WR (Lib.ctz 64 x)) #[.int .i64 (Lib.ctz 64 x)] G R wr (by rw [zBt,zAE C0,hie];rfl) (hE1 R wr _) hj.out (hS _ Av);have hR':=zHS hR;clear hR;have htz:=zHS (sG x (by omega) GQ wr ht.out);have zCF:=zHS PX;clear PX hd
   gi_wp2_with (first | refine ⟨trivial,rfl,?_⟩ | (gi_at_call 134;refine (zGj.2 htz.out).mono ?_;rintro e w' ⟨rfl,rfl⟩))
   refine ⟨rfl,hR'.out.mono ?_⟩;rintro e W1 ⟨Hd,(⟨rfl,hj1⟩ | ⟨rfl,O9⟩)⟩
   ·have YX:W1.cell? ⟨b,o,none⟩=some (.int .i64 x):=Hd.cell (fun h=>h (.inl eA)) hc
    have hf1:W1.frozen? ⟨b,o,none⟩=false:=by
     rw [World.frozen?_of_block (Hd.block b (zFX wr _ hc) (fun h=>h (.inl eA)))];exact hf
    have nE:Ng W1:=fun j hj=>Hd.cell (fun h=>h (.inr hRt)) (ht.out j hj)
    have Cx:AN G W1 (W1.setCell ⟨b,o,none⟩ (.int .i64 ((x&&& (x-1):Nat):Int))):=(AN.refl G W1).setCell (fun _=>eA) _;have zAF:=zAa Av (zAa Hd.size Cx.size);have Hg:=zHS ((hJ _).same (hS _ (zAa Av Hd.size)) hj1 Cx)
    have ht2:Hid (Ng (W1.setCell ⟨b,o,none⟩ (.int .i64 ((x&&& (x-1):Nat):Int)))):=zHS fun j hj=>
     ((AN.refl (fun k=>k=b) W1).setCell (fun _=>rfl) _).cell (fun e=>oA e.symm) (nE j hj)
    have AK:x&&& (x-1)<x:=Nat.lt_of_le_of_lt Nat.and_le_right (by omega);clear Cx nE
    gi_wp2
    rw [zE6 x hx GQ];have It:(W1.setCell ⟨b,o,none⟩ (.int .i64 ((x&&& (x-1):Nat):Int))).cell? ⟨b,o,none⟩=some (.int .i64 ((x&&& (x-1):Nat):Int)):=World.cell?_setCell_same' W1 _ _ (by rw [YX];rfl);refine ⟨⟨_,_,_,_,_,_,_,_,_,_,_,_,⟨i+1,x&&& (x-1),zAF,by omega,C0,zHS ?_,Hg,It,?_,ht2⟩,rfl⟩,?_⟩
    ·rw [←List.drop_drop,zCF.out];rfl
    ·rw [World.frozen?_setCell];exact hf1
    ·unfold jl;rw [It,hc]
     show ((x&&& (x-1):Nat):Int).toNat<(x:Int).toNat
     omega
   ·gi_wp2
    refine bodyPost_ret (results_none rfl _ _ _) rfl ?_;exact ⟨G,R,hS _ (zAa Av Hd.size),.inr ⟨⟨_,rfl⟩,O9⟩⟩
def Be (x:Int):List Int:=(E5 x.toNat).map fun (s:Nat)=>(s:Int)
theorem zDg (x:Int):(Be x).map Bj=(E5 x.toNat).map WR:=by
 unfold Be;rw [List.map_map];rfl
theorem sS {x:Int}(hx:(0:Int)<=x/\ x<9223372036854775808)(w:World)(b o:Nat)(u:Value)(hg:GG.gi w)(CR:GG.ng<=b)(hb: ∃ cs t,w.heap[b]? =some (.cells cs t (0,0)))(hc:w.cell? ⟨b,o,none⟩=some u)(hr:u= .int .i64 x):
 Nn Tryz.prog 133 #[.pointer (some ⟨b,o,none⟩)] YV ((Be x).map Bj) SQ (fun k=>k=b) (fun k=>k=1) w:=by
 rw [zDg];obtain ⟨cs,t,hb⟩:=hb;have CR:2<=b:=CR;refine sT x.toNat b o w (by omega) hg.1 ?_ ?_ (by omega)
 ·rw [hc,hr];congr 2;omega
 ·unfold World.frozen?;simp [hb]
theorem ES.iterOf {P:Program}{Γ:Aj}{f gf:Nat}{ds:List DV}{c:Nat -> DV}{d:DV}{encs:List (List DV)}{Rd:Nat -> Prop}(h0:ES P Γ f ds [] (.fn gf 1 c) [some (.cells [d])] true)(hc:c 0= .ref 0 0)(Ey:ds.all Fb=true) 
 (eg: ∀ args W,(callFunc gf args).run P W= .ok (.enter gf args) W)
 (yk: ∀ (w:World) (b o:Nat) (u:Value),Γ.gi w -> Γ.ng<=b -> (∃ cs t,w.heap[b]? =some (.cells cs t (0,0))) -> w.cell? ⟨b,o,none⟩=some u -> AI (fun _=>False) w d [] u -> Nn P gf #[.pointer (some ⟨b,o,none⟩)] YV encs SQ (fun k=>k=b) Rd w)
 (hd:Qj d=true) (hRd: ∀ b,Rd b -> b<Γ.ng) (h:DH):ES P Γ f ds h (.it h.length) (h++[some (.iter encs)]) true:=by
 refine ⟨h0.1,fun N ρ w args HR CD=>?_⟩;refine (h0.2 (MS N h ρ) [] w args (RB (fun b hb=>HR.lt2 hb) HR.gi) ⟨CD.1,fun i hi=>?_⟩).mono ?_
 ·have hx:=Ml (zAX.1 Ey (ds.getD i .any) (by simp [hi]));exact AI.out _ (Dk (fun b hb=>P6.1 hb) []) (hx _ _ _ _ (CD.2 i hi))
 ·rintro e w' ⟨v,rfl,⟨⟨ρ',g1,g2,g3,g4⟩,g5⟩⟩;have hE:=g5 rfl;obtain ⟨p,hp,DN⟩:=g1.obj 0 _ rfl;have DN:AQ w' p 1 _:=DN;have hf: ∀ b,p.foot b -> w.heap.size<=b:=fun b hb=>(g3.grow b ⟨0,_,p,rfl,hp,hb⟩).resolve_left fun ⟨k,o',p',q1,_⟩=>by simp at q1
  obtain ⟨lb,hv,hl,M9⟩:=g2;obtain ⟨u,hu,hr⟩:=M9 0 (by omega);rw [hc] at hr;obtain ⟨p',A5,Q5⟩:=hr;have ep:p'=p:=zAV (A5.symm.trans hp);subst ep
  have zBr:lb= #[.pointer (some ⟨p'.blk,p'.off,none⟩)]:=by
   apply Array.ext
   ·simp [hl]
   ·intro i h1 h2;have:i=0:=by omega
    subst this;have:=zAL.1 hu;obtain ⟨_,e⟩:=this;rw [e,Q5];rfl
  subst zBr;obtain ⟨u2,c1,c2⟩:=AQ.cell DN (j:=0) (by omega);have FK:p'.foot=fun b=>b=p'.blk:=DN.1
  have CR:Γ.ng<=w.heap.size:=Γ.lo _ HR.gi;have DP:=g1.cel 0 _ p' p'.blk rfl hp (by rw [FK]);refine ⟨v,rfl,⟨⟨ρ++[{ p' with val:=v }],HR.snoc hE (fun b hb=>⟨hf b hb,(g1.cel 0 _ p' b rfl hp hb).2.2⟩) ?_,⟨{ p' with val:=v },by rw [←HR.len];simp,rfl⟩,Ap.snoc HR hE hf,fun _ _ h=>EO h⟩,g5⟩⟩;obtain ⟨_,cs,t,Do,_⟩:=DN;refine ⟨gf,_,Rd,⟨hv,eg⟩,?_,fun b hb=>?_,fun b hb=>?_⟩
  ·show Nn P gf _ YV encs SQ p'.foot Rd w'
   rw [FK];refine yk w' _ _ u2 g1.gi DP.1 ⟨cs,t,Do⟩ (by simpa using c1) ?_;exact AI.out _ (Dk (fun b hb=>hb.elim) []) (ao hd c2)
  ·have DQ:=hRd b hb;refine ⟨fun hm=>?_,zBa (zBa DQ CR) hE.size⟩;rcases hm with hm | hm
   ·have:=(HR.nlt b hm).2;omega
   ·rcases MO.snoc HR hm with hm | hm
    ·have:=HR.low hm;omega
    ·have:=hf b hm;omega
  ·obtain ⟨_,_,c,t,z,h4⟩:=g1.cel 0 _ p' b rfl hp hb;exact (zAL.1 h4).1
set_option maxRecDepth 100000
set_option maxHeartbeats 40000000
inductive Y5 where
 | l1 (x7:Int)
def VY (n:Nat)(self:Y5 -> Option Bool)(sets:List Int)(x7:Int):Option Bool:= bif (decide (x7<(sets.length:Int))) then if 0<=x7/\ x7<(sets.length:Int) then bif ((sets.getD ((x7).toNat) 0)==0) then some true else if AH (x7+1) then self (.l1 (x7+1)) else none else none else some false
def pb (n:Nat)(self:Y5 -> Option Bool)(sets:List Int):Option Bool:= self (.l1 0)
def Rt (sets:List Int):Nat -> Y5 -> Option Bool
 | 0,_=>none
 | n+1,.l1 x7=>VY n (Rt sets n) sets x7
def VZ (n:Nat)(sets:List Int):Option Bool:=pb n (Rt sets n) sets
def zDq (n B:Nat)(N:Yd 0)(sets:List Int)(r:Bool):Y5 -> Prop
 | .l1 x7=>∀ m0:Nat,n<=m0 -> TW B N (FQ Tryz.f80 0 (.bool r) []) (Ax m0 (A7 (AY Tryz.f80) 0 [])) ⟨AF 14 [(5,.ints sets),(6,.i (sets.length:Int)),(7,.i x7)],[]⟩
theorem zDr (B:Nat)(N:Yd 0)(sets:List Int):Al (Rt sets) (zDq · B N sets):=ia (fun _=>rfl) fun n AJ pt r h=>by
 cases pt
 case l1 x7=>
  intro m0 AC;refine rd AC fun m0 AC=>?_
  revert r;apply gO;exact bi 8 (gi (bi 12 (lE AD [2] []) (gw 13 (lG AD [] (AJ _ _ · m0 AC))))) (lE AD [2] [])
theorem pa {n:Nat}{sets:List Int}{r:Bool}(h:VZ n sets=some r):EQ 80 [.ints sets] [] (.bool r) [] true:=by
 refine ot Tryz.func80 fun B N=>?_
 revert r;apply gO;exact lN AD [] ((zDr B N sets n) _ _ · n Nat.le.refl)
def bv (n:Nat)(pos:List Int):Option Bool:= (VZ n pos).bind fun y1=> some y1
def GP (n:Nat)(pos:List Int):Option Bool:=bv n pos
theorem O0 {n:Nat}{pos:List Int}{r:Bool}(h:GP n pos=some r):EQ 53 [.ints pos] [] (.bool r) [] true:=by
 unfold GP bv at h;refine ot Tryz.func53 fun B N=>?_
 revert r;apply gO;exact cf pa [] fun _=>lE AD [2] []
def bM (n:Nat)(pos:List Int):Option ((List Int)):= (VZ n pos).bind fun y1=> bif y1 then if ((pos.length:Int):Int)=(pos.length:Int)/\ 0<=(pos.length:Int)/\ ((pos.length:Int):Int)<=1000000000000 then if pos.length=(List.replicate pos.length (0:Int)).length then some (List.replicate pos.length (0:Int)) else none else none else some pos
def Qq (n:Nat)(pos:List Int):Option ((List Int)):=bM n pos
theorem xh {n:Nat}{pos:List Int}{r:(List Int)}(h:Qq n pos=some r):EQ 48 [.ints pos] [] (.ints r) [] true:=by
 unfold Qq bM at h;refine ot Tryz.func48 fun B N=>?_
 revert r;apply gO;exact cf pa [] fun _=>bi 4 (gi (gn fun g1=>lF fun p=>ez AD [2] [0] p [0] (H0.g g1))) (lE AD [2] [])
inductive XE where
 | l1 (x20:Int)
def Tw (n:Nat)(self:XE -> Option Int)(q:AA)(pos:List Int)(x20:Int):Option Int:= bif (decide (x20<(pos.length:Int))) then if 0<=x20/\ x20<(pos.length:Int) then bif (decide ((pos.getD ((x20).toNat) 0)<0)) then some 250 else if 0<=q.symbols/\ q.symbols<=(IntKind.i64.bits:Int) then bif (decide ((pos.getD ((x20).toNat) 0)>=(IntKind.i64.wrap (1*2 ^ (q.symbols).toNat)))) then some 250 else if AH (x20+1) then self (.l1 (x20+1)) else none else none else none else some 0
def lH (n:Nat)(self:XE -> Option Int)(q:AA)(pos:List Int):Option Int:= (valid n q).bind fun y1=> bif (y1 != 0) then some y1 else bif ((pos.length:Int) != q.cells) then some 250 else self (.l1 0)
def OU (q:AA)(pos:List Int):Nat -> XE -> Option Int
 | 0,_=>none
 | n+1,.l1 x20=>Tw n (OU q pos n) q pos x20
def Ew (n:Nat)(q:AA)(pos:List Int):Option Int:=lH n (OU q pos n) q pos
def wn (n B:Nat)(N:Yd 0)(q:AA)(pos:List Int)(r:Int):XE -> Prop
 | .l1 x20=>∀ m0:Nat,n<=m0 -> TW B N (FQ Tryz.f21 0 (.i r) []) (Ax m0 (A7 (AY Tryz.f21) 0 [])) ⟨AF 34 [(2,.ref 0 0),(18,.ints pos),(19,.i (pos.length:Int)),(20,.i x20)],[oC (AG q)]⟩
theorem wo (B:Nat)(N:Yd 0)(q:AA)(pos:List Int):Al (OU q pos) (wn · B N q pos):=ia (fun _=>rfl) fun n AJ pt r h=>by
 cases pt
 case l1 x20=>
  intro m0 AC;refine rd AC fun m0 AC=>?_
  revert r;apply gO;exact bi 21 (gi (bi 25 (lE AD [4] []) (gi (bi 31 (lE AD [4] []) (gw 33 (lG AD [0] (AJ _ _ · m0 AC))))))) (lE AD [4] [])
theorem KH {n:Nat}{q:AA}{pos:List Int}{r:Int}(h:Ew n q pos=some r):EQ 21 [.agg 5 (L1 (AG q)),.ints pos] [] (.i r) [] true:=by
 refine ot Tryz.func21 fun B N=>?_
 revert r;apply gO;exact cf gp [oC (AG q)] fun _=>bi 11 (lE AD [4] []) (bi 17 (lE AD [4] []) (lN AD [0] ((wo B N q pos n) _ _ · n Nat.le.refl)))
def pp (n:Nat)(s_:List Int):Option ((List Int)):= if 0<s_.length/\ ((True)/\ (0=0/\ 0=([]:List Int).length)/\ ([]:List Int).length+s_.length<=A3) then if ([]:List Int).length+s_.length=(([]:List Int)++s_).length then some (([]:List Int)++s_) else none else none
def ZE (n:Nat)(s_:List Int):Option ((List Int)):=pp n s_
theorem zEG {n:Nat}{s_:List Int}{r:(List Int)}(h:ZE n s_=some r):EQ 115 [.ints s_] [] (.msl 0 1 0 r.length) [oI r] true:=by
 refine ot Tryz.func115 fun B N=>?_
 revert r;apply gO;exact gc (gi (gi (gn fun g2=>lF fun p=>el AD [2] [1] p [] H0 [.msl 0 1 0 (([]:List Int).length+s_.length)] (AL.mslN g2))))
def fI (n:Nat)(s_:List Bool):Option ((List Bool)):= if 0<s_.length/\ ((True)/\ (0=0/\ 0=([]:List Bool).length)/\ ([]:List Bool).length+s_.length<=A3) then if ([]:List Bool).length+s_.length=(([]:List Bool)++s_).length then some (([]:List Bool)++s_) else none else none
def Pj (n:Nat)(s_:List Bool):Option ((List Bool)):=fI n s_
theorem pq {n:Nat}{s_:List Bool}{r:(List Bool)}(h:Pj n s_=some r):EQ 137 [.bools s_] [] (.msl 0 1 0 r.length) [some (.bools r)] true:=by
 refine ot Tryz.func137 fun B N=>?_
 revert r;apply gO;exact gc (gi (gi (gn fun g2=>lF fun p=>el AD [2] [1] p [] H0 [.msl 0 1 0 (([]:List Bool).length+s_.length)] (AL.mslN g2))))
def fL (n:Nat)(q:AA)(i:Int)(pos:List Int):Option Int:= (Ou n q i).bind fun y1=> bif (y1.2 != 0) then some y1.2 else (Ew n q pos).bind fun y2=> some y2
def Rz (n:Nat)(q:AA)(i:Int)(pos:List Int):Option Int:=fL n q i pos
theorem zEM {n:Nat}{q:AA}{i:Int}{pos:List Int}{r:Int}(h:Rz n q i pos=some r):EQ 98 [.agg 5 (L1 (AG q)),.i i,.ints pos] [] (.i r) [] true:=by
 unfold Rz fL at h;refine ot Tryz.func98 fun B N=>?_
 revert r;apply gO;exact cf bc [oC (AG q)] fun _=>bi 16 (lE AD [6] []) (cf KH [oC (AG q)] fun _=>lE AD [6] [])
inductive Yg where
 | l1 (Ch:Int)
def U8 (n:Nat)(self:Yg -> Option Int)(g_:List (List Int))(sets:List (List Bool))(Ch:Int):Option Int:= bif (decide (Ch<(sets.length:Int))) then if 0<=Ch/\ Ch<(sets.length:Int) then bif ((((sets.getD ((Ch).toNat) []).length:Nat):Int) != (g_.length:Int)) then some 1 else if AH (Ch+1) then self (.l1 (Ch+1)) else none else none else some 0
def oU (n:Nat)(self:Yg -> Option Int)(g_:List (List Int))(sets:List (List Bool)):Option Int:= (VB n g_).bind fun y1=> bif (y1 != 0) then some y1 else self (.l1 0)
def RU (g_:List (List Int))(sets:List (List Bool)):Nat -> Yg -> Option Int
 | 0,_=>none
 | n+1,.l1 Ch=>U8 n (RU g_ sets n) g_ sets Ch
def NI (n:Nat)(g_:List (List Int))(sets:List (List Bool)):Option Int:=oU n (RU g_ sets n) g_ sets
def zCp (n B:Nat)(N:Yd 0)(g_:List (List Int))(sets:List (List Bool))(r:Int):Yg -> Prop
 | .l1 Ch=>∀ m0:Nat,n<=m0 -> TW B N (FQ Tryz.f139 0 (.i r) []) (Ax m0 (A7 (AY Tryz.f139) 0 [])) ⟨AF 25 [(0,.sl 1 g_.length (AO Ac g_)),(13,.sl 1 sets.length (AO ZK sets)),(14,.i (sets.length:Int)),(15,.i Ch)],[]⟩
theorem zCq (B:Nat)(N:Yd 0)(g_:List (List Int))(sets:List (List Bool)):Al (RU g_ sets) (zCp · B N g_ sets):=ia (fun _=>rfl) fun n AJ pt r h=>by
 cases pt
 case l1 Ch=>
  intro m0 AC;refine rd AC fun m0 AC=>?_
  revert r;apply gO;exact bi 16 (gi (bi 23 (lE AD [4] []) (gw 24 (lG AD [] (AJ _ _ · m0 AC))))) (lE AD [4] [])
theorem oS {n:Nat}{g_:List (List Int)}{sets:List (List Bool)}{r:Int}(h:NI n g_ sets=some r):EQ 139 [.sl 1 g_.length (AO Ac g_),.sl 1 sets.length (AO ZK sets)] [] (.i r) [] true:=by
 refine ot Tryz.func139 fun B N=>?_
 revert r;apply gO;exact cf oa [] fun _=>bi 11 (lE AD [4] []) (lN AD [] ((zCq B N g_ sets n) _ _ · n Nat.le.refl))
end Go.Proofs.YtodinaconebmdaaGreatDoor
namespace Go.Proofs.YtodinaconebmdaaGreatDoor
open Go.RowKit
set_option maxRecDepth 100000
set_option maxHeartbeats 40000000
theorem uj:Az (A4 Tryz.f120 0) [] (List.range 18) [18]:=by unfold Az;kernel_rfl
def tV:Bi:=fun i=>match i with
 | 0=>.ord [] (List.range 18) [18]
 | _=>.no
def bY (n:Nat)(cell ss:Int)(c:AB)(q:AA)(pos:List Int)(ln:Nat)(lost:List Int):Option ((List Int)):= if (0<=cell/\ cell<(ln:Int))/\ 0+((cell).toNat)<lost.length/\ (0<=cell/\ cell<(pos.length:Int)) then some (lost.set (0+((cell).toNat)) (bits .or .i64 (lost.getD (0+((cell).toNat)) 0) (bits .and .i64 (pos.getD ((cell).toNat) 0) ss))) else none
def Dn (n:Nat)(cell ss:Int)(c:AB)(q:AA)(pos:List Int)(ln:Nat)(lost:List Int):Option ((List Int)):=bY n cell ss c q pos ln lost
theorem GN {n:Nat}{cell ss:Int}{c:AB}{q:AA}{pos:List Int}{ln:Nat}{lost:List Int}{r:(List Int)}(h:Dn n cell ss c q pos ln lost=some r):EQ 120 [.ref 0 0,.i cell,.i ss] [oW c q pos 1 ln,oI lost] (.tup 0 (fun j=>([]:List DV).getD j .any)) [oW c q pos 1 ln,oI r] false:=by
 refine ot Tryz.func120 fun B N=>?_
 revert r;apply gO;exact jg uj (gc (gn fun g0=>jg g0 (gc (gn fun g1=>jg g1 (gi (jg g0 (jg g1 (lE tV [] [0,1]))))))))
theorem ud:Az (A4 Tryz.f121 0) [] (List.range 22) [22]:=by unfold Az;kernel_rfl
def tU:Bi:=fun i=>match i with
 | 0=>.ord [] (List.range 22) [22]
 | _=>.no
def bF (n:Nat)(cell:Int)(c:AB)(q:AA)(pos:List Int)(ln:Nat)(lost:List Int):Option ((List Int)):= if (0<=cell/\ cell<(ln:Int))/\ 0+((cell).toNat)<lost.length/\ (0<=cell/\ cell<(pos.length:Int)) then some (lost.set (0+((cell).toNat)) (bits .or .i64 (lost.getD (0+((cell).toNat)) 0) (bits .andNot .i64 (pos.getD ((cell).toNat) 0) c.set))) else none
def Gy (n:Nat)(cell:Int)(c:AB)(q:AA)(pos:List Int)(ln:Nat)(lost:List Int):Option ((List Int)):=bF n cell c q pos ln lost
theorem Mj {n:Nat}{cell:Int}{c:AB}{q:AA}{pos:List Int}{ln:Nat}{lost:List Int}{r:(List Int)}(h:Gy n cell c q pos ln lost=some r):EQ 121 [.ref 0 0,.i cell] [oW c q pos 1 ln,oI lost] (.tup 0 (fun j=>([]:List DV).getD j .any)) [oW c q pos 1 ln,oI r] false:=by
 refine ot Tryz.func121 fun B N=>?_
 revert r;apply gO;exact jg ud (gc (gn fun g0=>jg g0 (gc (gn fun g1=>jg g1 (gi (jg g0 (jg g1 (lE tU [] [0,1]))))))))
inductive VX where
 | l1 (x3 x4 BD:Int)
 | l2 (x3 x4 CA:Int) (o1:List Int)
def VW (n:Nat)(self:VX -> Option (Bool×(List Int)))(c:AB)(q:AA)(pos:List Int)(ln:Nat)(lost:List Int)(x3 x4 BD:Int):Option (Bool×(List Int)):= bif (decide (BD<(c.cells.length:Int))) then if (0<=BD/\ BD<(c.cells.length:Int))/\ (0<=(c.cells.getD ((BD).toNat) 0)/\ (c.cells.getD ((BD).toNat) 0)<(pos.length:Int))/\ AH ((pos.getD ((c.cells.getD ((BD).toNat) 0).toNat) 0)-1) then bif ((bits .and .i64 (pos.getD ((c.cells.getD ((BD).toNat) 0).toNat) 0) ((pos.getD ((c.cells.getD ((BD).toNat) 0).toNat) 0)-1))==0) then if AH (BD+1) then self (.l1 (bits .or .i64 x3 (pos.getD ((c.cells.getD ((BD).toNat) 0).toNat) 0)) (bits .or .i64 x4 (bits .and .i64 x3 (pos.getD ((c.cells.getD ((BD).toNat) 0).toNat) 0))) (BD+1)) else none else if AH (BD+1) then self (.l1 x3 x4 (BD+1)) else none else none else self (.l2 x3 x4 0 lost)
def VV (n:Nat)(self:VX -> Option (Bool×(List Int)))(c:AB)(q:AA)(pos:List Int)(ln:Nat)(lost:List Int)(x3 x4 CA:Int)(o1:List Int):Option (Bool×(List Int)):= bif (decide (CA<(c.cells.length:Int))) then if (0<=CA/\ CA<(c.cells.length:Int))/\ (0<=(c.cells.getD ((CA).toNat) 0)/\ (c.cells.getD ((CA).toNat) 0)<(pos.length:Int))/\ AH ((pos.getD ((c.cells.getD ((CA).toNat) 0).toNat) 0)-1) then bif ((bits .and .i64 (pos.getD ((c.cells.getD ((CA).toNat) 0).toNat) 0) ((pos.getD ((c.cells.getD ((CA).toNat) 0).toNat) 0)-1))==0) then (Dn n (c.cells.getD ((CA).toNat) 0) (bits .or .i64 (bits .andNot .i64 x3 (pos.getD ((c.cells.getD ((CA).toNat) 0).toNat) 0)) x4) c q pos ln o1).bind fun y1=> if AH (CA+1) then self (.l2 x3 x4 (CA+1) y1) else none else (Dn n (c.cells.getD ((CA).toNat) 0) x3 c q pos ln o1).bind fun y1=> if AH (CA+1) then self (.l2 x3 x4 (CA+1) y1) else none else none else some (true,o1)
def pZ (n:Nat)(self:VX -> Option (Bool×(List Int)))(c:AB)(q:AA)(pos:List Int)(ln:Nat)(lost:List Int):Option (Bool×(List Int)):= self (.l1 0 0 0)
def Kn (c:AB)(q:AA)(pos:List Int)(ln:Nat)(lost:List Int):Nat -> VX -> Option (Bool×(List Int))
 | 0,_=>none
 | n+1,.l1 x3 x4 BD=>VW n (Kn c q pos ln lost n) c q pos ln lost x3 x4 BD
 | n+1,.l2 x3 x4 CA o1=>VV n (Kn c q pos ln lost n) c q pos ln lost x3 x4 CA o1
def Rr (n:Nat)(c:AB)(q:AA)(pos:List Int)(ln:Nat)(lost:List Int):Option (Bool×(List Int)):=pZ n (Kn c q pos ln lost n) c q pos ln lost
def zDn (n B:Nat)(N:Yd 2)(c:AB)(q:AA)(pos:List Int)(ln:Nat)(lost:List Int)(r:Bool×(List Int)):VX -> Prop
 | .l1 x3 x4 BD=>∀ m0:Nat,n<=m0 -> TW B N (FQ Tryz.f106 2 (.bool r.1) [oW c q pos 1 ln,oI r.2]) (Ax m0 (A7 (AY Tryz.f106) 0 [])) ⟨AF 77 [(0,.ref 0 0),(3,.i x3),(4,.i x4),(15,.ints c.cells),(16,.i (c.cells.length:Int)),(17,.i BD)],[oW c q pos 1 ln,oI lost]⟩
 | .l2 x3 x4 CA o1=>∀ m0:Nat,n<=m0 -> TW B N (FQ Tryz.f106 2 (.bool r.1) [oW c q pos 1 ln,oI r.2]) (Ax m0 (A7 (AY Tryz.f106) 2 [])) ⟨AF 77 [(0,.ref 0 0),(3,.i x3),(4,.i x4),(46,.ints c.cells),(47,.i (c.cells.length:Int)),(48,.i CA)],[oW c q pos 1 ln,oI o1]⟩
theorem zDo (B:Nat)(N:Yd 2)(c:AB)(q:AA)(pos:List Int)(ln:Nat)(lost:List Int):Al (Kn c q pos ln lost) (zDn · B N c q pos ln lost):=ia (fun _=>rfl) fun n AJ pt r h=>by
 cases pt
 case l1 x3 x4 BD=>
  intro m0 AC;refine rd AC fun m0 AC=>?_
  revert r;apply gO;exact bi 18 (gc (gi (gc (gi (gw 30 (bi 32 (gw 41 (lG AD [0,1] (AJ _ _ · m0 AC))) (gw 41 (lG AD [0,1] (AJ _ _ · m0 AC))))))))) (lN AD [0,1] (AJ _ _ · n Nat.le.refl))
 case l2 x3 x4 CA o1=>
  intro m0 AC;refine rd AC fun m0 AC=>?_
  revert r;apply gO;exact bi 49 (gc (gi (gc (gi (gw 61 (bi 63 (ce GN [0,1] [oW c q pos 1 ln,oI o1] fun _=>gw 76 (lG AD [0,1] (AJ _ _ · m0 AC))) (ce GN [0,1] [oW c q pos 1 ln,oI o1] fun _=>gw 76 (lG AD [0,1] (AJ _ _ · m0 AC))))))))) (lE AD [2] [0,1])
theorem zDm {n:Nat}{c:AB}{q:AA}{pos:List Int}{ln:Nat}{lost:List Int}{r:Bool×(List Int)}(h:Rr n c q pos ln lost=some r):EQ 106 [.ref 0 0] [oW c q pos 1 ln,oI lost] (.bool r.1) [oW c q pos 1 ln,oI r.2] false:=by
 refine ot Tryz.func106 fun B N=>?_
 revert r;apply gO;exact lN AD [0,1] ((zDo B N c q pos ln lost n) _ _ · n Nat.le.refl)
theorem uw:Az (A4 Tryz.f107 5) [] (List.range 15) []:=by unfold Az;kernel_rfl
theorem uu:Az (A4 Tryz.f107 8) [] (List.range 15) []:=by unfold Az;kernel_rfl
theorem ux:Az (A4 Tryz.f107 16) [] (List.range 23) []:=by unfold Az;kernel_rfl
theorem aH:Az (A4 Tryz.f107 18) [] (List.range 23) []:=by unfold Az;kernel_rfl
def Fp:Bi:=fun i=>match i with
 | 5=>.ord [] (List.range 15) []
 | 8=>.ord [] (List.range 15) []
 | 16=>.ord [] (List.range 23) []
 | 18=>.ord [] (List.range 23) []
 | _=>.no
inductive Vf where
 | l1 (x3 x4 Ch:Int)
 | l2 (x3 x4 CE:Int) (o1:List Int)
def Ve (n:Nat)(self:Vf -> Option (Bool×(List Int)))(c:AB)(q:AA)(pos:List Int)(ln:Nat)(lost:List Int)(x3 x4 Ch:Int):Option (Bool×(List Int)):= bif (decide (Ch<(c.cells.length:Int))) then if (0<=Ch/\ Ch<(c.cells.length:Int))/\ (0<=(c.cells.getD ((Ch).toNat) 0)/\ (c.cells.getD ((Ch).toNat) 0)<(pos.length:Int)) then bif ((bits .andNot .i64 (pos.getD ((c.cells.getD ((Ch).toNat) 0).toNat) 0) c.set)==0) then if AH (x3+1)/\ AH (x4+1)/\ AH (Ch+1) then self (.l1 (x3+1) (x4+1) (Ch+1)) else none else bif ((bits .and .i64 (pos.getD ((c.cells.getD ((Ch).toNat) 0).toNat) 0) c.set) != 0) then if AH (x4+1)/\ AH (Ch+1) then self (.l1 x3 (x4+1) (Ch+1)) else none else if AH (Ch+1) then self (.l1 x3 x4 (Ch+1)) else none else none else bif (decide (x3>c.hi)) then some (false,lost) else bif (decide (x4<c.lo)) then some (false,lost) else self (.l2 x3 x4 0 lost)
def Vd (n:Nat)(self:Vf -> Option (Bool×(List Int)))(c:AB)(q:AA)(pos:List Int)(ln:Nat)(lost:List Int)(x3 x4 CE:Int)(o1:List Int):Option (Bool×(List Int)):= bif (decide (CE<(c.cells.length:Int))) then if 0<=CE/\ CE<(c.cells.length:Int) then bif (x3==c.hi) then if 0<=(c.cells.getD ((CE).toNat) 0)/\ (c.cells.getD ((CE).toNat) 0)<(pos.length:Int) then bif ((bits .andNot .i64 (pos.getD ((c.cells.getD ((CE).toNat) 0).toNat) 0) c.set) != 0) then (Dn n (c.cells.getD ((CE).toNat) 0) c.set c q pos ln o1).bind fun y1=> bif (x4==c.lo) then bif ((bits .and .i64 (pos.getD ((c.cells.getD ((CE).toNat) 0).toNat) 0) c.set) != 0) then (Gy n (c.cells.getD ((CE).toNat) 0) c q pos ln y1).bind fun y2=> if AH (CE+1) then self (.l2 x3 x4 (CE+1) y2) else none else if AH (CE+1) then self (.l2 x3 x4 (CE+1) y1) else none else if AH (CE+1) then self (.l2 x3 x4 (CE+1) y1) else none else bif (x4==c.lo) then bif ((bits .and .i64 (pos.getD ((c.cells.getD ((CE).toNat) 0).toNat) 0) c.set) != 0) then (Gy n (c.cells.getD ((CE).toNat) 0) c q pos ln o1).bind fun y1=> if AH (CE+1) then self (.l2 x3 x4 (CE+1) y1) else none else if AH (CE+1) then self (.l2 x3 x4 (CE+1) o1) else none else if AH (CE+1) then self (.l2 x3 x4 (CE+1) o1) else none else none else bif (x4==c.lo) then if 0<=(c.cells.getD ((CE).toNat) 0)/\ (c.cells.getD ((CE).toNat) 0)<(pos.length:Int) then bif ((bits .and .i64 (pos.getD ((c.cells.getD ((CE).toNat) 0).toNat) 0) c.set) != 0) then (Gy n (c.cells.getD ((CE).toNat) 0) c q pos ln o1).bind fun y1=> if AH (CE+1) then self (.l2 x3 x4 (CE+1) y1) else none else if AH (CE+1) then self (.l2 x3 x4 (CE+1) o1) else none else none else if AH (CE+1) then self (.l2 x3 x4 (CE+1) o1) else none else none else some (true,o1)
def zDx (n:Nat)(self:Vf -> Option (Bool×(List Int)))(c:AB)(q:AA)(pos:List Int)(ln:Nat)(lost:List Int):Option (Bool×(List Int)):= self (.l1 0 0 0)
def Jl (c:AB)(q:AA)(pos:List Int)(ln:Nat)(lost:List Int):Nat -> Vf -> Option (Bool×(List Int))
 | 0,_=>none
 | n+1,.l1 x3 x4 Ch=>Ve n (Jl c q pos ln lost n) c q pos ln lost x3 x4 Ch
 | n+1,.l2 x3 x4 CE o1=>Vd n (Jl c q pos ln lost n) c q pos ln lost x3 x4 CE o1
def Ru (n:Nat)(c:AB)(q:AA)(pos:List Int)(ln:Nat)(lost:List Int):Option (Bool×(List Int)):=zDx n (Jl c q pos ln lost n) c q pos ln lost
def zDy (n B:Nat)(N:Yd 2)(c:AB)(q:AA)(pos:List Int)(ln:Nat)(lost:List Int)(r:Bool×(List Int)):Vf -> Prop
 | .l1 x3 x4 Ch=>∀ m0:Nat,n<=m0 -> TW B N (FQ Tryz.f107 2 (.bool r.1) [oW c q pos 1 ln,oI r.2]) (Ax m0 (A7 (AY Tryz.f107) 0 [])) ⟨AF 140 [(0,.ref 0 0),(3,.i x3),(4,.i x4),(13,.ints c.cells),(14,.i (c.cells.length:Int)),(15,.i Ch)],[oW c q pos 1 ln,oI lost]⟩
 | .l2 x3 x4 CE o1=>∀ m0:Nat,n<=m0 -> TW B N (FQ Tryz.f107 2 (.bool r.1) [oW c q pos 1 ln,oI r.2]) (Ax m0 (A7 (AY Tryz.f107) 3 [])) ⟨AF 140 [(0,.ref 0 0),(3,.i x3),(4,.i x4),(76,.ints c.cells),(77,.i (c.cells.length:Int)),(78,.i CE)],[oW c q pos 1 ln,oI o1]⟩
theorem zDz (B:Nat)(N:Yd 2)(c:AB)(q:AA)(pos:List Int)(ln:Nat)(lost:List Int):Al (Jl c q pos ln lost) (zDy · B N c q pos ln lost):=ia (fun _=>rfl) fun n AJ pt r h=>by
 cases pt
 case l1 x3 x4 Ch=>
  intro m0 AC;refine rd AC fun m0 AC=>?_
  revert r;apply gO;exact bi 16 (gc (gi (jg uw (gn fun g1=>jg g1 (bi 33 (gc (gw 35 (gc (gw 37 (gw 55 (lG Fp [0,1] (AJ _ _ · m0 AC))))))) (jg uu (jg g1 (bi 52 (gc (gw 54 (gw 55 (lG Fp [0,1] (AJ _ _ · m0 AC))))) (gw 55 (lG Fp [0,1] (AJ _ _ · m0 AC))))))))))) (bi 62 (lE Fp [2] [0,1]) (bi 70 (lE Fp [2] [0,1]) (lN Fp [0,1] (AJ _ _ · n Nat.le.refl))))
 case l2 x3 x4 CE o1=>
  intro m0 AC;refine rd AC fun m0 AC=>?_
  revert r;apply gO;exact bi 79 (gi (jg ux (bi 88 (gn fun g1=>jg g1 (bi 103 (ce GN [0,1] [oW c q pos 1 ln,oI o1] fun y1=>jg aH (bi 119 (jg g1 (bi 134 (ce Mj [0,1] [oW c q pos 1 ln,oI y1] fun _=>gw 139 (lG Fp [0,1] (AJ _ _ · m0 AC))) (gw 139 (lG Fp [0,1] (AJ _ _ · m0 AC))))) (gw 139 (lG Fp [0,1] (AJ _ _ · m0 AC))))) (jg aH (bi 119 (jg g1 (bi 134 (ce Mj [0,1] [oW c q pos 1 ln,oI o1] fun _=>gw 139 (lG Fp [0,1] (AJ _ _ · m0 AC))) (gw 139 (lG Fp [0,1] (AJ _ _ · m0 AC))))) (gw 139 (lG Fp [0,1] (AJ _ _ · m0 AC))))))) (jg aH (bi 119 (gi (bi 134 (ce Mj [0,1] [oW c q pos 1 ln,oI o1] fun _=>gw 139 (lG Fp [0,1] (AJ _ _ · m0 AC))) (gw 139 (lG Fp [0,1] (AJ _ _ · m0 AC))))) (gw 139 (lG Fp [0,1] (AJ _ _ · m0 AC)))))))) (lE Fp [2] [0,1])
theorem zDw {n:Nat}{c:AB}{q:AA}{pos:List Int}{ln:Nat}{lost:List Int}{r:Bool×(List Int)}(h:Ru n c q pos ln lost=some r):EQ 107 [.ref 0 0] [oW c q pos 1 ln,oI lost] (.bool r.1) [oW c q pos 1 ln,oI r.2] false:=by
 refine ot Tryz.func107 fun B N=>?_
 revert r;apply gO;exact lN Fp [0,1] ((zDz B N c q pos ln lost n) _ _ · n Nat.le.refl)
end Go.Proofs.YtodinaconebmdaaGreatDoor
namespace Go.Proofs.YtodinaconebmdaaGreatDoor
open Go.RowKit
set_option maxRecDepth 100000
set_option maxHeartbeats 40000000
def sV (n:Nat)(QX:Int):Option Unit:= some ()
def sW (n:Nat)(QX:Int):Option Unit:=sV n QX
theorem sU {n:Nat}(QX:Int){r:Unit}(h:sW n QX=some r):EQ 123 [.i QX] [] (.fn 133 1 (L1 [.ref 0 0])) [oC [.i QX]] true:=by
 refine ot Tryz.func123 fun B N=>?_
 revert r;apply gO;exact lE AD [2] [0]
theorem Kv {x:Int}(hx:0<=x/\ x<9223372036854775808)(h:DH):EQ 123 [.i x] h (.it h.length) (h++[some (.iter ((Be x).map Bj))]) true:=by
 refine ES.iterOf (sU (n:=0) x (r:=()) rfl) rfl (by kernel_rfl) (fun args W=>?_) (fun w b o u hg CR hb hc hr=>sS hx w b o u hg CR hb hc hr) rfl (fun b hb=>?_) h
 ·exact I0 Tryz.func133 (by kernel_rfl) (by kernel_rfl) args W
 ·rw [hb];decide
def i4:ST:=.rd 0 (.rd 1 (.rd 2 (.rd 3 (.rd 4 (.rd 5 (.rd 6 (.rd 7 (.rd 8 (.rd 9 (.rd 10 (.rd 11 (.rd 12 (.rd 13 (.rd 14 (.rd 15 (.rd 16 (.rd 17 (.rd 18 (.rd 19 (.ef 20 (.ef 21 (.fin [] [4,5]) (.no)) (.no)))))))))))))))))))))
theorem ut:Bs (A4 Tryz.f122 4) [20] i4:=by unfold Bs;kernel_rfl
def iz:ST:=.rd 0 (.rd 1 (.ef 2 (.ef 3 (.fin [] [4,5]) (.no)) (.no)))
theorem us:Bs (A4 Tryz.f122 5) [2] iz:=by unfold Bs;kernel_rfl
def Wf:Bi:=fun i=>match i with
 | 4=>.tre [20] i4
 | 5=>.tre [2] iz
 | _=>.no
def zBZ (c:AB)(q:AA)(pos:List Int)(ln:Nat)(lost:List Int):DH:=[oW c q pos 1 ln,oI lost,oC [.ref 0 0],oC [.i 100],oC [.i (-1)]]
def zBY (c:AB)(q:AA)(pos:List Int)(ln:Nat)(lost:List Int)(ss:Int):DH:=[oW c q pos 1 ln,oI lost,oC [.ref 0 0],oC [.i 100],oC [.i (-1)],some (.iter ((Be ss).map Bj))]
def iV (c:AB)(q:AA)(pos:List Int)(ln:Nat)(lost:List Int)(D7 D6:Int):St:=⟨(AF 32 [(4,.ref 3 0),(5,.ref 4 0)]),([oW c q pos 1 ln,oI lost,oC [.ref 0 0],oC [.i D7],oC [.i D6],none]:DH)⟩
def zBX (c:AB)(q:AA)(pos:List Int)(ln:Nat)(lost:List Int)(GK GJ:Int):DH:=[oW c q pos 1 ln,oI lost,oC [.ref 0 0],oC [.i GK],oC [.i GJ],none]
def iU (c:AB)(q:AA)(pos:List Int)(ln:Nat)(lost:List Int)(e8 GK GJ:Int):St:=⟨(AF 32 [(4,.ref 3 0),(5,.ref 4 0)]),([oW c q pos 1 ln,oI lost,oC [.ref 0 0],oC [.i (if (q.values.getD ((e8).toNat) 0)<GK then (q.values.getD ((e8).toNat) 0) else GK)],oC [.i (if (q.values.getD ((e8).toNat) 0)>GJ then (q.values.getD ((e8).toNat) 0) else GJ)],none]:DH)⟩
inductive NU where
 | s0 (GK GJ:Int)
def pT (c:AB)(q:AA)(pos:List Int)(ln:Nat)(lost:List Int):NU -> DH
 | .s0 GK GJ=>[oW c q pos 1 ln,oI lost,oC [.ref 0 0],oC [.i GK],oC [.i GJ],none]
def pS (n:Nat)(c:AB)(q:AA)(pos:List Int)(ln:Nat)(lost:List Int)(e8:Int)(GK GJ:Int):Option NU:= if 0<=e8/\ e8<(q.values.length:Int) then some (.s0 (if (q.values.getD ((e8).toNat) 0)<GK then (q.values.getD ((e8).toNat) 0) else GK) (if (q.values.getD ((e8).toNat) 0)>GJ then (q.values.getD ((e8).toNat) 0) else GJ)) else none
def pR (n:Nat)(c:AB)(q:AA)(pos:List Int)(ln:Nat)(lost:List Int)(e8:Int):NU -> Option NU
 | .s0 GK GJ=>pS n c q pos ln lost e8 GK GJ
def VQ (n:Nat)(c:AB)(q:AA)(pos:List Int)(ln:Nat)(lost:List Int)(e8:Int)(s:NU):Option NU:=pR n c q pos ln lost e8 s
theorem zDf (n:Nat)(c:AB)(q:AA)(pos:List Int)(ln:Nat)(lost:List Int)(l B:Nat)(N:Yd 6)(e8:Int)(s:NU)(r:NU)(h:VQ n c q pos ln lost e8 s=some r):TA l B N (Cf 6 [] 0 (pT c q pos ln lost r)) Tryz.f122 8 ⟨AF 32 [(2,.ref 2 0),(4,.ref 3 0),(5,.ref 4 0),(8,.it 5),(9,.i e8)],pT c q pos ln lost s⟩:=by
 cases s with
 | s0 GK GJ=>
  refine ag Wf [0,1,2,3,4,5] H0 (AF 32 [(2,.ref 2 0),(4,.ref 3 0),(5,.ref 4 0),(6,.i e8)]) (zBX c q pos ln lost GK GJ) fun N=>?_
  revert r;apply gO;exact jg ut (gn fun qV=>jg qV (jg qV (jt (jt (jg (Eq.refl (iU c q pos ln lost e8 GK GJ)) (lF fun p=>rr (tg:=[([(20,3)],(iU c q pos ln lost e8 GK GJ))]) Wf [0,1,2,3,4,5] rfl p))))))
def pQ (n:Nat)(ss:Int)(c:AB)(q:AA)(pos:List Int)(ln:Nat)(lost:List Int):Option (Int×Int×(List Int)):=
 if 0<=ss/\ ss<9223372036854775808 then
  (B9 (VQ n c q pos ln lost) (Be ss) (.s0 100 (-1))).bind fun y1=>
   match y1 with
   | .s0 D7 D6=>
    some (D7,D6,lost)
 else none
def VR (n:Nat)(ss:Int)(c:AB)(q:AA)(pos:List Int)(ln:Nat)(lost:List Int):Option (Int×Int×(List Int)):=pQ n ss c q pos ln lost
theorem Ro {n:Nat}{ss:Int}{c:AB}{q:AA}{pos:List Int}{ln:Nat}{lost:List Int}{r:Int×Int×(List Int)}(h:VR n ss c q pos ln lost=some r):EQ 122 [.ref 0 0,.i ss] [oW c q pos 1 ln,oI lost] (.tup 2 (L1 [.i r.1,.i r.2.1])) [oW c q pos 1 ln,oI r.2.2] false:=by
 refine ot Tryz.func122 fun B N=>?_
 revert r;apply gO
 exact jt (jt (gn fun g0=>jc (Kv g0 (zBZ c q pos ln lost)) (cn fun y1 Au=>fun p r h=>by
  refine gs Wf [0,1,2,3,4,5] p (GZ (AY Tryz.f122) 8 []) (AF 32 [(2,.ref 2 0),(4,.ref 3 0),(5,.ref 4 0),(8,.it 5)]) (zBY c q pos ln lost ss) ?_;refine r0 5 8 #[9] Bj 6 Au (zDf n c q pos ln lost) ?_;cases y1 with
  | s0 D7 D6=>
   dsimp only at h
   revert r;apply gO;exact jg us (jt (jt (jg (Eq.refl (iV c q pos ln lost D7 D6)) (lE (tg:=[([(2,3)],(iV c q pos ln lost D7 D6))]) Wf [4,5] [0,1,3,4])))))))
def iZ:ST:=.rd 0 (.rd 1 (.rd 2 (.rd 3 (.rd 4 (.rd 5 (.rd 6 (.rd 7 (.ef 8 (.rd 9 (.rd 10 (.rd 11 (.rd 12 (.rd 13 (.fin [] [1,3,4,7,8,19,20,21,90])))))) (.no)))))))))
theorem t7:Bs (A4 Tryz.f108 5) [] iZ:=by unfold Bs;kernel_rfl
def iY:ST:=.rd 0 (.rd 1 (.rd 2 (.rd 3 (.rd 4 (.rd 5 (.ef 6 (.ef 7 (.fin [] [1,3,4,19,20,21,90]) (.no)) (.no)))))))
theorem t6:Bs (A4 Tryz.f108 6) [6] iY:=by unfold Bs;kernel_rfl
theorem tz:Az (A4 Tryz.f108 8) [] (List.range 16) []:=by unfold Az;kernel_rfl
def ic:ST:=.rd 0 (.rd 1 (.rd 2 (.rd 3 (.rd 4 (.rd 5 (.rd 6 (.rd 7 (.ef 8 (.rd 9 (.rd 10 (.rd 11 (.ef 12 (.ef 13 (.ef 14 (.ef 15 (.fin [0,1] [1,3,4,10,11,12,64,65,66,90]) (.no)) (.no)) (.no)) (.ef 13 (.ef 12 (.ef 14 (.ef 15 (.fin [1,0] [1,3,4,10,11,12,64,65,66,90]) (.no)) (.no)) (.no)) (.no)))))) (.ef 12 (.ef 8 (.rd 9 (.rd 10 (.rd 11 (.ef 13 (.ef 14 (.ef 15 (.fin [0,1] [1,3,4,10,11,12,64,65,66,90]) (.no)) (.no)) (.no))))) (.ef 13 (.ef 8 (.rd 9 (.rd 10 (.rd 11 (.ef 14 (.ef 15 (.fin [0,1] [1,3,4,10,11,12,64,65,66,90]) (.no)) (.no))))) (.no)) (.no))) (.ef 13 (.ef 8 (.rd 9 (.rd 10 (.rd 11 (.ef 12 (.ef 14 (.ef 15 (.fin [1,0] [1,3,4,10,11,12,64,65,66,90]) (.no)) (.no)) (.no))))) (.ef 12 (.ef 8 (.rd 9 (.rd 10 (.rd 11 (.ef 14 (.ef 15 (.fin [1,0] [1,3,4,10,11,12,64,65,66,90]) (.no)) (.no))))) (.no)) (.no))) (.no)))))))))))
theorem uB:Bs (A4 Tryz.f108 13) [12,13,14] ic:=by unfold Bs;kernel_rfl
theorem uA:Az (A4 Tryz.f108 14) [([0,1,2,3,4,5,6],7)] [] []:=by unfold Az;kernel_rfl
theorem t8:Az (A4 Tryz.f108 17) [] (List.range 24) []:=by unfold Az;kernel_rfl
def ib:ST:=.rd 0 (.rd 1 (.rd 2 (.rd 3 (.ef 4 (.fin [] [2]) (.no)))))
theorem jy:Bs (A4 Tryz.f108 18) [] ib:=by unfold Bs;kernel_rfl
def IP:Bi:=fun i=>match i with
 | 5=>.tre [] iZ
 | 6=>.tre [6] iY
 | 8=>.ord [] (List.range 16) []
 | 13=>.tre [12,13,14] ic
 | 14=>.ord [([0,1,2,3,4,5,6],7)] [] []
 | 17=>.ord [] (List.range 24) []
 | 18=>.tre [] ib
 | _=>.no
def zAe (c:AB)(q:AA)(pos:List Int)(ln:Nat)(o1:List Int)(AU Ah:Int):DH:=[oW c q pos 1 ln,oI o1,oC [.ref 0 0],oC [.i AU],oC [.i Ah]]
def iD (y1:Int×Int×(List Int))(c:AB)(x21:Int)(q:AA)(pos:List Int)(ln:Nat)(AU Ah:Int):St:=⟨(AF 129 [(1,.ref 2 0),(3,.ref 3 0),(4,.ref 4 0),(7,.i y1.1),(8,.i y1.2.1),(19,.ints c.cells),(20,.i (c.cells.length:Int)),(21,.i x21)]),([oW c q pos 1 ln,oI y1.2.2,oC [.ref 0 0],oC [.i AU],oC [.i Ah]]:DH)⟩
def iC (c:AB)(x21:Int)(q:AA)(pos:List Int)(ln:Nat)(y1:Int×Int×(List Int))(AU Ah:Int):St:=⟨(AF 129 [(1,.ref 2 0),(3,.ref 3 0),(4,.ref 4 0),(19,.ints c.cells),(20,.i (c.cells.length:Int)),(21,.i x21)]),([oW c q pos 1 ln,oI y1.2.2,oC [.ref 0 0],oC [.i (AU+y1.1)],oC [.i (Ah+y1.2.1)]]:DH)⟩
def zAd (c:AB)(q:AA)(pos:List Int)(ln:Nat)(o1:List Int)(AU Ah Ae:Int):DH:=[oW c q pos 1 ln,oI o1,oC [.ref 0 0],oC [.i AU],oC [.i Ah],oC [.i (c.cells.getD ((Ae).toNat) 0)]]
def Nt (c:AB)(Ae:Int)(q:AA)(pos:List Int)(ln:Nat)(y1:Int×Int×(List Int))(AU Ah:Int):St:=⟨(AF 129 [(1,.ref 2 0),(3,.ref 3 0),(4,.ref 4 0),(10,.ref 5 0),(11,.ref 6 0),(12,.ref 7 0),(64,.ints c.cells),(65,.i (c.cells.length:Int)),(66,.i Ae)]),([oW c q pos 1 ln,oI y1.2.2,oC [.ref 0 0],oC [.i AU],oC [.i Ah],oC [.i (c.cells.getD ((Ae).toNat) 0)],oC [.i y1.1],oC [.i y1.2.1]]:DH)⟩
def nP (c:AB)(q:AA)(pos:List Int)(ln:Nat)(o1:List Int)(AU Ah Ae:Int):DH:=[oW c q pos 1 ln,oI o1,oC [.ref 0 0],oC [.i AU],oC [.i Ah],oC [.i (c.cells.getD ((Ae).toNat) 0)],oC [.i 0]]
def nN (c:AB)(q:AA)(pos:List Int)(ln:Nat)(o1:List Int)(AU Ah Ae:Int):DH:=[oW c q pos 1 ln,oI o1,oC [.ref 0 0],oC [.i AU],oC [.i Ah],oC [.i (c.cells.getD ((Ae).toNat) 0)],oC [.i 0],oC [.i 0]]
def zAc (c:AB)(q:AA)(pos:List Int)(ln:Nat)(y1:Int×Int×(List Int))(AU Ah Ae:Int):DH:=[oW c q pos 1 ln,oI y1.2.2,oC [.ref 0 0],oC [.i AU],oC [.i Ah],oC [.i (c.cells.getD ((Ae).toNat) 0)],oC [.i y1.1],oC [.i y1.2.1]]
def zAb (c:AB)(q:AA)(pos:List Int)(ln:Nat)(y1:Int×Int×(List Int))(AU Ah Ae:Int):DH:=[oW c q pos 1 ln,oI y1.2.2,oC [.ref 0 0],oC [.i AU],oC [.i Ah],oC [.i (c.cells.getD ((Ae).toNat) 0)],oC [.i y1.1],oC [.i y1.2.1],some (.iter ((Be (pos.getD ((c.cells.getD ((Ae).toNat) 0).toNat) 0)).map Bj))]
def cy (c:AB)(q:AA)(pos:List Int)(ln:Nat)(Gs:List Int)(AU Ah Ae:Int)(y1:Int×Int×(List Int)):DH:=[oW c q pos 1 ln,oI Gs,oC [.ref 0 0],oC [.i AU],oC [.i Ah],oC [.i (c.cells.getD ((Ae).toNat) 0)],oC [.i y1.1],oC [.i y1.2.1],none]
def WL (c:AB)(q:AA)(pos:List Int)(ln:Nat)(Jo:(List Int))(AU Ah Ae:Int)(y1:Int×Int×(List Int)):St:=⟨(AF 129 []),([oW c q pos 1 ln,oI Jo,oC [.ref 0 0],oC [.i AU],oC [.i Ah],oC [.i (c.cells.getD ((Ae).toNat) 0)],oC [.i y1.1],oC [.i y1.2.1],none]:DH)⟩
inductive Kw where
 | s0 (Gs:List Int)
def i9 (c:AB)(Ae:Int)(q:AA)(pos:List Int)(ln:Nat)(AU Ah:Int)(y1:Int×Int×(List Int)):Kw -> DH
 | .s0 Gs=>[oW c q pos 1 ln,oI Gs,oC [.ref 0 0],oC [.i AU],oC [.i Ah],oC [.i (c.cells.getD ((Ae).toNat) 0)],oC [.i y1.1],oC [.i y1.2.1],none]
def WS (n:Nat)(c:AB)(Ae:Int)(q:AA)(pos:List Int)(ln:Nat)(AU Ah:Int)(y1:Int×Int×(List Int))(E0:Int)(Gs:List Int):Option Kw:= if (0<=E0/\ E0<(q.values.length:Int))/\ AH (AU-y1.1)/\ AH ((AU-y1.1)+(q.values.getD ((E0).toNat) 0)) then bif (decide (((AU-y1.1)+(q.values.getD ((E0).toNat) 0))>c.hi)) then if 0<=E0/\ E0<=(IntKind.i64.bits:Int) then (Dn n (c.cells.getD ((Ae).toNat) 0) (IntKind.i64.wrap (1*2 ^ (E0).toNat)) c q pos ln Gs).bind fun Jo=> some (.s0 Jo) else none else if AH (Ah-y1.2.1)/\ AH ((Ah-y1.2.1)+(q.values.getD ((E0).toNat) 0)) then bif (decide (((Ah-y1.2.1)+(q.values.getD ((E0).toNat) 0))<c.lo)) then if 0<=E0/\ E0<=(IntKind.i64.bits:Int) then (Dn n (c.cells.getD ((Ae).toNat) 0) (IntKind.i64.wrap (1*2 ^ (E0).toNat)) c q pos ln Gs).bind fun Jo=> some (.s0 Jo) else none else some (.s0 Gs) else none else none
def i8 (n:Nat)(c:AB)(Ae:Int)(q:AA)(pos:List Int)(ln:Nat)(AU Ah:Int)(y1:Int×Int×(List Int))(E0:Int):Kw -> Option Kw
 | .s0 Gs=>WS n c Ae q pos ln AU Ah y1 E0 Gs
def WT (n:Nat)(c:AB)(Ae:Int)(q:AA)(pos:List Int)(ln:Nat)(AU Ah:Int)(y1:Int×Int×(List Int))(E0:Int)(s:Kw):Option Kw:=i8 n c Ae q pos ln AU Ah y1 E0 s
theorem sf (n:Nat)(c:AB)(Ae:Int)(q:AA)(pos:List Int)(ln:Nat)(AU Ah:Int)(y1:Int×Int×(List Int))(l B:Nat)(N:Yd 9)(E0:Int)(s:Kw)(r:Kw)(h:WT n c Ae q pos ln AU Ah y1 E0 s=some r):TA l B N (Cf 9 [] 0 (i9 c Ae q pos ln AU Ah y1 r)) Tryz.f108 89 ⟨AF 129 [(1,.ref 2 0),(3,.ref 3 0),(4,.ref 4 0),(10,.ref 5 0),(11,.ref 6 0),(12,.ref 7 0),(64,.ints c.cells),(65,.i (c.cells.length:Int)),(66,.i Ae),(89,.it 8),(90,.i E0)],i9 c Ae q pos ln AU Ah y1 s⟩:=by
 cases s with
 | s0 Gs=>
  replace h:WS n c Ae q pos ln AU Ah y1 E0 Gs=some r:=h;unfold WS at h;refine ag IP [0,1,2,3,4,5,6,7,8] H0 (AF 129 [(1,.ref 2 0),(3,.ref 3 0),(4,.ref 4 0),(10,.ref 5 0),(11,.ref 6 0),(12,.ref 7 0),(13,.i E0)]) (cy c q pos ln Gs AU Ah Ae y1) fun N=>?_
  revert r;apply gO;exact gc (gi (jg t8 (gc (gw 101 (gw 103 (bi 109 (jg jy (gi (ce GN [0,1] (cy c q pos ln Gs AU Ah Ae y1) fun Jo=>jg (Eq.refl (WL c q pos ln Jo AU Ah Ae y1)) (lF fun p=>rr (tg:=[([],(WL c q pos ln Jo AU Ah Ae y1))]) IP [0,1,2,3,4,5,6,7,8] rfl p)))) (gc (gw 113 (gw 115 (bi 121 (jg jy (gi (ce GN [0,1] (cy c q pos ln Gs AU Ah Ae y1) fun Jo=>jg (Eq.refl (WL c q pos ln Jo AU Ah Ae y1)) (lF fun p=>rr (tg:=[([],(WL c q pos ln Jo AU Ah Ae y1))]) IP [0,1,2,3,4,5,6,7,8] rfl p)))) (lF fun p=>rr IP [0,1,2,3,4,5,6,7,8] rfl p)))))))))))
inductive Sw where
 | l1 (x21:Int) (o1:List Int) (AU Ah:Int)
 | l2 (Ae:Int) (o1:List Int) (AU Ah:Int)
def Sv (n:Nat)(self:Sw -> Option (Bool×(List Int)))(c:AB)(q:AA)(pos:List Int)(ln:Nat)(lost:List Int)(x21:Int)(o1:List Int)(AU Ah:Int):Option (Bool×(List Int)):= bif (decide (x21<(c.cells.length:Int))) then if (0<=x21/\ x21<(c.cells.length:Int))/\ (0<=(c.cells.getD ((x21).toNat) 0)/\ (c.cells.getD ((x21).toNat) 0)<(pos.length:Int)) then (VR n (pos.getD ((c.cells.getD ((x21).toNat) 0).toNat) 0) c q pos ln o1).bind fun y1=> if AH (AU+y1.1)/\ AH (Ah+y1.2.1)/\ AH (x21+1) then self (.l1 (x21+1) y1.2.2 (AU+y1.1) (Ah+y1.2.1)) else none else none else bif (decide (AU>c.hi)) then some (false,o1) else bif (decide (Ah<c.lo)) then some (false,o1) else self (.l2 0 o1 AU Ah)
def Su (n:Nat)(self:Sw -> Option (Bool×(List Int)))(c:AB)(q:AA)(pos:List Int)(ln:Nat)(lost:List Int)(Ae:Int)(o1:List Int)(AU Ah:Int):Option (Bool×(List Int)):=
 bif (decide (Ae<(c.cells.length:Int))) then
  if (0<=Ae/\ Ae<(c.cells.length:Int))/\ (0<=(c.cells.getD ((Ae).toNat) 0)/\ (c.cells.getD ((Ae).toNat) 0)<(pos.length:Int)) then
   (VR n (pos.getD ((c.cells.getD ((Ae).toNat) 0).toNat) 0) c q pos ln o1).bind fun y1=>
    if 0<=(pos.getD ((c.cells.getD ((Ae).toNat) 0).toNat) 0)/\ (pos.getD ((c.cells.getD ((Ae).toNat) 0).toNat) 0)<9223372036854775808 then
     (B9 (WT n c Ae q pos ln AU Ah y1) (Be (pos.getD ((c.cells.getD ((Ae).toNat) 0).toNat) 0)) (.s0 y1.2.2)).bind fun y2=>
      match y2 with
      | .s0 EV=>
       if AH (Ae+1) then
        self (.l2 (Ae+1) EV AU Ah)
       else none
    else none
  else none
 else
  some (true,o1)
def se (n:Nat)(self:Sw -> Option (Bool×(List Int)))(c:AB)(q:AA)(pos:List Int)(ln:Nat)(lost:List Int):Option (Bool×(List Int)):= self (.l1 0 lost 0 0)
def JC (c:AB)(q:AA)(pos:List Int)(ln:Nat)(lost:List Int):Nat -> Sw -> Option (Bool×(List Int))
 | 0,_=>none
 | n+1,.l1 x21 o1 AU Ah=>Sv n (JC c q pos ln lost n) c q pos ln lost x21 o1 AU Ah
 | n+1,.l2 Ae o1 AU Ah=>Su n (JC c q pos ln lost n) c q pos ln lost Ae o1 AU Ah
def QV (n:Nat)(c:AB)(q:AA)(pos:List Int)(ln:Nat)(lost:List Int):Option (Bool×(List Int)):=se n (JC c q pos ln lost n) c q pos ln lost
def si (n B:Nat)(N:Yd 2)(c:AB)(q:AA)(pos:List Int)(ln:Nat)(lost:List Int)(r:Bool×(List Int)):Sw -> Prop
 | .l1 x21 o1 AU Ah=>∀ m0:Nat,n<=m0 -> TW B N (FQ Tryz.f108 2 (.bool r.1) [oW c q pos 1 ln,oI r.2]) (Ax m0 (A7 (AY Tryz.f108) 0 [])) ⟨AF 129 [(1,.ref 2 0),(3,.ref 3 0),(4,.ref 4 0),(19,.ints c.cells),(20,.i (c.cells.length:Int)),(21,.i x21)],[oW c q pos 1 ln,oI o1,oC [.ref 0 0],oC [.i AU],oC [.i Ah]]⟩
 | .l2 Ae o1 AU Ah=>∀ m0:Nat,n<=m0 -> TW B N (FQ Tryz.f108 2 (.bool r.1) [oW c q pos 1 ln,oI r.2]) (Ax m0 (A7 (AY Tryz.f108) 2 [])) ⟨AF 129 [(1,.ref 2 0),(3,.ref 3 0),(4,.ref 4 0),(64,.ints c.cells),(65,.i (c.cells.length:Int)),(66,.i Ae)],[oW c q pos 1 ln,oI o1,oC [.ref 0 0],oC [.i AU],oC [.i Ah]]⟩
theorem sj (B:Nat)(N:Yd 2)(c:AB)(q:AA)(pos:List Int)(ln:Nat)(lost:List Int):Al (JC c q pos ln lost) (si · B N c q pos ln lost):=ia (fun _=>rfl) fun n AJ pt r h=>by
 cases pt
 case l1 x21 o1 AU Ah=>
  intro m0 AC;refine rd AC fun m0 AC=>?_
  revert r;apply gO;exact bi 22 (gc (gi (jg t7 (gi (ce Ro [0,1] (zAe c q pos ln o1 AU Ah) fun y1=>jg (Eq.refl (iD y1 c x21 q pos ln AU Ah)) (jg t6 (gc (gw 39 (gc (gw 42 (jt (jt (jg (Eq.refl (iC c x21 q pos ln y1 AU Ah)) (gw 43 (lG (tg:=[([],(iD y1 c x21 q pos ln AU Ah)),([(6,3)],(iC c x21 q pos ln y1 AU Ah))]) IP [0,1,2,3,4] (AJ _ _ · m0 AC)))))))))))))))) (jg tz (bi 50 (lE IP [2] [0,1]) (bi 58 (lE IP [2] [0,1]) (lN IP [0,1,2,3,4] (AJ _ _ · n Nat.le.refl)))))
 case l2 Ae o1 AU Ah=>
  intro m0 AC;refine rd AC fun m0 AC=>?_
  revert r;apply gO
  exact bi 67 (gc (gi (jt (jg uB (gn fun g1=>jg g1 (cn fun y1 Au=>jc (em (Ro Au) [0,1] (zAd c q pos ln o1 AU Ah Ae)) (jt (jt (jg (Eq.refl (Nt c Ae q pos ln y1 AU Ah)) (jt (jt (jg (Eq.refl (Nt c Ae q pos ln y1 AU Ah)) (jc (em (Ro Au) [0,1] (nP c q pos ln o1 AU Ah Ae)) (jt (jt (jg (Eq.refl (Nt c Ae q pos ln y1 AU Ah)) (jc (em (Ro Au) [0,1] (nN c q pos ln o1 AU Ah Ae)) (jt (jt (jg (Eq.refl (Nt c Ae q pos ln y1 AU Ah)) (jc (em (Ro Au) [0,1] (nP c q pos ln o1 AU Ah Ae)) (jt (jt (jg (Eq.refl (Nt c Ae q pos ln y1 AU Ah)) (jc (em (Ro Au) [0,1] (nN c q pos ln o1 AU Ah Ae)) (jt (jt (jg (Eq.refl (Nt c Ae q pos ln y1 AU Ah)) (jg uA (jg g1 (gn fun g2=>jc (Kv g2 (zAc c q pos ln y1 AU Ah Ae)) (cn fun y2 Cd=>fun p r h=>by
   refine gs (tg:=[([],(Nt c Ae q pos ln y1 AU Ah))]) IP [0,1,2,3,4,5,6,7,8] p (GZ (AY Tryz.f108) 89 [m0]) (AF 129 [(1,.ref 2 0),(3,.ref 3 0),(4,.ref 4 0),(10,.ref 5 0),(11,.ref 6 0),(12,.ref 7 0),(64,.ints c.cells),(65,.i (c.cells.length:Int)),(66,.i Ae),(89,.it 8)]) (zAb c q pos ln y1 AU Ah Ae) ?_;refine r0 8 89 #[90] Bj 9 Cd (sf n c Ae q pos ln AU Ah y1) ?_;cases y2 with
   | s0 EV=>
    dsimp only at h
    revert r;apply gO;exact gw 128 (lG IP [0,1,2,3,4] (AJ _ _ · m0 AC)))))))))))))))))))))))))))))))))) (lE IP [2] [0,1])
theorem sd {n:Nat}{c:AB}{q:AA}{pos:List Int}{ln:Nat}{lost:List Int}{r:Bool×(List Int)}(h:QV n c q pos ln lost=some r):EQ 108 [.ref 0 0] [oW c q pos 1 ln,oI lost] (.bool r.1) [oW c q pos 1 ln,oI r.2] false:=by
 refine ot Tryz.func108 fun B N=>?_
 revert r;apply gO;exact jt (jt (lN IP [0,1,2,3,4] ((sj B N c q pos ln lost n) _ _ · n Nat.le.refl)))
end Go.Proofs.YtodinaconebmdaaGreatDoor
