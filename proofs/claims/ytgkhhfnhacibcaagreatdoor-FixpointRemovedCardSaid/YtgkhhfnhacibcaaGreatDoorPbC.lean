/- Part 3 of 6 of what the proofs of these laws stand on. -/
import Derived.Test.YtgkhhfnhacibcaaGreatDoorPbB
import Derived.LoopIn
set_option linter.all false
namespace Go.Proofs.YtgkhhfnhacibcaaGreatDoor
abbrev zBO:=@List.contains_iff_mem
end Go.Proofs.YtgkhhfnhacibcaaGreatDoor
namespace Go.Proofs.YtgkhhfnhacibcaaGreatDoor
open Go.RowKit
def Hl:DV -> Bool
 | .ints _=>false
 | .bools _=>false
 | .sl .. =>false
 | .fp .. =>false
 | .agg m f=>(List.range m).all fun j=>Hl (f j)
 | .tup m f=>(List.range m).all fun j=>Hl (f j)
 | .fn _ m f=>(List.range m).all fun j=>Hl (f j)
 | _=>true
def Po:Option DO -> Bool
 | none=>true
 | some (.cells l)=>l.all Hl
 | some (.ints _)=>true
 | some (.bools _)=>true
 | some (.mo _)=>true
 | _=>false
def za (H:DH) (σ:List Nat) (ρ:List AI) (b:Nat):Prop:=∃ (k:Nat) (o:DO) (p:AI),k∈σ/\ H[k]? =some (some o)/\ ρ[k]? =some p/\ p.foot b
def J6 (H:DH) (σ:List Nat) (d d0:DV):Prop:=∀ (P:Program) (Γ:Ax) (N:Nat -> Prop) (ρ:List AI) (w:World) (v:Value),BP P Γ N H ρ w -> AJ (MS N H ρ) w d ρ v -> AJ (za H σ ρ) w d0 [] v
theorem cU {M M':Nat -> Prop} {w:World} {σ:List Nat} {b:Nat} {ρ ρ':List AI} (hρ: ∀ (k:Nat) (p:AI),ρ[k]? =some p -> ρ'[Ch σ b k]? =some p): ∀ (d:DV) {v:Value},Hl d=true -> AJ M w d ρ v -> AJ M' w (up σ b d) ρ' v:=by
 intro d
 induction d with
 | any=>intro v _ _;trivial
 | nils=>intro v _ h;exact h
 | int k n=>intro v _ h;exact h
 | bool b=>intro v _ h;exact h
 | str s=>intro v _ h;exact h
 | ints l=>intro v hs h;cases hs
 | bools l=>intro v hs h;cases hs
 | sl m n f _=>intro v hs h;cases hs
 | fp m f _=>intro v hs h;cases hs
 | agg m f ih=>
  rintro v hs ⟨cs,e,hz,h⟩;simp only [Hl,zq,zw] at hs;exact ⟨cs,e,hz,fun j hj=>let ⟨u,h1,h2⟩:=h j hj;⟨u,h1,Hh hj (ih j (hs j hj) h2)⟩⟩
 | tup m f ih=>
  rintro v hs ⟨cs,e,hz,h⟩;simp only [Hl,zq,zw] at hs;exact ⟨cs,e,hz,fun j hj=>let ⟨u,h1,h2⟩:=h j hj;⟨u,h1,Hh hj (ih j (hs j hj) h2)⟩⟩
 | fn g m c ih=>
  rintro v hs ⟨cs,e,hz,h⟩;simp only [Hl,zq,zw] at hs;exact ⟨cs,e,hz,fun j hj=>let ⟨u,h1,h2⟩:=h j hj;⟨u,h1,Hh hj (ih j (hs j hj) h2)⟩⟩
 | ref k j=>rintro v _ ⟨p,hp,r⟩;exact ⟨p,hρ k p hp,r⟩
 | msl k m o n=>rintro v _ ⟨p,cap,hp,r⟩;exact ⟨p,cap,hρ k p hp,r⟩
 | mp k m i j=>rintro v _ ⟨p,hp,r⟩;exact ⟨p,hρ k p hp,r⟩
 | it k=>rintro v _ ⟨p,hp,r⟩;exact ⟨p,hρ k p hp,r⟩
 | cst u=>intro v _ h;exact h
 | yl l=>intro v _ h;exact h
 | mse k m o n=>rintro v _ ⟨p,a,cap,hp,r⟩;exact ⟨p,a,cap,hρ k p hp,r⟩
 | mri k i=>rintro v _ ⟨p,vs,hp,r⟩;exact ⟨p,vs,hρ k p hp,r⟩
theorem mT {P:Program} {M M':Nat -> Prop} {w:World} {σ:List Nat} {b:Nat} {ρ ρ':List AI} {p:AI} (hρ: ∀ (k:Nat) (p:AI),ρ[k]? =some p -> ρ'[Ch σ b k]? =some p) {o o':DO} (hs:Po (some o)=true) (ho:Cj σ b (some o)=some o') (h:C7 P M w ρ p o):C7 P M' w ρ' p o':=by
 cases o with
 | cells l=>
  cases ho
  show AU w p (l.map (up σ b)).length _
  rw [zAl];refine AU.out h rfl fun j u hj hu=>?_
  have:(l.map (up σ b)).getD j .any=up σ b (l.getD j .any):=by simp [hj]
  rw [this];refine cU hρ _ ?_ hu;simp only [Po,zq] at hs;exact hs _ (by simp [hj])
 | ints l=>cases ho;exact AU.out h rfl fun j u _ hu=>hu
 | bools l=>cases ho;exact AU.out h rfl fun j u _ hu=>hu
 | arr m n f=>cases hs
 | iter encs=>cases hs
 | mo x=>cases ho;exact h
section
variable {P:Program} {Γ:Ax}
theorem ES.embedS {f:Nat} {ds:List DV} {h:DH} {d:DV} {h':DH} {ext:Bool} (EU:ES P Γ f ds h d h' ext) (σ:List Nat) (H:DH) (hn:σ.Nodup) (AK: ∀ k∈σ,k<H.length) (hl:σ.length=h.length) (EA:h.length<=h'.length)
 (hh:(σ.map fun k=>H.getD k none)=h.map (Cj σ H.length)) {DW:List DV} (Af:DW.length=ds.length) (wJ: ∀ i,i<ds.length -> DW.getD i .any=up σ H.length (ds.getD i .any)∨J6 H σ (DW.getD i .any) (ds.getD i .any)) (tY:Hl d=true) (tV:h'.all Po=true):ES P Γ f DW H (up σ H.length d) (Cp H σ h') ext:=by
 refine ⟨EU.1,fun N ρ w args HR B9=>?_⟩;obtain ⟨ρ0,RD⟩: ∃ ρ0,ρ0=σ.map fun k=>ρ.getD k Xk:=⟨_,rfl⟩
 have Q4:ρ0.length=σ.length:=by rw [RD];simp
 have Ei: ∀ {i k:Nat},σ[i]? =some k -> ρ0[i]? =ρ[k]? :=fun {i k} hk=>by
  have CZ:k<ρ.length:=by rw [HR.len];exact AK k (zAX hk)
  rw [RD,z6,hk];simp [CZ]
 have JF: ∀ {i:Nat},i<σ.length -> ∃ k,σ[i]? =some k/\ Ch σ H.length i=k:=fun {i} hi=>by
  refine ⟨σ[i],by simp [hi],?_⟩;unfold Ch;rw [zi hi];simp [hi]
 have GH: ∀ {i:Nat} {o:DO},h[i]? =some (some o) -> ∃ k o',σ[i]? =some k/\ H[k]? =some (some o')/\ Cj σ H.length (some o)=some o':=fun {i o} hi=>by
  have CS:i<σ.length:=by rw [hl];exact (zp.1 hi).1
  obtain ⟨k,hk,_⟩:=JF CS;have e:=congrArg (·[i]?) hh;simp only [z6,hk,hi,zAR] at e;have Bm:=AK k (zAX hk);have e:H.getD k none=Cj σ H.length (some o):=zo e;have e2: ∃ o',Cj σ H.length (some o)=some o':=by cases o <;> exact ⟨_,rfl⟩
  obtain ⟨o',Gi⟩:=e2;refine ⟨k,o',hk,?_,Gi⟩;rw [Gi] at e;rw [zf Bm];rw [u8,zf Bm] at e;exact congrArg some e
 have ea: ∀ {i k:Nat} {o':DO},σ[i]? =some k -> H[k]? =some (some o') -> ∃ o,h[i]? =some (some o)/\ Cj σ H.length (some o)=some o':=fun {i k o'} hk ho=>by
  have CS:i<h.length:=by rw [←hl];exact (zp.1 hk).1
  have e:=congrArg (·[i]?) hh;simp only [z6,hk,zf CS,zAR] at e;have e:H.getD k none=Cj σ H.length h[i]:=zo e;rw [VJ ho] at e;obtain ⟨o0,e0⟩:=NK e.symm;exact ⟨o0,by rw [zf CS,e0],by rw [e0] at e;exact e.symm⟩
 obtain ⟨N0,F3⟩: ∃ N0:Nat -> Prop,N0=fun _=>False:=⟨_,rfl⟩
 have HI: ∀ b,MO h ρ0 b -> MO H ρ b:=by
  rintro b ⟨i,o,p,g1,g2,g3⟩;obtain ⟨k,o',e1,e2,_⟩:=GH g1;exact ⟨k,o',p,e2,(Ei e1).symm.trans g2,g3⟩
 have ME: ∀ b,MS N0 h ρ0 b -> MS N H ρ b:=by
  rintro b (hb | hb)
  ·rw [F3] at hb;exact hb.elim
  ·exact .inr (HI b hb)
 have dn: ∀ (k:Nat) (p:AI),ρ[Ch σ H.length k]? =some p -> ρ0[k]? =some p:=fun k p hp=>by
  by_cases hk:k<σ.length
  ·obtain ⟨k',e1,e2⟩:=JF hk;rw [e2] at hp;exact (Ei e1).trans hp
  ·unfold Ch at hp;rw [zr hk] at hp;have:=(zp.1 hp).1;rw [HR.len] at this;omega
 have foreign: ∀ {k:Nat} {o:DO} {p:AI} {b:Nat},Ct σ k=none -> H[k]? =some (some o) -> ρ[k]? =some p -> p.foot b -> ¬ MO h ρ0 b:=by
  rintro k' o2 p2 b q1 q2 q3 q4 ⟨i,o,p,g1,g2,g3⟩;obtain ⟨k,o',e1,e2,_⟩:=GH g1;have hp:=(Ei e1).symm.trans g2;refine HR.dis k k' o' o2 p p2 b ?_ e2 q2 hp q3 g3 q4;rintro rfl;rw [Ni hn e1] at q1;cases q1
 have H0:BP P Γ N0 h ρ0 w:=by
  refine ⟨by rw [Q4,hl],fun i o hi=>?_,fun i o p b g1 g2 g3=>?_,fun i i' o1 o2 p1 p2 b AQ g1 g2 g3 g4 g5 g6=>?_,fun b hb=>HR.lt2 (ME b (.inl hb)),HR.gi⟩
  ·obtain ⟨k,o',e1,e2,e3⟩:=GH hi;obtain ⟨p,hp,hr⟩:=HR.obj k o' e2;exact ⟨p,(Ei e1).trans hp,jW ME dn e3 hr⟩
  ·obtain ⟨k,o',e1,e2,e3⟩:=GH g1;obtain ⟨q1,q2,q3⟩:=HR.cel k o' p b e2 ((Ei e1).symm.trans g2) g3;exact ⟨q1,fun hb=>by rw [F3] at hb;exact hb,q3⟩
  ·obtain ⟨k,o',e1,e2,e3⟩:=GH g1;obtain ⟨k',Xf,Oy,SB,xV⟩:=GH g2;refine HR.dis k k' o' Xf p1 p2 b ?_ e2 SB ((Ei e1).symm.trans g3) ((Ei Oy).symm.trans g4) g5 g6;rintro rfl;have a1:=Ni hn e1;have a2:=Ni hn Oy;exact AQ (zo (a1.symm.trans a2))
 refine (EU.2 N0 ρ0 w args H0 ⟨by rw [←B9.1,Af],fun i hi=>?_⟩).mono ?_
 ·have:=B9.2 i (by rw [Af];exact hi);rcases wJ i hi with e | e
  ·rw [e] at this;exact Zy ME dn _ this
  ·refine Nh (AJ.out _ (DB (fun b hb=>?_) []) (e P Γ N ρ w _ HR this));rcases hb with hb | ⟨i,o,p,g1,g2,g3⟩
   ·rw [F3] at hb;exact hb.elim
   ·obtain ⟨k,o',e1,e2,_⟩:=GH g1;exact ⟨k,o',p,zAX e1,e2,(Ei e1).symm.trans g2,g3⟩
 ·rintro e w' ⟨v,rfl,⟨⟨ρ1,g1,g2,g3,g4⟩,g5⟩⟩;have l1:ρ1.length=h'.length:=g1.len;obtain ⟨ρ',Fv⟩: ∃ ρ',ρ'=ρ++ρ1.drop σ.length:=⟨_,rfl⟩
  have Sj: ∀ {i k:Nat},σ[i]? =some k -> ρ1[i]? =ρ[k]? :=fun {i k} hk=>by
   have CS:i<ρ0.length:=by rw [Q4];exact (zp.1 hk).1
   have:=g4 i ρ0[i] (by simp [CS]);rw [this,←Ei hk];simp [CS]
  have Eu: ∀ {k:Nat},k<H.length -> ρ'[k]? =ρ[k]? :=fun {k} hk=>by rw [Fv,zAC (by rw [HR.len];exact hk)]
  have PT: ∀ (k:Nat) (p:AI),ρ1[k]? =some p -> ρ'[Ch σ H.length k]? =some p:=fun k p hp=>by
   by_cases hk:k<σ.length
   ·obtain ⟨k',e1,e2⟩:=JF hk;rw [e2,Eu (AK k' (zAX e1)),←Sj e1];exact hp
   ·unfold Ch;rw [zr hk,Fv,zAN (by rw [HR.len];omega),zBI,HR.len];rw [show σ.length+(H.length+(k-σ.length)-H.length)=k by omega];exact hp
  have X0:(Cp H σ h').length=H.length+(h'.length-σ.length):=by simp [Cp]
  have GD: ∀ {k:Nat} {o':DO},(Cp H σ h')[k]? =some (some o') -> (k<H.length/\ Ct σ k=none/\ H[k]? =some (some o')/\ ρ'[k]? =ρ[k]?)∨∃ i o,h'[i]? =some (some o)/\ Cj σ H.length (some o)=some o'/\ ρ'[k]? =ρ1[i]? /\ k=Ch σ H.length i:=by
   intro k o' hk
   by_cases Bm:k<H.length
   ·unfold Cp at hk;rw [zAC (by simpa using Bm),z6,zBM Bm] at hk;simp only [zAR,zAw] at hk;split at hk
    ·rename_i i hi;have Jo:=If hi;obtain ⟨o0,e0⟩:=NK hk;have CS:i<h'.length:=zu (by rw [←hl];exact (zp.1 Jo).1) EA;rw [e0] at hk;refine .inr ⟨i,o0,?_,hk,?_,?_⟩
     ·rw [zf CS];rw [u8,zf CS] at e0;exact congrArg some e0
     ·rw [Eu Bm,Sj Jo]
     ·obtain ⟨k2,e1,e2⟩:=JF (zp.1 Jo).1;rw [e2];exact zo (Jo.symm.trans e1)
    ·rename_i hi;refine .inl ⟨Bm,hi,?_,Eu Bm⟩;rw [zf Bm];rw [u8,zf Bm] at hk;exact congrArg some hk
   ·unfold Cp at hk;rw [zAN (by simp;omega),z6,zBI] at hk;simp only [zAl,zBK] at hk;cases hx:h'[σ.length+(k-H.length)]? with
    | none=>rw [hx] at hk;cases hk
    | some x=>
     rw [hx] at hk;have hk:Cj σ H.length x=some o':=zo hk;obtain ⟨o0,e0⟩:=NK hk;subst e0;refine .inr ⟨σ.length+(k-H.length),o0,hx,hk,?_,?_⟩
     ·rw [Fv,zAN (by rw [HR.len];omega),zBI,HR.len]
     ·unfold Ch;rw [zr (by omega)];omega
  have back: ∀ {k:Nat} {o:DO},Ct σ k=none -> H[k]? =some (some o) -> (Cp H σ h')[k]? =some (some o):=by
   intro k o hk ho;have Bm:=(zp.1 ho).1;unfold Cp;rw [zAC (by simpa using Bm),z6,zBM Bm];simp only [zAR,hk,VJ ho]
  have apart: ∀ {k:Nat} {o:DO} {p:AI} {b:Nat},Ct σ k=none -> H[k]? =some (some o) -> ρ[k]? =some p -> p.foot b -> ¬ MO h' ρ1 b:=fun {k o p b} q1 q2 q3 q4 hm=>by
   rcases g3.grow b hm with hg | hg
   ·exact foreign q1 q2 q3 q4 hg
   ·exact absurd (HR.lt (.inr ⟨k,o,p,q2,q3,q4⟩)) (Nat.not_lt.2 hg)
  have grow: ∀ b,MO (Cp H σ h') ρ' b -> MO H ρ b∨w.heap.size<=b:=by
   rintro b ⟨k,o',p,q1,q2,q3⟩;rcases GD q1 with ⟨a1,a2,a3,a4⟩ | ⟨i,o,a1,a2,a3,a4⟩
   ·exact .inl ⟨k,o',p,a3,a4.symm.trans q2,q3⟩
   ·exact (g3.grow b ⟨i,o,p,a1,a3.symm.trans q2,q3⟩).imp (HI b) id
  have pl: ∀ (k:Nat) (p:AI),ρ[k]? =some p -> ρ'[k]? =some p:=fun k p hp=>by
   rw [Fv,zAC (zp.1 hp).1];exact hp
  have O:BO (MS N H ρ) w ρ (MS N (Cp H σ h') ρ') w' ρ':=
   ⟨fun b hb hm _=>g3.upd.block b hb fun hx=>hm (.inr (HI b hx)),fun b hb=>hb.elim (fun hb=>.inl (.inl hb)) (fun hb=>(grow b hb).imp .inr id),pl⟩
  refine ⟨v,rfl,⟨⟨ρ',⟨?_,fun k o' hk=>?_,fun k o' p b q1 q2 q3=>?_,fun k k' o1 o2 p1 p2 b AQ q1 q2 q3 q4 q5 q6=>?_,fun b hb=>⟨zu (HR.nlt b hb).1 g3.upd.size,(HR.nlt b hb).2⟩,g1.gi⟩,cU PT _ tY g2,⟨g3.upd.mono fun b _ hb=>HI b hb,grow⟩,pl⟩,g5⟩⟩
  ·rw [X0,Fv];simp [HR.len,l1]
  ·rcases GD hk with ⟨a1,a2,a3,a4⟩ | ⟨i,o,a1,a2,a3,a4⟩
   ·obtain ⟨p,hp,hr⟩:=HR.obj k o' a3;refine ⟨p,a4.trans hp,hr.out O g3.upd (fun b hb=>.inr (HI b hb)) fun b _ hf hs=>?_⟩;exact foreign a2 a3 hp hf hs
   ·obtain ⟨p,hp,hr⟩:=g1.obj i o a1;exact ⟨p,a3.trans hp,mT PT (zq.1 tV _ (zAX a1)) a2 hr⟩
  ·rcases GD q1 with ⟨a1,a2,a3,a4⟩ | ⟨i,o,a1,a2,a3,a4⟩
   ·have hp:=a4.symm.trans q2;obtain ⟨c1,c2,c,t,z,c3⟩:=HR.cel k o' p b a3 hp q3;refine ⟨c1,c2,c,t,z,(g3.upd.block b (zj.1 c3).1 fun hx=>?_).trans c3⟩;exact foreign a2 a3 hp q3 hx
   ·obtain ⟨c1,c2,c3⟩:=g1.cel i o p b a1 (a3.symm.trans q2) q3;refine ⟨c1,fun hb=>?_,c3⟩;rcases g3.grow b ⟨i,o,p,a1,a3.symm.trans q2,q3⟩ with hg | hg
    ·obtain ⟨k2,o2,p2,d1,d2,d3⟩:=HI b hg;exact (HR.cel k2 o2 p2 b d1 d2 d3).2.1 hb
    ·exact absurd (HR.nlt b hb).1 (Nat.not_lt.2 hg)
  ·rcases GD q1 with ⟨a1,a2,a3,a4⟩ | ⟨i,o,a1,a2,a3,a4⟩
   ·rcases GD q2 with ⟨c1,c2,c3,c4⟩ | ⟨i',o',c1,c2,c3,c4⟩
    ·exact HR.dis k k' o1 o2 p1 p2 b AQ a3 c3 (a4.symm.trans q3) (c4.symm.trans q4) q5 q6
    ·exact apart a2 a3 (a4.symm.trans q3) q5 ⟨i',o',p2,c1,c3.symm.trans q4,q6⟩
   ·rcases GD q2 with ⟨c1,c2,c3,c4⟩ | ⟨i',o',c1,c2,c3,c4⟩
    ·exact apart c2 c3 (c4.symm.trans q4) q6 ⟨i,o,p1,a1,a3.symm.trans q3,q5⟩
    ·refine g1.dis i i' o o' p1 p2 b ?_ a1 c1 (a3.symm.trans q3) (c3.symm.trans q4) q5 q6;rintro rfl;exact AQ (a4.trans c4.symm)
end
theorem J6.own {h:DH} {σ:List Nat} {j:Nat} {f:Int -> List Int} {x:Int} {L:List Int} {g:Bool} (hk:h[j]? =some (some (.mo (.rows f (some (x,L,g)))))) (hj:σ.contains j=false):J6 h σ (.mri j 1) (.ints L):=by
 rintro P Γ N ρ w v H ⟨p,vs,hp,DT,CX⟩;obtain ⟨p',Av,u,es,AT,hA⟩:=H.obj j _ hk;have:p'=p:=zo (Av.symm.trans hp);subst this;have e: #[Value.map (some p'.blk),u]=vs:=by have:=hA.val.symm.trans DT;cases this;rfl
 subst e;have ev:v=u:=by simpa using CX.symm
 subst ev;rcases (hA.inHand x L g rfl).1 with ⟨rfl,rfl⟩ | ⟨q,cap,rfl,h1,h2,h3,h4,h5⟩
 ·exact ⟨none,0,rfl,zAF _,zBT _,fun j hj=>absurd hj (zy j)⟩
 ·refine ⟨_,cap,rfl,h1,h3,fun i hi=>⟨q.blk,q.off,rfl,?_,?_⟩⟩
  ·rintro ⟨k,o,p2,g1,g2,g3,g4⟩;refine H.dis k j o _ p2 p' q.blk (fun e=>?_) g2 hk g3 hp g4 h4.1;subst e;have:=zBO.2 g1;rw [this] at hj;cases hj
  ·obtain ⟨u,e1,e2⟩:=AU.cell h5 hi;rw [e1,e2]
def UU (H:DH) (σ:List Nat):List DV -> List DV -> Prop
 | [],[]=>True
 | d1::DW,d::ds=>(d1=up σ H.length d∨J6 H σ d1 d)/\ UU H σ DW ds
 | _,_=>False
theorem Xu {H:DH} {σ:List Nat}: ∀ {DW ds:List DV},UU H σ DW ds -> DW.length=ds.length/\ ∀ i,i<ds.length -> DW.getD i .any=up σ H.length (ds.getD i .any)∨J6 H σ (DW.getD i .any) (ds.getD i .any)
 | [],[],_=>⟨rfl,fun i hi=>absurd hi (zy i)⟩
 | d1::DW,d::ds,⟨h1,h2⟩=>by
  obtain ⟨g1,g2⟩:=Xu h2;refine ⟨by simp [g1],fun i hi=>?_⟩;cases i with
  | zero=>exact h1
  | succ i=>exact g2 i (by simpa using hi)
 | [],_::_,h=>h.elim
 | _::_,[],h=>h.elim
theorem ES.embedSB {P:Program} {Γ:Ax} {f:Nat} {ds:List DV} {h:DH} {d:DV} {h':DH} {ext:Bool} (EU:ES P Γ f ds h d h' ext) (σ:List Nat) (H:DH) {DW:List DV} (ha:UU H σ DW ds) (hb:LD σ H.length h.length h'.length=true) (hh:(σ.map fun k=>H.getD k none)=h.map (Cj σ H.length)) (hs:(Hl d&&h'.all Po)=true):
 ES P Γ f DW H (up σ H.length d) (Cp H σ h') ext:=by
 simp only [LD,zm,zAP,zq] at hb;rw [zm] at hs;exact EU.embedS σ H hb.1.1.1 (fun k hk=>hb.1.1.2 k hk) hb.1.2 hb.2 hh (Xu ha).1 (Xu ha).2 hs.1 hs.2
end Go.Proofs.YtgkhhfnhacibcaaGreatDoor
namespace Go.Proofs.YtgkhhfnhacibcaaGreatDoor
abbrev zBS:=@Bool.false_or
end Go.Proofs.YtgkhhfnhacibcaaGreatDoor
namespace Go.Proofs.YtgkhhfnhacibcaaGreatDoor
open Go.RowKit
structure HX (F:Fence) (P:Program):Prop where
 f:Du F P
 m:P.follows .mixedOrders=true
structure HS (c:List (DV×DH×Bool)) (o:List (Nat×DV)) (z:List (Nat×Fz)) (v:List Prop):Prop where
 all:Bb v
section
variable {P:Program} {Γ:Ax} {cs:List (DV×DH×Bool)} {os:List (Nat×DV)} {zs:List (Nat×Fz)} {vs:List Prop}
theorem H0:HS [] [] [] []:=⟨trivial⟩
theorem HS.add (q:HS cs os zs vs) {c':List (DV×DH×Bool)} {o':List (Nat×DV)} {z':List (Nat×Fz)} {p:Prop} (h:p):HS c' o' z' (vs++[p]):=⟨C6.2 ⟨q.all,h,trivial⟩⟩
theorem HS.o (q:HS cs os zs vs) (t:Nat) {d d':DV} (x:AM d d'):HS cs (os++[(t,d')]) zs (vs++[AM d d']):=q.add x
theorem HS.b (q:HS cs os zs vs) (t:Nat) {a b:Bool} (x:a=b):HS cs (os++[(t,.bool b)]) zs (vs++[AM (.bool a) (.bool b)]):=q.add (AM.bool x)
theorem HS.w (q:HS cs os zs vs) (t:Nat) {x:Int} (h:AH x):HS cs (os++[(t,.int .i64 x)]) zs (vs++[AM (.int .i64 (IntKind.i64.wrap x)) (.int .i64 x)]):=q.add (kn h)
theorem HS.g (q:HS cs os zs vs) {p:Prop} (x:p):HS cs os zs (vs++[p]):=q.add x
theorem HS.t (q:HS cs os zs vs):HS cs os zs (vs++[True]):=q.add trivial
theorem HS.c (q:HS cs os zs vs) {f:Nat} {ds:List DV} {h:DH} {d:DV} {h':DH} {e:Bool} (x:ES P Γ f ds h d h' e):HS (cs++[(d,h',e)]) os zs (vs++[ES P Γ f ds h d h' e]):=q.add x
theorem HS.a (q:HS cs os zs vs) (t k m:Nat) {n n':Nat} {f f':Nat -> Nat -> DV} (x:n=n'/\ ∀ i j,i<n -> j<m -> AM (f i j) (f' i j)):HS cs os (zs++[(t,.arr k n' f')]) (vs++[n=n'/\ ∀ i j,i<n -> j<m -> AM (f i j) (f' i j)]):=q.add x
theorem HS.z (q:HS cs os zs vs) (t k:Nat):HS cs os (zs++[(t,.frz k)]) vs:=⟨q.all⟩
theorem HS.u (q:HS cs os zs vs) (t k:Nat):HS cs os (zs++[(t,.unf k)]) vs:=⟨q.all⟩
end
theorem ES.emC {P:Program} {Γ:Ax} {f:Nat} {ds:List DV} {h:DH} {d:DV} {h':DH} {ext:Bool} (EU:ES P Γ f ds h d h' ext) (σ:List Nat) (H:DH) (hb:LD σ H.length h.length h'.length=true) (hh:(σ.map fun k=>H.getD k none)=h.map (Cj σ H.length)):ES P Γ f (ds.map (up σ H.length)) H (up σ H.length d) (Cp H σ h') ext:=
 EU.embedB σ H hb hh rfl
def frzL:List Nat -> St -> Option (St×List Prop)
 | [],S=>some (S,[])
 | k::ks,S=>match Rt k S with
  | some (S',vs)=>match frzL ks S' with
   | some (Cd,Bc)=>some (Cd,vs++Bc)
   | none=>none
  | none=>none
theorem BI.frzL {L:Nat}: ∀ (ks:List Nat) {S S':St} {vs:List Prop},Proofs.YtgkhhfnhacibcaaGreatDoor.frzL ks S=some (S',vs) -> Bb vs -> BI L S S'
 | [],S,S',vs,h,_=>by cases h;exact BI.refl L S
 | k::ks,S,S',vs,h,hv=>by
  simp only [Proofs.YtgkhhfnhacibcaaGreatDoor.frzL] at h;split at h
  ·rename_i S1 CV h1;split at h
   ·rename_i S2 Eo h2;cases h;obtain ⟨Be,CE⟩:=C6.1 hv;exact (BI.frzE k S1 CV h1 Be).trans (BI.frzL ks h2 CE)
   ·cases h
  ·cases h
abbrev WA:=List Prop×List Prop×List (DV×DH×Bool)×List (Nat×DV)×Bool
def Nl (σ:List Nat) (L:Nat) (w:List Prop) (r:KO×St×List Prop×Bs):WA:=(r.2.2.1,w,r.2.2.2.calls,r.2.2.2.co,JE σ L r.2.1.h.length)
def Kf (live σ:List Nat) (L:Nat) (ks:List Nat) (r:KO×St×List Prop×Bs):Option (KO×List DV×DH×WA):=match frzL ks (comp live σ r.2.1) with
 | some (S,w)=>some (r.1,S.fr,S.h,Nl σ L w r)
 | none=>none
def fq:KO -> Option Exit
 | .ret=>some .ret
 | .at []=>some .normal
 | .at (.code (.exit i)::k)=>if (Hv i k).isNone then some (.exit i) else none
 | _=>none
def Im (P:Program) (live σ:List Nat) (L:Nat) (ks:List Nat) (fn:Func) (d:DV) (l2:Nat) (r:KO×St×List Prop×Bs):Option (Bool×List DV×DH×WA):=match frzL ks (comp live σ r.2.1) with
 | some (S,w)=>match Ng P S fn.results.toList with
  | some rs=>some ((match r.1 with | .ret=>true | .at []=>true | _=>false)&&(decide (S.h.length<=l2)||(S.h.all Xl&&Gf d&&decide (L<=S.h.length))),rs,(if S.h.length<=l2 then S.h else (FH (List.range L) S).h),Nl σ L w r)
  | none=>none
 | none=>none
def XY (σ:List Nat) (L:Nat) (r:KO×St×List Prop×Bs):Option Exit×DH×WA:=(fq r.1,(comp [] σ r.2.1).h,Nl σ L [] r)
section
variable {P:Program} {Γ:Ax} {F:Fence} {B:Option Nat} {L:Nat} {Y N:BU P Γ L} {Q:QY P Γ L} {k k':List KI} {S:St} {fr:List DV} {h' h2:DH} {c:List (DV×DH×Bool)} {o:List (Nat×DV)} {z:List (Nat×Fz)} {v w:List Prop}
theorem qI {live σ ks:List Nat} {r:KO×St×List Prop×Bs} {r1:KO} (h:Kf live σ L ks r=some (r1,fr,h',v,w,[],[],true)) (hw:Bb w):r.1=r1/\ r.2.2.1=v/\ BI L r.2.1 ⟨fr,h'⟩:=by
 unfold Kf at h;split at h
 ·rename_i S1 w1 hf;simp only [Nl,zAw,zBJ] at h;obtain ⟨rfl,rfl,rfl,rfl,rfl,_,_,hs⟩:=h;exact ⟨rfl,rfl,(BI.comp live σ r.2.1 hs).trans (BI.frzL ks hf hw)⟩
 ·cases h
theorem BN.gS (hX:HX F P) (Ar:BV) (n:Nat) (live σ:List Nat) (tg:List (List (Nat×Nat)×St)) (hl:HS c o z v) (ks:List Nat) (hz:HS [] [] [] w) (k':List KI) (fr:List DV) (h':DH)
 (h:(Bp P Γ Ar n k S ⟨c,o,z,tg⟩).bind (Kf live σ L ks)=some (.at k',fr,h',v,w,[],[],true)) (hc:Hz k'=true) (hk:At P Γ F B L Y Q k' ⟨fr,h'⟩):At P Γ F B L Y Q k S:=by
 cases hr:Bp P Γ Ar n k S ⟨c,o,z,tg⟩ with
 | none=>rw [hr] at h;cases h
 | some r=>
  obtain ⟨r1,S1,v1,o1⟩:=r;rw [hr] at h;obtain ⟨e1,e2,hs⟩:=qI (r:=(r1,S1,v1,o1)) h hz.all;have e1:r1= .at k':=e1;have e2:v1=v:=e2;subst e1 e2;exact E0 hX.f hX.m n k S _ _ _ _ _ hr hl.all (BN.le hs hc hk)
theorem BN.el (hX:HX F P) {fn:Func} {d:DV} (Ar:BV) (n:Nat) (live σ:List Nat) (tg:List (List (Nat×Nat)×St)) (hl:HS c o z v) (ks:List Nat) (hz:HS [] [] [] w) (rs:List DV) (le:AM (Ib rs) d)
 (h:(Bp P Γ Ar n k S ⟨c,o,z,tg⟩).bind (Im P live σ L ks fn d h2.length)=some (true,rs,h2,v,w,[],[],true)):BN P Γ F B L N (Fe P fn L d h2) k S:=by
 cases hr:Bp P Γ Ar n k S ⟨c,o,z,tg⟩ with
 | none=>rw [hr] at h;cases h
 | some r=>
  obtain ⟨r1,S1,v1,o1⟩:=r;rw [hr] at h;have h:Im P live σ L ks fn d h2.length (r1,S1,v1,o1)=some (true,rs,h2,v,w,[],[],true):=h;unfold Im at h;split at h
  ·rename_i S2 w1 hf;split at h
   ·rename_i oE Uw;simp only [Nl,zAw,zBJ,zm] at h;obtain ⟨⟨tk,hq⟩,rfl,hh,rfl,rfl,_,_,hs⟩:=h;have hS:BI L S1 S2:=(BI.comp live σ S1 hs).trans (BI.frzL ks hf hz.all)
    have fin: ∀ e,(e= .normal∨e= .ret) -> Fe P fn L d h2 e S1:=fun e he=>by
     refine Fe.le hS ⟨he,S2,BI.refl _ _,oE,Uw,?_⟩
     by_cases Af:S2.h.length<=h2.length
     ·rw [zi Af] at hh;exact .inl ⟨le,hh⟩
     ·rw [zr Af] at hh;simp only [Af,decide_false,zBS,zm,zAP] at hq;exact .inr ⟨fE hq.1.1,le,Nu hq.1.2,hq.2,hh⟩
    refine E0 hX.f hX.m n k S _ _ _ _ _ hr hl.all ?_;rcases r1 with (_ | ⟨_,_⟩) | _
    ·exact ⟨rfl,fin _ (.inl rfl)⟩
    ·cases tk
    ·exact ⟨rfl,fin _ (.inr rfl)⟩
   ·cases h
  ·cases h
theorem BN.e (hX:HX F P) {fn:Func} {d:DV} (Ar:BV) (n:Nat) (live σ:List Nat) (tg:List (List (Nat×Nat)×St)) (hl:HS c o z v) (ks:List Nat) (hz:HS [] [] [] w)
 (h:(Bp P Γ Ar n k S ⟨c,o,z,tg⟩).bind (fun r=>(Im P live σ L ks fn d h2.length r).map fun q=>(q.1,Ib q.2.1,q.2.2))=some (true,d,h2,v,w,[],[],true)):BN P Γ F B L N (Fe P fn L d h2) k S:=by
 cases hr:Bp P Γ Ar n k S ⟨c,o,z,tg⟩ with
 | none=>rw [hr] at h;cases h
 | some r=>
  rw [hr] at h;have h:(Im P live σ L ks fn d h2.length r).map (fun q=>(q.1,Ib q.2.1,q.2.2))=some (true,d,h2,v,w,[],[],true):=h;cases hq:Im P live σ L ks fn d h2.length r with
  | none=>rw [hq] at h;cases h
  | some q=>
   obtain ⟨q1,rs,q3⟩:=q;rw [hq] at h;simp only [zAR,zAw,zBJ] at h;obtain ⟨rfl,hd,rfl⟩:=h;exact BN.el hX Ar n live σ tg hl ks hz rs (AM.of_eq hd) (by rw [hr];exact hq)
theorem BN.r (hX:HX F P) {ex:List Exit} {i:Nat} {e:Exit} (Ar:BV) (n:Nat) (σ:List Nat) (tg:List (List (Nat×Nat)×St)) (hl:HS c o z v) (he:(Exit.normal::ex)[i]? =some e)
 (h:(Bp P Γ Ar n k S ⟨c,o,z,tg⟩).map (XY σ L)=some (some e,h2,v,[],[],[],true)):BN P Γ F B L N (DL L ex i h2) k S:=by
 cases hr:Bp P Γ Ar n k S ⟨c,o,z,tg⟩ with
 | none=>rw [hr] at h;cases h
 | some r=>
  obtain ⟨r1,S1,v1,o1⟩:=r;rw [hr] at h;simp only [zAR,XY,Nl,zAw,zBJ] at h;obtain ⟨hk,hh,rfl,_,_,_,hs⟩:=h;have fin:stay N (DL L ex i h2) e S1 N:=⟨rfl,he,_,BI.comp [] σ S1 hs,hh⟩;refine E0 hX.f hX.m n k S _ _ _ _ _ hr hl.all ?_;unfold fq at hk;split at hk
  ·cases hk;exact fin
  ·cases hk;exact fin
  ·rename_i i' k';split at hk
   ·rename_i hp;cases hk;exact Tr.exit (Oq fin k' (Option.isNone_iff_eq_none.1 hp))
   ·cases hk
  ·cases hk
theorem F7.g (hX:HX F P) {Q:Exit -> St -> Prop} {assign body:Code} (Ar:BV) (n:Nat) (live σ:List Nat) (hl:HS c o z v) (fr:List DV) (h':DH)
 (h:(Bp P Γ Ar n [.code assign] S ⟨c,o,z,[]⟩).map (Qh live σ L)=some (.at [],fr,h',v,[],[],true)) (hk: ∀ N2:BU P Γ L,BN P Γ F B L N2 Q [.code body] ⟨fr,h'⟩):F7 P Γ F B L N Q assign body S:=
 F7.go hX.f hX.m Ar n _ live σ fr h' v h hl.all hk
end
section
variable {P:Program} {Γ:Ax} {L:Nat} {k:List KI} {S:St} {c:List (DV×DH×Bool)} {o:List (Nat×DV)} {z:List (Nat×Fz)} {v:List Prop}
theorem TrI.e {C:Dt P Γ} {Y:BU P Γ L} (hX:HX Fence.wide P) (Ar:BV) (n:Nat) (hl:HS c o z v)
 (h:(Bp P Γ Ar n k S ⟨c,o,z,[]⟩).map (fun r=>((match r.1 with | .ret=>true | .at []=>true | _=>false),r.2.2.1))=some (true,v)) (hY:Y=C.Y L C.encs.length∨Y=C.X L):At P Γ Fence.wide none L Y (C.Q L) k S:=by
 cases hr:Bp P Γ Ar n k S ⟨c,o,z,[]⟩ with
 | none=>rw [hr] at h;cases h
 | some r=>
  obtain ⟨r1,S1,CV,o1⟩:=r;rw [hr] at h;simp only [zAR,zAw,zBJ] at h;obtain ⟨h1,rfl⟩:=h;refine E0 hX.f hX.m n k S _ _ _ _ _ hr hl.all ?_;rcases r1 with (_ | ⟨_,_⟩) | _
  ·exact ⟨.inl rfl,hY⟩
  ·cases h1
  ·exact ⟨.inr rfl,hY⟩
theorem At.y {C:Dt P Γ} {i:Nat} {Q:QY P Γ L} {K:List KI} {ops:Array Oper} (hX:HX Fence.wide P) (p:Nat) (live σ:List Nat) (hl:HS c o z v) {x:Array Value} (Ok:List DV) (hT:DH) (Ol:List DV) (hE:DH)
 (hK:QJ K=some (ops,Dx K)) (Ay:D5 ops=true) (h:(PL P Γ ops p S ⟨c,o,z,[]⟩).map (XX live σ L)=some (x.toList,C.l,Ok,hT,Ol,hE,v,true)) (hx:C.encs[i]? =some x) (hc:Hz (Dx K)=true) (ZH:At P Γ Fence.wide none L (C.Y L (i+1)) Q (Dx K) ⟨Ok,hT⟩) (ZI:At P Γ Fence.wide none L (C.X L) Q (Dx K) ⟨Ol,hE⟩):At P Γ Fence.wide none L (C.Y L i) Q K S:=
 At.yieldAt hX.f hK Ay p _ live σ Ok hT Ol hE v h hl.all hx hc ZH ZI
end
section
variable {P:Program} {Γ:Ax} {F:Fence} {B L:Nat} {Y:BU P Γ L} {Q:QY P Γ L} {fr:List DV} {h:DH} {K:List KI} {a b:Code} {α σ:Type} {l:List α} {H:σ -> DH} {FR:α -> List DV}
theorem BN.rg (ID:F=Fence.wide∨∃ l,F=Fence.wide.inRound l) (ex:List Exit) (Iz:(ex.all fun e=>(Jw e).isSome)=true) (kk t:Nat) (ps:Array Tmp) (enc:α -> Array Value) (L':Nat) {f:α -> σ -> Option (σ×Nat)} {s0:σ} {rE:σ×Nat} (hf:EV f l s0=some rE)
 (DU: ∀ (l B:Nat) (N:BU P Γ L') (x:α) (s:σ) (r:σ×Nat),f x s=some r -> F7 P Γ (Fence.wide.inRound l) (some B) L' N (DL L' ex r.2 (H r.1)) a b ⟨FR x,H s⟩)
 (hK:Lq K=some (.tmp t,ps,a,b,Dx K)) (hg:AW fr (.tmp t)= .it kk) (hk:h[kk]? =some (some (.iter (l.map enc)))) (Dn: ∀ x,(enc x).size=ps.size) (hL:Nat.ble L L'=true) (F2:fr.all (GE L')=true) (h0:h.set kk none=H s0) (Df:(fun x=>JG fr ps.toList (enc x).toList)=FR)
 (EB: ∀ e,(Exit.normal::ex)[rE.2]? =some e -> DX P Γ F (some B) L Q (Dx K) e ⟨fr,H rE.1⟩ Y):At P Γ F (some B) L Y Q K ⟨fr,h⟩:=
 BN.rangeAt ID ex Iz (.tmp t) ps a b (Dx K) enc l H FR f hf hK hg hk Dn L' hL F2 h0 Df DU EB
theorem BN.rg0 (ID:F=Fence.wide∨∃ l,F=Fence.wide.inRound l) (kk t:Nat) (ps:Array Tmp) (enc:α -> Array Value) (L':Nat) {f:α -> σ -> Option σ} {s0 sE:σ} (hf:By f l s0=some sE)
 (DU: ∀ (l B:Nat) (N:BU P Γ L') (x:α) (s r:σ),f x s=some r -> F7 P Γ (Fence.wide.inRound l) (some B) L' N (DL L' [] 0 (H r)) a b ⟨FR x,H s⟩)
 (hK:Lq K=some (.tmp t,ps,a,b,Dx K)) (hg:AW fr (.tmp t)= .it kk) (hk:h[kk]? =some (some (.iter (l.map enc)))) (Dn: ∀ x,(enc x).size=ps.size) (hL:Nat.ble L L'=true) (F2:fr.all (GE L')=true) (h0:h.set kk none=H s0) (Df:(fun x=>JG fr ps.toList (enc x).toList)=FR)
 (EB:At P Γ F (some B) L Y Q (Dx K) ⟨fr,H sE⟩):At P Γ F (some B) L Y Q K ⟨fr,h⟩:=
 BN.rangeAt0 ID (.tmp t) ps a b (Dx K) enc l H FR f hf hK hg hk Dn L' hL F2 h0 Df DU EB
end
end Go.Proofs.YtgkhhfnhacibcaaGreatDoor
namespace Go.Proofs.YtgkhhfnhacibcaaGreatDoor
abbrev zn:=@decide_eq_true
abbrev zAY:=@List.mem_cons_of_mem
abbrev zCT:=@List.mem_of_mem_erase
end Go.Proofs.YtgkhhfnhacibcaaGreatDoor
namespace Go.Proofs.YtgkhhfnhacibcaaGreatDoor
open Go.RowKit
abbrev LK:=Nat×Array MapEntry×Nat
theorem rL {i:Nat}:UV none i:=fun _ h=>by cases h
theorem rK {i j:Nat} {g:LK} (h:i≠j):UV (some (i,g)) j:=fun y e=>by cases e;exact h
def HG {R:Type} [DecidableEq R] (rem:KS) (a:Option R) (f:List Int -> Option R):Option R:=match rem with
 | []=>a
 | x::r=>match f x with
  | none=>none
  | some v=>if r.all (fun y=>decide (f y=some v)) then some v else none
theorem UL {R:Type} [DecidableEq R] {rem:KS} {a:Option R} {f:List Int -> Option R} {r:R} (h:HG rem a f=some r):(rem= [] -> a=some r)/\ ∀ y∈rem,f y=some r:=by
 cases rem with
 | nil=>exact ⟨fun _=>h,fun y hy=>absurd hy zA6⟩
 | cons x l=>
  refine ⟨fun e=>absurd e (List.cons_ne_nil x l),?_⟩;unfold HG at h;simp only at h;cases hx:f x with
  | none=>rw [hx] at h;cases h
  | some v=>
   rw [hx] at h;simp only at h;split at h
   ·rename_i hc;cases h;intro y hy;rcases z8.1 hy with rfl | hy
    ·exact hx
    ·exact zA7 (zq.1 hc y hy)
   ·cases h
theorem eZ {R:Type} [DecidableEq R] {a:Option R} {f:List Int -> Option R}:HG [] a f=a:=rfl
theorem qS {R:Type} [DecidableEq R] {rem:KS} {a:Option R} {f:List Int -> Option R} {r:R} (hn:rem≠[]) (h: ∀ y∈rem,f y=some r):HG rem a f=some r:=by
 cases rem with
 | nil=>exact absurd rfl hn
 | cons x l=>
  unfold HG;simp only [h x (by simp)];rw [zi];exact zq.2 fun y hy=>zn (h y (by simp [hy]))
theorem n0 {P:Program} {w:World} {r bm Hm c0 AT:Nat} {seen:Array Nat} {es:Array MapEntry} (hr:w.heap[r]? =some (.mapIter (some bm) Hm seen c0)) (hb:w.heap[bm]? =some (.map es AT)) (Kv: ∀ x∈es.toList,x.born<Hm) (tZ:Hm<=c0) (ty:TypeId):
 ((leftOf es seen).size=0/\ (Instr.next (.pointer (some ⟨r,0,none⟩)) false ty).run P w= .ok (.tuple #[.bool false]) w)∨
 ∃ e∈(leftOf es seen).toList,∃ w1:World,(w1=w∨w1=w.drew)/\ (Instr.next (.pointer (some ⟨r,0,none⟩)) false ty).run P w= .ok (.tuple #[.bool true,e.key,e.val]) { w1 with heap:=w1.heap.setIfInBounds r (.mapIter (some bm) Hm (seen.push e.born) AT) }:=by
 simp only [Instr.next,getObj,z7,Sem.run,hr,hb,Result.andThen,next_test_false seen es Hm c0 Kv tZ,zAa,zBY];unfold leftOf;have Bv: ∀ x∈(Array.filter (fun e=>!seen.contains e.born) es).toList,x.born<Hm:=fun x hx=>Kv x (by simp at hx ⊢;exact hx.1)
 generalize Array.filter (fun e=>!seen.contains e.born) es=L at Bv ⊢
 have e1:L.filter (fun x=>decide (x.born<Hm))=L:=Array.filter_eq_self.2 (fun x hx=>by simpa using Bv x (by simpa using hx))
 have e2:L.filter (fun x=>decide (x.born>=Hm))= #[]:=by
  rw [Array.filter_eq_empty_iff];intro x hx;have:=Bv x (by simpa using hx);simp;omega
 simp only [e1,e2,Array.append_empty]
 by_cases h0:L.size=0
 ·left;have:L= #[]:=zBk h0;subst this;refine ⟨rfl,?_⟩;simp [choose,Sem.run,Question.forced]
 ·right;have AQ:L.isEmpty=false:=by simp [Array.isEmpty,h0]
  simp only [AQ,zAa,zBY,Array.empty_append,Array.size_map]
  have VD: ∃ (j:Nat) (w1:World),j<L.size/\ (w1=w∨w1=w.drew)/\ (choose (Question.mapNext L.size)).run P w= .ok j w1:=by
   by_cases hf:L.size<=1
   ·exact ⟨0,w,by omega,.inl rfl,by simp [choose,Sem.run,Question.forced,hf]⟩
   ·exact ⟨_,w.drew,zCd _ (by omega),.inr rfl,by
     simp only [choose,Sem.run,Question.forced,zAP,hf,zBY,Question.cut];rfl⟩
  obtain ⟨j,w1,hj,Mt,OL⟩:=VD;have Jh:w1.heap[r]? =some (.mapIter (some bm) Hm seen c0):=by rcases Mt with rfl | rfl <;> exact hr
  refine ⟨L[j],by simp,w1,Mt,?_⟩;simp only [OL,Array.getElem?_map,zAV hj,zAR,z7,setObj,Sem.run,Jh,Result.andThen];rfl
section
variable {P:Program} {Γ:Ax} {N:Nat -> Prop} {S:St} {ρ:List AI} {a:Act} {w:World} {F:Fence} {B:Option Nat} {L:Nat} {Y:BU P Γ L} {Q:QY P Γ L}
theorem AY.setMo (R:AY P Γ N S ρ a w) {k:Nat} {x x':MX} {p:AI} (hk:S.h[k]? =some (some (.mo x))) (hp:ρ[k]? =some p) (hO:LR w p x') (hc: ∀ b,p.foot b -> C8 w b):
 AY P Γ N ⟨S.fr,S.h.set k (some (.mo x'))⟩ ρ a w/\ A9 S.h ρ w (S.h.set k (some (.mo x'))) ρ w:=
 ⟨⟨R.hr.write hk hp (AN.refl _ _) hc hO,R.fr.out (BO.write trivial hk hp (AN.refl p.foot w))⟩,A9.write hk hp (AN.refl _ _)⟩
theorem Ek.relock {p:AI} {n:Nat} {ls:List (Option KS)} {vs:Array Value} (hS:Ek w p n ls none vs) {i:Nat} (hi:(ls.getD i none).isSome=true): ∃ g:LK,Ek w p n ls (some (i,g)) vs:=by
 obtain ⟨mb,g1,g2,g3,es,AT,g4,_⟩:=hS.has i _ (Oh hi);refine ⟨(mb,es,AT),{ hS with has:=fun j l hl=>?_ }⟩
 by_cases e:j=i
 ·subst e;have:l=(ls.getD j none).getD []:=by have:=Oh hi;rw [hl] at this;exact zo (zo this)
  subst this;exact ⟨mb,g1,g2,g3,es,AT,g4,fun x hx _=>by cases hx;rfl⟩
 ·obtain ⟨b,k1,k2,k3,HV,c1,k4,_⟩:=hS.has j l hl;exact ⟨b,k1,k2,k3,HV,c1,k4,fun x hx hj=>by cases hx;exact absurd hj.symm e⟩
theorem Ek.unlock {p:AI} {n:Nat} {ls:List (Option KS)} {lk:Option (Nat×LK)} {vs:Array Value} (hS:Ek w p n ls lk vs):Ek w p n ls none vs:=
 { hS with has:=fun j l hl=>let ⟨b,k1,k2,k3,HV,c1,k4,_⟩:=hS.has j l hl;⟨b,k1,k2,k3,HV,c1,k4,fun x hx=>by cases hx⟩ }
theorem Tr.lock {c:Code} {j i n:Nat} {ls:List (Option KS)} (hk:S.h[j]? =some (some (.mo (.sets n ls none)))) (hi:(ls.getD i none).isSome=true) (H: ∀ g:LK,Tr P Γ F B L Y c ⟨S.fr,S.h.set j (some (.mo (.sets n ls (some (i,g)))))⟩ Q):Tr P Γ F B L Y c S Q:=fun N ρ a w R y m b=>by
 obtain ⟨p,hp,vs,hS⟩:=R.hr.obj j _ hk;obtain ⟨g,VF⟩:=hS.relock hi;obtain ⟨R',st⟩:=R.setMo hk hp (x':=.sets n ls (some (i,g))) ⟨vs,VF⟩ fun b hb=>hS.lies hb
 exact H g N ρ a w R' (Y.st y R.hr R'.hr st (EI.refl _ _)) m b
def f8:List KI -> Bool
 | .code _::_=>true
 | _=>false
theorem BN.lock {K:List KI} {fr:List DV} {h:DH} (j i n:Nat) {ls:List (Option KS)} (hk:h[j]? =some (some (.mo (.sets n ls none)))) (hi:(ls.getD i none).isSome=true) (hK:f8 K=true) (h':LK -> DH) (he:h'=fun g=>h.set j (some (.mo (.sets n ls (some (i,g)))))) (H: ∀ g:LK,At P Γ F B L Y Q K ⟨fr,h' g⟩):At P Γ F B L Y Q K ⟨fr,h⟩:=by
 subst he;unfold f8 at hK;split at hK
 ·exact Tr.lock (S:=⟨fr,h⟩) hk hi H
 ·cases hK
theorem qj (R:AY P Γ N S ρ a w) {m j n n' i:Nat} {ls:List (Option KS)} {g:LK} {rem:KS} {EW:Option (List Int)} (hm:S.h[m]? =some (some (.mo (.mit n g.1 g.2.1 g.2.2 rem EW)))) (hj:S.h[j]? =some (some (.mo (.sets n' ls (some (i,g)))))) (hi:(ls.getD i none).isSome=true) {v:Value} (hv:AJ (MS N S.h ρ) w (.it m) ρ v) (ty:TypeId):
 (rem= []/\ (Instr.next v false ty).run P w= .ok (.tuple #[.bool false]) w)∨∃ y∈rem,∃ (k u:Value) (w':World) (p:AI),(Instr.next v false ty).run P w= .ok (.tuple #[.bool true,k,u]) w'/\ ρ[m]? =some p/\ AN p.foot w w'/\ LR w' p (.mit n g.1 g.2.1 g.2.2 (rem.erase y) (some y))/\ ∀ b,p.foot b -> C8 w' b:=by
 obtain ⟨p,hp,rfl⟩:=hv;obtain ⟨p',Av,h0,h1,h2,seen,h3,h4,h5⟩:=R.hr.obj m _ hm;have:p'=p:=zo (Av.symm.trans hp);subst this;obtain ⟨q,hq,vs,hS⟩:=R.hr.obj j _ hj;obtain ⟨b,k1,k2,k3,HV,Vu,k4,k5⟩:=hS.has i _ (Oh hi);have k5:=k5 _ rfl rfl;obtain ⟨mb,es,AT⟩:=g
 have e3:mb=b/\ es=HV/\ AT=Vu:=by
  have:(mb,es,AT)=(b,HV,Vu):=k5;simpa using this
 obtain ⟨rfl,rfl,rfl⟩:=e3;simp only at h3 h4 h5;rw [h1];have Kv: ∀ x∈es.toList,x.born<AT:=k4.born;rcases n0 (P:=P) h3 k4.blk Kv (zAF _) ty with ⟨e1,e2⟩ | ⟨e,he,w1,RL,e2⟩
 ·refine .inl ⟨?_,e2⟩;have:(leftOf es seen)= #[]:=zBk e1;rw [this] at h4;have:=h4.length_eq;simp at this;exact zAq this.symm
 ·have vq:e.key∈rem.map A7:=h4.mem_iff.1 (zAt.2 ⟨e,he,rfl⟩);obtain ⟨y,hy,gK⟩:=zAt.1 vq;have vo:e∈es.toList:=by simp [leftOf] at he ⊢;exact he.1
  have tj:p'.blk<w.heap.size:=(zj.1 h3).1;have tE:w1.heap=w.heap:=by rcases RL with rfl | rfl <;> rfl
  have hU:AN p'.foot w { w1 with heap:=w1.heap.setIfInBounds p'.blk (.mapIter (some mb) AT (seen.push e.born) AT) }:=by
   rw [h2]
   have u1:AN (fun k=>k=p'.blk) w w1:=by
    rcases RL with rfl | rfl
    ·exact AN.refl _ _
    ·exact AN.ofExt (Au.toDrew w)
   exact u1.trans (PV _)
  have HP:({ w1 with heap:=w1.heap.setIfInBounds p'.blk (.mapIter (some mb) AT (seen.push e.born) AT) }:World).heap[p'.blk]? =some (.mapIter (some mb) AT (seen.push e.born) AT):=by
   show (w1.heap.setIfInBounds _ _)[_]? =_
   simp [tE,tj]
  refine .inr ⟨y,hy,e.key,e.val,_,p',e2,hp,hU,⟨fun x hx=>?_,h1,h2,seen.push e.born,HP,?_,fun x hx=>?_⟩,fun b hb=>?_⟩
  ·rcases hx with hx | hx
   ·exact h0 x (.inl (zCT hx))
   ·have ex:y=x:=zo hx;subst ex;exact h0 y (.inl hy)
  ·have hl:leftOf es (seen.push e.born)=(leftOf es seen).filter fun x=>x.born != e.born:=by
    unfold leftOf;rw [Array.filter_filter]
    congr 1
    funext x
    simp only [Array.contains_push,Bool.not_or];rw [Bool.and_comm];simp [bne,Bool.beq_comm]
   have Ay:((leftOf es seen).toList.map (·.born)).Nodup:=by
    have:((leftOf es seen).toList.map (·.born)).Sublist (es.toList.map (·.born)):=by
     unfold leftOf;rw [Array.toList_filter];exact List.filter_sublist.map _
    exact this.nodup k4.stamps
   have vl: ∀ (l:List MapEntry),(l.map (·.born)).Nodup -> e∈l -> (l.map (·.key)).Perm (e.key::((l.filter fun x=>x.born != e.born).map (·.key))):=by
    intro l
    induction l with
    | nil=>intro _ h;cases h
    | cons x l ih=>
     intro hn hx;rw [zBF,zCD] at hn
     by_cases gL:x=e
     ·subst gL
      have:(l.filter fun y=>y.born != x.born)=l:=List.filter_eq_self.2 fun y hy=>by
       simp only [zBH,ne_eq];exact fun hc=>hn.1 (by rw [←hc];exact zAt.2 ⟨y,hy,rfl⟩)
      simp [this]
     ·have Rh:e∈l:=(z8.1 hx).resolve_left fun h=>gL h.symm
      have AQ:(x.born != e.born)=true:=by
       simp only [zBH,ne_eq];exact fun hc=>hn.1 (by rw [hc];exact zAt.2 ⟨e,Rh,rfl⟩)
      rw [List.filter_cons,zi AQ,zBF,zBF];exact ((ih hn.2 Rh).cons x.key).trans (List.Perm.swap e.key x.key _)
   have P1:=vl _ Ay he;rw [hl,Array.toList_filter];have P2:(rem.map A7).Perm (A7 y::(rem.erase y).map A7):=(List.perm_cons_erase hy).map A7;have P3:=P1.symm.trans (h4.trans P2);rw [←gK] at P3;exact List.Perm.cons_inv P3
  ·have ex:y=x:=zo hx;subst ex;exact ⟨e,vo,gK.symm,by simp⟩
  ·rw [h2] at hb;exact ⟨_,rfl,(),by rw [show b=p'.blk from hb];exact HP⟩
theorem Tr.next (hF:Du F P) {id:Nat} {ops:Array Oper} (Ay:D5 ops=true) {o:Oper} {rest:List Oper} (U3:ops.toList=o::rest) {x:Operand} (ho:o.op= .next x false) (hw:LW ops S o=some true) {m j n n' i:Nat} {ls:List (Option KS)} {g:LK} {rem:KS} {EW:Option (List Int)} (hx:AW S.fr x= .it m) (hm:S.h[m]? =some (some (.mo (.mit n g.1 g.2.1 g.2.2 rem EW)))) (hj:S.h[j]? =some (some (.mo (.sets n' ls (some (i,g)))))) (gy:m≠j) (hi:(ls.getD i none).isSome=true)
 (h0:rem= [] -> ∃ S' vs o0 o',Eg P Γ ops rest ⟨Dy S.fr o.dst (.tup 1 (L1 [.bool false])),(S.h.set j (some (.mo (.sets n' ls none)))).set m none⟩ o0=some (S',vs,o')/\ Bb vs/\ Q .normal S' Y)
 (h1: ∀ y∈rem,∃ S' vs o0 o',Eg P Γ ops rest ⟨Dy S.fr o.dst (.tup 3 (L1 [.bool true])),S.h.set m (some (.mo (.mit n g.1 g.2.1 g.2.2 (rem.erase y) (some y))))⟩ o0=some (S',vs,o')/\ Bb vs/\ Q .normal S' Y):Tr P Γ F B L Y (.region id ops false) S Q:=fun N ρ a w R y mk b=>by
 refine wpIn_region_list ?_;rw [U3];have hd: ∀ c,o.op≠.defer c:=fun c e=>by rw [ho] at e;cases e
 have EA: ∀ o'∈rest,o'∈ops:=fun o' Gi=>by
  have:o'∈ops.toList:=by rw [U3];exact zAY _ Gi
  simpa using this
 have DC: ∀ v,(a.put o.dst v).defers=a.defers:=fun v=>by cases ho:o.dst <;> simp [Act.put]
 have rx:=BZ R x;rw [hx] at rx;unfold wpListIn;rw [zi (KD R hw)];have Iz:execOp a.eval o=(do pure (.value (←Instr.next (a.eval x) false o.type))):=by unfold execOp;rw [ho]
 have AK:m<S.h.length:=(zp.1 hm).1;rcases qj R hm hj hi rx o.type with ⟨e1,e2⟩ | ⟨ky,vX,k,u,w',p,e2,hp,hU,hO,hC⟩
 ·obtain ⟨S',vs,o0,o',g1,g2,g3⟩:=h0 e1;obtain ⟨q,hq,lI,hS⟩:=R.hr.obj j _ hj;obtain ⟨R1,NT⟩:=R.setMo hj hq (x':=.sets n' ls none) ⟨lI,hS.unlock⟩ fun b hb=>hS.lies hb
  have R2:AY P Γ N ⟨S.fr,(S.h.set j (some (.mo (.sets n' ls none)))).set m none⟩ ρ a w:=⟨R1.hr.kill m,R1.fr.out (BO.kill m)⟩
  have R3:=Hn R2 o.dst (d:=.tup 1 (L1 [.bool false])) (v:=.tuple #[.bool false]) ⟨#[.bool false],rfl,rfl,fun jj Kx=>by
   have:jj=0:=by omega
   subst this;exact ⟨_,rfl,rfl⟩⟩
  refine LE hF hd (G:=fun v w2=>v= .tuple #[.bool false]/\ w2=w) (BJ.value (s:=Instr.next (a.eval x) false o.type) Iz e2 ⟨rfl,rfl⟩) fun v w2 ⟨hv,RJ⟩=>?_
  subst hv RJ;refine K3 hF Ay rest EA R3 g1 g2 fun ρ' a' w3 R' st EC=>?_
  exact Tr.done R y mk b g3 R' ((NT.trans (A9.kill m)).trans st.st) (fun k p _ hp=>st.pl k p hp) (EC.trans (DC _))
 ·obtain ⟨S',vs,o0,o',g1,g2,g3⟩:=h1 ky vX;have NT:=A9.write (h:=S.h) (o':=.mo (.mit n g.1 g.2.1 g.2.2 (rem.erase ky) (some ky))) hm hp hU;have R1:AY P Γ N ⟨S.fr,S.h.set m (some (.mo (.mit n g.1 g.2.1 g.2.2 (rem.erase ky) (some ky))))⟩ ρ a w':=⟨R.hr.write hm hp hU hC hO,R.fr.out (BO.write trivial hm hp hU)⟩
  have R3:=Hn R1 o.dst (d:=.tup 3 (L1 [.bool true])) (v:=.tuple #[.bool true,k,u]) ⟨#[.bool true,k,u],rfl,rfl,fun jj Kx=>by
   match jj,Kx with
   | 0,_=>exact ⟨_,rfl,rfl⟩
   | 1,_=>exact ⟨_,rfl,trivial⟩
   | 2,_=>exact ⟨_,rfl,trivial⟩⟩
  refine LE hF hd (G:=fun v w2=>v= .tuple #[.bool true,k,u]/\ w2=w') (BJ.value (s:=Instr.next (a.eval x) false o.type) Iz e2 ⟨rfl,rfl⟩) fun v w2 ⟨hv,RJ⟩=>?_
  subst hv RJ;refine K3 hF Ay rest EA R3 g1 g2 fun ρ' a' w3 R' st EC=>?_
  exact Tr.done R y mk b g3 R' (NT.trans st.st) (fun k p _ hp=>st.pl k p hp) (EC.trans (DC _))
def Xg (ops:Array Oper):Operand:=match ops.toList with
 | o::_=>match o.op with
  | .next x _=>x
  | _=>.tmp 0
 | []=>.tmp 0
def UM (ops:Array Oper):Option Tmp:=match ops.toList with
 | o::_=>o.dst
 | []=>none
def L9 (ops:Array Oper):List Oper:=ops.toList.tail
def Xh (ops:Array Oper):Bool:=match ops.toList with
 | o::_=>match o.op with
  | .next _ false=>o.guard.isNone&&D5 ops
  | _=>false
 | []=>false
theorem qY {ops:Array Oper} (h:Xh ops=true):D5 ops=true/\ ∃ o,ops.toList=o::L9 ops/\ o.op= .next (Xg ops) false/\ o.guard=none/\ o.dst=UM ops:=by
 unfold Xh at h;unfold Xg UM L9;split at h
 ·rename_i o rest U3;rw [U3];split at h
  ·rename_i x ho;simp only [zm,Option.isNone_iff_eq_none] at h;refine ⟨h.2,o,rfl,?_,h.1,rfl⟩;simp only [ho]
  ·cases h
 ·cases h
def UJ (live σ:List Nat) (L:Nat) (r:St×List Prop×Bs):List DV×DH×List Prop×Bool:=((comp live σ r.1).fr,(comp live σ r.1).h,r.2.1,JE σ L r.1.h.length)
theorem At.nx (hX:HX F P) {K:List KI} {ops:Array Oper} {fr:List DV} {h:DH} (hK:QJ K=some (ops,Dx K)) (B8:Xh ops=true) (m j i n:Nat) (ls:List (Option KS)) (g:LK) (rem:KS) (EW:Option (List Int)) (live σ:List Nat) (i6:List DV) (h0:DH) (σ1:List Nat) (VQ:List Int -> List DV) (h1:List Int -> DH)
 (hx:AW fr (Xg ops)= .it m) (hm:h[m]? =some (some (.mo (.mit n g.1 g.2.1 g.2.2 rem EW)))) (hj:h[j]? =some (some (.mo (.sets n ls (some (i,g)))))) (gy:m≠j) (hi:(ls.getD i none).isSome=true) (hc:Hz (Dx K)=true)
 (c0:(Eg P Γ ops (L9 ops) ⟨Dy fr (UM ops) (.tup 1 (L1 [.bool false])),(h.set j (some (.mo (.sets n ls none)))).set m none⟩ ⟨[],[],[],[]⟩).map (UJ live σ L)=some (i6,h0,[],true))
 (c1: ∀ y,(Eg P Γ ops (L9 ops) ⟨Dy fr (UM ops) (.tup 3 (L1 [.bool true])),h.set m (some (.mo (.mit n g.1 g.2.1 g.2.2 (rem.erase y) (some y))))⟩ ⟨[],[],[],[]⟩).map (UJ live σ1 L)=some (VQ y,h1 y,[],true))
 (k0:rem= [] -> At P Γ F B L Y Q (Dx K) ⟨i6,h0⟩) (k1: ∀ y∈rem,At P Γ F B L Y Q (Dx K) ⟨VQ y,h1 y⟩):At P Γ F B L Y Q K ⟨fr,h⟩:=by
 have go: ∀ {S:St} {live σ:List Nat} {Mz:List DV} {h':DH},(Eg P Γ ops (L9 ops) S ⟨[],[],[],[]⟩).map (UJ live σ L)=some (Mz,h',[],true) -> At P Γ F B L Y Q (Dx K) ⟨Mz,h'⟩ -> ∃ S' vs o0 o',Eg P Γ ops (L9 ops) S o0=some (S',vs,o')/\ Bb vs/\ At P Γ F B L Y Q (Dx K) S':=by
  intro S live σ Mz h' Ms hk;cases hr:Eg P Γ ops (L9 ops) S ⟨[],[],[],[]⟩ with
  | none=>rw [hr] at Ms;cases Ms
  | some r=>
   obtain ⟨S1,v1,o1⟩:=r;rw [hr] at Ms;simp only [zAR,UJ,zAw,zBJ] at Ms;obtain ⟨rfl,rfl,rfl,hs⟩:=Ms;exact ⟨S1,_,_,_,hr,trivial,BN.le (BI.comp live σ S1 hs) hc hk⟩
 unfold QJ at hK;split at hK
 ·rename_i id qQ k';have e:=zo hK;simp only [Dx,zBJ,and_true] at e;subst e;obtain ⟨Ay,o,q1,q2,q3,q4⟩:=qY B8;exact Tr.next (S:=⟨fr,h⟩) hX.f Ay q1 q2 (by unfold LW;rw [q3]) hx hm hj gy hi (fun e=>by rw [q4];exact go c0 (k0 e)) (fun y hy=>by rw [q4];exact go (c1 y) (k1 y hy))
 ·cases hK
end
end Go.Proofs.YtgkhhfnhacibcaaGreatDoor
namespace Go.Proofs.YtgkhhfnhacibcaaGreatDoor
abbrev zz:=@Nat.lt_succ_iff_lt_or_eq
abbrev zAr:=@List.mem_cons_self
end Go.Proofs.YtgkhhfnhacibcaaGreatDoor
namespace Go.Proofs.YtgkhhfnhacibcaaGreatDoor
open Go.RowKit
def Ac {R:Type} (f:Nat -> Option R) (Q:R -> Prop):Prop:=∃ N,∀ n,N<=n -> ∃ r,f n=some r/\ Q r
def Ev {R:Type} (f:Nat -> Option R) (r:R):Prop:=∃ N,∀ n,N<=n -> f n=some r
section
variable {R T:Type} {f g:Nat -> Option R} {Q Q':R -> Prop} {r:R}
theorem Ev.p (h:Ev f r) (hq:Q r):Ac f Q:=let ⟨N,h⟩:=h;⟨N,fun n hn=>⟨r,h n hn,hq⟩⟩
theorem Ac.ev (h:Ac f Q) (hu: ∀ r r',Q r -> Q r' -> r=r'): ∃ r,Q r/\ Ev f r:=by
 obtain ⟨N,h⟩:=h;obtain ⟨r,h1,h2⟩:=h N (zAF _);refine ⟨r,h2,N,fun n hn=>?_⟩;obtain ⟨r',h3,h4⟩:=h n hn;rw [h3,hu _ _ h4 h2]
theorem Ac.mono (h:Ac f Q) (hq: ∀ r,Q r -> Q' r):Ac f Q':=let ⟨N,h⟩:=h;⟨N,fun n hn=>let ⟨r,h1,h2⟩:=h n hn;⟨r,h1,hq r h2⟩⟩
theorem Ac.step (k:Nat) (h: ∀ n,f (n+k)=g n) (hg:Ac g Q):Ac f Q:=by
 obtain ⟨N,hg⟩:=hg;refine ⟨N+k,fun n hn=>?_⟩;have:=hg (n-k) (by omega);rw [←h,show n-k+k=n by omega] at this;exact this
theorem Ev.step (k:Nat) (h: ∀ n,f (n+k)=g n) (hg:Ev g r):Ev f r:=by
 obtain ⟨N,hg⟩:=hg;refine ⟨N+k,fun n hn=>?_⟩;have:=hg (n-k) (by omega)
 rwa [←h,show n-k+k=n by omega] at this
theorem Ev.now (h: ∀ n,f n=some r):Ev f r:=⟨0,fun n _=>h n⟩
theorem Ev.eq {f g:Nat -> Option R} (h:Ev g r) (e: ∀ n,f n=g n):Ev f r:=let ⟨N,h⟩:=h;⟨N,fun n hn=>(e n).trans (h n hn)⟩
theorem Ac.eq {f g:Nat -> Option R} (h:Ac g Q) (e: ∀ n,f n=g n):Ac f Q:=let ⟨N,h⟩:=h;⟨N,fun n hn=>by rw [e];exact h n hn⟩
theorem Ev.bind {a:Nat -> Option T} {x:T} {b:Nat -> T -> Option R} (ha:Ev a x) (hb:Ev (fun n=>b n x) r):Ev (fun n=>(a n).bind (b n)) r:=by
 obtain ⟨N,ha⟩:=ha;obtain ⟨M,hb⟩:=hb;refine ⟨max N M,fun n hn=>?_⟩
 show (a n).bind (b n)=_
 rw [ha n (by omega),zh];exact hb n (by omega)
theorem Ac.bind {a:Nat -> Option T} {x:T} {b:Nat -> T -> Option R} (ha:Ev a x) (hb:Ac (fun n=>b n x) Q):Ac (fun n=>(a n).bind (b n)) Q:=by
 obtain ⟨N,ha⟩:=ha;obtain ⟨M,hb⟩:=hb;refine ⟨max N M,fun n hn=>?_⟩
 show ∃ r,(a n).bind (b n)=some r/\ _
 rw [ha n (by omega),zh];exact hb n (by omega)
theorem Ac.all {l:List T} {F:T -> Nat -> Option R} (h: ∀ y∈l,Ac (F y) Q): ∃ N,∀ n,N<=n -> ∀ y∈l,∃ r,F y n=some r/\ Q r:=by
 induction l with
 | nil=>exact ⟨0,fun n _ y hy=>absurd hy zA6⟩
 | cons x l ih=>
  obtain ⟨N,hN⟩:=ih fun y hy=>h y (zAY _ hy)
  obtain ⟨M,hM⟩:=h x zAr;refine ⟨max N M,fun n hn y hy=>?_⟩;rcases z8.1 hy with rfl | hy
  ·exact hM n (by omega)
  ·exact hN n (by omega) y hy
theorem Ac.range {F:Nat -> Nat -> Option R} {A:Nat -> R -> Prop}: ∀ (k:Nat),(∀ i,i<k -> Ac (F i) (A i)) -> ∃ N,∀ n,N<=n -> ∀ i,i<k -> ∃ r,F i n=some r/\ A i r
 | 0,_=>⟨0,fun n _ i hi=>absurd hi (zy i)⟩
 | k+1,h=>by
  obtain ⟨N,hN⟩:=Ac.range k fun i hi=>h i (by omega)
  obtain ⟨M,hM⟩:=h k (by omega);refine ⟨max N M,fun n hn i hi=>?_⟩;rcases zz.1 hi with hi | rfl
  ·exact hN n (by omega) i hi
  ·exact hM n (by omega)
theorem Ac.next [DecidableEq R] {rem:KS} {a:Nat -> Option R} {F:Nat -> List Int -> Option R} (hn:rem≠[]) (h: ∀ y∈rem,Ac (fun n=>F n y) Q) (hu: ∀ r r',Q r -> Q r' -> r=r'):Ac (fun n=>HG rem (a n) (F n)) Q:=by
 obtain ⟨N,hN⟩:=Ac.all h;refine ⟨N,fun n OR=>?_⟩;obtain ⟨y0,s9⟩:=List.exists_mem_of_ne_nil rem hn;obtain ⟨r,h1,h2⟩:=hN n OR y0 s9;refine ⟨r,qS hn fun y hy=>?_,h2⟩;obtain ⟨r',h3,h4⟩:=hN n OR y hy;rw [hu _ _ h2 h4];exact h3
end
end Go.Proofs.YtgkhhfnhacibcaaGreatDoor
namespace Go.Proofs.YtgkhhfnhacibcaaGreatDoor
open Go.RowKit
class HC (F:Fence):Prop where
 x:HX F Tryz.prog
 w:F=Fence.wide∨∃ l,F=Fence.wide.inRound l
instance:HC Fence.wide:=⟨⟨Du.wide,by kernel_rfl⟩,.inl rfl⟩
instance (l:Nat):HC (Fence.wide.inRound l):=⟨⟨Du.round l,by kernel_rfl⟩,.inr ⟨l,rfl⟩⟩
abbrev DV.i (x:Int):DV:=.int .i64 x
def AE:BV:=fun _=>.no
def HJ:Nat -> List DV -> List Nat
 | _,[]=>[]
 | i,.any::r=>HJ (i+1) r
 | i,_::r=>i::HJ (i+1) r
section
variable {F:Fence} {B:Option Nat} {L:Nat} {Y N:BU Tryz.prog GG L} {Q:QY Tryz.prog GG L} {k k':List KI} {S:St} {fr:List DV} {h' h2:DH} {c:List (DV×DH×Bool)} {o:List (Nat×DV)} {z:List (Nat×Fz)} {v w:List Prop}
theorem gz [hX:HC F] (Ar:BV) (σ:List Nat) (hl:HS c o z v) (ks:List Nat) (hz:HS [] [] [] w) (k':List KI) (fr:List DV) (h':DH) (hk:At Tryz.prog GG F B L Y Q k' ⟨fr,h'⟩) (tg:List (List (Nat×Nat)×St):=[])
 (h:(Bp Tryz.prog GG Ar 400 k S ⟨c,o,z,tg⟩).bind (Kf (HJ 0 fr) σ L ks)=some (.at k',fr,h',v,w,[],[],true):=by kernel_rfl) (hc:Hz k'=true:=by kernel_rfl):At Tryz.prog GG F B L Y Q k S:=
 BN.gS hX.x Ar 400 (HJ 0 fr) σ tg hl ks hz k' fr h' h hc hk
theorem gs [hX:HC F] (Ar:BV) (σ:List Nat) (hl:HS c o z v) (k':List KI) (fr:List DV) (h':DH) (hk:At Tryz.prog GG F B L Y Q k' ⟨fr,h'⟩) (tg:List (List (Nat×Nat)×St):=[])
 (h:(Bp Tryz.prog GG Ar 400 k S ⟨c,o,z,tg⟩).bind (Kf (HJ 0 fr) σ L [])=some (.at k',fr,h',v,[],[],[],true):=by kernel_rfl) (hc:Hz k'=true:=by kernel_rfl):At Tryz.prog GG F B L Y Q k S:=
 BN.gS hX.x Ar 400 (HJ 0 fr) σ tg hl [] H0 k' fr h' h hc hk
theorem gg [hX:HC F] (Ar:BV) (σ:List Nat) (hl:HS c o z v) (hk:At Tryz.prog GG F B L Y Q k' ⟨fr,h'⟩) (tg:List (List (Nat×Nat)×St):=[])
 (h:(Bp Tryz.prog GG Ar 400 k S ⟨c,o,z,tg⟩).bind (Kf (HJ 0 fr) σ L [])=some (.at k',fr,h',v,[],[],[],true):=by kernel_rfl) (hc:Hz k'=true:=by kernel_rfl):At Tryz.prog GG F B L Y Q k S:=
 BN.gS hX.x Ar 400 (HJ 0 fr) σ tg hl [] H0 k' fr h' h hc hk
theorem el [hX:HC F] {fn:Func} {d:DV} (Ar:BV) (live σ:List Nat) (hl:HS c o z v) (ks:List Nat) (hz:HS [] [] [] w) (rs:List DV) (le:AM (Ib rs) d) (tg:List (List (Nat×Nat)×St):=[])
 (h:(Bp Tryz.prog GG Ar 400 k S ⟨c,o,z,tg⟩).bind (Im Tryz.prog live σ L ks fn d h2.length)=some (true,rs,h2,v,w,[],[],true):=by kernel_rfl):BN Tryz.prog GG F B L N (Fe Tryz.prog fn L d h2) k S:=
 BN.el hX.x Ar 400 live σ tg hl ks hz rs le h
theorem ez [hX:HC F] {fn:Func} {d:DV} (Ar:BV) (live σ:List Nat) (hl:HS c o z v) (ks:List Nat) (hz:HS [] [] [] w) (tg:List (List (Nat×Nat)×St):=[])
 (h:(Bp Tryz.prog GG Ar 400 k S ⟨c,o,z,tg⟩).bind (fun r=>(Im Tryz.prog live σ L ks fn d h2.length r).map fun q=>(q.1,Ib q.2.1,q.2.2))=some (true,d,h2,v,w,[],[],true):=by kernel_rfl):BN Tryz.prog GG F B L N (Fe Tryz.prog fn L d h2) k S:=
 BN.e hX.x Ar 400 live σ tg hl ks hz h
theorem ee [hX:HC F] {fn:Func} {d:DV} (Ar:BV) (live σ:List Nat) (hl:HS c o z v) (tg:List (List (Nat×Nat)×St):=[])
 (h:(Bp Tryz.prog GG Ar 400 k S ⟨c,o,z,tg⟩).bind (fun r=>(Im Tryz.prog live σ L [] fn d h2.length r).map fun q=>(q.1,Ib q.2.1,q.2.2))=some (true,d,h2,v,[],[],[],true):=by kernel_rfl):BN Tryz.prog GG F B L N (Fe Tryz.prog fn L d h2) k S:=
 BN.e hX.x Ar 400 live σ tg hl [] H0 h
theorem rr [hX:HC F] {ex:List Exit} {i:Nat} {e:Exit} (Ar:BV) (σ:List Nat) (he:(Exit.normal::ex)[i]? =some e) (hl:HS c o z v) (tg:List (List (Nat×Nat)×St):=[])
 (h:(Bp Tryz.prog GG Ar 400 k S ⟨c,o,z,tg⟩).map (XY σ L)=some (some e,h2,v,[],[],[],true):=by kernel_rfl):BN Tryz.prog GG F B L N (DL L ex i h2) k S:=
 BN.r hX.x Ar 400 σ tg hl he h
theorem ag [hX:HC F] {Q:Exit -> St -> Prop} {assign body:Code} (Ar:BV) (σ:List Nat) (hl:HS c o z v) (fr:List DV) (h':DH) (hk: ∀ N2:BU Tryz.prog GG L,BN Tryz.prog GG F B L N2 Q [.code body] ⟨fr,h'⟩)
 (h:(Bp Tryz.prog GG Ar 400 [.code assign] S ⟨c,o,z,[]⟩).map (Qh (HJ 0 fr) σ L)=some (.at [],fr,h',v,[],[],true):=by kernel_rfl):F7 Tryz.prog GG F B L N Q assign body S:=
 F7.g hX.x Ar 400 (HJ 0 fr) σ hl fr h' h hk
theorem rd {n m:Nat} (hm:n+1<=m) (h: ∀ m,n<=m -> At Tryz.prog GG F B L Y Q (bP m k) S) (hk:MR k=true:=by kernel_rfl):At Tryz.prog GG F B L Y Q (Ak m k) S:=BN.round hm hk h
theorem en (m:Nat) (h:At Tryz.prog GG F B L Y Q (Ak m k) S) (hk:MR k=true:=by kernel_rfl):At Tryz.prog GG F B L Y Q k S:=BN.enter m hk h
end
theorem em {f:Nat} {ds:List DV} {h:DH} {d:DV} {h':DH} {ext:Bool} (EU:ES Tryz.prog GG f ds h d h' ext) (σ:List Nat) (H:DH) (hb:LD σ H.length h.length h'.length=true:=by kernel_rfl) (hh:(σ.map fun k=>H.getD k none)=h.map (Cj σ H.length):=by kernel_rfl):ES Tryz.prog GG f (ds.map (up σ H.length)) H (up σ H.length d) (Cp H σ h') ext:=ES.emC EU σ H hb hh
theorem es {f:Nat} {ds:List DV} {h:DH} {d:DV} {h':DH} {ext:Bool} (EU:ES Tryz.prog GG f ds h d h' ext) (σ:List Nat) (H:DH) (DW:List DV) (ha:UU H σ DW ds) (hb:LD σ H.length h.length h'.length=true:=by kernel_rfl) (hh:(σ.map fun k=>H.getD k none)=h.map (Cj σ H.length):=by kernel_rfl) (hs:(Hl d&&h'.all Po)=true:=by kernel_rfl):ES Tryz.prog GG f DW H (up σ H.length d) (Cp H σ h') ext:=ES.embedSB EU σ H ha hb hh hs
theorem fb {f:Nat} {ds:List DV} {d:DV} (h0:ES Tryz.prog GG f ds [] d [] true) (h:DH) (FE:ds.all Gf=true:=by kernel_rfl):ES Tryz.prog GG f ds h d h true:=ES.frameB h0 h FE
theorem sb {f:Nat} (ds:List DV) {DI:List DV} {d:DV} (h0:ES Tryz.prog GG f DI [] d [] true) (h:DH) (hs:LM h ds DI) (hd:TN d=true:=by kernel_rfl):ES Tryz.prog GG f ds h d h true:=ES.snapB h0 h hs hd
theorem ot {f:Nat} {fn:Func} {ds:List DV} {h:DH} {d:DV} {h':DH} {ext:Bool} (hf:Tryz.prog.funcs[f]? =some fn) (H: ∀ (B:Nat) (N:BU Tryz.prog GG h.length),BN Tryz.prog GG Fence.wide (some B) h.length N (Fe Tryz.prog fn h.length d h') (start fn) ⟨ds++List.replicate (fn.ntmps-ds.length) .any,h⟩)
 (hb:fn.body.isSome=true:=by kernel_rfl) (Jl:(fn.name== "runtime.NumGoroutine")=false:=by kernel_rfl) (hni:h'.all Xl=true:=by kernel_rfl) (Iy:(!ext||h.isEmpty)=true:=by kernel_rfl):ES Tryz.prog GG f ds h d h' ext:=
 ES.of_trk hf hb Jl (fE hni) (fun e=>by subst e;simpa using Iy) H
section
variable {F:Fence} {B L:Nat} {Y:BU Tryz.prog GG L} {Q:QY Tryz.prog GG L} {fr:List DV} {h:DH} {K:List KI} {a b:Code} {α σ:Type} {l:List α} {H:σ -> DH} {FR:α -> List DV}
theorem rx [hX:HC F] (ex:List Exit) (kk t:Nat) (ps:Array Tmp) (enc:α -> Array Value) (L':Nat) {f:α -> σ -> Option (σ×Nat)} {s0:σ} {rE:σ×Nat} (hf:EV f l s0=some rE)
 (DU: ∀ (l B:Nat) (N:BU Tryz.prog GG L') (x:α) (s:σ) (r:σ×Nat),f x s=some r -> F7 Tryz.prog GG (Fence.wide.inRound l) (some B) L' N (DL L' ex r.2 (H r.1)) a b ⟨FR x,H s⟩)
 (EB: ∀ e,(Exit.normal::ex)[rE.2]? =some e -> DX Tryz.prog GG F (some B) L Q (Dx K) e ⟨fr,H rE.1⟩ Y) (Iz:(ex.all fun e=>(Jw e).isSome)=true:=by kernel_rfl)
 (hK:Lq K=some (.tmp t,ps,a,b,Dx K):=by kernel_rfl) (hg:AW fr (.tmp t)= .it kk:=by kernel_rfl) (hk:h[kk]? =some (some (.iter (l.map enc))):=by kernel_rfl) (Dn: ∀ x,(enc x).size=ps.size:=by exact fun _=>rfl) (hL:Nat.ble L L'=true:=by kernel_rfl) (F2:fr.all (GE L')=true:=by kernel_rfl) (h0:h.set kk none=H s0:=by kernel_rfl) (Df:(fun x=>JG fr ps.toList (enc x).toList)=FR:=by kernel_rfl):At Tryz.prog GG F (some B) L Y Q K ⟨fr,h⟩:=
 BN.rg hX.w ex Iz kk t ps enc L' hf DU hK hg hk Dn hL F2 h0 Df EB
theorem r0 [hX:HC F] (kk t:Nat) (ps:Array Tmp) (enc:α -> Array Value) (L':Nat) {f:α -> σ -> Option σ} {s0 sE:σ} (hf:By f l s0=some sE)
 (DU: ∀ (l B:Nat) (N:BU Tryz.prog GG L') (x:α) (s r:σ),f x s=some r -> F7 Tryz.prog GG (Fence.wide.inRound l) (some B) L' N (DL L' [] 0 (H r)) a b ⟨FR x,H s⟩)
 (EB:At Tryz.prog GG F (some B) L Y Q (Dx K) ⟨fr,H sE⟩)
 (hK:Lq K=some (.tmp t,ps,a,b,Dx K):=by kernel_rfl) (hg:AW fr (.tmp t)= .it kk:=by kernel_rfl) (hk:h[kk]? =some (some (.iter (l.map enc))):=by kernel_rfl) (Dn: ∀ x,(enc x).size=ps.size:=by exact fun _=>rfl) (hL:Nat.ble L L'=true:=by kernel_rfl) (F2:fr.all (GE L')=true:=by kernel_rfl) (h0:h.set kk none=H s0:=by kernel_rfl) (Df:(fun x=>JG fr ps.toList (enc x).toList)=FR:=by kernel_rfl):At Tryz.prog GG F (some B) L Y Q K ⟨fr,h⟩:=
 BN.rg0 hX.w kk t ps enc L' hf DU hK hg hk Dn hL F2 h0 Df EB
end
abbrev Yd (L:Nat):=BU Tryz.prog GG L
abbrev EQ:=ES Tryz.prog GG
abbrev FQ:=Fe Tryz.prog
abbrev TW (B:Nat) {L:Nat} (N:Yd L) (Q:Exit -> St -> Prop) (k:List KI) (S:St):Prop:=BN Tryz.prog GG Fence.wide (some B) L N Q k S
abbrev TA (l B:Nat) {L:Nat} (N:Yd L) (Q:Exit -> St -> Prop) (fn:Func) (t:Nat) (S:St):Prop:=F7 Tryz.prog GG (Fence.wide.inRound l) (some B) L N Q (oY fn t) (Tf fn t) S
abbrev Al {X R:Type} (m:Nat -> X -> Option R) (T:Nat -> R -> X -> Prop):Prop:=∀ n x r,m n x=some r -> T n r x
theorem ia {X R:Type} {m:Nat -> X -> Option R} {T:Nat -> R -> X -> Prop} (h0: ∀ x,m 0 x=none) (h: ∀ n,(∀ x r,m n x=some r -> T n r x) -> ∀ x r,m (n+1) x=some r -> T (n+1) r x):Al m T
 | 0,x,_,e=>by rw [h0 x] at e;cases e
 | n+1,x,r,e=>h n (ia h0 h n) x r e
/-A proof in WY shape of bC was read off:bC holds of each way on,WY hints gathered so GO. -/
def Gt {R:Type} (T:R -> Prop) (c:List (DV×DH×Bool)) (o:List (Nat×DV)) (z:List (Nat×Fz)) (v:List Prop) (A:Option R):Prop:=HS c o z v -> ∀ r,A=some r -> T r
section
variable {R R':Type} {T:R -> Prop} {c:List (DV×DH×Bool)} {o:List (Nat×DV)} {z:List (Nat×Fz)} {v:List Prop} {A A':Option R} {r0:R} {b b':Bool} {p q:Prop} {f:Nat} {ds:List DV} {h h':DH} {d d':DV} {e:Bool} {xi:Int}
theorem gO {F:Fence} {B:Option Nat} {L:Nat} {Y:Yd L} {Q:R -> QY Tryz.prog GG L} {k:List KI} {S:St} (t:Gt (fun r=>At Tryz.prog GG F B L Y (Q r) k S) [] [] [] [] A): ∀ r,A=some r -> At Tryz.prog GG F B L Y (Q r) k S:=t H0
theorem rO (t:Gt T [] [] [] [] A):Gt T c o z v A:=fun _=>t H0
theorem nO:Gt T c o z v none:=fun _ _ h=>by cases h
theorem lF (x:HS c o z v -> T r0):Gt T c o z v (some r0):=fun p _ h=>zo h▸x p
theorem bn (x:b=true -> Gt T c o z v A) (y:b=false -> Gt T c o z v A'):Gt T c o z v (bif b then A else A'):=fun p r h=>(J1 h).elim (fun h=>x h.1 p r h.2) (fun h=>y h.1 p r h.2)
theorem bj (t:Nat) (x:b=true -> Gt T c (o++[(t,.bool true)]) z (v++[AM (.bool b) (.bool true)]) A) (y:b=false -> Gt T c (o++[(t,.bool false)]) z (v++[AM (.bool b) (.bool false)]) A'):Gt T c o z v (bif b then A else A'):=bn (fun h p=>x h (p.b t h)) (fun h p=>y h (p.b t h))
theorem bi (t:Nat) (x:Gt T c (o++[(t,.bool true)]) z (v++[AM (.bool b) (.bool true)]) A) (y:Gt T c (o++[(t,.bool false)]) z (v++[AM (.bool b) (.bool false)]) A'):Gt T c o z v (bif b then A else A'):=bj t (fun _=>x) (fun _=>y)
theorem gn {_:Decidable p} (x:p -> Gt T c o z v A):Gt T c o z v (if p then A else none):=fun w r h=>x (FF h).1 w r (FF h).2
theorem gi {_:Decidable p} (x:Gt T c o z (v++[p]) A):Gt T c o z v (if p then A else none):=gn fun g w=>x (w.g g)
theorem gc {_:Decidable p} {_:Decidable q} (x:Gt T c o z v (if p then (if q then A else none) else none)):Gt T c o z v (if p/\ q then A else none):=fun w r h=>x w r (by obtain ⟨⟨hp,hq⟩,h⟩:=FF h;rw [zi hp,zi hq];exact h)
theorem gw {_:Decidable (AH xi)} (t:Nat) (x:Gt T c (o++[(t,.int .i64 xi)]) z (v++[AM (.int .i64 (IntKind.i64.wrap xi)) (.int .i64 xi)]) A):Gt T c o z v (if AH xi then A else none):=gn fun g w=>x (w.w t g)
theorem cn {F:Option R'} {A:R' -> Option R} (x: ∀ y,F=some y -> Gt T c o z v (A y)):Gt T c o z v (F.bind A):=fun w r h=>let ⟨y,hy,h⟩:=j5 h;x y hy w r h
theorem cf {F:Option R'} {A:R' -> Option R} {d:R' -> DV} (k: ∀ {y},F=some y -> ES Tryz.prog GG f ds [] (d y) [] true) (h:DH) (x: ∀ y,Gt T (c++[(d y,h,true)]) o z (v++[ES Tryz.prog GG f ds h (d y) h true]) (A y)) (FE:ds.all Gf=true:=by kernel_rfl):Gt T c o z v (F.bind A):=cn fun y hy w=>x y (w.c (fb (k hy) h FE))
theorem ce {F:Option R'} {A:R' -> Option R} {d:R' -> DV} {h':R' -> DH} (k: ∀ {y},F=some y -> ES Tryz.prog GG f ds h (d y) (h' y) e) (σ:List Nat) (H:DH) (x: ∀ y,Gt T (c++[(up σ H.length (d y),Cp H σ (h' y),e)]) o z (v++[ES Tryz.prog GG f (ds.map (up σ H.length)) H (up σ H.length (d y)) (Cp H σ (h' y)) e]) (A y)) (hb: ∀ y,LD σ H.length h.length (h' y).length=true:=by intro;kernel_rfl) (hh:(σ.map fun k=>H.getD k none)=h.map (Cj σ H.length):=by kernel_rfl):Gt T c o z v (F.bind A):=cn fun y hy w=>x y (w.c (em (k hy) σ H (hb y) hh))
theorem jb (t:Nat) (g:b=b') (x:Gt T c (o++[(t,.bool b')]) z (v++[AM (.bool b) (.bool b')]) A):Gt T c o z v A:=fun w=>x (w.b t g)
theorem jw (t:Nat) (g:AH xi) (x:Gt T c (o++[(t,.int .i64 xi)]) z (v++[AM (.int .i64 (IntKind.i64.wrap xi)) (.int .i64 xi)]) A):Gt T c o z v A:=fun w=>x (w.w t g)
theorem jg (g:p) (x:Gt T c o z (v++[p]) A):Gt T c o z v A:=fun w=>x (w.g g)
theorem jt (x:Gt T c o z (v++[True]) A):Gt T c o z v A:=fun w=>x w.t
theorem jo (t:Nat) (g:AM d d') (x:Gt T c (o++[(t,d')]) z (v++[AM d d']) A):Gt T c o z v A:=fun w=>x (w.o t g)
theorem jc (g:ES Tryz.prog GG f ds h d h' e) (x:Gt T (c++[(d,h',e)]) o z (v++[ES Tryz.prog GG f ds h d h' e]) A):Gt T c o z v A:=fun w=>x (w.c g)
theorem ja (t k m:Nat) {n n':Nat} {f f':Nat -> Nat -> DV} (g:n=n'/\ ∀ i j,i<n -> j<m -> AM (f i j) (f' i j)) (x:Gt T c o (z++[(t,.arr k n' f')]) (v++[n=n'/\ ∀ i j,i<n -> j<m -> AM (f i j) (f' i j)]) A):Gt T c o z v A:=fun w=>x (w.a t k m g)
theorem jz (t k:Nat) (x:Gt T c o (z++[(t,.frz k)]) v A):Gt T c o z v A:=fun w=>x (w.z t k)
theorem ju (t k:Nat) (x:Gt T c o (z++[(t,.unf k)]) v A):Gt T c o z v A:=fun w=>x (w.u t k)
end
section
variable {R:Type} {c:List (DV×DH×Bool)} {o:List (Nat×DV)} {z:List (Nat×Fz)} {v:List Prop} {A:Option R} {r0:R} {F:Fence} {B:Option Nat} {L:Nat} {Y N:BU Tryz.prog GG L} {k k':List KI} {S:St} {fr:List DV} {h':DH}
theorem lG [hX:HC F] (Ar:BV) (σ:List Nat) {Q:R -> QY Tryz.prog GG L} (hk: ∀ {r},A=some r -> At Tryz.prog GG F B L Y (Q r) k' ⟨fr,h'⟩) (tg:List (List (Nat×Nat)×St):=[])
 (h:(Bp Tryz.prog GG Ar 400 k S ⟨c,o,z,tg⟩).bind (Kf (HJ 0 fr) σ L [])=some (.at k',fr,h',v,[],[],[],true):=by kernel_rfl) (hc:Hz k'=true:=by kernel_rfl):Gt (fun r=>At Tryz.prog GG F B L Y (Q r) k S) c o z v A:=
 fun p _ e=>gg Ar σ p (hk e) tg h hc
theorem lN [hX:HC F] {m:Nat} (Ar:BV) (σ:List Nat) {Q:R -> QY Tryz.prog GG L} (hk: ∀ {r},A=some r -> At Tryz.prog GG F B L Y (Q r) (Ak m k') ⟨fr,h'⟩) (tg:List (List (Nat×Nat)×St):=[])
 (h:(Bp Tryz.prog GG Ar 400 k S ⟨c,o,z,tg⟩).bind (Kf (HJ 0 fr) σ L [])=some (.at k',fr,h',v,[],[],[],true):=by kernel_rfl) (hc:Hz k'=true:=by kernel_rfl) (hm:MR k'=true:=by kernel_rfl):Gt (fun r=>At Tryz.prog GG F B L Y (Q r) k S) c o z v A:=
 lG Ar σ (fun e=>en m (hk e) hm) tg h hc
theorem lE [hX:HC F] {fn:Func} {D:R -> DV} {E:R -> DH} (Ar:BV) (live σ:List Nat) (tg:List (List (Nat×Nat)×St):=[])
 (h:(Bp Tryz.prog GG Ar 400 k S ⟨c,o,z,tg⟩).bind (fun r=>(Im Tryz.prog live σ L [] fn (D r0) (E r0).length r).map fun q=>(q.1,Ib q.2.1,q.2.2))=some (true,D r0,E r0,v,[],[],[],true):=by kernel_rfl):Gt (fun r=>BN Tryz.prog GG F B L N (Fe Tryz.prog fn L (D r) (E r)) k S) c o z v (some r0):=
 lF fun p=>ee Ar live σ p tg h
end
end Go.Proofs.YtgkhhfnhacibcaaGreatDoor
namespace Go.Proofs.YtgkhhfnhacibcaaGreatDoor
abbrev zAc:=@Nat.le_of_succ_le
end Go.Proofs.YtgkhhfnhacibcaaGreatDoor
namespace Go.Proofs.YtgkhhfnhacibcaaGreatDoor
open Go.RowKit
set_option maxRecDepth 100000
set_option maxHeartbeats 40000000
inductive VE where
 | l1 (x5:Int)
def ZZ (n:Nat) (self:VE -> Option Bool) (l_:List Int) (n_:Int) (x5:Int):Option Bool:=
 bif (decide (x5<(l_.length:Int))) then
  if 0<=x5/\ x5<(l_.length:Int) then
   bif ((l_.getD ((x5).toNat) 0)==n_) then
    some true
   else
    if AH (x5+1) then
     self (.l1 (x5+1))
    else none
  else none
 else
  some false
def iU (n:Nat) (self:VE -> Option Bool) (l_:List Int) (n_:Int):Option Bool:=
 self (.l1 0)
def OZ (l_:List Int) (n_:Int):Nat -> VE -> Option Bool
 | 0,_=>none
 | n+1,.l1 x5=>ZZ n (OZ l_ n_ n) l_ n_ x5
def has (n:Nat) (l_:List Int) (n_:Int):Option Bool:=iU n (OZ l_ n_ n) l_ n_
def wH (n B:Nat) (N:Yd 0) (l_:List Int) (n_:Int) (r:Bool):VE -> Prop
 | .l1 x5=>∀ m0:Nat,n<=m0 -> TW B N (FQ Tryz.f93 0 (.bool r) []) (Ak m0 (Ap (Aa Tryz.f93) 0 [])) ⟨AL 18 [(0,.ints l_),(1,.i n_),(5,.i x5)],[]⟩
theorem wI (B:Nat) (N:Yd 0) (l_:List Int) (n_:Int):Al (OZ l_ n_) (wH · B N l_ n_):=ia (fun _=>rfl) fun n AF pt r h=>by
 cases pt
 case l1 x5=>
  intro m0 AC;refine rd AC fun m0 AC=>?_
  revert r;apply gO;exact bi 9 (gi (bi 17 (lE AE [4] []) (gw 11 (lG AE [] (AF _ _ · m0 AC))))) (lE AE [4] [])
theorem iT {n:Nat} {l_:List Int} {n_:Int} {r:Bool} (h:has n l_ n_=some r):EQ 93 [.ints l_,.i n_] [] (.bool r) [] true:=by
 refine ot Tryz.func93 fun B N=>?_
 revert r;apply gO;exact lN AE [] ((wI B N l_ n_ n) _ _ · n Nat.le.refl)
inductive V3 where
 | l1 (x7:Int)
def aG (n:Nat) (self:V3 -> Option Bool) (l_:List Int) (lo hi:Int) (x7:Int):Option Bool:=
 bif (decide (x7<(l_.length:Int))) then
  if 0<=x7/\ x7<(l_.length:Int) then
   bif (decide ((l_.getD ((x7).toNat) 0)<lo)) then
    some false
   else
    bif (decide ((l_.getD ((x7).toNat) 0)>hi)) then
     some false
    else
     if AH (x7+1) then
      self (.l1 (x7+1))
     else none
  else none
 else
  some true
def j6 (n:Nat) (self:V3 -> Option Bool) (l_:List Int) (lo hi:Int):Option Bool:=
 self (.l1 0)
def PA (l_:List Int) (lo hi:Int):Nat -> V3 -> Option Bool
 | 0,_=>none
 | n+1,.l1 x7=>aG n (PA l_ lo hi n) l_ lo hi x7
def LI (n:Nat) (l_:List Int) (lo hi:Int):Option Bool:=j6 n (PA l_ lo hi n) l_ lo hi
def yk (n B:Nat) (N:Yd 0) (l_:List Int) (lo hi:Int) (r:Bool):V3 -> Prop
 | .l1 x7=>∀ m0:Nat,n<=m0 -> TW B N (FQ Tryz.f64 0 (.bool r) []) (Ak m0 (Ap (Aa Tryz.f64) 0 [])) ⟨AL 28 [(0,.ints l_),(1,.i lo),(2,.i hi),(7,.i x7)],[]⟩
theorem ym (B:Nat) (N:Yd 0) (l_:List Int) (lo hi:Int):Al (PA l_ lo hi) (yk · B N l_ lo hi):=ia (fun _=>rfl) fun n AF pt r h=>by
 cases pt
 case l1 x7=>
  intro m0 AC;refine rd AC fun m0 AC=>?_
  revert r;apply gO;exact bi 11 (gn fun g0=>jg g0 (bi 19 (lE AE [6] []) (jg g0 (bi 26 (lE AE [6] []) (gw 13 (lG AE [] (AF _ _ · m0 AC))))))) (lE AE [6] [])
theorem Sc {n:Nat} {l_:List Int} {lo hi:Int} {r:Bool} (h:LI n l_ lo hi=some r):EQ 64 [.ints l_,.i lo,.i hi] [] (.bool r) [] true:=by
 refine ot Tryz.func64 fun B N=>?_
 revert r;apply gO;exact lN AE [] ((ym B N l_ lo hi n) _ _ · n Nat.le.refl)
theorem nZ:An (A8 Tryz.f94 7) [] (List.range 9) []:=by unfold An;kernel_rfl
def NY:BV:=fun i=>match i with
 | 7=>.ord [] (List.range 9) []
 | _=>.no
inductive Oz where
 | l1 (x3:Int)
 | l2 (x3 x4:Int)
def Z1 (n:Nat) (self:Oz -> Option Bool) (l_:List Int) (x3:Int):Option Bool:=
 bif (decide (x3<(l_.length:Int))) then
  self (.l2 x3 0)
 else
  some true
def Vg (n:Nat) (self:Oz -> Option Bool) (l_:List Int) (x3 x4:Int):Option Bool:=
 bif (decide (x4<x3)) then
  if (0<=x3/\ x3<(l_.length:Int))/\ (0<=x4/\ x4<(l_.length:Int)) then
   bif ((l_.getD ((x3).toNat) 0)==(l_.getD ((x4).toNat) 0)) then
    some false
   else
    if AH (x4+1) then
     self (.l2 x3 (x4+1))
    else none
  else none
 else
  if AH (x3+1) then
   self (.l1 (x3+1))
  else none
def jX (n:Nat) (self:Oz -> Option Bool) (l_:List Int):Option Bool:=
 self (.l1 0)
def IK (l_:List Int):Nat -> Oz -> Option Bool
 | 0,_=>none
 | n+1,.l1 x3=>Z1 n (IK l_ n) l_ x3
 | n+1,.l2 x3 x4=>Vg n (IK l_ n) l_ x3 x4
def Vi (n:Nat) (l_:List Int):Option Bool:=jX n (IK l_ n) l_
def xd (n B:Nat) (N:Yd 0) (l_:List Int) (r:Bool):Oz -> Prop
 | .l1 x3=>∀ m0:Nat,n<=m0 -> TW B N (FQ Tryz.f94 0 (.bool r) []) (Ak m0 (Ap (Aa Tryz.f94) 0 [])) ⟨AL 25 [(0,.ints l_),(3,.i x3)],[]⟩
 | .l2 x3 x4=>∀ m0 m1:Nat,n<=m0 -> n<=m1 -> TW B N (FQ Tryz.f94 0 (.bool r) []) (Ak m1 (Ap (Aa Tryz.f94) 2 [m0])) ⟨AL 25 [(0,.ints l_),(3,.i x3),(4,.i x4)],[]⟩
theorem xe (B:Nat) (N:Yd 0) (l_:List Int):Al (IK l_) (xd · B N l_):=ia (fun _=>rfl) fun n AF pt r h=>by
 cases pt
 case l1 x3=>
  intro m0 AC;refine rd AC fun m0 AC=>?_
  revert r;apply gO;exact bi 8 (lN NY [] (AF _ _ · m0 n AC Nat.le.refl)) (lE NY [2] [])
 case l2 x3 x4=>
  intro m0 m1 AC Ag;have AC:=zAc AC;refine rd Ag fun m1 Ag=>?_
  revert r;apply gO;exact bi 13 (jg nZ (gc (gi (gi (bi 24 (lE NY [2] []) (gw 15 (lG NY [] (AF _ _ · m0 m1 AC Ag)))))))) (gw 10 (lG NY [] (AF _ _ · m0 AC)))
theorem xb {n:Nat} {l_:List Int} {r:Bool} (h:Vi n l_=some r):EQ 94 [.ints l_] [] (.bool r) [] true:=by
 refine ot Tryz.func94 fun B N=>?_
 revert r;apply gO;exact lN NY [] ((xe B N l_ n) _ _ · n Nat.le.refl)
inductive Um where
 | l1 (x8:Int)
def YN (n:Nat) (self:Um -> Option Int) (s_:List Int) (v:Int) (x8:Int):Option Int:=
 bif (decide (x8<(s_.length:Int))) then
  if 0<=x8/\ x8<(s_.length:Int) then
   bif (v==(s_.getD ((x8).toNat) 0)) then
    some x8
   else
    if AH (x8+1) then
     self (.l1 (x8+1))
    else none
  else none
 else
  some (-1)
def gI (n:Nat) (self:Um -> Option Int) (s_:List Int) (v:Int):Option Int:=
 self (.l1 0)
def MW (s_:List Int) (v:Int):Nat -> Um -> Option Int
 | 0,_=>none
 | n+1,.l1 x8=>YN n (MW s_ v n) s_ v x8
def Un (n:Nat) (s_:List Int) (v:Int):Option Int:=gI n (MW s_ v n) s_ v
def sX (n B:Nat) (N:Yd 0) (s_:List Int) (v:Int) (r:Int):Um -> Prop
 | .l1 x8=>∀ m0:Nat,n<=m0 -> TW B N (FQ Tryz.f130 0 (.i r) []) (Ak m0 (Ap (Aa Tryz.f130) 0 [])) ⟨AL 19 [(0,.ints s_),(1,.i v),(7,.i (s_.length:Int)),(8,.i x8)],[]⟩
theorem sY (B:Nat) (N:Yd 0) (s_:List Int) (v:Int):Al (MW s_ v) (sX · B N s_ v):=ia (fun _=>rfl) fun n AF pt r h=>by
 cases pt
 case l1 x8=>
  intro m0 AC;refine rd AC fun m0 AC=>?_
  revert r;apply gO;exact bi 9 (gi (bi 16 (lE AE [4] []) (gw 18 (lG AE [] (AF _ _ · m0 AC))))) (lE AE [4] [])
theorem sW {n:Nat} {s_:List Int} {v:Int} {r:Int} (h:Un n s_ v=some r):EQ 130 [.ints s_,.i v] [] (.i r) [] true:=by
 refine ot Tryz.func130 fun B N=>?_
 revert r;apply gO;exact lN AE [] ((sY B N s_ v n) _ _ · n Nat.le.refl)
inductive Ur where
 | l1 (x8:Int)
def RC (n:Nat) (self:Ur -> Option Int) (s_:List Bool) (v:Bool) (x8:Int):Option Int:=
 bif (decide (x8<(s_.length:Int))) then
  if 0<=x8/\ x8<(s_.length:Int) then
   bif (v==(s_.getD ((x8).toNat) false)) then
    some x8
   else
    if AH (x8+1) then
     self (.l1 (x8+1))
    else none
  else none
 else
  some (-1)
def sf (n:Nat) (self:Ur -> Option Int) (s_:List Bool) (v:Bool):Option Int:=
 self (.l1 0)
def Jf (s_:List Bool) (v:Bool):Nat -> Ur -> Option Int
 | 0,_=>none
 | n+1,.l1 x8=>RC n (Jf s_ v n) s_ v x8
def Us (n:Nat) (s_:List Bool) (v:Bool):Option Int:=sf n (Jf s_ v n) s_ v
def sh (n B:Nat) (N:Yd 0) (s_:List Bool) (v:Bool) (r:Int):Ur -> Prop
 | .l1 x8=>∀ m0:Nat,n<=m0 -> TW B N (FQ Tryz.f121 0 (.i r) []) (Ak m0 (Ap (Aa Tryz.f121) 0 [])) ⟨AL 19 [(0,.bools s_),(1,.bool v),(7,.i (s_.length:Int)),(8,.i x8)],[]⟩
theorem si (B:Nat) (N:Yd 0) (s_:List Bool) (v:Bool):Al (Jf s_ v) (sh · B N s_ v):=ia (fun _=>rfl) fun n AF pt r h=>by
 cases pt
 case l1 x8=>
  intro m0 AC;refine rd AC fun m0 AC=>?_
  revert r;apply gO;exact bi 9 (gi (bi 16 (lE AE [4] []) (gw 18 (lG AE [] (AF _ _ · m0 AC))))) (lE AE [4] [])
theorem se {n:Nat} {s_:List Bool} {v:Bool} {r:Int} (h:Us n s_ v=some r):EQ 121 [.bools s_,.bool v] [] (.i r) [] true:=by
 refine ot Tryz.func121 fun B N=>?_
 revert r;apply gO;exact lN AE [] ((si B N s_ v n) _ _ · n Nat.le.refl)
def Z7 (n:Nat) (s_:List Int) (v:Int):Option Bool:=
 (Un n s_ v).bind fun y1=>
  some (decide (y1>=0))
def LG (n:Nat) (s_:List Int) (v:Int):Option Bool:=Z7 n s_ v
theorem jh {n:Nat} {s_:List Int} {v:Int} {r:Bool} (h:LG n s_ v=some r):EQ 119 [.ints s_,.i v] [] (.bool r) [] true:=by
 unfold LG Z7 at h;refine ot Tryz.func119 fun B N=>?_
 revert r;apply gO;exact cf sW [] fun _=>lE AE [4] []
theorem nW:An (A8 Tryz.f40 6) [] (List.range 9) []:=by unfold An;kernel_rfl
def Pv:BV:=fun i=>match i with
 | 6=>.ord [] (List.range 9) []
 | _=>.no
inductive Ve where
 | l1 (x13:Int)
def R5 (n:Nat) (self:Ve -> Option Bool) (D1 Ed:List Int) (x13:Int):Option Bool:=
 bif (decide (x13<(D1.length:Int))) then
  if (0<=x13/\ x13<(D1.length:Int))/\ (0<=x13/\ x13<(Ed.length:Int)) then
   bif ((D1.getD ((x13).toNat) 0) != (Ed.getD ((x13).toNat) 0)) then
    some false
   else
    if AH (x13+1) then
     self (.l1 (x13+1))
    else none
  else none
 else
  some true
def jJ (n:Nat) (self:Ve -> Option Bool) (D1 Ed:List Int):Option Bool:=
 bif ((D1.length:Int) != (Ed.length:Int)) then
  some false
 else
  self (.l1 0)
def Ou (D1 Ed:List Int):Nat -> Ve -> Option Bool
 | 0,_=>none
 | n+1,.l1 x13=>R5 n (Ou D1 Ed n) D1 Ed x13
def Ov (n:Nat) (D1 Ed:List Int):Option Bool:=jJ n (Ou D1 Ed n) D1 Ed
def xN (n B:Nat) (N:Yd 0) (D1 Ed:List Int) (r:Bool):Ve -> Prop
 | .l1 x13=>∀ m0:Nat,n<=m0 -> TW B N (FQ Tryz.f40 0 (.bool r) []) (Ak m0 (Ap (Aa Tryz.f40) 0 [])) ⟨AL 26 [(0,.ints D1),(1,.ints Ed),(12,.i (D1.length:Int)),(13,.i x13)],[]⟩
theorem xO (B:Nat) (N:Yd 0) (D1 Ed:List Int):Al (Ou D1 Ed) (xN · B N D1 Ed):=ia (fun _=>rfl) fun n AF pt r h=>by
 cases pt
 case l1 x13=>
  intro m0 AC;refine rd AC fun m0 AC=>?_
  revert r;apply gO;exact bi 14 (jg nW (gc (gi (gi (bi 24 (lE Pv [4] []) (gw 25 (lG Pv [] (AF _ _ · m0 AC)))))))) (lE Pv [4] [])
theorem jI {n:Nat} {D1 Ed:List Int} {r:Bool} (h:Ov n D1 Ed=some r):EQ 40 [.ints D1,.ints Ed] [] (.bool r) [] true:=by
 refine ot Tryz.func40 fun B N=>?_
 revert r;apply gO;exact bi 10 (lE Pv [4] []) (lN Pv [] ((xO B N D1 Ed n) _ _ · n Nat.le.refl))
inductive Nj where
 | l1 (x3:Int)
 | l2 (x3 x4:Int)
def XG (n:Nat) (self:Nj -> Option Int) (g_:List (List Int)) (x3:Int):Option Int:=
 bif (decide (x3<(g_.length:Int))) then
  self (.l2 x3 0)
 else
  some 0
def Tn (n:Nat) (self:Nj -> Option Int) (g_:List (List Int)) (x3 x4:Int):Option Int:=
 if 0<=x3/\ x3<(g_.length:Int) then
  bif (decide (x4<(((g_.getD ((x3).toNat) []).length:Nat):Int))) then
   if 0<=x4/\ x4<(((g_.getD ((x3).toNat) []).length:Nat):Int) then
    bif (decide (((g_.getD ((x3).toNat) []).getD ((x4).toNat) 0)<0)) then
     some 120
    else
     bif (decide (((g_.getD ((x3).toNat) []).getD ((x4).toNat) 0)>=(g_.length:Int))) then
      some 120
     else
      bif (((g_.getD ((x3).toNat) []).getD ((x4).toNat) 0)==x3) then
       some 120
      else
       bif (decide (x4>0)) then
        if AH (x4-1)/\ (0<=(x4-1)/\ (x4-1)<(((g_.getD ((x3).toNat) []).length:Nat):Int)) then
         bif (decide (((g_.getD ((x3).toNat) []).getD (((x4-1)).toNat) 0)>=((g_.getD ((x3).toNat) []).getD ((x4).toNat) 0))) then
          some 120
         else
          if (0:Int)<=((g_.getD ((x3).toNat) []).getD ((x4).toNat) 0)/\ ((g_.getD ((x3).toNat) []).getD ((x4).toNat) 0)<(g_.length:Int) then
           (has n (g_.getD (((g_.getD ((x3).toNat) []).getD ((x4).toNat) 0).toNat) []) x3).bind fun y1=>
            bif (!y1) then
             some 120
            else
             if AH (x4+1) then
              self (.l2 x3 (x4+1))
             else none
          else none
        else none
       else
        if (0:Int)<=((g_.getD ((x3).toNat) []).getD ((x4).toNat) 0)/\ ((g_.getD ((x3).toNat) []).getD ((x4).toNat) 0)<(g_.length:Int) then
         (has n (g_.getD (((g_.getD ((x3).toNat) []).getD ((x4).toNat) 0).toNat) []) x3).bind fun y1=>
          bif (!y1) then
           some 120
          else
           if AH (x4+1) then
            self (.l2 x3 (x4+1))
           else none
        else none
   else none
  else
   if AH (x3+1) then
    self (.l1 (x3+1))
   else none
 else none
def df (n:Nat) (self:Nj -> Option Int) (g_:List (List Int)):Option Int:=
 bif (decide ((g_.length:Int)>256)) then
  some 120
 else
  self (.l1 0)
def Hr (g_:List (List Int)):Nat -> Nj -> Option Int
 | 0,_=>none
 | n+1,.l1 x3=>XG n (Hr g_ n) g_ x3
 | n+1,.l2 x3 x4=>Tn n (Hr g_ n) g_ x3 x4
def To (n:Nat) (g_:List (List Int)):Option Int:=df n (Hr g_ n) g_
def pL (n B:Nat) (N:Yd 0) (g_:List (List Int)) (r:Int):Nj -> Prop
 | .l1 x3=>∀ m0:Nat,n<=m0 -> TW B N (FQ Tryz.f65 0 (.i r) []) (Ak m0 (Ap (Aa Tryz.f65) 0 [])) ⟨AL 69 [(0,.sl 1 g_.length (Aw BF g_)),(3,.i x3)],[]⟩
 | .l2 x3 x4=>∀ m0 m1:Nat,n<=m0 -> n<=m1 -> TW B N (FQ Tryz.f65 0 (.i r) []) (Ak m1 (Ap (Aa Tryz.f65) 2 [m0])) ⟨AL 69 [(0,.sl 1 g_.length (Aw BF g_)),(3,.i x3),(4,.i x4)],[]⟩
theorem pM (B:Nat) (N:Yd 0) (g_:List (List Int)):Al (Hr g_) (pL · B N g_):=ia (fun _=>rfl) fun n AF pt r h=>by
 cases pt
 case l1 x3=>
  intro m0 AC;refine rd AC fun m0 AC=>?_
  revert r;apply gO;exact bi 12 (lN AE [] (AF _ _ · m0 n AC Nat.le.refl)) (lE AE [2] [])
 case l2 x3 x4=>
  intro m0 m1 AC Ag;have AC:=zAc AC;refine rd Ag fun m1 Ag=>?_
  revert r;apply gO;exact gn fun g0=>jg g0 (bi 21 (jg g0 (gi (bi 32 (lE AE [2] []) (bi 37 (lE AE [2] []) (bi 42 (lE AE [2] []) (bi 46 (jg g0 (gc (gw 53 (gi (bi 57 (lE AE [2] []) (gi (cf iT [] fun _=>bi 67 (lE AE [2] []) (gw 23 (lG AE [] (AF _ _ · m0 m1 AC Ag)))))))))) (gi (cf iT [] fun _=>bi 67 (lE AE [2] []) (gw 23 (lG AE [] (AF _ _ · m0 m1 AC Ag))))))))))) (gw 14 (lG AE [] (AF _ _ · m0 AC))))
theorem pJ {n:Nat} {g_:List (List Int)} {r:Int} (h:To n g_=some r):EQ 65 [.sl 1 g_.length (Aw BF g_)] [] (.i r) [] true:=by
 refine ot Tryz.func65 fun B N=>?_
 revert r;apply gO;exact bi 8 (lE AE [2] []) (lN AE [] ((pM B N g_ n) _ _ · n Nat.le.refl))
inductive Oi where
 | l1 (Az:Int)
 | l2 (x3:Int) (x4:List Int) (Az:Int) (A1:List Int) (I8 Cg:Int)
def Zo (n:Nat) (self:Oi -> Option Int) (g_:List (List Int)) (Az:Int):Option Int:=
 bif (decide (Az<(g_.length:Int))) then
  if 0<=Az/\ Az<(g_.length:Int) then
   self (.l2 Az (g_.getD ((Az).toNat) []) Az (g_.getD ((Az).toNat) []) (((g_.getD ((Az).toNat) []).length:Nat):Int) 0)
  else none
 else
  some 0
def VM (n:Nat) (self:Oi -> Option Int) (g_:List (List Int)) (x3:Int) (x4:List Int) (Az:Int) (A1:List Int) (I8 Cg:Int):Option Int:=
 bif (decide (Cg<I8)) then
  if 0<=Cg/\ Cg<(A1.length:Int) then
   bif (decide ((A1.getD ((Cg).toNat) 0)<0)) then
    some 120
   else
    bif (decide ((A1.getD ((Cg).toNat) 0)>=(g_.length:Int))) then
     some 120
    else
     bif ((A1.getD ((Cg).toNat) 0)==x3) then
      some 120
     else
      bif (decide (Cg>0)) then
       if AH (Cg-1)/\ (0<=(Cg-1)/\ (Cg-1)<(x4.length:Int)) then
        bif (decide ((x4.getD (((Cg-1)).toNat) 0)>=(A1.getD ((Cg).toNat) 0))) then
         some 120
        else
         if 0<=(A1.getD ((Cg).toNat) 0)/\ (A1.getD ((Cg).toNat) 0)<(g_.length:Int) then
          (LG n (g_.getD ((A1.getD ((Cg).toNat) 0).toNat) []) x3).bind fun y1=>
           bif (!y1) then
            some 120
           else
            if AH (Cg+1) then
             self (.l2 x3 x4 Az A1 I8 (Cg+1))
            else none
         else none
       else none
      else
       if 0<=(A1.getD ((Cg).toNat) 0)/\ (A1.getD ((Cg).toNat) 0)<(g_.length:Int) then
        (LG n (g_.getD ((A1.getD ((Cg).toNat) 0).toNat) []) x3).bind fun y1=>
         bif (!y1) then
          some 120
         else
          if AH (Cg+1) then
           self (.l2 x3 x4 Az A1 I8 (Cg+1))
          else none
       else none
  else none
 else
  if AH (Az+1) then
   self (.l1 (Az+1))
  else none
def ix (n:Nat) (self:Oi -> Option Int) (g_:List (List Int)):Option Int:=
 bif (decide ((g_.length:Int)>256)) then
  some 120
 else
  self (.l1 0)
def IG (g_:List (List Int)):Nat -> Oi -> Option Int
 | 0,_=>none
 | n+1,.l1 Az=>Zo n (IG g_ n) g_ Az
 | n+1,.l2 x3 x4 Az A1 I8 Cg=>VM n (IG g_ n) g_ x3 x4 Az A1 I8 Cg
def Rr (n:Nat) (g_:List (List Int)):Option Int:=ix n (IG g_ n) g_
def wg (n B:Nat) (N:Yd 0) (g_:List (List Int)) (r:Int):Oi -> Prop
 | .l1 Az=>∀ m0:Nat,n<=m0 -> TW B N (FQ Tryz.f96 0 (.i r) []) (Ak m0 (Ap (Aa Tryz.f96) 0 [])) ⟨AL 61 [(0,.sl 1 g_.length (Aw BF g_)),(10,.sl 1 g_.length (Aw BF g_)),(11,.i (g_.length:Int)),(12,.i Az)],[]⟩
 | .l2 x3 x4 Az A1 I8 Cg=>∀ m0 m1:Nat,n<=m0 -> n<=m1 -> TW B N (FQ Tryz.f96 0 (.i r) []) (Ak m1 (Ap (Aa Tryz.f96) 2 [m0])) ⟨AL 61 [(0,.sl 1 g_.length (Aw BF g_)),(3,.i x3),(4,.ints x4),(10,.sl 1 g_.length (Aw BF g_)),(11,.i (g_.length:Int)),(12,.i Az),(17,.ints A1),(18,.i I8),(19,.i Cg)],[]⟩
theorem wh (B:Nat) (N:Yd 0) (g_:List (List Int)):Al (IG g_) (wg · B N g_):=ia (fun _=>rfl) fun n AF pt r h=>by
 cases pt
 case l1 Az=>
  intro m0 AC;refine rd AC fun m0 AC=>?_
  revert r;apply gO;exact bi 13 (gi (lN AE [] (AF _ _ · m0 n AC Nat.le.refl))) (lE AE [2] [])
 case l2 x3 x4 Az A1 I8 Cg=>
  intro m0 m1 AC Ag;have AC:=zAc AC;refine rd Ag fun m1 Ag=>?_
  revert r;apply gO;exact bi 20 (gi (bi 25 (lE AE [2] []) (bi 30 (lE AE [2] []) (bi 35 (lE AE [2] []) (bi 39 (gc (gw 43 (gi (bi 47 (lE AE [2] []) (gi (cf jh [] fun _=>bi 57 (lE AE [2] []) (gw 59 (lG AE [] (AF _ _ · m0 m1 AC Ag))))))))) (gi (cf jh [] fun _=>bi 57 (lE AE [2] []) (gw 59 (lG AE [] (AF _ _ · m0 m1 AC Ag)))))))))) (gw 60 (lG AE [] (AF _ _ · m0 AC)))
theorem iw {n:Nat} {g_:List (List Int)} {r:Int} (h:Rr n g_=some r):EQ 96 [.sl 1 g_.length (Aw BF g_)] [] (.i r) [] true:=by
 refine ot Tryz.func96 fun B N=>?_
 revert r;apply gO;exact bi 9 (lE AE [2] []) (lN AE [] ((wh B N g_ n) _ _ · n Nat.le.refl))
inductive Vc where
 | l1 (x3:Int)
def Vb (n:Nat) (self:Vc -> Option Bool) (q:AA) (x3:Int):Option Bool:=
 bif (decide (x3<(q.cons.length:Int))) then
  if 0<=x3/\ x3<(q.cons.length:Int) then
   bif (decide (((((q.cons.getD ((x3).toNat) default).cells).length:Nat):Int)>20)) then
    some false
   else
    bif (decide (((((q.cons.getD ((x3).toNat) default).runs).length:Nat):Int)>10)) then
     some false
    else
     if AH (x3+1) then
      self (.l1 (x3+1))
     else none
  else none
 else
  some true
def jD (n:Nat) (self:Vc -> Option Bool) (q:AA):Option Bool:=
 bif (decide (q.cells>16)) then
  some false
 else
  bif (decide (q.symbols>6)) then
   some false
  else
   bif (decide ((q.values.length:Int)>8)) then
    some false
   else
    bif (decide ((q.nbrs.length:Int)>20)) then
     some false
    else
     bif (decide ((q.cons.length:Int)>120)) then
      some false
     else
      self (.l1 0)
def Jv (q:AA):Nat -> Vc -> Option Bool
 | 0,_=>none
 | n+1,.l1 x3=>Vb n (Jv q n) q x3
def Vd (n:Nat) (q:AA):Option Bool:=jD n (Jv q n) q
def xH (n B:Nat) (N:Yd 0) (q:AA) (r:Bool):Vc -> Prop
 | .l1 x3=>∀ m0:Nat,n<=m0 -> TW B N (FQ Tryz.f56 0 (.bool r) []) (Ak m0 (Ap (Aa Tryz.f56) 0 [])) ⟨AL 55 [(1,.ref 0 0),(3,.i x3)],[some (.cells (AD q))]⟩
theorem xI (B:Nat) (N:Yd 0) (q:AA):Al (Jv q) (xH · B N q):=ia (fun _=>rfl) fun n AF pt r h=>by
 cases pt
 case l1 x3=>
  intro m0 AC;refine rd AC fun m0 AC=>?_
  revert r;apply gO;exact bi 34 (gn fun g0=>jg g0 (bi 44 (lE AE [2] []) (jg g0 (bi 53 (lE AE [2] []) (gw 36 (lG AE [0] (AF _ _ · m0 AC))))))) (lE AE [2] [])
theorem xG {n:Nat} {q:AA} {r:Bool} (h:Vd n q=some r):EQ 56 [.agg 5 (L1 (AD q))] [] (.bool r) [] true:=by
 refine ot Tryz.func56 fun B N=>?_
 revert r;apply gO;exact bi 6 (lE AE [2] []) (bi 10 (lE AE [2] []) (bi 16 (lE AE [2] []) (bi 22 (lE AE [2] []) (bi 28 (lE AE [2] []) (lN AE [0] ((xI B N q n) _ _ · n Nat.le.refl))))))
end Go.Proofs.YtgkhhfnhacibcaaGreatDoor
namespace Go.Proofs.YtgkhhfnhacibcaaGreatDoor
open Go.RowKit
set_option maxRecDepth 100000
set_option maxHeartbeats 40000000
def bB (n:Nat) (v lo hi:Int):Option Bool:=
 bif (decide (v<lo)) then
  some true
 else
  some (decide (v>hi))
def WL (n:Nat) (v lo hi:Int):Option Bool:=bB n v lo hi
theorem lH {n:Nat} {v lo hi:Int} {r:Bool} (h:WL n v lo hi=some r):EQ 118 [.i v,.fp 1 (L1 [.i lo]),.fp 1 (L1 [.i hi])] [] (.bool r) [] true:=by
 refine ot Tryz.func118 fun B N=>?_
 revert r;apply gO;exact bi 7 (lE AE [4] []) (lE AE [4] [])
inductive Uj where
 | l1 (x8:Int)
def YM (n:Nat) (self:Uj -> Option Int) (l:List Int) (lo hi:Int) (x8:Int):Option Int:=
 bif (decide (x8<(l.length:Int))) then
  if 0<=x8/\ x8<(l.length:Int) then
   (WL n (l.getD ((x8).toNat) 0) lo hi).bind fun y1=>
    bif y1 then
     some x8
    else
     if AH (x8+1) then
      self (.l1 (x8+1))
     else none
  else none
 else
  some (-1)
def gG (n:Nat) (self:Uj -> Option Int) (l:List Int) (lo hi:Int):Option Int:=
 self (.l1 0)
def MU (l:List Int) (lo hi:Int):Nat -> Uj -> Option Int
 | 0,_=>none
 | n+1,.l1 x8=>YM n (MU l lo hi n) l lo hi x8
def Ul (n:Nat) (l:List Int) (lo hi:Int):Option Int:=gG n (MU l lo hi n) l lo hi
def sQ (n B:Nat) (N:Yd 0) (l:List Int) (lo hi:Int) (r:Int):Uj -> Prop
 | .l1 x8=>∀ m0:Nat,n<=m0 -> TW B N (FQ Tryz.f41 0 (.i r) []) (Ak m0 (Ap (Aa Tryz.f41) 0 [])) ⟨AL 19 [(0,.ints l),(1,.fn 118 2 (L1 [.fp 1 (L1 [.i lo]),.fp 1 (L1 [.i hi])])),(7,.i (l.length:Int)),(8,.i x8)],[]⟩
theorem sR (B:Nat) (N:Yd 0) (l:List Int) (lo hi:Int):Al (MU l lo hi) (sQ · B N l lo hi):=ia (fun _=>rfl) fun n AF pt r h=>by
 cases pt
 case l1 x8=>
  intro m0 AC;refine rd AC fun m0 AC=>?_
  revert r;apply gO;exact bi 9 (gi (cf lH [] fun _=>bi 16 (lE AE [4] []) (gw 18 (lG AE [] (AF _ _ · m0 AC))))) (lE AE [4] [])
theorem sO {n:Nat} {l:List Int} {lo hi:Int} {r:Int} (h:Ul n l lo hi=some r):EQ 41 [.ints l,.fn 118 2 (L1 [.fp 1 (L1 [.i lo]),.fp 1 (L1 [.i hi])])] [] (.i r) [] true:=by
 refine ot Tryz.func41 fun B N=>?_
 revert r;apply gO;exact lN AE [] ((sR B N l lo hi n) _ _ · n Nat.le.refl)
def Z6 (n:Nat) (l:List Int) (lo hi:Int):Option Bool:=
 (Ul n l lo hi).bind fun y1=>
  some (decide (y1>=0))
def Vn (n:Nat) (l:List Int) (lo hi:Int):Option Bool:=Z6 n l lo hi
theorem yA {n:Nat} {l:List Int} {lo hi:Int} {r:Bool} (h:Vn n l lo hi=some r):EQ 48 [.ints l,.fn 118 2 (L1 [.fp 1 (L1 [.i lo]),.fp 1 (L1 [.i hi])])] [] (.bool r) [] true:=by
 unfold Vn Z6 at h;refine ot Tryz.func48 fun B N=>?_
 revert r;apply gO;exact cf sO [] fun _=>lE AE [4] []
def XK (n:Nat) (l_:List Int) (lo hi:Int):Option Bool:=
 (Vn n l_ lo hi).bind fun y1=>
  some (!y1)
def Kd (n:Nat) (l_:List Int) (lo hi:Int):Option Bool:=XK n l_ lo hi
theorem Tt {n:Nat} {l_:List Int} {lo hi:Int} {r:Bool} (h:Kd n l_ lo hi=some r):EQ 95 [.ints l_,.i lo,.i hi] [] (.bool r) [] true:=by
 unfold Kd XK at h;refine ot Tryz.func95 fun B N=>?_
 revert r;apply gO;exact cn fun y1 A5=>jc (sb [.ints l_,.fn 118 2 (L1 [.ref 0 0,.ref 1 0])] (yA A5) [some (.cells [.i lo]),some (.cells [.i hi])] ⟨Ae.plain (by kernel_rfl),(Ae.fnL (l:=[.ref 0 0,.ref 1 0]) (l0:=[.fp 1 (L1 [.i lo]),.fp 1 (L1 [.i hi])]) ⟨(Ae.refL (l:=[.i lo]) (l0:=[.i lo]) rfl ⟨Ae.plain (by kernel_rfl),trivial⟩),(Ae.refL (l:=[.i hi]) (l0:=[.i hi]) rfl ⟨Ae.plain (by kernel_rfl),trivial⟩),trivial⟩),trivial⟩) (lE AE [6] [])
theorem nV:An (A8 Tryz.f98 24) [([0,1,2,3,5,6,7,8],4),([],9),([10,11,12,13,14],15),([],16),([17,18,19,20,21,22,23,24,25,26],27)] [28,29] []:=by unfold An;kernel_rfl
def C9:BV:=fun i=>match i with
 | 24=>.ord [([0,1,2,3,5,6,7,8],4),([],9),([10,11,12,13,14],15),([],16),([17,18,19,20,21,22,23,24,25,26],27)] [28,29] []
 | _=>.no
def gx (q:AA) (c_:AB):DH:=[some (.cells (AD q)),some (.cells (AG c_)),some (.ints ([c_.set,c_.other]:List Int)),some (.ints ([c_.lo,c_.hi]:List Int))]
inductive K5 where
 | l1 (Aj:Int) (o2:List Bool)
 | l2
def Rv (n:Nat) (self:K5 -> Option Bool) (q:AA) (c_:AB) (Aj:Int) (o2:List Bool):Option Bool:=
 bif (decide (Aj<(c_.cells.length:Int))) then
  if 0<=Aj/\ Aj<(c_.cells.length:Int) then
   bif (decide ((c_.cells.getD ((Aj).toNat) 0)<0)) then
    some false
   else
    bif (decide ((c_.cells.getD ((Aj).toNat) 0)>=q.cells)) then
     some false
    else
     if (0<=(c_.cells.getD ((Aj).toNat) 0)/\ (c_.cells.getD ((Aj).toNat) 0)<((256:Nat):Int))/\ 0+((c_.cells.getD ((Aj).toNat) 0).toNat)<o2.length then
      bif (o2.getD (0+((c_.cells.getD ((Aj).toNat) 0).toNat)) false) then
       some false
      else
       bif (decide (c_.kind>=8)) then
        bif ((c_.cells.getD ((Aj).toNat) 0) != Aj) then
         some false
        else
         if AH (Aj+1) then
          self (.l1 (Aj+1) (o2.set (0+((c_.cells.getD ((Aj).toNat) 0).toNat)) true))
         else none
       else
        if AH (Aj+1) then
         self (.l1 (Aj+1) (o2.set (0+((c_.cells.getD ((Aj).toNat) 0).toNat)) true))
        else none
     else none
  else none
 else
  bif (c_.kind==1) then
   self (.l2)
  else
   bif (c_.kind==2) then
    self (.l2)
   else
    bif (c_.kind==3) then
     self (.l2)
    else
     bif (c_.kind==4) then
      self (.l2)
     else
      bif (c_.kind==5) then
       self (.l2)
      else
       bif (c_.kind==6) then
        bif ((c_.cells.length:Int) != 2) then
         some false
        else
         self (.l2)
       else
        bif (c_.kind==7) then
         bif ((c_.cells.length:Int) != 2) then
          some false
         else
          self (.l2)
        else
         bif (c_.kind==8) then
          bif ((c_.cells.length:Int) != q.cells) then
           some false
          else
           self (.l2)
         else
          bif (c_.kind==9) then
           bif ((c_.cells.length:Int) != q.cells) then
            some false
           else
            self (.l2)
          else
           some false
def VW (n:Nat) (self:K5 -> Option Bool) (q:AA) (c_:AB):Option Bool:=
 if (0<=q.symbols/\ q.symbols<=(IntKind.i64.bits:Int))/\ AH ((IntKind.i64.wrap (1*2 ^ (q.symbols).toNat))-1) then
  (Kd n ([c_.set,c_.other]:List Int) 0 ((IntKind.i64.wrap (1*2 ^ (q.symbols).toNat))-1)).bind fun y1=>
   bif y1 then
    (Kd n ([c_.lo,c_.hi]:List Int) 0 65536).bind fun y2=>
     bif y2 then
      bif (decide ((c_.runs.length:Int)<=8)) then
       (Kd n c_.runs 1 256).bind fun y3=>
        some y3
      else
       some false
     else
      some false
   else
    some false
 else none
def jA (n:Nat) (self:K5 -> Option Bool) (q:AA) (c_:AB):Option Bool:=
 self (.l1 0 (List.replicate 256 false))
def Oo (q:AA) (c_:AB):Nat -> K5 -> Option Bool
 | 0,_=>none
 | n+1,.l1 Aj o2=>Rv n (Oo q c_ n) q c_ Aj o2
 | n+1,.l2=>VW n (Oo q c_ n) q c_
def VX (n:Nat) (q:AA) (c_:AB):Option Bool:=jA n (Oo q c_ n) q c_
def w7 (n B:Nat) (N:Yd 0) (q:AA) (c_:AB) (r:Bool):K5 -> Prop
 | .l1 Aj o2=>∀ m0:Nat,n<=m0 -> TW B N (FQ Tryz.f98 0 (.bool r) []) (Ak m0 (Ap (Aa Tryz.f98) 0 [])) ⟨AL 95 [(2,.ref 0 0),(3,.ref 1 0),(5,.mp 2 1 0 0),(9,.ints c_.cells),(10,.i (c_.cells.length:Int)),(11,.i Aj)],[some (.cells (AD q)),some (.cells (AG c_)),some (.bools o2)]⟩
 | .l2=>TW B N (FQ Tryz.f98 0 (.bool r) []) (Gp (Aa Tryz.f98) 24 []) ⟨AL 95 [(2,.ref 0 0),(3,.ref 1 0)],[some (.cells (AD q)),some (.cells (AG c_))]⟩
theorem w8 (B:Nat) (N:Yd 0) (q:AA) (c_:AB):Al (Oo q c_) (w7 · B N q c_):=ia (fun _=>rfl) fun n AF pt r h=>by
 cases pt
 case l1 Aj o2=>
  intro m0 AC;refine rd AC fun m0 AC=>?_
  revert r;apply gO;exact bi 12 (gi (bi 17 (lE (BR 24 C9) [4] []) (bi 22 (lE (BR 24 C9) [4] []) (gc (gn fun g1=>jg g1 (gn fun g2=>jg g2 (bi 27 (lE (BR 24 C9) [4] []) (bi 32 (bi 36 (lE (BR 24 C9) [4] []) (jg g1 (jg g2 (gw 41 (lG (BR 24 C9) [0,1,2] (AF _ _ · m0 AC)))))) (jg g1 (jg g2 (gw 41 (lG (BR 24 C9) [0,1,2] (AF _ _ · m0 AC))))))))))))) (bi 45 (lG (BR 24 C9) [0,1] (AF _ _ ·)) (bi 46 (lG (BR 24 C9) [0,1] (AF _ _ ·)) (bi 47 (lG (BR 24 C9) [0,1] (AF _ _ ·)) (bi 48 (lG (BR 24 C9) [0,1] (AF _ _ ·)) (bi 49 (lG (BR 24 C9) [0,1] (AF _ _ ·)) (bi 51 (bi 56 (lE (BR 24 C9) [4] []) (lG (BR 24 C9) [0,1] (AF _ _ ·))) (bi 52 (bi 56 (lE (BR 24 C9) [4] []) (lG (BR 24 C9) [0,1] (AF _ _ ·))) (bi 58 (bi 65 (lE (BR 24 C9) [4] []) (lG (BR 24 C9) [0,1] (AF _ _ ·))) (bi 59 (bi 65 (lE (BR 24 C9) [4] []) (lG (BR 24 C9) [0,1] (AF _ _ ·))) (lE (BR 24 C9) [4] []))))))))))
 case l2=>
  revert r;apply gO;exact jg nV (gc (gi (gw 74 (cn fun y1 A5=>jc (sb [.msl 2 1 0 2,.i 0,.i ((IntKind.i64.wrap (1*2 ^ (q.symbols).toNat))-1)] (Tt A5) [some (.cells (AD q)),some (.cells (AG c_)),some (.ints ([c_.set,c_.other]:List Int))] ⟨Ae.ints rfl (Eq.refl 2),Ae.plain (by kernel_rfl),Ae.plain (by kernel_rfl),trivial⟩) (bi 75 (cn fun y2 CQ=>jc (sb [.msl 3 1 0 2,.i 0,.i 65536] (Tt CQ) (gx q c_) ⟨Ae.ints rfl (Eq.refl 2),Ae.plain (by kernel_rfl),Ae.plain (by kernel_rfl),trivial⟩) (bi 82 (bi 88 (cf Tt (gx q c_) fun _=>lE C9 [4] []) (lE C9 [4] [])) (lE C9 [4] []))) (lE C9 [4] []))))))
theorem w5 {n:Nat} {q:AA} {c_:AB} {r:Bool} (h:VX n q c_=some r):EQ 98 [.agg 5 (L1 (AD q)),.agg 9 (L1 (AG c_))] [] (.bool r) [] true:=by
 refine ot Tryz.func98 fun B N=>?_
 revert r;apply gO;exact lN (BR 24 C9) [0,1,2] ((w8 B N q c_ n) _ _ · n Nat.le.refl)
def WV (n:Nat) (c:AB) (q:AA):Option Bool:=
 (VX n q c).bind fun y1=>
  some (!y1)
def S0 (n:Nat) (c:AB) (q:AA):Option Bool:=WV n c q
theorem lV {n:Nat} {c:AB} {q:AA} {r:Bool} (h:S0 n c q=some r):EQ 97 [.agg 9 (L1 (AG c)),.fp 5 (L1 (AD q))] [] (.bool r) [] true:=by
 unfold S0 WV at h;refine ot Tryz.func97 fun B N=>?_
 revert r;apply gO;exact cf w5 [some (.cells (AG c))] fun _=>lE AE [3] []
inductive Uh where
 | l1 (x8:Int)
def Ug (n:Nat) (self:Uh -> Option Int) (l:List AB) (q:AA) (x8:Int):Option Int:=
 bif (decide (x8<(l.length:Int))) then
  if 0<=x8/\ x8<(l.length:Int) then
   (S0 n (l.getD ((x8).toNat) default) q).bind fun y1=>
    bif y1 then
     some x8
    else
     if AH (x8+1) then
      self (.l1 (x8+1))
     else none
  else none
 else
  some (-1)
def gF (n:Nat) (self:Uh -> Option Int) (l:List AB) (q:AA):Option Int:=
 self (.l1 0)
def Kp (l:List AB) (q:AA):Nat -> Uh -> Option Int
 | 0,_=>none
 | n+1,.l1 x8=>Ug n (Kp l q n) l q x8
def Ui (n:Nat) (l:List AB) (q:AA):Option Int:=gF n (Kp l q n) l q
def sM (n B:Nat) (N:Yd 0) (l:List AB) (q:AA) (r:Int):Uh -> Prop
 | .l1 x8=>∀ m0:Nat,n<=m0 -> TW B N (FQ Tryz.f92 0 (.i r) []) (Ak m0 (Ap (Aa Tryz.f92) 0 [])) ⟨AL 19 [(0,.sl 9 l.length (Aw AG l)),(1,.fn 97 1 (L1 [.fp 5 (L1 (AD q))])),(7,.i (l.length:Int)),(8,.i x8)],[]⟩
theorem sN (B:Nat) (N:Yd 0) (l:List AB) (q:AA):Al (Kp l q) (sM · B N l q):=ia (fun _=>rfl) fun n AF pt r h=>by
 cases pt
 case l1 x8=>
  intro m0 AC;refine rd AC fun m0 AC=>?_
  revert r;apply gO;exact bi 9 (gi (cf lV [] fun _=>bi 16 (lE AE [4] []) (gw 18 (lG AE [] (AF _ _ · m0 AC))))) (lE AE [4] [])
theorem sL {n:Nat} {l:List AB} {q:AA} {r:Int} (h:Ui n l q=some r):EQ 92 [.sl 9 l.length (Aw AG l),.fn 97 1 (L1 [.fp 5 (L1 (AD q))])] [] (.i r) [] true:=by
 refine ot Tryz.func92 fun B N=>?_
 revert r;apply gO;exact lN AE [] ((sN B N l q n) _ _ · n Nat.le.refl)
def Z5 (n:Nat) (l:List AB) (q:AA):Option Bool:=
 (Ui n l q).bind fun y1=>
  some (decide (y1>=0))
def Vl (n:Nat) (l:List AB) (q:AA):Option Bool:=Z5 n l q
theorem xz {n:Nat} {l:List AB} {q:AA} {r:Bool} (h:Vl n l q=some r):EQ 61 [.sl 9 l.length (Aw AG l),.fn 97 1 (L1 [.fp 5 (L1 (AD q))])] [] (.bool r) [] true:=by
 unfold Vl Z5 at h;refine ot Tryz.func61 fun B N=>?_
 revert r;apply gO;exact cf sL [] fun _=>lE AE [4] []
def bG (n:Nat) (q:AA):Option Int:=
 bif (decide (q.cells<1)) then
  some 191
 else
  bif (decide (q.cells>256)) then
   some 191
  else
   bif (decide (q.symbols<1)) then
    some 191
   else
    bif (decide (q.symbols>16)) then
     some 191
    else
     bif ((q.values.length:Int) != q.symbols) then
      some 191
     else
      (Kd n q.values 0 99).bind fun y1=>
       bif (!y1) then
        some 191
       else
        bif ((q.nbrs.length:Int) != q.cells) then
         some 191
        else
         (Rr n q.nbrs).bind fun y2=>
          bif (y2 != 0) then
           some 191
          else
           bif (decide ((q.cons.length:Int)>4096)) then
            some 191
           else
            (Vl n q.cons q).bind fun y3=>
             bif y3 then
              some 191
             else
              some 0
def valid (n:Nat) (q:AA):Option Int:=bG n q
theorem bF {n:Nat} {q:AA} {r:Int} (h:valid n q=some r):EQ 67 [.agg 5 (L1 (AD q))] [] (.i r) [] true:=by
 refine ot Tryz.func67 fun B N=>?_
 revert r;apply gO;exact bi 5 (lE AE [2] []) (bi 9 (lE AE [2] []) (bi 14 (lE AE [2] []) (bi 19 (lE AE [2] []) (bi 27 (lE AE [2] []) (cf Tt [some (.cells (AD q))] fun _=>bi 33 (lE AE [2] []) (bi 40 (lE AE [2] []) (cf iw [some (.cells (AD q))] fun _=>bi 45 (lE AE [2] []) (bi 51 (lE AE [2] []) (cn fun y3 RH=>jc (sb [.sl 9 q.cons.length (Aw AG q.cons),.fn 97 1 (L1 [.ref 0 0])] (xz RH) [some (.cells (AD q))] ⟨Ae.plain (by kernel_rfl),(Ae.fnL (l:=[.ref 0 0]) (l0:=[.fp 5 (L1 (AD q))]) ⟨(Ae.refL (l:=(AD q)) (l0:=(AD q)) rfl ⟨Ae.plain (by kernel_rfl),Ae.plain (by kernel_rfl),Ae.plain (by kernel_rfl),Ae.plain (by kernel_rfl),Ae.plain (by kernel_rfl),trivial⟩),trivial⟩),trivial⟩) (bi 56 (lE AE [2] []) (lE AE [2] [])))))))))))
def Xy (n:Nat) (q:AA) (i:Int):Option (Int×Int):=
 (valid n q).bind fun y1=>
  bif (y1 != 0) then
   some (0,y1)
  else
   bif (decide (i<0)) then
    some (0,260)
   else
    bif (decide (i>=(q.cons.length:Int))) then
     some (0,260)
    else
     if (0<=i/\ i<(q.cons.length:Int))/\ ((0:Int)<=((q.cons.getD ((i).toNat) default).kind)/\ ((q.cons.getD ((i).toNat) default).kind)<((10:Nat):Int)) then
      some (([0,1,1,2,2,3,1,1,4,4]:List Int).getD ((q.cons.getD ((i).toNat) default).kind).toNat 0,0)
     else none
def ML (n:Nat) (q:AA) (i:Int):Option (Int×Int):=Xy n q i
theorem Xx {n:Nat} {q:AA} {i:Int} {r:Int×Int} (h:ML n q i=some r):EQ 53 [.agg 5 (L1 (AD q)),.i i] [] (.tup 2 (L1 [.i r.1,.i r.2])) [] true:=by
 unfold ML Xy at h;refine ot Tryz.func53 fun B N=>?_
 revert r;apply gO;exact cf bF [some (.cells (AD q))] fun _=>bi 10 (lE AE [4,5] []) (bi 13 (lE AE [4,5] []) (bi 19 (lE AE [4,5] []) (gc (gi (gn fun g1=>jg g1 (jo 28 (AM.ixI [0,1,1,2,2,3,1,1,4,4] rfl g1) (lE AE [4,5] [])))))))
inductive Tg where
 | l1 (x7:Int)
def QH (n:Nat) (self:Tg -> Option Bool) (c_:AB) (cells symbols:Int) (x7:Int):Option Bool:=
 bif (decide (x7<(c_.cells.length:Int))) then
  bif (c_.kind==8) then
   if 0<=x7/\ x7<(c_.cells.length:Int) then
    bif ((c_.cells.getD ((x7).toNat) 0) != x7) then
     some false
    else
     if AH (x7+1) then
      self (.l1 (x7+1))
     else none
   else none
  else
   bif (c_.kind==9) then
    if 0<=x7/\ x7<(c_.cells.length:Int) then
     bif ((c_.cells.getD ((x7).toNat) 0) != x7) then
      some false
     else
      if AH (x7+1) then
       self (.l1 (x7+1))
      else none
    else none
   else
    if AH (x7+1) then
     self (.l1 (x7+1))
    else none
 else
  if (0<=symbols/\ symbols<=(IntKind.i64.bits:Int))/\ AH ((IntKind.i64.wrap (1*2 ^ (symbols).toNat))-1) then
   (LI n ([c_.set,c_.other]:List Int) 0 ((IntKind.i64.wrap (1*2 ^ (symbols).toNat))-1)).bind fun y1=>
    bif y1 then
     (LI n ([c_.lo,c_.hi]:List Int) 0 65536).bind fun y2=>
      bif y2 then
       bif (decide ((c_.runs.length:Int)<=8)) then
        (LI n c_.runs 1 256).bind fun y3=>
         some y3
       else
        some false
      else
       some false
    else
     some false
  else none
def dX (n:Nat) (self:Tg -> Option Bool) (c_:AB) (cells symbols:Int):Option Bool:=
 bif (decide (c_.kind<1)) then
  some false
 else
  bif (decide (c_.kind>9)) then
   some false
  else
   bif (decide ((c_.cells.length:Int)>cells)) then
    some false
   else
    if AH (cells-1) then
     (LI n c_.cells 0 (cells-1)).bind fun y1=>
      bif (!y1) then
       some false
      else
       (Vi n c_.cells).bind fun y2=>
        bif (!y2) then
         some false
        else
         bif (c_.kind==6) then
          bif ((c_.cells.length:Int) != 2) then
           some false
          else
           bif (c_.kind==8) then
            bif ((c_.cells.length:Int) != cells) then
             some false
            else
             self (.l1 0)
           else
            bif (c_.kind==9) then
             bif ((c_.cells.length:Int) != cells) then
              some false
             else
              self (.l1 0)
            else
             self (.l1 0)
         else
          bif (c_.kind==7) then
           bif ((c_.cells.length:Int) != 2) then
            some false
           else
            bif (c_.kind==8) then
             bif ((c_.cells.length:Int) != cells) then
              some false
             else
              self (.l1 0)
            else
             bif (c_.kind==9) then
              bif ((c_.cells.length:Int) != cells) then
               some false
              else
               self (.l1 0)
             else
              self (.l1 0)
          else
           bif (c_.kind==8) then
            bif ((c_.cells.length:Int) != cells) then
             some false
            else
             self (.l1 0)
           else
            bif (c_.kind==9) then
             bif ((c_.cells.length:Int) != cells) then
              some false
             else
              self (.l1 0)
            else
             self (.l1 0)
    else none
def Kc (c_:AB) (cells symbols:Int):Nat -> Tg -> Option Bool
 | 0,_=>none
 | n+1,.l1 x7=>QH n (Kc c_ cells symbols n) c_ cells symbols x7
def Ti (n:Nat) (c_:AB) (cells symbols:Int):Option Bool:=dX n (Kc c_ cells symbols n) c_ cells symbols
def oe (n B:Nat) (N:Yd 0) (c_:AB) (cells symbols:Int) (r:Bool):Tg -> Prop
 | .l1 x7=>∀ m0:Nat,n<=m0 -> TW B N (FQ Tryz.f66 0 (.bool r) []) (Ak m0 (Ap (Aa Tryz.f66) 0 [])) ⟨AL 120 [(2,.i symbols),(3,.ref 0 0),(7,.i x7)],[some (.cells (AG c_))]⟩
theorem og (B:Nat) (N:Yd 0) (c_:AB) (cells symbols:Int):Al (Kc c_ cells symbols) (oe · B N c_ cells symbols):=ia (fun _=>rfl) fun n AF pt r h=>by
 cases pt
 case l1 x7=>
  intro m0 AC;refine rd AC fun m0 AC=>?_
  revert r;apply gO;exact bi 71 (bi 76 (gi (bi 89 (lE AE [6] []) (gw 73 (lG AE [0] (AF _ _ · m0 AC))))) (bi 80 (gi (bi 89 (lE AE [6] []) (gw 73 (lG AE [0] (AF _ _ · m0 AC))))) (gw 73 (lG AE [0] (AF _ _ · m0 AC))))) (gc (gi (gw 93 (cn fun y1 A5=>jc (sb [.msl 1 1 0 2,.i 0,.i ((IntKind.i64.wrap (1*2 ^ (symbols).toNat))-1)] (Sc A5) [some (.cells (AG c_)),some (.ints ([c_.set,c_.other]:List Int))] ⟨Ae.ints rfl (Eq.refl 2),Ae.plain (by kernel_rfl),Ae.plain (by kernel_rfl),trivial⟩) (bi 100 (cn fun y2 CQ=>jc (sb [.msl 2 1 0 2,.i 0,.i 65536] (Sc CQ) [some (.cells (AG c_)),some (.ints ([c_.set,c_.other]:List Int)),some (.ints ([c_.lo,c_.hi]:List Int))] ⟨Ae.ints rfl (Eq.refl 2),Ae.plain (by kernel_rfl),Ae.plain (by kernel_rfl),trivial⟩) (bi 107 (bi 113 (cf Sc [some (.cells (AG c_)),some (.ints ([c_.set,c_.other]:List Int)),some (.ints ([c_.lo,c_.hi]:List Int))] fun _=>lE AE [6] []) (lE AE [6] [])) (lE AE [6] []))) (lE AE [6] []))))))
theorem oZ {n:Nat} {c_:AB} {cells symbols:Int} {r:Bool} (h:Ti n c_ cells symbols=some r):EQ 66 [.agg 9 (L1 (AG c_)),.i cells,.i symbols] [] (.bool r) [] true:=by
 have AF:=fun B N=>(og B N c_ cells symbols n)
 refine ot Tryz.func66 fun B N=>?_
 revert r;apply gO;exact bi 11 (lE AE [6] []) (bi 15 (lE AE [6] []) (bi 22 (lE AE [6] []) (gw 28 (cf Sc [some (.cells (AG c_))] fun _=>bi 30 (lE AE [6] []) (cf xb [some (.cells (AG c_))] fun _=>bi 36 (lE AE [6] []) (bi 40 (bi 50 (lE AE [6] []) (bi 54 (bi 65 (lE AE [6] []) (lN AE [0] ((AF B N) _ _ · n Nat.le.refl))) (bi 58 (bi 65 (lE AE [6] []) (lN AE [0] ((AF B N) _ _ · n Nat.le.refl))) (lN AE [0] ((AF B N) _ _ · n Nat.le.refl))))) (bi 44 (bi 50 (lE AE [6] []) (bi 54 (bi 65 (lE AE [6] []) (lN AE [0] ((AF B N) _ _ · n Nat.le.refl))) (bi 58 (bi 65 (lE AE [6] []) (lN AE [0] ((AF B N) _ _ · n Nat.le.refl))) (lN AE [0] ((AF B N) _ _ · n Nat.le.refl))))) (bi 54 (bi 65 (lE AE [6] []) (lN AE [0] ((AF B N) _ _ · n Nat.le.refl))) (bi 58 (bi 65 (lE AE [6] []) (lN AE [0] ((AF B N) _ _ · n Nat.le.refl))) (lN AE [0] ((AF B N) _ _ · n Nat.le.refl)))))))))))
theorem mn:An (A8 Tryz.f35 8) [([0,1,2,3,4,5,6,7,8],9)] [10] []:=by unfold An;kernel_rfl
def Gb:BV:=fun i=>match i with
 | 8=>.ord [([0,1,2,3,4,5,6,7,8],9)] [10] []
 | _=>.no
inductive TR where
 | l1 (x3:Int)
def TQ (n:Nat) (self:TR -> Option Int) (q:AA) (x3:Int):Option Int:=
 bif (decide (x3<(q.cons.length:Int))) then
  if 0<=x3/\ x3<(q.cons.length:Int) then
   (Ti n (q.cons.getD ((x3).toNat) default) q.cells q.symbols).bind fun y1=>
    bif (!y1) then
     some 191
    else
     if AH (x3+1) then
      self (.l1 (x3+1))
     else none
  else none
 else
  some 0
def cz (n:Nat) (self:TR -> Option Int) (q:AA):Option Int:=
 bif (decide (q.cells<1)) then
  some 191
 else
  bif (decide (q.cells>256)) then
   some 191
  else
   bif (decide (q.symbols<1)) then
    some 191
   else
    bif (decide (q.symbols>16)) then
     some 191
    else
     bif ((q.values.length:Int) != q.symbols) then
      some 191
     else
      (LI n q.values 0 99).bind fun y1=>
       bif (!y1) then
        some 191
       else
        bif ((q.nbrs.length:Int) != q.cells) then
         some 191
        else
         (To n q.nbrs).bind fun y2=>
          bif (y2 != 0) then
           some 191
          else
           bif (decide ((q.cons.length:Int)>4096)) then
            some 191
           else
            self (.l1 0)
def KU (q:AA):Nat -> TR -> Option Int
 | 0,_=>none
 | n+1,.l1 x3=>TQ n (KU q n) q x3
def Px (n:Nat) (q:AA):Option Int:=cz n (KU q n) q
def nn (n B:Nat) (N:Yd 0) (q:AA) (r:Int):TR -> Prop
 | .l1 x3=>∀ m0:Nat,n<=m0 -> TW B N (FQ Tryz.f35 0 (.i r) []) (Ak m0 (Ap (Aa Tryz.f35) 0 [])) ⟨AL 72 [(1,.ref 0 0),(3,.i x3)],[some (.cells (AD q))]⟩
theorem np (B:Nat) (N:Yd 0) (q:AA):Al (KU q) (nn · B N q):=ia (fun _=>rfl) fun n AF pt r h=>by
 cases pt
 case l1 x3=>
  intro m0 AC;refine rd AC fun m0 AC=>?_
  revert r;apply gO;exact bi 58 (jg mn (gi (cf oZ [some (.cells (AD q))] fun _=>bi 71 (lE Gb [2] []) (gw 60 (lG Gb [0] (AF _ _ · m0 AC)))))) (lE Gb [2] [])
theorem cy {n:Nat} {q:AA} {r:Int} (h:Px n q=some r):EQ 35 [.agg 5 (L1 (AD q))] [] (.i r) [] true:=by
 refine ot Tryz.func35 fun B N=>?_
 revert r;apply gO;exact bi 6 (lE Gb [2] []) (bi 10 (lE Gb [2] []) (bi 15 (lE Gb [2] []) (bi 20 (lE Gb [2] []) (bi 28 (lE Gb [2] []) (cf Sc [some (.cells (AD q))] fun _=>bi 34 (lE Gb [2] []) (bi 41 (lE Gb [2] []) (cf pJ [some (.cells (AD q))] fun _=>bi 46 (lE Gb [2] []) (bi 52 (lE Gb [2] []) (lN Gb [0] ((np B N q n) _ _ · n Nat.le.refl))))))))))
def Zr (n:Nat) (q:AA) (pos:List Int):Option Bool:=
 (Vd n q).bind fun y1=>
  bif y1 then
   some (decide ((pos.length:Int)<=20))
  else
   some false
def Ry (n:Nat) (q:AA) (pos:List Int):Option Bool:=Zr n q pos
theorem xE {n:Nat} {q:AA} {pos:List Int} {r:Bool} (h:Ry n q pos=some r):EQ 23 [.agg 5 (L1 (AD q)),.ints pos] [] (.bool r) [] true:=by
 unfold Ry Zr at h;refine ot Tryz.func23 fun B N=>?_
 revert r;apply gO;exact cf xG [some (.cells (AD q))] fun _=>bi 6 (lE AE [4] []) (lE AE [4] [])
end Go.Proofs.YtgkhhfnhacibcaaGreatDoor
namespace Go.Proofs.YtgkhhfnhacibcaaGreatDoor
abbrev ze:=@decide_eq_false
abbrev zg:=@cond_false
abbrev zk:=@cond_true
abbrev zl:=@Int.toNat_natCast
abbrev zAL:=@List.getElem_mem
abbrev zAZ:=@Bool.not_false
abbrev zAk:=@beq_eq_false_iff_ne
abbrev zAp:=@Int.natCast_nonneg
abbrev zAz:=@decide_true
abbrev zBD:=@Bool.or_false
abbrev zBP:=@and_self
abbrev zBU:=@decide_eq_false_iff_not
abbrev zBe:=@Bool.eq_false_iff
abbrev zBf:=@List.range_eq_range'
abbrev zBg:=@List.exists_of_findSome?_eq_some
abbrev zBl:=@Int.eq_ofNat_of_zero_le
abbrev zBw:=@List.findSome?_eq_none_iff
abbrev zB8:=@List.pairwise_iff_getElem
abbrev zB9:=@List.mem_take_iff_getElem
abbrev zCC:=@List.length_erase_of_mem
abbrev zCX:=@List.range'_succ
end Go.Proofs.YtgkhhfnhacibcaaGreatDoor
namespace Go.Proofs.YtgkhhfnhacibcaaGreatDoor
def H4 (lo hi:Int) (n:Int):Bool:=decide (lo<=n)&&decide (n<=hi)
def CH (xs:List Int) (lo hi:Int):Bool:=xs.all (H4 lo hi)
def Ey (g:List (List Int)) (i:Nat) (l:List Int) (k:Nat):Bool:=
 let n:=l.getD k 0
 decide (0<=n)&&decide (n<g.length)&&(n != i)&&(!decide (0<k)||decide (l.getD (k-1) 0<n))&&(g.getD n.toNat []).contains (i:Int)
def HA (g:List (List Int)) (i:Nat) (l:List Int):Bool:=(List.range l.length).all (Ey g i l)
def IE (g:List (List Int)):Bool:=decide (g.length<=256)&&(List.range g.length).all fun i=>HA g i (g.getD i [])
def M4 (n kind:Int) (cells:List Int) (i:Nat):Bool:=
 let x:=cells.getD i 0
 decide (0<=x)&&decide (x<n)&&!(cells.take i).contains x&&(!decide (8<=kind)||x==(i:Int))
def Vw (n kind:Int) (cells:List Int):Bool:=(List.range cells.length).all (M4 n kind cells)
def FC (n kind:Int) (len:Nat):Bool:=
 (decide (1<=kind)&&decide (kind<=5))||((kind==6||kind==7)&&len==2)||((kind==8||kind==9)&&(len:Int)==n)
def DF (q:AA) (c:AB):Bool:=
 Vw q.cells c.kind c.cells&&FC q.cells c.kind c.cells.length&&
 CH [c.set,c.other] 0 (2 ^ q.symbols.toNat-1)&&CH [c.lo,c.hi] 0 65536&&decide (c.runs.length<=8)&&CH c.runs 1 256
def MB (l:List Int):Bool:=(List.range l.length).all fun i=>!(l.take i).contains (l.getD i 0)
def Th (c:AB) (n sy:Int):Bool:=
 (decide (1<=c.kind)&&decide (c.kind<=9))&&decide ((c.cells.length:Int)<=n)&&CH c.cells 0 (n-1)&&MB c.cells&&
 (!(c.kind==6||c.kind==7)||c.cells.length==2)&&(!(c.kind==8||c.kind==9)||((c.cells.length:Int)==n))&&
 (!(c.kind==8||c.kind==9)||(List.range c.cells.length).all fun i=>c.cells.getD i 0==(i:Int))&&
 CH [c.set,c.other] 0 (2 ^ sy.toNat-1)&&CH [c.lo,c.hi] 0 65536&&decide (c.runs.length<=8)&&CH c.runs 1 256
theorem Nv: ∀ (n:Nat) (l:List Int),l.Nodup -> (∀ x∈l,0<=x/\ x<(n:Int)) -> l.length<=n
 | 0,l,_,h=>by
  cases l with
  | nil=>simp
  | cons a l=>have:=h a (by simp);omega
 | n+1,l,hd,h=>by
  have h1:(l.erase (n:Int)).length<=n:=Nv n _ (hd.erase _) (fun x hx=>by
   have:=hd.mem_erase_iff.1 hx;have h2:=h x this.2;have h3:=this.1;omega)
  by_cases hm:(n:Int)∈l
  ·have:=zCC hm;omega
  ·rw [List.erase_of_not_mem hm] at h1;omega
theorem ew {l:List Int}:MB l=true↔l.Nodup:=by
 unfold MB List.Nodup;rw [zq,zB8];constructor
 ·intro h i j hi hj Rb e;have:=h j (by simpa using hj);simp only [u8,zf hj,zBW,zAb] at this;rw [zBe,ne_eq,zBO,zB9] at this;exact this ⟨i,by omega,e⟩
 ·intro h i hi;have A3:i<l.length:=by simpa using hi
  simp only [u8,zf A3,zBW,zAb];rw [zBe,ne_eq,zBO,zB9];rintro ⟨j,hj,e⟩;exact h j i (by omega) A3 (by omega) e
theorem WK {l:List Int} {lo hi:Int}:CH l lo hi=true↔∀ x∈l,lo<=x/\ x<=hi:=by
 unfold CH;simp [H4]
theorem aE {n kind:Int} {cells:List Int}:Vw n kind cells=true↔(∀ x∈cells,0<=x/\ x<n)/\ cells.Nodup/\ (8<=kind -> ∀ j,j<cells.length -> cells.getD j 0=(j:Int)):=by
 rw [←ew];unfold Vw MB M4;simp only [zq,zw,zm,zAP,zAE,zAb,zAQ,zBU];constructor
 ·intro h;refine ⟨fun x hx=>?_,fun j hj=>(h j hj).1.2,fun h8 j hj=>?_⟩
  ·obtain ⟨j,hj,rfl⟩:=zAs hx;have:=(h j hj).1.1;simpa [hj] using this
  ·rcases (h j hj).2 with h' | h'
   ·exact absurd h8 h'
   ·exact h'
 ·rintro ⟨h1,h2,h3⟩ j hj;have hx:=h1 _ (zAL hj);refine ⟨⟨by simpa [hj] using hx,h2 j hj⟩,?_⟩
  by_cases h8:8<=kind
  ·exact .inr (h3 h8 j hj)
  ·exact .inl h8
theorem od (q:AA) (c:AB) (h1:1<=q.cells):Th c q.cells q.symbols=DF q c:=by
 rw [zAy];unfold Th DF;simp only [zm,aE,ew,WK (l:=c.cells),zAE,zAb,Bool.or_eq_false_iff,zAQ,zAk,zAP,zq,zw,FC];constructor
 ·rintro ⟨⟨⟨⟨⟨⟨⟨⟨⟨⟨⟨k1,k2⟩,k3⟩,k4⟩,k5⟩,k6⟩,k7⟩,k8⟩,k9⟩,YB⟩,YA⟩,X9⟩;refine ⟨⟨⟨⟨⟨⟨fun x hx=>⟨(k4 x hx).1,by have:=(k4 x hx).2;omega⟩,k5,fun h8=>?_⟩,?_⟩,k9⟩,YB⟩,YA⟩,X9⟩
  ·rcases k8 with h | h
   ·omega
   ·exact h
  ·rcases k6 with h6 | h6 <;> rcases k7 with h7 | h7
   ·left;left;omega
   ·by_cases h:c.kind=8∨c.kind=9
    ·right;exact ⟨h,h7⟩
    ·left;left;omega
   ·by_cases h:c.kind=6∨c.kind=7
    ·left;right;exact ⟨h,h6⟩
    ·left;left;omega
   ·by_cases h:c.kind=6∨c.kind=7
    ·left;right;exact ⟨h,h6⟩
    ·by_cases h2:c.kind=8∨c.kind=9
     ·right;exact ⟨h2,h7⟩
     ·left;left;omega
 ·rintro ⟨⟨⟨⟨⟨⟨k1,k2,k3⟩,k4⟩,k9⟩,YB⟩,YA⟩,X9⟩
  have Af:(c.cells.length:Int)<=q.cells:=by
   have:=Nv q.cells.toNat c.cells k2 (fun x hx=>by have:=k1 x hx;omega);omega
  refine ⟨⟨⟨⟨⟨⟨⟨⟨⟨⟨⟨by omega,by omega⟩,Af⟩,fun x hx=>⟨(k1 x hx).1,by have:=(k1 x hx).2;omega⟩⟩,k2⟩,?_⟩,?_⟩,?_⟩,k9⟩,YB⟩,YA⟩,X9⟩
  ·rcases k4 with (h | h) | h
   ·left;omega
   ·right;exact h.2
   ·left;omega
  ·rcases k4 with (h | h) | h
   ·left;omega
   ·left;omega
   ·right;exact h.2
  ·by_cases h8:8<=c.kind
   ·right;exact k3 h8
   ·left;omega
def Cb (q:AA):Bool:=
 decide (1<=q.cells)&&decide (q.cells<=256)&&decide (1<=q.symbols)&&decide (q.symbols<=16)&&((q.values.length:Int)==q.symbols)&&CH q.values 0 99&&
 ((q.nbrs.length:Int)==q.cells)&&IE q.nbrs&&decide (q.cons.length<=4096)&&q.cons.all (DF q)
def FP (kind:Int):Int:=if kind=3∨kind=4 then 2 else if kind=5 then 3 else if kind=8∨kind=9 then 4 else 1
def HK (q:AA) (i:Int):Int×Int:=
 if Cb q=false then (0,191) else if 0<=i/\ i<q.cons.length then (FP ((q.cons.getD i.toNat default).kind),0) else (0,260)
theorem C1 {q:AA} (h:Cb q=true):(1<=q.cells/\ q.cells<=256)/\ (1<=q.symbols/\ q.symbols<=16)/\ ((q.values.length:Int)=q.symbols/\ CH q.values 0 99=true)/\
 ((q.nbrs.length:Int)=q.cells/\ IE q.nbrs=true)/\ q.cons.length<=4096/\ ∀ c∈q.cons,DF q c=true:=by
 unfold Cb at h;simp only [zm,zAP,zAQ,zq] at h;obtain ⟨⟨⟨⟨⟨⟨⟨⟨⟨h1,h2⟩,h3⟩,h4⟩,h5⟩,h6⟩,h7⟩,h8⟩,h9⟩,Mx⟩:=h;exact ⟨⟨h1,h2⟩,⟨h3,h4⟩,⟨h5,h6⟩,⟨h7,h8⟩,h9,Mx⟩
theorem ft {q:AA} {c:AB} (h:DF q c=true):FC q.cells c.kind c.cells.length=true:=by
 unfold DF at h;simp only [zm] at h;exact h.1.1.1.1.2
theorem Q7 {n kind:Int} {len:Nat} (h:FC n kind len=true):1<=kind/\ kind<=9:=by
 unfold FC at h;simp at h;omega
theorem N7 {k:Int} (h:1<=k/\ k<=9):k=1∨k=2∨k=3∨k=4∨k=5∨k=6∨k=7∨k=8∨k=9:=by omega
end Go.Proofs.YtgkhhfnhacibcaaGreatDoor
namespace Go.Proofs.YtgkhhfnhacibcaaGreatDoor
open Go.RowKit
theorem ci {R:Type} (m:Nat -> Int -> Option R) (len N0:Nat) (B:Nat -> Option R) (h0: ∀ (n i:Nat),N0<=n -> i<len -> m (n+1) (i:Int)=(B i).or (m n ((i:Int)+1))):
 ∀ (k i n:Nat),i+k=len -> N0<=n -> m (n+k) (i:Int)=((List.range' i k).findSome? B).or (m n (len:Int))
 | 0,i,n,h,hn=>by
  have:i=len:=by omega
  subst this;rfl
 | k+1,i,n,h,hn=>by
  show m (n+k+1) (i:Int)=_
  rw [h0 (n+k) i (by omega) (by omega),zCX,List.findSome?_cons];cases B i with
  | some r=>rfl
  | none=>
   have:=ci m len N0 B h0 k (i+1) n (by omega) hn;rw [←this];simp
theorem Hp {R:Type} (m:Nat -> Int -> Option R) (len N0:Nat) (B:Nat -> Option R) (h0: ∀ (n i:Nat),N0<=n -> i<len -> m (n+1) (i:Int)=(B i).or (m n ((i:Int)+1))) {n:Nat} (hn:N0+len<=n):
 m n 0=((List.range len).findSome? B).or (m (n-len) (len:Int)):=by
 have:=ci m len N0 B h0 len 0 (n-len) (by omega) (by omega);rw [Nat.sub_add_cancel (by omega)] at this;rw [zBf];exact this
theorem K6 {R:Type} {l:List Nat} {p:Nat -> Bool} {r:R}:(l.findSome? fun i=>if p i then none else some r)=if l.all p then none else some r:=by
 induction l with
 | nil=>rfl
 | cons a l ih=>
  rw [List.findSome?_cons,zBr];cases hp:p a
  ·simp
  ·simp [ih]
theorem QM {α:Type} {l:List α} {d:α} {p:α -> Bool}:((List.range l.length).all fun i=>p (l.getD i d))=l.all p:=by
 rw [zAy,zq,zq];constructor
 ·intro h x hx;obtain ⟨i,hi,rfl⟩:=zAs hx;have:=h i (by simpa using hi);simpa [hi] using this
 ·intro h i hi;have A3:i<l.length:=by simpa using hi
  simp [A3,h _ (zAL A3)]
theorem r64 {i len:Nat} (h:i<len) (hl:len<=LB):AH ((i:Int)+1):=by rw [Aq];unfold LB at hl;omega
theorem Sd {l:List Int} {lo up:Int} {n:Nat} (hl:l.length<=LB) (hn:l.length<n):LI n l lo up=some (CH l lo up):=by
 unfold LI j6;have S:=Hp (fun n i=>PA l lo up n (.l1 i)) l.length 0 (fun i=>if H4 lo up (l.getD i 0) then none else some false) (fun n i _ hi=>?_) (n:=n) (by omega)
 ·refine S.trans ?_;rw [K6,QM (p:=H4 lo up)];unfold CH;cases l.all (H4 lo up) with
  | false=>rfl
  | true=>
   obtain ⟨m,hm⟩: ∃ m,n-l.length=m+1:=⟨n-l.length-1,by omega⟩;rw [hm];simp [PA,aG]
 ·have h1:(i:Int)<(l.length:Int):=by omega
  have h2:=r64 hi hl;simp only [PA,aG,h1,h2,zAz,zk,zAp,zBP,zAn,zl,H4];obtain ⟨x,hg⟩: ∃ y,l.getD i 0=y:=⟨_,rfl⟩;simp only [hg]
  by_cases a:x<lo
  ·have: ¬ lo<=x:=by omega
   simp [a,this]
  ·have a':lo<=x:=by omega
   by_cases b:up<x
   ·have: ¬ x<=up:=by omega
    simp [a,b,a',this]
   ·have b':x<=up:=by omega
    simp [a,b,a',b']
theorem sP {l:List Int} {lo up:Int} {n:Nat} (hl:l.length<=LB) (hn:l.length<n): ∃ r:Int,Ul n l lo up=some r/\ (0<=r↔CH l lo up=false):=by
 unfold Ul gG;have S:=Hp (fun n i=>MU l lo up n (.l1 i)) l.length 0 (fun i=>if H4 lo up (l.getD i 0) then none else some (i:Int)) (fun n i _ hi=>?_) (n:=n) (by omega)
 ·have S:=S;rw [show MU l lo up n (.l1 0)=_ from S];cases hf:(List.range l.length).findSome? (fun i=>if H4 lo up (l.getD i 0) then none else some (i:Int)) with
  | some r=>
   refine ⟨r,rfl,?_⟩;obtain ⟨i,hi,hr⟩:=zBg hf;have A3:i<l.length:=by simpa using hi
   split at hr
   ·cases hr
   ·rename_i hx;cases hr;refine ⟨fun _=>?_,fun _=>by omega⟩;unfold CH;rw [List.all_eq_false];exact ⟨l[i],zAL A3,by simpa [A3] using hx⟩
  | none=>
   obtain ⟨m,hm⟩: ∃ m,n-l.length=m+1:=⟨n-l.length-1,by omega⟩;refine ⟨-1,by rw [hm];simp [MU,YM],?_⟩;rw [zBw] at hf
   have:CH l lo up=true:=by
    unfold CH;rw [←QM (p:=H4 lo up) (d:=(0:Int)),zq];intro i hi;have:=hf i hi;cases hc:H4 lo up (l.getD i 0) with
    | true=>rfl
    | false=>rw [hc] at this;simp at this
   simp [this]
 ·have h1:(i:Int)<(l.length:Int):=by omega
  have h2:=r64 hi hl;simp only [MU,YM,WL,bB,h1,h2,zAz,zk,zAp,zBP,zAn,zl,H4];obtain ⟨x,hg⟩: ∃ y,l.getD i 0=y:=⟨_,rfl⟩;simp only [hg]
  by_cases a:x<lo
  ·have: ¬ lo<=x:=by omega
   simp [a,this]
  ·have a':lo<=x:=by omega
   by_cases b:up<x
   ·have: ¬ x<=up:=by omega
    simp [a,b,a',this]
   ·have b':x<=up:=by omega
    simp [a,b,a',b']
theorem Tu {l:List Int} {lo up:Int} {n:Nat} (hl:l.length<=LB) (hn:l.length<n):Kd n l lo up=some (CH l lo up):=by
 obtain ⟨r,h1,h2⟩:=sP (lo:=lo) (up:=up) hl hn;unfold Kd XK Vn Z6;rw [h1];cases hw:CH l lo up with
 | true=>
  have: ¬ 0<=r:=fun h=>by rw [h2.1 h] at hw;cases hw
  simp [this]
 | false=>
  have:0<=r:=h2.2 hw;simp [this]
theorem wG {l:List Int} {x:Int} {n:Nat} (hl:l.length<=LB) (hn:l.length<n):has n l x=some (l.contains x):=by
 unfold has iU;have S:=Hp (fun n i=>OZ l x n (.l1 i)) l.length 0 (fun i=>if (l.getD i 0 != x) then none else some true) (fun n i _ hi=>?_) (n:=n) (by omega)
 ·refine S.trans ?_;rw [K6,QM (p:=fun y=>y != x)]
  have e:l.all (fun y=>y != x)= !l.contains x:=by
   rw [zAy];simp;exact ⟨fun h hx=>h x hx rfl,fun h y hy e=>h (e▸hy)⟩
  rw [e];cases l.contains x with
  | true=>rfl
  | false=>
   obtain ⟨m,hm⟩: ∃ m,n-l.length=m+1:=⟨n-l.length-1,by omega⟩;rw [hm];simp [OZ,ZZ]
 ·have h1:(i:Int)<(l.length:Int):=by omega
  have h2:=r64 hi hl;simp only [OZ,ZZ,h1,h2,zAz,zk,zAp,zBP,zAn,zl];obtain ⟨y,hg⟩: ∃ y,l.getD i 0=y:=⟨_,rfl⟩;simp only [hg]
  by_cases a:y=x
  ·simp [a]
  ·have:(y==x)=false:=by simp [a]
   simp [this,a]
theorem yD {l:List Int} {x:Int} {n:Nat} (hl:l.length<=LB) (hn:l.length<n):LG n l x=some (l.contains x):=by
 have: ∃ r:Int,Un n l x=some r/\ (0<=r↔l.contains x=true):=by
  unfold Un gI;have S:=Hp (fun n i=>MW l x n (.l1 i)) l.length 0 (fun i=>if (x != l.getD i 0) then none else some (i:Int)) (fun n i _ hi=>?_) (n:=n) (by omega)
  ·rw [show MW l x n (.l1 0)=_ from S];cases hf:(List.range l.length).findSome? (fun i=>if (x != l.getD i 0) then none else some (i:Int)) with
   | some r=>
    refine ⟨r,rfl,?_⟩;obtain ⟨i,hi,hr⟩:=zBg hf;have A3:i<l.length:=by simpa using hi
    split at hr
    ·cases hr
    ·rename_i hx;cases hr;refine ⟨fun _=>?_,fun _=>by omega⟩;have:x=l[i]:=by simpa [A3] using hx
     rw [this];simp
   | none=>
    obtain ⟨m,hm⟩: ∃ m,n-l.length=m+1:=⟨n-l.length-1,by omega⟩;refine ⟨-1,by rw [hm];simp [MW,YN],?_⟩;rw [zBw] at hf
    have:l.contains x=false:=by
     rw [zBe];intro h;obtain ⟨i,hi,e⟩:=zAs (by simpa using h:x∈l);have:=hf i (by simpa using hi);simp [hi,e] at this
    rw [this];simp
  ·have h1:(i:Int)<(l.length:Int):=by omega
   have h2:=r64 hi hl;simp only [MW,YN,h1,h2,zAz,zk,zAp,zBP,zAn,zl];obtain ⟨y,hg⟩: ∃ y,l.getD i 0=y:=⟨_,rfl⟩;simp only [hg]
   by_cases a:x=y
   ·simp [a]
   ·have:(x==y)=false:=by simp [a]
    simp [this,a]
 obtain ⟨r,h1,h2⟩:=this;unfold LG Z7;rw [h1]
 by_cases h:0<=r
 ·have:=h2.1 h;simp only [zh];rw [this];simp [h]
 ·have:l.contains x=false:=by rw [zBe];exact fun hc=>h (h2.2 hc)
  simp only [zh];rw [this];simp;omega
end Go.Proofs.YtgkhhfnhacibcaaGreatDoor
namespace Go.Proofs.YtgkhhfnhacibcaaGreatDoor
open Go.RowKit
def En (g:List (List Int)):Nat:=(g.map fun r=>r.length+2).sum
theorem PQ: ∀ {g:List (List Int)} {r:List Int},r∈g -> r.length+2<=En g
 | [],_,h=>by cases h
 | a::g,r,h=>by
  simp only [En,zBF,List.sum_cons];rcases z8.1 h with rfl | h
  ·omega
  ·have:=PQ h;unfold En at this;omega
theorem bA {g:List (List Int)} {v:Nat} (hv:v<g.length):En (g.drop v)=(g.getD v []).length+2+En (g.drop (v+1)):=by
 rw [zAD hv];simp only [En,zBF,List.sum_cons,u8,zf hv,zBW]
theorem Og {g:List (List Int)} {v:Nat} (hv:v<g.length):g.getD v []∈g:=by
 rw [u8,zf hv];exact zAL hv
section
variable {g:List (List Int)} {v j n:Nat}
theorem fD {R:Type} (next PB:R) (c:Bool -> R) (hc:c true=next) (IA:c false=PB) (hv:v<g.length) (hj:j<(g.getD v []).length):
 (if Ey g v (g.getD v []) j then next else PB)=
  (if (g.getD v []).getD j 0<0 then PB else if (g.getD v []).getD j 0>=(g.length:Int) then PB else if (g.getD v []).getD j 0=(v:Int) then PB else
   if 0<j then (if (g.getD v []).getD (j-1) 0>=(g.getD v []).getD j 0 then PB else c ((g.getD ((g.getD v []).getD j 0).toNat []).contains (v:Int)))
   else c ((g.getD ((g.getD v []).getD j 0).toNat []).contains (v:Int))):=by
 unfold Ey;obtain ⟨x,hx⟩: ∃ x,(g.getD v []).getD j 0=x:=⟨_,rfl⟩;obtain ⟨y,hy⟩: ∃ y,(g.getD v []).getD (j-1) 0=y:=⟨_,rfl⟩;simp only [hx,hy]
 by_cases a:x<0
 ·have: ¬ 0<=x:=by omega
  simp [a,this]
 ·have a':0<=x:=by omega
  by_cases b:x>=(g.length:Int)
  ·have: ¬ x<(g.length:Int):=by omega
   simp [a,b,this]
  ·have b':x<(g.length:Int):=by omega
   by_cases d:x=(v:Int)
   ·simp [a,b,d]
   ·have d':(x != (v:Int))=true:=by simp [d]
    cases hcc:(g.getD x.toNat []).contains (v:Int) with
    | true=>
     by_cases e:0<j
     ·by_cases f:y>=x
      ·have: ¬ y<x:=by omega
       simp [a,b,d,d',e,f,this,a',b']
      ·have f':y<x:=by omega
       simp [a,b,d,d',e,f,f',a',b',hc]
     ·simp [a,b,d,d',e,a',b',hc]
    | false=>
     by_cases e:0<j
     ·by_cases f:y>=x
      ·have: ¬ y<x:=by omega
       simp [a,b,d,d',e,f,this,a',b']
      ·have f':y<x:=by omega
       simp [a,b,d,d',e,f,f',a',b',IA]
     ·simp [a,b,d,d',e,a',b',IA]
theorem dq {j len:Nat} (h:j<len) (hl:len<=LB):AH ((j:Int)-1):=by rw [Aq];unfold LB at hl;omega
theorem Nm {j len:Nat} (h:0<j) (h2:j<len):((0:Int)<=(j:Int)-1/\ (j:Int)-1<(len:Int))/\ ((j:Int)-1).toNat=j-1/\ (j:Int)>0:=by omega
theorem pN {self:Nj -> Option Int} (hv:v<g.length) (hg:g.length<=256) (hj:j<(g.getD v []).length) (hr: ∀ r∈g,r.length<=LB) (hn: ∀ r∈g,r.length<n):
 Tn n self g (v:Int) (j:Int)=(if Ey g v (g.getD v []) j then none else some (120:Int)).or (self (.l2 (v:Int) ((j:Int)+1))):=by
 have Af:=hr _ (Og hv);have h1:(v:Int)<(g.length:Int):=by omega
 have h2:(j:Int)<((g.getD v []).length:Int):=by omega
 have h3:=r64 hj Af;have key:=fD (g:=g) (v:=v) (j:=j) (self (.l2 (v:Int) ((j:Int)+1))) (some (120:Int)) (fun b=>bif b then self (.l2 (v:Int) ((j:Int)+1)) else some 120) rfl rfl hv hj
 have e1:((if Ey g v (g.getD v []) j then none else some (120:Int)).or (self (.l2 (v:Int) ((j:Int)+1))))=(if Ey g v (g.getD v []) j then self (.l2 (v:Int) ((j:Int)+1)) else some 120):=by
  cases Ey g v (g.getD v []) j <;> rfl
 rw [e1,key];simp only [Tn,h1,h2,h3,zAz,zk,zAp,zBP,zAn,zl];obtain ⟨x,hx⟩: ∃ x,(g.getD v []).getD j 0=x:=⟨_,rfl⟩;simp only [hx]
 by_cases a:x<0
 ·simp [a]
 by_cases b:x>=(g.length:Int)
 ·simp [a,b]
 by_cases d:x=(v:Int)
 ·simp [a,b,d]
 have d':(x==(v:Int))=false:=by simp [d]
 have Ma:g.getD x.toNat []∈g:=Og (by omega);have hh:has n (g.getD x.toNat []) (v:Int)=some ((g.getD x.toNat []).contains (v:Int)):=wG (hr _ Ma) (hn _ Ma);have Fw:0<=x/\ x<(g.length:Int):=by omega
 have fin:((has n (g.getD x.toNat []) (v:Int)).bind fun y1=>bif (!y1) then some (120:Int) else self (.l2 (v:Int) ((j:Int)+1)))=(bif (g.getD x.toNat []).contains (v:Int) then self (.l2 (v:Int) ((j:Int)+1)) else some 120):=by
  rw [hh];cases (g.getD x.toNat []).contains (v:Int) <;> rfl
 by_cases e:0<j
 ·have h4:AH ((j:Int)-1)/\ ((0:Int)<=(j:Int)-1/\ (j:Int)-1<((g.getD v []).length:Int)):=⟨dq hj Af,(Nm e hj).1⟩;have h5:=(Nm e hj).2.1;have e':=(Nm e hj).2.2;simp only [e',h4,h5,e,Fw,d',zAz,zk,zg,zAn,ze a,ze b,zBP,zr a,zr b,zr d,fin]
  by_cases f:(g.getD v []).getD (j-1) 0>=x
  ·simp only [f,zAz,zk,zAn]
  ·simp only [ze f,zg,zr f]
 ·have e': ¬ (j:Int)>0:=by omega
  simp only [Fw,d',zg,zAn,ze a,ze b,ze e',zBP,zr a,zr b,zr d,zr e,fin]
theorem wi {self:Oi -> Option Int} {row:List Int} (RQ:row=g.getD v []) (hv:v<g.length) (hg:g.length<=256) (hj:j<(g.getD v []).length) (hr: ∀ r∈g,r.length<=LB) (hn: ∀ r∈g,r.length<n):
 VM n self g (v:Int) row (v:Int) row (row.length:Int) (j:Int)=(if Ey g v (g.getD v []) j then none else some (120:Int)).or (self (.l2 (v:Int) row (v:Int) row (row.length:Int) ((j:Int)+1))):=by
 subst RQ;have Af:=hr _ (Og hv);have h1:(v:Int)<(g.length:Int):=by omega
 have h2:(j:Int)<((g.getD v []).length:Int):=by omega
 have h3:=r64 hj Af;obtain ⟨NX,iX⟩: ∃ NX,self (.l2 (v:Int) (g.getD v []) (v:Int) (g.getD v []) ((g.getD v []).length:Int) ((j:Int)+1))=NX:=⟨_,rfl⟩;have key:=fD (g:=g) (v:=v) (j:=j) NX (some (120:Int)) (fun b=>bif b then NX else some 120) rfl rfl hv hj
 have e1:((if Ey g v (g.getD v []) j then none else some (120:Int)).or NX)=(if Ey g v (g.getD v []) j then NX else some 120):=by
  cases Ey g v (g.getD v []) j <;> rfl
 rw [iX,e1,key];simp only [VM,h1,h2,h3,zAz,zk,zAp,zBP,zAn,zl,iX];obtain ⟨x,hx⟩: ∃ x,(g.getD v []).getD j 0=x:=⟨_,rfl⟩;simp only [hx]
 by_cases a:x<0
 ·simp [a]
 by_cases b:x>=(g.length:Int)
 ·simp [a,b]
 by_cases d:x=(v:Int)
 ·simp [a,b,d]
 have d':(x==(v:Int))=false:=by simp [d]
 have Ma:g.getD x.toNat []∈g:=Og (by omega);have hh:LG n (g.getD x.toNat []) (v:Int)=some ((g.getD x.toNat []).contains (v:Int)):=yD (hr _ Ma) (hn _ Ma);have Fw:0<=x/\ x<(g.length:Int):=by omega
 have fin:((LG n (g.getD x.toNat []) (v:Int)).bind fun y1=>bif (!y1) then some (120:Int) else NX)=(bif (g.getD x.toNat []).contains (v:Int) then NX else some 120):=by
  rw [hh];cases (g.getD x.toNat []).contains (v:Int) <;> rfl
 by_cases e:0<j
 ·have h4:AH ((j:Int)-1)/\ ((0:Int)<=(j:Int)-1/\ (j:Int)-1<((g.getD v []).length:Int)):=⟨dq hj Af,(Nm e hj).1⟩;have h5:=(Nm e hj).2.1;have e':=(Nm e hj).2.2;simp only [e',h4,h5,e,Fw,d',zAz,zk,zg,zAn,ze a,ze b,zBP,zr a,zr b,zr d,fin]
  by_cases f:(g.getD v []).getD (j-1) 0>=x
  ·simp only [f,zAz,zk,zAn]
  ·simp only [ze f,zg,zr f]
 ·have e': ¬ (j:Int)>0:=by omega
  simp only [Fw,d',zg,zAn,ze a,ze b,ze e',zBP,zr a,zr b,zr d,zr e,fin]
end
theorem dF {g:List (List Int)} {v:Nat} (hv:v<g.length):((List.range' v (g.length-v)).all fun i=>HA g i (g.getD i []))=(HA g v (g.getD v [])&&(List.range' (v+1) (g.length-(v+1))).all fun i=>HA g i (g.getD i [])):=by
 have:g.length-v=g.length-(v+1)+1:=by omega
 rw [this,zCX,zBr]
theorem dg {g:List (List Int)} (hg:g.length<=256) (hr: ∀ r∈g,r.length<=LB): ∀ (k v n:Nat),v+k=g.length -> En (g.drop v)+En g+1<=n -> Hr g n (.l1 (v:Int))=some (Ca ((List.range' v (g.length-v)).all fun i=>HA g i (g.getD i [])) 120)
 | 0,v,n,hv,hn=>by
  have:v=g.length:=by omega
  subst this;obtain ⟨m,rfl⟩: ∃ m,n=m+1:=⟨n-1,by omega⟩;simp [Hr,XG,Ca]
 | k+1,v,n,hv,hn=>by
  have Cn:v<g.length:=by omega
  rw [bA Cn] at hn;have hm:=PQ (Og Cn);obtain ⟨m,rfl⟩: ∃ m,n=m+1:=⟨n-1,by omega⟩;have h1:(v:Int)<(g.length:Int):=by omega
  have e1:Hr g (m+1) (.l1 (v:Int))=Hr g m (.l2 (v:Int) 0):=by simp [Hr,XG,h1]
  rw [e1];have S:=Hp (fun n i=>Hr g n (.l2 (v:Int) i)) (g.getD v []).length (En g) (fun j=>if Ey g v (g.getD v []) j then none else some 120) (fun n' j FD hj=>pN (n:=n') Cn hg hj hr fun r Cw=>by have:=PQ Cw;omega) (n:=m) (by omega);refine S.trans ?_;rw [K6,dF Cn];have eR:((List.range (g.getD v []).length).all fun i=>Ey g v (g.getD v []) i)=HA g v (g.getD v []):=rfl;rw [eR];cases HA g v (g.getD v []) with
  | false=>rfl
  | true=>
   obtain ⟨m',Bw⟩: ∃ m',m-(g.getD v []).length=m'+1:=⟨m-(g.getD v []).length-1,by omega⟩;rw [Bw];have h2:AH ((v:Int)+1):=by rw [Aq];omega
   have ih:=dg hg hr k (v+1) m' (by omega) (by omega);have h3: ¬ (((g.getD v []).length:Int)<((g.getD v []).length:Int)):=by omega
   simp only [zAn,Hr,Tn,h1,h2,zAp,zBP,zl,ze h3,zg,zAG];exact ih
theorem iz {g:List (List Int)} (hg:g.length<=256) (hr: ∀ r∈g,r.length<=LB): ∀ (k v n:Nat),v+k=g.length -> En (g.drop v)+En g+1<=n -> IG g n (.l1 (v:Int))=some (Ca ((List.range' v (g.length-v)).all fun i=>HA g i (g.getD i [])) 120)
 | 0,v,n,hv,hn=>by
  have:v=g.length:=by omega
  subst this;obtain ⟨m,rfl⟩: ∃ m,n=m+1:=⟨n-1,by omega⟩;simp [IG,Zo,Ca]
 | k+1,v,n,hv,hn=>by
  have Cn:v<g.length:=by omega
  rw [bA Cn] at hn;have hm:=PQ (Og Cn);obtain ⟨m,rfl⟩: ∃ m,n=m+1:=⟨n-1,by omega⟩;have h1:(v:Int)<(g.length:Int):=by omega
  have e1:IG g (m+1) (.l1 (v:Int))=IG g m (.l2 (v:Int) (g.getD v []) (v:Int) (g.getD v []) ((g.getD v []).length:Int) 0):=by
   simp only [IG,Zo,h1,zAz,zk,zAp,zBP,zAn,zl]
  rw [e1];have S:=Hp (fun n i=>IG g n (.l2 (v:Int) (g.getD v []) (v:Int) (g.getD v []) ((g.getD v []).length:Int) i)) (g.getD v []).length (En g) (fun j=>if Ey g v (g.getD v []) j then none else some 120) (fun n' j FD hj=>wi (n:=n') rfl Cn hg hj hr fun r Cw=>by have:=PQ Cw;omega) (n:=m) (by omega);refine S.trans ?_;rw [K6,dF Cn];have eR:((List.range (g.getD v []).length).all fun i=>Ey g v (g.getD v []) i)=HA g v (g.getD v []):=rfl;rw [eR];cases HA g v (g.getD v []) with
  | false=>rfl
  | true=>
   obtain ⟨m',Bw⟩: ∃ m',m-(g.getD v []).length=m'+1:=⟨m-(g.getD v []).length-1,by omega⟩;rw [Bw];have h2:AH ((v:Int)+1):=by rw [Aq];omega
   have ih:=iz hg hr k (v+1) m' (by omega) (by omega);have h3: ¬ (((g.getD v []).length:Int)<((g.getD v []).length:Int)):=by omega
   simp only [zAn,IG,VM,h2,ze h3,zg,zAG];exact ih
theorem pK {g:List (List Int)} {n:Nat} (hr: ∀ r∈g,r.length<=LB) (hn:2*En g+1<=n):To n g=some (Ca (IE g) 120):=by
 unfold To df IE
 by_cases h:(g.length:Int)>256
 ·have: ¬ g.length<=256:=by omega
  simp [h,this,Ca]
 ·have h':g.length<=256:=by omega
  have:=dg h' hr g.length 0 n (by omega) (by simp;omega);simp only [ze h,zg,zn h',zAG];rw [zBf];simpa using this
theorem iy {g:List (List Int)} {n:Nat} (hr: ∀ r∈g,r.length<=LB) (hn:2*En g+1<=n):Rr n g=some (Ca (IE g) 120):=by
 unfold Rr ix IE
 by_cases h:(g.length:Int)>256
 ·have: ¬ g.length<=256:=by omega
  simp [h,this,Ca]
 ·have h':g.length<=256:=by omega
  have:=iz h' hr g.length 0 n (by omega) (by simp;omega);simp only [ze h,zg,zn h',zAG];rw [zBf];simpa using this
end Go.Proofs.YtgkhhfnhacibcaaGreatDoor
namespace Go.Proofs.YtgkhhfnhacibcaaGreatDoor
open Go.RowKit
theorem T3 {s:Int} (h1:1<=s) (h2:s<=16):IntKind.i64.wrap (1*2 ^ s.toNat)=2 ^ s.toNat/\ AH ((2:Int) ^ s.toNat-1)/\ ((0:Int)<=s/\ s<=((IntKind.i64.bits:Nat):Int)):=by
 obtain ⟨m,rfl⟩:=zBl (show 0<=s by omega);rw [zl];have h:m<17:=by omega
 refine ⟨?_,?_,by omega,by show (m:Int)<=64;omega⟩
 ·revert h;clear h1 h2;revert m;decide
 ·revert h;clear h1 h2;revert m;decide
theorem xh {l:List Int} (hl:l.length<=LB) {i:Nat} (hi:i<l.length) {self:Oz -> Option Bool} {n:Nat} (j:Nat) (hj:j<i):Vg n self l (i:Int) (j:Int)=(if l.getD i 0 != l.getD j 0 then none else some false).or (self (.l2 (i:Int) ((j:Int)+1))):=by
 have h1:(j:Int)<(i:Int):=by omega
 have h2:(i:Int)<(l.length:Int):=by omega
 have h3:(j:Int)<(l.length:Int):=by omega
 have h4:=r64 (show j<l.length by omega) hl;simp only [Vg,h1,h2,h3,h4,zAz,zk,zAp,zBP,zAn,zl]
 by_cases a:l.getD i 0=l.getD j 0
 ·have t:(l.getD i 0==l.getD j 0)=true:=by simp only [zAQ];exact a
  have t':(l.getD i 0 != l.getD j 0)=false:=by simp only [bne,t,zAW]
  simp only [t,t',zk,zAa,zBY,Option.or]
 ·have:(l.getD i 0==l.getD j 0)=false:=by simp only [zAk];exact a
  have a':(l.getD i 0 != l.getD j 0)=true:=by simp only [zBH];exact a
  simp only [this,a',zg,zAn,Option.or]
theorem lm {l:List Int} {i:Nat} (hi:i<=l.length) {x:Int}:((List.range i).all fun j=>x != l.getD j 0)= !(l.take i).contains x:=by
 rw [zAy];simp only [zq,zw,zBH,ne_eq,zAb,zBe,zBO,zB9,not_exists];constructor
 ·intro h j hj e;have BH:j<l.length:=by omega
  refine h j (by omega) ?_;rw [←e];simp [BH]
 ·intro h j hj e;have BH:j<l.length:=by omega
  exact h j (by omega) (by rw [e];simp [BH])
theorem jY {l:List Int} (hl:l.length<=LB): ∀ (k i n:Nat),i+k=l.length -> k*(l.length+2)+1<=n -> IK l n (.l1 (i:Int))=some ((List.range' i k).all fun i=>!(l.take i).contains (l.getD i 0))
 | 0,i,n,hi,hn=>by
  have:i=l.length:=by omega
  subst this;obtain ⟨m,rfl⟩: ∃ m,n=m+1:=⟨n-1,by omega⟩;simp [IK,Z1]
 | k+1,i,n,hi,hn=>by
  have A3:i<l.length:=by omega
  rw [zB3] at hn;obtain ⟨m,rfl⟩: ∃ m,n=m+1:=⟨n-1,by omega⟩;have h1:(i:Int)<(l.length:Int):=by omega
  have e1:IK l (m+1) (.l1 (i:Int))=IK l m (.l2 (i:Int) 0):=by simp [IK,Z1,h1]
  rw [e1];have S:=Hp (fun n j=>IK l n (.l2 (i:Int) j)) i 0 (fun j=>if l.getD i 0 != l.getD j 0 then none else some false) (fun n' j _ hj=>xh (n:=n') hl A3 j hj) (n:=m) (by omega);refine S.trans ?_;rw [K6,lm (by omega),zCX,zBr];cases (l.take i).contains (l.getD i 0) with
  | true=>rfl
  | false=>
   obtain ⟨m',Bw⟩: ∃ m',m-i=m'+1:=⟨m-i-1,by omega⟩;rw [Bw];have ih:=jY hl k (i+1) m' (by omega) (by omega);have h2:=r64 A3 hl;have h3: ¬ ((i:Int)<(i:Int)):=by omega
   simp only [zAZ,zAn,IK,Vg,ze h3,zg,h2,zAG];exact ih
theorem xc {l:List Int} {n:Nat} (hl:l.length<=LB) (hn:l.length*(l.length+2)+1<=n):Vi n l=some (MB l):=by
 unfold Vi jX MB;rw [zBf];exact jY hl l.length 0 n (by omega) hn
section
variable {c:AB} {n:Nat}
def JK (sy:Int) (c:AB):Bool:=CH [c.set,c.other] 0 (2 ^ sy.toNat-1)&&CH [c.lo,c.hi] 0 65536&&decide (c.runs.length<=8)&&CH c.runs 1 256
theorem UZ {a b:Int}:([a,b]:List Int).length<=LB:=by show 2<=LB;unfold LB;omega
theorem fg {l:List Int}:(decide (((l.length:Nat):Int)<=8))=decide (l.length<=8):=by rw [zAy];simp;omega
theorem wy {self:K5 -> Option Bool} {q:AA} (h1:1<=q.symbols) (h2:q.symbols<=16) (hr:c.runs.length<=LB) (hn:c.runs.length<n) (HQ:2<n):VW n self q c=some (JK q.symbols c):=by
 obtain ⟨p1,p2,p3⟩:=T3 h1 h2;unfold VW;rw [p1,zi ⟨p3,p2⟩,Tu UZ (show 2<n from HQ),Tu UZ (show 2<n from HQ),Tu hr hn];unfold JK;rw [fg];cases CH [c.set,c.other] 0 (2 ^ q.symbols.toNat-1) <;> cases CH [c.lo,c.hi] 0 65536 <;> cases decide (c.runs.length<=8) <;> rfl
theorem w4 {self:K5 -> Option Bool} {q:AA} (hq:q.cells<=256) (hc:c.cells.length<=LB) {i:Nat} (hi:i<c.cells.length) {o:List Bool} (ho:o.length=256) (hm: ∀ x:Nat,x<256 -> o.getD x false=(c.cells.take i).contains (x:Int)):
 Rv n self q c (i:Int) o=if M4 q.cells c.kind c.cells i then self (.l1 ((i:Int)+1) (o.set (0+(c.cells.getD i 0).toNat) true)) else some false:=by
 have h1:(i:Int)<(c.cells.length:Int):=by omega
 have h2:=r64 hi hc;unfold M4;obtain ⟨x,hx⟩: ∃ x,c.cells.getD i 0=x:=⟨_,rfl⟩;simp only [Rv,h1,h2,zAz,zk,zAp,zBP,zAn,zl,hx]
 by_cases a:x<0
 ·have: ¬ 0<=x:=by omega
  simp [a,this]
 have a':0<=x:=by omega
 by_cases b:x>=q.cells
 ·have: ¬ x<q.cells:=by omega
  simp [a,b,this]
 have b':x<q.cells:=by omega
 have hg:((0:Int)<=x/\ x<((256:Nat):Int))/\ 0+x.toNat<o.length:=⟨⟨a',by omega⟩,by omega⟩
 have vN:o.getD (0+x.toNat) false=(c.cells.take i).contains x:=by
  rw [zAA,hm x.toNat (by omega)]
  congr 1;omega
 simp only [hg,vN,ze a,ze b,zg,zAn,zn a',zn b',zAG,zBP];cases (c.cells.take i).contains x with
 | true=>rfl
 | false=>
  by_cases e:c.kind>=8
  ·have e':8<=c.kind:=e
   by_cases f:x=(i:Int)
   ·have f1:(x != (i:Int))=false:=by simp [f]
    have f2:(x==(i:Int))=true:=by simp [f]
    simp only [e,e',f1,f2,zAz,zk,zg,zAZ,zAW,zBS,zAG,zAn]
   ·have f1:(x != (i:Int))=true:=by simp [f]
    have f2:(x==(i:Int))=false:=by simp [f]
    simp only [e,e',f1,f2,zAz,zk,zg,zAZ,zAW,zBS,zAG,zAa,zBY]
  ·have e': ¬ 8<=c.kind:=e;simp only [ze e,ze e',zAz,zg,zAZ,Bool.true_or,Bool.and_self,zAn]
theorem wz {self:K5 -> Option Bool} {q:AA} {o:List Bool}:Rv n self q c (c.cells.length:Int) o=if FC q.cells c.kind c.cells.length then self .l2 else some false:=by
 have h1: ¬ ((c.cells.length:Int)<(c.cells.length:Int)):=by omega
 simp only [Rv,ze h1,zg]
 by_cases hk:1<=c.kind/\ c.kind<=9
 ·obtain ⟨k,iB⟩: ∃ k,c.kind=k:=⟨_,rfl⟩;rw [iB] at hk;simp only [iB];have e2:(((c.cells.length:Nat):Int) != 2)= !(c.cells.length==2):=by rw [zAy];simp;omega
  have e3:(((c.cells.length:Nat):Int) != q.cells)= !(((c.cells.length:Nat):Int)==q.cells):=rfl;rcases N7 hk with h | h | h | h | h | h | h | h | h <;> subst h
  ·rfl
  ·rfl
  ·rfl
  ·rfl
  ·rfl
  ·show (bif (((c.cells.length:Nat):Int) != 2) then some false else self .l2)=_
   rw [e2];unfold FC;cases c.cells.length==2 <;> rfl
  ·show (bif (((c.cells.length:Nat):Int) != 2) then some false else self .l2)=_
   rw [e2];unfold FC;cases c.cells.length==2 <;> rfl
  ·show (bif (((c.cells.length:Nat):Int) != q.cells) then some false else self .l2)=_
   rw [e3];unfold FC;cases ((c.cells.length:Nat):Int)==q.cells <;> rfl
  ·show (bif (((c.cells.length:Nat):Int) != q.cells) then some false else self .l2)=_
   rw [e3];unfold FC;cases ((c.cells.length:Nat):Int)==q.cells <;> rfl
 ·have Jk:FC q.cells c.kind c.cells.length=false:=by
   rw [zBe];exact fun h=>hk (Q7 h)
  rw [Jk];have z: ∀ m:Int,1<=m -> m<=9 -> (c.kind==m)=false:=fun m h1 h2=>by simp only [zAk];omega
  simp [z 1,z 2,z 3,z 4,z 5,z 6,z 7,z 8,z 9]
theorem i9 {q:AA} (hq:q.cells<=256) (hc:c.cells.length<=LB) (h1:1<=q.symbols) (h2:q.symbols<=16) (hr:c.runs.length<=LB): ∀ (k i n:Nat) (o:List Bool),i+k=c.cells.length -> k+c.runs.length+6<=n -> o.length=256 -> (∀ x:Nat,x<256 -> o.getD x false=(c.cells.take i).contains (x:Int)) ->
 Oo q c n (.l1 (i:Int) o)=some ((List.range' i k).all (M4 q.cells c.kind c.cells)&&FC q.cells c.kind c.cells.length&&JK q.symbols c)
 | 0,i,n,o,hi,hn,ho,hm=>by
  have:i=c.cells.length:=by omega
  subst this;obtain ⟨m,rfl⟩: ∃ m,n=m+1:=⟨n-1,by omega⟩;refine (wz (n:=m)).trans ?_;cases FC q.cells c.kind c.cells.length with
  | false=>simp
  | true=>
   obtain ⟨m',rfl⟩: ∃ m',m=m'+1:=⟨m-1,by omega⟩
   show VW m' (Oo q c m') q c=_
   rw [wy h1 h2 hr (by omega) (by omega)];simp
 | k+1,i,n,o,hi,hn,ho,hm=>by
  obtain ⟨m,rfl⟩: ∃ m,n=m+1:=⟨n-1,by omega⟩;refine (w4 (n:=m) hq hc (show i<c.cells.length by omega) ho hm).trans ?_;rw [zCX,zBr];cases VC:M4 q.cells c.kind c.cells i with
  | false=>simp
  | true=>
   have hx:0<=c.cells.getD i 0/\ c.cells.getD i 0<q.cells:=by
    unfold M4 at VC;simp only [zm,zAP] at VC;exact ⟨VC.1.1.1,VC.1.1.2⟩
   have ih:=i9 hq hc h1 h2 hr k (i+1) m (o.set (0+(c.cells.getD i 0).toNat) true) (by omega) (by omega) (by simp [ho]) (fun x tB=>?_)
   ·simp only [zAn,zAG];exact ih
   ·have A3:i<c.cells.length:=by omega
    rw [zAA]
    have ht:c.cells.take (i+1)=c.cells.take i++[c.cells.getD i 0]:=by
     rw [List.take_add_one];simp [A3]
    rw [ht,List.contains_append,←hm x tB];rw [u8,zAU]
    by_cases e:(c.cells.getD i 0).toNat=x
    ·have e2:((x:Nat):Int)=c.cells.getD i 0:=by omega
     rw [zi e,zi (by omega)];simp [e2]
    ·have e2: ¬ ((x:Nat):Int)=c.cells.getD i 0:=by omega
     rw [zr e]
     have e3:([c.cells.getD i 0].contains ((x:Nat):Int))=false:=by
      simp only [List.contains_cons,List.contains_nil,zBD,zAk];exact e2
     rw [e3,zBD,u8]
theorem w6 {q:AA} (hq:q.cells<=256) (hc:c.cells.length<=LB) (h1:1<=q.symbols) (h2:q.symbols<=16) (hr:c.runs.length<=LB) (hn:c.cells.length+c.runs.length+6<=n):VX n q c=some (DF q c):=by
 unfold VX jA;have:=i9 hq hc h1 h2 hr c.cells.length 0 n (List.replicate 256 false) (by omega) (by omega) zx (fun x hx=>by rw [u8,zAm,zi hx];rfl);refine Eq.trans this ?_;rw [←zBf];unfold DF Vw JK;simp only [Bool.and_assoc]
end
end Go.Proofs.YtgkhhfnhacibcaaGreatDoor
namespace Go.Proofs.YtgkhhfnhacibcaaGreatDoor
open Go.RowKit
section
variable {c:AB} {n:Nat} {cells sy:Int}
def OD (c:AB):Bool:=(List.range c.cells.length).all fun i=>c.cells.getD i 0==(i:Int)
theorem oa (hc:c.cells.length<=LB) (hr:c.runs.length<=LB) (h1:1<=sy) (h2:sy<=16) (hn:c.cells.length+c.runs.length+6<=n):Kc c cells sy n (.l1 0)=some ((!(c.kind==8||c.kind==9)||OD c)&&JK sy c):=by
 have S:=Hp (fun n i=>Kc c cells sy n (.l1 i)) c.cells.length 0 (fun i=>if (!(c.kind==8||c.kind==9)||c.cells.getD i 0==(i:Int)) then none else some false) (fun n i _ hi=>?_) (n:=n) (by omega)
 ·refine S.trans ?_;rw [K6]
  have e:((List.range c.cells.length).all fun i=>(!(c.kind==8||c.kind==9)||c.cells.getD i 0==(i:Int)))=(!(c.kind==8||c.kind==9)||OD c):=by
   unfold OD;cases (c.kind==8||c.kind==9) with
   | true=>simp
   | false=>simp
  rw [e];cases (!(c.kind==8||c.kind==9)||OD c) with
  | false=>rfl
  | true=>
   obtain ⟨m,hm⟩: ∃ m,n-c.cells.length=m+1:=⟨n-c.cells.length-1,by omega⟩;rw [hm];obtain ⟨p1,p2,p3⟩:=T3 h1 h2;have h3: ¬ ((c.cells.length:Int)<(c.cells.length:Int)):=by omega
   show QH m (Kc c cells sy m) c cells sy (c.cells.length:Int)=_
   unfold QH;rw [ze h3,zg,p1,zi ⟨p3,p2⟩,Sd UZ (show 2<m by omega),Sd UZ (show 2<m by omega),Sd hr (show c.runs.length<m by omega)];unfold JK;rw [fg];cases CH [c.set,c.other] 0 (2 ^ sy.toNat-1) <;> cases CH [c.lo,c.hi] 0 65536 <;> cases decide (c.runs.length<=8) <;> rfl
 ·have h1:(i:Int)<(c.cells.length:Int):=by omega
  have h2:=r64 hi hc
  show QH n (Kc c cells sy n) c cells sy (i:Int)=_
  generalize Kc c cells sy n=self
  simp only [QH,h1,h2,zAz,zk,zAp,zBP,zAn,zl];obtain ⟨x,hx⟩: ∃ x,c.cells.getD i 0=x:=⟨_,rfl⟩;simp only [hx]
  by_cases f:x=(i:Int)
  ·have f1:(x != (i:Int))=false:=by simp [f]
   have f2:(x==(i:Int))=true:=by simp [f]
   rw [f1,f2];cases c.kind==8 <;> cases c.kind==9 <;> rfl
  ·have f1:(x != (i:Int))=true:=by simp [f]
   have f2:(x==(i:Int))=false:=by simp [f]
   rw [f1,f2];cases c.kind==8 <;> cases c.kind==9 <;> rfl
theorem oc (hc:c.cells.length<=LB) (hr:c.runs.length<=LB) (h0:1<=cells) (h00:cells<=256) (h1:1<=sy) (h2:sy<=16) (hn:c.cells.length*(c.cells.length+2)+c.cells.length+c.runs.length+7<=n):Ti n c cells sy=some (Th c cells sy):=by
 have loop:=oa (cells:=cells) hc hr h1 h2 (n:=n) (by omega);have hR:AH (cells-1):=by rw [Aq];omega
 unfold Ti dX Th;simp only [hR,zAn,Sd hc (show c.cells.length<n by omega),xc hc (show c.cells.length*(c.cells.length+2)+1<=n by omega),loop,zh];have vf:((List.range c.cells.length).all fun i=>c.cells.getD i 0==(i:Int))=OD c:=rfl;have tm: ∀ b:Bool,(b&&CH [c.set,c.other] 0 (2 ^ sy.toNat-1)&&CH [c.lo,c.hi] 0 65536&&decide (c.runs.length<=8)&&CH c.runs 1 256)=(b&&JK sy c):=fun b=>by unfold JK;simp only [Bool.and_assoc]
 rw [vf,tm];have e2:(((c.cells.length:Nat):Int) != 2)= !(c.cells.length==2):=by rw [zAy];simp;omega
 have e3:(((c.cells.length:Nat):Int) != cells)= !(((c.cells.length:Nat):Int)==cells):=rfl;rw [e2,e3]
 generalize JK sy c=R
 generalize OD c=D
 generalize CH c.cells 0 (cells-1)=W
 generalize MB c.cells=U
 generalize (c.cells.length==2)=T
 generalize hE:(((c.cells.length:Nat):Int)==cells)=E
 by_cases k1:c.kind<1
 ·have: ¬ 1<=c.kind:=by omega
  simp [k1,this]
 by_cases k2:c.kind>9
 ·have: ¬ c.kind<=9:=by omega
  simp [k1,k2,this]
 by_cases k3:((c.cells.length:Nat):Int)>cells
 ·have: ¬ ((c.cells.length:Nat):Int)<=cells:=by omega
  simp [k1,k2,k3,this]
 have YC:1<=c.kind:=by omega
 have X8:c.kind<=9:=by omega
 have sD:((c.cells.length:Nat):Int)<=cells:=by omega
 simp only [ze k1,ze k2,ze k3,zn YC,zn X8,zn sD,zg,zAG];obtain ⟨k,hk⟩: ∃ k,c.kind=k:=⟨_,rfl⟩;rw [hk] at YC X8;simp only [hk];clear hE;rcases N7 ⟨YC,X8⟩ with h | h | h | h | h | h | h | h | h <;> subst h <;> cases W <;> cases U <;> cases T <;> cases E <;> cases D <;> cases R <;> rfl
end
def NQ (c:AB):Nat:=c.cells.length*(c.cells.length+2)+c.cells.length+c.runs.length+7
theorem cF (c:AB):NQ c=c.cells.length*(c.cells.length+2)+c.cells.length+c.runs.length+7:=rfl
def Da (q:AA):Nat:=q.values.length+2*En q.nbrs+(q.cons.map NQ).sum+q.cons.length+10
structure CU (q:AA):Prop where
 values:q.values.length<=LB
 nbrs: ∀ r∈q.nbrs,r.length<=LB
 cells: ∀ c∈q.cons,c.cells.length<=LB
 runs: ∀ c∈q.cons,c.runs.length<=LB
theorem We: ∀ {l:List AB} {c:AB},c∈l -> NQ c<=(l.map NQ).sum
 | [],_,h=>by cases h
 | a::l,c,h=>by
  rw [zBF,List.sum_cons];rcases z8.1 h with rfl | h
  ·omega
  ·have:=We h;omega
section
variable {q:AA} {n:Nat}
theorem jH {b:Bool}:(Ca b 120==0)=b:=by cases b <;> rfl
theorem lW (hF:CU q) (h1:1<=q.cells) (h2:q.cells<=256) (h3:1<=q.symbols) (h4:q.symbols<=16) (h5:q.cons.length<=4096) (hn:Da q<=n): ∃ r:Int,Ui n q.cons q=some r/\ (0<=r↔q.cons.all (DF q)=false):=by
 unfold Ui gF;have S:=Hp (fun n i=>Kp q.cons q n (.l1 i)) q.cons.length (q.cons.map NQ).sum (fun i=>if DF q (q.cons.getD i default) then none else some (i:Int)) (fun n i FD hi=>?_) (n:=n) (by unfold Da at hn;omega)
 ·rw [show Kp q.cons q n (.l1 0)=_ from S];cases hf:(List.range q.cons.length).findSome? (fun i=>if DF q (q.cons.getD i default) then none else some (i:Int)) with
  | some r=>
   refine ⟨r,rfl,?_⟩;obtain ⟨i,hi,hr⟩:=zBg hf;have A3:i<q.cons.length:=by simpa using hi
   split at hr
   ·cases hr
   ·rename_i hx;cases hr;refine ⟨fun _=>?_,fun _=>by omega⟩;rw [List.all_eq_false];exact ⟨q.cons[i],zAL A3,by simpa [A3] using hx⟩
  | none=>
   obtain ⟨m,hm⟩: ∃ m,n-q.cons.length=m+1:=⟨n-q.cons.length-1,by unfold Da at hn;omega⟩;refine ⟨-1,by rw [hm];simp [Kp,Ug],?_⟩;rw [zBw] at hf
   have:q.cons.all (DF q)=true:=by
    rw [←QM (p:=DF q) (d:=(default:AB)),zq];intro i hi;have:=hf i hi;cases hc:DF q (q.cons.getD i default) with
    | true=>rfl
    | false=>rw [hc] at this;simp at this
   simp [this]
 ·have AK:(i:Int)<(q.cons.length:Int):=by omega
  have hR:AH ((i:Int)+1):=by rw [Aq];omega
  have Bv:q.cons.getD i default∈q.cons:=by rw [u8,zf hi];exact zAL hi
  have Am:=We Bv;have U9:=w6 (n:=n) h2 (hF.cells _ Bv) h3 h4 (hF.runs _ Bv) (by rw [cF (q.cons.getD i default)] at Am;omega)
  show Ug n (Kp q.cons q n) q.cons q (i:Int)=_
  generalize Kp q.cons q n=self
  simp only [Ug,S0,WV,AK,hR,zAz,zk,zAp,zBP,zAn,zl,U9,zh];cases DF q (q.cons.getD i default) <;> rfl
theorem bH (hF:CU q) (hn:Da q<=n):valid n q=some (Ca (Cb q) 191):=by
 unfold valid bG Cb;have hv:=Tu (lo:=0) (up:=99) hF.values (show q.values.length<n by unfold Da at hn;omega);have hg:=iy hF.nbrs (show 2*En q.nbrs+1<=n by unfold Da at hn;omega)
 by_cases c1:q.cells<1
 ·have: ¬ 1<=q.cells:=by omega
  simp [c1,this,Ca]
 have Sa:1<=q.cells:=by omega
 by_cases c2:q.cells>256
 ·have: ¬ q.cells<=256:=by omega
  simp [c1,c2,this,Ca]
 have SZ:q.cells<=256:=by omega
 by_cases c3:q.symbols<1
 ·have: ¬ 1<=q.symbols:=by omega
  simp [c1,c2,c3,this,Ca]
 have SY:1<=q.symbols:=by omega
 by_cases c4:q.symbols>16
 ·have: ¬ q.symbols<=16:=by omega
  simp [c1,c2,c3,c4,this,Ca]
 have SX:q.symbols<=16:=by omega
 simp only [ze c1,ze c2,ze c3,ze c4,zn Sa,zn SZ,zn SY,zn SX,zg,zAG,hv,hg,zh,bne,jH];cases ((q.values.length:Nat):Int)==q.symbols with
 | false=>rfl
 | true=>
 cases CH q.values 0 99 with
 | false=>rfl
 | true=>
 cases ((q.nbrs.length:Nat):Int)==q.cells with
 | false=>rfl
 | true=>
 cases IE q.nbrs with
 | false=>rfl
 | true=>
 by_cases c5:((q.cons.length:Nat):Int)>4096
 ·have: ¬ q.cons.length<=4096:=by omega
  simp [c5,this,Ca]
 have SW:q.cons.length<=4096:=by omega
 obtain ⟨r,r1,r2⟩:=lW hF Sa SZ SY SX SW hn;simp only [Vl,Z5,r1,ze c5,zn SW,zh,zg,zAG,zAW,xL,beq_self_eq_true];cases ha:q.cons.all (DF q) with
 | false=>
  have:r>=0:=r2.2 ha;simp [this,Ca]
 | true=>
  have: ¬ r>=0:=fun h=>by rw [r2.1 h] at ha;cases ha
  simp [this,Ca]
theorem nm (hF:CU q) (h1:1<=q.cells) (h2:q.cells<=256) (h3:1<=q.symbols) (h4:q.symbols<=16) (h5:q.cons.length<=4096) (hn:Da q<=n):KU q n (.l1 0)=some (Ca (q.cons.all (DF q)) 191):=by
 have S:=Hp (fun n i=>KU q n (.l1 i)) q.cons.length (q.cons.map NQ).sum (fun i=>if DF q (q.cons.getD i default) then none else some 191) (fun n i FD hi=>?_) (n:=n) (by unfold Da at hn;omega)
 ·refine S.trans ?_;rw [K6,QM (p:=DF q)];cases q.cons.all (DF q) with
  | false=>rfl
  | true=>
   obtain ⟨m,hm⟩: ∃ m,n-q.cons.length=m+1:=⟨n-q.cons.length-1,by unfold Da at hn;omega⟩;rw [hm];simp [KU,TQ,Ca]
 ·have AK:(i:Int)<(q.cons.length:Int):=by omega
  have hR:AH ((i:Int)+1):=by rw [Aq];omega
  have Bv:q.cons.getD i default∈q.cons:=by rw [u8,zf hi];exact zAL hi
  have Am:=We Bv;have U9:=oc (n:=n) (hF.cells _ Bv) (hF.runs _ Bv) h1 h2 h3 h4 (by rw [cF (q.cons.getD i default)] at Am;omega);rw [od q _ h1] at U9
  show TQ n (KU q n) q (i:Int)=_
  generalize KU q n=self
  simp only [TQ,AK,hR,zAz,zk,zAp,zBP,zAn,zl,U9,zh];cases DF q (q.cons.getD i default) <;> rfl
theorem dA (hF:CU q) (hn:Da q<=n):Px n q=some (Ca (Cb q) 191):=by
 unfold Px cz Cb;have hv:=Sd (lo:=0) (up:=99) hF.values (show q.values.length<n by unfold Da at hn;omega);have hg:=pK hF.nbrs (show 2*En q.nbrs+1<=n by unfold Da at hn;omega)
 by_cases c1:q.cells<1
 ·have: ¬ 1<=q.cells:=by omega
  simp [c1,this,Ca]
 have Sa:1<=q.cells:=by omega
 by_cases c2:q.cells>256
 ·have: ¬ q.cells<=256:=by omega
  simp [c1,c2,this,Ca]
 have SZ:q.cells<=256:=by omega
 by_cases c3:q.symbols<1
 ·have: ¬ 1<=q.symbols:=by omega
  simp [c1,c2,c3,this,Ca]
 have SY:1<=q.symbols:=by omega
 by_cases c4:q.symbols>16
 ·have: ¬ q.symbols<=16:=by omega
  simp [c1,c2,c3,c4,this,Ca]
 have SX:q.symbols<=16:=by omega
 simp only [ze c1,ze c2,ze c3,ze c4,zn Sa,zn SZ,zn SY,zn SX,zg,zAG,hv,hg,zh,bne,jH];cases ((q.values.length:Nat):Int)==q.symbols with
 | false=>rfl
 | true=>
 cases CH q.values 0 99 with
 | false=>rfl
 | true=>
 cases ((q.nbrs.length:Nat):Int)==q.cells with
 | false=>rfl
 | true=>
 cases IE q.nbrs with
 | false=>rfl
 | true=>
 by_cases c5:((q.cons.length:Nat):Int)>4096
 ·have: ¬ q.cons.length<=4096:=by omega
  simp [c5,this,Ca]
 have SW:q.cons.length<=4096:=by omega
 simp only [nm hF Sa SZ SY SX SW hn,ze c5,zn SW,zg,zAG,zAW]
theorem q7 {k:Int} (h:1<=k/\ k<=9):([0,1,1,2,2,3,1,1,4,4]:List Int).getD k.toNat 0=FP k:=by
 rcases N7 h with h | h | h | h | h | h | h | h | h <;> subst h <;> rfl
theorem rp (hv:Cb q=true) {i:Int} (h0:0<=i) (hi:i<(q.cons.length:Int)):1<=(q.cons.getD i.toNat default).kind/\ (q.cons.getD i.toNat default).kind<=9:=by
 have A3:i.toNat<q.cons.length:=by omega
 have Bv:q.cons.getD i.toNat default∈q.cons:=by rw [u8,zf A3];exact zAL A3
 exact Q7 (ft ((C1 hv).2.2.2.2.2 _ Bv))
theorem Xz (hF:CU q) (hn:Da q<=n) (i:Int):ML n q i=some (HK q i):=by
 unfold ML Xy HK;rw [bH hF hn];cases hv:Cb q with
 | false=>rfl
 | true=>
  by_cases h0:i<0
  ·have: ¬ (0<=i/\ i<(q.cons.length:Int)):=by omega
   simp [Ca,h0,this]
  ·by_cases hi:i>=(q.cons.length:Int)
   ·have: ¬ (0<=i/\ i<(q.cons.length:Int)):=by omega
    simp [Ca,h0,hi,this]
   ·have hc:0<=i/\ i<(q.cons.length:Int):=by omega
    have hk:=rp hv hc.1 hc.2;have hg:(0<=i/\ i<(q.cons.length:Int))/\ (0<=(q.cons.getD i.toNat default).kind/\ (q.cons.getD i.toNat default).kind<((10:Nat):Int)):=⟨hc,by omega,by omega⟩;simp only [Ca,zAn,zh,zBd,zg,ze h0,ze hi,zi hg,zi hc,q7 hk,Bool.true_eq_false,zBY]
theorem xF (hn:q.cons.length<n): ∃ b,Vd n q=some b:=by
 unfold Vd jD
 have loop:q.cons.length<=120 -> ∃ b,Jv q n (.l1 0)=some b:=fun hl=>by
  have S:=Hp (fun n i=>Jv q n (.l1 i)) q.cons.length 0 (fun i=>if (!(decide (((q.cons.getD i default).cells.length:Int)>20))&&!(decide (((q.cons.getD i default).runs.length:Int)>10))) then none else some false) (fun n i _ hi=>?_) (n:=n) (by omega)
  ·rw [show Jv q n (.l1 0)=_ from S];rw [K6];split
   ·obtain ⟨m,hm⟩: ∃ m,n-q.cons.length=m+1:=⟨n-q.cons.length-1,by omega⟩;exact ⟨true,by rw [hm];simp [Jv,Vb]⟩
   ·exact ⟨false,rfl⟩
  ·have AK:(i:Int)<(q.cons.length:Int):=by omega
   have hR:AH ((i:Int)+1):=by rw [Aq];omega
   show Vb n (Jv q n) q (i:Int)=_
   generalize Jv q n=self
   simp only [Vb,AK,hR,zAz,zk,zAp,zBP,zAn,zl];cases decide (((q.cons.getD i default).cells.length:Int)>20) <;> cases decide (((q.cons.getD i default).runs.length:Int)>10) <;> rfl
 cases decide (q.cells>16) with
 | true=>exact ⟨_,rfl⟩
 | false=>
 cases decide (q.symbols>6) with
 | true=>exact ⟨_,rfl⟩
 | false=>
 cases decide (((q.values.length:Nat):Int)>8) with
 | true=>exact ⟨_,rfl⟩
 | false=>
 cases decide (((q.nbrs.length:Nat):Int)>20) with
 | true=>exact ⟨_,rfl⟩
 | false=>
 by_cases h:((q.cons.length:Nat):Int)>120
 ·rw [zn h];exact ⟨_,rfl⟩
 ·rw [ze h];exact loop (by omega)
theorem xD {pos:List Int} (hn:q.cons.length<n): ∃ b,Ry n q pos=some b:=by
 obtain ⟨b,hb⟩:=xF hn;unfold Ry Zr;rw [hb];cases b
 ·exact ⟨_,rfl⟩
 ·exact ⟨_,rfl⟩
end
end Go.Proofs.YtgkhhfnhacibcaaGreatDoor
namespace Go.Proofs.YtgkhhfnhacibcaaGreatDoor
abbrev zBx:=@BitVec.ofInt_natCast
abbrev zCc:=@Go.Lib.hid
end Go.Proofs.YtgkhhfnhacibcaaGreatDoor
namespace Go.Proofs.YtgkhhfnhacibcaaGreatDoor
open Go.RowKit
theorem lY (x k YR:Nat) (w:World) (FV:((x:Int)==0)=false)
 (key:IntKind.u64.wrap (bits BinOp.and IntKind.u64 (x:Int) (IntKind.u64.wrap (-(x:Int)))*285870213051353865)/288230376151711744=(YR:Int))
 (hi:YR<64) (hk:k<64) (Co:w.cell? ⟨1,YR,none⟩=some (.int .u8 k)):
 Calls Tryz.prog 129 #[.int .u64 x] w fun e w'=>e= .returned (.int .i64 k)/\ w=w':=by
 go_enter Tryz.func129,Tryz.ntmps129
 go_wp2_with (simp only [key])
 go_ret
 exact ⟨rfl,rfl⟩
theorem lZ (x:Nat) (hx:x<18446744073709551616) (FV:x≠0) (w:World) (hT:LO w):
 Calls Tryz.prog 129 #[.int .u64 x] w fun e w'=>e= .returned (.int .i64 (Lib.ctz 64 x))/\ w=w':=by
 obtain ⟨U6,hk⟩:=Lib.lowest_bit 64 x FV hx;obtain ⟨hi,tO⟩:=Lib.deBruijn64_at _ hk;have Co:=hT _ hi;rw [tO] at Co;exact lY x _ _ w (by simp;omega) (tz64_key x _ hx FV U6) hi hk Co
theorem lX (x:Nat) (hx:x<18446744073709551616) (FV:x≠0) (w:World) (hT:LO w):
 Calls Tryz.prog 111 #[.int .u64 x] w fun e w'=>e= .returned (.int .i64 (Lib.ctz 64 x))/\ w=w':=by
 have h1:=lZ x hx FV w hT
 go_enter Tryz.func111,Tryz.ntmps111
 go_wp2_with (go_at_call 129;refine h1.mono ?_;rintro e w' ⟨rfl,rfl⟩)
 go_ret
 exact ⟨rfl,rfl⟩
def EJ (x:Nat):List Nat:=(List.range 64).filter fun s=>x.testBit s
theorem cG:EJ 0= []:=by simp [EJ]
theorem q8 (k m s:Nat):(2 ^ k*(2*m+1)).testBit s=(decide (k<=s)&&(2*m+1).testBit (s-k)):=by
 rw [zBR,Nat.testBit_mul_two_pow]
theorem qV (m s:Nat):(2*m+1).testBit s=(decide (s=0)||(2*m).testBit s):=by
 cases s with
 | zero=>simp [Nat.testBit_zero]
 | succ s=>simp [Nat.testBit_succ];congr 1;omega
theorem pO: ∀ k,k<64 -> List.range 64=List.range k++k::List.range' (k+1) (63-k):=by decide+kernel
theorem cH (x:Nat) (hx:x<18446744073709551616) (FV:x≠0):EJ x=Lib.ctz 64 x::EJ (x&&& (x-1)):=by
 have hc:Lib.ctz 64 x=Lib.ctzFrom 64 x:=by simp [Lib.ctz,FV]
 obtain ⟨m,hm,hk⟩:=Lib.ctzFrom_spec 64 x (by omega) (by simpa using hx);rw [hc]
 generalize Lib.ctzFrom 64 x=k at*
 have hb: ∀ s,x.testBit s=(decide (k<=s)&&(decide (s-k=0)||(2*m).testBit (s-k))):=fun s=>by rw [hm,q8,qV]
 have hy: ∀ s,(x&&& (x-1)).testBit s=(x.testBit s&&decide (s≠k)):=by
  intro s;have hp:0<2 ^ k:=Nat.two_pow_pos k
  have Mb:x-1=2 ^ k*(2*m)+(2 ^ k-1):=by
   rw [hm,Nat.mul_add,zAi];omega
  have iS:(x-1).testBit s=if s<k then (2 ^ k-1).testBit s else (2*m).testBit (s-k):=by
   rw [Mb,Nat.testBit_two_pow_mul_add _ (by omega)]
  rw [Nat.testBit_and,iS,hb]
  by_cases h1:s<k
  ·rw [ze (by omega: ¬ k<=s)];simp
  ·rw [zr h1]
   by_cases h2:s=k
   ·subst h2;simp
   ·rw [zn (by omega:k<=s),ze (by omega: ¬ s-k=0)];simp [h2]
 unfold EJ;have hr:List.range 64=List.range k++k::List.range' (k+1) (63-k):=pO k hk;rw [hr];simp only [List.filter_append,List.filter_cons]
 have h1: ∀ y:Nat,(∀ s,s<k -> y.testBit s=false) -> (List.range k).filter (fun s=>y.testBit s)= []:=fun y h=>by
  rw [List.filter_eq_nil_iff];intro s hs;simp [h s (zw.1 hs)]
 rw [h1 x (fun s hs=>by rw [hb];simp;omega),h1 (x&&& (x-1)) (fun s hs=>by rw [hy,hb];simp;omega)];have h2:x.testBit k=true:=by rw [hb];simp
 have h3:(x&&& (x-1)).testBit k=false:=by rw [hy];simp
 simp only [h2,h3,zA1,zAn,zAa,zBY]
 congr 1
 apply List.filter_congr;intro s hs;rw [hy];have:=List.mem_range'_1.1 hs;simp;omega
theorem zH (x:Nat) (hx:x<9223372036854775808) (FV:x≠0):bits .and .i64 (x:Int) ((x:Int)-1)=((x&&& (x-1):Nat):Int):=by
 have e:((x:Int)-1)=((x-1:Nat):Int):=by omega
 have AK:x&&& (x-1)<=x:=Nat.and_le_left;rw [e]
 have h1:(BitVec.ofInt 64 (x:Int)).toNat=x:=by
  rw [zBx,BitVec.toNat_ofNat];exact zB4 (by omega)
 have h2:(BitVec.ofInt 64 ((x-1:Nat):Int)).toNat=x-1:=by
  rw [zBx,BitVec.toNat_ofNat];exact zB4 (by omega)
 show IntKind.i64.wrap ((BitVec.ofInt 64 (x:Int)&&& BitVec.ofInt 64 ((x-1:Nat):Int)).toNat:Int)=_
 rw [BitVec.toNat_and,h1,h2];have hm:((x&&& (x-1):Nat):Int) % 2 ^ 64=((x&&& (x-1):Nat):Int):=by omega
 simp only [IntKind.wrap,IntKind.signed,IntKind.bits,hm];rw [zr (by rw [zAG,zAP];omega)]
def cd (w:World) (b o:Nat):Nat:=match w.cell? ⟨b,o,none⟩ with
 | some (.int _ x)=>x.toNat
 | _=>0
def TD (s:Nat):Array Value:=#[.int .i64 s]
set_option maxRecDepth 100000 in
set_option maxHeartbeats 4000000 in
theorem lv (set b o:Nat) (w:World) (tW:set<9223372036854775808) (hT:LO w) (hb:w.cell? ⟨b,o,none⟩=some (.int .i64 set)) (GM:w.frozen? ⟨b,o,none⟩=false) (v8:b≠1):
 IX Tryz.prog 110 #[.pointer (some ⟨b,o,none⟩)] ((EJ set).map TD) (fun k=>k=b) (fun k=>k=1) w:=by
 intro l J Jx G W hJ hJx hU hG Zg hY h0;have HY:=zCc hY;clear hY;have Zh:G b:=hG b rfl;have wB:W.cell? ⟨b,o,none⟩=some (.int .i64 set):=hU.cell (fun h=>h (.inl rfl)) hb
 have vm:W.frozen? ⟨b,o,none⟩=false:=by
  rw [World.frozen?_of_block (hU.block b (zBA w _ hb) (fun h=>h (.inl rfl)))];exact GM
 have wM:LO W:=fun j hj=>hU.cell (fun h=>h (.inr rfl)) (hT j hj)
 refine callsIn_of_wp Tryz.func110 rfl trivial ?_ rfl;simp only [Tryz.ntmps110,zCN,zAv,zA0,Nat.reduceAdd,Nat.reduceSub,Array.replicate_succ,Array.replicate_zero,List.push_toArray,List.append_toArray,zA1,List.cons_append]
 gi_wp2
 gi_loopw [3,4,5,6,7,8,9,10,11,12,13,14] (fun _ _ _ _ _ _ _ _ _ _ _ _ wr=>∃ (i x:Nat),W.heap.size<=wr.heap.size/\ x<9223372036854775808/\ i<=(EJ set).length/\ Hid ((EJ set).drop i=EJ x)/\ Hid (J i G wr)/\ wr.cell? ⟨b,o,none⟩=some (.int .i64 x)/\ wr.frozen? ⟨b,o,none⟩=false/\ Hid (LO wr))
  (fun _ _ _ _ _ _ _ _ _ _ _ _ wr=>cd wr b o)
 case atStart=>exact ⟨0,set,zAF _,tW,zBT _,zCc rfl,zCc h0,wB,vm,zCc wM⟩
 case round=>
  obtain ⟨i,x,Am,hx,B3,hd,hj,hc,hf,ht⟩:=hrel
  by_cases FV:x=0
  ·subst FV
   have CS:i=(EJ set).length:=by
    have:=congrArg List.length hd.out;rw [zB6,cG,zA0] at this;omega
   gi_wp2
   go_end0
   exact ⟨⟨_,rfl⟩,.inl ⟨G,CS▸hj.out⟩⟩
  ·have N0:((x:Int)==0)=false:=by simp [FV]
   have Mq:(EJ set).drop i=Lib.ctz 64 x::EJ (x&&& (x-1)):=by rw [hd.out,cH x (by omega) FV]
   have CS:i<(EJ set).length:=by
    rcases zA2 i (EJ set).length with h | h
    ·exact h
    ·rw [zAj h] at Mq;cases Mq
   have ve:(EJ set)[i]=Lib.ctz 64 x:=by
    have:=zAD CS;rw [Mq] at this;injection this with h1 h2;exact h1.symm
   obtain ⟨fn,tmps,kI,body,hy,hR⟩:=HY.out i (TD (Lib.ctz 64 x)) G wr (by rw [z6,zf CS,ve];rfl) hj.out;have wO:=zCc hR;clear hR;unfold TD at hy;have tN:=zCc (lX x (by omega) FV wr ht.out);have vu:=zCc Mq;clear Mq hd
   gi_wp2_with (first | refine ⟨trivial,rfl,?_⟩ | (gi_at_call 111;refine (callsIn_wide.2 tN.out).mono ?_;rintro e w' ⟨rfl,rfl⟩))
   refine ⟨rfl,wO.out.mono ?_⟩;rintro e W1 ⟨Gh,(⟨rfl,vb⟩ | ⟨rfl,Mb⟩)⟩
   ·have Rj:W1.cell? ⟨b,o,none⟩=some (.int .i64 x):=Gh.cell (fun h=>h (.inl Zh)) hc
    have vn:W1.frozen? ⟨b,o,none⟩=false:=by
     rw [World.frozen?_of_block (Gh.block b (zBA wr _ hc) (fun h=>h (.inl Zh)))];exact hf
    have gP:LO W1:=fun j hj=>Gh.cell (fun h=>h (.inr rfl)) (ht.out j hj)
    have CK:AN G W1 (W1.setCell ⟨b,o,none⟩ (.int .i64 ((x&&& (x-1):Nat):Int))):=(AN.refl G W1).setCell (fun _=>Zh) _;have gQ:=zt Am (zt Gh.size CK.size);have GL:=zCc (hJ _ _ _ _ _ vb CK (fun k h=>.inl h) (fun k h=>zu (Zg k h) gQ))
    have tP:Hid (LO (W1.setCell ⟨b,o,none⟩ (.int .i64 ((x&&& (x-1):Nat):Int)))):=zCc fun j hj=>
     ((AN.refl (fun k=>k=b) W1).setCell (fun _=>rfl) _).cell (fun e=>v8 e.symm) (gP j hj)
    have AK:x&&& (x-1)<x:=Nat.lt_of_le_of_lt Nat.and_le_right (by omega);clear CK gP
    gi_wp2
    rw [zH x hx FV];have IA:(W1.setCell ⟨b,o,none⟩ (.int .i64 ((x&&& (x-1):Nat):Int))).cell? ⟨b,o,none⟩=some (.int .i64 ((x&&& (x-1):Nat):Int)):=World.cell?_setCell_same' W1 _ _ (by rw [Rj];rfl);refine ⟨⟨_,_,_,_,_,_,_,_,_,_,_,_,⟨i+1,x&&& (x-1),gQ,by omega,CS,zCc ?_,GL,IA,?_,tP⟩,rfl⟩,?_⟩
    ·rw [←List.drop_drop,vu.out];rfl
    ·rw [World.frozen?_setCell];exact vn
    ·unfold cd;rw [IA,hc]
     show ((x&&& (x-1):Nat):Int).toNat<(x:Int).toNat
     omega
   ·gi_wp2
    refine bodyPost_ret (results_none rfl _ _ _) rfl ?_;exact ⟨⟨_,rfl⟩,.inr ⟨G,Mb⟩⟩
def BS (x:Int):List Int:=(EJ x.toNat).map fun (s:Nat)=>(s:Int)
theorem xU (x:Int):(BS x).map Br=(EJ x.toNat).map TD:=by
 unfold BS;rw [List.map_map];rfl
theorem lu {x:Int} (hx:(0:Int)<=x/\ x<9223372036854775808) (w:World) (b o:Nat) (u:Value) (hg:GG.gi w) (GK:GG.ng<=b) (hb: ∃ cs t,w.heap[b]? =some (.cells cs t (0,0))) (hc:w.cell? ⟨b,o,none⟩=some u) (hr:u= .int .i64 x):
 IX Tryz.prog 110 #[.pointer (some ⟨b,o,none⟩)] ((BS x).map Br) (fun k=>k=b) (fun k=>k=1) w:=by
 rw [xU];obtain ⟨cs,t,hb⟩:=hb;have GK:2<=b:=GK;refine lv x.toNat b o w (by omega) hg.1 ?_ ?_ (by omega)
 ·rw [hc,hr];congr 2;omega
 ·unfold World.frozen?;simp [hb]
end Go.Proofs.YtgkhhfnhacibcaaGreatDoor
namespace Go.Proofs.YtgkhhfnhacibcaaGreatDoor
open Go.RowKit
theorem ES.iterOf {P:Program} {Γ:Ax} {f gf:Nat} {ds:List DV} {c:Nat -> DV} {d:DV} {encs:List (Array Value)} {Rd:Nat -> Prop} (h0:ES P Γ f ds [] (.fn gf 1 c) [some (.cells [d])] true) (hc:c 0= .ref 0 0) (FE:ds.all Gf=true)
 (eg: ∀ args W,(callFunc gf args).run P W= .ok (.enter gf args) W)
 (ra: ∀ (w:World) (b o:Nat) (u:Value),Γ.gi w -> Γ.ng<=b -> (∃ cs t,w.heap[b]? =some (.cells cs t (0,0))) -> w.cell? ⟨b,o,none⟩=some u -> AJ (fun _=>False) w d [] u -> IX P gf #[.pointer (some ⟨b,o,none⟩)] encs (fun k=>k=b) Rd w)
 (hd:No d=true) (I0: ∀ b,Rd b -> b<Γ.ng) (h:DH):ES P Γ f ds h (.it h.length) (h++[some (.iter encs)]) true:=by
 refine ⟨h0.1,fun N ρ w args HR B9=>?_⟩;refine (h0.2 (MS N h ρ) [] w args (OM (fun b hb=>HR.lt2 hb) HR.gi) ⟨B9.1,fun i hi=>?_⟩).mono ?_
 ·have hx:=Nu (zq.1 FE (ds.getD i .any) (by simp [hi]));exact AJ.out _ (DB (fun b hb=>NG.1 hb) []) (hx _ _ _ _ (B9.2 i hi))
 ·rintro e w' ⟨v,rfl,⟨⟨ρ',g1,g2,g3,g4⟩,g5⟩⟩;have hE:=g5 rfl;obtain ⟨p,hp,Cx⟩:=g1.obj 0 _ rfl;have Cx:AU w' p 1 _:=Cx;have hf: ∀ b,p.foot b -> w.heap.size<=b:=fun b hb=>(g3.grow b ⟨0,_,p,rfl,hp,hb⟩).resolve_left fun ⟨k,o',p',q1,_⟩=>by simp at q1
  obtain ⟨lb,hv,hl,OT⟩:=g2;obtain ⟨u,hu,hr⟩:=OT 0 (by omega);rw [hc] at hr;obtain ⟨p',Av,HO⟩:=hr;have ep:p'=p:=zo (Av.symm.trans hp);subst ep
  have vV:lb= #[.pointer (some ⟨p'.blk,p'.off,none⟩)]:=by
   apply Array.ext
   ·simp [hl]
   ·intro i h1 h2;have:i=0:=by omega
    subst this;have:=zj.1 hu;obtain ⟨_,e⟩:=this;rw [e,HO];rfl
  subst vV;obtain ⟨u2,c1,c2⟩:=AU.cell Cx (j:=0) (by omega);have Ef:p'.foot=fun b=>b=p'.blk:=Cx.1
  have GK:Γ.ng<=w.heap.size:=Γ.lo _ HR.gi;have Co:=g1.cel 0 _ p' p'.blk rfl hp (by rw [Ef]);refine ⟨v,rfl,⟨⟨ρ++[{ p' with val:=v }],HR.snoc hE (fun b hb=>⟨hf b hb,(g1.cel 0 _ p' b rfl hp hb).2.2⟩) ?_,⟨{ p' with val:=v },by rw [←HR.len];simp,rfl⟩,A9.snoc HR hE hf,fun _ _ h=>Dg h⟩,g5⟩⟩;obtain ⟨_,cs,t,C5,_⟩:=Cx;refine ⟨gf,_,Rd,⟨hv,eg⟩,?_,fun b hb=>?_,fun b hb=>?_⟩
  ·show IX P gf _ encs p'.foot Rd w'
   rw [Ef];refine ra w' _ _ u2 g1.gi Co.1 ⟨cs,t,C5⟩ (by simpa using c1) ?_;exact AJ.out _ (DB (fun b hb=>hb.elim) []) (XR hd c2)
  ·have Cy:=I0 b hb;refine ⟨fun hm=>?_,zu (zu Cy GK) hE.size⟩;rcases hm with hm | hm
   ·have:=(HR.nlt b hm).2;omega
   ·rcases MO.snoc HR hm with hm | hm
    ·have:=HR.low hm;omega
    ·have:=hf b hm;omega
  ·obtain ⟨_,_,c,t,z,h4⟩:=g1.cel 0 _ p' b rfl hp hb;exact (zj.1 h4).1
end Go.Proofs.YtgkhhfnhacibcaaGreatDoor
namespace Go.Proofs.YtgkhhfnhacibcaaGreatDoor
open Go.RowKit
set_option maxRecDepth 100000
set_option maxHeartbeats 40000000
inductive Vk where
 | l1 (x7:Int)
def SG (n:Nat) (self:Vk -> Option Bool) (sets:List Int) (x7:Int):Option Bool:=
 bif (decide (x7<(sets.length:Int))) then
  if 0<=x7/\ x7<(sets.length:Int) then
   bif ((sets.getD ((x7).toNat) 0)==0) then
    some true
   else
    if AH (x7+1) then
     self (.l1 (x7+1))
    else none
  else none
 else
  some false
def je (n:Nat) (self:Vk -> Option Bool) (sets:List Int):Option Bool:=
 self (.l1 0)
def O3 (sets:List Int):Nat -> Vk -> Option Bool
 | 0,_=>none
 | n+1,.l1 x7=>SG n (O3 sets n) sets x7
def SH (n:Nat) (sets:List Int):Option Bool:=je n (O3 sets n) sets
def xo (n B:Nat) (N:Yd 0) (sets:List Int) (r:Bool):Vk -> Prop
 | .l1 x7=>∀ m0:Nat,n<=m0 -> TW B N (FQ Tryz.f59 0 (.bool r) []) (Ak m0 (Ap (Aa Tryz.f59) 0 [])) ⟨AL 14 [(5,.ints sets),(6,.i (sets.length:Int)),(7,.i x7)],[]⟩
theorem xp (B:Nat) (N:Yd 0) (sets:List Int):Al (O3 sets) (xo · B N sets):=ia (fun _=>rfl) fun n AF pt r h=>by
 cases pt
 case l1 x7=>
  intro m0 AC;refine rd AC fun m0 AC=>?_
  revert r;apply gO;exact bi 8 (gi (bi 12 (lE AE [2] []) (gw 13 (lG AE [] (AF _ _ · m0 AC))))) (lE AE [2] [])
theorem jd {n:Nat} {sets:List Int} {r:Bool} (h:SH n sets=some r):EQ 59 [.ints sets] [] (.bool r) [] true:=by
 refine ot Tryz.func59 fun B N=>?_
 revert r;apply gO;exact lN AE [] ((xp B N sets n) _ _ · n Nat.le.refl)
def YG (n:Nat) (pos:List Int):Option Bool:=
 (SH n pos).bind fun y1=>
  some y1
def GI (n:Nat) (pos:List Int):Option Bool:=YG n pos
theorem OB {n:Nat} {pos:List Int} {r:Bool} (h:GI n pos=some r):EQ 27 [.ints pos] [] (.bool r) [] true:=by
 unfold GI YG at h;refine ot Tryz.func27 fun B N=>?_
 revert r;apply gO;exact cf jd [] fun _=>lE AE [2] []
def UO (n:Nat) (pos:List Int):Option ((List Int)):=
 (SH n pos).bind fun y1=>
  bif y1 then
   if ((pos.length:Int):Int)=(pos.length:Int)/\ 0<=(pos.length:Int)/\ ((pos.length:Int):Int)<=1000000000000 then
    if pos.length=(List.replicate pos.length (0:Int)).length then
     some (List.replicate pos.length (0:Int))
    else none
   else none
  else
   some pos
def JV (n:Nat) (pos:List Int):Option ((List Int)):=UO n pos
theorem Xj {n:Nat} {pos:List Int} {r:(List Int)} (h:JV n pos=some r):EQ 45 [.ints pos] [] (.ints r) [] true:=by
 unfold JV UO at h;refine ot Tryz.func45 fun B N=>?_
 revert r;apply gO;exact cf jd [] fun _=>bi 4 (gi (gn fun g1=>lF fun p=>ez AE [2] [0] p [0] (H0.g g1))) (lE AE [2] [])
inductive T6 where
 | l1 (x20:Int)
def Qd (n:Nat) (self:T6 -> Option Int) (q:AA) (pos:List Int) (x20:Int):Option Int:=
 bif (decide (x20<(pos.length:Int))) then
  if 0<=x20/\ x20<(pos.length:Int) then
   bif (decide ((pos.getD ((x20).toNat) 0)<0)) then
    some 250
   else
    if 0<=q.symbols/\ q.symbols<=(IntKind.i64.bits:Int) then
     bif (decide ((pos.getD ((x20).toNat) 0)>=(IntKind.i64.wrap (1*2 ^ (q.symbols).toNat)))) then
      some 250
     else
      if AH (x20+1) then
       self (.l1 (x20+1))
      else none
    else none
  else none
 else
  some 0
def d7 (n:Nat) (self:T6 -> Option Int) (q:AA) (pos:List Int):Option Int:=
 (valid n q).bind fun y1=>
  bif (y1 != 0) then
   some y1
  else
   bif ((pos.length:Int) != q.cells) then
    some 250
   else
    self (.l1 0)
def Lx (q:AA) (pos:List Int):Nat -> T6 -> Option Int
 | 0,_=>none
 | n+1,.l1 x20=>Qd n (Lx q pos n) q pos x20
def JQ (n:Nat) (q:AA) (pos:List Int):Option Int:=d7 n (Lx q pos n) q pos
def pw (n B:Nat) (N:Yd 0) (q:AA) (pos:List Int) (r:Int):T6 -> Prop
 | .l1 x20=>∀ m0:Nat,n<=m0 -> TW B N (FQ Tryz.f37 0 (.i r) []) (Ak m0 (Ap (Aa Tryz.f37) 0 [])) ⟨AL 34 [(2,.ref 0 0),(18,.ints pos),(19,.i (pos.length:Int)),(20,.i x20)],[some (.cells (AD q))]⟩
theorem px (B:Nat) (N:Yd 0) (q:AA) (pos:List Int):Al (Lx q pos) (pw · B N q pos):=ia (fun _=>rfl) fun n AF pt r h=>by
 cases pt
 case l1 x20=>
  intro m0 AC;refine rd AC fun m0 AC=>?_
  revert r;apply gO;exact bi 21 (gi (bi 25 (lE AE [4] []) (gi (bi 31 (lE AE [4] []) (gw 33 (lG AE [0] (AF _ _ · m0 AC))))))) (lE AE [4] [])
theorem T5 {n:Nat} {q:AA} {pos:List Int} {r:Int} (h:JQ n q pos=some r):EQ 37 [.agg 5 (L1 (AD q)),.ints pos] [] (.i r) [] true:=by
 refine ot Tryz.func37 fun B N=>?_
 revert r;apply gO;exact cf bF [some (.cells (AD q))] fun _=>bi 11 (lE AE [4] []) (bi 17 (lE AE [4] []) (lN AE [0] ((px B N q pos n) _ _ · n Nat.le.refl)))
theorem cu:An (A8 Tryz.f18 6) [([0,1,2,3,4,5,6,7,8,9],10)] [] [11,12]:=by unfold An;kernel_rfl
def Lk:BV:=fun i=>match i with
 | 6=>.ord [([0,1,2,3,4,5,6,7,8,9],10)] [] [11,12]
 | _=>.no
inductive Qu where
 | l1
 | l2 (x4:Nat) (Dw:Int) (o0:List Int)
def Xn (n:Nat) (self:Qu -> Option ((List Int)×Int)) (a b_:List Int):Option ((List Int)×Int):=
 bif (decide (0<(a.length:Int))) then
  if ((0:Int)<=0/\ 0<(a.length:Int))/\ ((0:Int)<=0/\ 0<(b_.length:Int))/\ ((0=0/\ 1=([(bits .and .i64 (a.getD 0 0) (b_.getD 0 0))]:List Int).length)/\ 0<([(bits .and .i64 (a.getD 0 0) (b_.getD 0 0))]:List Int).length/\ ([(bits .and .i64 (a.getD 0 0) (b_.getD 0 0))]:List Int).length<=A6) then
   self (.l2 (([(bits .and .i64 (a.getD 0 0) (b_.getD 0 0))]:List Int).length) 1 ([(bits .and .i64 (a.getD 0 0) (b_.getD 0 0))]:List Int))
  else none
 else
  (JV n ([]:List Int)).bind fun y1=>
   some (y1,0)
def Qt (n:Nat) (self:Qu -> Option ((List Int)×Int)) (a b_:List Int) (x4:Nat) (Dw:Int) (o0:List Int):Option ((List Int)×Int):=
 bif (decide (Dw<(a.length:Int))) then
  if (0<=Dw/\ Dw<(a.length:Int))/\ (0<=Dw/\ Dw<(b_.length:Int))/\ ((0=0/\ 1=([(bits .and .i64 (a.getD ((Dw).toNat) 0) (b_.getD ((Dw).toNat) 0))]:List Int).length)/\ (0=0/\ x4=o0.length)/\ o0.length+([(bits .and .i64 (a.getD ((Dw).toNat) 0) (b_.getD ((Dw).toNat) 0))]:List Int).length<=A6)/\ AH (Dw+1) then
   self (.l2 (o0.length+([(bits .and .i64 (a.getD ((Dw).toNat) 0) (b_.getD ((Dw).toNat) 0))]:List Int).length) (Dw+1) (o0++([(bits .and .i64 (a.getD ((Dw).toNat) 0) (b_.getD ((Dw).toNat) 0))]:List Int)))
  else none
 else
  if x4=o0.length then
   (JV n o0).bind fun y1=>
    some (y1,0)
  else none
def fP (n:Nat) (self:Qu -> Option ((List Int)×Int)) (a b_:List Int):Option ((List Int)×Int):=
 bif ((a.length:Int) != (b_.length:Int)) then
  some (([]:List Int),250)
 else
  self (.l1)
def Kk (a b_:List Int):Nat -> Qu -> Option ((List Int)×Int)
 | 0,_=>none
 | n+1,.l1=>Xn n (Kk a b_ n) a b_
 | n+1,.l2 x4 Dw o0=>Qt n (Kk a b_ n) a b_ x4 Dw o0
def MG (n:Nat) (a b_:List Int):Option ((List Int)×Int):=fP n (Kk a b_ n) a b_
def qs (n B:Nat) (N:Yd 0) (a b_:List Int) (r:(List Int)×Int):Qu -> Prop
 | .l1=>∀ m0:Nat,n<=m0 -> TW B N (FQ Tryz.f18 0 (.tup 2 (L1 [.ints r.1,.i r.2])) []) (Ak m0 (Ap (Aa Tryz.f18) 0 [])) ⟨AL 32 [(0,.ints a),(1,.ints b_),(4,.nils),(13,.i (a.length:Int)),(14,.i 0)],[]⟩
 | .l2 x4 Dw o0=>∀ m0:Nat,n<=m0 -> TW B N (FQ Tryz.f18 0 (.tup 2 (L1 [.ints r.1,.i r.2])) []) (Ak m0 (Ap (Aa Tryz.f18) 0 [])) ⟨AL 32 [(0,.ints a),(1,.ints b_),(4,.msl 0 1 0 x4),(13,.i (a.length:Int)),(14,.i Dw)],[some (.ints o0)]⟩
theorem qt (B:Nat) (N:Yd 0) (a b_:List Int):Al (Kk a b_) (qs · B N a b_):=ia (fun _=>rfl) fun n AF pt r h=>by
 cases pt
 case l1=>
  intro m0 AC;refine rd AC fun m0 AC=>?_
  revert r;apply gO;exact bi 15 (jg cu (gc (gi (gc (gi (gi (lG Lk [1] (AF _ _ · m0 AC)))))))) (cn fun y1 A5=>jc (fb (ES.argsLe (ds:=[.nils]) (Xj A5) ⟨AM.ints_nil,trivial⟩) []) (lE Lk [4,5] []))
 case l2 x4 Dw o0=>
  intro m0 AC;refine rd AC fun m0 AC=>?_
  revert r;apply gO
  exact bi 15 (jg cu (gc (gi (gc (gi (gc (gi (gw 29 (lG Lk [2] (AF _ _ · m0 AC)))))))))) (gn fun g0=>fun p r h=>by
   refine gz (BR 8 Lk) [0] p [0] (H0.g g0) (Gp (Aa Tryz.f18) 8 []) (AL 32 [(4,.ints o0)]) [none] ?_;revert r;apply gO;exact cf Xj [none] fun _=>lE Lk [4,5] [])
theorem qr {n:Nat} {a b_:List Int} {r:(List Int)×Int} (h:MG n a b_=some r):EQ 18 [.ints a,.ints b_] [] (.tup 2 (L1 [.ints r.1,.i r.2])) [] true:=by
 refine ot Tryz.func18 fun B N=>?_
 revert r;apply gO;exact bi 11 (lF fun p=>el Lk [4,5] [] p [] H0 [.nils,.i 250] (AM.tupL (l:=[.nils,.i 250]) (l':=[.ints ([]:List Int),.i 250]) rfl ⟨AM.ints_nil,BM,trivial⟩)) (lN Lk [] ((qt B N a b_ n) _ _ · n Nat.le.refl))
def a7 (n:Nat) (s_ Ck:Int):Option Int:=
 if 0<=Ck/\ Ck<=(IntKind.u64.bits:Int) then
  some (bits .andNot .u64 s_ (IntKind.u64.wrap (1*2 ^ (Ck).toNat)))
 else none
def Sx (n:Nat) (s_ Ck:Int):Option Int:=a7 n s_ Ck
theorem lC {n:Nat} {s_ Ck:Int} {r:Int} (h:Sx n s_ Ck=some r):EQ 47 [.int .u64 s_,.i Ck] [] (.int .u64 r) [] true:=by
 refine ot Tryz.func47 fun B N=>?_
 revert r;apply gO;exact gi (lE AE [4] [])
def jp (n:Nat) (s_:List Int):Option ((List Int)):=
 if 0<s_.length/\ ((True)/\ (0=0/\ 0=([]:List Int).length)/\ ([]:List Int).length+s_.length<=A6) then
  if ([]:List Int).length+s_.length=(([]:List Int)++s_).length then
   some (([]:List Int)++s_)
  else none
 else none
def Vt (n:Nat) (s_:List Int):Option ((List Int)):=jp n s_
theorem yP {n:Nat} {s_:List Int} {r:(List Int)} (h:Vt n s_=some r):EQ 77 [.ints s_] [] (.msl 0 1 0 r.length) [some (.ints r)] true:=by
 refine ot Tryz.func77 fun B N=>?_
 revert r;apply gO;exact gc (gi (gi (gn fun g2=>lF fun p=>el AE [2] [1] p [] H0 [.msl 0 1 0 (([]:List Int).length+s_.length)] (AM.mslN g2))))
def aB (n:Nat) (s_:List Bool):Option ((List Bool)):=
 if 0<s_.length/\ ((True)/\ (0=0/\ 0=([]:List Bool).length)/\ ([]:List Bool).length+s_.length<=A6) then
  if ([]:List Bool).length+s_.length=(([]:List Bool)++s_).length then
   some (([]:List Bool)++s_)
  else none
 else none
def M3 (n:Nat) (s_:List Bool):Option ((List Bool)):=aB n s_
theorem jq {n:Nat} {s_:List Bool} {r:(List Bool)} (h:M3 n s_=some r):EQ 122 [.bools s_] [] (.msl 0 1 0 r.length) [some (.bools r)] true:=by
 refine ot Tryz.func122 fun B N=>?_
 revert r;apply gO;exact gc (gi (gi (gn fun g2=>lF fun p=>el AE [2] [1] p [] H0 [.msl 0 1 0 (([]:List Bool).length+s_.length)] (AM.mslN g2))))
def aC (n:Nat) (q:AA) (i:Int) (pos:List Int):Option Int:=
 (ML n q i).bind fun y1=>
  bif (y1.2 != 0) then
   some y1.2
  else
   (JQ n q pos).bind fun y2=>
    some y2
def O7 (n:Nat) (q:AA) (i:Int) (pos:List Int):Option Int:=aC n q i pos
theorem yQ {n:Nat} {q:AA} {i:Int} {pos:List Int} {r:Int} (h:O7 n q i pos=some r):EQ 43 [.agg 5 (L1 (AD q)),.i i,.ints pos] [] (.i r) [] true:=by
 unfold O7 aC at h;refine ot Tryz.func43 fun B N=>?_
 revert r;apply gO;exact cf Xx [some (.cells (AD q))] fun _=>bi 16 (lE AE [6] []) (cf T5 [some (.cells (AD q))] fun _=>lE AE [6] [])
inductive VI where
 | l1 (CG:Int)
def Rn (n:Nat) (self:VI -> Option Int) (g_:List (List Int)) (sets:List (List Bool)) (CG:Int):Option Int:=
 bif (decide (CG<(sets.length:Int))) then
  if 0<=CG/\ CG<(sets.length:Int) then
   bif ((((sets.getD ((CG).toNat) []).length:Nat):Int) != (g_.length:Int)) then
    some 1
   else
    if AH (CG+1) then
     self (.l1 (CG+1))
    else none
  else none
 else
  some 0
def io (n:Nat) (self:VI -> Option Int) (g_:List (List Int)) (sets:List (List Bool)):Option Int:=
 (Rr n g_).bind fun y1=>
  bif (y1 != 0) then
   some y1
  else
   self (.l1 0)
def Ob (g_:List (List Int)) (sets:List (List Bool)):Nat -> VI -> Option Int
 | 0,_=>none
 | n+1,.l1 CG=>Rn n (Ob g_ sets n) g_ sets CG
def K2 (n:Nat) (g_:List (List Int)) (sets:List (List Bool)):Option Int:=io n (Ob g_ sets n) g_ sets
def wd (n B:Nat) (N:Yd 0) (g_:List (List Int)) (sets:List (List Bool)) (r:Int):VI -> Prop
 | .l1 CG=>∀ m0:Nat,n<=m0 -> TW B N (FQ Tryz.f124 0 (.i r) []) (Ak m0 (Ap (Aa Tryz.f124) 0 [])) ⟨AL 25 [(0,.sl 1 g_.length (Aw BF g_)),(13,.sl 1 sets.length (Aw Vy sets)),(14,.i (sets.length:Int)),(15,.i CG)],[]⟩
theorem we (B:Nat) (N:Yd 0) (g_:List (List Int)) (sets:List (List Bool)):Al (Ob g_ sets) (wd · B N g_ sets):=ia (fun _=>rfl) fun n AF pt r h=>by
 cases pt
 case l1 CG=>
  intro m0 AC;refine rd AC fun m0 AC=>?_
  revert r;apply gO;exact bi 16 (gi (bi 23 (lE AE [4] []) (gw 24 (lG AE [] (AF _ _ · m0 AC))))) (lE AE [4] [])
theorem il {n:Nat} {g_:List (List Int)} {sets:List (List Bool)} {r:Int} (h:K2 n g_ sets=some r):EQ 124 [.sl 1 g_.length (Aw BF g_),.sl 1 sets.length (Aw Vy sets)] [] (.i r) [] true:=by
 refine ot Tryz.func124 fun B N=>?_
 revert r;apply gO;exact cf iw [] fun _=>bi 11 (lE AE [4] []) (lN AE [] ((we B N g_ sets n) _ _ · n Nat.le.refl))
end Go.Proofs.YtgkhhfnhacibcaaGreatDoor
namespace Go.Proofs.YtgkhhfnhacibcaaGreatDoor
open Go.RowKit
set_option maxRecDepth 100000
set_option maxHeartbeats 40000000
theorem nR:An (A8 Tryz.f99 0) [] (List.range 18) [18]:=by unfold An;kernel_rfl
def mW:BV:=fun i=>match i with
 | 0=>.ord [] (List.range 18) [18]
 | _=>.no
def Xt (n:Nat) (cell ss:Int) (c:AB) (q:AA) (pos:List Int) (ln:Nat) (lost:List Int):Option ((List Int)):=
 if (0<=cell/\ cell<(ln:Int))/\ 0+((cell).toNat)<lost.length/\ (0<=cell/\ cell<(pos.length:Int)) then
  some (lost.set (0+((cell).toNat)) (bits .or .i64 (lost.getD (0+((cell).toNat)) 0) (bits .and .i64 (pos.getD ((cell).toNat) 0) ss)))
 else none
def C4 (n:Nat) (cell ss:Int) (c:AB) (q:AA) (pos:List Int) (ln:Nat) (lost:List Int):Option ((List Int)):=Xt n cell ss c q pos ln lost
theorem FS {n:Nat} {cell ss:Int} {c:AB} {q:AA} {pos:List Int} {ln:Nat} {lost:List Int} {r:(List Int)} (h:C4 n cell ss c q pos ln lost=some r):EQ 99 [.ref 0 0,.i cell,.i ss] [some (.cells (AG c++AD q++[.ints pos,.msl 1 1 0 ln])),some (.ints lost)] (.tup 0 (fun j=>([]:List DV).getD j .any)) [some (.cells (AG c++AD q++[.ints pos,.msl 1 1 0 ln])),some (.ints r)] false:=by
 refine ot Tryz.func99 fun B N=>?_
 revert r;apply gO;exact jg nR (gc (gn fun g0=>jg g0 (gc (gn fun g1=>jg g1 (gi (jg g0 (jg g1 (lE mW [] [0,1]))))))))
theorem nK:An (A8 Tryz.f100 0) [] (List.range 22) [22]:=by unfold An;kernel_rfl
def mV:BV:=fun i=>match i with
 | 0=>.ord [] (List.range 22) [22]
 | _=>.no
def Xc (n:Nat) (cell:Int) (c:AB) (q:AA) (pos:List Int) (ln:Nat) (lost:List Int):Option ((List Int)):=
 if (0<=cell/\ cell<(ln:Int))/\ 0+((cell).toNat)<lost.length/\ (0<=cell/\ cell<(pos.length:Int)) then
  some (lost.set (0+((cell).toNat)) (bits .or .i64 (lost.getD (0+((cell).toNat)) 0) (bits .andNot .i64 (pos.getD ((cell).toNat) 0) c.set)))
 else none
def Fq (n:Nat) (cell:Int) (c:AB) (q:AA) (pos:List Int) (ln:Nat) (lost:List Int):Option ((List Int)):=Xc n cell c q pos ln lost
theorem Kg {n:Nat} {cell:Int} {c:AB} {q:AA} {pos:List Int} {ln:Nat} {lost:List Int} {r:(List Int)} (h:Fq n cell c q pos ln lost=some r):EQ 100 [.ref 0 0,.i cell] [some (.cells (AG c++AD q++[.ints pos,.msl 1 1 0 ln])),some (.ints lost)] (.tup 0 (fun j=>([]:List DV).getD j .any)) [some (.cells (AG c++AD q++[.ints pos,.msl 1 1 0 ln])),some (.ints r)] false:=by
 refine ot Tryz.func100 fun B N=>?_
 revert r;apply gO;exact jg nK (gc (gn fun g0=>jg g0 (gc (gn fun g1=>jg g1 (gi (jg g0 (jg g1 (lE mV [] [0,1]))))))))
inductive SE where
 | l1 (x3 x4 A1:Int)
 | l2 (x3 x4 Bq:Int) (o1:List Int)
def SD (n:Nat) (self:SE -> Option (Bool×(List Int))) (c:AB) (q:AA) (pos:List Int) (ln:Nat) (lost:List Int) (x3 x4 A1:Int):Option (Bool×(List Int)):=
 bif (decide (A1<(c.cells.length:Int))) then
  if (0<=A1/\ A1<(c.cells.length:Int))/\ (0<=(c.cells.getD ((A1).toNat) 0)/\ (c.cells.getD ((A1).toNat) 0)<(pos.length:Int))/\ AH ((pos.getD ((c.cells.getD ((A1).toNat) 0).toNat) 0)-1) then
   bif ((bits .and .i64 (pos.getD ((c.cells.getD ((A1).toNat) 0).toNat) 0) ((pos.getD ((c.cells.getD ((A1).toNat) 0).toNat) 0)-1))==0) then
    if AH (A1+1) then
     self (.l1 (bits .or .i64 x3 (pos.getD ((c.cells.getD ((A1).toNat) 0).toNat) 0)) (bits .or .i64 x4 (bits .and .i64 x3 (pos.getD ((c.cells.getD ((A1).toNat) 0).toNat) 0))) (A1+1))
    else none
   else
    if AH (A1+1) then
     self (.l1 x3 x4 (A1+1))
    else none
  else none
 else
  self (.l2 x3 x4 0 lost)
def SC (n:Nat) (self:SE -> Option (Bool×(List Int))) (c:AB) (q:AA) (pos:List Int) (ln:Nat) (lost:List Int) (x3 x4 Bq:Int) (o1:List Int):Option (Bool×(List Int)):=
 bif (decide (Bq<(c.cells.length:Int))) then
  if (0<=Bq/\ Bq<(c.cells.length:Int))/\ (0<=(c.cells.getD ((Bq).toNat) 0)/\ (c.cells.getD ((Bq).toNat) 0)<(pos.length:Int))/\ AH ((pos.getD ((c.cells.getD ((Bq).toNat) 0).toNat) 0)-1) then
   bif ((bits .and .i64 (pos.getD ((c.cells.getD ((Bq).toNat) 0).toNat) 0) ((pos.getD ((c.cells.getD ((Bq).toNat) 0).toNat) 0)-1))==0) then
    (C4 n (c.cells.getD ((Bq).toNat) 0) (bits .or .i64 (bits .andNot .i64 x3 (pos.getD ((c.cells.getD ((Bq).toNat) 0).toNat) 0)) x4) c q pos ln o1).bind fun y1=>
     if AH (Bq+1) then
      self (.l2 x3 x4 (Bq+1) y1)
     else none
   else
    (C4 n (c.cells.getD ((Bq).toNat) 0) x3 c q pos ln o1).bind fun y1=>
     if AH (Bq+1) then
      self (.l2 x3 x4 (Bq+1) y1)
     else none
  else none
 else
  some (true,o1)
def jZ (n:Nat) (self:SE -> Option (Bool×(List Int))) (c:AB) (q:AA) (pos:List Int) (ln:Nat) (lost:List Int):Option (Bool×(List Int)):=
 self (.l1 0 0 0)
def I3 (c:AB) (q:AA) (pos:List Int) (ln:Nat) (lost:List Int):Nat -> SE -> Option (Bool×(List Int))
 | 0,_=>none
 | n+1,.l1 x3 x4 A1=>SD n (I3 c q pos ln lost n) c q pos ln lost x3 x4 A1
 | n+1,.l2 x3 x4 Bq o1=>SC n (I3 c q pos ln lost n) c q pos ln lost x3 x4 Bq o1
def O0 (n:Nat) (c:AB) (q:AA) (pos:List Int) (ln:Nat) (lost:List Int):Option (Bool×(List Int)):=jZ n (I3 c q pos ln lost n) c q pos ln lost
def xl (n B:Nat) (N:Yd 2) (c:AB) (q:AA) (pos:List Int) (ln:Nat) (lost:List Int) (r:Bool×(List Int)):SE -> Prop
 | .l1 x3 x4 A1=>∀ m0:Nat,n<=m0 -> TW B N (FQ Tryz.f68 2 (.bool r.1) [some (.cells (AG c++AD q++[.ints pos,.msl 1 1 0 ln])),some (.ints r.2)]) (Ak m0 (Ap (Aa Tryz.f68) 0 [])) ⟨AL 77 [(0,.ref 0 0),(3,.i x3),(4,.i x4),(15,.ints c.cells),(16,.i (c.cells.length:Int)),(17,.i A1)],[some (.cells (AG c++AD q++[.ints pos,.msl 1 1 0 ln])),some (.ints lost)]⟩
 | .l2 x3 x4 Bq o1=>∀ m0:Nat,n<=m0 -> TW B N (FQ Tryz.f68 2 (.bool r.1) [some (.cells (AG c++AD q++[.ints pos,.msl 1 1 0 ln])),some (.ints r.2)]) (Ak m0 (Ap (Aa Tryz.f68) 2 [])) ⟨AL 77 [(0,.ref 0 0),(3,.i x3),(4,.i x4),(46,.ints c.cells),(47,.i (c.cells.length:Int)),(48,.i Bq)],[some (.cells (AG c++AD q++[.ints pos,.msl 1 1 0 ln])),some (.ints o1)]⟩
theorem xm (B:Nat) (N:Yd 2) (c:AB) (q:AA) (pos:List Int) (ln:Nat) (lost:List Int):Al (I3 c q pos ln lost) (xl · B N c q pos ln lost):=ia (fun _=>rfl) fun n AF pt r h=>by
 cases pt
 case l1 x3 x4 A1=>
  intro m0 AC;refine rd AC fun m0 AC=>?_
  revert r;apply gO;exact bi 18 (gc (gi (gc (gi (gw 30 (bi 32 (gw 41 (lG AE [0,1] (AF _ _ · m0 AC))) (gw 41 (lG AE [0,1] (AF _ _ · m0 AC))))))))) (lN AE [0,1] (AF _ _ · n Nat.le.refl))
 case l2 x3 x4 Bq o1=>
  intro m0 AC;refine rd AC fun m0 AC=>?_
  revert r;apply gO;exact bi 49 (gc (gi (gc (gi (gw 61 (bi 63 (ce FS [0,1] [some (.cells (AG c++AD q++[.ints pos,.msl 1 1 0 ln])),some (.ints o1)] fun _=>gw 76 (lG AE [0,1] (AF _ _ · m0 AC))) (ce FS [0,1] [some (.cells (AG c++AD q++[.ints pos,.msl 1 1 0 ln])),some (.ints o1)] fun _=>gw 76 (lG AE [0,1] (AF _ _ · m0 AC))))))))) (lE AE [2] [0,1])
theorem xk {n:Nat} {c:AB} {q:AA} {pos:List Int} {ln:Nat} {lost:List Int} {r:Bool×(List Int)} (h:O0 n c q pos ln lost=some r):EQ 68 [.ref 0 0] [some (.cells (AG c++AD q++[.ints pos,.msl 1 1 0 ln])),some (.ints lost)] (.bool r.1) [some (.cells (AG c++AD q++[.ints pos,.msl 1 1 0 ln])),some (.ints r.2)] false:=by
 refine ot Tryz.func68 fun B N=>?_
 revert r;apply gO;exact lN AE [0,1] ((xm B N c q pos ln lost n) _ _ · n Nat.le.refl)
theorem nf:An (A8 Tryz.f69 5) [] (List.range 15) []:=by unfold An;kernel_rfl
theorem na:An (A8 Tryz.f69 8) [] (List.range 15) []:=by unfold An;kernel_rfl
theorem nh:An (A8 Tryz.f69 16) [] (List.range 23) []:=by unfold An;kernel_rfl
theorem Wv:An (A8 Tryz.f69 18) [] (List.range 23) []:=by unfold An;kernel_rfl
def E5:BV:=fun i=>match i with
 | 5=>.ord [] (List.range 15) []
 | 8=>.ord [] (List.range 15) []
 | 16=>.ord [] (List.range 23) []
 | 18=>.ord [] (List.range 23) []
 | _=>.no
inductive SM where
 | l1 (x3 x4 CG:Int)
 | l2 (x3 x4 Bt:Int) (o1:List Int)
def SL (n:Nat) (self:SM -> Option (Bool×(List Int))) (c:AB) (q:AA) (pos:List Int) (ln:Nat) (lost:List Int) (x3 x4 CG:Int):Option (Bool×(List Int)):=
 bif (decide (CG<(c.cells.length:Int))) then
  if (0<=CG/\ CG<(c.cells.length:Int))/\ (0<=(c.cells.getD ((CG).toNat) 0)/\ (c.cells.getD ((CG).toNat) 0)<(pos.length:Int)) then
   bif ((bits .andNot .i64 (pos.getD ((c.cells.getD ((CG).toNat) 0).toNat) 0) c.set)==0) then
    if AH (x3+1)/\ AH (x4+1)/\ AH (CG+1) then
     self (.l1 (x3+1) (x4+1) (CG+1))
    else none
   else
    bif ((bits .and .i64 (pos.getD ((c.cells.getD ((CG).toNat) 0).toNat) 0) c.set) != 0) then
     if AH (x4+1)/\ AH (CG+1) then
      self (.l1 x3 (x4+1) (CG+1))
     else none
    else
     if AH (CG+1) then
      self (.l1 x3 x4 (CG+1))
     else none
  else none
 else
  bif (decide (x3>c.hi)) then
   some (false,lost)
  else
   bif (decide (x4<c.lo)) then
    some (false,lost)
   else
    self (.l2 x3 x4 0 lost)
def SK (n:Nat) (self:SM -> Option (Bool×(List Int))) (c:AB) (q:AA) (pos:List Int) (ln:Nat) (lost:List Int) (x3 x4 Bt:Int) (o1:List Int):Option (Bool×(List Int)):=
 bif (decide (Bt<(c.cells.length:Int))) then
  if 0<=Bt/\ Bt<(c.cells.length:Int) then
   bif (x3==c.hi) then
    if 0<=(c.cells.getD ((Bt).toNat) 0)/\ (c.cells.getD ((Bt).toNat) 0)<(pos.length:Int) then
     bif ((bits .andNot .i64 (pos.getD ((c.cells.getD ((Bt).toNat) 0).toNat) 0) c.set) != 0) then
      (C4 n (c.cells.getD ((Bt).toNat) 0) c.set c q pos ln o1).bind fun y1=>
       bif (x4==c.lo) then
        bif ((bits .and .i64 (pos.getD ((c.cells.getD ((Bt).toNat) 0).toNat) 0) c.set) != 0) then
         (Fq n (c.cells.getD ((Bt).toNat) 0) c q pos ln y1).bind fun y2=>
          if AH (Bt+1) then
           self (.l2 x3 x4 (Bt+1) y2)
          else none
        else
         if AH (Bt+1) then
          self (.l2 x3 x4 (Bt+1) y1)
         else none
       else
        if AH (Bt+1) then
         self (.l2 x3 x4 (Bt+1) y1)
        else none
     else
      bif (x4==c.lo) then
       bif ((bits .and .i64 (pos.getD ((c.cells.getD ((Bt).toNat) 0).toNat) 0) c.set) != 0) then
        (Fq n (c.cells.getD ((Bt).toNat) 0) c q pos ln o1).bind fun y1=>
         if AH (Bt+1) then
          self (.l2 x3 x4 (Bt+1) y1)
         else none
       else
        if AH (Bt+1) then
         self (.l2 x3 x4 (Bt+1) o1)
        else none
      else
       if AH (Bt+1) then
        self (.l2 x3 x4 (Bt+1) o1)
       else none
    else none
   else
    bif (x4==c.lo) then
     if 0<=(c.cells.getD ((Bt).toNat) 0)/\ (c.cells.getD ((Bt).toNat) 0)<(pos.length:Int) then
      bif ((bits .and .i64 (pos.getD ((c.cells.getD ((Bt).toNat) 0).toNat) 0) c.set) != 0) then
       (Fq n (c.cells.getD ((Bt).toNat) 0) c q pos ln o1).bind fun y1=>
        if AH (Bt+1) then
         self (.l2 x3 x4 (Bt+1) y1)
        else none
      else
       if AH (Bt+1) then
        self (.l2 x3 x4 (Bt+1) o1)
       else none
     else none
    else
     if AH (Bt+1) then
      self (.l2 x3 x4 (Bt+1) o1)
     else none
  else none
 else
  some (true,o1)
def xw (n:Nat) (self:SM -> Option (Bool×(List Int))) (c:AB) (q:AA) (pos:List Int) (ln:Nat) (lost:List Int):Option (Bool×(List Int)):=
 self (.l1 0 0 0)
def IN (c:AB) (q:AA) (pos:List Int) (ln:Nat) (lost:List Int):Nat -> SM -> Option (Bool×(List Int))
 | 0,_=>none
 | n+1,.l1 x3 x4 CG=>SL n (IN c q pos ln lost n) c q pos ln lost x3 x4 CG
 | n+1,.l2 x3 x4 Bt o1=>SK n (IN c q pos ln lost n) c q pos ln lost x3 x4 Bt o1
def O4 (n:Nat) (c:AB) (q:AA) (pos:List Int) (ln:Nat) (lost:List Int):Option (Bool×(List Int)):=xw n (IN c q pos ln lost n) c q pos ln lost
def xx (n B:Nat) (N:Yd 2) (c:AB) (q:AA) (pos:List Int) (ln:Nat) (lost:List Int) (r:Bool×(List Int)):SM -> Prop
 | .l1 x3 x4 CG=>∀ m0:Nat,n<=m0 -> TW B N (FQ Tryz.f69 2 (.bool r.1) [some (.cells (AG c++AD q++[.ints pos,.msl 1 1 0 ln])),some (.ints r.2)]) (Ak m0 (Ap (Aa Tryz.f69) 0 [])) ⟨AL 140 [(0,.ref 0 0),(3,.i x3),(4,.i x4),(13,.ints c.cells),(14,.i (c.cells.length:Int)),(15,.i CG)],[some (.cells (AG c++AD q++[.ints pos,.msl 1 1 0 ln])),some (.ints lost)]⟩
 | .l2 x3 x4 Bt o1=>∀ m0:Nat,n<=m0 -> TW B N (FQ Tryz.f69 2 (.bool r.1) [some (.cells (AG c++AD q++[.ints pos,.msl 1 1 0 ln])),some (.ints r.2)]) (Ak m0 (Ap (Aa Tryz.f69) 3 [])) ⟨AL 140 [(0,.ref 0 0),(3,.i x3),(4,.i x4),(76,.ints c.cells),(77,.i (c.cells.length:Int)),(78,.i Bt)],[some (.cells (AG c++AD q++[.ints pos,.msl 1 1 0 ln])),some (.ints o1)]⟩
theorem xy (B:Nat) (N:Yd 2) (c:AB) (q:AA) (pos:List Int) (ln:Nat) (lost:List Int):Al (IN c q pos ln lost) (xx · B N c q pos ln lost):=ia (fun _=>rfl) fun n AF pt r h=>by
 cases pt
 case l1 x3 x4 CG=>
  intro m0 AC;refine rd AC fun m0 AC=>?_
  revert r;apply gO;exact bi 16 (gc (gi (jg nf (gn fun g1=>jg g1 (bi 33 (gc (gw 35 (gc (gw 37 (gw 55 (lG E5 [0,1] (AF _ _ · m0 AC))))))) (jg na (jg g1 (bi 52 (gc (gw 54 (gw 55 (lG E5 [0,1] (AF _ _ · m0 AC))))) (gw 55 (lG E5 [0,1] (AF _ _ · m0 AC))))))))))) (bi 62 (lE E5 [2] [0,1]) (bi 70 (lE E5 [2] [0,1]) (lN E5 [0,1] (AF _ _ · n Nat.le.refl))))
 case l2 x3 x4 Bt o1=>
  intro m0 AC;refine rd AC fun m0 AC=>?_
  revert r;apply gO;exact bi 79 (gi (jg nh (bi 88 (gn fun g1=>jg g1 (bi 103 (ce FS [0,1] [some (.cells (AG c++AD q++[.ints pos,.msl 1 1 0 ln])),some (.ints o1)] fun y1=>jg Wv (bi 119 (jg g1 (bi 134 (ce Kg [0,1] [some (.cells (AG c++AD q++[.ints pos,.msl 1 1 0 ln])),some (.ints y1)] fun _=>gw 139 (lG E5 [0,1] (AF _ _ · m0 AC))) (gw 139 (lG E5 [0,1] (AF _ _ · m0 AC))))) (gw 139 (lG E5 [0,1] (AF _ _ · m0 AC))))) (jg Wv (bi 119 (jg g1 (bi 134 (ce Kg [0,1] [some (.cells (AG c++AD q++[.ints pos,.msl 1 1 0 ln])),some (.ints o1)] fun _=>gw 139 (lG E5 [0,1] (AF _ _ · m0 AC))) (gw 139 (lG E5 [0,1] (AF _ _ · m0 AC))))) (gw 139 (lG E5 [0,1] (AF _ _ · m0 AC))))))) (jg Wv (bi 119 (gi (bi 134 (ce Kg [0,1] [some (.cells (AG c++AD q++[.ints pos,.msl 1 1 0 ln])),some (.ints o1)] fun _=>gw 139 (lG E5 [0,1] (AF _ _ · m0 AC))) (gw 139 (lG E5 [0,1] (AF _ _ · m0 AC))))) (gw 139 (lG E5 [0,1] (AF _ _ · m0 AC)))))))) (lE E5 [2] [0,1])
theorem xv {n:Nat} {c:AB} {q:AA} {pos:List Int} {ln:Nat} {lost:List Int} {r:Bool×(List Int)} (h:O4 n c q pos ln lost=some r):EQ 69 [.ref 0 0] [some (.cells (AG c++AD q++[.ints pos,.msl 1 1 0 ln])),some (.ints lost)] (.bool r.1) [some (.cells (AG c++AD q++[.ints pos,.msl 1 1 0 ln])),some (.ints r.2)] false:=by
 refine ot Tryz.func69 fun B N=>?_
 revert r;apply gO;exact lN E5 [0,1] ((xy B N c q pos ln lost n) _ _ · n Nat.le.refl)
end Go.Proofs.YtgkhhfnhacibcaaGreatDoor
namespace Go.Proofs.YtgkhhfnhacibcaaGreatDoor
open Go.RowKit
set_option maxRecDepth 100000
set_option maxHeartbeats 40000000
def lx (n:Nat) (NU:Int):Option Unit:=
 some ()
def ly (n:Nat) (NU:Int):Option Unit:=lx n NU
theorem lw {n:Nat} (NU:Int) {r:Unit} (h:ly n NU=some r):EQ 79 [.i NU] [] (.fn 110 1 (L1 [.ref 0 0])) [some (.cells [.i NU])] true:=by
 refine ot Tryz.func79 fun B N=>?_
 revert r;apply gO;exact lE AE [2] [0]
theorem JB {x:Int} (hx:0<=x/\ x<9223372036854775808) (h:DH):EQ 79 [.i x] h (.it h.length) (h++[some (.iter ((BS x).map Br))]) true:=by
 refine ES.iterOf (lw (n:=0) x (r:=()) rfl) rfl (by kernel_rfl) (fun args W=>?_) (fun w b o u hg GK hb hc hr=>lu hx w b o u hg GK hb hc hr) rfl (fun b hb=>?_) h
 ·exact jL Tryz.func110 (by kernel_rfl) (by kernel_rfl) args W
 ·rw [hb];decide
def cE:ST:=.rd 0 (.rd 1 (.rd 2 (.rd 3 (.rd 4 (.rd 5 (.rd 6 (.rd 7 (.rd 8 (.rd 9 (.rd 10 (.rd 11 (.rd 12 (.rd 13 (.rd 14 (.rd 15 (.rd 16 (.rd 17 (.rd 18 (.rd 19 (.ef 20 (.ef 21 (.fin [] [4,5]) (.no)) (.no)))))))))))))))))))))
theorem nY:B6 (A8 Tryz.f101 4) [20] cE:=by unfold B6;kernel_rfl
def cD:ST:=.rd 0 (.rd 1 (.ef 2 (.ef 3 (.fin [] [4,5]) (.no)) (.no)))
theorem nX:B6 (A8 Tryz.f101 5) [2] cD:=by unfold B6;kernel_rfl
def TM:BV:=fun i=>match i with
 | 4=>.tre [20] cE
 | 5=>.tre [2] cD
 | _=>.no
def u9 (c:AB) (q:AA) (pos:List Int) (ln:Nat) (lost:List Int):DH:=[some (.cells (AG c++AD q++[.ints pos,.msl 1 1 0 ln])),some (.ints lost),some (.cells [.ref 0 0]),some (.cells [.i 100]),some (.cells [.i (-1)])]
def u7 (c:AB) (q:AA) (pos:List Int) (ln:Nat) (lost:List Int) (ss:Int):DH:=[some (.cells (AG c++AD q++[.ints pos,.msl 1 1 0 ln])),some (.ints lost),some (.cells [.ref 0 0]),some (.cells [.i 100]),some (.cells [.i (-1)]),some (.iter ((BS ss).map Br))]
def bk (c:AB) (q:AA) (pos:List Int) (ln:Nat) (lost:List Int) (DP DN:Int):St:=⟨(AL 32 [(4,.ref 3 0),(5,.ref 4 0)]),([some (.cells (AG c++AD q++[.ints pos,.msl 1 1 0 ln])),some (.ints lost),some (.cells [.ref 0 0]),some (.cells [.i DP]),some (.cells [.i DN]),none]:DH)⟩
def u6 (c:AB) (q:AA) (pos:List Int) (ln:Nat) (lost:List Int) (FO FN:Int):DH:=[some (.cells (AG c++AD q++[.ints pos,.msl 1 1 0 ln])),some (.ints lost),some (.cells [.ref 0 0]),some (.cells [.i FO]),some (.cells [.i FN]),none]
def bg (c:AB) (q:AA) (pos:List Int) (ln:Nat) (lost:List Int) (e8 FO FN:Int):St:=⟨(AL 32 [(4,.ref 3 0),(5,.ref 4 0)]),([some (.cells (AG c++AD q++[.ints pos,.msl 1 1 0 ln])),some (.ints lost),some (.cells [.ref 0 0]),some (.cells [.i (if (q.values.getD ((e8).toNat) 0)<FO then (q.values.getD ((e8).toNat) 0) else FO)]),some (.cells [.i (if (q.values.getD ((e8).toNat) 0)>FN then (q.values.getD ((e8).toNat) 0) else FN)]),none]:DH)⟩
inductive LA where
 | s0 (FO FN:Int)
def jR (c:AB) (q:AA) (pos:List Int) (ln:Nat) (lost:List Int):LA -> DH
 | .s0 FO FN=>[some (.cells (AG c++AD q++[.ints pos,.msl 1 1 0 ln])),some (.ints lost),some (.cells [.ref 0 0]),some (.cells [.i FO]),some (.cells [.i FN]),none]
def jQ (n:Nat) (c:AB) (q:AA) (pos:List Int) (ln:Nat) (lost:List Int) (e8:Int) (FO FN:Int):Option LA:=
 if 0<=e8/\ e8<(q.values.length:Int) then
  some (.s0 (if (q.values.getD ((e8).toNat) 0)<FO then (q.values.getD ((e8).toNat) 0) else FO) (if (q.values.getD ((e8).toNat) 0)>FN then (q.values.getD ((e8).toNat) 0) else FN))
 else none
def jP (n:Nat) (c:AB) (q:AA) (pos:List Int) (ln:Nat) (lost:List Int) (e8:Int):LA -> Option LA
 | .s0 FO FN=>jQ n c q pos ln lost e8 FO FN
def R7 (n:Nat) (c:AB) (q:AA) (pos:List Int) (ln:Nat) (lost:List Int) (e8:Int) (s:LA):Option LA:=jP n c q pos ln lost e8 s
theorem xT (n:Nat) (c:AB) (q:AA) (pos:List Int) (ln:Nat) (lost:List Int) (l B:Nat) (N:Yd 6) (e8:Int) (s:LA) (r:LA) (h:R7 n c q pos ln lost e8 s=some r):TA l B N (DL 6 [] 0 (jR c q pos ln lost r)) Tryz.f101 8 ⟨AL 32 [(2,.ref 2 0),(4,.ref 3 0),(5,.ref 4 0),(8,.it 5),(9,.i e8)],jR c q pos ln lost s⟩:=by
 cases s with
 | s0 FO FN=>
  refine ag TM [0,1,2,3,4,5] H0 (AL 32 [(2,.ref 2 0),(4,.ref 3 0),(5,.ref 4 0),(6,.i e8)]) (u6 c q pos ln lost FO FN) fun N=>?_
  revert r;apply gO;exact jg nY (gn fun kC=>jg kC (jg kC (jt (jt (jg (Eq.refl (bg c q pos ln lost e8 FO FN)) (lF fun p=>rr (tg:=[([(20,3)],(bg c q pos ln lost e8 FO FN))]) TM [0,1,2,3,4,5] rfl p))))))
def jO (n:Nat) (ss:Int) (c:AB) (q:AA) (pos:List Int) (ln:Nat) (lost:List Int):Option (Int×Int×(List Int)):=
 if 0<=ss/\ ss<9223372036854775808 then
  (By (R7 n c q pos ln lost) (BS ss) (.s0 100 (-1))).bind fun y1=>
   match y1 with
   | .s0 DP DN=>
    some (DP,DN,lost)
 else none
def R8 (n:Nat) (ss:Int) (c:AB) (q:AA) (pos:List Int) (ln:Nat) (lost:List Int):Option (Int×Int×(List Int)):=jO n ss c q pos ln lost
theorem Ox {n:Nat} {ss:Int} {c:AB} {q:AA} {pos:List Int} {ln:Nat} {lost:List Int} {r:Int×Int×(List Int)} (h:R8 n ss c q pos ln lost=some r):EQ 101 [.ref 0 0,.i ss] [some (.cells (AG c++AD q++[.ints pos,.msl 1 1 0 ln])),some (.ints lost)] (.tup 2 (L1 [.i r.1,.i r.2.1])) [some (.cells (AG c++AD q++[.ints pos,.msl 1 1 0 ln])),some (.ints r.2.2)] false:=by
 refine ot Tryz.func101 fun B N=>?_
 revert r;apply gO
 exact jt (jt (gn fun g0=>jc (JB g0 (u9 c q pos ln lost)) (cn fun y1 A5=>fun p r h=>by
  refine gs TM [0,1,2,3,4,5] p (Gn (Aa Tryz.f101) 8 []) (AL 32 [(2,.ref 2 0),(4,.ref 3 0),(5,.ref 4 0),(8,.it 5)]) (u7 c q pos ln lost ss) ?_;refine r0 5 8 #[9] Br 6 A5 (xT n c q pos ln lost) ?_;cases y1 with
  | s0 DP DN=>
   dsimp only at h
   revert r;apply gO;exact jg nX (jt (jt (jg (Eq.refl (bk c q pos ln lost DP DN)) (lE (tg:=[([(2,3)],(bk c q pos ln lost DP DN))]) TM [4,5] [0,1,3,4])))))))
def br:ST:=.rd 0 (.rd 1 (.rd 2 (.rd 3 (.rd 4 (.rd 5 (.rd 6 (.rd 7 (.ef 8 (.rd 9 (.rd 10 (.rd 11 (.rd 12 (.rd 13 (.fin [] [1,3,4,7,8,19,20,21,90])))))) (.no)))))))))
theorem mg:B6 (A8 Tryz.f70 5) [] br:=by unfold B6;kernel_rfl
def bq:ST:=.rd 0 (.rd 1 (.rd 2 (.rd 3 (.rd 4 (.rd 5 (.ef 6 (.ef 7 (.fin [] [1,3,4,19,20,21,90]) (.no)) (.no)))))))
theorem mf:B6 (A8 Tryz.f70 6) [6] bq:=by unfold B6;kernel_rfl
theorem me:An (A8 Tryz.f70 8) [] (List.range 16) []:=by unfold An;kernel_rfl
def bu:ST:=.rd 0 (.rd 1 (.rd 2 (.rd 3 (.rd 4 (.rd 5 (.rd 6 (.rd 7 (.ef 8 (.rd 9 (.rd 10 (.rd 11 (.ef 12 (.ef 13 (.ef 14 (.ef 15 (.fin [0,1] [1,3,4,10,11,12,64,65,66,90]) (.no)) (.no)) (.no)) (.ef 13 (.ef 12 (.ef 14 (.ef 15 (.fin [1,0] [1,3,4,10,11,12,64,65,66,90]) (.no)) (.no)) (.no)) (.no)))))) (.ef 12 (.ef 8 (.rd 9 (.rd 10 (.rd 11 (.ef 13 (.ef 14 (.ef 15 (.fin [0,1] [1,3,4,10,11,12,64,65,66,90]) (.no)) (.no)) (.no))))) (.ef 13 (.ef 8 (.rd 9 (.rd 10 (.rd 11 (.ef 14 (.ef 15 (.fin [0,1] [1,3,4,10,11,12,64,65,66,90]) (.no)) (.no))))) (.no)) (.no))) (.ef 13 (.ef 8 (.rd 9 (.rd 10 (.rd 11 (.ef 12 (.ef 14 (.ef 15 (.fin [1,0] [1,3,4,10,11,12,64,65,66,90]) (.no)) (.no)) (.no))))) (.ef 12 (.ef 8 (.rd 9 (.rd 10 (.rd 11 (.ef 14 (.ef 15 (.fin [1,0] [1,3,4,10,11,12,64,65,66,90]) (.no)) (.no))))) (.no)) (.no))) (.no)))))))))))
theorem mj:B6 (A8 Tryz.f70 13) [12,13,14] bu:=by unfold B6;kernel_rfl
theorem mi:An (A8 Tryz.f70 14) [([0,1,2,3,4,5,6],7)] [] []:=by unfold An;kernel_rfl
theorem mh:An (A8 Tryz.f70 17) [] (List.range 24) []:=by unfold An;kernel_rfl
def bs:ST:=.rd 0 (.rd 1 (.rd 2 (.rd 3 (.ef 4 (.fin [] [2]) (.no)))))
theorem cq:B6 (A8 Tryz.f70 18) [] bs:=by unfold B6;kernel_rfl
def G7:BV:=fun i=>match i with
 | 5=>.tre [] br
 | 6=>.tre [6] bq
 | 8=>.ord [] (List.range 16) []
 | 13=>.tre [12,13,14] bu
 | 14=>.ord [([0,1,2,3,4,5,6],7)] [] []
 | 17=>.ord [] (List.range 24) []
 | 18=>.tre [] bs
 | _=>.no
def uA (c:AB) (q:AA) (pos:List Int) (ln:Nat) (o1:List Int) (AP Ab:Int):DH:=[some (.cells (AG c++AD q++[.ints pos,.msl 1 1 0 ln])),some (.ints o1),some (.cells [.ref 0 0]),some (.cells [.i AP]),some (.cells [.i Ab])]
def bT (y1:Int×Int×(List Int)) (c:AB) (x21:Int) (q:AA) (pos:List Int) (ln:Nat) (AP Ab:Int):St:=⟨(AL 129 [(1,.ref 2 0),(3,.ref 3 0),(4,.ref 4 0),(7,.i y1.1),(8,.i y1.2.1),(19,.ints c.cells),(20,.i (c.cells.length:Int)),(21,.i x21)]),([some (.cells (AG c++AD q++[.ints pos,.msl 1 1 0 ln])),some (.ints y1.2.2),some (.cells [.ref 0 0]),some (.cells [.i AP]),some (.cells [.i Ab])]:DH)⟩
def bS (c:AB) (x21:Int) (q:AA) (pos:List Int) (ln:Nat) (y1:Int×Int×(List Int)) (AP Ab:Int):St:=⟨(AL 129 [(1,.ref 2 0),(3,.ref 3 0),(4,.ref 4 0),(19,.ints c.cells),(20,.i (c.cells.length:Int)),(21,.i x21)]),([some (.cells (AG c++AD q++[.ints pos,.msl 1 1 0 ln])),some (.ints y1.2.2),some (.cells [.ref 0 0]),some (.cells [.i (AP+y1.1)]),some (.cells [.i (Ab+y1.2.1)])]:DH)⟩
def t8 (c:AB) (q:AA) (pos:List Int) (ln:Nat) (o1:List Int) (AP Ab AZ:Int):DH:=[some (.cells (AG c++AD q++[.ints pos,.msl 1 1 0 ln])),some (.ints o1),some (.cells [.ref 0 0]),some (.cells [.i AP]),some (.cells [.i Ab]),some (.cells [.i (c.cells.getD ((AZ).toNat) 0)])]
def LY (c:AB) (AZ:Int) (q:AA) (pos:List Int) (ln:Nat) (y1:Int×Int×(List Int)) (AP Ab:Int):St:=⟨(AL 129 [(1,.ref 2 0),(3,.ref 3 0),(4,.ref 4 0),(10,.ref 5 0),(11,.ref 6 0),(12,.ref 7 0),(64,.ints c.cells),(65,.i (c.cells.length:Int)),(66,.i AZ)]),([some (.cells (AG c++AD q++[.ints pos,.msl 1 1 0 ln])),some (.ints y1.2.2),some (.cells [.ref 0 0]),some (.cells [.i AP]),some (.cells [.i Ab]),some (.cells [.i (c.cells.getD ((AZ).toNat) 0)]),some (.cells [.i y1.1]),some (.cells [.i y1.2.1])]:DH)⟩
def gZ (c:AB) (q:AA) (pos:List Int) (ln:Nat) (o1:List Int) (AP Ab AZ:Int):DH:=[some (.cells (AG c++AD q++[.ints pos,.msl 1 1 0 ln])),some (.ints o1),some (.cells [.ref 0 0]),some (.cells [.i AP]),some (.cells [.i Ab]),some (.cells [.i (c.cells.getD ((AZ).toNat) 0)]),some (.cells [.i 0])]
def gY (c:AB) (q:AA) (pos:List Int) (ln:Nat) (o1:List Int) (AP Ab AZ:Int):DH:=[some (.cells (AG c++AD q++[.ints pos,.msl 1 1 0 ln])),some (.ints o1),some (.cells [.ref 0 0]),some (.cells [.i AP]),some (.cells [.i Ab]),some (.cells [.i (c.cells.getD ((AZ).toNat) 0)]),some (.cells [.i 0]),some (.cells [.i 0])]
def t7 (c:AB) (q:AA) (pos:List Int) (ln:Nat) (y1:Int×Int×(List Int)) (AP Ab AZ:Int):DH:=[some (.cells (AG c++AD q++[.ints pos,.msl 1 1 0 ln])),some (.ints y1.2.2),some (.cells [.ref 0 0]),some (.cells [.i AP]),some (.cells [.i Ab]),some (.cells [.i (c.cells.getD ((AZ).toNat) 0)]),some (.cells [.i y1.1]),some (.cells [.i y1.2.1])]
def t6 (c:AB) (q:AA) (pos:List Int) (ln:Nat) (y1:Int×Int×(List Int)) (AP Ab AZ:Int):DH:=[some (.cells (AG c++AD q++[.ints pos,.msl 1 1 0 ln])),some (.ints y1.2.2),some (.cells [.ref 0 0]),some (.cells [.i AP]),some (.cells [.i Ab]),some (.cells [.i (c.cells.getD ((AZ).toNat) 0)]),some (.cells [.i y1.1]),some (.cells [.i y1.2.1]),some (.iter ((BS (pos.getD ((c.cells.getD ((AZ).toNat) 0).toNat) 0)).map Br))]
def Yt (c:AB) (q:AA) (pos:List Int) (ln:Nat) (Fn:List Int) (AP Ab AZ:Int) (y1:Int×Int×(List Int)):DH:=[some (.cells (AG c++AD q++[.ints pos,.msl 1 1 0 ln])),some (.ints Fn),some (.cells [.ref 0 0]),some (.cells [.i AP]),some (.cells [.i Ab]),some (.cells [.i (c.cells.getD ((AZ).toNat) 0)]),some (.cells [.i y1.1]),some (.cells [.i y1.2.1]),none]
def S7 (c:AB) (q:AA) (pos:List Int) (ln:Nat) (IR:(List Int)) (AP Ab AZ:Int) (y1:Int×Int×(List Int)):St:=⟨(AL 129 []),([some (.cells (AG c++AD q++[.ints pos,.msl 1 1 0 ln])),some (.ints IR),some (.cells [.ref 0 0]),some (.cells [.i AP]),some (.cells [.i Ab]),some (.cells [.i (c.cells.getD ((AZ).toNat) 0)]),some (.cells [.i y1.1]),some (.cells [.i y1.2.1]),none]:DH)⟩
inductive JC where
 | s0 (Fn:List Int)
def cJ (c:AB) (AZ:Int) (q:AA) (pos:List Int) (ln:Nat) (AP Ab:Int) (y1:Int×Int×(List Int)):JC -> DH
 | .s0 Fn=>[some (.cells (AG c++AD q++[.ints pos,.msl 1 1 0 ln])),some (.ints Fn),some (.cells [.ref 0 0]),some (.cells [.i AP]),some (.cells [.i Ab]),some (.cells [.i (c.cells.getD ((AZ).toNat) 0)]),some (.cells [.i y1.1]),some (.cells [.i y1.2.1]),none]
def TE (n:Nat) (c:AB) (AZ:Int) (q:AA) (pos:List Int) (ln:Nat) (AP Ab:Int) (y1:Int×Int×(List Int)) (EE:Int) (Fn:List Int):Option JC:=
 if (0<=EE/\ EE<(q.values.length:Int))/\ AH (AP-y1.1)/\ AH ((AP-y1.1)+(q.values.getD ((EE).toNat) 0)) then
  bif (decide (((AP-y1.1)+(q.values.getD ((EE).toNat) 0))>c.hi)) then
   if 0<=EE/\ EE<=(IntKind.i64.bits:Int) then
    (C4 n (c.cells.getD ((AZ).toNat) 0) (IntKind.i64.wrap (1*2 ^ (EE).toNat)) c q pos ln Fn).bind fun IR=>
     some (.s0 IR)
   else none
  else
   if AH (Ab-y1.2.1)/\ AH ((Ab-y1.2.1)+(q.values.getD ((EE).toNat) 0)) then
    bif (decide (((Ab-y1.2.1)+(q.values.getD ((EE).toNat) 0))<c.lo)) then
     if 0<=EE/\ EE<=(IntKind.i64.bits:Int) then
      (C4 n (c.cells.getD ((AZ).toNat) 0) (IntKind.i64.wrap (1*2 ^ (EE).toNat)) c q pos ln Fn).bind fun IR=>
       some (.s0 IR)
     else none
    else
     some (.s0 Fn)
   else none
 else none
def cI (n:Nat) (c:AB) (AZ:Int) (q:AA) (pos:List Int) (ln:Nat) (AP Ab:Int) (y1:Int×Int×(List Int)) (EE:Int):JC -> Option JC
 | .s0 Fn=>TE n c AZ q pos ln AP Ab y1 EE Fn
def TF (n:Nat) (c:AB) (AZ:Int) (q:AA) (pos:List Int) (ln:Nat) (AP Ab:Int) (y1:Int×Int×(List Int)) (EE:Int) (s:JC):Option JC:=cI n c AZ q pos ln AP Ab y1 EE s
theorem mF (n:Nat) (c:AB) (AZ:Int) (q:AA) (pos:List Int) (ln:Nat) (AP Ab:Int) (y1:Int×Int×(List Int)) (l B:Nat) (N:Yd 9) (EE:Int) (s:JC) (r:JC) (h:TF n c AZ q pos ln AP Ab y1 EE s=some r):TA l B N (DL 9 [] 0 (cJ c AZ q pos ln AP Ab y1 r)) Tryz.f70 89 ⟨AL 129 [(1,.ref 2 0),(3,.ref 3 0),(4,.ref 4 0),(10,.ref 5 0),(11,.ref 6 0),(12,.ref 7 0),(64,.ints c.cells),(65,.i (c.cells.length:Int)),(66,.i AZ),(89,.it 8),(90,.i EE)],cJ c AZ q pos ln AP Ab y1 s⟩:=by
 cases s with
 | s0 Fn=>
  replace h:TE n c AZ q pos ln AP Ab y1 EE Fn=some r:=h;unfold TE at h;refine ag G7 [0,1,2,3,4,5,6,7,8] H0 (AL 129 [(1,.ref 2 0),(3,.ref 3 0),(4,.ref 4 0),(10,.ref 5 0),(11,.ref 6 0),(12,.ref 7 0),(13,.i EE)]) (Yt c q pos ln Fn AP Ab AZ y1) fun N=>?_
  revert r;apply gO;exact gc (gi (jg mh (gc (gw 101 (gw 103 (bi 109 (jg cq (gi (ce FS [0,1] (Yt c q pos ln Fn AP Ab AZ y1) fun IR=>jg (Eq.refl (S7 c q pos ln IR AP Ab AZ y1)) (lF fun p=>rr (tg:=[([],(S7 c q pos ln IR AP Ab AZ y1))]) G7 [0,1,2,3,4,5,6,7,8] rfl p)))) (gc (gw 113 (gw 115 (bi 121 (jg cq (gi (ce FS [0,1] (Yt c q pos ln Fn AP Ab AZ y1) fun IR=>jg (Eq.refl (S7 c q pos ln IR AP Ab AZ y1)) (lF fun p=>rr (tg:=[([],(S7 c q pos ln IR AP Ab AZ y1))]) G7 [0,1,2,3,4,5,6,7,8] rfl p)))) (lF fun p=>rr G7 [0,1,2,3,4,5,6,7,8] rfl p)))))))))))
inductive Ph where
 | l1 (x21:Int) (o1:List Int) (AP Ab:Int)
 | l2 (AZ:Int) (o1:List Int) (AP Ab:Int)
def Pg (n:Nat) (self:Ph -> Option (Bool×(List Int))) (c:AB) (q:AA) (pos:List Int) (ln:Nat) (lost:List Int) (x21:Int) (o1:List Int) (AP Ab:Int):Option (Bool×(List Int)):=
 bif (decide (x21<(c.cells.length:Int))) then
  if (0<=x21/\ x21<(c.cells.length:Int))/\ (0<=(c.cells.getD ((x21).toNat) 0)/\ (c.cells.getD ((x21).toNat) 0)<(pos.length:Int)) then
   (R8 n (pos.getD ((c.cells.getD ((x21).toNat) 0).toNat) 0) c q pos ln o1).bind fun y1=>
    if AH (AP+y1.1)/\ AH (Ab+y1.2.1)/\ AH (x21+1) then
     self (.l1 (x21+1) y1.2.2 (AP+y1.1) (Ab+y1.2.1))
    else none
  else none
 else
  bif (decide (AP>c.hi)) then
   some (false,o1)
  else
   bif (decide (Ab<c.lo)) then
    some (false,o1)
   else
    self (.l2 0 o1 AP Ab)
def Pf (n:Nat) (self:Ph -> Option (Bool×(List Int))) (c:AB) (q:AA) (pos:List Int) (ln:Nat) (lost:List Int) (AZ:Int) (o1:List Int) (AP Ab:Int):Option (Bool×(List Int)):=
 bif (decide (AZ<(c.cells.length:Int))) then
  if (0<=AZ/\ AZ<(c.cells.length:Int))/\ (0<=(c.cells.getD ((AZ).toNat) 0)/\ (c.cells.getD ((AZ).toNat) 0)<(pos.length:Int)) then
   (R8 n (pos.getD ((c.cells.getD ((AZ).toNat) 0).toNat) 0) c q pos ln o1).bind fun y1=>
    if 0<=(pos.getD ((c.cells.getD ((AZ).toNat) 0).toNat) 0)/\ (pos.getD ((c.cells.getD ((AZ).toNat) 0).toNat) 0)<9223372036854775808 then
     (By (TF n c AZ q pos ln AP Ab y1) (BS (pos.getD ((c.cells.getD ((AZ).toNat) 0).toNat) 0)) (.s0 y1.2.2)).bind fun y2=>
      match y2 with
      | .s0 J9=>
       if AH (AZ+1) then
        self (.l2 (AZ+1) J9 AP Ab)
       else none
    else none
  else none
 else
  some (true,o1)
def mE (n:Nat) (self:Ph -> Option (Bool×(List Int))) (c:AB) (q:AA) (pos:List Int) (ln:Nat) (lost:List Int):Option (Bool×(List Int)):=
 self (.l1 0 lost 0 0)
def Hj (c:AB) (q:AA) (pos:List Int) (ln:Nat) (lost:List Int):Nat -> Ph -> Option (Bool×(List Int))
 | 0,_=>none
 | n+1,.l1 x21 o1 AP Ab=>Pg n (Hj c q pos ln lost n) c q pos ln lost x21 o1 AP Ab
 | n+1,.l2 AZ o1 AP Ab=>Pf n (Hj c q pos ln lost n) c q pos ln lost AZ o1 AP Ab
def NR (n:Nat) (c:AB) (q:AA) (pos:List Int) (ln:Nat) (lost:List Int):Option (Bool×(List Int)):=mE n (Hj c q pos ln lost n) c q pos ln lost
def mG (n B:Nat) (N:Yd 2) (c:AB) (q:AA) (pos:List Int) (ln:Nat) (lost:List Int) (r:Bool×(List Int)):Ph -> Prop
 | .l1 x21 o1 AP Ab=>∀ m0:Nat,n<=m0 -> TW B N (FQ Tryz.f70 2 (.bool r.1) [some (.cells (AG c++AD q++[.ints pos,.msl 1 1 0 ln])),some (.ints r.2)]) (Ak m0 (Ap (Aa Tryz.f70) 0 [])) ⟨AL 129 [(1,.ref 2 0),(3,.ref 3 0),(4,.ref 4 0),(19,.ints c.cells),(20,.i (c.cells.length:Int)),(21,.i x21)],[some (.cells (AG c++AD q++[.ints pos,.msl 1 1 0 ln])),some (.ints o1),some (.cells [.ref 0 0]),some (.cells [.i AP]),some (.cells [.i Ab])]⟩
 | .l2 AZ o1 AP Ab=>∀ m0:Nat,n<=m0 -> TW B N (FQ Tryz.f70 2 (.bool r.1) [some (.cells (AG c++AD q++[.ints pos,.msl 1 1 0 ln])),some (.ints r.2)]) (Ak m0 (Ap (Aa Tryz.f70) 2 [])) ⟨AL 129 [(1,.ref 2 0),(3,.ref 3 0),(4,.ref 4 0),(64,.ints c.cells),(65,.i (c.cells.length:Int)),(66,.i AZ)],[some (.cells (AG c++AD q++[.ints pos,.msl 1 1 0 ln])),some (.ints o1),some (.cells [.ref 0 0]),some (.cells [.i AP]),some (.cells [.i Ab])]⟩
theorem mH (B:Nat) (N:Yd 2) (c:AB) (q:AA) (pos:List Int) (ln:Nat) (lost:List Int):Al (Hj c q pos ln lost) (mG · B N c q pos ln lost):=ia (fun _=>rfl) fun n AF pt r h=>by
 cases pt
 case l1 x21 o1 AP Ab=>
  intro m0 AC;refine rd AC fun m0 AC=>?_
  revert r;apply gO;exact bi 22 (gc (gi (jg mg (gi (ce Ox [0,1] (uA c q pos ln o1 AP Ab) fun y1=>jg (Eq.refl (bT y1 c x21 q pos ln AP Ab)) (jg mf (gc (gw 39 (gc (gw 42 (jt (jt (jg (Eq.refl (bS c x21 q pos ln y1 AP Ab)) (gw 43 (lG (tg:=[([],(bT y1 c x21 q pos ln AP Ab)),([(6,3)],(bS c x21 q pos ln y1 AP Ab))]) G7 [0,1,2,3,4] (AF _ _ · m0 AC)))))))))))))))) (jg me (bi 50 (lE G7 [2] [0,1]) (bi 58 (lE G7 [2] [0,1]) (lN G7 [0,1,2,3,4] (AF _ _ · n Nat.le.refl)))))
 case l2 AZ o1 AP Ab=>
  intro m0 AC;refine rd AC fun m0 AC=>?_
  revert r;apply gO
  exact bi 67 (gc (gi (jt (jg mj (gn fun g1=>jg g1 (cn fun y1 A5=>jc (em (Ox A5) [0,1] (t8 c q pos ln o1 AP Ab AZ)) (jt (jt (jg (Eq.refl (LY c AZ q pos ln y1 AP Ab)) (jt (jt (jg (Eq.refl (LY c AZ q pos ln y1 AP Ab)) (jc (em (Ox A5) [0,1] (gZ c q pos ln o1 AP Ab AZ)) (jt (jt (jg (Eq.refl (LY c AZ q pos ln y1 AP Ab)) (jc (em (Ox A5) [0,1] (gY c q pos ln o1 AP Ab AZ)) (jt (jt (jg (Eq.refl (LY c AZ q pos ln y1 AP Ab)) (jc (em (Ox A5) [0,1] (gZ c q pos ln o1 AP Ab AZ)) (jt (jt (jg (Eq.refl (LY c AZ q pos ln y1 AP Ab)) (jc (em (Ox A5) [0,1] (gY c q pos ln o1 AP Ab AZ)) (jt (jt (jg (Eq.refl (LY c AZ q pos ln y1 AP Ab)) (jg mi (jg g1 (gn fun g2=>jc (JB g2 (t7 c q pos ln y1 AP Ab AZ)) (cn fun y2 CQ=>fun p r h=>by
   refine gs (tg:=[([],(LY c AZ q pos ln y1 AP Ab))]) G7 [0,1,2,3,4,5,6,7,8] p (Gn (Aa Tryz.f70) 89 [m0]) (AL 129 [(1,.ref 2 0),(3,.ref 3 0),(4,.ref 4 0),(10,.ref 5 0),(11,.ref 6 0),(12,.ref 7 0),(64,.ints c.cells),(65,.i (c.cells.length:Int)),(66,.i AZ),(89,.it 8)]) (t6 c q pos ln y1 AP Ab AZ) ?_;refine r0 8 89 #[90] Br 9 CQ (mF n c AZ q pos ln AP Ab y1) ?_;cases y2 with
   | s0 J9=>
    dsimp only at h
    revert r;apply gO;exact gw 128 (lG G7 [0,1,2,3,4] (AF _ _ · m0 AC)))))))))))))))))))))))))))))))))) (lE G7 [2] [0,1])
theorem mD {n:Nat} {c:AB} {q:AA} {pos:List Int} {ln:Nat} {lost:List Int} {r:Bool×(List Int)} (h:NR n c q pos ln lost=some r):EQ 70 [.ref 0 0] [some (.cells (AG c++AD q++[.ints pos,.msl 1 1 0 ln])),some (.ints lost)] (.bool r.1) [some (.cells (AG c++AD q++[.ints pos,.msl 1 1 0 ln])),some (.ints r.2)] false:=by
 refine ot Tryz.func70 fun B N=>?_
 revert r;apply gO;exact jt (jt (lN G7 [0,1,2,3,4] ((mH B N c q pos ln lost n) _ _ · n Nat.le.refl)))
end Go.Proofs.YtgkhhfnhacibcaaGreatDoor
